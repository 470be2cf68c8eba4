/-
  The reference's Unbase64.
-/
import Derived.Test.YtlpdbkhpchmpmaaFd
import Derived.Test.YtlpdbkhpchmpmaaR
namespace Go.Proofs.Ytlpdbkhpchmpmaa
open Go.RowKit
set_option linter.unusedVariables false
set_option maxRecDepth 100000
set_option maxHeartbeats 4000000

theorem refUnbase64_any (s : ByteArray) (w : World) (hlen : s.size ≤ 140737488351232) :
    Calls Try.prog 33 #[.string s] w fun e w' => e = .returned (.tuple #[.string (strOf ((ungroupedL 6 b64Al s.data.toList).getD [])), .bool (ungroupedL 6 b64Al s.data.toList).isSome]) ∧ Below w.heap.size w w' := by
  have hl : s.data.toList.length = s.size := by simp
  have hsd : strOf s.data.toList = s := rfl
  obtain ⟨l, HL⟩ : ∃ l, Hid (s.data.toList = l) := ⟨_, Lib.hid rfl⟩
  rw [HL.out] at hl hsd ⊢
  have HSD := Lib.hid hsd; clear hsd
  have HF := Lib.hid (fun c w => refFind_any ⟨#[65, 66, 67, 68, 69, 70, 71, 72, 73, 74, 75, 76, 77, 78, 79, 80, 81, 82, 83, 84, 85, 86, 87, 88, 89, 90,
    97, 98, 99, 100, 101, 102, 103, 104, 105, 106, 107, 108, 109, 110, 111, 112, 113, 114, 115, 116, 117, 118, 119, 120, 121, 122, 48, 49, 50, 51, 52, 53, 54, 55, 56, 57, 45, 95]⟩ c w (by decide))
  rw [show (⟨#[65, 66, 67, 68, 69, 70, 71, 72, 73, 74, 75, 76, 77, 78, 79, 80, 81, 82, 83, 84, 85, 86, 87, 88, 89, 90,
    97, 98, 99, 100, 101, 102, 103, 104, 105, 106, 107, 108, 109, 110, 111, 112, 113, 114, 115, 116, 117, 118, 119, 120, 121, 122, 48, 49, 50, 51, 52, 53, 54, 55, 56, 57, 45, 95]⟩ : ByteArray).data.toList = b64Al from rfl] at HF
  have HB64 := Lib.hid (fun (o : List UInt8) (h : o.length ≤ 105553116263424) w => refBase64_any (strOf o) w (by rw [strOf_size]; exact h))
  have HGU := Lib.hid (fun now hv out h => groups_ufold 6 (.inr rfl) b64Al al_b64 l now hv out h)
  have HAL : Hid (b64Al.length = 64) := Lib.hid rfl
  have HIX := Lib.hid (fun c => indexByte_cases b64Al c)
  have HLS := Lib.hid hl; clear hl
  obtain ⟨a, HA⟩ : ∃ l, Hid (b64Al = l) := ⟨_, Lib.hid rfl⟩
  rw [HA.out] at HF HB64 HGU HAL HIX ⊢
  have HB64' : Hid (∀ (o : List UInt8) (h : o.length ≤ 105553116263424) w, Calls Try.prog 31 #[.string (strOf o)] w fun e w' => e = .returned (.string (strOf (groupsL 6 a o))) ∧ Below w.heap.size w w') := by
    show ∀ o, _
    intro o h w
    have := HB64.out o h w
    rwa [strOf_list] at this
  clear HB64
  have l0 : (0 : Int) ≤ (s.size : Int) := by omega
  have l1 : (s.size : Int) ≤ 140737488351232 := by omega
  go_enter Try.func33, Try.ntmps33
  go_wp2
  go_loopw [4, 5, 6, 7, 8] (fun b v h i _ wr => ∃ (k now hv : Nat) (out : List UInt8), k ≤ s.size ∧ i = .int .i64 k ∧ v = .int .i64 (now : Nat) ∧ h = .int .i64 (hv : Nat) ∧ Hid (ufold 6 a (l.take k) = some (now, hv, out)) ∧
      hv < 8 ∧ now < 2 ^ hv ∧ Hid (8 * out.length + hv = 6 * k) ∧ OwnB wr w.heap.size b out ∧ Below w.heap.size w wr) (fun _ _ _ i _ _ => s.size - (intOf i).toNat)
  case atStart => exact ⟨0, 0, 0, [], by omega, rfl, rfl, rfl, by show _ = _; rw [List.take_zero, ufold_nil], by omega, by decide, Lib.hid rfl, OwnB.nil _ _, Below.refl _ _⟩
  case round =>
    obtain ⟨k, now, hv, out, hk, rfl, rfl, rfl, HU, hh8, hnow, HOL, hB, hnx⟩ := hrel
    have hsz := hnx.size
    by_cases hlt : k < s.size
    · obtain ⟨c, HC⟩ : ∃ c, Hid (l.getD k 0 = c) := ⟨_, Lib.hid rfl⟩
      have hsk : s[k] = c := by
        rw [← HC.out, ← HL.out, List.getD_eq_getElem?_getD, List.getElem?_eq_getElem (by simpa using hlt), Option.getD_some]
        rfl
      have HI : Hid (∀ w, Calls Try.prog 46 #[.string ⟨#[65, 66, 67, 68, 69, 70, 71, 72, 73, 74, 75, 76, 77, 78, 79, 80, 81, 82, 83, 84, 85, 86, 87, 88, 89, 90,
    97, 98, 99, 100, 101, 102, 103, 104, 105, 106, 107, 108, 109, 110, 111, 112, 113, 114, 115, 116, 117, 118, 119, 120, 121, 122, 48, 49, 50, 51, 52, 53, 54, 55, 56, 57, 45, 95]⟩, .int .u8 (c.toNat : Int)] w fun e w' => e = .returned (.int .i64 (Lib.indexByte a c)) ∧ w' = w) := HF.out c
      have HST : Hid (ufold 6 a (l.take (k + 1)) = ustep 6 a (some (now, hv, out)) c) := by
        show _ = _
        rw [ufold_take _ _ _ _ (by rw [HLS.out]; exact hlt), HU.out, HC.out]
      rcases HIX.out c with hneg | ⟨m, hm, hml, _⟩
      · have HN : Hid (ungroupedL 6 a l = none) := by
          show _ = _
          unfold ungroupedL
          rw [ufold_none_take 6 a l (k + 1) (by rw [HST.out]; unfold ustep; simp only; rw [if_pos (by rw [hneg]; decide)])]
        rw [hneg] at HI
        clear hneg
        refine hide_post fun R HR => ?_
        go_wp2_with fail
        refine (HI.out _).mono ?_
        rintro e w2 ⟨rfl, rfl⟩
        go_wp2
        obtain rfl := HR.out
        go_ret2
        refine ⟨?_, hnx⟩
        rw [HN.out]
        rfl
      · obtain ⟨x, HX⟩ : ∃ x, Hid (now * 2 ^ 6 = x) := ⟨_, Lib.hid rfl⟩
        obtain ⟨h2, HH⟩ : ∃ x, Hid (hv + 6 = x) := ⟨_, Lib.hid rfl⟩
        rw [HAL.out] at hml
        have hy : x + m < 2 ^ h2 := by
          rw [← HX.out, ← HH.out, Nat.pow_add]
          have h1 : now + 1 ≤ 2 ^ hv := hnow
          have h3 : (now + 1) * 2 ^ 6 ≤ 2 ^ hv * 2 ^ 6 := Nat.mul_le_mul_right _ h1
          rw [Nat.add_mul, Nat.one_mul] at h3
          omega
        have hh13 : h2 ≤ 13 := by have := HH.out; omega
        have hy13 : x + m < 8192 := Nat.lt_of_lt_of_le hy (Nat.le_trans (Nat.pow_le_pow_right (by decide) hh13) (by decide))
        have hmul : (now : Int) * 64 = (x : Int) := by rw [← HX.out]; simp
        have hadd : (hv : Int) + 6 = (h2 : Int) := by have := HH.out; omega
        have HU2 : Hid (ufold 6 a (l.take (k + 1)) = if 8 ≤ h2 then some ((x + m) % 2 ^ (h2 - 8), h2 - 8, out ++ [UInt8.ofNat ((x + m) / 2 ^ (h2 - 8))]) else some (x + m, h2, out)) := by
          show _ = _
          rw [HST.out]
          unfold ustep
          simp only
          rw [if_neg (by rw [hm]; omega), hm, HX.out, HH.out]
          rfl
        rw [hm] at HI
        have x0 : (0 : Int) ≤ (x : Int) := by omega
        have x1 : (x : Int) < 8192 := by omega
        have m0 : (0 : Int) ≤ (m : Int) := by omega
        have m1 : (m : Int) < 64 := by omega
        have h0 : (0 : Int) ≤ (h2 : Int) := by omega
        have h1 : (h2 : Int) ≤ 13 := by omega
        have nn0 : (0 : Int) ≤ (now : Int) := by omega
        obtain ⟨y, HY⟩ : ∃ y, Hid (x + m = y) := ⟨_, Lib.hid rfl⟩
        have hxm : (x : Int) + (m : Int) = (y : Int) := by have := HY.out; omega
        rw [HY.out] at hy hy13 HU2
        have y0 : (0 : Int) ≤ (y : Int) := by omega
        have y1 : (y : Int) < 8192 := by omega
        have nn1 : (now : Int) < 128 := by have := HX.out; omega
        clear hm hml HST hnow HU
        by_cases h8 : 8 ≤ h2
        · obtain ⟨d, hd⟩ : ∃ d, h2 = d + 8 := ⟨h2 - 8, by omega⟩
          have hU3 := HU2.out
          rw [if_pos h8, show h2 - 8 = d by omega] at hU3
          have hmask := and_mask' y d (by omega) (by omega)
          have hq : y / 2 ^ d < 256 := by
            rw [Nat.div_lt_iff_lt_mul (Nat.pow_pos (by decide))]
            rw [hd, Nat.pow_add, Nat.mul_comm] at hy
            exact hy
          obtain ⟨q, HQ⟩ : ∃ q, Hid (y / 2 ^ d = q) := ⟨_, Lib.hid rfl⟩
          have hqI : (y : Int) / 2 ^ d = (q : Int) := by rw [← HQ.out]; simp
          rw [HQ.out] at hq hU3
          obtain ⟨ch, HCH⟩ : ∃ x, Hid (UInt8.ofNat q = x) := ⟨_, Lib.hid rfl⟩
          have hchv : (q : Int) = (ch.toNat : Int) := by
            rw [← HCH.out, UInt8.toNat_ofNat', Nat.mod_eq_of_lt hq]
          rw [HCH.out] at hU3
          rw [hchv] at hqI
          have ch1 : (ch.toNat : Int) < 256 := by have := ch.toNat_lt; omega
          have ch0 : (0 : Int) ≤ (ch.toNat : Int) := by omega
          have hsub : (h2 : Int) - 8 = (d : Int) := by omega
          have d0 : (0 : Int) ≤ (d : Int) := by omega
          have d1 : (d : Int) ≤ 5 := by omega
          have h8I : (8 : Int) ≤ (h2 : Int) := by omega
          have HU3 := Lib.hid hU3; clear hU3
          have HD := Lib.hid hd; clear hd hy hchv hq
          refine hide_post fun R HR => ?_
          go_wp2_with fail
          refine (HI.out _).mono ?_
          rintro e w2 ⟨rfl, rfl⟩
          go_wp2_with (at_builtin; refine wpList_append_B _ rfl _ _ rfl w.heap.size _ _ rfl (hB.alloc _) ⟨w2.heap.size, 0, none⟩ 1 1 [ch] rfl rfl (news_one _ _ _ rfl) ?c2 ?c3 ?_)
          case c2 => have := HOL.out; omega
          case c3 => first | omega | exact Nat.le_trans hsz (by simp) | (simp; omega)
          intro v1 w1 hB1 hg1
          have hnx1 : Below w.heap.size w w1 := (hnx.alloc hsz _).grown hg1 (by simp; omega) (fun j hj => (hB.lt j hj).1)
          clear hg1 hB hnx
          go_wp2
          obtain rfl := HR.out
          go_roundw
          case rel => exact ⟨k + 1, _, d, _, hlt, by go_num, rfl, rfl, HU3, by omega, Nat.mod_lt _ (Nat.pow_pos (by decide)), by have := HOL.out; have h9 := HH.out; have h10 := HD.out; show _ = _; rw [List.length_append, List.length_singleton]; omega, hB1, hnx1⟩
          case measure => simp [intOf]; omega
        · have hU3 := HU2.out
          rw [if_neg h8] at hU3
          have HU3 := Lib.hid hU3; clear hU3
          have h8I : ¬ (8 : Int) ≤ (h2 : Int) := by omega
          refine hide_post fun R HR => ?_
          go_wp2_with fail
          refine (HI.out _).mono ?_
          rintro e w2 ⟨rfl, rfl⟩
          go_wp2
          obtain rfl := HR.out
          go_roundw
          case rel => exact ⟨k + 1, y, h2, out, hlt, by go_num, rfl, rfl, HU3, by omega, hy, by have := HOL.out; have h9 := HH.out; show _ = _; omega, hB, hnx⟩
          case measure => simp [intOf]; omega
    · obtain rfl : k = s.size := by omega
      clear hlt hk
      have HTL : Hid (l.take s.size = l) := by show _ = _; rw [← HLS.out, List.take_length]
      rw [HTL.out] at HU
      have hgu := HGU.out _ _ _ HU.out
      have HBC := Lib.hid (HB64'.out out (by have := HOL.out; omega))
      obtain ⟨p1, cap1, rfl⟩ := hB.form
      have hconv := run_string_B wr _ _ _ hB
      by_cases hbad : 6 ≤ hv ∨ now ≠ 0
      · have HN : Hid (ungroupedL 6 a l = none) := by
          show _ = _
          unfold ungroupedL
          rw [HU.out]
          simp only
          rw [if_pos hbad]
        have hne : groupsL 6 a out ≠ l := fun h => hgu.1 h hbad
        obtain ⟨G, HG⟩ : ∃ G, Hid (strOf (groupsL 6 a out) = G) := ⟨_, Lib.hid rfl⟩
        have hGs : G ≠ s := by
          intro h
          rw [← HG.out, ← HSD.out] at h
          have := congrArg (fun b : ByteArray => b.data.toList) h
          simp only [strOf_list] at this
          exact hne this
        rw [HG.out] at HBC
        have hGb : (G.toList == s.toList) = false := by
          rw [Bool.eq_false_iff]
          simp only [ne_eq, beq_iff_eq, ByteArray.toList_eq]
          exact fun h => hGs (ByteArray.ext (Array.toList_inj.1 h))
        have hGd : decide (G.toList = s.toList) = false := by
          rw [← hGb, Bool.eq_iff_iff]
          simp only [beq_iff_eq, decide_eq_true_eq]
        clear hne hgu hbad
        refine hide_post fun R HR => ?_
        go_wp2_with fail
        refine (HBC.out _).mono ?_
        rintro e w2 ⟨rfl, hb2⟩
        have hnx2 := hnx.trans (hb2.mono hsz)
        go_wp2
        obtain rfl := HR.out
        go_ret2
        refine ⟨?_, hnx2⟩
        rw [HN.out]
        rfl
      · have HN : Hid (ungroupedL 6 a l = some out) := by
          show _ = _
          unfold ungroupedL
          rw [HU.out]
          simp only
          rw [if_neg hbad]
        have hG : strOf (groupsL 6 a out) = s := by rw [hgu.2 hbad]; exact HSD.out
        rw [hG] at HBC
        clear hgu hbad hG
        refine hide_post fun R HR => ?_
        go_wp2_with fail
        refine (HBC.out _).mono ?_
        rintro e w2 ⟨rfl, hb2⟩
        have hnx2 := hnx.trans (hb2.mono hsz)
        have hB2 := hB.below hb2
        have hconv2 := run_string_B w2 _ _ _ hB2
        go_wp2
        obtain rfl := HR.out
        go_ret2
        refine ⟨?_, hnx2⟩
        rw [HN.out]
        rfl
end Go.Proofs.Ytlpdbkhpchmpmaa
