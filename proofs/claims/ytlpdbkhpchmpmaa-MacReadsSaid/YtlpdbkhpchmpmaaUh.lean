/-
  The reference's Unhex.
-/
import Derived.Test.YtlpdbkhpchmpmaaFd
namespace Go.Proofs.Ytlpdbkhpchmpmaa
open Go.RowKit
set_option linter.unusedVariables false
set_option maxRecDepth 100000
set_option maxHeartbeats 4000000

theorem ustep4_lo (al out : List UInt8) (c : UInt8) (m : Nat) (hm : Lib.indexByte al c = m) : ustep 4 al (some (0, 0, out)) c = some (m, 4, out) := by
  unfold ustep
  simp only
  rw [if_neg (by rw [hm]; omega), if_neg (by omega), hm]
  simp
theorem ustep4_hi (al out : List UInt8) (c : UInt8) (x m : Nat) (hm : Lib.indexByte al c = m) : ustep 4 al (some (x, 4, out)) c = some (0, 0, out ++ [UInt8.ofNat (16 * x + m)]) := by
  unfold ustep
  simp only
  rw [if_neg (by rw [hm]; omega), if_pos (by omega), hm]
  simp [Nat.mod_one, Nat.mul_comm]
theorem ustep_bad (w : Nat) (al : List UInt8) (st : Option (Nat × Nat × List UInt8)) (c : UInt8) (hm : Lib.indexByte al c = -1) : ustep w al st c = none := by
  cases st with
  | none => rfl
  | some st =>
    unfold ustep
    simp only
    rw [if_pos (by rw [hm]; decide)]
theorem unhex_bad (l : List UInt8) (k : Nat) (h : ufold 4 hexAl (l.take k) = none) : unhexL l = none := by
  unfold unhexL ungroupedL
  rw [ufold_none_take _ _ _ _ h]
  simp

theorem refUnhex_any (s : ByteArray) (w : World) (hlen : s.size ≤ 140737488351232) :
    Calls Try.prog 32 #[.string s] w fun e w' => e = .returned (.tuple #[.string (strOf ((unhexL s.data.toList).getD [])), .bool (unhexL s.data.toList).isSome]) ∧ Below w.heap.size w w' := by
  have hl : s.data.toList.length = s.size := by simp
  have s0 : (0 : Int) ≤ (s.size : Int) := by omega
  by_cases hev : s.size % 2 = 0
  case neg =>
    have e : unhexL s.data.toList = none := by
      unfold unhexL
      rw [if_neg (by rw [hl]; exact hev)]
    rw [e]
    clear e
    have hm : (s.size : Int) % 2 = 1 := by omega
    clear hl
    go_enter Try.func32, Try.ntmps32
    go_wp2
    go_ret2
    exact ⟨rfl, Below.refl _ _⟩
  case pos =>
  obtain ⟨l, HL⟩ : ∃ l, Hid (s.data.toList = l) := ⟨_, Lib.hid rfl⟩
  rw [HL.out] at hl ⊢
  have HLS := Lib.hid hl; clear hl
  obtain ⟨n2, hn2⟩ : ∃ n, s.size = 2 * n := ⟨s.size / 2, by omega⟩
  have HF := Lib.hid (fun c w => refFind_any ⟨#[48, 49, 50, 51, 52, 53, 54, 55, 56, 57, 97, 98, 99, 100, 101, 102]⟩ c w (by decide))
  rw [show (⟨#[48, 49, 50, 51, 52, 53, 54, 55, 56, 57, 97, 98, 99, 100, 101, 102]⟩ : ByteArray).data.toList = hexAl from rfl] at HF
  have hm0 : (s.size : Int) % 2 = 0 := by omega
  have l1 : (s.size : Int) ≤ 140737488351232 := by omega
  obtain ⟨U, HU⟩ : ∃ U, Hid (unhexL l = U) := ⟨_, Lib.hid rfl⟩
  have HAL : Hid (hexAl.length = 16) := Lib.hid rfl
  have HTK := Lib.hid (fun k h => ufold_take 4 hexAl l k h)
  have HBAD := Lib.hid (fun k h => unhex_bad l k h)
  have HSB := Lib.hid (fun st c h => ustep_bad 4 hexAl st c h)
  have HSL := Lib.hid (fun out c m h => ustep4_lo hexAl out c m h)
  have HSH := Lib.hid (fun out c x m h => ustep4_hi hexAl out c x m h)
  have HIX := Lib.hid (fun c => indexByte_cases hexAl c)
  have HEND : Hid (∀ out, ufold 4 hexAl l = some (0, 0, out) → U = some out) := by
    show ∀ out, _
    intro out h
    rw [← HU.out]
    unfold unhexL ungroupedL
    rw [if_pos (by rw [HLS.out]; exact hev), h]
    rfl
  rw [HU.out] at HBAD ⊢
  obtain ⟨a, HA⟩ : ∃ l, Hid (hexAl = l) := ⟨_, Lib.hid rfl⟩
  rw [HA.out] at HF HAL HTK HBAD HSB HSL HSH HIX HEND
  go_enter Try.func32, Try.ntmps32
  go_wp2
  go_loopw [4, 5] (fun b i wr => ∃ (k i0 : Nat) (out : List UInt8), k ≤ n2 ∧ i = .int .i64 (i0 : Int) ∧ Hid (i0 = 2 * k) ∧ Hid (ufold 4 a (l.take i0) = some (0, 0, out)) ∧ Hid (out.length = k) ∧
      OwnB wr w.heap.size b out ∧ Below w.heap.size w wr) (fun _ i _ => s.size - (intOf i).toNat)
  case atStart => exact ⟨0, 0, [], by omega, rfl, Lib.hid rfl, by show _ = _; rw [List.take_zero, ufold_nil], Lib.hid rfl, OwnB.nil _ _, Below.refl _ _⟩
  case round =>
    obtain ⟨k, i0, out, hk, rfl, HI0, HO, HOL, hB, hnx⟩ := hrel
    have hi0 := HI0.out
    have hsz := hnx.size
    by_cases hlt : k < n2
    · obtain ⟨c, HC⟩ : ∃ c, Hid (l.getD i0 0 = c) := ⟨_, Lib.hid rfl⟩
      obtain ⟨d, HD⟩ : ∃ c, Hid (l.getD (i0 + 1) 0 = c) := ⟨_, Lib.hid rfl⟩
      have hil : i0 < s.size := by omega
      have hil2 : i0 + 1 < s.size := by omega
      have hsk : s[i0] = c := by
        rw [← HC.out, ← HL.out, List.getD_eq_getElem?_getD, List.getElem?_eq_getElem (by simpa using hil), Option.getD_some]
        rfl
      have hsk2 : s[i0 + 1] = d := by
        rw [← HD.out, ← HL.out, List.getD_eq_getElem?_getD, List.getElem?_eq_getElem (by simpa using hil2), Option.getD_some]
        rfl
      have HT1 : Hid (ufold 4 a (l.take (i0 + 1)) = ustep 4 a (some (0, 0, out)) c) := by
        show _ = _
        rw [HTK.out _ (by rw [HLS.out]; exact hil), HO.out, HC.out]
      have HT2 : Hid (ufold 4 a (l.take (i0 + 2)) = ustep 4 a (ustep 4 a (some (0, 0, out)) c) d) := by
        show _ = _
        rw [HTK.out (i0 + 1) (by rw [HLS.out]; exact hil2), HT1.out, HD.out]
      have i00 : (0 : Int) ≤ (i0 : Int) := by omega
      have i01 : (i0 : Int) ≤ 140737488351232 := by omega
      have HF1 : Hid (∀ w, Calls Try.prog 46 #[.string ⟨#[48, 49, 50, 51, 52, 53, 54, 55, 56, 57, 97, 98, 99, 100, 101, 102]⟩, .int .u8 (c.toNat : Int)] w fun e w' => e = .returned (.int .i64 (Lib.indexByte a c)) ∧ w' = w) := HF.out c
      have HF2 : Hid (∀ w, Calls Try.prog 46 #[.string ⟨#[48, 49, 50, 51, 52, 53, 54, 55, 56, 57, 97, 98, 99, 100, 101, 102]⟩, .int .u8 (d.toNat : Int)] w fun e w' => e = .returned (.int .i64 (Lib.indexByte a d)) ∧ w' = w) := HF.out d
      have hc256 : (c.toNat : Int) < 256 := by have := c.toNat_lt; omega
      have hd256 : (d.toNat : Int) < 256 := by have := d.toNat_lt; omega
      clear hi0
      have hilI : (i0 : Int) < (s.size : Int) := by omega
      have hilI2 : (i0 : Int) + 1 < (s.size : Int) := by omega
      rcases HIX.out c with hx | ⟨m, hx, hm, _⟩
      · have HN : Hid (U = none) := by
          show _ = _
          rw [HBAD.out (i0 + 1) (by rw [HT1.out]; exact HSB.out _ _ hx)]
        rw [hx] at HF1
        obtain ⟨Y, HY⟩ : ∃ Y, Hid (Lib.indexByte a d = Y) := ⟨_, Lib.hid rfl⟩
        rw [HY.out] at HF2
        clear hx
        refine hide_post fun R HR => ?_
        go_wp2
        refine wp_region_quiet (C := fun w' => ∃ n, w' = wr.drewN n) (by kernel_rfl) (by kernel_rfl) ⟨1, rfl⟩ ?_
        dsimp only
        repeat (first | go_big_quiet_step (first | with_reducible exact Calls.quiet_of_same (HF1.out _) | with_reducible exact Calls.quiet_of_same (HF2.out _)) | quiet_step (fail))
        refine wpQuiet_nil ?_
        intro _ hw'; obtain ⟨nq, hw''⟩ := hw'; subst hw''
        go_wp2
        obtain rfl := HR.out
        go_ret2
        refine ⟨?_, below_drewN hnx nq⟩
        rw [HN.out]
        rfl
      · rw [HAL.out] at hm
        have hST1 := HSL.out out c m hx
        rw [hx] at HF1
        have m0 : (0 : Int) ≤ (m : Int) := by omega
        have m1 : (m : Int) < 16 := by omega
        clear hx hm
        rcases HIX.out d with hy | ⟨n, hy, hn, _⟩
        · have HN : Hid (U = none) := by
            show _ = _
            rw [HBAD.out (i0 + 2) (by rw [HT2.out]; exact HSB.out _ _ hy)]
          rw [hy] at HF2
          clear hy hST1
          refine hide_post fun R HR => ?_
          go_wp2
          refine wp_region_quiet (C := fun w' => ∃ n, w' = wr.drewN n) (by kernel_rfl) (by kernel_rfl) ⟨1, rfl⟩ ?_
          dsimp only
          repeat (first | go_big_quiet_step (first | with_reducible exact Calls.quiet_of_same (HF1.out _) | with_reducible exact Calls.quiet_of_same (HF2.out _)) | quiet_step (fail))
          refine wpQuiet_nil ?_
          intro _ hw'; obtain ⟨nq, hw''⟩ := hw'; subst hw''
          go_wp2
          obtain rfl := HR.out
          go_ret2
          refine ⟨?_, below_drewN hnx nq⟩
          rw [HN.out]
          rfl
        · rw [HAL.out] at hn
          have HST2 : Hid (ufold 4 a (l.take (i0 + 2)) = some (0, 0, out ++ [UInt8.ofNat (16 * m + n)])) := by
            show _ = _
            rw [HT2.out, hST1, HSH.out out d m n hy]
          rw [hy] at HF2
          have n0 : (0 : Int) ≤ (n : Int) := by omega
          have n1 : (n : Int) < 16 := by omega
          clear hy hST1 hn
          obtain ⟨v, HV⟩ : ∃ v, Hid (16 * m + n = v) := ⟨_, Lib.hid rfl⟩
          rw [HV.out] at HST2
          have hvI : 16 * (m : Int) + (n : Int) = (v : Int) := by have := HV.out; omega
          have v1 : v < 256 := by have := HV.out; omega
          obtain ⟨ch, HCH⟩ : ∃ x, Hid (UInt8.ofNat v = x) := ⟨_, Lib.hid rfl⟩
          have hchv : (v : Int) = (ch.toNat : Int) := by
            rw [← HCH.out, UInt8.toNat_ofNat', Nat.mod_eq_of_lt v1]
          rw [HCH.out] at HST2
          rw [hchv] at hvI
          have ch1 : (ch.toNat : Int) < 256 := by have := ch.toNat_lt; omega
          have ch0 : (0 : Int) ≤ (ch.toNat : Int) := by omega
          clear hchv v1
          refine hide_post fun R HR => ?_
          go_wp2
          refine wp_region_quiet (C := fun w' => ∃ n, w' = wr.drewN n) (by kernel_rfl) (by kernel_rfl) ⟨1, rfl⟩ ?_
          dsimp only
          repeat (first | go_big_quiet_step (first | with_reducible exact Calls.quiet_of_same (HF1.out _) | with_reducible exact Calls.quiet_of_same (HF2.out _)) | quiet_step (fail))
          refine wpQuiet_nil ?_
          intro _ hw'; obtain ⟨nq, hw''⟩ := hw'; subst hw''
          have hnxq := below_drewN hnx nq
          have hBq := hB.drewN nq
          have hszq : w.heap.size ≤ (wr.drewN nq).heap.size := hsz
          obtain ⟨wq, HWQ⟩ : ∃ wq, Hid (wr.drewN nq = wq) := ⟨_, Lib.hid rfl⟩
          rw [HWQ.out] at hnxq hBq hszq ⊢
          clear hB hnx hsz
          go_wp2_with (at_builtin; refine wpList_append_B _ rfl _ _ rfl w.heap.size _ _ rfl (hBq.alloc _) ⟨wq.heap.size, 0, none⟩ 1 1 [ch] rfl rfl (news_one _ _ _ rfl) ?c2 ?c3 ?_)
          case c2 => have := HOL.out; omega
          case c3 => first | omega | exact Nat.le_trans hszq (by simp) | (simp; omega)
          intro v1 w1 hB1 hg1
          have hnx1 : Below w.heap.size w w1 := (hnxq.alloc hszq _).grown hg1 (by simp; omega) (fun j hj => (hBq.lt j hj).1)
          clear hg1 hBq hnxq
          go_wp2
          obtain rfl := HR.out
          go_roundw
          case rel => exact ⟨k + 1, i0 + 2, out ++ [ch], hlt, by go_num, by have := HI0.out; show _ = _; omega, HST2, by have := HOL.out; show _ = _; rw [List.length_append, this]; rfl, hB1, hnx1⟩
          case measure => simp [intOf]; omega
    · obtain rfl : k = n2 := by omega
      obtain rfl : i0 = s.size := by omega
      clear hi0
      have HTL : Hid (l.take s.size = l) := by show _ = _; rw [← HLS.out, List.take_length]
      rw [HTL.out] at HO
      have HE : Hid (U = some out) := HEND.out out HO.out
      obtain ⟨p1, cap1, rfl⟩ := hB.form
      have hconv := run_string_B wr _ _ _ hB
      refine hide_post fun R HR => ?_
      go_wp2
      obtain rfl := HR.out
      go_ret2
      refine ⟨?_, hnx⟩
      rw [HE.out]
      rfl
end Go.Proofs.Ytlpdbkhpchmpmaa
