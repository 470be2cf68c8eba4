/-
  mac.ungrouped: the bytes whose groups a text is.
-/
import Derived.Test.YtlpdbkhpchmpmaaV
namespace Go.Proofs.Ytlpdbkhpchmpmaa
open Go.RowKit
set_option linter.unusedVariables false
set_option maxRecDepth 100000
set_option maxHeartbeats 4000000

/-! ### the plain law -/
def ustep (w : Nat) (al : List UInt8) : Option (Nat × Nat × List UInt8) → UInt8 → Option (Nat × Nat × List UInt8)
  | none, _ => none
  | some (now, hv, out), c =>
    if Lib.indexByte al c < 0 then none
    else if 8 ≤ hv + w then some ((now * 2 ^ w + (Lib.indexByte al c).toNat) % 2 ^ (hv + w - 8), hv + w - 8, out ++ [UInt8.ofNat ((now * 2 ^ w + (Lib.indexByte al c).toNat) / 2 ^ (hv + w - 8))])
    else some (now * 2 ^ w + (Lib.indexByte al c).toNat, hv + w, out)
def ufold (w : Nat) (al l : List UInt8) : Option (Nat × Nat × List UInt8) := l.foldl (ustep w al) (some (0, 0, []))
def ungroupedL (w : Nat) (al l : List UInt8) : Option (List UInt8) :=
  match ufold w al l with
  | none => none
  | some (now, hv, out) => if w ≤ hv ∨ now ≠ 0 then none else some out
theorem ufold_snoc (w : Nat) (al l : List UInt8) (c : UInt8) : ufold w al (l ++ [c]) = ustep w al (ufold w al l) c := by simp [ufold]
theorem ufold_nil (w : Nat) (al : List UInt8) : ufold w al [] = some (0, 0, []) := rfl
theorem ufold_take (w : Nat) (al l : List UInt8) (k : Nat) (h : k < l.length) : ufold w al (l.take (k + 1)) = ustep w al (ufold w al (l.take k)) (l.getD k 0) := by
  rw [List.take_succ_eq_append_getElem h, ufold_snoc]
  simp [h]
theorem ufold_none (w : Nat) (al l r : List UInt8) (h : ufold w al l = none) : ufold w al (l ++ r) = none := by
  unfold ufold at h ⊢
  rw [List.foldl_append, h]
  induction r with
  | nil => rfl
  | cons c r ih => exact ih
theorem ufold_none_take (w : Nat) (al l : List UInt8) (k : Nat) (h : ufold w al (l.take k) = none) : ufold w al l = none := by
  have := ufold_none w al (l.take k) (l.drop k) h
  rwa [List.take_append_drop] at this
theorem indexByte_cases (al : List UInt8) (c : UInt8) : Lib.indexByte al c = -1 ∨ ∃ m : Nat, Lib.indexByte al c = m ∧ m < al.length ∧ al.getD m 0 = c := by
  induction al with
  | nil => exact .inl rfl
  | cons b l ih =>
    unfold Lib.indexByte
    by_cases hb : (b == c) = true
    · rw [if_pos hb]
      exact .inr ⟨0, rfl, by simp, by simpa using hb⟩
    · rw [if_neg hb]
      rcases ih with h | ⟨m, h, hm, hg⟩
      · rw [h]
        exact .inl rfl
      · rw [h, if_neg (by simp)]
        exact .inr ⟨m + 1, by simp, by simpa using hm, by simpa using hg⟩
attribute [irreducible] ufold

theorem ungrouped_any (s al : ByteArray) (wd : Nat) (w : World) (hw1 : 1 ≤ wd) (hw2 : wd ≤ 6) (hal : al.size = 2 ^ wd) (hlen : s.size ≤ 140737488351232) :
    Calls Try.prog 44 #[.string s, .int .i64 wd, .string al] w fun e w' => e = .returned (.tuple #[.string (strOf ((ungroupedL wd al.data.toList s.data.toList).getD [])), .bool (ungroupedL wd al.data.toList s.data.toList).isSome]) ∧ Below w.heap.size w w' := by
  have hl : s.data.toList.length = s.size := by simp
  obtain ⟨l, HL⟩ : ∃ l, Hid (s.data.toList = l) := ⟨_, Lib.hid rfl⟩
  have hIB := Lib.hid (fun c w => Try.strings_IndexByte al c w)
  have hall : al.data.toList.length = 2 ^ wd := by simp [hal]
  obtain ⟨a, HA⟩ : ∃ l, Hid (al.data.toList = l) := ⟨_, Lib.hid rfl⟩
  rw [HL.out] at hl ⊢
  rw [HA.out] at hIB hall ⊢
  have HLS := Lib.hid hl; clear hl
  have HAL := Lib.hid hall; clear hall hal
  have w1 : (1 : Int) ≤ (wd : Int) := by omega
  have w2 : (wd : Int) ≤ 6 := by omega
  have l0 : (0 : Int) ≤ (s.size : Int) := by omega
  have l1 : (s.size : Int) ≤ 140737488351232 := by omega
  have HPW : Hid (2 ^ wd ≤ 64) := by show _ ≤ 2 ^ 6; exact Nat.pow_le_pow_right (by decide) hw2
  go_enter Try.func44, Try.ntmps44
  go_wp2
  have hb0 := Lib.fresh_isBuilder 57 5 w
  go_loopw [9, 10, 15] (fun v h i wr => ∃ (k now hv : Nat) (out : List UInt8), k ≤ s.size ∧ i = .int .i64 k ∧ v = .int .i64 (now : Nat) ∧ h = .int .i64 (hv : Nat) ∧ Hid (ufold wd a (l.take k) = some (now, hv, out)) ∧
      hv < 8 ∧ now < 2 ^ hv ∧ out.length ≤ k ∧ Lib.IsBuilder 57 5 w.heap.size w.heap.size (Lib.byteCells out) wr ∧ Below w.heap.size w wr) (fun _ _ i _ => s.size - (intOf i).toNat)
  case atStart => exact ⟨0, 0, 0, [], by omega, rfl, rfl, rfl, by show _ = _; rw [List.take_zero, ufold_nil], by omega, by decide, by simp, hb0, (Below.refl _ _).alloc (Nat.le_refl _) _⟩
  case round =>
    clear hb0
    obtain ⟨k, now, hv, out, hk, rfl, rfl, rfl, HU, hh8, hnow, hol, hB, hnx⟩ := hrel
    have hsz := hnx.size
    by_cases hlt : k < s.size
    · obtain ⟨c, HC⟩ : ∃ c, Hid (l.getD k 0 = c) := ⟨_, Lib.hid rfl⟩
      have hsk : s[k] = c := by
        rw [← HC.out, ← HL.out, List.getD_eq_getElem?_getD, List.getElem?_eq_getElem (by simpa using hlt), Option.getD_some]
        rfl
      have HI : Hid (∀ w, Calls Try.prog 56 #[.string al, .int .u8 (c.toNat : Int)] w fun e w' => e = .returned (.int .i64 (Lib.indexByte a c)) ∧ w' = w) := by
        show ∀ w, _
        intro w
        have h := hIB.out (c.toNat : Int) w
        rwa [show ((c.toNat : Int)).toNat.toUInt8 = c by simp] at h
      have HST : Hid (ufold wd a (l.take (k + 1)) = ustep wd a (some (now, hv, out)) c) := by
        show _ = _
        rw [ufold_take _ _ _ _ (by rw [HLS.out]; exact hlt), HU.out, HC.out]
      rcases indexByte_cases a c with hneg | ⟨m, hm, hml, _⟩
      · have HN : Hid (ungroupedL wd a l = none) := by
          show _ = _
          unfold ungroupedL
          rw [ufold_none_take wd a l (k + 1) (by rw [HST.out]; unfold ustep; simp only; rw [if_pos (by rw [hneg]; decide)])]
        rw [hneg] at HI
        clear hneg
        refine hide_post fun R HR => ?_
        go_wp2_with fail
        refine (HI.out _).mono ?_
        rintro e w2 ⟨rfl, rfl⟩
        go_wp2
        obtain rfl := HR.out
        go_ret2
        refine ⟨?_, hnx⟩
        rw [HN.out]
        rfl
      · obtain ⟨x, HX⟩ : ∃ x, Hid (now * 2 ^ wd = x) := ⟨_, Lib.hid rfl⟩
        obtain ⟨h2, HH⟩ : ∃ x, Hid (hv + wd = x) := ⟨_, Lib.hid rfl⟩
        rw [HAL.out] at hml
        have hy : x + m < 2 ^ h2 := by
          rw [← HX.out, ← HH.out, Nat.pow_add]
          have h1 : now + 1 ≤ 2 ^ hv := hnow
          have h3 : (now + 1) * 2 ^ wd ≤ 2 ^ hv * 2 ^ wd := Nat.mul_le_mul_right _ h1
          rw [Nat.add_mul, Nat.one_mul] at h3
          omega
        have hh13 : h2 ≤ 13 := by have := HH.out; omega
        have hy13 : x + m < 8192 := Nat.lt_of_lt_of_le hy (Nat.le_trans (Nat.pow_le_pow_right (by decide) hh13) (by decide))
        have hshl : (now : Int) * 2 ^ wd = (x : Int) := by rw [← HX.out]; simp
        have hadd : (hv : Int) + (wd : Int) = (h2 : Int) := by have := HH.out; omega
        have HU2 : Hid (ufold wd a (l.take (k + 1)) = if 8 ≤ h2 then some ((x + m) % 2 ^ (h2 - 8), h2 - 8, out ++ [UInt8.ofNat ((x + m) / 2 ^ (h2 - 8))]) else some (x + m, h2, out)) := by
          show _ = _
          rw [HST.out]
          unfold ustep
          simp only
          rw [if_neg (by rw [hm]; omega), hm, HX.out, HH.out]
          rfl
        have hor : bits .or .i64 (x : Int) (m : Int) = ((x + m : Nat) : Int) := by
          rw [i64_or_nat _ _ (by omega) (by omega), ← HX.out]
          congr 1
          have := Nat.shiftLeft_add_eq_or_of_lt hml now
          rw [Nat.shiftLeft_eq] at this
          exact this.symm
        rw [hm] at HI
        have x0 : (0 : Int) ≤ (x : Int) := by omega
        have x1 : (x : Int) < 8192 := by omega
        have m0 : (0 : Int) ≤ (m : Int) := by omega
        have h0 : (0 : Int) ≤ (h2 : Int) := by omega
        have h1 : (h2 : Int) ≤ 13 := by omega
        have nn0 : (0 : Int) ≤ (now : Int) := by omega
        obtain ⟨y, HY⟩ : ∃ y, Hid (x + m = y) := ⟨_, Lib.hid rfl⟩
        rw [HY.out] at hor hy hy13 HU2
        have y0 : (0 : Int) ≤ (y : Int) := by omega
        have y1 : (y : Int) < 8192 := by omega
        clear hm hml HST hnow HU
        by_cases h8 : 8 ≤ h2
        · obtain ⟨d, hd⟩ : ∃ d, h2 = d + 8 := ⟨h2 - 8, by omega⟩
          have hU3 := HU2.out
          rw [if_pos h8, show h2 - 8 = d by omega] at hU3
          have hmask := and_mask' y d (by omega) (by omega)
          have hq : y / 2 ^ d < 256 := by
            rw [Nat.div_lt_iff_lt_mul (Nat.pow_pos (by decide))]
            rw [hd, Nat.pow_add, Nat.mul_comm] at hy
            exact hy
          obtain ⟨q, HQ⟩ : ∃ q, Hid (y / 2 ^ d = q) := ⟨_, Lib.hid rfl⟩
          have hqI : (y : Int) / 2 ^ d = (q : Int) := by rw [← HQ.out]; simp
          rw [HQ.out] at hq hU3
          have hsub : (h2 : Int) - 8 = (d : Int) := by omega
          have d0 : (0 : Int) ≤ (d : Int) := by omega
          have d1 : (d : Int) ≤ 5 := by omega
          have q0 : (0 : Int) ≤ (q : Int) := by omega
          have q1 : (q : Int) < 256 := by omega
          have h8I : (8 : Int) ≤ (h2 : Int) := by omega
          have hcells : Hid (Lib.byteCells out ++ [Value.int .u8 (q : Int)] = Lib.byteCells (out ++ [UInt8.ofNat q])) := by
            show _ = _
            have e := byte_of (q : Int) q0 q1
            simp only [Int.toNat_natCast] at e
            simp [Lib.byteCells, ← e]
          have HLN : Hid ((Lib.byteCells out).length + 1 ≤ 140737488355328) := by show _ ≤ _; simp only [Lib.byteCells, List.length_map]; omega
          have HU3 := Lib.hid hU3; clear hU3
          have HD := Lib.hid hd; clear hd hy
          refine hide_post fun R HR => ?_
          go_wp2_with fail
          refine (HI.out _).mono ?_
          rintro e w2 ⟨rfl, rfl⟩
          go_wp2_with fail
          refine (WriteByte_any w.heap.size w.heap.size _ (q : Int) _ hB HLN.out hsz).mono ?_
          rintro e w2 ⟨rfl, hB2, hb2⟩
          rw [hcells.out] at hB2
          have hnx2 := hnx.trans hb2
          clear hB hb2 hnx
          go_wp2
          obtain rfl := HR.out
          go_roundw
          case rel => exact ⟨k + 1, _, d, _, hlt, by go_num, rfl, rfl, HU3, by omega, Nat.mod_lt _ (Nat.pow_pos (by decide)), by simp; omega, .inr hB2, hnx2⟩
          case measure => simp [intOf]; omega
        · have hU3 := HU2.out
          rw [if_neg h8] at hU3
          have HU3 := Lib.hid hU3; clear hU3
          have h8I : ¬ (8 : Int) ≤ (h2 : Int) := by omega
          refine hide_post fun R HR => ?_
          go_wp2_with fail
          refine (HI.out _).mono ?_
          rintro e w2 ⟨rfl, rfl⟩
          go_wp2
          obtain rfl := HR.out
          go_roundw
          case rel => exact ⟨k + 1, y, h2, out, hlt, by go_num, rfl, rfl, HU3, by omega, hy, by omega, hB, hnx⟩
          case measure => simp [intOf]; omega
    · obtain rfl : k = s.size := by omega
      clear hlt hk
      have HTL : Hid (l.take s.size = l) := by show _ = _; rw [← HLS.out, List.take_length]
      rw [HTL.out] at HU
      by_cases hbad : wd ≤ hv ∨ now ≠ 0
      · have HN : Hid (ungroupedL wd a l = none) := by
          show _ = _
          unfold ungroupedL
          rw [HU.out]
          simp only
          rw [if_pos hbad]
        by_cases hge : wd ≤ hv
        · have hgI : (wd : Int) ≤ (hv : Int) := by omega
          refine hide_post fun R HR => ?_
          go_wp2
          obtain rfl := HR.out
          go_ret2
          refine ⟨?_, hnx⟩
          rw [HN.out]
          rfl
        · have hgI : ¬ (wd : Int) ≤ (hv : Int) := by omega
          have hnI : ((now : Int) != 0) = true := by rw [bne_iff_ne]; omega
          refine hide_post fun R HR => ?_
          go_wp2
          obtain rfl := HR.out
          go_ret2
          refine ⟨?_, hnx⟩
          rw [HN.out]
          rfl
      · obtain rfl : now = 0 := by omega
        have HN : Hid (ungroupedL wd a l = some out) := by
          show _ = _
          unfold ungroupedL
          rw [HU.out]
          simp only
          rw [if_neg hbad]
        have hgI : ¬ (wd : Int) ≤ (hv : Int) := by omega
        have hS := Lib.hid (Try.Builder_String_any w.heap.size w.heap.size out wr hB hsz)
        refine hide_post fun R HR => ?_
        go_wp2_with fail
        refine hS.out.mono ?_
        rintro e w3 ⟨rfl, hb3⟩
        go_wp2
        obtain rfl := HR.out
        go_ret2
        refine ⟨?_, hnx.trans hb3⟩
        rw [HN.out]
        rfl
end Go.Proofs.Ytlpdbkhpchmpmaa
