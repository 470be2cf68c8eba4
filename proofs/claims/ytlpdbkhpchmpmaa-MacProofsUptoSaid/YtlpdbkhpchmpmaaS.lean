/-
  The chains of mac and of the reference; Equal.
-/
import Derived.Test.YtlpdbkhpchmpmaaR
namespace Go.Proofs.Ytlpdbkhpchmpmaa
open Go.RowKit
set_option linter.unusedVariables false
set_option maxRecDepth 100000
set_option maxHeartbeats 2000000

/-! ### the chains -/
def chainOf (h e : List UInt8) : List UInt8 := sha (h ++ be8 (e.length : Int) ++ e)
theorem chain_parts (head entry : ByteArray) (h1 : head.size ≤ 1048576) (h2 : entry.size ≤ 1048576) : ∃ N X Y R : ByteArray,
    Hid (N = strOf (be8 (entry.size : Int))) ∧ N.size = 8 ∧ ¬ 9223372036854775807 < head.size + 8 ∧ head ++ N = X ∧ X.size = head.size + 8 ∧ ¬ 9223372036854775807 < head.size + 8 + entry.size ∧ X ++ entry = Y ∧
    Hid (Y.size ≤ 2097160) ∧ Hid (R = strOf (sha Y.data.toList)) ∧ Hid (R = strOf (chainOf head.data.toList entry.data.toList)) := by
  have hN : (strOf (be8 (entry.size : Int))).size = 8 := by rw [strOf_size, be8_length]
  refine ⟨_, _, _, _, Lib.hid rfl, hN, by omega, rfl, by rw [ByteArray.size_append, hN], by omega, rfl, Lib.hid ?_, Lib.hid rfl, Lib.hid ?_⟩
  · rw [ByteArray.size_append, ByteArray.size_append, hN]
    omega
  · unfold chainOf
    congr 2

theorem macChain_any (head entry : ByteArray) (w : World) (h1 : head.size ≤ 1048576) (h2 : entry.size ≤ 1048576) :
    Calls Try.prog 21 #[.string head, .string entry] w fun e w' => e = .returned (.string (strOf (chainOf head.data.toList entry.data.toList))) ∧ Below w.heap.size w w' := by
  obtain ⟨N, X, Y, R, HN, s1, s2, s3, s4, s5, s6, HY, HR, HE⟩ := chain_parts head entry h1 h2
  have C1 := Lib.hid (fun w => macNumber_any (entry.size : Int) w (by omega) (by omega))
  have C2 := Lib.hid (fun w => macSum_any Y w (by have := HY.out; omega))
  rw [← HN.out] at C1
  rw [← HR.out] at C2
  rw [← HE.out]
  have e0 : (0 : Int) ≤ (entry.size : Int) := by omega
  have e1 : (entry.size : Int) ≤ 1048576 := by omega
  go_enter Try.func21, Try.ntmps21
  go_wp2_with fail
  refine (C1.out _).mono ?_
  rintro e w1 ⟨rfl, hb1⟩
  go_wp2_with fail
  refine (C2.out _).mono ?_
  rintro e w2 ⟨rfl, hb2⟩
  have hbf := hb1.trans (hb2.mono hb1.size)
  go_wp2
  go_ret
  exact ⟨rfl, hbf⟩

theorem refChain_any (head entry : ByteArray) (w : World) (h1 : head.size ≤ 1048576) (h2 : entry.size ≤ 1048576) :
    Calls Try.prog 22 #[.string head, .string entry] w fun e w' => e = .returned (.string (strOf (chainOf head.data.toList entry.data.toList))) ∧ Below w.heap.size w w' := by
  obtain ⟨N, X, Y, R, HN, s1, s2, s3, s4, s5, s6, HY, HR, HE⟩ := chain_parts head entry h1 h2
  have C1 := Lib.hid (fun w => refNumber_any (entry.size : Int) w (by omega) (by omega))
  have C2 := Lib.hid (fun w => refSum_any Y w (by have := HY.out; omega))
  rw [← HN.out] at C1
  rw [← HR.out] at C2
  rw [← HE.out]
  have e0 : (0 : Int) ≤ (entry.size : Int) := by omega
  have e1 : (entry.size : Int) ≤ 1048576 := by omega
  go_enter Try.func22, Try.ntmps22
  go_wp2_with fail
  refine (C1.out _).mono ?_
  rintro e w1 ⟨rfl, hb1⟩
  go_wp2_with fail
  refine (C2.out _).mono ?_
  rintro e w2 ⟨rfl, hb2⟩
  have hbf := hb1.trans (hb2.mono hb1.size)
  go_wp2
  go_ret
  exact ⟨rfl, hbf⟩

/-! ### Equal -/
theorem ofInt_u8 (a : Nat) (h : a < 256) : (BitVec.ofInt 8 (a : Int)).toNat = a := by
  rw [BitVec.toNat_ofInt]
  omega
theorem u8_or_nat (a b : Nat) (ha : a < 256) (hb : b < 256) : bits .or .u8 (a : Int) (b : Int) = ((a ||| b : Nat) : Int) := by
  have hx : a ||| b < 2 ^ 8 := Nat.or_lt_two_pow (by omega) (by omega)
  show IntKind.u8.wrap ((BitVec.ofInt 8 (a : Int) ||| BitVec.ofInt 8 (b : Int)).toNat : Int) = _
  rw [BitVec.toNat_or, ofInt_u8 a ha, ofInt_u8 b hb, IntKind.wrap_u8]
  omega
theorem u8_xor_nat (a b : Nat) (ha : a < 256) (hb : b < 256) : bits .xor .u8 (a : Int) (b : Int) = ((a ^^^ b : Nat) : Int) := by
  have hx : a ^^^ b < 2 ^ 8 := Nat.xor_lt_two_pow (by omega) (by omega)
  show IntKind.u8.wrap ((BitVec.ofInt 8 (a : Int) ^^^ BitVec.ofInt 8 (b : Int)).toNat : Int) = _
  rw [BitVec.toNat_xor, ofInt_u8 a ha, ofInt_u8 b hb, IntKind.wrap_u8]
  omega
theorem u8_within (op : BinOp) (a b : Int) : 0 ≤ bits op .u8 a b ∧ bits op .u8 a b < 256 := by
  have h := bits_within op .u8 a b
  simp only [IntKind.min, IntKind.max, IntKind.signed, IntKind.bits] at h
  exact ⟨by simpa using h.1, by have := h.2; simp at this; omega⟩
theorem apart_step (v : Int) (c d : UInt8) (h0 : 0 ≤ v) (h1 : v < 256) : bits .or .u8 v (bits .xor .u8 (c.toNat : Int) (d.toNat : Int)) = 0 ↔ v = 0 ∧ c = d := by
  obtain ⟨n, rfl⟩ : ∃ n : Nat, v = n := ⟨v.toNat, by omega⟩
  have hc := c.toNat_lt
  have hd := d.toNat_lt
  have hx : c.toNat ^^^ d.toNat < 2 ^ 8 := Nat.xor_lt_two_pow (by omega) (by omega)
  rw [u8_xor_nat _ _ (by omega) (by omega), u8_or_nat _ _ (by omega) (by omega), ← UInt8.toNat_inj]
  have e1 : (n ||| (c.toNat ^^^ d.toNat)) = 0 ↔ n = 0 ∧ (c.toNat ^^^ d.toNat) = 0 := Nat.or_eq_zero_iff
  have e2 : (c.toNat ^^^ d.toNat) = 0 ↔ c.toNat = d.toNat := by
    constructor
    · intro h
      have e := Nat.xor_assoc c.toNat d.toNat d.toNat
      rw [h, Nat.xor_self, Nat.zero_xor, Nat.xor_zero] at e
      exact e.symm
    · intro h
      rw [h]
      exact Nat.xor_self _
  rw [← e2]
  omega

theorem Equal_any (a b : ByteArray) (w : World) (hlen : a.size ≤ 140737488355328) :
    Calls Try.prog 23 #[.string a, .string b] w fun e w' => e = .returned (.bool (decide (a = b))) ∧ Below w.heap.size w w' := by
  have a0 : (0 : Int) ≤ (a.size : Int) := by omega
  have a1 : (a.size : Int) ≤ 140737488355328 := by omega
  by_cases hsz : a.size = b.size
  · have HSZ := Lib.hid hsz
    have HE : Hid ((a = b) ↔ a.data.toList.take a.size = b.data.toList.take a.size) := by
      show _ ↔ _
      rw [List.take_of_length_le (by simp), List.take_of_length_le (by simp [hsz])]
      constructor
      · rintro rfl; rfl
      · intro h; exact ByteArray.ext (Array.toList_inj.1 h)
    go_enter Try.func23, Try.ntmps23
    go_wp2
    go_loopw [5, 14] (fun v i wr => ∃ (k : Nat) (x : Int), k ≤ a.size ∧ i = .int .i64 k ∧ v = .int .u8 x ∧ 0 ≤ x ∧ x < 256 ∧ Hid (x = 0 ↔ a.data.toList.take k = b.data.toList.take k) ∧ Below w.heap.size w wr) (fun _ i _ => a.size - (intOf i).toNat)
    case atStart => exact ⟨0, 0, by omega, rfl, rfl, by omega, by omega, by show _ ↔ _; simp, Below.refl _ _⟩
    case round =>
      obtain ⟨k, x, hk, rfl, rfl, x0, x1, HX, hnx⟩ := hrel
      by_cases hlt : k < a.size
      · have hltb : k < b.size := by omega
        obtain ⟨c, HC⟩ : ∃ c, Hid (a.data.toList.getD k 0 = c) := ⟨_, Lib.hid rfl⟩
        obtain ⟨d, HD⟩ : ∃ c, Hid (b.data.toList.getD k 0 = c) := ⟨_, Lib.hid rfl⟩
        have hak : a[k] = c := by
          rw [← HC.out, List.getD_eq_getElem?_getD, List.getElem?_eq_getElem (by simpa using hlt), Option.getD_some]
          rfl
        have hbk : b[k] = d := by
          rw [← HD.out, List.getD_eq_getElem?_getD, List.getElem?_eq_getElem (by simpa using hltb), Option.getD_some]
          rfl
        refine hide_post fun R HR => ?_
        go_wp2
        refine wp_region_quiet (C := fun w' => ∃ x : Later wr, w' = x.val) (by kernel_rfl) (by kernel_rfl) (later_drew wr) ?_
        dsimp only
        repeat (first | go_big_quiet_step (fail) | quiet_step (fail))
        refine wpQuiet_nil ?_
        intro w2 hx
        have hw2 : Below wr.heap.size wr w2 := by
          obtain ⟨x, rfl⟩ := hx
          exact x.property
        clear hx
        go_wp2
        obtain rfl := HR.out
        go_roundw
        case rel =>
          refine ⟨k + 1, bits .or .u8 x (bits .xor .u8 (c.toNat : Int) (d.toNat : Int)), by omega, by go_num, rfl, (u8_within _ _ _).1, (u8_within _ _ _).2, ?_, hnx.trans (hw2.mono hnx.size)⟩
          show _ ↔ _
          rw [apart_step x c d x0 x1, HX.out, List.take_succ_eq_append_getElem (by simpa using hlt), List.take_succ_eq_append_getElem (by simpa using hltb)]
          have ec : a.data.toList[k]'(by simpa using hlt) = c := by
            rw [← HC.out, List.getD_eq_getElem?_getD, List.getElem?_eq_getElem (by simpa using hlt), Option.getD_some]
          have ed : b.data.toList[k]'(by simpa using hltb) = d := by
            rw [← HD.out, List.getD_eq_getElem?_getD, List.getElem?_eq_getElem (by simpa using hltb), Option.getD_some]
          rw [ec, ed]
          constructor
          · rintro ⟨h1, h2⟩; rw [h1, h2]
          · intro h
            have h := List.append_inj h (by simp; omega)
            exact ⟨h.1, by simpa using h.2⟩
        case measure => simp [intOf]; omega
      · obtain rfl : k = a.size := by omega
        clear hlt hk
        go_wp2
        go_ret
        refine ⟨?_, hnx⟩
        show Ending.returned (Value.bool (x == 0)) = _
        rw [show (x == 0) = decide (a = b) by rw [Bool.eq_iff_iff]; simp only [beq_iff_eq, decide_eq_true_eq]; rw [HX.out, HE.out]]
  · go_enter Try.func23, Try.ntmps23
    go_wp2
    go_ret
    refine ⟨?_, Below.refl _ _⟩
    show Ending.returned (Value.bool false) = _
    rw [decide_eq_false (by rintro rfl; exact hsz rfl)]
end Go.Proofs.Ytlpdbkhpchmpmaa
