/-
  Numbers as eight bytes: mac.number and atriumref04.Number answer the same text.
-/
import Derived.Test.YtlpdbkhpchmpmaaG
import Derived.Test.YtlpdbkhpchmpmaaQ
import Derived.Lib.BufferWrite
namespace Go.Proofs.Ytlpdbkhpchmpmaa
open Go.RowKit
set_option linter.unusedVariables false

def strOf (l : List UInt8) : ByteArray := ⟨l.toArray⟩
theorem strOf_size (l : List UInt8) : (strOf l).size = l.length := by simp [strOf, ByteArray.size]
/-- The byte of a number that has i bytes behind it. -/
def byteAt (n : Int) (i : Nat) : UInt8 := UInt8.ofNat (n / 256 ^ i % 256).toNat
def lastB (n : Int) (k : Nat) : List UInt8 := (List.range k).reverse.map (byteAt n)
def be8 (n : Int) : List UInt8 := lastB n 8
theorem lastB_length (n : Int) (k : Nat) : (lastB n k).length = k := by simp [lastB]
theorem lastB_succ (n : Int) (k : Nat) : lastB n (k + 1) = byteAt n k :: lastB n k := by
  simp [lastB, List.range_succ]
theorem be8_length (n : Int) : (be8 n).length = 8 := lastB_length n 8
theorem byteAt_val (n : Int) (i : Nat) : Value.int .u8 ((byteAt n i).toNat : Int) = .int .u8 (n / 256 ^ i % 256) :=
  byte_of _ (Int.emod_nonneg _ (by decide)) (Int.emod_lt_of_pos _ (by decide))
def numArr (n : Int) (k : Nat) : Array Value := (bcells (List.replicate (8 - k) 0 ++ lastB n k)).toArray
theorem numArr_size (n : Int) (k : Nat) (h : k ≤ 8) : (numArr n k).size = 8 := by simp [numArr, bcells, lastB_length]; omega
theorem numArr_some (n : Int) (k j : Nat) (h : k ≤ 8) (hj : j < 8) : ∃ v, (numArr n k)[j]? = some v := by
  rw [Array.getElem?_eq_getElem (by rw [numArr_size n k h]; exact hj)]
  exact ⟨_, rfl⟩
theorem numArr_succ (n : Int) (k : Nat) (h : k < 8) : (numArr n k).setIfInBounds (7 - k) (.int .u8 (n / 256 ^ k % 256)) = numArr n (k + 1) := by
  rw [← byteAt_val, numArr, numArr, lastB_succ]
  apply Array.toList_inj.1
  rw [Array.toList_setIfInBounds]
  have e : 8 - k = (7 - k) + 1 := by omega
  simp only [bcells]
  rw [show (fun c : UInt8 => Value.int .u8 (c.toNat : Int)) = (fun c : UInt8 => Value.int .u8 (c.toNat : Int)) from rfl]
  rw [← List.map_set, e, show 8 - (k + 1) = 7 - k by omega, List.replicate_succ']
  congr 1
  rw [List.append_assoc, List.set_append_right _ _ (by simp)]
  simp

/-- One new byte, as append(b, x) lays it. -/
theorem news_one (w : World) (c : UInt8) (x : Int) (h : Value.int .u8 x = .int .u8 (c.toNat : Int)) : ∀ j u, (bcells [c])[j]? = some u → (w.alloc (.cells #[.int .u8 x] 5)).cell? ((⟨w.heap.size, 0, none⟩ : Addr).add j) = some u := by
  intro j u hj
  match j, hj with
  | 0, hj =>
    simp [bcells] at hj
    subst hj
    rw [h]
    simp [Addr.add]

theorem zero73 : ∀ w : World, (zeroValue 73).run Try.prog w = .ok (.agg (numArr 0 0)) w := fun w => by kernel_rfl
theorem numArr_zero (n m : Int) : numArr n 0 = numArr m 0 := rfl

set_option maxRecDepth 100000 in
set_option maxHeartbeats 1000000 in
theorem macNumber_any (n : Int) (w : World) (h0 : 0 ≤ n) (h1 : n < 18446744073709551616) :
    Calls Try.prog 40 #[.int .u64 n] w fun e w' => e = .returned (.string (strOf (be8 n))) ∧ Below w.heap.size w w' := by
  obtain ⟨z, hz, HZ⟩ : ∃ z, (∀ w : World, (zeroValue 73).run Try.prog w = .ok (.agg z) w) ∧ Hid (numArr n 0 = z) := ⟨_, zero73, rfl⟩
  have H0 := Lib.hid h0; clear h0
  have H1 := Lib.hid h1; clear h1
  go_enter Try.func40, Try.ntmps40
  go_wp2
  go_loopw [0, 5] (fun v i wr => ∃ k : Nat, k ≤ 8 ∧ i = .int .i64 k ∧ v = .int .u64 (n / 256 ^ k) ∧ Blk wr w.heap.size 73 (numArr n k) ∧ Below w.heap.size w wr) (fun _ i _ => 8 - (intOf i).toNat)
  case atStart => exact ⟨0, by omega, rfl, by simp, by rw [HZ.out]; exact Blk.new w 73 _, (Below.refl _ _).alloc (Nat.le_refl _) _⟩
  case round =>
    obtain ⟨k, hk, rfl, rfl, hb, hnx⟩ := hrel
    by_cases hlt : k < 8
    · obtain ⟨u, hu⟩ := numArr_some n k (7 - k) hk (by omega)
      have hc := hb.cell (7 - k)
      rw [hu] at hc
      clear hu
      have hf := hb.frozen (7 - k)
      obtain ⟨x, HX⟩ : ∃ x, Hid (n / 256 ^ k = x) := ⟨_, Lib.hid rfl⟩
      have p0 : (0 : Int) ≤ 7 - (k : Int) := by omega
      have p1 : 7 - (k : Int) < 8 := by omega
      have p2 : (7 - (k : Int)).toNat = 7 - k := by omega
      rw [HX.out]
      refine hide_post fun R HR => ?_
      go_wp2
      obtain rfl := HR.out
      go_roundw
      case rel =>
        refine ⟨k + 1, by omega, by go_num, ?_, ?_, hnx.setCell (Nat.le_refl _) _⟩
        · rw [← HX.out, Int.pow_succ, ← Int.ediv_ediv_of_nonneg (Int.pow_nonneg (by decide))]
        · rw [← numArr_succ n k hlt, HX.out]
          exact hb.set_ _ _
      case measure => simp [intOf]; omega
    · obtain rfl : k = 8 := by omega
      clear hlt hk
      have hconv : (convert 28 9 (.slice (some ⟨w.heap.size, 0, none⟩) 8 8)).run Try.prog wr = .ok (.string (strOf (be8 n))) wr := by
        have h := run_convert_bytes_back (P := Try.prog) wr 28 9 5 ⟨w.heap.size, 0, none⟩ 8 (be8 n) Try.underlying28 Try.underlying5 Try.underlying9 (fun j hj => by
          have hadd : (⟨w.heap.size, 0, none⟩ : Addr).add j = ⟨w.heap.size, j, none⟩ := by unfold Addr.add; split <;> simp_all
          rw [hadd, hb.cell j]
          unfold numArr be8 at *
          simp [bcells, hj])
        rw [be8_length] at h
        exact h
      go_wp2
      go_ret
      exact ⟨rfl, hnx⟩

theorem lastB_get (n : Int) (k : Nat) (h : k < 8) : (be8 n).take (k + 1) = (be8 n).take k ++ [byteAt n (7 - k)] := by
  rw [List.take_succ_eq_append_getElem (by rw [be8_length]; exact h)]
  congr 1
  simp [be8, lastB]

set_option maxRecDepth 100000 in
set_option maxHeartbeats 1000000 in
theorem refNumber_any (n : Int) (w : World) (h0 : 0 ≤ n) (h1 : n < 18446744073709551616) :
    Calls Try.prog 34 #[.int .u64 n] w fun e w' => e = .returned (.string (strOf (be8 n))) ∧ Below w.heap.size w w' := by
  have H0 := Lib.hid h0; clear h0
  have H1 := Lib.hid h1; clear h1
  go_enter Try.func34, Try.ntmps34
  go_wp2
  go_loopw [3, 4] (fun v i wr => ∃ k : Nat, k ≤ 8 ∧ i = .int .i64 (7 - (k : Int)) ∧ OwnB wr w.heap.size v ((be8 n).take k) ∧ Below w.heap.size w wr) (fun _ i _ => (1 + intOf i).toNat)
  case atStart => exact ⟨0, by omega, rfl, OwnB.nil _ _, Below.refl _ _⟩
  case round =>
    obtain ⟨k, hk, rfl, hown, hnx⟩ := hrel
    have hsz := hnx.size
    have hbl := Lib.hid (be8_length n)
    by_cases hlt : k < 8
    · have p0 : (0 : Int) ≤ 7 - (k : Int) := by omega
      have p1 : 7 - (k : Int) < 8 := by omega
      have p2 : (0 : Int) ≤ 8 * (7 - (k : Int)) := by omega
      have p3 : 8 * (7 - (k : Int)) < 64 := by omega
      refine hide_post fun R HR => ?_
      go_wp2_with (at_builtin; refine wpList_append_B _ rfl _ _ rfl w.heap.size _ _ rfl (hown.alloc _) ⟨wr.heap.size, 0, none⟩ 1 1 [byteAt n (7 - k)] rfl rfl (news_one _ _ _ ?c1) ?c2 ?c3 ?_)
      case c1 =>
        rw [byteAt_val, Int.pow_mul]
        rfl
      case c2 => rw [List.length_take]; omega
      case c3 => simp; omega
      intro v' w1 hown' hgrow
      go_wp2
      obtain rfl := HR.out
      go_roundw
      case rel =>
        refine ⟨k + 1, by omega, by go_num, by rw [lastB_get n k hlt]; exact hown', ((hnx.alloc hsz _).grown hgrow (by simp; omega) (fun j hj => (hown.lt j hj).1))⟩
      case measure => simp [intOf]; omega
    · obtain rfl : k = 8 := by omega
      clear hlt hk
      rw [List.take_of_length_le (by rw [be8_length]; exact Nat.le_refl _)] at hown
      obtain ⟨p, cap, rfl⟩ := hown.form
      have hconv := run_string_B wr _ _ _ hown
      go_wp2
      go_ret
      exact ⟨rfl, hnx⟩

/-! ### a key with each byte turned -/
def xorB (c : UInt8) (by_ : Int) : UInt8 := UInt8.ofNat (bits .xor .u8 (c.toNat : Int) by_).toNat
theorem xorB_val (c : UInt8) (x : Int) : Value.int .u8 ((xorB c x).toNat : Int) = .int .u8 (bits .xor .u8 (c.toNat : Int) x) := by
  have h := bits_within .xor .u8 (c.toNat : Int) x
  simp only [IntKind.min, IntKind.max, IntKind.signed, IntKind.bits] at h
  exact byte_of _ (by simpa using h.1) (by have := h.2; simp at this; omega)
def keyL (key : List UInt8) : List UInt8 := key ++ List.replicate (64 - key.length) 0
theorem keyL_length (key : List UInt8) (h : key.length ≤ 64) : (keyL key).length = 64 := by simp [keyL]; omega
def turnL (key : List UInt8) (x : Int) : List UInt8 := (keyL key).map (xorB · x)
def turnTo (key : List UInt8) (x : Int) (k : Nat) : List UInt8 := (turnL key x).take k ++ (keyL key).drop k
theorem turnTo_length (key : List UInt8) (x : Int) (k : Nat) (h : key.length ≤ 64) : (turnTo key x k).length = 64 := by
  have := keyL_length key h
  simp [turnTo, turnL, this]; omega
theorem turnTo_get (key : List UInt8) (x : Int) (k : Nat) (h : key.length ≤ 64) (hk : k < 64) : (turnTo key x k).getD k 0 = (keyL key).getD k 0 := by
  have := keyL_length key h
  unfold turnTo
  rw [List.getD_eq_getElem?_getD, List.getElem?_append_right (by simp [turnL, this]; omega)]
  simp [turnL, this, show k - min k 64 = 0 by omega]
theorem turnTo_set (key : List UInt8) (x : Int) (k : Nat) (h : key.length ≤ 64) (hk : k < 64) : (turnTo key x k).set k (xorB ((keyL key).getD k 0) x) = turnTo key x (k + 1) := by
  have hl := keyL_length key h
  have hz : (turnL key x).length = 64 := by simp [turnL, hl]
  unfold turnTo
  rw [List.set_append_right _ _ (by simp [hz]; omega), List.length_take, hz, show k - min k 64 = 0 by omega]
  rw [List.take_succ_eq_append_getElem (by omega : k < (turnL key x).length), List.append_assoc]
  congr 1
  rw [List.drop_eq_getElem_cons (by omega : k < (keyL key).length), List.set_cons_zero]
  simp [turnL, List.getD_eq_getElem?_getD, List.getElem?_eq_getElem (show k < (keyL key).length by omega)]
def barr (l : List UInt8) : Array Value := (bcells l).toArray
theorem barr_get (l : List UInt8) (i : Nat) (h : i < l.length) : (barr l)[i]? = some (.int .u8 ((l.getD i 0).toNat : Int)) := by
  have := bcells_get l i h
  simpa [barr] using this
theorem barr_set (l : List UInt8) (i : Nat) (c : UInt8) : (barr l).setIfInBounds i (.int .u8 (c.toNat : Int)) = barr (l.set i c) := by
  simp [barr, bcells, List.map_set]
theorem barr_zeros (n : Nat) : (barr (List.replicate n 0)).toList = List.replicate n (.int .u8 0) := by simp [barr, bcells]
theorem make64 : ∀ w : World, (Instr.makeSlice 28 (.int .i64 64) (.int .i64 64)).run Try.prog w = .ok (.slice (some ⟨w.heap.size, 0, none⟩) 64 64) (w.alloc (.cells (barr (List.replicate 64 0)) 5)) := fun w => by kernel_rfl

set_option maxRecDepth 100000 in
set_option maxHeartbeats 1000000 in
theorem turned_any (key : ByteArray) (x : Int) (w : World) (hk : key.size ≤ 64) :
    Calls Try.prog 43 #[.string key, .int .u8 x] w fun e w' => e = .returned (.string (strOf (turnL key.data.toList x))) ∧ Below w.heap.size w w' := by
  have hkl : key.data.toList.length = key.size := by simp
  obtain ⟨Z, hmk, HZ⟩ : ∃ Z, (∀ w : World, (Instr.makeSlice 28 (.int .i64 64) (.int .i64 64)).run Try.prog w = .ok (.slice (some ⟨w.heap.size, 0, none⟩) 64 64) (w.alloc (.cells Z 5))) ∧ Hid (Z = barr (List.replicate 64 0)) := ⟨_, make64, rfl⟩
  have hcopy : ∀ ty, (Builtin.copy_ #[28, 9] ty #[.slice (some ⟨w.heap.size, 0, none⟩) 64 64, .string key]).run Try.prog (w.alloc (.cells Z 5)) = .ok (goInt key.size) ((w.alloc (.cells Z 5)).setRow w.heap.size (barr (keyL key.data.toList))) := by
    intro ty
    have h := Lib.run_copy_row_string (P := Try.prog) (w.alloc (.cells Z 5)) 28 9 ty 5 w.heap.size 0 64 64 key Z 5 Try.underlying28 (by kernel_rfl) (heap_alloc_last w _) hk (by rw [HZ.out]; simpa [barr, bcells] using hk)
    rw [h]
    congr 2
    rw [HZ.out, barr_zeros, List.drop_replicate]
    simp [barr, bcells, keyL, Lib.byteCells]
  have HL := Lib.hid hkl; clear hkl
  obtain ⟨kl, HK⟩ : ∃ kl, Hid (key.data.toList = kl) := ⟨_, Lib.hid rfl⟩
  rw [HK.out] at hcopy HL ⊢
  have hl64 : Hid (kl.length ≤ 64) := by rw [HL.out]; exact hk
  go_enter Try.func43, Try.ntmps43
  go_wp2
  have hb0 := (Blk.new w 5 Z).setRow (barr (keyL kl))
  have hn0 := below_setRow' ((Below.refl w.heap.size w).alloc (Nat.le_refl _) (.cells Z 5)) w.heap.size (Nat.le_refl _) (barr (keyL kl))
  go_loopw [13] (fun i wr => ∃ k : Nat, k ≤ 64 ∧ i = .int .i64 k ∧ Blk wr w.heap.size 5 (barr (turnTo kl x k)) ∧ Below w.heap.size w wr) (fun i _ => 64 - (intOf i).toNat)
  case atStart => exact ⟨0, by omega, rfl, by simpa [turnTo] using hb0, hn0⟩
  case round =>
    clear hb0 hn0
    obtain ⟨k, hk', rfl, hb, hnx⟩ := hrel
    by_cases hlt : k < 64
    · have hc := hb.cell k
      rw [barr_get _ _ (by rw [turnTo_length _ _ _ hl64.out]; exact hlt), turnTo_get _ _ _ hl64.out hlt] at hc
      have hf := hb.frozen k
      obtain ⟨c, HC⟩ : ∃ c, Hid ((keyL kl).getD k 0 = c) := ⟨_, Lib.hid rfl⟩
      rw [HC.out] at hc
      refine hide_post fun R HR => ?_
      go_wp2
      obtain rfl := HR.out
      go_roundw
      case rel =>
        refine ⟨k + 1, by omega, by go_num, ?_, hnx.setCell (Nat.le_refl _) _⟩
        rw [← turnTo_set kl x k hl64.out hlt, ← barr_set, HC.out, xorB_val]
        exact hb.set_ k _
      case measure => simp [intOf]; omega
    · obtain rfl : k = 64 := by omega
      clear hlt hk'
      have HT : Hid (turnTo kl x 64 = turnL kl x) := by
        show turnTo kl x 64 = turnL kl x
        have := keyL_length kl hl64.out
        unfold turnTo
        rw [List.take_of_length_le (by simp [turnL, this]), List.drop_of_length_le (by omega), List.append_nil]
      have HTL : Hid ((turnL kl x).length = 64) := by
        show (turnL kl x).length = 64
        simp [turnL, keyL_length kl hl64.out]
      have hconv : (convert 28 9 (.slice (some ⟨w.heap.size, 0, none⟩) 64 64)).run Try.prog wr = .ok (.string (strOf (turnL kl x))) wr := by
        have h := run_convert_bytes_back (P := Try.prog) wr 28 9 5 ⟨w.heap.size, 0, none⟩ 64 (turnL kl x) Try.underlying28 Try.underlying5 Try.underlying9 (fun j hj => by
          have hadd : (⟨w.heap.size, 0, none⟩ : Addr).add j = ⟨w.heap.size, j, none⟩ := by unfold Addr.add; split <;> simp_all
          rw [hadd, hb.cell j, HT.out, barr_get _ _ hj]
          simp [hj])
        rw [HTL.out] at h
        exact h
      go_wp2
      go_ret
      exact ⟨rfl, hnx⟩
end Go.Proofs.Ytlpdbkhpchmpmaa
