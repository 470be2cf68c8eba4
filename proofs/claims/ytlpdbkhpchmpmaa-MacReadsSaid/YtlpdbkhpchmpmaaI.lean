/-
  The plain law of the sums: what SHA-256 is on lists of bytes, block by block, and that it does not hang on how the bytes come in pieces. No program in sight.
-/
import Derived.Test.YtlpdbkhpchmpmaaB
import Derived.Test.YtlpdbkhpchmpmaaH
namespace Go.Proofs.Ytlpdbkhpchmpmaa
open Go.RowKit
set_option linter.unusedVariables false

def chunkS (l : List UInt8) (k : Nat) : ByteArray := strOf ((l.drop (64 * k)).take 64)
def stN (l : List UInt8) : Nat → List Int
  | 0 => hTab
  | k + 1 => blk (stN l k) (chunkS l k)
theorem stN_zero (l : List UInt8) : stN l 0 = hTab := rfl
theorem stN_succ (l : List UInt8) (k : Nat) : stN l (k + 1) = blk (stN l k) (chunkS l k) := rfl
theorem stN_length (l : List UInt8) (k : Nat) : (stN l k).length = 8 := by
  induction k with
  | zero => rfl
  | succ k ih => exact blk_length _ _ ih
theorem chunkS_append (l m : List UInt8) (k : Nat) (h : 64 * (k + 1) ≤ l.length) : chunkS (l ++ m) k = chunkS l k := by
  unfold chunkS
  rw [List.drop_append_of_le_length (by omega), List.take_append_of_le_length (by rw [List.length_drop]; omega)]
theorem stN_append (l m : List UInt8) (k : Nat) (h : 64 * k ≤ l.length) : stN (l ++ m) k = stN l k := by
  induction k with
  | zero => rfl
  | succ k ih => rw [stN_succ, stN_succ, ih (by omega), chunkS_append l m k h]
attribute [irreducible] stN

/-- What lies in a Hasher's room: the bytes behind the last whole block at its beginning. -/
def Rest (l rs : List UInt8) : Prop := rs.length = 64 ∧ rs.take (l.length % 64) = l.drop (64 * (l.length / 64))
theorem Rest.part {l rs s : List UInt8} (h : Rest l rs) (k : Nat) (hk : k ≤ s.length) (hn : l.length % 64 + k < 64) :
    Rest (l ++ s.take k) (rs.take (l.length % 64) ++ s.take k ++ rs.drop (l.length % 64 + k)) ∧ stN (l ++ s.take k) ((l ++ s.take k).length / 64) = stN l (l.length / 64) ∧ (l ++ s.take k).length % 64 = l.length % 64 + k := by
  have hl : (l ++ s.take k).length = l.length + k := by simp; omega
  have hd : (l.length + k) / 64 = l.length / 64 := by omega
  have hm : (l.length + k) % 64 = l.length % 64 + k := by omega
  refine ⟨⟨?_, ?_⟩, ?_, by rw [hl, hm]⟩
  · have := h.1
    simp; omega
  · rw [hl, hd, hm]
    have e : (rs.take (l.length % 64) ++ s.take k).length = l.length % 64 + k := by
      have := h.1
      simp; omega
    rw [List.take_append_of_le_length (by omega), List.take_of_length_le (by omega), h.2, List.drop_append_of_le_length (by omega)]
  · rw [hl, hd]
    exact stN_append _ _ _ (by omega)
theorem Rest.full {l rs s : List UInt8} (h : Rest l rs) (k : Nat) (hk : k ≤ s.length) (hn : l.length % 64 + k = 64) :
    strOf (rs.take (l.length % 64) ++ s.take k ++ rs.drop (l.length % 64 + k)) = chunkS (l ++ s.take k) (l.length / 64) ∧ Rest (l ++ s.take k) (rs.take (l.length % 64) ++ s.take k ++ rs.drop (l.length % 64 + k)) ∧
    stN (l ++ s.take k) ((l ++ s.take k).length / 64) = blk (stN l (l.length / 64)) (chunkS (l ++ s.take k) (l.length / 64)) ∧ (l ++ s.take k).length % 64 = 0 := by
  have hl : (l ++ s.take k).length = l.length + k := by simp; omega
  have hd : (l.length + k) / 64 = l.length / 64 + 1 := by omega
  have hm : (l.length + k) % 64 = 0 := by omega
  refine ⟨?_, ⟨?_, ?_⟩, ?_, by rw [hl, hm]⟩
  · unfold chunkS
    congr 1
    have e : (l.drop (64 * (l.length / 64)) ++ s.take k).length ≤ 64 := by
      rw [List.length_append, List.length_drop, List.length_take]
      omega
    rw [hn, List.drop_of_length_le (by rw [h.1]; exact Nat.le_refl _), List.append_nil, h.2, List.drop_append_of_le_length (by omega), List.take_of_length_le e]
  · have := h.1
    simp; omega
  · rw [hl, hd, hm, List.take_zero, List.drop_of_length_le (by omega)]
  · rw [hl, hd, stN_succ]
    rw [stN_append _ _ _ (by omega)]

/-! ### padding, and the sum -/
def wordB (x : Int) : List UInt8 := [byteAt x 3, byteAt x 2, byteAt x 1, byteAt x 0]
def outB (st : List Int) : List UInt8 := st.flatMap wordB
def zerosN (n : Nat) : Nat := (119 - n % 64) % 64
def padL (n : Nat) : List UInt8 := 128 :: (List.replicate (zerosN n) 0 ++ be8 (8 * (n : Int) % 18446744073709551616))
theorem padL_length (n : Nat) : (padL n).length = 9 + zerosN n := by simp [padL, be8_length]; omega
theorem pad_whole (l : List UInt8) : (l ++ padL l.length).length % 64 = 0 := by
  rw [List.length_append, padL_length]
  unfold zerosN
  omega
def sha (l : List UInt8) : List UInt8 := outB (stN (l ++ padL l.length) ((l ++ padL l.length).length / 64))
theorem wordB_length (x : Int) : (wordB x).length = 4 := rfl
theorem outB_length (st : List Int) : (outB st).length = 4 * st.length := by
  induction st with
  | nil => rfl
  | cons x st ih => simp only [outB, List.flatMap_cons, List.length_append, wordB_length] at ih ⊢; rw [ih, List.length_cons]; omega
theorem sha_length (l : List UInt8) : (sha l).length = 32 := by
  rw [sha, outB_length, stN_length]
theorem byteAt_mod (x : Int) (i : Nat) (h : i < 8) : byteAt (x % 18446744073709551616) i = byteAt x i := by
  unfold byteAt
  congr 2
  match i, h with
  | 0, _ => simp
  | 1, _ => simp; omega
  | 2, _ => simp; omega
  | 3, _ => simp; omega
  | 4, _ => simp; omega
  | 5, _ => simp; omega
  | 6, _ => simp; omega
  | 7, _ => simp; omega
theorem wordB_eq (x : Int) : (be8 (x % 18446744073709551616)).drop 4 = wordB x := by
  have e : be8 (x % 18446744073709551616) = [byteAt x 7, byteAt x 6, byteAt x 5, byteAt x 4, byteAt x 3, byteAt x 2, byteAt x 1, byteAt x 0] := by
    rw [← byteAt_mod x 7 (by omega), ← byteAt_mod x 6 (by omega), ← byteAt_mod x 5 (by omega), ← byteAt_mod x 4 (by omega), ← byteAt_mod x 3 (by omega), ← byteAt_mod x 2 (by omega), ← byteAt_mod x 1 (by omega), ← byteAt_mod x 0 (by omega)]
    rfl
  rw [e]
  rfl
end Go.Proofs.Ytlpdbkhpchmpmaa
