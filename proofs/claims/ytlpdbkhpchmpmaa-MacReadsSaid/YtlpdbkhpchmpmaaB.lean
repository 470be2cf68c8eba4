/-
  The plain law of a block of SHA-256, in the words of the walk: what a block does to the eight words, as lists of integers. No program in sight.
-/
import Derived.Test.YtlpdbkhpchmpmaaA
namespace Go.Proofs.Ytlpdbkhpchmpmaa
open Go.RowKit
set_option linter.unusedVariables false

/-! ### cells that are words -/
theorem words_size (l : List Int) : (words l).size = l.length := by simp [words]
theorem words_get (l : List Int) (i : Nat) (h : i < l.length) : (words l)[i]? = some (.int .u32 (l.getD i 0)) := by
  simp [words, h]
theorem words_set (l : List Int) (i : Nat) (v : Int) : (words l).setIfInBounds i (.int .u32 v) = words (l.set i v) := by
  simp [words, List.map_set]
def padded (l : List Int) : Array Value := words (l ++ List.replicate (64 - l.length) 0)
theorem padded_get (l : List Int) (i : Nat) (h : i < l.length) : (padded l)[i]? = some (.int .u32 (l.getD i 0)) := by
  unfold padded
  rw [words_get _ _ (by simp; omega)]
  simp [List.getElem?_append_left h]
theorem padded_at (l : List Int) (i : Nat) (h : l.length ≤ i) (h2 : i < 64) : (padded l)[i]? = some (.int .u32 0) := by
  unfold padded
  rw [words_get _ _ (by simp; omega)]
  simp [List.getElem?_append_right h, show i - l.length < 64 - l.length by omega]
theorem padded_push (l : List Int) (v : Int) (i : Nat) (hi : i = l.length) (h : l.length < 64) : (padded l).setIfInBounds i (.int .u32 v) = padded (l ++ [v]) := by
  subst hi
  unfold padded
  rw [words_set]
  congr 1
  rw [List.set_append_right _ _ (Nat.le_refl _), Nat.sub_self, show 64 - l.length = (64 - (l ++ [v]).length) + 1 by simp; omega, List.replicate_succ]
  simp
theorem padded_full (l : List Int) (h : l.length = 64) : padded l = words l := by
  unfold padded
  simp [h]

/-! ### the words of a block -/
def byteI (s : ByteArray) (i : Nat) : Int := ((s.data.toList.getD i 0).toNat : Int)
theorem byteI_eq (s : ByteArray) (i : Nat) (h : i < s.size) : ((s[i]'h).toNat : Int) = byteI s i := by
  unfold byteI
  have h' : i < s.data.toList.length := by simpa using h
  rw [List.getD_eq_getElem?_getD, List.getElem?_eq_getElem h', Option.getD_some]
  rfl
@[irreducible] def be4 (a b c d : Int) : Int :=
  bits .or .u32 (bits .or .u32 (bits .or .u32 (a % 4294967296 * 16777216 % 4294967296) (b % 4294967296 * 65536 % 4294967296)) (c % 4294967296 * 256 % 4294967296)) (d % 4294967296)
def w16 (s : ByteArray) (n : Nat) : List Int := (List.range n).map fun i => be4 (byteI s (4 * i)) (byteI s (4 * i + 1)) (byteI s (4 * i + 2)) (byteI s (4 * i + 3))
theorem w16_length (s : ByteArray) (n : Nat) : (w16 s n).length = n := by simp [w16]
theorem w16_snoc (s : ByteArray) (k : Nat) (h0 : 4 * k < s.size) (h1 : 4 * k + 1 < s.size) (h2 : 4 * k + 2 < s.size) (h3 : 4 * k + 3 < s.size) :
    w16 s (k + 1) = w16 s k ++ [bits BinOp.or IntKind.u32
                    (bits BinOp.or IntKind.u32
                      (bits BinOp.or IntKind.u32 ((s[4 * k].toNat : Int) % 4294967296 * 16777216 % 4294967296)
                        ((s[4 * k + 1].toNat : Int) % 4294967296 * 65536 % 4294967296))
                      ((s[4 * k + 2].toNat : Int) % 4294967296 * 256 % 4294967296))
                    ((s[4 * k + 3].toNat : Int) % 4294967296)] := by
  rw [byteI_eq, byteI_eq, byteI_eq, byteI_eq]
  unfold w16
  rw [List.range_succ, List.map_append]
  simp only [List.map_cons, List.map_nil]
  unfold be4
  rfl

/-! ### the schedule -/
@[irreducible] def sched (a b c d : Int) : Int :=
  (bits .xor .u32 (bits .xor .u32 (rorI b 17) (rorI b 19)) (b / 1024) + c + bits .xor .u32 (bits .xor .u32 (rorI a 7) (rorI a 18)) (a / 8) + d) % 4294967296
def next (l : List Int) : List Int :=
  l ++ [sched (l.getD (l.length - 15) 0) (l.getD (l.length - 2) 0) (l.getD (l.length - 7) 0) (l.getD (l.length - 16) 0)]
def wTo (s : ByteArray) : Nat → List Int
  | 0 => w16 s 16
  | n + 1 => next (wTo s n)
theorem wTo_snoc (s : ByteArray) (t : Nat) (h : 16 ≤ t) (hl : (wTo s (t - 16)).length = 16 + (t - 16)) (a b c d : Int) (ha : (wTo s (t - 16)).getD (t - 15) 0 = a) (hb : (wTo s (t - 16)).getD (t - 2) 0 = b)
    (hc : (wTo s (t - 16)).getD (t - 7) 0 = c) (hd : (wTo s (t - 16)).getD (t - 16) 0 = d) : wTo s (t + 1 - 16) = wTo s (t - 16) ++ [sched a b c d] := by
  rw [show t + 1 - 16 = (t - 16) + 1 by omega]
  show next (wTo s (t - 16)) = _
  unfold next
  rw [hl, show 16 + (t - 16) = t by omega, ha, hb, hc, hd]
theorem wTo_length (s : ByteArray) (n : Nat) : (wTo s n).length = 16 + n := by
  induction n with
  | zero => simp [wTo, w16_length]
  | succ n ih => simp [wTo, next, ih]; omega

/-! ### the rounds -/
@[irreducible] def one (e f g h k w : Int) : Int :=
  (h + bits .xor .u32 (bits .xor .u32 (rorI e 6) (rorI e 11)) (rorI e 25) + bits .xor .u32 (bits .and .u32 e f) (bits .and .u32 (bits .xor .u32 IntKind.u32.max e) g) + k + w) % 4294967296
@[irreducible] def two (a b c : Int) : Int :=
  (bits .xor .u32 (bits .xor .u32 (rorI a 2) (rorI a 13)) (rorI a 22) + bits .xor .u32 (bits .xor .u32 (bits .and .u32 a b) (bits .and .u32 a c)) (bits .and .u32 b c)) % 4294967296
@[irreducible] def addI (a b : Int) : Int := (a + b) % 4294967296
theorem one_eq (e f g h k w : Int) : (h + bits .xor .u32 (bits .xor .u32 (rorI e 6) (rorI e 11)) (rorI e 25) + bits .xor .u32 (bits .and .u32 e f) (bits .and .u32 (bits .xor .u32 IntKind.u32.max e) g) + k + w) % 4294967296 = one e f g h k w := by unfold one; rfl
theorem two_eq (a b c : Int) : (bits .xor .u32 (bits .xor .u32 (rorI a 2) (rorI a 13)) (rorI a 22) + bits .xor .u32 (bits .xor .u32 (bits .and .u32 a b) (bits .and .u32 a c)) (bits .and .u32 b c)) % 4294967296 = two a b c := by unfold two; rfl
theorem addI_eq (a b : Int) : (a + b) % 4294967296 = addI a b := by unfold addI; rfl
def rnd (k w : Int) : List Int → List Int
  | [a, b, c, d, e, f, g, h] => [addI (one e f g h k w) (two a b c), a, b, c, addI d (one e f g h k w), e, f, g]
  | l => l
def rounds (ws : List Int) (hs : List Int) : Nat → List Int
  | 0 => hs
  | n + 1 => rnd (kTab.getD n 0) (ws.getD n 0) (rounds ws hs n)
theorem rnd_length (k w : Int) (l : List Int) (h : l.length = 8) : (rnd k w l).length = 8 := by
  match l, h with
  | [a, b, c, d, e, f, g, i], _ => rfl
theorem rounds_length (ws hs : List Int) (h : hs.length = 8) (n : Nat) : (rounds ws hs n).length = 8 := by
  induction n with
  | zero => exact h
  | succ n ih => exact rnd_length _ _ _ ih
theorem list8 (l : List Int) (h : l.length = 8) : ∃ a b c d e f g i : Int, l = [a, b, c, d, e, f, g, i] := by
  match l, h with
  | [a, b, c, d, e, f, g, i], _ => exact ⟨a, b, c, d, e, f, g, i, rfl⟩
theorem kTab_length : kTab.length = 64 := by decide
def added (hs xs : List Int) (n : Nat) : List Int := (List.zipWith addI hs xs).take n ++ hs.drop n
theorem added_length (hs xs : List Int) (h : hs.length = 8) (h' : xs.length = 8) (n : Nat) : (added hs xs n).length = 8 := by
  simp [added, h, h']; omega
theorem added_zero (hs xs : List Int) : added hs xs 0 = hs := by simp [added]
theorem added_get (hs xs : List Int) (h : hs.length = 8) (h' : xs.length = 8) (n : Nat) (hn : n < 8) : (added hs xs n).getD n 0 = hs.getD n 0 := by
  unfold added
  rw [List.getD_eq_getElem?_getD, List.getElem?_append_right (by simp [h, h']; omega)]
  simp only [List.length_take, List.length_zipWith, h, h', Nat.min_self]
  rw [show n - min n 8 = 0 by omega]
  simp
theorem added_succ (hs xs : List Int) (h : hs.length = 8) (h' : xs.length = 8) (n : Nat) (hn : n < 8) :
    (added hs xs n).set n (addI (hs.getD n 0) (xs.getD n 0)) = added hs xs (n + 1) := by
  unfold added
  have hz : (List.zipWith addI hs xs).length = 8 := by simp [h, h']
  rw [List.set_append_right _ _ (by simp [h, h']; omega), List.length_take, hz, show n - min n 8 = 0 by omega]
  rw [List.take_succ_eq_append_getElem (by omega : n < (List.zipWith addI hs xs).length), List.append_assoc]
  congr 1
  rw [List.drop_eq_getElem_cons (by omega : n < hs.length), List.set_cons_zero]
  simp [List.getD_eq_getElem?_getD, List.getElem?_eq_getElem (show n < hs.length by omega), List.getElem?_eq_getElem (show n < xs.length by omega)]
/-- THE STATE BEHIND A BLOCK. -/
def blk (hs : List Int) (s : ByteArray) : List Int := List.zipWith addI hs (rounds (wTo s 48) hs 64)
theorem blk_length (hs : List Int) (s : ByteArray) (h : hs.length = 8) : (blk hs s).length = 8 := by
  simp [blk, h, rounds_length]
theorem added_all (hs xs : List Int) (h : hs.length = 8) (h' : xs.length = 8) : added hs xs 8 = List.zipWith addI hs xs := by
  unfold added
  rw [List.take_of_length_le (by simp [h, h']), List.drop_of_length_le (by omega), List.append_nil]
theorem w16_zero (s : ByteArray) : w16 s 0 = [] := rfl
theorem wTo_zero (s : ByteArray) : wTo s 0 = w16 s 16 := rfl
theorem rounds_zero (ws hs : List Int) : rounds ws hs 0 = hs := rfl
theorem rounds_succ (ws hs : List Int) (n : Nat) : rounds ws hs (n + 1) = rnd (kTab.getD n 0) (ws.getD n 0) (rounds ws hs n) := rfl
theorem blk_eq (hs : List Int) (s : ByteArray) : blk hs s = List.zipWith addI hs (rounds (wTo s 48) hs 64) := rfl
attribute [irreducible] w16 wTo rounds blk added
end Go.Proofs.Ytlpdbkhpchmpmaa
