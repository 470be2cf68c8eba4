/-
  Words for memory (a block that is known whole), and the contracts of the small functions of atriumref04 and mac: ror, constants, first.
-/
import Derived.Test.YtlpdbkhpchmpmaaRows
import Derived.WalkKit
import Derived.BigQuiet
import Derived.Deep.QuietTactic
import Derived.Deep.Draws
import Derived.Laws.Rows
import Derived.Laws.BitsAllLaws
import Derived.Lib.Hide
import Derived.Deep.WholeRow
namespace Go.Proofs.Ytlpdbkhpchmpmaa
open Go.RowKit
set_option linter.unusedVariables false

/-! ### a block that is known whole -/
def Blk (w : World) (g : Nat) (t : TypeId) (cs : Array Value) : Prop := w.heap[g]? = some (.cells cs t (0, 0))

section
variable {w w' : World} {g : Nat} {t : TypeId} {cs : Array Value}
theorem Blk.lt (h : Blk w g t cs) : g < w.heap.size := by
  rcases Nat.lt_or_ge g w.heap.size with hlt | hge
  · exact hlt
  · unfold Blk at h; rw [Array.getElem?_eq_none hge] at h; cases h
theorem Blk.cell (h : Blk w g t cs) (i : Nat) : w.cell? ⟨g, i, none⟩ = cs[i]? := cell_of_row w g i cs t (0, 0) h
theorem Blk.frozen (h : Blk w g t cs) (i : Nat) : w.frozen? ⟨g, i, none⟩ = false := by
  unfold Blk at h
  simp [World.frozen?, h]
theorem Blk.new (w : World) (t : TypeId) (cs : Array Value) : Blk (w.alloc (.cells cs t)) w.heap.size t cs := heap_alloc_new w _
theorem Blk.new_at (w : World) (n : Nat) (hn : w.heap.size = n) (t : TypeId) (cs : Array Value) : Blk (w.alloc (.cells cs t)) n t cs := hn ▸ Blk.new w t cs
theorem Blk.setRow (h : Blk w g t cs) (cs' : Array Value) : Blk (w.setRow g cs') g t cs' := setRow_heap w g cs _ t _ h
theorem Blk.setRow_far {g' : Nat} (h : Blk w g t cs) (hn : g ≠ g') (cs' : Array Value) : Blk (w.setRow g' cs') g t cs := (setRow_other w g' g cs' hn).trans h
theorem Blk.drew (h : Blk w g t cs) : Blk w.drew g t cs := h
theorem Blk.drewN (h : Blk w g t cs) (n : Nat) : Blk (w.drewN n) g t cs := h
theorem Blk.alloc (h : Blk w g t cs) (o : Obj) : Blk (w.alloc o) g t cs := (Below.heap_alloc w o g h.lt).trans h
theorem Blk.set_ (h : Blk w g t cs) (i : Nat) (u : Value) : Blk (w.setCell ⟨g, i, none⟩ u) g t (cs.setIfInBounds i u) := by
  unfold Blk at h ⊢
  simp [World.setCell, Array.getElem?_modify, h]
theorem Blk.far (h : Blk w g t cs) {p : Addr} (hp : g ≠ p.block) (u : Value) : Blk (w.setCell p u) g t cs := (Below.heap_setCell w p u g hp).trans h
theorem Blk.below {B : Nat} (h : Blk w g t cs) (hb : Below B w w') (hg : g < B) : Blk w' g t cs := (hb.block g hg).trans h
theorem Blk.grown {row : Option Nat} (h : Blk w g t cs) (hb : w.grownBy w' row) (hg : some g ≠ row) : Blk w' g t cs := (hb.block g h.lt hg).trans h
end
theorem below_drewN {B : Nat} {a w : World} (h : Below B a w) (n : Nat) : Below B a (w.drewN n) := ⟨h.os, h.tape, h.output, h.size, h.block⟩

theorem below_setRow' {B : Nat} {a w : World} (h : Below B a w) (g : Nat) (hg : B ≤ g) (cs : Array Value) : Below B a (w.setRow g cs) :=
  h.trans ⟨rfl, rfl, rfl, by simp, fun k hk => setRow_other w g k cs (by omega)⟩

/-! ### ror -/
theorem bits_or_comm (k : IntKind) (a b : Int) : bits .or k a b = bits .or k b a := by
  unfold bits
  simp [BitVec.or_comm]

/-- A word of 32 bits turned by n bits to the right. -/
@[irreducible] def rorI (x n : Int) : Int := bits .or .u32 (x / 2 ^ n.toNat) (x * 2 ^ (32 - n).toNat % 4294967296)

theorem refRor_any (x n : Int) (w : World) (hn : 1 ≤ n) (hn' : n ≤ 31) :
    Calls Try.prog 47 #[.int .u32 x, .int .i64 n] w fun e w' => e = .returned (.int .u32 (rorI x n)) ∧ ∃ m, w' = w.drewN m := by
  go_enter Try.func47, Try.ntmps47
  go_wp2
  go_quiet (fail)
  go_wp2
  go_ret
  exact ⟨by unfold rorI; rfl, _, rfl⟩

theorem macRor_any (x n : Int) (w : World) (hn : 1 ≤ n) (hn' : n ≤ 31) (hb : bits BinOp.and IntKind.u64 (IntKind.u64.wrap (-n)) 31 = 32 - n) :
    Calls Try.prog 50 #[.int .u32 x, .int .i64 n] w fun e w' => e = .returned (.int .u32 (rorI x n)) ∧ w' = w := by
  go_enter Try.func50, Try.ntmps50
  go_wp2
  go_ret
  refine ⟨?_, rfl⟩
  unfold rorI
  rw [bits_or_comm, show (32 : Int) - (32 - n) = n from by omega]
  rfl

/-! ### the constants -/
def kTab : List Int := [
  0x428a2f98, 0x71374491, 0xb5c0fbcf, 0xe9b5dba5, 0x3956c25b, 0x59f111f1, 0x923f82a4, 0xab1c5ed5,
  0xd807aa98, 0x12835b01, 0x243185be, 0x550c7dc3, 0x72be5d74, 0x80deb1fe, 0x9bdc06a7, 0xc19bf174,
  0xe49b69c1, 0xefbe4786, 0x0fc19dc6, 0x240ca1cc, 0x2de92c6f, 0x4a7484aa, 0x5cb0a9dc, 0x76f988da,
  0x983e5152, 0xa831c66d, 0xb00327c8, 0xbf597fc7, 0xc6e00bf3, 0xd5a79147, 0x06ca6351, 0x14292967,
  0x27b70a85, 0x2e1b2138, 0x4d2c6dfc, 0x53380d13, 0x650a7354, 0x766a0abb, 0x81c2c92e, 0x92722c85,
  0xa2bfe8a1, 0xa81a664b, 0xc24b8b70, 0xc76c51a3, 0xd192e819, 0xd6990624, 0xf40e3585, 0x106aa070,
  0x19a4c116, 0x1e376c08, 0x2748774c, 0x34b0bcb5, 0x391c0cb3, 0x4ed8aa4a, 0x5b9cca4f, 0x682e6ff3,
  0x748f82ee, 0x78a5636f, 0x84c87814, 0x8cc70208, 0x90befffa, 0xa4506ceb, 0xbef9a3f7, 0xc67178f2]
def words (l : List Int) : Array Value := (l.map (Value.int .u32)).toArray

/-- A literal that is known whole: what it holds is asked of the kernel. -/
theorem wpList_built {P : Program} {ops : Array Oper} {rest : List Oper} {o : Oper} {a : Act} {w : World} {Q : Exit → Act → World → Prop} (hg : o.guard = none) (t : TypeId) (parts : Array (Nat × Operand)) (ho : o.op = .build t parts)
    (cells : Array Value) (hf : P.built t (parts.map fun (i, x) => (i, a.eval x)).toList = some cells)
    (h : wpList P ops Q rest (a.put o.dst (.agg cells)) w) : wpList P ops Q (o :: rest) a w :=
  wpList_build hg t parts ho (by rw [hf]; rfl) (by rw [hf]; exact h)

theorem words_one (l : List Int) : (words l).all (·.oneCell') = true := by
  simp [words, Value.oneCell']
theorem info66 : (Try.prog.info? 66).map (·.size) = some 64 := by kernel_rfl
theorem size_kTab : (words kTab).size = 64 := by kernel_rfl

theorem refConst_any (w : World) : Calls Try.prog 48 #[] w fun e w' => e = .returned (.agg (words kTab)) ∧ Below w.heap.size w w' := by
  have H1 : ∃ c : Array Value, c.size = 64 ∧ (zeroValue 66).run Try.prog w = .ok (.agg c) w := ⟨(words (List.replicate 64 0)), by kernel_rfl, by kernel_rfl⟩
  obtain ⟨c, hc, hz⟩ := H1
  have HC := Lib.hid hc
  clear hc
  go_enter Try.func48, Try.ntmps48
  go_wp2_with (first
    | (refine wpList_built rfl 66 _ rfl (words kTab) (by kernel_rfl) ?_)
    | (refine wpList_store_row rfl 66 _ _ rfl w.heap.size (words kTab) rfl rfl 66 _ (heap_alloc_last w _) (by rw [size_kTab]; exact info66) (by rw [size_kTab]; exact HC.out) (words_one _) ?_; rw [World.setRow_alloc_new]))
  refine bodyPost_ret (results_cell_row Try.results48 _ _ w.heap.size 66 (words kTab) (0, 0) _ rfl (heap_alloc_last w _) Try.underlying66 rfl (by rw [size_kTab]; exact info66)) rfl ⟨rfl, (Below.refl _ _).alloc (Nat.le_refl _) _⟩

theorem macConst_any (w : World) : Calls Try.prog 49 #[] w fun e w' => e = .returned (.agg (words kTab)) ∧ Below w.heap.size w w' := by
  have H1 : ∃ c : Array Value, c.size = 64 ∧ (zeroValue 66).run Try.prog w = .ok (.agg c) w := ⟨(words (List.replicate 64 0)), by kernel_rfl, by kernel_rfl⟩
  obtain ⟨c, hc, hz⟩ := H1
  have HC := Lib.hid hc
  clear hc
  go_enter Try.func49, Try.ntmps49
  go_wp2_with (first
    | (refine wpList_built rfl 66 _ rfl (words kTab) (by kernel_rfl) ?_)
    | (refine wpList_store_row rfl 66 _ _ rfl w.heap.size (words kTab) rfl rfl 66 _ (heap_alloc_last w _) (by rw [size_kTab]; exact info66) (by rw [size_kTab]; exact HC.out) (words_one _) ?_; rw [World.setRow_alloc_new]))
  refine bodyPost_ret (results_cell_row Try.results49 _ _ w.heap.size 66 (words kTab) (0, 0) _ rfl (heap_alloc_last w _) Try.underlying66 rfl (by rw [size_kTab]; exact info66)) rfl ⟨rfl, (Below.refl _ _).alloc (Nat.le_refl _) _⟩

def hTab : List Int := [0x6a09e667, 0xbb67ae85, 0x3c6ef372, 0xa54ff53a, 0x510e527f, 0x9b05688c, 0x1f83d9ab, 0x5be0cd19]
theorem macFirst_any (w : World) : Calls Try.prog 36 #[] w fun e w' => e = .returned (.agg (words hTab)) ∧ Below w.heap.size w w' := by
  go_enter Try.func36, Try.ntmps36
  go_wp2
  refine bodyPost_ret (v := .agg (words hTab)) (by simp [results, Try.results36, go_sem]; rfl) rfl ⟨rfl, (Below.refl _ _).alloc (Nat.le_refl _) _⟩
end Go.Proofs.Ytlpdbkhpchmpmaa
