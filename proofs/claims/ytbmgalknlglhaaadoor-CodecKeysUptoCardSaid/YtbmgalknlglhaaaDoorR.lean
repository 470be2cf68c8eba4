/-
  Byte slices that the call owns whole: append of bytes and of a string, with word of where the new slice lies.
-/
import Derived.Test.YtbmgalknlglhaaaDoorA
import Derived.Deep.AppendLies
import Derived.Lib.AppendStr
namespace Go.Proofs.YtbmgalknlglhaaaDoor
open Go.RowKit
set_option linter.unusedVariables false

def RowB (w : World) (B : Nat) (v : Value) (l : List UInt8) : Prop := w.ownsRow B 5 1 v l.length (bcells l)
theorem RowB.nil (w : World) (B : Nat) : RowB w B (.slice none 0 0) [] := World.ownsRow_nil _ _ _ _
theorem RowB.own {w : World} {B : Nat} {v : Value} {l : List UInt8} (h : RowB w B v l) : OwnB w B v l := OwnB.of_row h
theorem RowB.below {w w' : World} {B : Nat} {v : Value} {l : List UInt8} (h : RowB w B v l) (hb : Below w.heap.size w w') : RowB w' B v l := row_belowW h hb
theorem RowB.alloc {w : World} {B : Nat} {v : Value} {l : List UInt8} (h : RowB w B v l) (o : Obj) : RowB (w.alloc o) B v l := World.ownsRow.alloc h o
theorem RowB.drew {w : World} {B : Nat} {v : Value} {l : List UInt8} (h : RowB w B v l) : RowB w.drew B v l := h
theorem RowB.drewN {w : World} {B : Nat} {v : Value} {l : List UInt8} (h : RowB w B v l) (n : Nat) : RowB (w.drewN n) B v l := h
theorem RowB.lt {w : World} {B : Nat} {v : Value} {l : List UInt8} (h : RowB w B v l) : ∀ k, v.ownBlock = some k → B ≤ k ∧ k < w.heap.size := World.ownsRow.lt h
theorem RowB.form {w : World} {B : Nat} {v : Value} {l : List UInt8} (h : RowB w B v l) : ∃ p cap, v = .slice p l.length cap := h.own.form
theorem RowB.some {w : World} {B : Nat} {v : Value} {l : List UInt8} (h : RowB w B v l) (hl : 0 < l.length) : ∃ g cap, v = .slice (some ⟨g, 0, none⟩) l.length cap ∧ B ≤ g ∧ g < w.heap.size ∧ ∀ j u, (bcells l)[j]? = some u → w.cell? ((⟨g, 0, none⟩ : Addr).add j) = some u := by
  obtain ⟨g, cap, hv, hB, hlt⟩ := World.ownsRow.form h hl
  exact ⟨g, cap, hv, hB, hlt, World.ownsRow.cells h (by rw [hv]; rfl)⟩

theorem wpList_app_bytes (w : World) {ops : Array Oper} {rest : List Oper} {o : Oper} {a : Act} {Q : Exit → Act → World → Prop} (hgd : o.guard = none) (s x : Operand)
    (ho : o.op = .call { callee := .builtin .append, args := #[s, x], argTypes := #[47, 47] })
    (B : Nat) (v : Value) (xs : List UInt8) (hs : a.eval s = v) (hown : RowB w B v xs)
    (ad : Addr) (m c : Nat) (ys : List UInt8) (hx : a.eval x = .slice (some ad) m c) (hm : ys.length = m) (hc : ∀ j u, (bcells ys)[j]? = some u → w.cell? (ad.add j) = some u)
    (hm0 : 0 < m) (hlen : xs.length + m ≤ 1099511627776) (hB : B ≤ w.heap.size) (H : Nat) (hH : w.heap.size = H)
    (h : ∀ v' w', RowB w' B v' (xs ++ ys) → w.grownBy w' v.ownBlock → (∀ b, v'.ownBlock = some b → v.ownBlock = some b ∨ b = H) → wpList Tryd.prog ops Q rest (a.put o.dst v') w') : wpList Tryd.prog ops Q (o :: rest) a w := by
  obtain ⟨i0, hi, hz0, hz1, hz2⟩ := info_parts (show (Tryd.prog.info? 5).map (fun i => (i.zero, i.size, i.bytes)) = some (some (.int .u8 0), 1, 1) by kernel_rfl)
  refine wpList_append_lies w hgd s x 47 ho B 5 i0 (.int .u8 0) 1 1 Tryd.underlying47 hi hz0 hz1 hz2 rfl (by decide) v xs.length (bcells xs) hs hown ad m c (bcells ys) hx (by rw [bcells_length, hm, Nat.mul_one]) hc (bcells_one _) hm0 (by unfold maxLen; omega) (by omega) hB H hH ?_
  intro g cap w' h1 h2 h3 h4
  refine h _ w' ?_ h2 (fun b hb => ?_)
  · unfold RowB
    rw [List.length_append, hm, bcells_append]
    exact h1
  · have : g = b := by simpa [Value.ownBlock] using hb
    subst this
    exact h3
theorem wpList_app_str (w : World) {ops : Array Oper} {rest : List Oper} {o : Oper} {a : Act} {Q : Exit → Act → World → Prop} (hgd : o.guard = none) (s x : Operand)
    (ho : o.op = .call { callee := .builtin .append, args := #[s, x], argTypes := #[47, 9] })
    (B : Nat) (v : Value) (xs : List UInt8) (hs : a.eval s = v) (hown : RowB w B v xs)
    (t : ByteArray) (hx : a.eval x = .string t) (hlen : xs.length + t.size ≤ 1099511627776) (hB : B ≤ w.heap.size)
    (h : ∀ v' w', RowB w' B v' (xs ++ t.data.toList) → w.grownBy w' v.ownBlock → wpList Tryd.prog ops Q rest (a.put o.dst v') w') : wpList Tryd.prog ops Q (o :: rest) a w := by
  obtain ⟨i0, hi, hz0, hz1, hz2⟩ := info_parts (show (Tryd.prog.info? 5).map (fun i => (i.zero, i.size, i.bytes)) = some (some (.int .u8 0), 1, 1) by kernel_rfl)
  refine Lib.wpList_append_own_string w hgd s x 47 9 ho B 5 i0 Tryd.underlying47 Tryd.underlying9 hi hz0 hz1 hz2 v xs.length (bcells xs) hs hown t hx (by unfold maxLen; omega) (by omega) hB ?_
  intro v' w' h1 h2 h3
  refine h v' w' ?_ h2
  unfold RowB
  rw [List.length_append, bcells_append, show t.data.toList.length = t.size by simp]
  exact h1
theorem run_string_R (w : World) (B : Nat) (v : Value) (xs : List UInt8) (h : RowB w B v xs) : (convert 47 9 v).run Tryd.prog w = .ok (.string ⟨xs.toArray⟩) w := run_string_B w B v xs h.own
end Go.Proofs.YtbmgalknlglhaaaDoor
