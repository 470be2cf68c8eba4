/-
  Words for byte slices that the call itself has made, by append or out of a string; what append and string(..) do to them.
-/
import Derived.Test.YtlpdbkhpchmpmaaA
import Derived.Lib.ConvBytes
import Derived.Laws.BytesArg
import Derived.ArgAppend
import Derived.Laws.IdiomCopy
import Derived.Laws.IdiomStrings
import Derived.Lib.Builder
namespace Go.Proofs.Ytlpdbkhpchmpmaa
open Go.RowKit
set_option linter.unusedVariables false

def bcells (xs : List UInt8) : List Value := xs.map fun c => Value.int .u8 (c.toNat : Int)
theorem bcells_length (xs : List UInt8) : (bcells xs).length = xs.length := by simp [bcells]
theorem bcells_get (xs : List UInt8) (j : Nat) (h : j < xs.length) : (bcells xs)[j]? = some (.int .u8 ((xs.getD j 0).toNat : Int)) := by
  simp [bcells, h]
theorem bcells_append (xs ys : List UInt8) : bcells (xs ++ ys) = bcells xs ++ bcells ys := by simp [bcells]
theorem bcells_one (xs : List UInt8) : ∀ u ∈ bcells xs, u.oneCell' = true := by
  intro u hu
  obtain ⟨c, _, rfl⟩ := List.mem_map.1 hu
  rfl
theorem byte_of (x : Int) (h0 : 0 ≤ x) (h1 : x < 256) : Value.int .u8 ((UInt8.ofNat x.toNat).toNat : Int) = .int .u8 x := by
  rw [UInt8.toNat_ofNat', Nat.mod_eq_of_lt (by omega), Int.toNat_of_nonneg h0]

/-- The slice v of the bytes xs is the call's own: nil and empty, or at the head of a block from B on whose further cells may be written. -/
def OwnB (w : World) (B : Nat) (v : Value) (xs : List UInt8) : Prop :=
  (v = .slice none 0 0 ∧ xs = []) ∨
  ∃ g cap, v = .slice (some ⟨g, 0, none⟩) xs.length cap ∧ B ≤ g ∧ g < w.heap.size ∧ xs.length ≤ cap ∧ cap ≤ maxLen ∧
    (∀ j, j < xs.length → w.cell? ⟨g, j, none⟩ = some (.int .u8 ((xs.getD j 0).toNat : Int))) ∧
    (∀ j, xs.length ≤ j → j < cap → (w.cell? ⟨g, j, none⟩).isSome = true ∧ w.frozen? ⟨g, j, none⟩ = false)

theorem OwnB.nil (w : World) (B : Nat) : OwnB w B (.slice none 0 0) [] := .inl ⟨rfl, rfl⟩
theorem OwnB.form {w : World} {B : Nat} {v : Value} {xs : List UInt8} (h : OwnB w B v xs) : ∃ p cap, v = .slice p xs.length cap := by
  rcases h with ⟨rfl, rfl⟩ | ⟨g, cap, rfl, _⟩
  · exact ⟨_, _, rfl⟩
  · exact ⟨_, _, rfl⟩
theorem OwnB.keep {w w' : World} {B : Nat} {v : Value} {xs : List UInt8} (h : OwnB w B v xs) (hs : w.heap.size ≤ w'.heap.size) (hb : ∀ k, B ≤ k → k < w.heap.size → v.ownBlock = some k → w'.heap[k]? = w.heap[k]?) : OwnB w' B v xs := by
  rcases h with h | ⟨g, cap, rfl, hg, hlt, h1, h2, hc, hsp⟩
  · exact .inl h
  · have hbk := hb g hg hlt rfl
    refine .inr ⟨g, cap, rfl, hg, Nat.lt_of_lt_of_le hlt hs, h1, h2, fun j hj => ?_, fun j hj hj' => ?_⟩
    · rw [World.cell?_of_block (w := w) (a := ⟨g, j, none⟩) hbk]; exact hc j hj
    · rw [World.cell?_of_block (w := w) (a := ⟨g, j, none⟩) hbk, World.frozen?_of_block (w := w) (a := ⟨g, j, none⟩) hbk]; exact hsp j hj hj'
theorem OwnB.alloc {w : World} {B : Nat} {v : Value} {xs : List UInt8} (h : OwnB w B v xs) (o : Obj) : OwnB (w.alloc o) B v xs :=
  h.keep (by simp) fun k _ hk _ => Below.heap_alloc w o k hk
theorem OwnB.drewN {w : World} {B : Nat} {v : Value} {xs : List UInt8} (h : OwnB w B v xs) (n : Nat) : OwnB (w.drewN n) B v xs := h
theorem OwnB.drew {w : World} {B : Nat} {v : Value} {xs : List UInt8} (h : OwnB w B v xs) : OwnB w.drew B v xs := h
theorem OwnB.below {w w' : World} {B : Nat} {v : Value} {xs : List UInt8} (h : OwnB w B v xs) (hb : Below w.heap.size w w') : OwnB w' B v xs :=
  h.keep hb.size fun k _ hk _ => hb.block k hk
theorem OwnB.setCell {w : World} {B : Nat} {v : Value} {xs : List UInt8} (h : OwnB w B v xs) {p : Addr} (hp : v.ownBlock ≠ some p.block) (u : Value) : OwnB (w.setCell p u) B v xs :=
  h.keep (by simp [World.setCell]) fun k _ _ he => Below.heap_setCell w p u k (fun e => hp (by rw [he, e]))
theorem OwnB.lt {w : World} {B : Nat} {v : Value} {xs : List UInt8} (h : OwnB w B v xs) : ∀ k, v.ownBlock = some k → B ≤ k ∧ k < w.heap.size := by
  intro k hk
  rcases h with ⟨rfl, _⟩ | ⟨g, cap, rfl, hg, hlt, _⟩
  · simp [Value.ownBlock] at hk
  · simp [Value.ownBlock] at hk
    subst hk
    exact ⟨hg, hlt⟩
theorem OwnB.mono {w : World} {B B' : Nat} {v : Value} {xs : List UInt8} (h : OwnB w B v xs) (hB : B' ≤ B) : OwnB w B' v xs := by
  rcases h with h | ⟨g, cap, hv, hg, r⟩
  · exact .inl h
  · exact .inr ⟨g, cap, hv, by omega, r⟩
theorem OwnB.of_row {w : World} {B : Nat} {v : Value} {n : Nat} {xs : List UInt8} (h : w.ownsRow B 5 1 v n (bcells xs)) : OwnB w B v xs := by
  have hn : xs.length = n := by have := h.1; rw [bcells_length] at this; omega
  subst hn
  rcases h.2 with ⟨rfl, h0⟩ | ⟨g, cap, cur, rfl, hg, hh, h1, h2, h3, h4⟩
  · exact .inl ⟨rfl, List.length_eq_zero_iff.1 h0⟩
  · have hlt : g < w.heap.size := (Array.getElem?_eq_some_iff.1 hh).1
    refine .inr ⟨g, cap, rfl, hg, hlt, h1, h2, fun j hj => ?_, fun j _ hj => ?_⟩
    · rw [cell_of_row w g j cur 5 (0, 0) hh]
      have e := bcells_get xs j hj
      rw [← h4, List.getElem?_take, if_pos (by omega)] at e
      simpa using e
    · rw [cell_of_row w g j cur 5 (0, 0) hh, frozen_of_row w g j cur 5 hh]
      have : j < cur.size := by omega
      simp [this]

/-- []byte(s). -/
theorem OwnB.conv (w : World) (s : ByteArray) (hs : s.size ≤ maxLen) : OwnB (Lib.bytesWorld w 5 s) w.heap.size (.slice (some ⟨w.heap.size, 0, none⟩) s.size (grownCap w s.size 0 5)) s.data.toList := by
  have hl : s.data.toList.length = s.size := by simp
  have hge := grownCap_ge w s.size 0 5
  refine .inr ⟨w.heap.size, _, by rw [hl], Nat.le_refl _, by rw [Lib.bytesWorld_size]; omega, by rw [hl]; exact hge, grownCap_le_maxLen w _ _ _ hs, fun j hj => ?_, fun j hj hj' => ?_⟩
  · exact Lib.bytesWorld_cell w 5 s j (by omega)
  · have hb := Lib.bytesWorld_at_new w 5 s
    have hsz : (Lib.bytesCells w 5 s).size = grownCap w s.size 0 5 := by
      have : s.data.size = s.size := rfl
      simp [Lib.bytesCells, this]
      omega
    have hlt : j < (Lib.bytesCells w 5 s).size := by rw [hsz]; exact hj'
    rw [cell_of_row _ _ j _ _ _ hb]
    refine ⟨by rw [Array.getElem?_eq_getElem hlt]; rfl, ?_⟩
    simp only [World.frozen?, hb]
    rw [Bool.and_eq_false_iff]
    left
    simp only [decide_eq_false_iff_not]
    omega
theorem below_conv (w : World) (s : ByteArray) : Below w.heap.size w (Lib.bytesWorld w 5 s) := by
  refine ⟨rfl, rfl, rfl, by rw [Lib.bytesWorld_size]; omega, fun k hk => Lib.bytesWorld_at_old w 5 s k hk⟩

theorem grown_setCells (b : Nat) : ∀ (vs : List Value) (o : Nat) (w : World), w.grownBy (w.setCells b o vs) (some b)
  | [], _, w => World.grownBy.refl w _
  | v :: vs, o, w => by
    have h := grown_setCells b vs (o + 1) (w.setCell ⟨b, o, none⟩ v)
    have hs : (w.setCell ⟨b, o, none⟩ v).heap.size = w.heap.size := by simp [World.setCell]
    refine ⟨h.os, h.tape, h.output, by have := h.size; rw [hs] at this; exact this, fun k hk hn => (h.block k (by rw [hs]; exact hk) hn).trans (Below.heap_setCell w _ v k (fun e => hn (by rw [e])))⟩

/-- append(b, ys...). -/
theorem wpList_append_B (w : World) {ops : Array Oper} {rest : List Oper} {o : Oper} {a : Act} {Q : Exit → Act → World → Prop} (hgd : o.guard = none) (s x : Operand)
    (ho : o.op = .call { callee := .builtin .append, args := #[s, x], argTypes := #[28, 28] })
    (B : Nat) (v : Value) (xs : List UInt8) (hs : a.eval s = v) (hown : OwnB w B v xs)
    (ad : Addr) (m c : Nat) (ys : List UInt8) (hx : a.eval x = .slice (some ad) m c) (hm : ys.length = m) (hc : ∀ j u, (bcells ys)[j]? = some u → w.cell? (ad.add j) = some u)
    (hlen : xs.length + m ≤ 140737488355328) (hB : B ≤ w.heap.size)
    (h : ∀ v' w', OwnB w' B v' (xs ++ ys) → w.grownBy w' v.ownBlock → wpList Try.prog ops Q rest (a.put o.dst v') w') : wpList Try.prog ops Q (o :: rest) a w := by
  obtain ⟨i0, hi, hz0, hz1, hz2⟩ := info_parts (show (Try.prog.info? 5).map (fun i => (i.zero, i.size, i.bytes)) = some (some (.int .u8 0), 1, 1) by kernel_rfl)
  have hm63 : xs.length + m ≤ maxLen := by unfold maxLen; omega
  rcases hown with ⟨rfl, rfl⟩ | ⟨g, cap, rfl, hg, hlt, h1, h2, hcells, hsp⟩
  · by_cases h0 : m = 0
    · subst h0
      have hy : ys = [] := List.length_eq_zero_iff.1 hm
      subst hy
      refine wpList_append_own w hgd s x 28 ho B 5 i0 (.int .u8 0) 1 1 Try.underlying28 hi hz0 hz1 hz2 rfl (by decide) (.slice none 0 0) 0 [] hs (World.ownsRow_nil _ _ _ _) ad 0 c [] hx rfl (by intro j u hj; simp at hj) (by intro u hu; simp at hu) (by decide) (by decide) hB ?_
      intro v' w' h1 h2 h3
      exact h v' w' (OwnB.of_row (n := 0) (by simpa [bcells] using h1)) h2
    · refine wpList_append_own w hgd s x 28 ho B 5 i0 (.int .u8 0) 1 1 Try.underlying28 hi hz0 hz1 hz2 rfl (by decide) (.slice none 0 0) 0 [] hs (World.ownsRow_nil _ _ _ _) ad m c (bcells ys) hx (by rw [bcells_length, hm, Nat.mul_one]) hc (bcells_one _) (by simpa using hm63) (by simp at hlen ⊢; omega) hB ?_
      intro v' w' h1 h2 h3
      exact h v' w' (OwnB.of_row (n := 0 + m) (by simpa [bcells] using h1)) h2
  · refine wpList_append_arg w hgd s x 28 ho 5 i0 (.int .u8 0) 1 1 Try.underlying28 hi hz0 hz1 hz2 rfl (by decide) g 0 xs.length cap (bcells xs) hs (by rw [bcells_length, Nat.mul_one]) (fun j u hj => ?_) ad m c (bcells ys) hx (by rw [bcells_length, hm, Nat.mul_one]) hc (bcells_one _) (fun hr j hj => ?_) hm63 (by omega) (fun hr => ?_) (fun hgr v' w' hrow hgb => ?_)
    · have hjl : j < xs.length := by have := (List.getElem?_eq_some_iff.1 hj).1; rwa [bcells_length] at this
      rw [bcells_get xs j hjl] at hj
      rw [Nat.zero_add, hcells j hjl]
      exact hj
    · rw [bcells_length] at hj
      have := hsp (xs.length + j) (by omega) (by omega)
      simpa [Nat.zero_add, Nat.mul_one] using this
    · have hgrow := grown_setCells g (bcells ys) (0 + xs.length * 1) w
      have hst : ∀ j, j < (bcells ys).length → (w.cell? ⟨g, (0 + xs.length * 1) + j, none⟩).isSome = true := by
        intro j hj
        rw [bcells_length] at hj
        have := (hsp (xs.length + j) (by omega) (by omega)).1
        simpa [Nat.zero_add, Nat.mul_one] using this
      refine h _ _ (.inr ⟨g, cap, by rw [List.length_append, hm], hg, Nat.lt_of_lt_of_le hlt hgrow.size, by rw [List.length_append, hm]; exact hr, h2, fun j hj => ?_, fun j hj hj' => ?_⟩) hgrow
      · rw [List.length_append] at hj
        by_cases hjx : j < xs.length
        · rw [World.cell?_setCells_out g _ _ _ _ (fun _ _ => .inl (by show j < 0 + xs.length * 1; omega)), hcells j hjx]
          simp [List.getElem?_append_left hjx]
        · have e := World.cell?_setCells_in g (bcells ys) (0 + xs.length * 1) w hst (j - xs.length) (by rw [bcells_length]; omega)
          rw [show 0 + xs.length * 1 + (j - xs.length) = j by omega] at e
          rw [e]
          simp [bcells, List.getElem?_append_right (show xs.length ≤ j by omega), List.getElem?_eq_getElem (show j - xs.length < ys.length by omega)]
      · rw [List.length_append] at hj
        rw [World.frozen?_setCells, World.cell?_setCells_out g _ _ _ _ (fun _ _ => .inr (by show 0 + xs.length * 1 + (bcells ys).length ≤ j; rw [bcells_length]; omega))]
        exact hsp j (by omega) hj'
    · refine h v' w' ((OwnB.of_row (n := xs.length + m) (by rw [bcells_append]; exact hrow)).mono hB) ⟨hgb.os, hgb.tape, hgb.output, hgb.size, fun k hk _ => hgb.block k hk (by simp)⟩

/-- string(b). -/
theorem run_string_B (w : World) (B : Nat) (v : Value) (xs : List UInt8) (h : OwnB w B v xs) : (convert 28 9 v).run Try.prog w = .ok (.string ⟨xs.toArray⟩) w := by
  rcases h with ⟨rfl, rfl⟩ | ⟨g, cap, rfl, _, _, _, _, hc, _⟩
  · exact run_convert_bytes_nil w 28 5 Try.underlying28 Try.underlying5 0 0 9 Try.underlying9
  · refine run_convert_bytes_back w 28 9 5 ⟨g, 0, none⟩ cap xs Try.underlying28 Try.underlying5 Try.underlying9 fun j hj => ?_
    have hadd : (⟨g, 0, none⟩ : Addr).add j = ⟨g, j, none⟩ := by unfold Addr.add; split <;> simp_all
    rw [hadd, hc j hj]
    simp [List.getElem?_eq_getElem hj]
end Go.Proofs.Ytlpdbkhpchmpmaa
