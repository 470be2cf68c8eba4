/-
  Words for memory (a block that is known whole), byte slices that the call has made, append and string(..).
-/
import Derived.Test.YtbmgalknlglhaaaDoorRows
import Derived.WalkKit
import Derived.BigQuiet
import Derived.Deep.QuietTactic
import Derived.Deep.Draws
import Derived.Laws.Rows
import Derived.Laws.BitsAllLaws
import Derived.Lib.Hide
import Derived.Deep.WholeRow
import Derived.Lib.ConvBytes
import Derived.Laws.BytesArg
import Derived.ArgAppend
import Derived.Laws.IdiomCopy
import Derived.Laws.IdiomStrings
import Derived.Lib.Builder
import Derived.Lib.BufferWrite
namespace Go.Proofs.YtbmgalknlglhaaaDoor
open Go.RowKit
set_option linter.unusedVariables false

/-! ### a block that is known whole -/
def Blk (w : World) (g : Nat) (t : TypeId) (cs : Array Value) : Prop := w.heap[g]? = some (.cells cs t (0, 0))

section
variable {w w' : World} {g : Nat} {t : TypeId} {cs : Array Value}
theorem Blk.lt (h : Blk w g t cs) : g < w.heap.size := by
  rcases Nat.lt_or_ge g w.heap.size with hlt | hge
  · exact hlt
  · unfold Blk at h; rw [Array.getElem?_eq_none hge] at h; cases h
theorem Blk.cell (h : Blk w g t cs) (i : Nat) : w.cell? ⟨g, i, none⟩ = cs[i]? := cell_of_row w g i cs t (0, 0) h
theorem Blk.frozen (h : Blk w g t cs) (i : Nat) : w.frozen? ⟨g, i, none⟩ = false := by
  unfold Blk at h
  simp [World.frozen?, h]
theorem Blk.new (w : World) (t : TypeId) (cs : Array Value) : Blk (w.alloc (.cells cs t)) w.heap.size t cs := heap_alloc_new w _
theorem Blk.new_at (w : World) (n : Nat) (hn : w.heap.size = n) (t : TypeId) (cs : Array Value) : Blk (w.alloc (.cells cs t)) n t cs := hn ▸ Blk.new w t cs
theorem Blk.setRow (h : Blk w g t cs) (cs' : Array Value) : Blk (w.setRow g cs') g t cs' := setRow_heap w g cs _ t _ h
theorem Blk.setRow_far {g' : Nat} (h : Blk w g t cs) (hn : g ≠ g') (cs' : Array Value) : Blk (w.setRow g' cs') g t cs := (setRow_other w g' g cs' hn).trans h
theorem Blk.drew (h : Blk w g t cs) : Blk w.drew g t cs := h
theorem Blk.drewN (h : Blk w g t cs) (n : Nat) : Blk (w.drewN n) g t cs := h
theorem Blk.alloc (h : Blk w g t cs) (o : Obj) : Blk (w.alloc o) g t cs := (Below.heap_alloc w o g h.lt).trans h
theorem Blk.set_ (h : Blk w g t cs) (i : Nat) (u : Value) : Blk (w.setCell ⟨g, i, none⟩ u) g t (cs.setIfInBounds i u) := by
  unfold Blk at h ⊢
  simp [World.setCell, Array.getElem?_modify, h]
theorem Blk.far (h : Blk w g t cs) {p : Addr} (hp : g ≠ p.block) (u : Value) : Blk (w.setCell p u) g t cs := (Below.heap_setCell w p u g hp).trans h
theorem Blk.below {B : Nat} (h : Blk w g t cs) (hb : Below B w w') (hg : g < B) : Blk w' g t cs := (hb.block g hg).trans h
theorem Blk.grown {row : Option Nat} (h : Blk w g t cs) (hb : w.grownBy w' row) (hg : some g ≠ row) : Blk w' g t cs := (hb.block g h.lt hg).trans h
end
theorem below_drewN {B : Nat} {a w : World} (h : Below B a w) (n : Nat) : Below B a (w.drewN n) := ⟨h.os, h.tape, h.output, h.size, h.block⟩

theorem below_setRow' {B : Nat} {a w : World} (h : Below B a w) (g : Nat) (hg : B ≤ g) (cs : Array Value) : Below B a (w.setRow g cs) :=
  h.trans ⟨rfl, rfl, rfl, by simp, fun k hk => setRow_other w g k cs (by omega)⟩

def bcells (xs : List UInt8) : List Value := xs.map fun c => Value.int .u8 (c.toNat : Int)
theorem bcells_length (xs : List UInt8) : (bcells xs).length = xs.length := by simp [bcells]
theorem bcells_get (xs : List UInt8) (j : Nat) (h : j < xs.length) : (bcells xs)[j]? = some (.int .u8 ((xs.getD j 0).toNat : Int)) := by
  simp [bcells, h]
theorem bcells_append (xs ys : List UInt8) : bcells (xs ++ ys) = bcells xs ++ bcells ys := by simp [bcells]
theorem bcells_one (xs : List UInt8) : ∀ u ∈ bcells xs, u.oneCell' = true := by
  intro u hu
  obtain ⟨c, _, rfl⟩ := List.mem_map.1 hu
  rfl
theorem byte_of (x : Int) (h0 : 0 ≤ x) (h1 : x < 256) : Value.int .u8 ((UInt8.ofNat x.toNat).toNat : Int) = .int .u8 x := by
  rw [UInt8.toNat_ofNat', Nat.mod_eq_of_lt (by omega), Int.toNat_of_nonneg h0]

/-- The slice v of the bytes xs is the call's own: nil and empty, or at the head of a block from B on whose further cells may be written. -/
def OwnB (w : World) (B : Nat) (v : Value) (xs : List UInt8) : Prop :=
  (v = .slice none 0 0 ∧ xs = []) ∨
  ∃ g cap, v = .slice (some ⟨g, 0, none⟩) xs.length cap ∧ B ≤ g ∧ g < w.heap.size ∧ xs.length ≤ cap ∧ cap ≤ maxLen ∧
    (∀ j, j < xs.length → w.cell? ⟨g, j, none⟩ = some (.int .u8 ((xs.getD j 0).toNat : Int))) ∧
    (∀ j, xs.length ≤ j → j < cap → (w.cell? ⟨g, j, none⟩).isSome = true ∧ w.frozen? ⟨g, j, none⟩ = false)

theorem OwnB.nil (w : World) (B : Nat) : OwnB w B (.slice none 0 0) [] := .inl ⟨rfl, rfl⟩
theorem OwnB.form {w : World} {B : Nat} {v : Value} {xs : List UInt8} (h : OwnB w B v xs) : ∃ p cap, v = .slice p xs.length cap := by
  rcases h with ⟨rfl, rfl⟩ | ⟨g, cap, rfl, _⟩
  · exact ⟨_, _, rfl⟩
  · exact ⟨_, _, rfl⟩
theorem OwnB.keep {w w' : World} {B : Nat} {v : Value} {xs : List UInt8} (h : OwnB w B v xs) (hs : w.heap.size ≤ w'.heap.size) (hb : ∀ k, B ≤ k → k < w.heap.size → v.ownBlock = some k → w'.heap[k]? = w.heap[k]?) : OwnB w' B v xs := by
  rcases h with h | ⟨g, cap, rfl, hg, hlt, h1, h2, hc, hsp⟩
  · exact .inl h
  · have hbk := hb g hg hlt rfl
    refine .inr ⟨g, cap, rfl, hg, Nat.lt_of_lt_of_le hlt hs, h1, h2, fun j hj => ?_, fun j hj hj' => ?_⟩
    · rw [World.cell?_of_block (w := w) (a := ⟨g, j, none⟩) hbk]; exact hc j hj
    · rw [World.cell?_of_block (w := w) (a := ⟨g, j, none⟩) hbk, World.frozen?_of_block (w := w) (a := ⟨g, j, none⟩) hbk]; exact hsp j hj hj'
theorem OwnB.alloc {w : World} {B : Nat} {v : Value} {xs : List UInt8} (h : OwnB w B v xs) (o : Obj) : OwnB (w.alloc o) B v xs :=
  h.keep (by simp) fun k _ hk _ => Below.heap_alloc w o k hk
theorem OwnB.drewN {w : World} {B : Nat} {v : Value} {xs : List UInt8} (h : OwnB w B v xs) (n : Nat) : OwnB (w.drewN n) B v xs := h
theorem OwnB.drew {w : World} {B : Nat} {v : Value} {xs : List UInt8} (h : OwnB w B v xs) : OwnB w.drew B v xs := h
theorem OwnB.below {w w' : World} {B : Nat} {v : Value} {xs : List UInt8} (h : OwnB w B v xs) (hb : Below w.heap.size w w') : OwnB w' B v xs :=
  h.keep hb.size fun k _ hk _ => hb.block k hk
theorem OwnB.setCell {w : World} {B : Nat} {v : Value} {xs : List UInt8} (h : OwnB w B v xs) {p : Addr} (hp : v.ownBlock ≠ some p.block) (u : Value) : OwnB (w.setCell p u) B v xs :=
  h.keep (by simp [World.setCell]) fun k _ _ he => Below.heap_setCell w p u k (fun e => hp (by rw [he, e]))
theorem OwnB.lt {w : World} {B : Nat} {v : Value} {xs : List UInt8} (h : OwnB w B v xs) : ∀ k, v.ownBlock = some k → B ≤ k ∧ k < w.heap.size := by
  intro k hk
  rcases h with ⟨rfl, _⟩ | ⟨g, cap, rfl, hg, hlt, _⟩
  · simp [Value.ownBlock] at hk
  · simp [Value.ownBlock] at hk
    subst hk
    exact ⟨hg, hlt⟩
theorem OwnB.mono {w : World} {B B' : Nat} {v : Value} {xs : List UInt8} (h : OwnB w B v xs) (hB : B' ≤ B) : OwnB w B' v xs := by
  rcases h with h | ⟨g, cap, hv, hg, r⟩
  · exact .inl h
  · exact .inr ⟨g, cap, hv, by omega, r⟩
theorem OwnB.of_row {w : World} {B : Nat} {v : Value} {n : Nat} {xs : List UInt8} (h : w.ownsRow B 5 1 v n (bcells xs)) : OwnB w B v xs := by
  have hn : xs.length = n := by have := h.1; rw [bcells_length] at this; omega
  subst hn
  rcases h.2 with ⟨rfl, h0⟩ | ⟨g, cap, cur, rfl, hg, hh, h1, h2, h3, h4⟩
  · exact .inl ⟨rfl, List.length_eq_zero_iff.1 h0⟩
  · have hlt : g < w.heap.size := (Array.getElem?_eq_some_iff.1 hh).1
    refine .inr ⟨g, cap, rfl, hg, hlt, h1, h2, fun j hj => ?_, fun j _ hj => ?_⟩
    · rw [cell_of_row w g j cur 5 (0, 0) hh]
      have e := bcells_get xs j hj
      rw [← h4, List.getElem?_take, if_pos (by omega)] at e
      simpa using e
    · rw [cell_of_row w g j cur 5 (0, 0) hh, frozen_of_row w g j cur 5 hh]
      have : j < cur.size := by omega
      simp [this]

/-- []byte(s). -/
theorem OwnB.conv (w : World) (s : ByteArray) (hs : s.size ≤ maxLen) : OwnB (Lib.bytesWorld w 5 s) w.heap.size (.slice (some ⟨w.heap.size, 0, none⟩) s.size (grownCap w s.size 0 5)) s.data.toList := by
  have hl : s.data.toList.length = s.size := by simp
  have hge := grownCap_ge w s.size 0 5
  refine .inr ⟨w.heap.size, _, by rw [hl], Nat.le_refl _, by rw [Lib.bytesWorld_size]; omega, by rw [hl]; exact hge, grownCap_le_maxLen w _ _ _ hs, fun j hj => ?_, fun j hj hj' => ?_⟩
  · exact Lib.bytesWorld_cell w 5 s j (by omega)
  · have hb := Lib.bytesWorld_at_new w 5 s
    have hsz : (Lib.bytesCells w 5 s).size = grownCap w s.size 0 5 := by
      have : s.data.size = s.size := rfl
      simp [Lib.bytesCells, this]
      omega
    have hlt : j < (Lib.bytesCells w 5 s).size := by rw [hsz]; exact hj'
    rw [cell_of_row _ _ j _ _ _ hb]
    refine ⟨by rw [Array.getElem?_eq_getElem hlt]; rfl, ?_⟩
    simp only [World.frozen?, hb]
    rw [Bool.and_eq_false_iff]
    left
    simp only [decide_eq_false_iff_not]
    omega
theorem below_conv (w : World) (s : ByteArray) : Below w.heap.size w (Lib.bytesWorld w 5 s) := by
  refine ⟨rfl, rfl, rfl, by rw [Lib.bytesWorld_size]; omega, fun k hk => Lib.bytesWorld_at_old w 5 s k hk⟩

theorem grown_setCells (b : Nat) : ∀ (vs : List Value) (o : Nat) (w : World), w.grownBy (w.setCells b o vs) (some b)
  | [], _, w => World.grownBy.refl w _
  | v :: vs, o, w => by
    have h := grown_setCells b vs (o + 1) (w.setCell ⟨b, o, none⟩ v)
    have hs : (w.setCell ⟨b, o, none⟩ v).heap.size = w.heap.size := by simp [World.setCell]
    refine ⟨h.os, h.tape, h.output, by have := h.size; rw [hs] at this; exact this, fun k hk hn => (h.block k (by rw [hs]; exact hk) hn).trans (Below.heap_setCell w _ v k (fun e => hn (by rw [e])))⟩

/-- append(b, ys...). -/
theorem wpList_append_B (w : World) {ops : Array Oper} {rest : List Oper} {o : Oper} {a : Act} {Q : Exit → Act → World → Prop} (hgd : o.guard = none) (s x : Operand)
    (ho : o.op = .call { callee := .builtin .append, args := #[s, x], argTypes := #[47, 47] })
    (B : Nat) (v : Value) (xs : List UInt8) (hs : a.eval s = v) (hown : OwnB w B v xs)
    (ad : Addr) (m c : Nat) (ys : List UInt8) (hx : a.eval x = .slice (some ad) m c) (hm : ys.length = m) (hc : ∀ j u, (bcells ys)[j]? = some u → w.cell? (ad.add j) = some u)
    (hlen : xs.length + m ≤ 140737488355328) (hB : B ≤ w.heap.size)
    (h : ∀ v' w', OwnB w' B v' (xs ++ ys) → w.grownBy w' v.ownBlock → wpList Tryd.prog ops Q rest (a.put o.dst v') w') : wpList Tryd.prog ops Q (o :: rest) a w := by
  obtain ⟨i0, hi, hz0, hz1, hz2⟩ := info_parts (show (Tryd.prog.info? 5).map (fun i => (i.zero, i.size, i.bytes)) = some (some (.int .u8 0), 1, 1) by kernel_rfl)
  have hm63 : xs.length + m ≤ maxLen := by unfold maxLen; omega
  rcases hown with ⟨rfl, rfl⟩ | ⟨g, cap, rfl, hg, hlt, h1, h2, hcells, hsp⟩
  · by_cases h0 : m = 0
    · subst h0
      have hy : ys = [] := List.length_eq_zero_iff.1 hm
      subst hy
      refine wpList_append_own w hgd s x 47 ho B 5 i0 (.int .u8 0) 1 1 Tryd.underlying47 hi hz0 hz1 hz2 rfl (by decide) (.slice none 0 0) 0 [] hs (World.ownsRow_nil _ _ _ _) ad 0 c [] hx rfl (by intro j u hj; simp at hj) (by intro u hu; simp at hu) (by decide) (by decide) hB ?_
      intro v' w' h1 h2 h3
      exact h v' w' (OwnB.of_row (n := 0) (by simpa [bcells] using h1)) h2
    · refine wpList_append_own w hgd s x 47 ho B 5 i0 (.int .u8 0) 1 1 Tryd.underlying47 hi hz0 hz1 hz2 rfl (by decide) (.slice none 0 0) 0 [] hs (World.ownsRow_nil _ _ _ _) ad m c (bcells ys) hx (by rw [bcells_length, hm, Nat.mul_one]) hc (bcells_one _) (by simpa using hm63) (by simp at hlen ⊢; omega) hB ?_
      intro v' w' h1 h2 h3
      exact h v' w' (OwnB.of_row (n := 0 + m) (by simpa [bcells] using h1)) h2
  · refine wpList_append_arg w hgd s x 47 ho 5 i0 (.int .u8 0) 1 1 Tryd.underlying47 hi hz0 hz1 hz2 rfl (by decide) g 0 xs.length cap (bcells xs) hs (by rw [bcells_length, Nat.mul_one]) (fun j u hj => ?_) ad m c (bcells ys) hx (by rw [bcells_length, hm, Nat.mul_one]) hc (bcells_one _) (fun hr j hj => ?_) hm63 (by omega) (fun hr => ?_) (fun hgr v' w' hrow hgb => ?_)
    · have hjl : j < xs.length := by have := (List.getElem?_eq_some_iff.1 hj).1; rwa [bcells_length] at this
      rw [bcells_get xs j hjl] at hj
      rw [Nat.zero_add, hcells j hjl]
      exact hj
    · rw [bcells_length] at hj
      have := hsp (xs.length + j) (by omega) (by omega)
      simpa [Nat.zero_add, Nat.mul_one] using this
    · have hgrow := grown_setCells g (bcells ys) (0 + xs.length * 1) w
      have hst : ∀ j, j < (bcells ys).length → (w.cell? ⟨g, (0 + xs.length * 1) + j, none⟩).isSome = true := by
        intro j hj
        rw [bcells_length] at hj
        have := (hsp (xs.length + j) (by omega) (by omega)).1
        simpa [Nat.zero_add, Nat.mul_one] using this
      refine h _ _ (.inr ⟨g, cap, by rw [List.length_append, hm], hg, Nat.lt_of_lt_of_le hlt hgrow.size, by rw [List.length_append, hm]; exact hr, h2, fun j hj => ?_, fun j hj hj' => ?_⟩) hgrow
      · rw [List.length_append] at hj
        by_cases hjx : j < xs.length
        · rw [World.cell?_setCells_out g _ _ _ _ (fun _ _ => .inl (by show j < 0 + xs.length * 1; omega)), hcells j hjx]
          simp [List.getElem?_append_left hjx]
        · have e := World.cell?_setCells_in g (bcells ys) (0 + xs.length * 1) w hst (j - xs.length) (by rw [bcells_length]; omega)
          rw [show 0 + xs.length * 1 + (j - xs.length) = j by omega] at e
          rw [e]
          simp [bcells, List.getElem?_append_right (show xs.length ≤ j by omega), List.getElem?_eq_getElem (show j - xs.length < ys.length by omega)]
      · rw [List.length_append] at hj
        rw [World.frozen?_setCells, World.cell?_setCells_out g _ _ _ _ (fun _ _ => .inr (by show 0 + xs.length * 1 + (bcells ys).length ≤ j; rw [bcells_length]; omega))]
        exact hsp j (by omega) hj'
    · refine h v' w' ((OwnB.of_row (n := xs.length + m) (by rw [bcells_append]; exact hrow)).mono hB) ⟨hgb.os, hgb.tape, hgb.output, hgb.size, fun k hk _ => hgb.block k hk (by simp)⟩

/-- string(b). -/
theorem run_string_B (w : World) (B : Nat) (v : Value) (xs : List UInt8) (h : OwnB w B v xs) : (convert 47 9 v).run Tryd.prog w = .ok (.string ⟨xs.toArray⟩) w := by
  rcases h with ⟨rfl, rfl⟩ | ⟨g, cap, rfl, _, _, _, _, hc, _⟩
  · exact run_convert_bytes_nil w 47 5 Tryd.underlying47 Tryd.underlying5 0 0 9 Tryd.underlying9
  · refine run_convert_bytes_back w 47 9 5 ⟨g, 0, none⟩ cap xs Tryd.underlying47 Tryd.underlying5 Tryd.underlying9 fun j hj => ?_
    have hadd : (⟨g, 0, none⟩ : Addr).add j = ⟨g, j, none⟩ := by unfold Addr.add; split <;> simp_all
    rw [hadd, hc j hj]
    simp [List.getElem?_eq_getElem hj]
def strOf (l : List UInt8) : ByteArray := ⟨l.toArray⟩
theorem strOf_size (l : List UInt8) : (strOf l).size = l.length := by simp [strOf, ByteArray.size]
/-- The byte of a number that has i bytes behind it. -/
def byteAt (n : Int) (i : Nat) : UInt8 := UInt8.ofNat (n / 256 ^ i % 256).toNat
def lastB (n : Int) (k : Nat) : List UInt8 := (List.range k).reverse.map (byteAt n)
def be8 (n : Int) : List UInt8 := lastB n 8
theorem lastB_length (n : Int) (k : Nat) : (lastB n k).length = k := by simp [lastB]
theorem lastB_succ (n : Int) (k : Nat) : lastB n (k + 1) = byteAt n k :: lastB n k := by
  simp [lastB, List.range_succ]
theorem be8_length (n : Int) : (be8 n).length = 8 := lastB_length n 8
theorem byteAt_val (n : Int) (i : Nat) : Value.int .u8 ((byteAt n i).toNat : Int) = .int .u8 (n / 256 ^ i % 256) :=
  byte_of _ (Int.emod_nonneg _ (by decide)) (Int.emod_lt_of_pos _ (by decide))
def numArr (n : Int) (k : Nat) : Array Value := (bcells (List.replicate (8 - k) 0 ++ lastB n k)).toArray
theorem numArr_size (n : Int) (k : Nat) (h : k ≤ 8) : (numArr n k).size = 8 := by simp [numArr, bcells, lastB_length]; omega
theorem numArr_some (n : Int) (k j : Nat) (h : k ≤ 8) (hj : j < 8) : ∃ v, (numArr n k)[j]? = some v := by
  rw [Array.getElem?_eq_getElem (by rw [numArr_size n k h]; exact hj)]
  exact ⟨_, rfl⟩
theorem numArr_succ (n : Int) (k : Nat) (h : k < 8) : (numArr n k).setIfInBounds (7 - k) (.int .u8 (n / 256 ^ k % 256)) = numArr n (k + 1) := by
  rw [← byteAt_val, numArr, numArr, lastB_succ]
  apply Array.toList_inj.1
  rw [Array.toList_setIfInBounds]
  have e : 8 - k = (7 - k) + 1 := by omega
  simp only [bcells]
  rw [show (fun c : UInt8 => Value.int .u8 (c.toNat : Int)) = (fun c : UInt8 => Value.int .u8 (c.toNat : Int)) from rfl]
  rw [← List.map_set, e, show 8 - (k + 1) = 7 - k by omega, List.replicate_succ']
  congr 1
  rw [List.append_assoc, List.set_append_right _ _ (by simp)]
  simp

/-- One new byte, as append(b, x) lays it. -/
theorem news_one (w : World) (c : UInt8) (x : Int) (h : Value.int .u8 x = .int .u8 (c.toNat : Int)) : ∀ j u, (bcells [c])[j]? = some u → (w.alloc (.cells #[.int .u8 x] 5)).cell? ((⟨w.heap.size, 0, none⟩ : Addr).add j) = some u := by
  intro j u hj
  match j, hj with
  | 0, hj =>
    simp [bcells] at hj
    subst hj
    rw [h]
    simp [Addr.add]

theorem strOf_list (l : List UInt8) : (strOf l).data.toList = l := rfl
theorem strOf_data (s : ByteArray) : strOf s.data.toList = s := by
  apply ByteArray.ext
  simp [strOf]

theorem wpList_append_B2 (w : World) {ops : Array Oper} {rest : List Oper} {o : Oper} {a : Act} {Q : Exit → Act → World → Prop} (hgd : o.guard = none) (s x : Operand)
    (ho : o.op = .call { callee := .builtin .append, args := #[s, x], argTypes := #[47, 47] })
    (B : Nat) (v : Value) (xs : List UInt8) (hs : a.eval s = v) (hown : OwnB w B v xs)
    (ad : Addr) (m c : Nat) (ys : List UInt8) (hx : a.eval x = .slice (some ad) m c) (hm : ys.length = m) (hc : ∀ j u, (bcells ys)[j]? = some u → w.cell? (ad.add j) = some u)
    (hlen : xs.length + m ≤ 140737488355328) (hB : B ≤ w.heap.size)
    (h : ∀ v' w', OwnB w' B v' (xs ++ ys) → w.grownBy w' v.ownBlock → (v'.ownBlock = v.ownBlock ∨ OwnB w' w.heap.size v' (xs ++ ys)) → wpList Tryd.prog ops Q rest (a.put o.dst v') w') : wpList Tryd.prog ops Q (o :: rest) a w := by
  obtain ⟨i0, hi, hz0, hz1, hz2⟩ := info_parts (show (Tryd.prog.info? 5).map (fun i => (i.zero, i.size, i.bytes)) = some (some (.int .u8 0), 1, 1) by kernel_rfl)
  have hm63 : xs.length + m ≤ maxLen := by unfold maxLen; omega
  rcases hown with ⟨rfl, rfl⟩ | ⟨g, cap, rfl, hg, hlt, h1, h2, hcells, hsp⟩
  · by_cases h0 : m = 0
    · subst h0
      have hy : ys = [] := List.length_eq_zero_iff.1 hm
      subst hy
      refine wpList_append_own w hgd s x 47 ho w.heap.size 5 i0 (.int .u8 0) 1 1 Tryd.underlying47 hi hz0 hz1 hz2 rfl (by decide) (.slice none 0 0) 0 [] hs (World.ownsRow_nil _ _ _ _) ad 0 c [] hx rfl (by intro j u hj; simp at hj) (by intro u hu; simp at hu) (by decide) (by decide) (Nat.le_refl _) ?_
      intro v' w' h1 h2 h3
      have ho1 : OwnB w' w.heap.size v' [] := OwnB.of_row (n := 0) (by simpa [bcells] using h1)
      exact h v' w' (ho1.mono hB) h2 (.inr ho1)
    · refine wpList_append_own w hgd s x 47 ho w.heap.size 5 i0 (.int .u8 0) 1 1 Tryd.underlying47 hi hz0 hz1 hz2 rfl (by decide) (.slice none 0 0) 0 [] hs (World.ownsRow_nil _ _ _ _) ad m c (bcells ys) hx (by rw [bcells_length, hm, Nat.mul_one]) hc (bcells_one _) (by simpa using hm63) (by simp at hlen ⊢; omega) (Nat.le_refl _) ?_
      intro v' w' h1 h2 h3
      have ho1 : OwnB w' w.heap.size v' ys := OwnB.of_row (n := 0 + m) (by simpa [bcells] using h1)
      exact h v' w' (ho1.mono hB) h2 (.inr ho1)
  · refine wpList_append_arg w hgd s x 47 ho 5 i0 (.int .u8 0) 1 1 Tryd.underlying47 hi hz0 hz1 hz2 rfl (by decide) g 0 xs.length cap (bcells xs) hs (by rw [bcells_length, Nat.mul_one]) (fun j u hj => ?_) ad m c (bcells ys) hx (by rw [bcells_length, hm, Nat.mul_one]) hc (bcells_one _) (fun hr j hj => ?_) hm63 (by omega) (fun hr => ?_) (fun hgr v' w' hrow hgb => ?_)
    · have hjl : j < xs.length := by have := (List.getElem?_eq_some_iff.1 hj).1; rwa [bcells_length] at this
      rw [bcells_get xs j hjl] at hj
      rw [Nat.zero_add, hcells j hjl]
      exact hj
    · rw [bcells_length] at hj
      have := hsp (xs.length + j) (by omega) (by omega)
      simpa [Nat.zero_add, Nat.mul_one] using this
    · have hgrow := grown_setCells g (bcells ys) (0 + xs.length * 1) w
      have hst : ∀ j, j < (bcells ys).length → (w.cell? ⟨g, (0 + xs.length * 1) + j, none⟩).isSome = true := by
        intro j hj
        rw [bcells_length] at hj
        have := (hsp (xs.length + j) (by omega) (by omega)).1
        simpa [Nat.zero_add, Nat.mul_one] using this
      refine h _ _ (.inr ⟨g, cap, by rw [List.length_append, hm], hg, Nat.lt_of_lt_of_le hlt hgrow.size, by rw [List.length_append, hm]; exact hr, h2, fun j hj => ?_, fun j hj hj' => ?_⟩) hgrow (.inl rfl)
      · rw [List.length_append] at hj
        by_cases hjx : j < xs.length
        · rw [World.cell?_setCells_out g _ _ _ _ (fun _ _ => .inl (by show j < 0 + xs.length * 1; omega)), hcells j hjx]
          simp [List.getElem?_append_left hjx]
        · have e := World.cell?_setCells_in g (bcells ys) (0 + xs.length * 1) w hst (j - xs.length) (by rw [bcells_length]; omega)
          rw [show 0 + xs.length * 1 + (j - xs.length) = j by omega] at e
          rw [e]
          simp [bcells, List.getElem?_append_right (show xs.length ≤ j by omega), List.getElem?_eq_getElem (show j - xs.length < ys.length by omega)]
      · rw [List.length_append] at hj
        rw [World.frozen?_setCells, World.cell?_setCells_out g _ _ _ _ (fun _ _ => .inr (by show 0 + xs.length * 1 + (bcells ys).length ≤ j; rw [bcells_length]; omega))]
        exact hsp j (by omega) hj'
    · have ho1 : OwnB w' w.heap.size v' (xs ++ ys) := OwnB.of_row (n := xs.length + m) (by rw [bcells_append]; exact hrow)
      refine h v' w' (ho1.mono hB) ⟨hgb.os, hgb.tape, hgb.output, hgb.size, fun k hk _ => hgb.block k hk (by simp)⟩ (.inr ho1)


theorem OwnB.grown {w w' : World} {B : Nat} {v u : Value} {xs : List UInt8} (h : OwnB w B v xs) (hg : w.grownBy w' u.ownBlock) (hne : ∀ b, v.ownBlock = some b → u.ownBlock ≠ some b) : OwnB w' B v xs :=
  h.keep hg.size fun k _ hk he => hg.block k hk (fun e => hne k he e.symm)

theorem news_two (w : World) (c d : UInt8) : ∀ j u, (bcells [c, d])[j]? = some u → (w.alloc (.cells #[.int .u8 (c.toNat : Int), .int .u8 (d.toNat : Int)] 5)).cell? ((⟨w.heap.size, 0, none⟩ : Addr).add j) = some u := by
  intro j u hj
  have hadd : (⟨w.heap.size, 0, none⟩ : Addr).add j = ⟨w.heap.size, j, none⟩ := by unfold Addr.add; split <;> simp_all
  rw [hadd, (Blk.new w 5 _).cell j]
  simpa [bcells] using hj

theorem row_keepW {w w' : World} {B n : Nat} {v : Value} {xs : List Value} (h : w.ownsRow B 5 1 v n xs) (hb : ∀ k, v.ownBlock = some k → k < w.heap.size → w'.heap[k]? = w.heap[k]?) : w'.ownsRow B 5 1 v n xs := by
  refine ⟨h.1, ?_⟩
  rcases h.2 with h0 | ⟨g, cap, cur, rfl, hg, hh, r⟩
  · exact .inl h0
  · exact .inr ⟨g, cap, cur, rfl, hg, by rw [hb g rfl (Array.getElem?_eq_some_iff.1 hh).1]; exact hh, r⟩
theorem row_belowW {w w' : World} {B n : Nat} {v : Value} {xs : List Value} (h : w.ownsRow B 5 1 v n xs) (hb : Below w.heap.size w w') : w'.ownsRow B 5 1 v n xs :=
  row_keepW h fun k _ hk => hb.block k hk
end Go.Proofs.YtbmgalknlglhaaaDoor
