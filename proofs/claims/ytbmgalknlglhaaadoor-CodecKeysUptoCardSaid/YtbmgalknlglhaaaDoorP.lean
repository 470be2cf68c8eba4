/-
  Keys of parts: plain words.
-/
import Derived.Test.YtbmgalknlglhaaaDoorA
import Derived.Lib.ReplaceLaws
import Derived.Lib.IndexBytes
namespace Go.Proofs.YtbmgalknlglhaaaDoor
open Go.RowKit
set_option linter.unusedVariables false

/-- A part of a key. -/
structure Pt where
  t : ByteArray
  n : Nat
  b : Bool
instance : Inhabited Pt := ⟨⟨⟨#[]⟩, 0, false⟩⟩
theorem Pt.ext {p q : Pt} (h1 : p.t = q.t) (h2 : p.n = q.n) (h3 : p.b = q.b) : p = q := by
  cases p; cases q; simp_all

def esc (l : List UInt8) : List UInt8 := l.flatMap fun c => if c = 0 then [0, 255] else [c]
theorem esc_nil : esc [] = [] := rfl
theorem esc_cons (c : UInt8) (l : List UInt8) : esc (c :: l) = (if c = 0 then [0, 255] else [c]) ++ esc l := by simp [esc]
theorem esc_append (l r : List UInt8) : esc (l ++ r) = esc l ++ esc r := by simp [esc]
theorem esc_clean (l : List UInt8) (h : ∀ c ∈ l, c ≠ 0) : esc l = l := by
  induction l with
  | nil => rfl
  | cons c l ih =>
    rw [esc_cons, if_neg (h c (by simp)), ih (fun x hx => h x (by simp [hx]))]
    rfl
theorem esc_length (l : List UInt8) : l.length ≤ (esc l).length ∧ (esc l).length ≤ 2 * l.length := by
  induction l with
  | nil => exact ⟨Nat.le_refl _, Nat.le_refl _⟩
  | cons c l ih =>
    rw [esc_cons, List.length_append, List.length_cons]
    split <;> simp <;> omega
theorem rep_esc : ∀ (n : Nat) (s : List UInt8), s.length ≤ n → Lib.replaceK [0] [0, 255] (Lib.count s [0]) s = esc s := by
  intro n
  induction n with
  | zero =>
    intro s hs
    have : s = [] := List.length_eq_zero_iff.1 (by omega)
    subst this
    rfl
  | succ n ih =>
    intro s hs
    rcases Lib.index_spec s [0] with ⟨h, _⟩ | ⟨i, h, _⟩
    · rw [Lib.count_miss h]
      have h' := h
      rw [Lib.index_one] at h'
      have hn := Lib.indexByte_none h'
      rw [esc_clean s (fun c hc => by
        obtain ⟨k, hk⟩ := List.getElem?_of_mem hc
        intro e
        subst e
        exact hn k hk)]
      rfl
    · have h' := h
      rw [Lib.index_one] at h'
      obtain ⟨h1, h2⟩ := Lib.indexByte_some h'
      have hil : i < s.length := (List.getElem?_eq_some_iff.1 h1).1
      rw [Lib.count_hit (by simp) h, Nat.add_comm 1, Lib.replaceK_hit _ _ _ _ _ h, show ([0] : List UInt8).length = 1 from rfl, ih _ (by rw [List.length_drop]; omega)]
      have e : s = s.take i ++ (0 :: s.drop (i + 1)) := by
        have hd : s.drop i = s[i] :: s.drop (i + 1) := List.drop_eq_getElem_cons hil
        have h0 : s[i] = 0 := (List.getElem?_eq_some_iff.1 h1).2
        rw [h0] at hd
        rw [← hd, List.take_append_drop]
      have hc : esc (s.take i) = s.take i := esc_clean _ (fun c hc => by
        obtain ⟨k, hk⟩ := List.getElem?_of_mem hc
        intro e
        subst e
        rw [List.getElem?_take] at hk
        split at hk
        · rename_i hki
          exact h2 k hki hk
        · cases hk)
      conv => rhs; rw [e, esc_append, esc_cons, hc]
      simp
theorem replaceAll_esc (s : List UInt8) : Lib.replaceAll s [0] [0, 255] = esc s := by
  unfold Lib.replaceAll Lib.replace Lib.replaceNum
  rw [if_neg (by decide), if_pos (.inl (by decide))]
  exact rep_esc s.length s (Nat.le_refl _)

def enc (p : Pt) : List UInt8 := if p.b then 1 :: be8 (p.n : Int) else 2 :: (esc p.t.data.toList ++ [0])
def bad (p : Pt) : Bool := (p.b && decide (p.t.size ≠ 0)) || (!p.b && decide (p.n ≠ 0))
def encs (ps : List Pt) : List UInt8 := ps.flatMap enc
def keyL (ps : List Pt) : List UInt8 × Int := if 8 < ps.length then ([], 3) else if ps.any bad then ([], 1) else (encs ps, 0)
theorem encs_nil : encs [] = [] := rfl
theorem encs_cons (p : Pt) (ps : List Pt) : encs (p :: ps) = enc p ++ encs ps := by simp [encs]
theorem encs_append (ps qs : List Pt) : encs (ps ++ qs) = encs ps ++ encs qs := by simp [encs]
theorem take_snoc (ps : List Pt) (k : Nat) (h : k < ps.length) : ps.take (k + 1) = ps.take k ++ [ps.getD k default] := by
  rw [List.take_succ_eq_append_getElem h]
  simp [List.getD_eq_getElem?_getD, List.getElem?_eq_getElem h]
theorem encs_take (ps : List Pt) (k : Nat) (h : k < ps.length) : encs (ps.take (k + 1)) = encs (ps.take k) ++ enc (ps.getD k default) := by
  rw [take_snoc ps k h, encs_append]
  simp [encs]
theorem any_take (ps : List Pt) (k : Nat) (h : k < ps.length) : (ps.take (k + 1)).any bad = ((ps.take k).any bad || bad (ps.getD k default)) := by
  rw [take_snoc ps k h, List.any_append]
  simp
theorem any_at (ps : List Pt) (k : Nat) (h : k < ps.length) (hb : bad (ps.getD k default) = true) : ps.any bad = true := by
  rw [List.any_eq_true]
  refine ⟨ps.getD k default, ?_, hb⟩
  rw [List.getD_eq_getElem?_getD, List.getElem?_eq_getElem h]
  exact List.getElem_mem h
theorem enc_num (p : Pt) (h : p.b = true) : enc p = 1 :: be8 (p.n : Int) := by unfold enc; rw [if_pos h]
theorem enc_text (p : Pt) (h : p.b = false) : enc p = 2 :: (esc p.t.data.toList ++ [0]) := by unfold enc; rw [h]; rfl
theorem enc_length (p : Pt) : (enc p).length ≤ 9 + 2 * p.t.size := by
  unfold enc
  split
  · simp [be8_length]
  · have := (esc_length p.t.data.toList).2
    simp at this ⊢
    omega
def sumT (ps : List Pt) : Nat := (ps.map fun p => p.t.size).sum
theorem encs_length (ps : List Pt) : (encs ps).length ≤ 9 * ps.length + 2 * sumT ps := by
  induction ps with
  | nil => exact Nat.le_refl _
  | cons p ps ih =>
    have := enc_length p
    rw [encs_cons, List.length_append, List.length_cons]
    simp only [sumT, List.map_cons, List.sum_cons] at ih ⊢
    omega
theorem sumT_take (ps : List Pt) (k : Nat) : sumT (ps.take k) ≤ sumT ps := by
  have h : sumT ps = sumT (ps.take k) + sumT (ps.drop k) := by
    conv => lhs; rw [← List.take_append_drop k ps]
    simp only [sumT, List.map_append, List.sum_append]
  omega
theorem sumT_get (ps : List Pt) (k : Nat) (h : k < ps.length) : (ps.getD k default).t.size ≤ sumT ps := by
  have h1 := sumT_take ps (k + 1)
  rw [take_snoc ps k h] at h1
  simp [sumT] at h1
  have : ((ps.getD k default).t).size = (ps[k]?.getD default).t.size := by rw [List.getD_eq_getElem?_getD]
  simp only [sumT]
  omega
attribute [irreducible] encs sumT
end Go.Proofs.YtbmgalknlglhaaaDoor
