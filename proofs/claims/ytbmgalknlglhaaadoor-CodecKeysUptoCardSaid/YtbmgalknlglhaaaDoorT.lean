/-
  A list of parts that is handed in, opened.
-/
import Derived.Test.YtbmgalknlglhaaaDoorOrd
import Derived.ProofKit
import Derived.OpenShut
import Derived.ShutString
import Derived.ChangeOld
import Derived.SizedLaws
import Derived.JoinedCond
import Derived.Carry
import Derived.Deep.Slices
import Derived.Deep.Fields
import Derived.ChangeSame
namespace Go.Proofs.YtbmgalknlglhaaaDoor
open Go.ChangeShapes Go.WideShapes Go.ChangeAt Go.RowKit Go.Deep
open Go.ChangeMaps (open_string shut_string)
set_option linter.unusedVariables false
set_option maxRecDepth 100000
set_option maxHeartbeats 2000000

section
variable {H : Type} {enc : TypeId × Value → H} {P : Program} {w : World} {base : Nat} {spare : Nat → Bool} {held : Bool}
theorem open_slice_fields {t e : TypeId} {fs : Array Field} {fuel : Nat} {cs : List Value} {x : DataW H × List MemPlace} (ht : P.underlying t = some (.slice e)) (he : P.underlying e = some (.struct fs))
    (hone : oneCellFields P fs = true) (hC : P.cellsOf e = fs.size) (h : DataW.trod enc P w base spare held fuel t cs = some x) :
    (cs = [.slice none 0 0] ∧ x = (.nil, [])) ∨
    ∃ (a : Addr) (len cap m : Nat) (D : Nat → DataW H) (Pl : Nat → List MemPlace), cs = [.slice (some a) len cap] ∧ base ≤ a.block ∧ len ≤ cap ∧ cap ≤ maxLen ∧ m = (if spare a.block then cap else len) ∧
      x = (.slice ((List.range len).map D) ((List.range (m - len)).map fun j => D (len + j)), MemPlace.row a (m * fs.size) ++ (List.range m).flatMap Pl) ∧
      ∀ i, i < m → ∃ (ys : List (DataW H × List MemPlace)) (n : Nat), D i = .agg (ys.map (·.1)) ∧ Pl i = ys.flatMap (·.2) ∧ ys.length = fs.size ∧
        ∀ (j : Nat) (f : Field), fs[j]? = some f → ∃ (v : Value) (y : DataW H × List MemPlace), w.cell? (a.add (i * fs.size + j)) = some v ∧ ys[j]? = some y ∧ DataW.trod enc P w base spare held n f.type [v] = some y := by
  rcases open_slice ht h with h0 | ⟨a, len, cap, m, n, D, Pl, hcs, hb, hl, hm, hmm, hx, hi⟩
  · exact .inl h0
  · refine .inr ⟨a, len, cap, m, D, Pl, hcs, hb, hl, hm, hmm, by rw [hC] at hx; exact hx, fun i him => ?_⟩
    obtain ⟨cs', hc, ht'⟩ := hi i him
    rw [hC] at hc
    obtain ⟨ys, n', hn', hy, hlen, hyl, hf⟩ := DataW.trod_struct he ht'
    obtain ⟨_, hcl, hat⟩ := World.cells?_some hc
    simp only [Prod.mk.injEq] at hy
    refine ⟨ys, n', hy.1, hy.2, hyl, fun j f hj => ?_⟩
    obtain ⟨ho, hk⟩ := hone_of hone j f hj
    have hjl : j < fs.size := (Array.getElem?_eq_some_iff.1 hj).1
    have hcell := hat j hjl
    have hv : cs'[j]? = some (cs'[j]'(by omega)) := List.getElem?_eq_getElem (by omega)
    have h1 := hf j f hj
    rw [ho, hk] at h1
    have hone' : (cs'.drop j).take 1 = [cs'[j]'(by omega)] := by
      rw [List.drop_eq_getElem_cons (by omega)]
      rfl
    rw [hone'] at h1
    have hys : ys[j]? = some (ys[j]'(by omega)) := List.getElem?_eq_getElem (by omega)
    refine ⟨_, _, ?_, hys, h1.trans hys⟩
    rw [← Go.Deep.add_add, hcell, hv]
end
theorem bulk_one {H : Type} (d : DataW H) : 1 ≤ Rows.uptoBulk d := by
  cases d with
  | lit l => cases l <;> simp [Rows.uptoBulk]
  | nil => simp [Rows.uptoBulk]
  | ptr d => simp [Rows.uptoBulk]
  | slice elems spare => simp [Rows.uptoBulk]
  | agg parts => simp [Rows.uptoBulk]
  | iface t d => simp [Rows.uptoBulk]
  | map entries => simp [Rows.uptoBulk]
  | held h => simp [Rows.uptoBulk]
theorem bulk_part {H : Type} {d : DataW H} {l : List (DataW H)} (h : d ∈ l) : Rows.uptoBulk d ≤ Rows.uptoBulkAll l := by
  induction l with
  | nil => cases h
  | cons x r ih =>
    simp only [Rows.uptoBulkAll]
    cases List.mem_cons.1 h with
    | inl e => subst e; omega
    | inr e => have := ih e; omega
theorem bulk_append {H : Type} (l r : List (DataW H)) : Rows.uptoBulkAll (l ++ r) = Rows.uptoBulkAll l + Rows.uptoBulkAll r := by
  induction l with
  | nil => simp [Rows.uptoBulkAll]
  | cons x l ih => simp only [List.cons_append, Rows.uptoBulkAll, ih]; omega
theorem bulk_length {H : Type} (l : List (DataW H)) : l.length ≤ Rows.uptoBulkAll l := by
  induction l with
  | nil => simp [Rows.uptoBulkAll]
  | cons x r ih => have := bulk_one x; simp only [Rows.uptoBulkAll, List.length_cons]; omega

theorem laidOut : laidOutB Tryd.prog = true := by kernel_rfl
def cellStr (w : World) (a : Addr) : ByteArray := match w.cell? a with
  | some (.string s) => s
  | _ => ⟨#[]⟩
def cellBool (w : World) (a : Addr) : Bool := match w.cell? a with
  | some (.bool b) => b
  | _ => false
def cellNat (w : World) (a : Addr) : Nat := match w.cell? a with
  | some (.int _ n) => n.toNat
  | _ => 0
theorem sum_bulk {H : Type} (f : Nat → Pt) (D : Nat → DataW H) (n : Nat) (h : ∀ i, i < n → (f i).t.size ≤ Rows.uptoBulk (D i)) : ∀ k, k ≤ n → sumT ((List.range k).map f) ≤ Rows.uptoBulkAll ((List.range k).map D)
  | 0, _ => by unfold sumT; simp
  | k + 1, hk => by
    have ih := sum_bulk f D n h k (by omega)
    have h1 := h k (by omega)
    rw [List.range_succ, List.map_append, List.map_append, bulk_append]
    unfold sumT at ih ⊢
    simp only [List.map_append, List.map_cons, List.map_nil, List.sum_append, List.sum_cons, List.sum_nil, Rows.uptoBulkAll]
    omega

theorem parts_of {H : Type} {enc : TypeId × Value → H} {W : World} {pa : Option Addr} {len cap : Nat} {d : DataW H} {p : List MemPlace}
    (h : DataW.Trod enc Tryd.prog W 0 (fun _ => true) true 22 (.slice pa len cap) d p) (hb : Rows.uptoBulk d ≤ 1048576) : ∃ ps : List Pt, ps.length = len ∧ Parts W W.heap.size pa ps := by
  obtain ⟨fuel, hf⟩ := h
  rcases open_slice_fields Tryd.underlying22 Tryd.underlying51 (by kernel_rfl) (by kernel_rfl) hf with ⟨hcs, hx⟩ | ⟨a, len', cap', m, D, Pl, hcs, hba, hlc, hcm, hmm, hx, hel⟩
  · obtain ⟨rfl, rfl, rfl⟩ : pa = none ∧ len = 0 ∧ cap = 0 := by simpa [Value.cells] using hcs
    exact ⟨[], rfl, fun k hk => by simp at hk, by unfold sumT; simp, by simp, fun p hp => by cases hp⟩
  · obtain ⟨rfl, rfl, rfl⟩ : pa = some a ∧ len = len' ∧ cap = cap' := by simpa [Value.cells] using hcs
    simp only [Prod.mk.injEq] at hx
    obtain ⟨rfl, hpl⟩ := hx
    have hm : len ≤ m := by rw [hmm]; split <;> omega
    simp only [Rows.uptoBulk] at hb
    have hl := bulk_length ((List.range len).map D)
    simp only [List.length_map, List.length_range] at hl
    have key : ∀ i, i < len → (∃ s n c, W.cell? (a.add (i * 3)) = some (.string s) ∧ W.cell? ((a.add (i * 3)).add 1) = some (.int .u64 ((n : Nat) : Int)) ∧ W.cell? ((a.add (i * 3)).add 2) = some (.bool c) ∧ s.size ≤ Rows.uptoBulk (D i) ∧ n < 18446744073709551616) := by
      intro i hi
      obtain ⟨ys, n, hD, hPl, hys, hfl⟩ := hel i (by omega)
      obtain ⟨u0, y0, c0, e0, t0⟩ := hfl 0 _ rfl
      obtain ⟨u1, y1, c1, e1, t1⟩ := hfl 1 _ rfl
      obtain ⟨u2, y2, c2, e2, t2⟩ := hfl 2 _ rfl
      obtain ⟨s, z0, rfl, _⟩ := DataW.trod_string Tryd.underlying9 t0
      obtain ⟨b, z1, rfl, hwf⟩ := DataW.trod_int Tryd.underlying38 t1
      obtain ⟨c, z2, rfl⟩ := DataW.trod_bool Tryd.underlying4 t2
      obtain rfl := List.singleton_inj.1 z0
      obtain rfl := List.singleton_inj.1 z1
      obtain rfl := List.singleton_inj.1 z2
      have hb0 : 0 ≤ b ∧ b < 18446744073709551616 := by
        simp [Lit.wf, IntKind.min, IntKind.max, IntKind.signed, IntKind.bits] at hwf
        omega
      refine ⟨s, b.toNat, c, c0, by rw [Go.Deep.add_add, Int.toNat_of_nonneg hb0.1]; exact c1, by rw [Go.Deep.add_add]; exact c2, ?_, by omega⟩
      have hmem : DataW.lit (H := H) (.string s.data.toList) ∈ ys.map (·.1) := List.mem_map.2 ⟨_, List.mem_of_getElem? e0, rfl⟩
      have := bulk_part hmem
      rw [hD]
      simp only [Rows.uptoBulk, Array.length_toList, ByteArray.size_data] at this ⊢
      omega
    obtain ⟨f, hfd⟩ : ∃ f : Nat → Pt, f = fun i => ⟨cellStr W (a.add (i * 3)), cellNat W ((a.add (i * 3)).add 1), cellBool W ((a.add (i * 3)).add 2)⟩ := ⟨_, rfl⟩
    have hget : ∀ k, k < len → ((List.range len).map f).getD k default = f k := by
      intro k hk
      rw [List.getD_eq_getElem?_getD, List.getElem?_map, List.getElem?_range hk]
      rfl
    have hft : ∀ k, k < len → W.cell? (a.add (k * 3)) = some (.string (f k).t) ∧ W.cell? ((a.add (k * 3)).add 1) = some (.int .u64 ((f k).n : Int)) ∧ W.cell? ((a.add (k * 3)).add 2) = some (.bool (f k).b) ∧ (f k).t.size ≤ Rows.uptoBulk (D k) ∧ (f k).n < 18446744073709551616 := by
      intro k hk
      obtain ⟨s, n, c, k0, k1, k2, k3, k4⟩ := key k hk
      have e : f k = ⟨s, n, c⟩ := by
        rw [hfd]
        simp [cellStr, cellNat, cellBool, k0, k1, k2]
      rw [e]
      exact ⟨k0, k1, k2, k3, k4⟩
    refine ⟨(List.range len).map f, by simp, ?_, ?_, by simp; omega, ?_⟩
    · intro k hk
      simp only [List.length_map, List.length_range] at hk
      rw [hget k hk]
      obtain ⟨k0, k1, k2, _, _⟩ := hft k hk
      refine ⟨a, rfl, ?_, k0, k1, k2⟩
      rcases Nat.lt_or_ge a.block W.heap.size with h | h
      · exact h
      · exfalso
        have : W.heap[(a.add (k * 3)).block]? = none := by rw [addb]; exact Array.getElem?_eq_none h
        simp [World.cell?, this] at k0
    · have := sum_bulk f D len (fun i hi => (hft i hi).2.2.2.1) len (Nat.le_refl _)
      omega
    · intro p hp
      obtain ⟨i, hi, rfl⟩ := List.mem_map.1 hp
      exact (hft i (List.mem_range.1 hi)).2.2.2.2
end Go.Proofs.YtbmgalknlglhaaaDoor
