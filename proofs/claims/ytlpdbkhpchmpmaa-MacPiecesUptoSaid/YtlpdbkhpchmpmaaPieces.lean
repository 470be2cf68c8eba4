/-
  MacPieces' row: the argument opened, the bound used, the argument read again.
-/
import Derived.Test.YtlpdbkhpchmpmaaPcs
namespace Go.Proofs.Ytlpdbkhpchmpmaa
open Go.ChangeShapes Go.WideShapes Go.ChangeAt Go.RowKit Go.Deep
set_option linter.unusedVariables false
set_option maxRecDepth 100000
set_option maxHeartbeats 2000000

namespace Pcs
theorem own : ownKnob Try.prog.godebug = none := by kernel_rfl
theorem laidOut : laidOutB Try.prog = true := by kernel_rfl
theorem bulk_one {H : Type} (d : DataW H) : 1 ≤ Rows.uptoBulk d := by
  cases d with
  | lit l => cases l <;> simp [Rows.uptoBulk]
  | nil => simp [Rows.uptoBulk]
  | ptr d => simp [Rows.uptoBulk]
  | slice elems spare => simp [Rows.uptoBulk]
  | agg parts => simp [Rows.uptoBulk]
  | iface t d => simp [Rows.uptoBulk]
  | map entries => simp [Rows.uptoBulk]
  | held h => simp [Rows.uptoBulk]
theorem bulk_part {H : Type} {d : DataW H} {l : List (DataW H)} (h : d ∈ l) : Rows.uptoBulk d ≤ Rows.uptoBulkAll l := by
  induction l with
  | nil => cases h
  | cons x r ih =>
    simp only [Rows.uptoBulkAll]
    cases List.mem_cons.1 h with
    | inl e => subst e; omega
    | inr e => have := ih e; omega
theorem bulk_append {H : Type} (l r : List (DataW H)) : Rows.uptoBulkAll (l ++ r) = Rows.uptoBulkAll l + Rows.uptoBulkAll r := by
  induction l with
  | nil => simp [Rows.uptoBulkAll]
  | cons x l ih => simp only [List.cons_append, Rows.uptoBulkAll, ih]; omega
theorem bulk_length {H : Type} (l : List (DataW H)) : l.length ≤ Rows.uptoBulkAll l := by
  induction l with
  | nil => simp [Rows.uptoBulkAll]
  | cons x r ih => have := bulk_one x; simp only [Rows.uptoBulkAll, List.length_cons]; omega
theorem upTo_bulk {H : Type} (T : Nat → ByteArray) (D : Nat → DataW H) (n : Nat) (h : ∀ i, i < n → (T i).size ≤ Rows.uptoBulk (D i)) : ∀ k, k ≤ n → (upTo T k).length ≤ Rows.uptoBulkAll ((List.range k).map D)
  | 0, _ => by unfold upTo; simp
  | k + 1, hk => by
    have ih := upTo_bulk T D n h k (by omega)
    have h1 := h k (by omega)
    rw [upTo_succ, List.range_succ, List.map_append, bulk_append, List.length_append]
    simp only [List.map_cons, List.map_nil, Rows.uptoBulkAll, Array.length_toList, ByteArray.size_data]
    omega

def cellStr (w : World) (a : Addr) : ByteArray := match w.cell? a with
  | some (.string s) => s
  | _ => ⟨#[]⟩
def cellBool (w : World) (a : Addr) : Bool := match w.cell? a with
  | some (.bool b) => b
  | _ => false

theorem lifted (os : Os) (started : os.Started) (H : Type) (enc : TypeId × Value → H) (F : Stop.Interp) :
    ReturnsInHanded {} Try.checked os 4 .any ((Rows.OpenSpec.upto Rows.macPiecesSpec).pre6 enc Try.prog Try.f4 Rows.macPiecesUptoRow.domain false) (((Rows.OpenSpec.upto Rows.macPiecesSpec).at F).post enc Try.prog Try.f4 false true false false) := by
  refine returnsInHanded_of_cond (C := Try.checked) (s := Rows.OpenSpec.upto Rows.macPiecesSpec) (k := Rows.uptoSmall) rfl own started (by kernel_rfl) Try.func4
    (OpenSpec.witness (enc := enc) (C := Try.checked) (s := Rows.OpenSpec.upto Rows.macPiecesSpec) (k := Rows.uptoSmall) rfl false ⟨#[], #[.slice none 0 0], []⟩ 8 (by kernel_rfl) (by kernel_rfl) (by kernel_rfl)
      (x := ([.nil], [], [])) (by kernel_rfl) rfl (by kernel_rfl)) ?_
  intro W base args ds gs before hval0 hW _ hk _
  have hval : ∀ (j : Nat) t v, Try.f4.params[j]? = some t → args[j]? = some v → Value.okWide Try.prog W .any base t v := hval0
  have hW' := hW
  obtain ⟨p, q, hA0, hV, rfl, hfz, hnd⟩ := hW
  have hA : DataW.TrodAll enc Try.prog W 0 (fun _ => true) true Try.f4.params.toList args.toList ds p := hA0
  rw [Try.params4] at hA hval
  obtain ⟨v0, vs0, d0, ds0, p0, q0, hargs, rfl, rfl, h0, r0⟩ := trodAll_cons hA
  obtain ⟨rfl, rfl, rfl⟩ := trodAll_nil r0
  obtain rfl : args = #[v0] := by cases args; simp_all
  obtain ⟨rfl, rfl⟩ := trodVars_none hV
  have h0k := h0
  simp only [List.append_nil] at hW'
  have hlt : ∀ x ∈ p0, x.block < W.heap.size := fun x hx => by simpa using hW'.lt x hx
  have hb := of_decide_eq_true hk
  simp only [List.append_nil, Rows.uptoBulkAll] at hb
  obtain ⟨pa, len, cap, rfl⟩ := okWide_slice Try.underlying25 (hval 0 25 v0 rfl rfl)
  clear hA0 hval0 hA
  have hmain : ∃ T F A, len ≤ 1048576 ∧ Pieces W W.heap.size pa len T F A ∧ (upTo T len).length ≤ 1048576 := by
    obtain ⟨fuel, hf⟩ := h0
    rcases open_slice_fields Try.underlying25 Try.underlying30 (by kernel_rfl) (by kernel_rfl) hf with ⟨hcs, hx⟩ | ⟨a, len', cap', m, D, Pl, hcs, hba, hlc, hcm, hmm, hx, hel⟩
    · obtain ⟨rfl, rfl, rfl⟩ : pa = none ∧ len = 0 ∧ cap = 0 := by simpa [Value.cells] using hcs
      exact ⟨fun _ => ⟨#[]⟩, fun _ => false, fun _ => false, by omega, fun k hk => by omega, by unfold upTo; simp⟩
    · obtain ⟨rfl, rfl, rfl⟩ : pa = some a ∧ len = len' ∧ cap = cap' := by simpa [Value.cells] using hcs
      simp only [Prod.mk.injEq] at hx
      obtain ⟨rfl, hpl⟩ := hx
      have hm : len ≤ m := by rw [hmm]; split <;> omega
      simp only [Rows.uptoBulk] at hb
      have hl := bulk_length ((List.range len).map D)
      simp only [List.length_map, List.length_range] at hl
      have key : ∀ i, i < len → (∃ s b c, W.cell? (a.add (i * 3)) = some (.string s) ∧ W.cell? ((a.add (i * 3)).add 1) = some (.bool b) ∧ W.cell? ((a.add (i * 3)).add 2) = some (.bool c) ∧ s.size ≤ Rows.uptoBulk (D i)) := by
        intro i hi
        obtain ⟨ys, n, hD, hPl, hys, hfl⟩ := hel i (by omega)
        obtain ⟨u0, y0, c0, e0, t0⟩ := hfl 0 _ rfl
        obtain ⟨u1, y1, c1, e1, t1⟩ := hfl 1 _ rfl
        obtain ⟨u2, y2, c2, e2, t2⟩ := hfl 2 _ rfl
        obtain ⟨s, z0, rfl, _⟩ := DataW.trod_string Try.underlying9 t0
        obtain ⟨b, z1, rfl⟩ := DataW.trod_bool Try.underlying4 t1
        obtain ⟨c, z2, rfl⟩ := DataW.trod_bool Try.underlying4 t2
        obtain rfl := List.singleton_inj.1 z0
        obtain rfl := List.singleton_inj.1 z1
        obtain rfl := List.singleton_inj.1 z2
        refine ⟨s, b, c, c0, by rw [Go.Deep.add_add]; exact c1, by rw [Go.Deep.add_add]; exact c2, ?_⟩
        have hmem : DataW.lit (H := H) (.string s.data.toList) ∈ ys.map (·.1) := List.mem_map.2 ⟨_, List.mem_of_getElem? e0, rfl⟩
        have := bulk_part hmem
        rw [hD]
        simp only [Rows.uptoBulk, Array.length_toList, ByteArray.size_data] at this ⊢
        omega
      refine ⟨fun i => cellStr W (a.add (i * 3)), fun i => cellBool W ((a.add (i * 3)).add 1), fun i => cellBool W ((a.add (i * 3)).add 2), by omega, fun i hi => ?_, ?_⟩
      · obtain ⟨s, b, c, k0, k1, k2, _⟩ := key i hi
        refine ⟨a, rfl, ?_, ?_, ?_, ?_⟩
        · rcases Nat.lt_or_ge a.block W.heap.size with h | h
          · exact h
          · exfalso
            have : W.heap[(a.add (i * 3)).block]? = none := by rw [addb]; exact Array.getElem?_eq_none h
            simp [World.cell?, this] at k0
        · rw [k0]; simp [cellStr, k0]
        · rw [k1]; simp [cellBool, k1]
        · rw [k2]; simp [cellBool, k2]
      · refine Nat.le_trans (upTo_bulk _ D len (fun i hi => ?_) len (Nat.le_refl _)) (by omega)
        obtain ⟨s, b, c, k0, k1, k2, hs⟩ := key i hi
        simpa [cellStr, k0] using hs
  obtain ⟨T, Fk, A, hl, hP, ht⟩ := hmain
  refine (walk pa len cap T Fk A W hl hP ht).mono fun e W' ⟨he, bel⟩ => ?_
  subst he
  exact ⟨_, rfl, _, _, _, [], _, [], hW', trodAll_mk1 (shut_bool Try.underlying4 _), trodAll_mk1 (Below.trod laidOut (by kernel_rfl) (of_decide_eq_true (by kernel_rfl)) h0k bel hlt), rfl, bel.frame _, fun h => by cases h⟩

theorem over : Rows.macPiecesUptoRow.holds Try.pinned (Rows.OpenSpec.upto Rows.macPiecesSpec) :=
  OpenClaim.holds_of_cond 4 Try.f4 rfl rfl rfl rfl rfl rfl rfl ⟨rfl, rfl, rfl, rfl, rfl⟩ rfl rfl rfl rfl rfl (by kernel_rfl) Try.func4 (by kernel_rfl)
    (of_decide_eq_true (by kernel_rfl)) (by unfold Func.isWrapper; first | (rw [if_pos (by decide +kernel)]; kernel_rfl) | (rw [if_neg (by decide +kernel)]; exact ⟨rfl, rfl⟩))
    (fun os started H enc _ F => lifted os started H enc F)
end Pcs
theorem macPieces_upto_holds : Rows.MacPiecesUptoSaid := Pcs.over
#print axioms macPieces_upto_holds
end Go.Proofs.Ytlpdbkhpchmpmaa
