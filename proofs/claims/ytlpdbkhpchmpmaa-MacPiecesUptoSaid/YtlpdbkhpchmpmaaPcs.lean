/-
  MacPieces: a text has the same sum however it is cut into pieces, wherever one asks, and whatever is written to forks.
-/
import Derived.Test.YtlpdbkhpchmpmaaR
import Derived.ProofKit
import Derived.OpenShut
import Derived.ShutString
import Derived.ChangeOld
import Derived.SizedLaws
import Derived.JoinedCond
import Derived.Carry
import Derived.Deep.Slices
import Derived.Deep.Fields
import Derived.ChangeSame
namespace Go.Proofs.Ytlpdbkhpchmpmaa
open Go.ChangeShapes Go.WideShapes Go.ChangeAt Go.RowKit Go.Deep
open Go.ChangeMaps (open_string shut_string)
set_option linter.unusedVariables false
set_option maxRecDepth 100000
set_option maxHeartbeats 2000000

namespace Pcs
theorem addb (a : Addr) (n : Nat) : (a.add n).block = a.block := by unfold Addr.add; split <;> rfl
theorem row_keep {w w' : World} {B n : Nat} {v : Value} {xs : List Value} (h : w.ownsRow B 5 1 v n xs) (hb : ∀ k, v.ownBlock = some k → w'.heap[k]? = w.heap[k]?) : w'.ownsRow B 5 1 v n xs := by
  refine ⟨h.1, ?_⟩
  rcases h.2 with h0 | ⟨g, cap, cur, rfl, hg, hh, r⟩
  · exact .inl h0
  · exact .inr ⟨g, cap, cur, rfl, hg, by rw [hb g rfl]; exact hh, r⟩
theorem row_lt {w : World} {B n : Nat} {v : Value} {xs : List Value} (h : w.ownsRow B 5 1 v n xs) : ∀ k, v.ownBlock = some k → B ≤ k ∧ k < w.heap.size := by
  intro k hk
  rcases h.2 with ⟨rfl, _⟩ | ⟨g, cap, cur, rfl, hg, hh, _⟩
  · simp [Value.ownBlock] at hk
  · simp [Value.ownBlock] at hk
    subst hk
    exact ⟨hg, (Array.getElem?_eq_some_iff.1 hh).1⟩
theorem row_below {w w' : World} {B n : Nat} {v : Value} {xs : List Value} (h : w.ownsRow B 5 1 v n xs) (hb : Below w.heap.size w w') : w'.ownsRow B 5 1 v n xs :=
  row_keep h fun k hk => hb.block k (row_lt h k hk).2
theorem row_ne {w : World} {B n g : Nat} {v : Value} {xs : List Value} {l : List UInt8} (h : w.ownsRow B 5 1 v n xs) (hH : IsH w g l) : some g ≠ v.ownBlock := by
  obtain ⟨rs, _, hb⟩ := hH
  intro e
  rcases h.2 with ⟨rfl, _⟩ | ⟨g', cap, cur, rfl, hg, hh, _⟩
  · simp [Value.ownBlock] at e
  · simp [Value.ownBlock] at e
    subst e
    have hb' : w.heap[g]? = some (.cells (hcells (stN l (l.length / 64)) rs (l.length % 64) l.length) 53 (0, 0)) := hb
    rw [hb'] at hh
    simp at hh
theorem row_form {w : World} {B n : Nat} {v : Value} {xs : List Value} (h : w.ownsRow B 5 1 v n xs) : ∃ p cap, v = .slice p n cap := by
  rcases h.2 with ⟨rfl, rfl⟩ | ⟨g, cap, cur, rfl, _⟩
  · exact ⟨_, _, rfl⟩
  · exact ⟨_, _, rfl⟩
theorem below_of_grown2 {w w1 w2 : World} {g : Nat} (h : Below w.heap.size w w1) (hg : w1.grownBy w2 (some g)) (hlt : w.heap.size ≤ g) : Below w.heap.size w w2 := below_of_grown h hg hlt
theorem hi5 : ∃ i0, Try.prog.info? 5 = some i0 ∧ i0.zero = some (.int .u8 0) ∧ i0.size = 1 ∧ i0.bytes = 1 := info_parts (show (Try.prog.info? 5).map (fun i => (i.zero, i.size, i.bytes)) = some (some (.int .u8 0), 1, 1) by kernel_rfl)

def upTo (T : Nat → ByteArray) (k : Nat) : List UInt8 := (List.range k).flatMap fun j => (T j).data.toList
theorem upTo_succ (T : Nat → ByteArray) (k : Nat) : upTo T (k + 1) = upTo T k ++ (T k).data.toList := by
  simp [upTo, List.range_succ]
theorem upTo_mono (T : Nat → ByteArray) (k n : Nat) (h : k ≤ n) : (upTo T k).length ≤ (upTo T n).length := by
  obtain ⟨d, rfl⟩ : ∃ d, n = k + d := ⟨n - k, by omega⟩
  induction d with
  | zero => exact Nat.le_refl _
  | succ d ih =>
    have := ih (by omega)
    rw [show k + (d + 1) = (k + d) + 1 by omega, upTo_succ, List.length_append]
    omega
attribute [irreducible] upTo
def Pieces (w : World) (B : Nat) (pa : Option Addr) (len : Nat) (T : Nat → ByteArray) (F A : Nat → Bool) : Prop :=
  ∀ k, k < len → ∃ a, pa = some a ∧ a.block < B ∧ w.cell? (a.add (k * 3)) = some (.string (T k)) ∧ w.cell? ((a.add (k * 3)).add 1) = some (.bool (F k)) ∧ w.cell? ((a.add (k * 3)).add 2) = some (.bool (A k))

theorem walk (pa : Option Addr) (len cap : Nat) (T : Nat → ByteArray) (F A : Nat → Bool) (w : World) (hlen : len ≤ 1048576) (hp : Pieces w w.heap.size pa len T F A) (htot : (upTo T len).length ≤ 1048576) :
    Calls Try.prog 4 #[.slice pa len cap] w fun e w' => e = .returned (.bool true) ∧ Below w.heap.size w w' := by
  have A1 := Lib.hid awake_any
  have HP := Lib.hid hp; clear hp
  have l0 : (0 : Int) ≤ (len : Int) := by omega
  have l1 : (len : Int) ≤ 1048576 := by omega
  obtain ⟨i0, hi, hz0, hz1, hz2⟩ := hi5
  go_enter Try.func4, Try.ntmps4
  go_wp2_with fail
  refine (New_any w).mono ?_
  rintro e w1 ⟨g0, rfl, hg0, hH0, hb0⟩
  have HH0 := Lib.hid hH0; clear hH0
  go_wp2_with fail
  refine (A1.out _).mono ?_
  rintro e w2 ⟨rfl, hb1⟩
  have hb2 := hb0.trans (hb1.mono hb0.size)
  have HH2 := Lib.hid (HH0.out.below hb1 HH0.out.lt)
  clear HH0 hb1 hb0
  go_wp2
  go_loopw [3, 4, 17] (fun h v i wr => ∃ (k : Nat) (g : Nat), k ≤ len ∧ i = .int .i64 k ∧ h = .pointer (some ⟨g, 0, none⟩) ∧ w.heap.size ≤ g ∧ Hid (IsH wr g (upTo T k)) ∧ wr.ownsRow w.heap.size 5 1 v (upTo T k).length (bcells (upTo T k)) ∧ Below w.heap.size w wr) (fun _ _ i _ => len - (intOf i).toNat)
  case atStart => exact ⟨0, g0, by omega, rfl, rfl, hg0, by unfold upTo; exact HH2, by unfold upTo; exact World.ownsRow_nil _ _ _ _, hb2⟩
  case round =>
    clear HH2 hb2 hg0
    obtain ⟨k, g, hk, rfl, rfl, hg, HH, hrow, hnx⟩ := hrel
    by_cases hlt : k < len
    · obtain ⟨a, rfl, hab, c0, c1, c2⟩ := HP.out k hlt
      have d0 : wr.cell? (a.add (k * 3)) = some (.string (T k)) := by rw [← c0]; exact World.cell?_of_block (by rw [addb]; exact hnx.block _ hab)
      have d1 : wr.cell? ⟨(a.add (k * 3)).block, (a.add (k * 3)).off + 1, none⟩ = some (.bool (F k)) := by rw [← c1]; exact World.cell?_of_block (by show wr.heap[(a.add (k * 3)).block]? = _; rw [addb]; exact hnx.block _ hab)
      have d2 : wr.cell? ⟨(a.add (k * 3)).block, (a.add (k * 3)).off + 2, none⟩ = some (.bool (A k)) := by rw [← c2]; exact World.cell?_of_block (by show wr.heap[(a.add (k * 3)).block]? = _; rw [addb]; exact hnx.block _ hab)
      have hlx : (upTo T k).length ≤ 1048576 := Nat.le_trans (upTo_mono T k len hk) htot
      have htt : (T k).size ≤ 1048576 := by
        have h1 := Nat.le_trans (upTo_mono T (k + 1) len hlt) htot
        rw [upTo_succ, List.length_append] at h1
        simp at h1
        omega
      obtain ⟨t, HT⟩ : ∃ t, Hid (T k = t) := ⟨_, Lib.hid rfl⟩
      rw [HT.out] at d0 htt
      clear c0 c1 c2
      cases hF : F k <;> cases hA : A k
      · -- Fork false, Ask false
        rw [hF] at d1
        rw [hA] at d2
        have hW1 := hnx.alloc hnx.size (.cells #[.string t, .bool false, .bool false] 30)
        have hB1 : Below wr.heap.size wr (wr.alloc (.cells #[.string t, .bool false, .bool false] 30)) := (Below.refl _ _).alloc (Nat.le_refl _) _
        have HH1 := Lib.hid (HH.out.below hB1 HH.out.lt)
        have hrow1 := row_below hrow hB1
        have hP1 := Blk.new wr 30 #[.string t, .bool false, .bool false]
        have hgl := HH.out.lt
        clear HH hrow hB1
        refine hide_post fun R HR => ?_
        obtain ⟨g', rfl⟩ : ∃ g', g' = g := ⟨_, rfl⟩
        obtain ⟨w3, HW3⟩ : ∃ W, Hid (wr.alloc (.cells #[.string t, .bool false, .bool false] 30) = W) := ⟨_, Lib.hid rfl⟩
        have pf := hP1.cell 1
        have pt := hP1.cell 0
        have HG := HH1
        have hP3 := hP1
        have hrow3 := hrow1
        have hnx3 := hW1
        have hg' := hg
        have hPg : some wr.heap.size ≠ some g' := fun e => by injection e; omega
        clear HH1 hP1 hrow1 hW1

        -- the world is w3; the Hasher is g'; the piece lies at wr.heap.size
        go_wp2_with fail
        refine (Write_any g' _ t _ HG.out (by have := hlx; have := htt; omega)).mono ?_
        rw [HW3.out] at HG hP3 hrow3 hnx3
        rw [HW3.out]
        rintro e w4 ⟨rfl, hH4, hg4⟩
        have HH4 := Lib.hid hH4; clear hH4
        have hP4 := hP3.grown hg4 hPg
        have hrow4 : w4.ownsRow w.heap.size 5 1 u4 (upTo T k).length (bcells (upTo T k)) := row_keep hrow3 fun b hb => hg4.block b (row_lt hrow3 b hb).2 (fun e => by rw [e] at hb; exact row_ne hrow3 HG.out hb.symm)
        have hb4 := below_of_grown2 hnx3 hg4 hg'
        clear hnx3 hg4 HG hrow3 hPg hP3
        have p0 := hP4.cell 0
        have p2 := hP4.cell 2
        go_wp2_with (at_builtin; refine Lib.wpList_append_own_string _ rfl _ _ 28 9 rfl w.heap.size 5 i0 Try.underlying28 Try.underlying9 hi hz0 hz1 hz2 u4 _ _ rfl hrow4 t rfl ?c3 ?c4 ?c5 ?_)
        case c3 => unfold maxLen; have := hlx; have := htt; omega
        case c4 => have := hlx; have := htt; omega
        case c5 => exact hb4.size
        intro v5 w5 hrow5 hg5 _
        have hHg5 : some g' ≠ u4.ownBlock := row_ne hrow4 HH4.out
        have HH5 : Hid (IsH w5 g' (upTo T (k + 1))) := by
          show IsH _ _ _
          rw [upTo_succ, HT.out]
          exact HB.grown HH4.out hg5 hHg5
        have hP5 := hP4.grown hg5 (by
          intro e
          have hh := row_lt hrow4 _ e.symm
          rcases hrow4.2 with ⟨rfl, _⟩ | ⟨q, cap', cur, rfl, _, hh', _⟩
          · simp [Value.ownBlock] at e
          · simp [Value.ownBlock] at e
            subst e
            have hb' : w4.heap[wr.heap.size]? = some (.cells _ 30 (0, 0)) := hP4
            rw [hb'] at hh'
            simp at hh')
        have hb5 : Below w.heap.size w w5 := hb4.grown hg5 hb4.size (fun b hb => (row_lt hrow4 b hb).1)
        have hrowE : (upTo T k).length + t.size = (upTo T (k + 1)).length := by rw [upTo_succ, HT.out, List.length_append]; simp
        have hrowF : bcells (upTo T k) ++ Lib.strCells t = bcells (upTo T (k + 1)) := by rw [upTo_succ, HT.out, bcells_append]; rfl
        rw [hrowE, hrowF] at hrow5
        clear hrow4 hP4 HH4 hb4 hg5 hHg5 hrowE hrowF p0 p2
        obtain ⟨q5, cap5, rfl⟩ := row_form hrow5
        have hlx5 : (upTo T (k + 1)).length ≤ 1048576 := Nat.le_trans (upTo_mono T (k + 1) len hlt) htot
        obtain ⟨X, HX⟩ : ∃ X, Hid (upTo T (k + 1) = X) := ⟨_, Lib.hid rfl⟩
        rw [HX.out] at HH5 hrow5 hlx5 ⊢
        obtain ⟨S, HS⟩ : ∃ S, Hid (strOf (sha X) = S) := ⟨_, Lib.hid rfl⟩
        obtain ⟨O, HO⟩ : ∃ O, Hid (strOf X = O) := ⟨_, Lib.hid rfl⟩
        have K2 : ∀ x : Later w5, x.val.cell? ⟨wr.heap.size, 2, none⟩ = some (.bool false) := fun x => (hP5.below x.property hP5.lt).cell 2
        have hconv : ∀ x : Later w5, (convert 28 9 (.slice q5 X.length cap5)).run Try.prog x.val = .ok (.string O) x.val := fun x => by
          rw [← HO.out]
          exact run_string_B x.val w.heap.size _ _ (OwnB.of_row (row_below hrow5 x.property))
        have D1 : Hid (∀ x : Later w5, Calls Try.prog 17 #[.pointer (some ⟨g', 0, none⟩)] x.val fun e w'' => e = .returned (.string S) ∧ ∃ y : Later w5, w'' = y.val) := by
          show ∀ x, _
          intro x
          rw [← HS.out]
          exact calls_later x (HSum_any g' X x.val (HH5.out.below x.property HH5.out.lt) (by omega))
        have D2 : Hid (∀ x : Later w5, Calls Try.prog 13 #[.string O] x.val fun e w'' => e = .returned (.string S) ∧ ∃ y : Later w5, w'' = y.val) := by
          show ∀ x, _
          intro x
          have h := refSum_any (strOf X) x.val (by rw [strOf_size]; omega)
          rw [strOf_list, HS.out, HO.out] at h
          exact calls_later x h
        have D3 : Hid (∀ x : Later w5, Calls Try.prog 18 #[.pointer (some ⟨g', 0, none⟩)] x.val fun e w'' => e = .returned (.int .i64 X.length) ∧ ∃ y : Later w5, w'' = y.val) := by
          show ∀ x, _
          intro x
          exact calls_later_same x ((Len_any g' X x.val (HH5.out.below x.property HH5.out.lt)).mono fun e w' h => ⟨h.1, h.2.symm⟩)
        go_wp2
        refine wp_region_quiet (C := fun w' => ∃ x : Later w5, w' = x.val) (by kernel_rfl) (by kernel_rfl) (later_drew w5) ?_
        dsimp only
        repeat (first | go_big_quiet_step (first | with_reducible exact D1.out _ | with_reducible exact D2.out _ | with_reducible exact D3.out _) | quiet_step (fail))
        refine wpQuiet_nil ?_
        intro w6 hx
        have hw6 : Below w5.heap.size w5 w6 := by
          obtain ⟨x, rfl⟩ := hx
          exact x.property
        clear hx K2 hconv D1 D2 D3
        have HH6 := Lib.hid (HH5.out.below hw6 HH5.out.lt)
        have hrow6 := row_below hrow5 hw6
        have hb6 := hb5.trans (hw6.mono hb5.size)
        clear HH5 hrow5 hb5 hw6 hP5
        go_wp2
        obtain rfl := HR.out
        go_roundw
        case rel => exact ⟨k + 1, g', by omega, by go_num, rfl, hg', by rw [HX.out]; exact HH6, by rw [HX.out]; exact hrow6, hb6⟩
        case measure => simp [intOf]; omega
      · -- Fork false, Ask true
        rw [hF] at d1
        rw [hA] at d2
        have hW1 := hnx.alloc hnx.size (.cells #[.string t, .bool false, .bool true] 30)
        have hB1 : Below wr.heap.size wr (wr.alloc (.cells #[.string t, .bool false, .bool true] 30)) := (Below.refl _ _).alloc (Nat.le_refl _) _
        have HH1 := Lib.hid (HH.out.below hB1 HH.out.lt)
        have hrow1 := row_below hrow hB1
        have hP1 := Blk.new wr 30 #[.string t, .bool false, .bool true]
        have hgl := HH.out.lt
        clear HH hrow hB1
        refine hide_post fun R HR => ?_
        obtain ⟨g', rfl⟩ : ∃ g', g' = g := ⟨_, rfl⟩
        obtain ⟨w3, HW3⟩ : ∃ W, Hid (wr.alloc (.cells #[.string t, .bool false, .bool true] 30) = W) := ⟨_, Lib.hid rfl⟩
        have pf := hP1.cell 1
        have pt := hP1.cell 0
        have HG := HH1
        have hP3 := hP1
        have hrow3 := hrow1
        have hnx3 := hW1
        have hg' := hg
        have hPg : some wr.heap.size ≠ some g' := fun e => by injection e; omega
        clear HH1 hP1 hrow1 hW1

        -- the world is w3; the Hasher is g'; the piece lies at wr.heap.size
        go_wp2_with fail
        refine (Write_any g' _ t _ HG.out (by have := hlx; have := htt; omega)).mono ?_
        rw [HW3.out] at HG hP3 hrow3 hnx3
        rw [HW3.out]
        rintro e w4 ⟨rfl, hH4, hg4⟩
        have HH4 := Lib.hid hH4; clear hH4
        have hP4 := hP3.grown hg4 hPg
        have hrow4 : w4.ownsRow w.heap.size 5 1 u4 (upTo T k).length (bcells (upTo T k)) := row_keep hrow3 fun b hb => hg4.block b (row_lt hrow3 b hb).2 (fun e => by rw [e] at hb; exact row_ne hrow3 HG.out hb.symm)
        have hb4 := below_of_grown2 hnx3 hg4 hg'
        clear hnx3 hg4 HG hrow3 hPg hP3
        have p0 := hP4.cell 0
        have p2 := hP4.cell 2
        go_wp2_with (at_builtin; refine Lib.wpList_append_own_string _ rfl _ _ 28 9 rfl w.heap.size 5 i0 Try.underlying28 Try.underlying9 hi hz0 hz1 hz2 u4 _ _ rfl hrow4 t rfl ?c3 ?c4 ?c5 ?_)
        case c3 => unfold maxLen; have := hlx; have := htt; omega
        case c4 => have := hlx; have := htt; omega
        case c5 => exact hb4.size
        intro v5 w5 hrow5 hg5 _
        have hHg5 : some g' ≠ u4.ownBlock := row_ne hrow4 HH4.out
        have HH5 : Hid (IsH w5 g' (upTo T (k + 1))) := by
          show IsH _ _ _
          rw [upTo_succ, HT.out]
          exact HB.grown HH4.out hg5 hHg5
        have hP5 := hP4.grown hg5 (by
          intro e
          have hh := row_lt hrow4 _ e.symm
          rcases hrow4.2 with ⟨rfl, _⟩ | ⟨q, cap', cur, rfl, _, hh', _⟩
          · simp [Value.ownBlock] at e
          · simp [Value.ownBlock] at e
            subst e
            have hb' : w4.heap[wr.heap.size]? = some (.cells _ 30 (0, 0)) := hP4
            rw [hb'] at hh'
            simp at hh')
        have hb5 : Below w.heap.size w w5 := hb4.grown hg5 hb4.size (fun b hb => (row_lt hrow4 b hb).1)
        have hrowE : (upTo T k).length + t.size = (upTo T (k + 1)).length := by rw [upTo_succ, HT.out, List.length_append]; simp
        have hrowF : bcells (upTo T k) ++ Lib.strCells t = bcells (upTo T (k + 1)) := by rw [upTo_succ, HT.out, bcells_append]; rfl
        rw [hrowE, hrowF] at hrow5
        clear hrow4 hP4 HH4 hb4 hg5 hHg5 hrowE hrowF p0 p2
        obtain ⟨q5, cap5, rfl⟩ := row_form hrow5
        have hlx5 : (upTo T (k + 1)).length ≤ 1048576 := Nat.le_trans (upTo_mono T (k + 1) len hlt) htot
        obtain ⟨X, HX⟩ : ∃ X, Hid (upTo T (k + 1) = X) := ⟨_, Lib.hid rfl⟩
        rw [HX.out] at HH5 hrow5 hlx5 ⊢
        obtain ⟨S, HS⟩ : ∃ S, Hid (strOf (sha X) = S) := ⟨_, Lib.hid rfl⟩
        obtain ⟨O, HO⟩ : ∃ O, Hid (strOf X = O) := ⟨_, Lib.hid rfl⟩
        have K2 : ∀ x : Later w5, x.val.cell? ⟨wr.heap.size, 2, none⟩ = some (.bool true) := fun x => (hP5.below x.property hP5.lt).cell 2
        have hconv : ∀ x : Later w5, (convert 28 9 (.slice q5 X.length cap5)).run Try.prog x.val = .ok (.string O) x.val := fun x => by
          rw [← HO.out]
          exact run_string_B x.val w.heap.size _ _ (OwnB.of_row (row_below hrow5 x.property))
        have D1 : Hid (∀ x : Later w5, Calls Try.prog 17 #[.pointer (some ⟨g', 0, none⟩)] x.val fun e w'' => e = .returned (.string S) ∧ ∃ y : Later w5, w'' = y.val) := by
          show ∀ x, _
          intro x
          rw [← HS.out]
          exact calls_later x (HSum_any g' X x.val (HH5.out.below x.property HH5.out.lt) (by omega))
        have D2 : Hid (∀ x : Later w5, Calls Try.prog 13 #[.string O] x.val fun e w'' => e = .returned (.string S) ∧ ∃ y : Later w5, w'' = y.val) := by
          show ∀ x, _
          intro x
          have h := refSum_any (strOf X) x.val (by rw [strOf_size]; omega)
          rw [strOf_list, HS.out, HO.out] at h
          exact calls_later x h
        have D3 : Hid (∀ x : Later w5, Calls Try.prog 18 #[.pointer (some ⟨g', 0, none⟩)] x.val fun e w'' => e = .returned (.int .i64 X.length) ∧ ∃ y : Later w5, w'' = y.val) := by
          show ∀ x, _
          intro x
          exact calls_later_same x ((Len_any g' X x.val (HH5.out.below x.property HH5.out.lt)).mono fun e w' h => ⟨h.1, h.2.symm⟩)
        go_wp2
        refine wp_region_quiet (C := fun w' => ∃ x : Later w5, w' = x.val) (by kernel_rfl) (by kernel_rfl) (later_drew w5) ?_
        dsimp only
        repeat (first | go_big_quiet_step (first | with_reducible exact D1.out _ | with_reducible exact D2.out _ | with_reducible exact D3.out _) | quiet_step (fail))
        refine wpQuiet_nil ?_
        intro w6 hx
        have hw6 : Below w5.heap.size w5 w6 := by
          obtain ⟨x, rfl⟩ := hx
          exact x.property
        clear hx K2 hconv D1 D2 D3
        have HH6 := Lib.hid (HH5.out.below hw6 HH5.out.lt)
        have hrow6 := row_below hrow5 hw6
        have hb6 := hb5.trans (hw6.mono hb5.size)
        clear HH5 hrow5 hb5 hw6 hP5
        go_wp2
        obtain rfl := HR.out
        go_roundw
        case rel => exact ⟨k + 1, g', by omega, by go_num, rfl, hg', by rw [HX.out]; exact HH6, by rw [HX.out]; exact hrow6, hb6⟩
        case measure => simp [intOf]; omega
      · -- Fork true, Ask false
        rw [hF] at d1
        rw [hA] at d2
        have hW1 := hnx.alloc hnx.size (.cells #[.string t, .bool true, .bool false] 30)
        have hB1 : Below wr.heap.size wr (wr.alloc (.cells #[.string t, .bool true, .bool false] 30)) := (Below.refl _ _).alloc (Nat.le_refl _) _
        have HH1 := Lib.hid (HH.out.below hB1 HH.out.lt)
        have hrow1 := row_below hrow hB1
        have hP1 := Blk.new wr 30 #[.string t, .bool true, .bool false]
        have hgl := HH.out.lt
        clear HH hrow hB1
        refine hide_post fun R HR => ?_
        obtain ⟨W1, HW1⟩ : ∃ W, Hid (wr.alloc (.cells #[.string t, .bool true, .bool false] 30) = W) := ⟨_, Lib.hid rfl⟩
        have HF := Lib.hid (Fork_any g _ _ HH1.out)
        have hWS : W1.heap.size = wr.heap.size + 1 := by rw [← HW1.out]; simp
        have pf := hP1.cell 1
        go_wp2_with fail
        refine HF.out.mono ?_
        rintro e w2 ⟨g', rfl, hg2, hH2, hb2⟩
        rw [HW1.out] at HH1 hW1 hrow1 hP1 hg2 hb2
        have HG2 := Lib.hid hH2; clear hH2
        have HO2 := Lib.hid (HH1.out.below hb2 HH1.out.lt)
        have hrow2 := row_below hrow1 hb2
        have hP2 := hP1.below hb2 hP1.lt
        have hnx2 := hW1.trans (hb2.mono hW1.size)
        clear HH1 hrow1 hP1 HF
        go_wp2_with fail
        refine (Write_any g _ ⟨#[111, 116, 104, 101, 114]⟩ w2 HO2.out (by have := hlx; show _ + 5 ≤ _; omega)).mono ?_
        rintro e w3 ⟨rfl, hH3, hg3⟩
        clear hH3
        have HG : Hid (IsH w3 g' (upTo T k)) := HB.grown HG2.out hg3 (fun e => by injection e; omega)
        have hrow3 : w3.ownsRow w.heap.size 5 1 u4 (upTo T k).length (bcells (upTo T k)) := row_keep hrow2 fun b hb => hg3.block b (row_lt hrow2 b hb).2 (fun e => by rw [e] at hb; exact row_ne hrow2 HO2.out hb.symm)
        have hP3 := hP2.grown hg3 (fun e => by injection e; omega)
        have hnx3 := below_of_grown2 hnx2 hg3 hg
        have hPg : some wr.heap.size ≠ some g' := fun e => by injection e; omega
        have hg' : w.heap.size ≤ g' := by have := hW1.size; omega
        clear HG2 HO2 hrow2 hP2 hnx2 hg3 hb2 hW1

        -- the world is w3; the Hasher is g'; the piece lies at wr.heap.size
        have pt := hP3.cell 0
        go_wp2_with fail
        refine (Write_any g' _ t w3 HG.out (by have := hlx; have := htt; omega)).mono ?_
        rintro e w4 ⟨rfl, hH4, hg4⟩
        have HH4 := Lib.hid hH4; clear hH4
        have hP4 := hP3.grown hg4 hPg
        have hrow4 : w4.ownsRow w.heap.size 5 1 u4 (upTo T k).length (bcells (upTo T k)) := row_keep hrow3 fun b hb => hg4.block b (row_lt hrow3 b hb).2 (fun e => by rw [e] at hb; exact row_ne hrow3 HG.out hb.symm)
        have hb4 := below_of_grown2 hnx3 hg4 hg'
        clear hnx3 hg4 HG hrow3 hPg hP3
        have p0 := hP4.cell 0
        have p2 := hP4.cell 2
        go_wp2_with (at_builtin; refine Lib.wpList_append_own_string _ rfl _ _ 28 9 rfl w.heap.size 5 i0 Try.underlying28 Try.underlying9 hi hz0 hz1 hz2 u4 _ _ rfl hrow4 t rfl ?c3 ?c4 ?c5 ?_)
        case c3 => unfold maxLen; have := hlx; have := htt; omega
        case c4 => have := hlx; have := htt; omega
        case c5 => exact hb4.size
        intro v5 w5 hrow5 hg5 _
        have hHg5 : some g' ≠ u4.ownBlock := row_ne hrow4 HH4.out
        have HH5 : Hid (IsH w5 g' (upTo T (k + 1))) := by
          show IsH _ _ _
          rw [upTo_succ, HT.out]
          exact HB.grown HH4.out hg5 hHg5
        have hP5 := hP4.grown hg5 (by
          intro e
          have hh := row_lt hrow4 _ e.symm
          rcases hrow4.2 with ⟨rfl, _⟩ | ⟨q, cap', cur, rfl, _, hh', _⟩
          · simp [Value.ownBlock] at e
          · simp [Value.ownBlock] at e
            subst e
            have hb' : w4.heap[wr.heap.size]? = some (.cells _ 30 (0, 0)) := hP4
            rw [hb'] at hh'
            simp at hh')
        have hb5 : Below w.heap.size w w5 := hb4.grown hg5 hb4.size (fun b hb => (row_lt hrow4 b hb).1)
        have hrowE : (upTo T k).length + t.size = (upTo T (k + 1)).length := by rw [upTo_succ, HT.out, List.length_append]; simp
        have hrowF : bcells (upTo T k) ++ Lib.strCells t = bcells (upTo T (k + 1)) := by rw [upTo_succ, HT.out, bcells_append]; rfl
        rw [hrowE, hrowF] at hrow5
        clear hrow4 hP4 HH4 hb4 hg5 hHg5 hrowE hrowF p0 p2
        obtain ⟨q5, cap5, rfl⟩ := row_form hrow5
        have hlx5 : (upTo T (k + 1)).length ≤ 1048576 := Nat.le_trans (upTo_mono T (k + 1) len hlt) htot
        obtain ⟨X, HX⟩ : ∃ X, Hid (upTo T (k + 1) = X) := ⟨_, Lib.hid rfl⟩
        rw [HX.out] at HH5 hrow5 hlx5 ⊢
        obtain ⟨S, HS⟩ : ∃ S, Hid (strOf (sha X) = S) := ⟨_, Lib.hid rfl⟩
        obtain ⟨O, HO⟩ : ∃ O, Hid (strOf X = O) := ⟨_, Lib.hid rfl⟩
        have K2 : ∀ x : Later w5, x.val.cell? ⟨wr.heap.size, 2, none⟩ = some (.bool false) := fun x => (hP5.below x.property hP5.lt).cell 2
        have hconv : ∀ x : Later w5, (convert 28 9 (.slice q5 X.length cap5)).run Try.prog x.val = .ok (.string O) x.val := fun x => by
          rw [← HO.out]
          exact run_string_B x.val w.heap.size _ _ (OwnB.of_row (row_below hrow5 x.property))
        have D1 : Hid (∀ x : Later w5, Calls Try.prog 17 #[.pointer (some ⟨g', 0, none⟩)] x.val fun e w'' => e = .returned (.string S) ∧ ∃ y : Later w5, w'' = y.val) := by
          show ∀ x, _
          intro x
          rw [← HS.out]
          exact calls_later x (HSum_any g' X x.val (HH5.out.below x.property HH5.out.lt) (by omega))
        have D2 : Hid (∀ x : Later w5, Calls Try.prog 13 #[.string O] x.val fun e w'' => e = .returned (.string S) ∧ ∃ y : Later w5, w'' = y.val) := by
          show ∀ x, _
          intro x
          have h := refSum_any (strOf X) x.val (by rw [strOf_size]; omega)
          rw [strOf_list, HS.out, HO.out] at h
          exact calls_later x h
        have D3 : Hid (∀ x : Later w5, Calls Try.prog 18 #[.pointer (some ⟨g', 0, none⟩)] x.val fun e w'' => e = .returned (.int .i64 X.length) ∧ ∃ y : Later w5, w'' = y.val) := by
          show ∀ x, _
          intro x
          exact calls_later_same x ((Len_any g' X x.val (HH5.out.below x.property HH5.out.lt)).mono fun e w' h => ⟨h.1, h.2.symm⟩)
        go_wp2
        refine wp_region_quiet (C := fun w' => ∃ x : Later w5, w' = x.val) (by kernel_rfl) (by kernel_rfl) (later_drew w5) ?_
        dsimp only
        repeat (first | go_big_quiet_step (first | with_reducible exact D1.out _ | with_reducible exact D2.out _ | with_reducible exact D3.out _) | quiet_step (fail))
        refine wpQuiet_nil ?_
        intro w6 hx
        have hw6 : Below w5.heap.size w5 w6 := by
          obtain ⟨x, rfl⟩ := hx
          exact x.property
        clear hx K2 hconv D1 D2 D3
        have HH6 := Lib.hid (HH5.out.below hw6 HH5.out.lt)
        have hrow6 := row_below hrow5 hw6
        have hb6 := hb5.trans (hw6.mono hb5.size)
        clear HH5 hrow5 hb5 hw6 hP5
        go_wp2
        obtain rfl := HR.out
        go_roundw
        case rel => exact ⟨k + 1, g', by omega, by go_num, rfl, hg', by rw [HX.out]; exact HH6, by rw [HX.out]; exact hrow6, hb6⟩
        case measure => simp [intOf]; omega
      · -- Fork true, Ask true
        rw [hF] at d1
        rw [hA] at d2
        have hW1 := hnx.alloc hnx.size (.cells #[.string t, .bool true, .bool true] 30)
        have hB1 : Below wr.heap.size wr (wr.alloc (.cells #[.string t, .bool true, .bool true] 30)) := (Below.refl _ _).alloc (Nat.le_refl _) _
        have HH1 := Lib.hid (HH.out.below hB1 HH.out.lt)
        have hrow1 := row_below hrow hB1
        have hP1 := Blk.new wr 30 #[.string t, .bool true, .bool true]
        have hgl := HH.out.lt
        clear HH hrow hB1
        refine hide_post fun R HR => ?_
        obtain ⟨W1, HW1⟩ : ∃ W, Hid (wr.alloc (.cells #[.string t, .bool true, .bool true] 30) = W) := ⟨_, Lib.hid rfl⟩
        have HF := Lib.hid (Fork_any g _ _ HH1.out)
        have hWS : W1.heap.size = wr.heap.size + 1 := by rw [← HW1.out]; simp
        have pf := hP1.cell 1
        go_wp2_with fail
        refine HF.out.mono ?_
        rintro e w2 ⟨g', rfl, hg2, hH2, hb2⟩
        rw [HW1.out] at HH1 hW1 hrow1 hP1 hg2 hb2
        have HG2 := Lib.hid hH2; clear hH2
        have HO2 := Lib.hid (HH1.out.below hb2 HH1.out.lt)
        have hrow2 := row_below hrow1 hb2
        have hP2 := hP1.below hb2 hP1.lt
        have hnx2 := hW1.trans (hb2.mono hW1.size)
        clear HH1 hrow1 hP1 HF
        go_wp2_with fail
        refine (Write_any g _ ⟨#[111, 116, 104, 101, 114]⟩ w2 HO2.out (by have := hlx; show _ + 5 ≤ _; omega)).mono ?_
        rintro e w3 ⟨rfl, hH3, hg3⟩
        clear hH3
        have HG : Hid (IsH w3 g' (upTo T k)) := HB.grown HG2.out hg3 (fun e => by injection e; omega)
        have hrow3 : w3.ownsRow w.heap.size 5 1 u4 (upTo T k).length (bcells (upTo T k)) := row_keep hrow2 fun b hb => hg3.block b (row_lt hrow2 b hb).2 (fun e => by rw [e] at hb; exact row_ne hrow2 HO2.out hb.symm)
        have hP3 := hP2.grown hg3 (fun e => by injection e; omega)
        have hnx3 := below_of_grown2 hnx2 hg3 hg
        have hPg : some wr.heap.size ≠ some g' := fun e => by injection e; omega
        have hg' : w.heap.size ≤ g' := by have := hW1.size; omega
        clear HG2 HO2 hrow2 hP2 hnx2 hg3 hb2 hW1

        -- the world is w3; the Hasher is g'; the piece lies at wr.heap.size
        have pt := hP3.cell 0
        go_wp2_with fail
        refine (Write_any g' _ t w3 HG.out (by have := hlx; have := htt; omega)).mono ?_
        rintro e w4 ⟨rfl, hH4, hg4⟩
        have HH4 := Lib.hid hH4; clear hH4
        have hP4 := hP3.grown hg4 hPg
        have hrow4 : w4.ownsRow w.heap.size 5 1 u4 (upTo T k).length (bcells (upTo T k)) := row_keep hrow3 fun b hb => hg4.block b (row_lt hrow3 b hb).2 (fun e => by rw [e] at hb; exact row_ne hrow3 HG.out hb.symm)
        have hb4 := below_of_grown2 hnx3 hg4 hg'
        clear hnx3 hg4 HG hrow3 hPg hP3
        have p0 := hP4.cell 0
        have p2 := hP4.cell 2
        go_wp2_with (at_builtin; refine Lib.wpList_append_own_string _ rfl _ _ 28 9 rfl w.heap.size 5 i0 Try.underlying28 Try.underlying9 hi hz0 hz1 hz2 u4 _ _ rfl hrow4 t rfl ?c3 ?c4 ?c5 ?_)
        case c3 => unfold maxLen; have := hlx; have := htt; omega
        case c4 => have := hlx; have := htt; omega
        case c5 => exact hb4.size
        intro v5 w5 hrow5 hg5 _
        have hHg5 : some g' ≠ u4.ownBlock := row_ne hrow4 HH4.out
        have HH5 : Hid (IsH w5 g' (upTo T (k + 1))) := by
          show IsH _ _ _
          rw [upTo_succ, HT.out]
          exact HB.grown HH4.out hg5 hHg5
        have hP5 := hP4.grown hg5 (by
          intro e
          have hh := row_lt hrow4 _ e.symm
          rcases hrow4.2 with ⟨rfl, _⟩ | ⟨q, cap', cur, rfl, _, hh', _⟩
          · simp [Value.ownBlock] at e
          · simp [Value.ownBlock] at e
            subst e
            have hb' : w4.heap[wr.heap.size]? = some (.cells _ 30 (0, 0)) := hP4
            rw [hb'] at hh'
            simp at hh')
        have hb5 : Below w.heap.size w w5 := hb4.grown hg5 hb4.size (fun b hb => (row_lt hrow4 b hb).1)
        have hrowE : (upTo T k).length + t.size = (upTo T (k + 1)).length := by rw [upTo_succ, HT.out, List.length_append]; simp
        have hrowF : bcells (upTo T k) ++ Lib.strCells t = bcells (upTo T (k + 1)) := by rw [upTo_succ, HT.out, bcells_append]; rfl
        rw [hrowE, hrowF] at hrow5
        clear hrow4 hP4 HH4 hb4 hg5 hHg5 hrowE hrowF p0 p2
        obtain ⟨q5, cap5, rfl⟩ := row_form hrow5
        have hlx5 : (upTo T (k + 1)).length ≤ 1048576 := Nat.le_trans (upTo_mono T (k + 1) len hlt) htot
        obtain ⟨X, HX⟩ : ∃ X, Hid (upTo T (k + 1) = X) := ⟨_, Lib.hid rfl⟩
        rw [HX.out] at HH5 hrow5 hlx5 ⊢
        obtain ⟨S, HS⟩ : ∃ S, Hid (strOf (sha X) = S) := ⟨_, Lib.hid rfl⟩
        obtain ⟨O, HO⟩ : ∃ O, Hid (strOf X = O) := ⟨_, Lib.hid rfl⟩
        have K2 : ∀ x : Later w5, x.val.cell? ⟨wr.heap.size, 2, none⟩ = some (.bool true) := fun x => (hP5.below x.property hP5.lt).cell 2
        have hconv : ∀ x : Later w5, (convert 28 9 (.slice q5 X.length cap5)).run Try.prog x.val = .ok (.string O) x.val := fun x => by
          rw [← HO.out]
          exact run_string_B x.val w.heap.size _ _ (OwnB.of_row (row_below hrow5 x.property))
        have D1 : Hid (∀ x : Later w5, Calls Try.prog 17 #[.pointer (some ⟨g', 0, none⟩)] x.val fun e w'' => e = .returned (.string S) ∧ ∃ y : Later w5, w'' = y.val) := by
          show ∀ x, _
          intro x
          rw [← HS.out]
          exact calls_later x (HSum_any g' X x.val (HH5.out.below x.property HH5.out.lt) (by omega))
        have D2 : Hid (∀ x : Later w5, Calls Try.prog 13 #[.string O] x.val fun e w'' => e = .returned (.string S) ∧ ∃ y : Later w5, w'' = y.val) := by
          show ∀ x, _
          intro x
          have h := refSum_any (strOf X) x.val (by rw [strOf_size]; omega)
          rw [strOf_list, HS.out, HO.out] at h
          exact calls_later x h
        have D3 : Hid (∀ x : Later w5, Calls Try.prog 18 #[.pointer (some ⟨g', 0, none⟩)] x.val fun e w'' => e = .returned (.int .i64 X.length) ∧ ∃ y : Later w5, w'' = y.val) := by
          show ∀ x, _
          intro x
          exact calls_later_same x ((Len_any g' X x.val (HH5.out.below x.property HH5.out.lt)).mono fun e w' h => ⟨h.1, h.2.symm⟩)
        go_wp2
        refine wp_region_quiet (C := fun w' => ∃ x : Later w5, w' = x.val) (by kernel_rfl) (by kernel_rfl) (later_drew w5) ?_
        dsimp only
        repeat (first | go_big_quiet_step (first | with_reducible exact D1.out _ | with_reducible exact D2.out _ | with_reducible exact D3.out _) | quiet_step (fail))
        refine wpQuiet_nil ?_
        intro w6 hx
        have hw6 : Below w5.heap.size w5 w6 := by
          obtain ⟨x, rfl⟩ := hx
          exact x.property
        clear hx K2 hconv D1 D2 D3
        have HH6 := Lib.hid (HH5.out.below hw6 HH5.out.lt)
        have hrow6 := row_below hrow5 hw6
        have hb6 := hb5.trans (hw6.mono hb5.size)
        clear HH5 hrow5 hb5 hw6 hP5
        go_wp2
        obtain rfl := HR.out
        go_roundw
        case rel => exact ⟨k + 1, g', by omega, by go_num, rfl, hg', by rw [HX.out]; exact HH6, by rw [HX.out]; exact hrow6, hb6⟩
        case measure => simp [intOf]; omega
    · obtain rfl : k = len := by omega
      obtain ⟨q5, cap5, rfl⟩ := row_form hrow
      obtain ⟨X, HX⟩ : ∃ X, Hid (upTo T k = X) := ⟨_, Lib.hid rfl⟩
      rw [HX.out] at HH hrow htot ⊢
      obtain ⟨S, HS⟩ : ∃ S, Hid (strOf (sha X) = S) := ⟨_, Lib.hid rfl⟩
      obtain ⟨O, HO⟩ : ∃ O, Hid (strOf X = O) := ⟨_, Lib.hid rfl⟩
      have hconv : ∀ x : Later wr, (convert 28 9 (.slice q5 X.length cap5)).run Try.prog x.val = .ok (.string O) x.val := fun x => by
        rw [← HO.out]
        exact run_string_B x.val w.heap.size _ _ (OwnB.of_row (row_below hrow x.property))
      have D1 : Hid (∀ x : Later wr, Calls Try.prog 17 #[.pointer (some ⟨g, 0, none⟩)] x.val fun e w'' => e = .returned (.string S) ∧ ∃ y : Later wr, w'' = y.val) := by
        show ∀ x, _
        intro x
        rw [← HS.out]
        exact calls_later x (HSum_any g X x.val (HH.out.below x.property HH.out.lt) (by omega))
      have D2 : Hid (∀ x : Later wr, Calls Try.prog 13 #[.string O] x.val fun e w'' => e = .returned (.string S) ∧ ∃ y : Later wr, w'' = y.val) := by
        show ∀ x, _
        intro x
        have h := refSum_any (strOf X) x.val (by rw [strOf_size]; omega)
        rw [strOf_list, HS.out, HO.out] at h
        exact calls_later x h
      have D3 : Hid (∀ x : Later wr, Calls Try.prog 18 #[.pointer (some ⟨g, 0, none⟩)] x.val fun e w'' => e = .returned (.int .i64 X.length) ∧ ∃ y : Later wr, w'' = y.val) := by
        show ∀ x, _
        intro x
        exact calls_later_same x ((Len_any g X x.val (HH.out.below x.property HH.out.lt)).mono fun e w' h => ⟨h.1, h.2.symm⟩)
      have D4 : Hid (∀ x : Later wr, Calls Try.prog 12 #[.string O] x.val fun e w'' => e = .returned (.string S) ∧ ∃ y : Later wr, w'' = y.val) := by
        show ∀ x, _
        intro x
        have h := macSum_any (strOf X) x.val (by rw [strOf_size]; omega)
        rw [strOf_list, HS.out, HO.out] at h
        exact calls_later x h
      refine hide_post fun R HR => ?_
      go_wp2
      refine wp_region_quiet (C := fun w' => ∃ x : Later wr, w' = x.val) (by kernel_rfl) (by kernel_rfl) (later_drew wr) ?_
      dsimp only
      repeat (first | go_big_quiet_step (first | with_reducible exact D1.out _ | with_reducible exact D2.out _ | with_reducible exact D3.out _ | with_reducible exact D4.out _) | quiet_step (fail))
      refine wpQuiet_nil ?_
      intro w6 hx
      have hw6 : Below wr.heap.size wr w6 := by
        obtain ⟨x, rfl⟩ := hx
        exact x.property
      clear hx hconv D1 D2 D3 D4
      have hb6 := hnx.trans (hw6.mono hnx.size)
      go_wp2
      obtain rfl := HR.out
      go_ret
      exact ⟨rfl, hb6⟩

section
variable {H : Type} {enc : TypeId × Value → H} {P : Program} {w : World} {base : Nat} {spare : Nat → Bool} {held : Bool}
theorem open_slice_fields {t e : TypeId} {fs : Array Field} {fuel : Nat} {cs : List Value} {x : DataW H × List MemPlace} (ht : P.underlying t = some (.slice e)) (he : P.underlying e = some (.struct fs))
    (hone : oneCellFields P fs = true) (hC : P.cellsOf e = fs.size) (h : DataW.trod enc P w base spare held fuel t cs = some x) :
    (cs = [.slice none 0 0] ∧ x = (.nil, [])) ∨
    ∃ (a : Addr) (len cap m : Nat) (D : Nat → DataW H) (Pl : Nat → List MemPlace), cs = [.slice (some a) len cap] ∧ base ≤ a.block ∧ len ≤ cap ∧ cap ≤ maxLen ∧ m = (if spare a.block then cap else len) ∧
      x = (.slice ((List.range len).map D) ((List.range (m - len)).map fun j => D (len + j)), MemPlace.row a (m * fs.size) ++ (List.range m).flatMap Pl) ∧
      ∀ i, i < m → ∃ (ys : List (DataW H × List MemPlace)) (n : Nat), D i = .agg (ys.map (·.1)) ∧ Pl i = ys.flatMap (·.2) ∧ ys.length = fs.size ∧
        ∀ (j : Nat) (f : Field), fs[j]? = some f → ∃ (v : Value) (y : DataW H × List MemPlace), w.cell? (a.add (i * fs.size + j)) = some v ∧ ys[j]? = some y ∧ DataW.trod enc P w base spare held n f.type [v] = some y := by
  rcases open_slice ht h with h0 | ⟨a, len, cap, m, n, D, Pl, hcs, hb, hl, hm, hmm, hx, hi⟩
  · exact .inl h0
  · refine .inr ⟨a, len, cap, m, D, Pl, hcs, hb, hl, hm, hmm, by rw [hC] at hx; exact hx, fun i him => ?_⟩
    obtain ⟨cs', hc, ht'⟩ := hi i him
    rw [hC] at hc
    obtain ⟨ys, n', hn', hy, hlen, hyl, hf⟩ := DataW.trod_struct he ht'
    obtain ⟨_, hcl, hat⟩ := World.cells?_some hc
    simp only [Prod.mk.injEq] at hy
    refine ⟨ys, n', hy.1, hy.2, hyl, fun j f hj => ?_⟩
    obtain ⟨ho, hk⟩ := hone_of hone j f hj
    have hjl : j < fs.size := (Array.getElem?_eq_some_iff.1 hj).1
    have hcell := hat j hjl
    have hv : cs'[j]? = some (cs'[j]'(by omega)) := List.getElem?_eq_getElem (by omega)
    have h1 := hf j f hj
    rw [ho, hk] at h1
    have hone' : (cs'.drop j).take 1 = [cs'[j]'(by omega)] := by
      rw [List.drop_eq_getElem_cons (by omega)]
      rfl
    rw [hone'] at h1
    have hys : ys[j]? = some (ys[j]'(by omega)) := List.getElem?_eq_getElem (by omega)
    refine ⟨_, _, ?_, hys, h1.trans hys⟩
    rw [← Go.Deep.add_add, hcell, hv]
end
end Pcs
end Go.Proofs.Ytlpdbkhpchmpmaa
