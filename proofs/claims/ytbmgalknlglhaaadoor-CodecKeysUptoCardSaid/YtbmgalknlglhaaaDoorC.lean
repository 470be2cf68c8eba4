/-
  The codec's Writer: NewWriter, put, U8, U64, Done.
-/
import Derived.Test.YtbmgalknlglhaaaDoorA
import Derived.Test.YtbmgalknlglhaaaDoorQ
namespace Go.Proofs.YtbmgalknlglhaaaDoor
open Go.RowKit
set_option linter.unusedVariables false
set_option maxRecDepth 100000
set_option maxHeartbeats 2000000

/-- The Writer at block b holds the bytes l, in a buffer of its own, and is not over. -/
def IsW (w : World) (B b : Nat) (most : Nat) (l : List UInt8) : Prop :=
  ∃ v, Blk w b 63 #[.int .i64 (most : Int), v, .bool false] ∧ B ≤ b ∧ OwnB w B v l ∧ v.ownBlock ≠ some b
theorem IsW.below {w w' : World} {B b most : Nat} {l : List UInt8} (h : IsW w B b most l) (hb : Below w.heap.size w w') : IsW w' B b most l := by
  obtain ⟨v, h1, h2, h3, h4⟩ := h
  exact ⟨v, h1.below hb h1.lt, h2, h3.below hb, h4⟩
theorem IsW.alloc {w : World} {B b most : Nat} {l : List UInt8} (h : IsW w B b most l) (o : Obj) : IsW (w.alloc o) B b most l := by
  obtain ⟨v, h1, h2, h3, h4⟩ := h
  exact ⟨v, h1.alloc o, h2, h3.alloc o, h4⟩

theorem newWriter_any (most : Nat) (w : World) (h : most ≤ 1099511627776) :
    Calls Tryd.prog 14 #[.int .i64 (most : Int)] w fun e w' => e = .returned (.pointer (some ⟨w.heap.size, 0, none⟩)) ∧ IsW w' w.heap.size w.heap.size most [] ∧ Below w.heap.size w w' := by
  have h0 : (0 : Int) ≤ (most : Int) := by omega
  have h1 : (most : Int) ≤ 1099511627776 := by omega
  have hm : max (most : Int) 0 = (most : Int) := by omega
  go_enter Tryd.func14, Tryd.ntmps14
  go_wp2
  go_ret
  refine ⟨rfl, ⟨_, Blk.new w 63 _, Nat.le_refl _, OwnB.nil _ _, by simp [Value.ownBlock]⟩, (Below.refl _ _).alloc (Nat.le_refl _) _⟩

theorem wDone_any (B b most : Nat) (l : List UInt8) (w : World) (h : IsW w B b most l) :
    Calls Tryd.prog 18 #[.pointer (some ⟨b, 0, none⟩)] w fun e w' => e = .returned (.tuple #[.string (strOf l), .int .i64 0]) ∧ w' = w := by
  obtain ⟨v, hb, hB, hown, hne⟩ := h
  have c0 := hb.cell 0
  have c1 := hb.cell 1
  have c2 := hb.cell 2
  simp only [List.getElem?_toArray, List.getElem?_cons_succ, List.getElem?_cons_zero] at c0 c1 c2
  have hconv := run_string_B w B v l hown
  obtain ⟨p1, cap1, rfl⟩ := hown.form
  go_enter Tryd.func18, Tryd.ntmps18
  go_wp2
  go_ret2
  exact ⟨rfl, rfl⟩
theorem put_any (B b most : Nat) (l : List UInt8) (ad : Addr) (m c : Nat) (ys : List UInt8) (w : World) (h : IsW w B b most l) (hm : ys.length = m)
    (hc : ∀ j u, (bcells ys)[j]? = some u → w.cell? (ad.add j) = some u) (hroom : l.length + m ≤ most) (hmost : most ≤ 1099511627776) (hBw : B ≤ w.heap.size) :
    Calls Tryd.prog 33 #[.pointer (some ⟨b, 0, none⟩), .slice (some ad) m c] w fun e w' => e = .returned (.tuple #[]) ∧ IsW w' B b most (l ++ ys) ∧ Below B w w' := by
  obtain ⟨v, hb, hB, hown, hne⟩ := h
  have c0 := hb.cell 0
  have c1 := hb.cell 1
  have c2 := hb.cell 2
  have f1 := hb.frozen 1
  simp only [List.getElem?_toArray, List.getElem?_cons_succ, List.getElem?_cons_zero] at c0 c1 c2
  obtain ⟨O, HO⟩ : ∃ O, Hid (l ++ ys = O) := ⟨_, Lib.hid rfl⟩
  rw [HO.out]
  obtain ⟨L, HL⟩ : ∃ L, Hid (l.length = L) := ⟨_, Lib.hid rfl⟩
  have hform := hown.form
  rw [HL.out] at hroom hform
  obtain ⟨p1, cap1, hv⟩ := hform
  have g1 : (L : Int) ≤ 1099511627776 := by omega
  have g2 : (most : Int) ≤ 1099511627776 := by omega
  have g3 : ¬ ((most : Int) - (L : Int) < (m : Int)) := by omega
  have g4 : (0 : Int) ≤ (L : Int) := by omega
  have g5 : (0 : Int) ≤ (most : Int) := by omega
  have g6 : (m : Int) ≤ 1099511627776 := by omega
  subst hv
  go_enter Tryd.func33, Tryd.ntmps33
  go_wp2
  go_quiet (fail)
  go_wp2_with (at_builtin; refine wpList_append_B2 _ rfl _ _ rfl B _ _ rfl (hown.drewN nq) ad m c ys rfl hm (fun j u hj => hc j u hj) ?c2 ?c3 ?_)
  case c2 => have := HL.out; omega
  case c3 => exact hBw
  intro v1 w1 hB1 hg1 hv1
  rw [HO.out] at hB1 hv1
  have hbq := hb.drewN nq
  have hb1 : Blk w1 b 63 _ := hbq.grown hg1 (fun e => hne e.symm)
  have hnx : Below B w w1 := (below_drewN (Below.refl B w) nq).grown hg1 hBw (fun j hj => (hown.lt j hj).1)
  have hne1 : v1.ownBlock ≠ some b := by
    intro e
    rcases hv1 with e1 | e1
    · exact hne (by rw [← e1, e])
    · have h1 : w.heap.size ≤ b := (e1.lt b e).1
      have h2 : b < w.heap.size := hb.lt
      omega
  clear hv1 hg1
  have d1 := hb1.cell 1
  have f1 := hb1.frozen 1
  simp only [List.getElem?_toArray, List.getElem?_cons_succ, List.getElem?_cons_zero] at d1
  have hf := hB1.form
  obtain ⟨K, HK⟩ : ∃ K, Hid (O.length = K) := ⟨_, Lib.hid rfl⟩
  rw [HK.out] at hf
  obtain ⟨p2, cap2, rfl⟩ := hf
  go_wp2
  go_end0
  refine ⟨rfl, ⟨_, hb1.set_ 1 _, hB, hB1.setCell hne1 _, hne1⟩, hnx.setCell (p := ⟨b, 1, none⟩) hB _⟩
end Go.Proofs.YtbmgalknlglhaaaDoor
