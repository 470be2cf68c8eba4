/-
  The reference's Below.
-/
import Derived.Test.YtbmgalknlglhaaaDoorM
import Derived.Deep.RegionHeld3
namespace Go.Proofs.YtbmgalknlglhaaaDoor
open Go.RowKit
set_option linter.unusedVariables false
set_option maxRecDepth 100000
set_option maxHeartbeats 4000000

def ltPt (p q : Pt) : Bool := if p.b != q.b then p.b else if p.b then decide (p.n < q.n) else Op.bytesLess p.t.toList q.t.toList
def belowL : List Pt → List Pt → Bool
  | [], qs => decide (0 < qs.length)
  | _ :: _, [] => false
  | p :: ps, q :: qs => if samePt p q then belowL ps qs else ltPt p q
theorem drop_at (ps : List Pt) (k : Nat) (h : k < ps.length) : ps.drop k = ps.getD k default :: ps.drop (k + 1) := by
  rw [List.drop_eq_getElem_cons h]
  simp [List.getD_eq_getElem?_getD, List.getElem?_eq_getElem h]
theorem belowL_cons (p q : Pt) (ps qs : List Pt) : belowL (p :: ps) (q :: qs) = if samePt p q then belowL ps qs else ltPt p q := rfl
theorem belowL_nil (qs : List Pt) : belowL [] qs = decide (0 < qs.length) := by cases qs <;> rfl
theorem belowL_nil' (ps : List Pt) : belowL ps [] = false := by cases ps <;> rfl
attribute [irreducible] belowL

theorem below_any (pa pb : Option Addr) (ca cb : Nat) (ps qs : List Pt) (w : World) (hp : PartsAt w w.heap.size pa ps) (hq : PartsAt w w.heap.size pb qs) (hl : ps.length ≤ 2097152) (hl' : qs.length ≤ 2097152) :
    Calls Tryd.prog 9 #[.slice pa ps.length ca, .slice pb qs.length cb] w fun e w' => e = .returned (.bool (belowL ps qs)) ∧ Below w.heap.size w w' := by
  obtain ⟨L, HL⟩ : ∃ L, Hid (ps.length = L) := ⟨_, Lib.hid rfl⟩
  obtain ⟨M, HM⟩ : ∃ L, Hid (qs.length = L) := ⟨_, Lib.hid rfl⟩
  have HP := Lib.hid hp; clear hp
  have HQ := Lib.hid hq; clear hq
  rw [HL.out] at hl ⊢
  rw [HM.out] at hl' ⊢
  obtain ⟨res, HRES⟩ : ∃ r, Hid (belowL ps qs = r) := ⟨_, Lib.hid rfl⟩
  rw [HRES.out]
  have l0 : (0 : Int) ≤ (L : Int) := by omega
  have l1 : (L : Int) ≤ 2097152 := by omega
  have l2 : (0 : Int) ≤ (M : Int) := by omega
  have l3 : (M : Int) ≤ 2097152 := by omega
  go_enter Tryd.func9, Tryd.ntmps9
  go_wp2
  go_loopw [5, 6, 7] (fun i _ _ wr => ∃ (k : Nat), k ≤ L ∧ k ≤ M ∧ i = .int .i64 k ∧ Hid (belowL (ps.drop k) (qs.drop k) = res) ∧ Below w.heap.size w wr) (fun i _ _ _ => L - (intOf i).toNat)
  case atStart => exact ⟨0, by omega, by omega, rfl, by show _ = _; rw [List.drop_zero, List.drop_zero]; exact HRES.out, Below.refl _ _⟩
  case round =>
    obtain ⟨k, hk, hk', rfl, HTK, hnx⟩ := hrel
    have hsz := hnx.size
    by_cases hlt : k < L
    · by_cases hlt' : k < M
      · obtain ⟨p, HPT⟩ : ∃ p, Hid (ps.getD k default = p) := ⟨_, Lib.hid rfl⟩
        obtain ⟨q, HQT⟩ : ∃ p, Hid (qs.getD k default = p) := ⟨_, Lib.hid rfl⟩
        obtain ⟨a, rfl, hab, c0, c1, c2⟩ := (HP.out.below hnx).get k (by rw [HL.out]; exact hlt) p HPT.out
        obtain ⟨b, rfl, hbb, d0, d1, d2⟩ := (HQ.out.below hnx).get k (by rw [HM.out]; exact hlt') q HQT.out
        have e1 := drop_at ps k (by rw [HL.out]; exact hlt)
        have e2 := drop_at qs k (by rw [HM.out]; exact hlt')
        rw [HPT.out] at e1
        rw [HQT.out] at e2
        have HSTEP : Hid ((if samePt p q then belowL (ps.drop (k + 1)) (qs.drop (k + 1)) else ltPt p q) = res) := by
          show _ = _
          rw [← HTK.out, e1, e2, belowL_cons]
        clear e1 e2
        have heql : ∀ w : World, (binOp .eql 51 (.agg #[.string p.t, .int .u64 (p.n : Int), .bool p.b]) (.agg #[.string q.t, .int .u64 (q.n : Int), .bool q.b])).run Tryd.prog w = .ok (.bool (samePt p q)) w := fun w => eql51 p q w
        obtain ⟨A, HA⟩ : ∃ A, a.add (k * 3) = A := ⟨_, rfl⟩
        obtain ⟨B, HB⟩ : ∃ A, b.add (k * 3) = A := ⟨_, rfl⟩
        rw [HA] at c0 c1 c2
        rw [HB] at d0 d1 d2
        rcases p with ⟨t1, n1, b1⟩
        rcases q with ⟨t2, n2, b2⟩
        dsimp only at c0 c1 c2 d0 d1 d2 heql
        cases hs : samePt ⟨t1, n1, b1⟩ ⟨t2, n2, b2⟩ with
        | true =>
          rw [hs] at heql
          have HNX : Hid (belowL (ps.drop (k + 1)) (qs.drop (k + 1)) = res) := by
            show _ = _
            rw [← HSTEP.out, if_pos hs]
          clear hs HSTEP
          refine hide_post fun R HR => ?_
          go_wp2
          have n0 := World.new_ne wr A c0
          have n1' := World.new_ne wr B d0
          go_region_held3 (fun w' => w'.cell? A = some (.string t1) ∧ w'.cell? ⟨A.block, A.off + 1, none⟩ = some (.int .u64 (n1 : Int)) ∧ w'.cell? ⟨A.block, A.off + 2, none⟩ = some (.bool b1) ∧ w'.cell? B = some (.string t2) ∧ w'.cell? ⟨B.block, B.off + 1, none⟩ = some (.int .u64 (n2 : Int)) ∧ w'.cell? ⟨B.block, B.off + 2, none⟩ = some (.bool b2)) (go_keep) (fail)
          · have h1 := ((Blk.new wr 51 #[.string t1, .int .u64 (n1 : Int), .bool b1]).alloc (.cells #[.string t2, .int .u64 (n2 : Int), .bool b2] 51)).drew
            have h2 := (Blk.new_at (wr.alloc (.cells #[.string t1, .int .u64 (n1 : Int), .bool b1] 51)) (wr.heap.size + 1) (by simp) 51 #[.string t2, .int .u64 (n2 : Int), .bool b2]).drew
            have hnx1 : Below w.heap.size w (((wr.alloc (.cells #[.string t1, .int .u64 (n1 : Int), .bool b1] 51)).alloc (.cells #[.string t2, .int .u64 (n2 : Int), .bool b2] 51)).drew) := ((hnx.alloc hsz _).alloc (hnx.alloc hsz _).size _).drew
            obtain ⟨W, HW⟩ : ∃ W, Hid (((wr.alloc (.cells #[.string t1, .int .u64 (n1 : Int), .bool b1] 51)).alloc (.cells #[.string t2, .int .u64 (n2 : Int), .bool b2] 51)).drew = W) := ⟨_, Lib.hid rfl⟩
            rw [HW.out] at h1 h2 hnx1 ⊢
            have h10 := h1.cell 0
            have h11 := h1.cell 1
            have h12 := h1.cell 2
            have h20 := h2.cell 0
            have h21 := h2.cell 1
            have h22 := h2.cell 2
            simp only [List.getElem?_toArray, List.getElem?_cons_succ, List.getElem?_cons_zero] at h10 h11 h12 h20 h21 h22
            clear c0 c1 c2 d0 d1 d2 n0 n1'
            go_wp2
            obtain rfl := HR.out
            go_roundw
            case rel => exact ⟨k + 1, hlt, hlt', by go_num, HNX, hnx1⟩
            case measure => simp [intOf]; omega
          · have h1 := ((Blk.new wr 51 #[.string t2, .int .u64 (n2 : Int), .bool b2]).alloc (.cells #[.string t1, .int .u64 (n1 : Int), .bool b1] 51)).drew
            have h2 := (Blk.new_at (wr.alloc (.cells #[.string t2, .int .u64 (n2 : Int), .bool b2] 51)) (wr.heap.size + 1) (by simp) 51 #[.string t1, .int .u64 (n1 : Int), .bool b1]).drew
            have hnx1 : Below w.heap.size w (((wr.alloc (.cells #[.string t2, .int .u64 (n2 : Int), .bool b2] 51)).alloc (.cells #[.string t1, .int .u64 (n1 : Int), .bool b1] 51)).drew) := ((hnx.alloc hsz _).alloc (hnx.alloc hsz _).size _).drew
            obtain ⟨W, HW⟩ : ∃ W, Hid (((wr.alloc (.cells #[.string t2, .int .u64 (n2 : Int), .bool b2] 51)).alloc (.cells #[.string t1, .int .u64 (n1 : Int), .bool b1] 51)).drew = W) := ⟨_, Lib.hid rfl⟩
            rw [HW.out] at h1 h2 hnx1 ⊢
            have h10 := h1.cell 0
            have h11 := h1.cell 1
            have h12 := h1.cell 2
            have h20 := h2.cell 0
            have h21 := h2.cell 1
            have h22 := h2.cell 2
            simp only [List.getElem?_toArray, List.getElem?_cons_succ, List.getElem?_cons_zero] at h10 h11 h12 h20 h21 h22
            clear c0 c1 c2 d0 d1 d2 n0 n1'
            go_wp2
            obtain rfl := HR.out
            go_roundw
            case rel => exact ⟨k + 1, hlt, hlt', by go_num, HNX, hnx1⟩
            case measure => simp [intOf]; omega
        | false =>
          rw [hs] at heql
          have HNX : Hid (ltPt ⟨t1, n1, b1⟩ ⟨t2, n2, b2⟩ = res) := by
            show _ = _
            rw [← HSTEP.out, if_neg (by rw [hs]; decide)]
          clear hs HSTEP
          cases b1 with
          | true =>
            cases b2 with
            | true =>
              refine hide_post fun R HR => ?_
              go_wp2
              have n0 := World.new_ne wr A c0
              have n1' := World.new_ne wr B d0
              go_region_held3 (fun w' => w'.cell? A = some (.string t1) ∧ w'.cell? ⟨A.block, A.off + 1, none⟩ = some (.int .u64 (n1 : Int)) ∧ w'.cell? ⟨A.block, A.off + 2, none⟩ = some (.bool true) ∧ w'.cell? B = some (.string t2) ∧ w'.cell? ⟨B.block, B.off + 1, none⟩ = some (.int .u64 (n2 : Int)) ∧ w'.cell? ⟨B.block, B.off + 2, none⟩ = some (.bool true)) (go_keep) (fail)
              · have h1 := ((Blk.new wr 51 #[.string t1, .int .u64 (n1 : Int), .bool true]).alloc (.cells #[.string t2, .int .u64 (n2 : Int), .bool true] 51)).drew
                have h2 := (Blk.new_at (wr.alloc (.cells #[.string t1, .int .u64 (n1 : Int), .bool true] 51)) (wr.heap.size + 1) (by simp) 51 #[.string t2, .int .u64 (n2 : Int), .bool true]).drew
                have hnx1 : Below w.heap.size w (((wr.alloc (.cells #[.string t1, .int .u64 (n1 : Int), .bool true] 51)).alloc (.cells #[.string t2, .int .u64 (n2 : Int), .bool true] 51)).drew) := ((hnx.alloc hsz _).alloc (hnx.alloc hsz _).size _).drew
                obtain ⟨W, HW⟩ : ∃ W, Hid (((wr.alloc (.cells #[.string t1, .int .u64 (n1 : Int), .bool true] 51)).alloc (.cells #[.string t2, .int .u64 (n2 : Int), .bool true] 51)).drew = W) := ⟨_, Lib.hid rfl⟩
                rw [HW.out] at h1 h2 hnx1 ⊢
                have h10 := h1.cell 0
                have h11 := h1.cell 1
                have h12 := h1.cell 2
                have h20 := h2.cell 0
                have h21 := h2.cell 1
                have h22 := h2.cell 2
                simp only [List.getElem?_toArray, List.getElem?_cons_succ, List.getElem?_cons_zero] at h10 h11 h12 h20 h21 h22
                clear c0 c1 c2 d0 d1 d2 n0 n1'
                go_wp2
                obtain rfl := HR.out
                go_ret
                refine ⟨?_, hnx1⟩
                rw [← HNX.out]
                rfl
              · have h1 := ((Blk.new wr 51 #[.string t2, .int .u64 (n2 : Int), .bool true]).alloc (.cells #[.string t1, .int .u64 (n1 : Int), .bool true] 51)).drew
                have h2 := (Blk.new_at (wr.alloc (.cells #[.string t2, .int .u64 (n2 : Int), .bool true] 51)) (wr.heap.size + 1) (by simp) 51 #[.string t1, .int .u64 (n1 : Int), .bool true]).drew
                have hnx1 : Below w.heap.size w (((wr.alloc (.cells #[.string t2, .int .u64 (n2 : Int), .bool true] 51)).alloc (.cells #[.string t1, .int .u64 (n1 : Int), .bool true] 51)).drew) := ((hnx.alloc hsz _).alloc (hnx.alloc hsz _).size _).drew
                obtain ⟨W, HW⟩ : ∃ W, Hid (((wr.alloc (.cells #[.string t2, .int .u64 (n2 : Int), .bool true] 51)).alloc (.cells #[.string t1, .int .u64 (n1 : Int), .bool true] 51)).drew = W) := ⟨_, Lib.hid rfl⟩
                rw [HW.out] at h1 h2 hnx1 ⊢
                have h10 := h1.cell 0
                have h11 := h1.cell 1
                have h12 := h1.cell 2
                have h20 := h2.cell 0
                have h21 := h2.cell 1
                have h22 := h2.cell 2
                simp only [List.getElem?_toArray, List.getElem?_cons_succ, List.getElem?_cons_zero] at h10 h11 h12 h20 h21 h22
                clear c0 c1 c2 d0 d1 d2 n0 n1'
                go_wp2
                obtain rfl := HR.out
                go_ret
                refine ⟨?_, hnx1⟩
                rw [← HNX.out]
                rfl
            | false =>
              refine hide_post fun R HR => ?_
              go_wp2
              have n0 := World.new_ne wr A c0
              have n1' := World.new_ne wr B d0
              go_region_held3 (fun w' => w'.cell? A = some (.string t1) ∧ w'.cell? ⟨A.block, A.off + 1, none⟩ = some (.int .u64 (n1 : Int)) ∧ w'.cell? ⟨A.block, A.off + 2, none⟩ = some (.bool true) ∧ w'.cell? B = some (.string t2) ∧ w'.cell? ⟨B.block, B.off + 1, none⟩ = some (.int .u64 (n2 : Int)) ∧ w'.cell? ⟨B.block, B.off + 2, none⟩ = some (.bool false)) (go_keep) (fail)
              · have h1 := ((Blk.new wr 51 #[.string t1, .int .u64 (n1 : Int), .bool true]).alloc (.cells #[.string t2, .int .u64 (n2 : Int), .bool false] 51)).drew
                have h2 := (Blk.new_at (wr.alloc (.cells #[.string t1, .int .u64 (n1 : Int), .bool true] 51)) (wr.heap.size + 1) (by simp) 51 #[.string t2, .int .u64 (n2 : Int), .bool false]).drew
                have hnx1 : Below w.heap.size w (((wr.alloc (.cells #[.string t1, .int .u64 (n1 : Int), .bool true] 51)).alloc (.cells #[.string t2, .int .u64 (n2 : Int), .bool false] 51)).drew) := ((hnx.alloc hsz _).alloc (hnx.alloc hsz _).size _).drew
                obtain ⟨W, HW⟩ : ∃ W, Hid (((wr.alloc (.cells #[.string t1, .int .u64 (n1 : Int), .bool true] 51)).alloc (.cells #[.string t2, .int .u64 (n2 : Int), .bool false] 51)).drew = W) := ⟨_, Lib.hid rfl⟩
                rw [HW.out] at h1 h2 hnx1 ⊢
                have h10 := h1.cell 0
                have h11 := h1.cell 1
                have h12 := h1.cell 2
                have h20 := h2.cell 0
                have h21 := h2.cell 1
                have h22 := h2.cell 2
                simp only [List.getElem?_toArray, List.getElem?_cons_succ, List.getElem?_cons_zero] at h10 h11 h12 h20 h21 h22
                clear c0 c1 c2 d0 d1 d2 n0 n1'
                go_wp2
                obtain rfl := HR.out
                go_ret
                refine ⟨?_, hnx1⟩
                rw [← HNX.out]
                rfl
              · have h1 := ((Blk.new wr 51 #[.string t2, .int .u64 (n2 : Int), .bool false]).alloc (.cells #[.string t1, .int .u64 (n1 : Int), .bool true] 51)).drew
                have h2 := (Blk.new_at (wr.alloc (.cells #[.string t2, .int .u64 (n2 : Int), .bool false] 51)) (wr.heap.size + 1) (by simp) 51 #[.string t1, .int .u64 (n1 : Int), .bool true]).drew
                have hnx1 : Below w.heap.size w (((wr.alloc (.cells #[.string t2, .int .u64 (n2 : Int), .bool false] 51)).alloc (.cells #[.string t1, .int .u64 (n1 : Int), .bool true] 51)).drew) := ((hnx.alloc hsz _).alloc (hnx.alloc hsz _).size _).drew
                obtain ⟨W, HW⟩ : ∃ W, Hid (((wr.alloc (.cells #[.string t2, .int .u64 (n2 : Int), .bool false] 51)).alloc (.cells #[.string t1, .int .u64 (n1 : Int), .bool true] 51)).drew = W) := ⟨_, Lib.hid rfl⟩
                rw [HW.out] at h1 h2 hnx1 ⊢
                have h10 := h1.cell 0
                have h11 := h1.cell 1
                have h12 := h1.cell 2
                have h20 := h2.cell 0
                have h21 := h2.cell 1
                have h22 := h2.cell 2
                simp only [List.getElem?_toArray, List.getElem?_cons_succ, List.getElem?_cons_zero] at h10 h11 h12 h20 h21 h22
                clear c0 c1 c2 d0 d1 d2 n0 n1'
                go_wp2
                obtain rfl := HR.out
                go_ret
                refine ⟨?_, hnx1⟩
                rw [← HNX.out]
                rfl
          | false =>
            cases b2 with
            | true =>
              refine hide_post fun R HR => ?_
              go_wp2
              have n0 := World.new_ne wr A c0
              have n1' := World.new_ne wr B d0
              go_region_held3 (fun w' => w'.cell? A = some (.string t1) ∧ w'.cell? ⟨A.block, A.off + 1, none⟩ = some (.int .u64 (n1 : Int)) ∧ w'.cell? ⟨A.block, A.off + 2, none⟩ = some (.bool false) ∧ w'.cell? B = some (.string t2) ∧ w'.cell? ⟨B.block, B.off + 1, none⟩ = some (.int .u64 (n2 : Int)) ∧ w'.cell? ⟨B.block, B.off + 2, none⟩ = some (.bool true)) (go_keep) (fail)
              · have h1 := ((Blk.new wr 51 #[.string t1, .int .u64 (n1 : Int), .bool false]).alloc (.cells #[.string t2, .int .u64 (n2 : Int), .bool true] 51)).drew
                have h2 := (Blk.new_at (wr.alloc (.cells #[.string t1, .int .u64 (n1 : Int), .bool false] 51)) (wr.heap.size + 1) (by simp) 51 #[.string t2, .int .u64 (n2 : Int), .bool true]).drew
                have hnx1 : Below w.heap.size w (((wr.alloc (.cells #[.string t1, .int .u64 (n1 : Int), .bool false] 51)).alloc (.cells #[.string t2, .int .u64 (n2 : Int), .bool true] 51)).drew) := ((hnx.alloc hsz _).alloc (hnx.alloc hsz _).size _).drew
                obtain ⟨W, HW⟩ : ∃ W, Hid (((wr.alloc (.cells #[.string t1, .int .u64 (n1 : Int), .bool false] 51)).alloc (.cells #[.string t2, .int .u64 (n2 : Int), .bool true] 51)).drew = W) := ⟨_, Lib.hid rfl⟩
                rw [HW.out] at h1 h2 hnx1 ⊢
                have h10 := h1.cell 0
                have h11 := h1.cell 1
                have h12 := h1.cell 2
                have h20 := h2.cell 0
                have h21 := h2.cell 1
                have h22 := h2.cell 2
                simp only [List.getElem?_toArray, List.getElem?_cons_succ, List.getElem?_cons_zero] at h10 h11 h12 h20 h21 h22
                clear c0 c1 c2 d0 d1 d2 n0 n1'
                go_wp2
                obtain rfl := HR.out
                go_ret
                refine ⟨?_, hnx1⟩
                rw [← HNX.out]
                rfl
              · have h1 := ((Blk.new wr 51 #[.string t2, .int .u64 (n2 : Int), .bool true]).alloc (.cells #[.string t1, .int .u64 (n1 : Int), .bool false] 51)).drew
                have h2 := (Blk.new_at (wr.alloc (.cells #[.string t2, .int .u64 (n2 : Int), .bool true] 51)) (wr.heap.size + 1) (by simp) 51 #[.string t1, .int .u64 (n1 : Int), .bool false]).drew
                have hnx1 : Below w.heap.size w (((wr.alloc (.cells #[.string t2, .int .u64 (n2 : Int), .bool true] 51)).alloc (.cells #[.string t1, .int .u64 (n1 : Int), .bool false] 51)).drew) := ((hnx.alloc hsz _).alloc (hnx.alloc hsz _).size _).drew
                obtain ⟨W, HW⟩ : ∃ W, Hid (((wr.alloc (.cells #[.string t2, .int .u64 (n2 : Int), .bool true] 51)).alloc (.cells #[.string t1, .int .u64 (n1 : Int), .bool false] 51)).drew = W) := ⟨_, Lib.hid rfl⟩
                rw [HW.out] at h1 h2 hnx1 ⊢
                have h10 := h1.cell 0
                have h11 := h1.cell 1
                have h12 := h1.cell 2
                have h20 := h2.cell 0
                have h21 := h2.cell 1
                have h22 := h2.cell 2
                simp only [List.getElem?_toArray, List.getElem?_cons_succ, List.getElem?_cons_zero] at h10 h11 h12 h20 h21 h22
                clear c0 c1 c2 d0 d1 d2 n0 n1'
                go_wp2
                obtain rfl := HR.out
                go_ret
                refine ⟨?_, hnx1⟩
                rw [← HNX.out]
                rfl
            | false =>
              refine hide_post fun R HR => ?_
              go_wp2
              have n0 := World.new_ne wr A c0
              have n1' := World.new_ne wr B d0
              go_region_held3 (fun w' => w'.cell? A = some (.string t1) ∧ w'.cell? ⟨A.block, A.off + 1, none⟩ = some (.int .u64 (n1 : Int)) ∧ w'.cell? ⟨A.block, A.off + 2, none⟩ = some (.bool false) ∧ w'.cell? B = some (.string t2) ∧ w'.cell? ⟨B.block, B.off + 1, none⟩ = some (.int .u64 (n2 : Int)) ∧ w'.cell? ⟨B.block, B.off + 2, none⟩ = some (.bool false)) (go_keep) (fail)
              · have h1 := ((Blk.new wr 51 #[.string t1, .int .u64 (n1 : Int), .bool false]).alloc (.cells #[.string t2, .int .u64 (n2 : Int), .bool false] 51)).drew
                have h2 := (Blk.new_at (wr.alloc (.cells #[.string t1, .int .u64 (n1 : Int), .bool false] 51)) (wr.heap.size + 1) (by simp) 51 #[.string t2, .int .u64 (n2 : Int), .bool false]).drew
                have hnx1 : Below w.heap.size w (((wr.alloc (.cells #[.string t1, .int .u64 (n1 : Int), .bool false] 51)).alloc (.cells #[.string t2, .int .u64 (n2 : Int), .bool false] 51)).drew) := ((hnx.alloc hsz _).alloc (hnx.alloc hsz _).size _).drew
                obtain ⟨W, HW⟩ : ∃ W, Hid (((wr.alloc (.cells #[.string t1, .int .u64 (n1 : Int), .bool false] 51)).alloc (.cells #[.string t2, .int .u64 (n2 : Int), .bool false] 51)).drew = W) := ⟨_, Lib.hid rfl⟩
                rw [HW.out] at h1 h2 hnx1 ⊢
                have h10 := h1.cell 0
                have h11 := h1.cell 1
                have h12 := h1.cell 2
                have h20 := h2.cell 0
                have h21 := h2.cell 1
                have h22 := h2.cell 2
                simp only [List.getElem?_toArray, List.getElem?_cons_succ, List.getElem?_cons_zero] at h10 h11 h12 h20 h21 h22
                clear c0 c1 c2 d0 d1 d2 n0 n1'
                go_wp2
                obtain rfl := HR.out
                go_ret
                refine ⟨?_, hnx1⟩
                rw [← HNX.out]
                rfl
              · have h1 := ((Blk.new wr 51 #[.string t2, .int .u64 (n2 : Int), .bool false]).alloc (.cells #[.string t1, .int .u64 (n1 : Int), .bool false] 51)).drew
                have h2 := (Blk.new_at (wr.alloc (.cells #[.string t2, .int .u64 (n2 : Int), .bool false] 51)) (wr.heap.size + 1) (by simp) 51 #[.string t1, .int .u64 (n1 : Int), .bool false]).drew
                have hnx1 : Below w.heap.size w (((wr.alloc (.cells #[.string t2, .int .u64 (n2 : Int), .bool false] 51)).alloc (.cells #[.string t1, .int .u64 (n1 : Int), .bool false] 51)).drew) := ((hnx.alloc hsz _).alloc (hnx.alloc hsz _).size _).drew
                obtain ⟨W, HW⟩ : ∃ W, Hid (((wr.alloc (.cells #[.string t2, .int .u64 (n2 : Int), .bool false] 51)).alloc (.cells #[.string t1, .int .u64 (n1 : Int), .bool false] 51)).drew = W) := ⟨_, Lib.hid rfl⟩
                rw [HW.out] at h1 h2 hnx1 ⊢
                have h10 := h1.cell 0
                have h11 := h1.cell 1
                have h12 := h1.cell 2
                have h20 := h2.cell 0
                have h21 := h2.cell 1
                have h22 := h2.cell 2
                simp only [List.getElem?_toArray, List.getElem?_cons_succ, List.getElem?_cons_zero] at h10 h11 h12 h20 h21 h22
                clear c0 c1 c2 d0 d1 d2 n0 n1'
                go_wp2
                obtain rfl := HR.out
                go_ret
                refine ⟨?_, hnx1⟩
                rw [← HNX.out]
                rfl
      · obtain rfl : k = M := by omega
        have hE : Hid (res = false) := by
          show _ = _
          rw [← HTK.out, List.drop_of_length_le (show qs.length ≤ k by rw [HM.out]; exact Nat.le_refl _), belowL_nil']
        have hlm : ¬ (L : Int) < (k : Int) := by omega
        have hkL : (k : Int) < (L : Int) := by omega
        refine hide_post fun R HR => ?_
        go_wp2
        obtain rfl := HR.out
        go_ret
        refine ⟨?_, hnx⟩
        rw [hE.out]
        rfl
    · obtain rfl : k = L := by omega
      have hE : Hid (res = decide (k < M)) := by
        show _ = _
        rw [← HTK.out, List.drop_of_length_le (show ps.length ≤ k by rw [HL.out]; exact Nat.le_refl _), belowL_nil, List.length_drop, HM.out]
        by_cases h : k < M
        · rw [decide_eq_true (by omega), decide_eq_true (by omega)]
        · rw [decide_eq_false (by omega), decide_eq_false (by omega)]
      refine hide_post fun R HR => ?_
      go_wp2
      obtain rfl := HR.out
      go_ret
      refine ⟨?_, hnx⟩
      rw [hE.out]
      rfl
end Go.Proofs.YtbmgalknlglhaaaDoor
