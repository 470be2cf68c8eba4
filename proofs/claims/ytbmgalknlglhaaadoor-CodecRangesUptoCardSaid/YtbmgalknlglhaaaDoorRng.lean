/-
  CodecRanges' walk: all keys that begin with some parts stand in their range, and no other ones.
-/
import Derived.Test.YtbmgalknlglhaaaDoorOrd
import Derived.Laws.Cover1
namespace Go.Proofs.YtbmgalknlglhaaaDoor
open Go.RowKit
set_option linter.unusedVariables false
set_option maxRecDepth 100000
set_option maxHeartbeats 2000000

def rangeL (ps : List Pt) : List UInt8 × List UInt8 := if (keyL ps).2 = 0 then ((keyL ps).1, (keyL ps).1 ++ [255]) else ([], [])
theorem keyL_length (ps : List Pt) (hT : sumT ps ≤ 2097152) : (keyL ps).1.length ≤ 4194376 := by
  unfold keyL
  split
  · simp
  · split
    · simp
    · have := encs_length ps
      dsimp only
      omega
/-- The words of a range under plain names. -/
theorem range_parts (ps : List Pt) (hT : sumT ps ≤ 2097152) : ∃ (S T X Y : ByteArray) (e : Int), Hid (strOf (keyL ps).1 = S) ∧ Hid ((keyL ps).2 = e) ∧ Hid (strOf (rangeL ps).1 = X) ∧ Hid (strOf (rangeL ps).2 = Y) ∧ S ++ (⟨#[255]⟩ : ByteArray) = T ∧ S.size ≤ 4194376 ∧
    (e = 0 → X = S ∧ Y = T) ∧ (e ≠ 0 → X = ⟨#[]⟩ ∧ Y = ⟨#[]⟩) := by
  refine ⟨_, _, _, _, _, Lib.hid rfl, Lib.hid rfl, Lib.hid rfl, Lib.hid rfl, rfl, ?_, fun h => ?_, fun h => ?_⟩
  · rw [strOf_size]; exact keyL_length ps hT
  · unfold rangeL
    rw [if_pos h]
    refine ⟨rfl, ?_⟩
    apply ByteArray.ext
    simp [strOf]
  · unfold rangeL
    rw [if_neg h]
    exact ⟨rfl, rfl⟩
theorem range_any (pa : Option Addr) (cap : Nat) (ps : List Pt) (m : Int) (w : World) (hp : Parts w w.heap.size pa ps) (hm : w.cell? ⟨0, 0, none⟩ = some (.int .i64 m)) :
    Calls Tryd.prog 11 #[.slice pa ps.length cap] w fun e w' => e = .returned (.tuple #[.string (strOf (rangeL ps).1), .string (strOf (rangeL ps).2), .int .i64 (keyL ps).2]) ∧ Below w.heap.size w w' := by
  have C := Lib.hid (key_any pa cap ps m w hp.at_ hm hp.sum hp.len hp.num)
  obtain ⟨S, T, X, Y, e, HS, HE, HX, HY, hST, hsz, h0, h1⟩ := range_parts ps hp.sum
  rw [HS.out, HE.out] at C
  rw [HE.out, HX.out, HY.out]
  have s0 : ¬ 9223372036854775807 < S.size + 1 := by omega
  have s1 : (⟨#[255]⟩ : ByteArray).size = 1 := rfl
  clear hp hm
  by_cases he : e = 0
  · obtain ⟨rfl, rfl⟩ := h0 he
    subst he
    clear h0 h1
    go_enter Tryd.func11, Tryd.ntmps11
    go_wp2_with fail
    refine C.out.mono ?_
    rintro e w1 ⟨rfl, hb1⟩
    go_wp2
    go_ret3
    exact ⟨rfl, hb1⟩
  · obtain ⟨rfl, rfl⟩ := h1 he
    have hne : (e != 0) = true := by rw [bne_iff_ne]; exact he
    have hned : decide (e = 0) = false := decide_eq_false he
    clear h0 h1
    go_enter Tryd.func11, Tryd.ntmps11
    go_wp2_with fail
    refine C.out.mono ?_
    rintro e' w1 ⟨rfl, hb1⟩
    go_wp2
    go_ret3
    exact ⟨rfl, hb1⟩
theorem refRange_any (pa : Option Addr) (cap : Nat) (ps : List Pt) (w : World) (hp : Parts w w.heap.size pa ps) :
    Calls Tryd.prog 12 #[.slice pa ps.length cap] w fun e w' => e = .returned (.tuple #[.string (strOf (rangeL ps).1), .string (strOf (rangeL ps).2), .int .i64 (keyL ps).2]) ∧ Below w.heap.size w w' := by
  have C := Lib.hid (refKey_any pa cap ps w hp.at_ hp.sum hp.len hp.num)
  obtain ⟨S, T, X, Y, e, HS, HE, HX, HY, hST, hsz, h0, h1⟩ := range_parts ps hp.sum
  rw [HS.out, HE.out] at C
  rw [HE.out, HX.out, HY.out]
  have s0 : ¬ 9223372036854775807 < S.size + 1 := by omega
  have s1 : (⟨#[255]⟩ : ByteArray).size = 1 := rfl
  clear hp
  by_cases he : e = 0
  · obtain ⟨rfl, rfl⟩ := h0 he
    subst he
    clear h0 h1
    go_enter Tryd.func12, Tryd.ntmps12
    go_wp2_with fail
    refine C.out.mono ?_
    rintro e w1 ⟨rfl, hb1⟩
    go_wp2
    go_ret3
    exact ⟨rfl, hb1⟩
  · obtain ⟨rfl, rfl⟩ := h1 he
    have hne : (e != 0) = true := by rw [bne_iff_ne]; exact he
    have hned : decide (e = 0) = false := decide_eq_false he
    clear h0 h1
    go_enter Tryd.func12, Tryd.ntmps12
    go_wp2_with fail
    refine C.out.mono ?_
    rintro e' w1 ⟨rfl, hb1⟩
    go_wp2
    go_ret3
    exact ⟨rfl, hb1⟩

theorem PartsAt.take {w : World} {B : Nat} {pa : Option Addr} {ps : List Pt} (h : PartsAt w B pa ps) (n : Nat) : PartsAt w B pa (ps.take n) := by
  intro k hk
  rw [List.length_take] at hk
  have e : (ps.take n).getD k default = ps.getD k default := by
    rw [List.getD_eq_getElem?_getD, List.getElem?_take, if_pos (by omega), List.getD_eq_getElem?_getD]
  rw [e]
  exact h k (by omega)

theorem ranges_walk (pa pb : Option Addr) (ca cb : Nat) (ps qs : List Pt) (m : Int) (w : World) (hp : Parts w w.heap.size pa ps) (hq : Parts w w.heap.size pb qs) (hcb : qs.length ≤ cb) (hcb' : cb ≤ 9223372036854775807) (hm : w.cell? ⟨0, 0, none⟩ = some (.int .i64 m)) :
    Calls Tryd.prog 4 #[.slice pa ps.length ca, .slice pb qs.length cb] w fun e w' => e = .returned (.bool true) ∧ Below w.heap.size w w' := by
  have hgl : 0 < w.heap.size := World.block_lt_of_cell? _ _ hm
  have HMX : ∀ w', Below w.heap.size w w' → w'.cell? ⟨0, 0, none⟩ = some (.int .i64 m) := fun w' hb => (World.cell?_of_block (hb.block 0 hgl)).trans hm
  have A1 := Lib.hid awake_any
  have C1 := Lib.hid (fun w' (hb : Below w.heap.size w w') => range_any pa ca ps m w' (hp.later hb) (HMX w' hb))
  have C2 := Lib.hid (fun w' (hb : Below w.heap.size w w') => refRange_any pa ca ps w' (hp.later hb))
  have C3 := Lib.hid (fun w' (hb : Below w.heap.size w w') => let h := hq.later hb; key_any pb cb qs m w' h.at_ (HMX w' hb) h.sum h.len h.num)
  have C4 : Hid (ps.length ≤ qs.length → ∀ w', Below w.heap.size w w' → Calls Tryd.prog 10 #[.slice pb ps.length cb, .slice pa ps.length ca] w' fun e w'' => (∃ r : Bool, e = .returned (.bool r) ∧ (r = true ↔ qs.take ps.length = ps)) ∧ Below w'.heap.size w' w'') := by
    show _ → ∀ w', _
    intro hle w' hb
    have h := sameParts_any pb pa cb ca (qs.take ps.length) ps w' ((hq.later hb).at_.take _) (hp.later hb).at_ (by rw [List.length_take]; have := hq.len; omega) hp.len
    rw [List.length_take, Nat.min_eq_left hle] at h
    exact h
  have HOK1 := Lib.hid (keyL_ok ps)
  have HOK2 := Lib.hid (keyL_ok qs)
  have HG1 := Lib.hid (fun h => good_of (ps := ps) h hp.num)
  have HG2 := Lib.hid (fun h => good_of (ps := qs) h hq.num)
  obtain ⟨K1, F1, HK1⟩ : ∃ K E, Hid (keyL ps = (K, E)) := ⟨_, _, Lib.hid rfl⟩
  obtain ⟨K2, F2, HK2⟩ : ∃ K E, Hid (keyL qs = (K, E)) := ⟨_, _, Lib.hid rfl⟩
  have HR : Hid (rangeL ps = if F1 = 0 then (K1, K1 ++ [255]) else ([], [])) := by show _ = _; unfold rangeL; rw [HK1.out]
  rw [HK1.out] at C1 C2 HOK1
  rw [HK2.out] at C3 HOK2
  obtain ⟨R1, R2, HRR⟩ : ∃ K E, Hid (rangeL ps = (K, E)) := ⟨_, _, Lib.hid rfl⟩
  rw [HRR.out] at C1 C2 HR
  dsimp only at C1 C2 C3
  obtain ⟨S, HS⟩ : ∃ S, Hid (strOf R1 = S) := ⟨_, Lib.hid rfl⟩
  obtain ⟨T, HT⟩ : ∃ S, Hid (strOf R2 = S) := ⟨_, Lib.hid rfl⟩
  obtain ⟨Q, HQ⟩ : ∃ S, Hid (strOf K2 = S) := ⟨_, Lib.hid rfl⟩
  rw [HS.out, HT.out] at C1 C2
  rw [HQ.out] at C3
  have lp := hp.len
  have lq := hq.len
  obtain ⟨L, HL⟩ : ∃ L, Hid (ps.length = L) := ⟨_, Lib.hid rfl⟩
  obtain ⟨M, HM⟩ : ∃ L, Hid (qs.length = L) := ⟨_, Lib.hid rfl⟩
  rw [HL.out] at C1 C2 C4 lp ⊢
  rw [HM.out] at C3 C4 lq hcb ⊢
  have l0 : (0 : Int) ≤ (L : Int) := by omega
  have l1 : (L : Int) ≤ 2097152 := by omega
  have l2 : (0 : Int) ≤ (M : Int) := by omega
  have l3 : (M : Int) ≤ 2097152 := by omega
  have l4 : (M : Int) ≤ (cb : Int) := by omega
  have l5 : (cb : Int) ≤ 9223372036854775807 := by omega
  clear HMX hm hp hq
  by_cases hz1 : F1 = 0
  · by_cases hz2 : F2 = 0
    · subst hz1
      subst hz2
      obtain ⟨g1, k1⟩ := HOK1.out rfl
      obtain ⟨g2, k2⟩ := HOK2.out rfl
      dsimp only at k1 k2
      have hRK : (R1, R2) = (K1, K1 ++ [255]) := HR.out
      obtain ⟨rfl, rfl⟩ : R1 = K1 ∧ R2 = K1 ++ [255] := by simpa using hRK
      have hlaw := range_law ps qs (HG1.out g1) (HG2.out g2)
      obtain ⟨x1, hx1⟩ : ∃ b, Op.bytesLess Q.toList S.toList = b := ⟨_, rfl⟩
      obtain ⟨x2, hx2⟩ : ∃ b, Op.bytesLess Q.toList T.toList = b := ⟨_, rfl⟩
      have e1 : Op.bytesLess (encs qs) (encs ps) = x1 := by
        rw [← hx1, ← HQ.out, ← HS.out, ByteArray.toList_eq, ByteArray.toList_eq, strOf_list, strOf_list, k1, k2]
      have e2 : Op.bytesLess (encs qs) (encs ps ++ [255]) = x2 := by
        rw [← hx2, ← HQ.out, ← HT.out, ByteArray.toList_eq, ByteArray.toList_eq, strOf_list, strOf_list, k1, k2]
      rw [e1, e2, HL.out] at hlaw
      have HLAW := Lib.hid hlaw
      clear hlaw e1 e2 g1 g2 k1 k2 HS HT HQ hRK
      by_cases hle : L ≤ M
      · have HC4 := Lib.hid (C4.out hle)
        have hleI : (L : Int) ≤ (M : Int) := by omega
        have hcI : (L : Int) ≤ (cb : Int) := by omega
        go_enter Tryd.func4, Tryd.ntmps4
        go_wp2_with fail
        refine (A1.out _).mono ?_
        rintro e w1 ⟨rfl, hb1⟩
        go_wp2_with fail
        refine (C1.out _ hb1).mono ?_
        rintro e w2 ⟨rfl, hb2⟩
        have hb2' := hb1.trans (hb2.mono hb1.size)
        go_wp2_with fail
        refine (C2.out _ hb2').mono ?_
        rintro e w3 ⟨rfl, hb3⟩
        have hb3' := hb2'.trans (hb3.mono hb2'.size)
        go_wp2_with fail
        refine (C3.out _ hb3').mono ?_
        rintro e w4 ⟨rfl, hb4⟩
        have hb4' := hb3'.trans (hb4.mono hb3'.size)
        go_wp2_with fail
        refine (HC4.out _ hb4').mono ?_
        rintro e w5 ⟨⟨r, rfl, hr⟩, hb5⟩
        have hb5' := hb4'.trans (hb5.mono hb4'.size)
        obtain rfl : r = (!x1 && x2) := by
          rw [Bool.eq_iff_iff, hr, HLAW.out]
        clear hr hb1 hb2 hb2' hb3 hb3' hb4 hb4' hb5
        cases x1 <;> cases x2 <;> (go_wp2; go_ret; exact ⟨rfl, hb5'⟩)
      · have hno : (!x1 && x2) = false := by
          rw [Bool.eq_false_iff]
          intro h
          have h2 := congrArg List.length (HLAW.out.1 h)
          rw [List.length_take, HL.out, HM.out] at h2
          omega
        have hleI : ¬ (L : Int) ≤ (M : Int) := by omega
        go_enter Tryd.func4, Tryd.ntmps4
        go_wp2_with fail
        refine (A1.out _).mono ?_
        rintro e w1 ⟨rfl, hb1⟩
        go_wp2_with fail
        refine (C1.out _ hb1).mono ?_
        rintro e w2 ⟨rfl, hb2⟩
        have hb2' := hb1.trans (hb2.mono hb1.size)
        go_wp2_with fail
        refine (C2.out _ hb2').mono ?_
        rintro e w3 ⟨rfl, hb3⟩
        have hb3' := hb2'.trans (hb3.mono hb2'.size)
        go_wp2_with fail
        refine (C3.out _ hb3').mono ?_
        rintro e w4 ⟨rfl, hb4⟩
        have hb4' := hb3'.trans (hb4.mono hb3'.size)
        clear hb1 hb2 hb2' hb3 hb3' hb4
        cases x1 <;> cases x2 <;> first | (exfalso; revert hno; decide) | (go_wp2; go_ret; exact ⟨rfl, hb4'⟩)
    · subst hz1
      have hne : (F2 != 0) = true := by rw [bne_iff_ne]; exact hz2
      have hned : decide (F2 = 0) = false := decide_eq_false hz2
      clear HS HT HQ
      go_enter Tryd.func4, Tryd.ntmps4
      go_wp2_with fail
      refine (A1.out _).mono ?_
      rintro e w1 ⟨rfl, hb1⟩
      go_wp2_with fail
      refine (C1.out _ hb1).mono ?_
      rintro e w2 ⟨rfl, hb2⟩
      have hb2' := hb1.trans (hb2.mono hb1.size)
      go_wp2_with fail
      refine (C2.out _ hb2').mono ?_
      rintro e w3 ⟨rfl, hb3⟩
      have hb3' := hb2'.trans (hb3.mono hb2'.size)
      go_wp2_with fail
      refine (C3.out _ hb3').mono ?_
      rintro e w4 ⟨rfl, hb4⟩
      have hb4' := hb3'.trans (hb4.mono hb3'.size)
      go_wp2
      go_ret
      exact ⟨rfl, hb4'⟩
  · have hne : (F1 != 0) = true := by rw [bne_iff_ne]; exact hz1
    have hned : decide (F1 = 0) = false := decide_eq_false hz1
    clear HS HT HQ
    go_enter Tryd.func4, Tryd.ntmps4
    go_wp2_with fail
    refine (A1.out _).mono ?_
    rintro e w1 ⟨rfl, hb1⟩
    go_wp2_with fail
    refine (C1.out _ hb1).mono ?_
    rintro e w2 ⟨rfl, hb2⟩
    have hb2' := hb1.trans (hb2.mono hb1.size)
    go_wp2_with fail
    refine (C2.out _ hb2').mono ?_
    rintro e w3 ⟨rfl, hb3⟩
    have hb3' := hb2'.trans (hb3.mono hb2'.size)
    go_wp2_with fail
    refine (C3.out _ hb3').mono ?_
    rintro e w4 ⟨rfl, hb4⟩
    have hb4' := hb3'.trans (hb4.mono hb3'.size)
    go_wp2
    go_ret
    exact ⟨rfl, hb4'⟩
end Go.Proofs.YtbmgalknlglhaaaDoor
