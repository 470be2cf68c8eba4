/-
  CodecOrder's walk: keys stand, as bytes, in the order of their parts.
-/
import Derived.Test.YtbmgalknlglhaaaDoorO
import Derived.Test.YtbmgalknlglhaaaDoorL
import Derived.Test.YtbmgalknlglhaaaDoorE
namespace Go.Proofs.YtbmgalknlglhaaaDoor
open Go.RowKit
set_option linter.unusedVariables false
set_option maxRecDepth 100000
set_option maxHeartbeats 2000000

theorem PartsAt.mono {w : World} {B B' : Nat} {pa : Option Addr} {ps : List Pt} (h : PartsAt w B pa ps) (hB : B ≤ B') : PartsAt w B' pa ps := by
  intro k hk
  obtain ⟨a, h1, h2, h3⟩ := h k hk
  exact ⟨a, h1, Nat.lt_of_lt_of_le h2 hB, h3⟩
theorem keyL_ok (ps : List Pt) (h : (keyL ps).2 = 0) : ps.any bad = false ∧ (keyL ps).1 = encs ps := by
  unfold keyL at h ⊢
  split at h
  · cases h
  · split at h
    · cases h
    · rename_i h1 h2
      rw [if_neg h1, if_neg h2]
      exact ⟨by simpa using h2, rfl⟩
theorem good_of {ps : List Pt} (h : ps.any bad = false) (hn : ∀ p ∈ ps, p.n < 18446744073709551616) : ∀ p ∈ ps, Good p := by
  intro p hp
  refine ⟨?_, hn p hp⟩
  rw [List.any_eq_false] at h
  simpa using h p hp
/-- What is asked of a list of parts that is handed in. -/
structure Parts (w : World) (B : Nat) (pa : Option Addr) (ps : List Pt) : Prop where
  at_ : PartsAt w B pa ps
  sum : sumT ps ≤ 2097152
  len : ps.length ≤ 2097152
  num : ∀ p ∈ ps, p.n < 18446744073709551616
theorem Parts.later {w w' : World} {pa : Option Addr} {ps : List Pt} (h : Parts w w.heap.size pa ps) (hb : Below w.heap.size w w') : Parts w' w'.heap.size pa ps :=
  ⟨(h.at_.below hb).mono hb.size, h.sum, h.len, h.num⟩

theorem order_walk (pa pb : Option Addr) (ca cb : Nat) (ps qs : List Pt) (m : Int) (w : World) (hp : Parts w w.heap.size pa ps) (hq : Parts w w.heap.size pb qs) (hm : w.cell? ⟨0, 0, none⟩ = some (.int .i64 m)) :
    Calls Tryd.prog 3 #[.slice pa ps.length ca, .slice pb qs.length cb] w fun e w' => e = .returned (.bool true) ∧ Below w.heap.size w w' := by
  have hgl : 0 < w.heap.size := World.block_lt_of_cell? _ _ hm
  have HMX : ∀ w', Below w.heap.size w w' → w'.cell? ⟨0, 0, none⟩ = some (.int .i64 m) := fun w' hb => (World.cell?_of_block (hb.block 0 hgl)).trans hm
  have A1 := Lib.hid awake_any
  have C1 := Lib.hid (fun w' (hb : Below w.heap.size w w') => let h := hp.later hb; key_any pa ca ps m w' h.at_ (HMX w' hb) h.sum h.len h.num)
  have C2 := Lib.hid (fun w' (hb : Below w.heap.size w w') => let h := hq.later hb; key_any pb cb qs m w' h.at_ (HMX w' hb) h.sum h.len h.num)
  have D1 := Lib.hid (fun w' (hb : Below w.heap.size w w') => let h := hp.later hb; refKey_any pa ca ps w' h.at_ h.sum h.len h.num)
  have D2 := Lib.hid (fun w' (hb : Below w.heap.size w w') => let h := hq.later hb; refKey_any pb cb qs w' h.at_ h.sum h.len h.num)
  have E1 := Lib.hid (fun w' (hb : Below w.heap.size w w') => below_any pa pb ca cb ps qs w' (hp.later hb).at_ (hq.later hb).at_ hp.len hq.len)
  have E2 := Lib.hid (fun w' (hb : Below w.heap.size w w') => sameParts_any pa pb ca cb ps qs w' (hp.later hb).at_ (hq.later hb).at_ hp.len hq.len)
  have HOK1 := Lib.hid (keyL_ok ps)
  have HOK2 := Lib.hid (keyL_ok qs)
  have HG1 := Lib.hid (fun h => good_of (ps := ps) h hp.num)
  have HG2 := Lib.hid (fun h => good_of (ps := qs) h hq.num)
  obtain ⟨K1, F1, HK1⟩ : ∃ K E, Hid (keyL ps = (K, E)) := ⟨_, _, Lib.hid rfl⟩
  obtain ⟨K2, F2, HK2⟩ : ∃ K E, Hid (keyL qs = (K, E)) := ⟨_, _, Lib.hid rfl⟩
  rw [HK1.out] at C1 D1 HOK1
  rw [HK2.out] at C2 D2 HOK2
  dsimp only at C1 C2 D1 D2
  obtain ⟨S, HS⟩ : ∃ S, Hid (strOf K1 = S) := ⟨_, Lib.hid rfl⟩
  obtain ⟨T, HT⟩ : ∃ S, Hid (strOf K2 = S) := ⟨_, Lib.hid rfl⟩
  rw [HS.out] at C1 D1
  rw [HT.out] at C2 D2
  clear HMX hm
  by_cases hz1 : F1 = 0
  · by_cases hz2 : F2 = 0
    · subst hz1
      subst hz2
      obtain ⟨g1, k1⟩ := HOK1.out rfl
      obtain ⟨g2, k2⟩ := HOK2.out rfl
      dsimp only at k1 k2
      have hlt : Op.bytesLess S.toList T.toList = belowL ps qs := by
        rw [← HS.out, ← HT.out, ByteArray.toList_eq, ByteArray.toList_eq, strOf_list, strOf_list, k1, k2]
        exact encs_lt ps qs (HG1.out g1) (HG2.out g2)
      have heq : (S.toList == T.toList) = true ↔ ps = qs := by
        rw [← HS.out, ← HT.out, ByteArray.toList_eq, ByteArray.toList_eq, strOf_list, strOf_list, k1, k2, beq_iff_eq]
        exact ⟨encs_inj ps qs (HG1.out g1) (HG2.out g2), fun h => by rw [h]⟩
      obtain ⟨r0, hr0⟩ : ∃ r0, (S.toList == T.toList) = r0 := ⟨_, rfl⟩
      have hr0d : decide (S.toList = T.toList) = r0 := by
        rw [← hr0, Bool.eq_iff_iff]
        simp only [beq_iff_eq, decide_eq_true_eq]
      rw [hr0] at heq
      obtain ⟨b0, HB0⟩ : ∃ b0, Hid (belowL ps qs = b0) := ⟨_, Lib.hid rfl⟩
      rw [HB0.out] at hlt E1
      have HEQ := Lib.hid heq
      clear heq g1 g2 k1 k2 HS HT
      go_enter Tryd.func3, Tryd.ntmps3
      go_wp2_with fail
      refine (A1.out _).mono ?_
      rintro e w1 ⟨rfl, hb1⟩
      go_wp2_with fail
      refine (C1.out _ hb1).mono ?_
      rintro e w2 ⟨rfl, hb2⟩
      have hb2' := hb1.trans (hb2.mono hb1.size)
      go_wp2_with fail
      refine (C2.out _ hb2').mono ?_
      rintro e w3 ⟨rfl, hb3⟩
      have hb3' := hb2'.trans (hb3.mono hb2'.size)
      go_wp2_with fail
      refine (E1.out _ hb3').mono ?_
      rintro e w4 ⟨rfl, hb4⟩
      have hb4' := hb3'.trans (hb4.mono hb3'.size)
      go_wp2_with fail
      refine (E2.out _ hb4').mono ?_
      rintro e w5 ⟨⟨r, rfl, hr⟩, hb5⟩
      have hb5' := hb4'.trans (hb5.mono hb4'.size)
      obtain rfl : r = r0 := by
        rw [Bool.eq_iff_iff, hr, HEQ.out]
      clear hr hb1 hb2 hb2' hb3 hb3' hb4 hb4' hb5
      go_wp2
      go_ret
      exact ⟨rfl, hb5'⟩
    · subst hz1
      have hne : (F2 != 0) = true := by rw [bne_iff_ne]; exact hz2
      have hned : decide (F2 = 0) = false := decide_eq_false hz2
      clear HS HT
      go_enter Tryd.func3, Tryd.ntmps3
      go_wp2_with fail
      refine (A1.out _).mono ?_
      rintro e w1 ⟨rfl, hb1⟩
      go_wp2_with fail
      refine (C1.out _ hb1).mono ?_
      rintro e w2 ⟨rfl, hb2⟩
      have hb2' := hb1.trans (hb2.mono hb1.size)
      go_wp2_with fail
      refine (C2.out _ hb2').mono ?_
      rintro e w3 ⟨rfl, hb3⟩
      have hb3' := hb2'.trans (hb3.mono hb2'.size)
      go_wp2_with fail
      refine (D1.out _ hb3').mono ?_
      rintro e w4 ⟨rfl, hb4⟩
      have hb4' := hb3'.trans (hb4.mono hb3'.size)
      go_wp2_with fail
      refine (D2.out _ hb4').mono ?_
      rintro e w5 ⟨rfl, hb5⟩
      have hb5' := hb4'.trans (hb5.mono hb4'.size)
      clear hb1 hb2 hb2' hb3 hb3' hb4 hb4' hb5
      go_wp2
      go_ret
      exact ⟨rfl, hb5'⟩
  · have hne : (F1 != 0) = true := by rw [bne_iff_ne]; exact hz1
    have hned : decide (F1 = 0) = false := decide_eq_false hz1
    clear HS HT
    go_enter Tryd.func3, Tryd.ntmps3
    go_wp2_with fail
    refine (A1.out _).mono ?_
    rintro e w1 ⟨rfl, hb1⟩
    go_wp2_with fail
    refine (C1.out _ hb1).mono ?_
    rintro e w2 ⟨rfl, hb2⟩
    have hb2' := hb1.trans (hb2.mono hb1.size)
    go_wp2_with fail
    refine (C2.out _ hb2').mono ?_
    rintro e w3 ⟨rfl, hb3⟩
    have hb3' := hb2'.trans (hb3.mono hb2'.size)
    go_wp2_with fail
    refine (D1.out _ hb3').mono ?_
    rintro e w4 ⟨rfl, hb4⟩
    have hb4' := hb3'.trans (hb4.mono hb3'.size)
    go_wp2_with fail
    refine (D2.out _ hb4').mono ?_
    rintro e w5 ⟨rfl, hb5⟩
    have hb5' := hb4'.trans (hb5.mono hb4'.size)
    clear hb1 hb2 hb2' hb3 hb3' hb4 hb4' hb5
    go_wp2
    go_ret
    exact ⟨rfl, hb5'⟩
end Go.Proofs.YtbmgalknlglhaaaDoor
