/-
  CodecKeys' walk: every list of parts has the key that the words say, and that key has these parts; what is handed in stays.
-/
import Derived.Test.YtbmgalknlglhaaaDoorSp
namespace Go.Proofs.YtbmgalknlglhaaaDoor
open Go.RowKit
set_option linter.unusedVariables false
set_option maxRecDepth 100000
set_option maxHeartbeats 2000000

theorem pcells_at {w : World} {B : Nat} {a : Addr} {ps : List Pt} (h : PartsAt w B (some a) ps) : ∀ j u, (pcells ps)[j]? = some u → w.cell? (a.add j) = some u := by
  intro j u hj
  have hjl : j < ps.length * 3 := by rw [← pcells_length]; exact (List.getElem?_eq_some_iff.1 hj).1
  obtain ⟨k, f, hk, hf, rfl⟩ : ∃ k f, k < ps.length ∧ f < 3 ∧ j = k * 3 + f := ⟨j / 3, j % 3, by omega, Nat.mod_lt _ (by decide), by omega⟩
  obtain ⟨b, hb, h1, h2, h3, h4⟩ := h k hk
  cases hb
  have hv : ∃ v, (pcell (ps.getD k default))[f]? = some v := ⟨_, List.getElem?_eq_getElem (by simp [pcell]; omega)⟩
  obtain ⟨v, hv⟩ := hv
  have := pcells_get ps k f v hk hv
  rw [this] at hj
  cases hj
  rw [← Go.Deep.add_add]
  match f, hf, hv with
  | 0, _, hv =>
    have e : (a.add (k * 3)).add 0 = a.add (k * 3) := by rw [Go.Deep.add_add]; rfl
    rw [e]
    rw [h2, ← hv]
    rfl
  | 1, _, hv => rw [h3, ← hv]; rfl
  | 2, _, hv => rw [h4, ← hv]; rfl
theorem keyL_short (ps : List Pt) (h : (keyL ps).2 = 0) : ps.length ≤ 8 := by
  unfold keyL at h
  split at h
  · cases h
  · omega

theorem keys_walk (pa : Option Addr) (ca : Nat) (ps : List Pt) (m : Int) (w : World) (hp : Parts w w.heap.size pa ps) (hm : w.cell? ⟨0, 0, none⟩ = some (.int .i64 m)) :
    Calls Tryd.prog 5 #[.slice pa ps.length ca] w fun e w' => e = .returned (.bool true) ∧ Below w.heap.size w w' := by
  have hgl : 0 < w.heap.size := World.block_lt_of_cell? _ _ hm
  have HMX : ∀ w', Below w.heap.size w w' → w'.cell? ⟨0, 0, none⟩ = some (.int .i64 m) := fun w' hb => (World.cell?_of_block (hb.block 0 hgl)).trans hm
  have A1 := Lib.hid awake_any
  have C1 := Lib.hid (fun w' (hb : Below w.heap.size w w') q cap (hq : PartsAt w' w'.heap.size q ps) => key_any q cap ps m w' hq (HMX w' hb) hp.sum hp.len hp.num)
  have D1 := Lib.hid (fun w' (hb : Below w.heap.size w w') => let h := hp.later hb; refKey_any pa ca ps w' h.at_ h.sum h.len h.num)
  have E1 : Hid (∀ w' (hb : Below w.heap.size w w') q cap (hq : PartsAt w' w'.heap.size q ps), Calls Tryd.prog 10 #[.slice q ps.length cap, .slice pa ps.length ca] w' fun e w'' => e = .returned (.bool true) ∧ Below w'.heap.size w' w'') := by
    show ∀ w', _
    intro w' hb q cap hq
    refine (sameParts_any q pa cap ca ps ps w' hq (hp.later hb).at_ hp.len hp.len).mono ?_
    rintro e w'' ⟨⟨r, rfl, hr⟩, hb'⟩
    rw [hr.2 rfl]
    exact ⟨rfl, hb'⟩
  have HOK := Lib.hid (keyL_ok ps)
  have HSH := Lib.hid (keyL_short ps)
  have HG := Lib.hid (fun h => good_of (ps := ps) h hp.num)
  have HSP := Lib.hid (fun (h : (keyL ps).2 = 0) w => split_any ps (strOf (encs ps)) w rfl (keyL_short ps h) (good_of (keyL_ok ps h).1 hp.num) hp.sum)
  obtain ⟨K, F, HK⟩ : ∃ K E, Hid (keyL ps = (K, E)) := ⟨_, _, Lib.hid rfl⟩
  rw [HK.out] at C1 D1 HOK HSH HSP
  dsimp only at C1 D1 HOK HSH HSP
  have HSP2 : Hid (F = 0 → ∀ w, Calls Tryd.prog 13 #[.string (strOf K)] w fun e w' => (∃ q cap, e = .returned (.tuple #[.slice q ps.length cap, .int .i64 0]) ∧ PartsAt w' w'.heap.size q ps) ∧ Below w.heap.size w w') := by
    show _ → ∀ w, _
    intro h
    rw [(HOK.out h).2]
    exact HSP.out h
  clear HSP
  obtain ⟨S, HS⟩ : ∃ S, Hid (strOf K = S) := ⟨_, Lib.hid rfl⟩
  rw [HS.out] at C1 D1 HSP2
  have lp := hp.len
  have HPA := Lib.hid hp.at_
  obtain ⟨L, HL⟩ : ∃ L, Hid (ps.length = L) := ⟨_, Lib.hid rfl⟩
  rw [HL.out] at C1 D1 E1 HSP2 lp ⊢
  have l0 : (0 : Int) ≤ (L : Int) := by omega
  have l1 : (L : Int) ≤ 2097152 := by omega
  clear HMX hm hp
  go_enter Tryd.func5, Tryd.ntmps5
  go_wp2_with fail
  refine (A1.out _).mono ?_
  rintro e w1 ⟨rfl, hb1⟩
  have hsz1 := hb1.size
  have HIN : ∀ K' : Value → World → Prop, True := fun _ => trivial
  clear HIN
  have hP1 : PartsAt w1 w1.heap.size pa ps := (HPA.out.below hb1).mono hb1.size
  cases pa with
  | none =>
    have h0 : L = 0 := by
      rcases Nat.eq_zero_or_pos L with h | h
      · exact h
      · obtain ⟨a, ha, _⟩ := HPA.out 0 (by rw [HL.out]; exact h)
        cases ha
    subst h0
    go_wp2_with fail
    have hb2' : Below w.heap.size w (w1.alloc (.cells #[] 51)) := hb1.alloc hsz1 _
    have hP2 : PartsAt (w1.alloc (.cells #[] 51)) (w1.alloc (.cells #[] 51)).heap.size (some ⟨w1.heap.size, 0, none⟩) ps := fun k hk => by rw [HL.out] at hk; omega
    have HC1 := Lib.hid (fun q cap h => C1.out _ hb2' q cap h)
    refine (HC1.out (some ⟨w1.heap.size, 0, none⟩) 0 hP2).mono ?_
    rintro e w3 ⟨rfl, hb3⟩
    have hb3' := hb2'.trans (hb3.mono hb2'.size)
    have hP3 : PartsAt w3 w3.heap.size (some ⟨w1.heap.size, 0, none⟩) ps := (hP2.below hb3).mono hb3.size
    go_wp2_with fail
    refine (D1.out _ hb3').mono ?_
    rintro e w4 ⟨rfl, hb4⟩
    have hb4' := hb3'.trans (hb4.mono hb3'.size)
    have hP4 : PartsAt w4 w4.heap.size (some ⟨w1.heap.size, 0, none⟩) ps := (hP3.below hb4).mono hb4.size
    have HE1 := Lib.hid (E1.out _ hb4' (some ⟨w1.heap.size, 0, none⟩) 0 hP4)
    clear hP2 hP3 hP4 HC1
    by_cases hF : F = 0
    · subst hF
      have HSPL := Lib.hid (HSP2.out rfl)
      go_wp2_with fail
      refine HE1.out.mono ?_
      rintro e w5 ⟨rfl, hb5⟩
      have hb5' := hb4'.trans (hb5.mono hb4'.size)
      clear HE1
      go_wp2_with fail
      refine (HSPL.out _).mono ?_
      rintro e w6 ⟨⟨q6, cap6, rfl, hP6⟩, hb6⟩
      have hb6' := hb5'.trans (hb6.mono hb5'.size)
      have HE6 := Lib.hid (E1.out _ hb6' q6 cap6 hP6)
      clear hP6
      go_wp2_with fail
      refine HE6.out.mono ?_
      rintro e w7 ⟨rfl, hb7⟩
      have hb7' := hb6'.trans (hb7.mono hb6'.size)
      clear HE6 hb1 hb2' hb3 hb3' hb4 hb4' hb5 hb5' hb6 hb6' hb7
      go_wp2
      go_ret
      exact ⟨rfl, hb7'⟩
    · have hne : (F != 0) = true := by rw [bne_iff_ne]; exact hF
      have hned : decide (F = 0) = false := decide_eq_false hF
      go_wp2_with fail
      refine HE1.out.mono ?_
      rintro e w5 ⟨rfl, hb5⟩
      have hb5' := hb4'.trans (hb5.mono hb4'.size)
      clear HE1 hb1 hb2' hb3 hb3' hb4 hb4' hb5
      go_wp2
      go_ret
      exact ⟨rfl, hb5'⟩
  | some a =>
    have hown : OwnP (w1.alloc (.cells #[] 51)) w.heap.size (.slice (some ⟨w1.heap.size, 0, none⟩) 0 0) [] := World.ownsRow_made w1 #[] 0 hsz1 (by decide) rfl
    have hcells := pcells_at hP1
    have hcells' : ∀ j u, (pcells ps)[j]? = some u → (w1.alloc (.cells #[] 51)).cell? (a.add j) = some u := by
      intro j u hj
      have h := hcells j u hj
      rw [← h]
      exact World.cell?_of_block (Lib.alloc_old w1 _ _ (World.block_lt_of_cell? _ _ h))
    have HC := Lib.hid hcells'
    clear hcells hcells' hP1
    go_wp2_with (at_builtin; refine wpList_app_parts _ rfl _ _ rfl w.heap.size _ [] rfl hown a L ca ps rfl HL.out HC.out ?c2 ?c3 ?_)
    case c2 => simp; omega
    case c3 => first | omega | (simp; omega)
    intro v2 w2 hv2 hg2
    have hb2' : Below w.heap.size w w2 := (hb1.alloc hsz1 _).grown hg2 (by simp; omega) (fun j hj => by have := (World.ownsRow.lt hown j hj).1; omega)
    obtain ⟨q2, cap2, hv, hP2⟩ := hv2.parts
    rw [HL.out] at hv
    subst hv
    clear hg2 hv2 hown HC
    have HC1 := Lib.hid (fun q cap h => C1.out _ hb2' q cap h)
    go_wp2_with fail
    refine (HC1.out q2 cap2 hP2).mono ?_
    rintro e w3 ⟨rfl, hb3⟩
    have hb3' := hb2'.trans (hb3.mono hb2'.size)
    have hP3 : PartsAt w3 w3.heap.size q2 ps := (hP2.below hb3).mono hb3.size
    go_wp2_with fail
    refine (D1.out _ hb3').mono ?_
    rintro e w4 ⟨rfl, hb4⟩
    have hb4' := hb3'.trans (hb4.mono hb3'.size)
    have hP4 : PartsAt w4 w4.heap.size q2 ps := (hP3.below hb4).mono hb4.size
    have HE1 := Lib.hid (E1.out _ hb4' q2 cap2 hP4)
    clear hP2 hP3 hP4 HC1
    by_cases hF : F = 0
    · subst hF
      have HSPL := Lib.hid (HSP2.out rfl)
      go_wp2_with fail
      refine HE1.out.mono ?_
      rintro e w5 ⟨rfl, hb5⟩
      have hb5' := hb4'.trans (hb5.mono hb4'.size)
      clear HE1
      go_wp2_with fail
      refine (HSPL.out _).mono ?_
      rintro e w6 ⟨⟨q6, cap6, rfl, hP6⟩, hb6⟩
      have hb6' := hb5'.trans (hb6.mono hb5'.size)
      have HE6 := Lib.hid (E1.out _ hb6' q6 cap6 hP6)
      clear hP6
      go_wp2_with fail
      refine HE6.out.mono ?_
      rintro e w7 ⟨rfl, hb7⟩
      have hb7' := hb6'.trans (hb7.mono hb6'.size)
      clear HE6 hb1 hb2' hb3 hb3' hb4 hb4' hb5 hb5' hb6 hb6' hb7
      go_wp2
      go_ret
      exact ⟨rfl, hb7'⟩
    · have hne : (F != 0) = true := by rw [bne_iff_ne]; exact hF
      have hned : decide (F = 0) = false := decide_eq_false hF
      go_wp2_with fail
      refine HE1.out.mono ?_
      rintro e w5 ⟨rfl, hb5⟩
      have hb5' := hb4'.trans (hb5.mono hb4'.size)
      clear HE1 hb1 hb2' hb3 hb3' hb4 hb4' hb5
      go_wp2
      go_ret
      exact ⟨rfl, hb5'⟩
end Go.Proofs.YtbmgalknlglhaaaDoor
