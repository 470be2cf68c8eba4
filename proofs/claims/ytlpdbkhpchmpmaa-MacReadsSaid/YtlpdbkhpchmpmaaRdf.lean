/-
  MacReads: any text is read as digits, or as letters, just if some bytes are told by it: the law answers true. No condition.
-/
import Derived.Test.YtlpdbkhpchmpmaaUh
import Derived.Test.YtlpdbkhpchmpmaaUb
import Derived.ProofKit
import Derived.OpenShut
import Derived.ShutString
import Derived.ChangeOld
import Derived.SizedLaws
import Derived.JoinedCond
namespace Go.Proofs.Ytlpdbkhpchmpmaa
open Go.ChangeShapes Go.WideShapes Go.ChangeAt Go.RowKit
open Go.ChangeMaps (open_string shut_string)
set_option linter.unusedVariables false
set_option maxRecDepth 100000
set_option maxHeartbeats 2000000

namespace Rdf
theorem own : ownKnob Try.prog.godebug = none := by kernel_rfl
theorem hex_unhex (l a : List UInt8) (h : unhexL l = some a) : groupsL 4 hexAl a = l ∧ 2 * a.length = l.length := by
  unfold unhexL at h
  by_cases hev : l.length % 2 = 0
  · rw [if_pos hev] at h
    have e := groups_ungrouped 4 (.inl rfl) hexAl al_hex l a h
    refine ⟨e, ?_⟩
    rw [← e, groups4, hexL_length]
  · rw [if_neg hev] at h; cases h
theorem b64_unb64 (l a : List UInt8) (h : ungroupedL 6 b64Al l = some a) : groupsL 6 b64Al a = l ∧ 8 * a.length ≤ 6 * l.length := by
  have e := groups_ungrouped 6 (.inr rfl) b64Al al_b64 l a h
  refine ⟨e, ?_⟩
  obtain ⟨pad, hp, hlen, _, _⟩ := groups_facts 6 (by omega) b64Al al_b64 a
  rw [e] at hlen
  omega
theorem walk (s : ByteArray) (w : World) (h0 : s.size ≤ 140737488351232) :
    Calls Try.prog 10 #[.string s] w fun e w' => e = .returned (.bool true) ∧ Below w.heap.size w w' := by
  have hl : s.data.toList.length = s.size := by simp
  have A1 := Lib.hid awake_any
  have C1 := Lib.hid (fun w => macUnhex_any s w (by omega))
  have C2 := Lib.hid (fun w => refUnhex_any s w (by omega))
  have C3 := Lib.hid (fun w => macUnbase64_any s w (by omega))
  have C4 := Lib.hid (fun w => refUnbase64_any s w (by omega))
  have s0 : (0 : Int) ≤ (s.size : Int) := by omega
  have s1 : (s.size : Int) ≤ 140737488351232 := by omega
  cases hU : unhexL s.data.toList with
  | none =>
    rw [hU, Option.getD_none, Option.isSome_none, show strOf ([] : List UInt8) = ⟨#[]⟩ from rfl] at C1 C2
    clear hU
    cases hV : ungroupedL 6 b64Al s.data.toList with
    | none =>
      rw [hV, Option.getD_none, Option.isSome_none, show strOf ([] : List UInt8) = ⟨#[]⟩ from rfl] at C3 C4
      clear hV hl
      go_enter Try.func10, Try.ntmps10
      go_wp2_with fail
      refine (C1.out _).mono ?_
      rintro e w1 ⟨rfl, hb1⟩
      go_wp2_with fail
      refine (C2.out _).mono ?_
      rintro e w2 ⟨rfl, hb2⟩
      go_wp2_with fail
      refine (C3.out _).mono ?_
      rintro e w3 ⟨rfl, hb3⟩
      go_wp2_with fail
      refine (C4.out _).mono ?_
      rintro e w4 ⟨rfl, hb4⟩
      go_wp2_with fail
      refine (A1.out _).mono ?_
      rintro e w5 ⟨rfl, hb5⟩
      have q1 := hb1.size
      have q2 := hb2.size
      have q3 := hb3.size
      have q4 := hb4.size
      have q5 := hb5.size
      have hbf := ((((hb1.trans (hb2.mono (by omega))).trans (hb3.mono (by omega))).trans (hb4.mono (by omega))).trans (hb5.mono (by omega)))
      go_wp2
      go_ret
      exact ⟨rfl, hbf⟩
    | some c =>
      obtain ⟨hc, hcl⟩ := b64_unb64 _ _ hV
      have C6 := Lib.hid (fun w => macBase64_any (strOf c) w (by rw [strOf_size]; omega))
      rw [strOf_list, hc, show strOf s.data.toList = s from rfl] at C6
      rw [hV, Option.getD_some, Option.isSome_some] at C3 C4
      obtain ⟨Y, HY⟩ : ∃ X, Hid (strOf c = X) := ⟨_, Lib.hid rfl⟩
      rw [HY.out] at C3 C4 C6
      clear hV hl hc hcl
      go_enter Try.func10, Try.ntmps10
      go_wp2_with fail
      refine (C1.out _).mono ?_
      rintro e w1 ⟨rfl, hb1⟩
      go_wp2_with fail
      refine (C2.out _).mono ?_
      rintro e w2 ⟨rfl, hb2⟩
      go_wp2_with fail
      refine (C3.out _).mono ?_
      rintro e w3 ⟨rfl, hb3⟩
      go_wp2_with fail
      refine (C4.out _).mono ?_
      rintro e w4 ⟨rfl, hb4⟩
      go_wp2_with fail
      refine (A1.out _).mono ?_
      rintro e w5 ⟨rfl, hb5⟩
      go_wp2_with fail
      refine (C6.out _).mono ?_
      rintro e w6 ⟨rfl, hb6⟩
      have q1 := hb1.size
      have q2 := hb2.size
      have q3 := hb3.size
      have q4 := hb4.size
      have q5 := hb5.size
      have q6 := hb6.size
      have hbf := (((((hb1.trans (hb2.mono (by omega))).trans (hb3.mono (by omega))).trans (hb4.mono (by omega))).trans (hb5.mono (by omega))).trans (hb6.mono (by omega)))
      go_wp2
      go_ret
      exact ⟨rfl, hbf⟩
  | some a =>
    obtain ⟨ha, hal⟩ := hex_unhex _ _ hU
    have C5 := Lib.hid (fun w => macHex_any (strOf a) w (by rw [strOf_size]; omega))
    rw [strOf_list, ha, show strOf s.data.toList = s from rfl] at C5
    rw [hU, Option.getD_some, Option.isSome_some] at C1 C2
    obtain ⟨X, HX⟩ : ∃ X, Hid (strOf a = X) := ⟨_, Lib.hid rfl⟩
    rw [HX.out] at C1 C2 C5
    clear hU
    cases hV : ungroupedL 6 b64Al s.data.toList with
    | none =>
      rw [hV, Option.getD_none, Option.isSome_none, show strOf ([] : List UInt8) = ⟨#[]⟩ from rfl] at C3 C4
      clear hV hl ha hal
      go_enter Try.func10, Try.ntmps10
      go_wp2_with fail
      refine (C1.out _).mono ?_
      rintro e w1 ⟨rfl, hb1⟩
      go_wp2_with fail
      refine (C2.out _).mono ?_
      rintro e w2 ⟨rfl, hb2⟩
      go_wp2_with fail
      refine (C3.out _).mono ?_
      rintro e w3 ⟨rfl, hb3⟩
      go_wp2_with fail
      refine (C4.out _).mono ?_
      rintro e w4 ⟨rfl, hb4⟩
      go_wp2_with fail
      refine (A1.out _).mono ?_
      rintro e w5 ⟨rfl, hb5⟩
      go_wp2_with fail
      refine (C5.out _).mono ?_
      rintro e w6 ⟨rfl, hb6⟩
      have q1 := hb1.size
      have q2 := hb2.size
      have q3 := hb3.size
      have q4 := hb4.size
      have q5 := hb5.size
      have q6 := hb6.size
      have hbf := (((((hb1.trans (hb2.mono (by omega))).trans (hb3.mono (by omega))).trans (hb4.mono (by omega))).trans (hb5.mono (by omega))).trans (hb6.mono (by omega)))
      go_wp2
      go_ret
      exact ⟨rfl, hbf⟩
    | some c =>
      obtain ⟨hc, hcl⟩ := b64_unb64 _ _ hV
      have C6 := Lib.hid (fun w => macBase64_any (strOf c) w (by rw [strOf_size]; omega))
      rw [strOf_list, hc, show strOf s.data.toList = s from rfl] at C6
      rw [hV, Option.getD_some, Option.isSome_some] at C3 C4
      obtain ⟨Y, HY⟩ : ∃ X, Hid (strOf c = X) := ⟨_, Lib.hid rfl⟩
      rw [HY.out] at C3 C4 C6
      clear hV hl ha hal hc hcl
      go_enter Try.func10, Try.ntmps10
      go_wp2_with fail
      refine (C1.out _).mono ?_
      rintro e w1 ⟨rfl, hb1⟩
      go_wp2_with fail
      refine (C2.out _).mono ?_
      rintro e w2 ⟨rfl, hb2⟩
      go_wp2_with fail
      refine (C3.out _).mono ?_
      rintro e w3 ⟨rfl, hb3⟩
      go_wp2_with fail
      refine (C4.out _).mono ?_
      rintro e w4 ⟨rfl, hb4⟩
      go_wp2_with fail
      refine (A1.out _).mono ?_
      rintro e w5 ⟨rfl, hb5⟩
      go_wp2_with fail
      refine (C5.out _).mono ?_
      rintro e w6 ⟨rfl, hb6⟩
      go_wp2_with fail
      refine (C6.out _).mono ?_
      rintro e w7 ⟨rfl, hb7⟩
      have q1 := hb1.size
      have q2 := hb2.size
      have q3 := hb3.size
      have q4 := hb4.size
      have q5 := hb5.size
      have q6 := hb6.size
      have q7 := hb7.size
      have hbf := ((((((hb1.trans (hb2.mono (by omega))).trans (hb3.mono (by omega))).trans (hb4.mono (by omega))).trans (hb5.mono (by omega))).trans (hb6.mono (by omega))).trans (hb7.mono (by omega)))
      go_wp2
      go_ret
      exact ⟨rfl, hbf⟩

theorem macReads_lifted (os : Os) (started : os.Started) (H : Type) (enc : TypeId × Value → H) :
    ReturnsInHanded {} Try.checked os 10 .any (Rows.macReadsSpec.pre6 enc Try.prog Try.f10 Rows.macReadsRow.domain false) (Rows.macReadsSpec.post enc Try.prog Try.f10 false true false false) := by
  refine returnsInHanded_of_change_sized (C := Try.checked) own started (by kernel_rfl) Try.func10
    (ChangeSpec.witness6 (enc := enc) (C := Try.checked) false ⟨#[], #[.string ByteArray.empty], []⟩ 8 (by kernel_rfl) (by kernel_rfl) (by kernel_rfl) (by kernel_rfl)) ?_
  intro W base args ds gs before hval0 hW hcnd hsz0 _
  have hval : ∀ (j : Nat) t v, Try.f10.params[j]? = some t → args[j]? = some v → Value.okWide Try.prog W .any base t v := hval0
  have hW' := hW
  obtain ⟨p, q, hA0, hV, rfl, hfz, hnd⟩ := hW
  have hA : DataW.TrodAll enc Try.prog W 0 (fun _ => true) true Try.f10.params.toList args.toList ds p := hA0
  have hsz : (DataW.weightsEach Try.prog (Try.f10.params.toList ++ Rows.macReadsSpec.plain.varTypes Try.prog) (ds ++ gs)).all (· ≤ reachBytes) = true := hsz0
  rw [Try.params10] at hA hval hsz
  obtain ⟨v0, vs0, d0, ds0, p0, q0, hargs, rfl, rfl, h0, r0⟩ := trodAll_cons hA
  obtain ⟨rfl, rfl, rfl⟩ := trodAll_nil r0
  obtain rfl : args = #[v0] := by cases args; simp_all
  obtain ⟨rfl, rfl⟩ := trodVars_none hV
  obtain ⟨s, rfl, rfl, rfl, hs⟩ := open_string Try.underlying9 (hval 0 9 v0 rfl rfl) h0
  have hlen : s.size ≤ 140737488351232 := by
    have := sized_string hsz (j := 0) (t := 9) rfl rfl
    simpa [reachBytes] using this
  clear hA0 hval0 hsz0
  refine (walk s W hlen).mono fun e W' ⟨he, bel⟩ => ?_
  subst he
  exact ⟨_, rfl, _, _, _, [], _, [], hW', trodAll_mk1 (shut_bool Try.underlying4 _), trodAll_mk1 (shut_string Try.underlying9 hs), rfl, bel.frame _, fun h => by cases h⟩

theorem macReads_over : Rows.macReadsRow.holds Try.pinned (OpenSpec.ofChange Rows.macReadsSpec) :=
  OpenClaim.holds_of_wide 10 Try.f10 rfl rfl rfl rfl rfl rfl rfl ⟨rfl, rfl, rfl, rfl, rfl⟩ rfl rfl rfl rfl rfl (by kernel_rfl) Try.func10 (by kernel_rfl)
    (of_decide_eq_true (by kernel_rfl)) (by unfold Func.isWrapper; first | (rw [if_pos (by decide +kernel)]; kernel_rfl) | (rw [if_neg (by decide +kernel)]; exact ⟨rfl, rfl⟩))
    (fun os started H enc _ => macReads_lifted os started H enc)

end Rdf
theorem macReads_holds : Rows.MacReadsSaid := Rdf.macReads_over
#print axioms macReads_holds
end Go.Proofs.Ytlpdbkhpchmpmaa
