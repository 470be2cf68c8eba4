/-
  MacProofs: a proof is HMAC of its key and text, chains are the sums that the words say, and proofs are compared whole.
-/
import Derived.Test.YtlpdbkhpchmpmaaS
import Derived.ProofKit
import Derived.OpenShut
import Derived.ShutString
import Derived.ChangeOld
import Derived.SizedLaws
import Derived.JoinedCond
namespace Go.Proofs.Ytlpdbkhpchmpmaa
open Go.ChangeShapes Go.WideShapes Go.ChangeAt Go.RowKit
open Go.ChangeMaps (open_string shut_string)
set_option linter.unusedVariables false
set_option maxRecDepth 100000
set_option maxHeartbeats 2000000

namespace Prf
theorem own : ownKnob Try.prog.godebug = none := by kernel_rfl

theorem walk (key text other : ByteArray) (w : World) (h0 : key.size ≤ 1048576) (h1 : text.size ≤ 1048576) (h2 : other.size ≤ 1048576) :
    Calls Try.prog 7 #[.string key, .string text, .string other] w fun e w' => e = .returned (.bool true) ∧ Below w.heap.size w w' := by
  have A1 := Lib.hid awake_any
  have C1 := Lib.hid (fun w => macMac_any key text w (by omega) (by omega))
  have C2 := Lib.hid (fun w => refMac_any key text w (by omega) (by omega))
  have C3 := Lib.hid (fun w => macChain_any key text w h0 h1)
  have C4 := Lib.hid (fun w => refChain_any key text w h0 h1)
  have C5 := Lib.hid (fun w => Equal_any text other w (by omega))
  have C6 := Lib.hid (fun w => Equal_any text text w (by omega))
  rw [decide_eq_true rfl] at C6
  obtain ⟨S, HS⟩ : ∃ S, Hid (strOf (hmac key.data.toList text.data.toList) = S) := ⟨_, Lib.hid rfl⟩
  obtain ⟨T, HT⟩ : ∃ S, Hid (strOf (chainOf key.data.toList text.data.toList) = S) := ⟨_, Lib.hid rfl⟩
  rw [HS.out] at C1 C2
  rw [HT.out] at C3 C4
  have e1 : ¬ 9223372036854775807 < text.size := by omega
  have e2 : text ++ (⟨#[]⟩ : ByteArray) = text := by apply ByteArray.ext; simp
  have he : (text.toList == other.toList) = decide (text = other) := by
    rw [Bool.eq_iff_iff]
    simp only [beq_iff_eq, decide_eq_true_eq, ByteArray.toList_eq]
    constructor
    · intro h; exact ByteArray.ext (Array.toList_inj.1 h)
    · rintro rfl; rfl
  have he2 : decide (text.toList = other.toList) = decide (text = other) := by
    rw [← he, Bool.eq_iff_iff]
    simp only [beq_iff_eq, decide_eq_true_eq]
  obtain ⟨b, HB⟩ : ∃ b, Hid (decide (text = other) = b) := ⟨_, Lib.hid rfl⟩
  rw [HB.out] at C5 he he2
  go_enter Try.func7, Try.ntmps7
  go_wp2_with fail
  refine (A1.out _).mono ?_
  rintro e w1 ⟨rfl, hb1⟩
  go_wp2_with fail
  refine (C1.out _).mono ?_
  rintro e w2 ⟨rfl, hb2⟩
  go_wp2_with fail
  refine (C2.out _).mono ?_
  rintro e w3 ⟨rfl, hb3⟩
  go_wp2_with fail
  refine (C3.out _).mono ?_
  rintro e w4 ⟨rfl, hb4⟩
  go_wp2_with fail
  refine (C4.out _).mono ?_
  rintro e w5 ⟨rfl, hb5⟩
  go_wp2_with fail
  refine (C5.out _).mono ?_
  rintro e w6 ⟨rfl, hb6⟩
  have q1 := hb1.size
  have q2 := hb2.size
  have q3 := hb3.size
  have q4 := hb4.size
  have q5 := hb5.size
  have q6 := hb6.size
  have hbf := ((((hb1.trans (hb2.mono q1)).trans (hb3.mono (by omega))).trans (hb4.mono (by omega))).trans (hb5.mono (by omega))).trans (hb6.mono (by omega))
  go_wp2_with fail
  refine (C6.out _).mono ?_
  rintro e w7 ⟨rfl, hb7⟩
  go_wp2
  go_ret
  exact ⟨rfl, hbf.trans (hb7.mono (by omega))⟩

theorem lifted (os : Os) (started : os.Started) (H : Type) (enc : TypeId × Value → H) (F : Stop.Interp) :
    ReturnsInHanded {} Try.checked os 7 .any ((Rows.OpenSpec.upto Rows.macProofsSpec).pre6 enc Try.prog Try.f7 Rows.macProofsUptoRow.domain false) (((Rows.OpenSpec.upto Rows.macProofsSpec).at F).post enc Try.prog Try.f7 false true false false) := by
  refine returnsInHanded_of_cond (C := Try.checked) (s := Rows.OpenSpec.upto Rows.macProofsSpec) (k := Rows.uptoSmall) rfl own started (by kernel_rfl) Try.func7
    (OpenSpec.witness (enc := enc) (C := Try.checked) (s := Rows.OpenSpec.upto Rows.macProofsSpec) (k := Rows.uptoSmall) rfl false ⟨#[], #[.string ByteArray.empty, .string ByteArray.empty, .string ByteArray.empty], []⟩ 8 (by kernel_rfl) (by kernel_rfl) (by kernel_rfl)
      (x := ([.lit (.string []), .lit (.string []), .lit (.string [])], [], [])) (by kernel_rfl) rfl (by kernel_rfl)) ?_
  intro W base args ds gs before hval0 hW _ hk _
  have hval : ∀ (j : Nat) t v, Try.f7.params[j]? = some t → args[j]? = some v → Value.okWide Try.prog W .any base t v := hval0
  have hW' := hW
  obtain ⟨p, q, hA0, hV, rfl, hfz, hnd⟩ := hW
  have hA : DataW.TrodAll enc Try.prog W 0 (fun _ => true) true Try.f7.params.toList args.toList ds p := hA0
  rw [Try.params7] at hA hval
  obtain ⟨v0, vs0, d0, ds0, p0, q0, hargs, rfl, rfl, h0, r0⟩ := trodAll_cons hA
  obtain ⟨v1, vs1, d1, ds1, p1, q1, rfl, rfl, rfl, h1, r1⟩ := trodAll_cons r0
  obtain ⟨v2, vs2, d2, ds2, p2, q2, rfl, rfl, rfl, h2, r2⟩ := trodAll_cons r1
  obtain ⟨rfl, rfl, rfl⟩ := trodAll_nil r2
  obtain rfl : args = #[v0, v1, v2] := by cases args; simp_all
  obtain ⟨rfl, rfl⟩ := trodVars_none hV
  obtain ⟨s0, rfl, rfl, rfl, hs0⟩ := open_string Try.underlying9 (hval 0 9 v0 rfl rfl) h0
  obtain ⟨s1, rfl, rfl, rfl, hs1⟩ := open_string Try.underlying9 (hval 1 9 v1 rfl rfl) h1
  obtain ⟨s2, rfl, rfl, rfl, hs2⟩ := open_string Try.underlying9 (hval 2 9 v2 rfl rfl) h2
  have hb := of_decide_eq_true hk
  simp only [List.append_nil, Rows.uptoBulkAll, Rows.uptoBulk, Array.length_toList, ByteArray.size_data] at hb
  clear hA0 hval0
  simp only [List.append_nil] at hW'
  refine (walk s0 s1 s2 W (by omega) (by omega) (by omega)).mono fun e W' ⟨he, bel⟩ => ?_
  subst he
  exact ⟨_, rfl, _, _, _, [], _, [], hW', trodAll_mk1 (shut_bool Try.underlying4 _), (trodAll_cons_mk (shut_string Try.underlying9 hs0) (trodAll_cons_mk (shut_string Try.underlying9 hs1) (trodAll_mk1 (shut_string Try.underlying9 hs2)))), rfl, bel.frame _, fun h => by cases h⟩

theorem over : Rows.macProofsUptoRow.holds Try.pinned (Rows.OpenSpec.upto Rows.macProofsSpec) :=
  OpenClaim.holds_of_cond 7 Try.f7 rfl rfl rfl rfl rfl rfl rfl ⟨rfl, rfl, rfl, rfl, rfl⟩ rfl rfl rfl rfl rfl (by kernel_rfl) Try.func7 (by kernel_rfl)
    (of_decide_eq_true (by kernel_rfl)) (by unfold Func.isWrapper; first | (rw [if_pos (by decide +kernel)]; kernel_rfl) | (rw [if_neg (by decide +kernel)]; exact ⟨rfl, rfl⟩))
    (fun os started H enc _ F => lifted os started H enc F)
end Prf
theorem macProofs_upto_holds : Rows.MacProofsUptoSaid := Prf.over
#print axioms macProofs_upto_holds
end Go.Proofs.Ytlpdbkhpchmpmaa
