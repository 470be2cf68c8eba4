/-
  MacTexts: bytes as digits and as letters are what the words say, and are read back.
-/
import Derived.Test.YtlpdbkhpchmpmaaR
import Derived.Test.YtlpdbkhpchmpmaaZb
import Derived.ProofKit
import Derived.OpenShut
import Derived.ShutString
import Derived.ChangeOld
import Derived.SizedLaws
import Derived.JoinedCond
namespace Go.Proofs.Ytlpdbkhpchmpmaa
open Go.ChangeShapes Go.WideShapes Go.ChangeAt Go.RowKit
open Go.ChangeMaps (open_string shut_string)
set_option linter.unusedVariables false
set_option maxRecDepth 100000
set_option maxHeartbeats 2000000

namespace Txt
theorem own : ownKnob Try.prog.godebug = none := by kernel_rfl
theorem b64_len (l : List UInt8) : (groupsL 6 b64Al l).length = (4 * l.length + 2) / 3 := by
  obtain ⟨pad, hp, hlen, _, _⟩ := groups_facts 6 (by omega) b64Al al_b64 l
  omega
theorem unhex_hex (l : List UInt8) : unhexL (groupsL 4 hexAl l) = some l := by
  unfold unhexL
  rw [if_pos (by rw [groups4, hexL_length]; omega)]
  exact ungrouped_groups 4 (by omega) (by omega) hexAl al_hex l
theorem walk (s : ByteArray) (w : World) (h0 : s.size ≤ 1048576) :
    Calls Try.prog 9 #[.string s] w fun e w' => e = .returned (.bool true) ∧ Below w.heap.size w w' := by
  have hl : s.data.toList.length = s.size := by simp
  have A1 := Lib.hid awake_any
  have hxl : (groupsL 4 hexAl s.data.toList).length = 2 * s.size := by rw [groups4, hexL_length, hl]
  have hbl := b64_len s.data.toList
  rw [hl] at hbl
  have C1 := Lib.hid (fun w => macHex_any s w (by omega))
  have C2 := Lib.hid (fun w => macUnhex_any (strOf (groupsL 4 hexAl s.data.toList)) w (by rw [strOf_size]; omega))
  have C3 := Lib.hid (fun w => macBase64_any s w (by omega))
  have C4 := Lib.hid (fun w => macUnbase64_any (strOf (groupsL 6 b64Al s.data.toList)) w (by rw [strOf_size]; omega))
  have C5 := Lib.hid (fun w => refHex_any s w (by omega))
  have C6 := Lib.hid (fun w => refBase64_any s w (by omega))
  rw [strOf_list, unhex_hex, Option.getD_some, Option.isSome_some, strOf_data] at C2
  rw [strOf_list, ungrouped_groups 6 (by omega) (by omega) b64Al al_b64, Option.getD_some, Option.isSome_some, strOf_data] at C4
  have hBs : (strOf (groupsL 6 b64Al s.data.toList)).size = (4 * s.size + 2) / 3 := by rw [strOf_size]; exact hbl
  obtain ⟨X, HX⟩ : ∃ X, Hid (strOf (groupsL 4 hexAl s.data.toList) = X) := ⟨_, Lib.hid rfl⟩
  obtain ⟨B, HB⟩ : ∃ X, Hid (strOf (groupsL 6 b64Al s.data.toList) = X) := ⟨_, Lib.hid rfl⟩
  rw [HX.out] at C1 C2 C5
  rw [HB.out] at C3 C4 C6 hBs
  obtain ⟨n, HN⟩ : ∃ n, Hid ((4 * s.size + 2) / 3 = n) := ⟨_, Lib.hid rfl⟩
  rw [HN.out] at hBs
  have s0 : (0 : Int) ≤ (s.size : Int) := by omega
  have s1 : (s.size : Int) ≤ 1048576 := by omega
  have hq : (4 * (s.size : Int) + 2) / 3 = (n : Int) := by have := HN.out; omega
  have hq2 : (4 * (s.size : Int) + 2).tdiv 3 = (n : Int) := by rw [Int.tdiv_eq_ediv_of_nonneg (by omega)]; exact hq
  clear hl hxl hbl
  go_enter Try.func9, Try.ntmps9
  go_wp2_with fail
  refine (C1.out _).mono ?_
  rintro e w1 ⟨rfl, hb1⟩
  go_wp2_with fail
  refine (C2.out _).mono ?_
  rintro e w2 ⟨rfl, hb2⟩
  go_wp2_with fail
  refine (C3.out _).mono ?_
  rintro e w3 ⟨rfl, hb3⟩
  go_wp2_with fail
  refine (C4.out _).mono ?_
  rintro e w4 ⟨rfl, hb4⟩
  go_wp2_with fail
  refine (A1.out _).mono ?_
  rintro e w5 ⟨rfl, hb5⟩
  go_wp2_with fail
  refine (C1.out _).mono ?_
  rintro e w6 ⟨rfl, hb6⟩
  go_wp2_with fail
  refine (C5.out _).mono ?_
  rintro e w7 ⟨rfl, hb7⟩
  go_wp2_with fail
  refine (C3.out _).mono ?_
  rintro e w8 ⟨rfl, hb8⟩
  go_wp2_with fail
  refine (C6.out _).mono ?_
  rintro e w9 ⟨rfl, hb9⟩
  go_wp2_with fail
  refine (C3.out _).mono ?_
  rintro e w10 ⟨rfl, hb10⟩
  have q1 := hb1.size
  have q2 := hb2.size
  have q3 := hb3.size
  have q4 := hb4.size
  have q5 := hb5.size
  have q6 := hb6.size
  have q7 := hb7.size
  have q8 := hb8.size
  have q9 := hb9.size
  have q10 := hb10.size
  have hbf := (((((((((hb1.trans (hb2.mono (by omega))).trans (hb3.mono (by omega))).trans (hb4.mono (by omega))).trans (hb5.mono (by omega))).trans (hb6.mono (by omega))).trans (hb7.mono (by omega))).trans (hb8.mono (by omega))).trans (hb9.mono (by omega))).trans (hb10.mono (by omega)))
  go_wp2
  go_ret
  exact ⟨rfl, hbf⟩

theorem lifted (os : Os) (started : os.Started) (H : Type) (enc : TypeId × Value → H) (F : Stop.Interp) :
    ReturnsInHanded {} Try.checked os 9 .any ((Rows.OpenSpec.upto Rows.macTextsSpec).pre6 enc Try.prog Try.f9 Rows.macTextsUptoRow.domain false) (((Rows.OpenSpec.upto Rows.macTextsSpec).at F).post enc Try.prog Try.f9 false true false false) := by
  refine returnsInHanded_of_cond (C := Try.checked) (s := Rows.OpenSpec.upto Rows.macTextsSpec) (k := Rows.uptoSmall) rfl own started (by kernel_rfl) Try.func9
    (OpenSpec.witness (enc := enc) (C := Try.checked) (s := Rows.OpenSpec.upto Rows.macTextsSpec) (k := Rows.uptoSmall) rfl false ⟨#[], #[.string ByteArray.empty], []⟩ 8 (by kernel_rfl) (by kernel_rfl) (by kernel_rfl)
      (x := ([.lit (.string [])], [], [])) (by kernel_rfl) rfl (by kernel_rfl)) ?_
  intro W base args ds gs before hval0 hW _ hk _
  have hval : ∀ (j : Nat) t v, Try.f9.params[j]? = some t → args[j]? = some v → Value.okWide Try.prog W .any base t v := hval0
  have hW' := hW
  obtain ⟨p, q, hA0, hV, rfl, hfz, hnd⟩ := hW
  have hA : DataW.TrodAll enc Try.prog W 0 (fun _ => true) true Try.f9.params.toList args.toList ds p := hA0
  rw [Try.params9] at hA hval
  obtain ⟨v0, vs0, d0, ds0, p0, q0, hargs, rfl, rfl, h0, r0⟩ := trodAll_cons hA
  obtain ⟨rfl, rfl, rfl⟩ := trodAll_nil r0
  obtain rfl : args = #[v0] := by cases args; simp_all
  obtain ⟨rfl, rfl⟩ := trodVars_none hV
  obtain ⟨s0, rfl, rfl, rfl, hs0⟩ := open_string Try.underlying9 (hval 0 9 v0 rfl rfl) h0
  have hb := of_decide_eq_true hk
  simp only [List.append_nil, Rows.uptoBulkAll, Rows.uptoBulk, Array.length_toList, ByteArray.size_data] at hb
  clear hA0 hval0
  simp only [List.append_nil] at hW'
  refine (walk s0 W (by omega)).mono fun e W' ⟨he, bel⟩ => ?_
  subst he
  exact ⟨_, rfl, _, _, _, [], _, [], hW', trodAll_mk1 (shut_bool Try.underlying4 _), trodAll_mk1 (shut_string Try.underlying9 hs0), rfl, bel.frame _, fun h => by cases h⟩

theorem over : Rows.macTextsUptoRow.holds Try.pinned (Rows.OpenSpec.upto Rows.macTextsSpec) :=
  OpenClaim.holds_of_cond 9 Try.f9 rfl rfl rfl rfl rfl rfl rfl ⟨rfl, rfl, rfl, rfl, rfl⟩ rfl rfl rfl rfl rfl (by kernel_rfl) Try.func9 (by kernel_rfl)
    (of_decide_eq_true (by kernel_rfl)) (by unfold Func.isWrapper; first | (rw [if_pos (by decide +kernel)]; kernel_rfl) | (rw [if_neg (by decide +kernel)]; exact ⟨rfl, rfl⟩))
    (fun os started H enc _ F => lifted os started H enc F)
end Txt
theorem macTexts_upto_holds : Rows.MacTextsUptoSaid := Txt.over
#print axioms macTexts_upto_holds
end Go.Proofs.Ytlpdbkhpchmpmaa
