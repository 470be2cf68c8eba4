/-
  MacDerives: bytes are derived from a key as HKDF has it; fewer are the beginning of more.
-/
import Derived.Test.YtlpdbkhpchmpmaaU
import Derived.ProofKit
import Derived.OpenShut
import Derived.ShutString
import Derived.ChangeOld
import Derived.SizedLaws
namespace Go.Proofs.Ytlpdbkhpchmpmaa
open Go.ChangeShapes Go.WideShapes Go.ChangeAt Go.RowKit
open Go.ChangeMaps (open_string shut_string)
set_option linter.unusedVariables false
set_option maxRecDepth 100000
set_option maxHeartbeats 2000000

namespace Der
theorem own : ownKnob Try.prog.godebug = none := by kernel_rfl

def saltOf (salt : ByteArray) : ByteArray := if salt.size = 0 then noughts32 else salt
def keyOf (key salt : ByteArray) : ByteArray := strOf (hmac (saltOf salt).data.toList key.data.toList)
theorem mac_ok (key salt info : ByteArray) (n : Nat) (w : World) (hk : key.size ≤ 140737488351232) (hs : salt.size ≤ 140737488351232) (hi : info.size ≤ 140737488351232) (hn : n ≤ 8160) :
    Calls Try.prog 24 #[.string key, .string salt, .string info, .int .i64 n] w fun e w' => e = .returned (.tuple #[.string (derived (keyOf key salt) info n), .bool true]) ∧ Below w.heap.size w w' := by
  unfold keyOf saltOf
  by_cases h : salt.size = 0
  · obtain rfl : salt = ⟨#[]⟩ := ByteArray.ext (Array.eq_empty_of_size_eq_zero h)
    rw [if_pos h]
    exact macDerive_none key info n w hk hi hn
  · rw [if_neg h]
    exact macDerive_some key salt info n w hk hs hi hn h
theorem ref_ok (key salt info : ByteArray) (n : Nat) (w : World) (hk : key.size ≤ 140737488351232) (hs : salt.size ≤ 140737488351232) (hi : info.size ≤ 140737488351232) (hn : n ≤ 8160) :
    Calls Try.prog 25 #[.string key, .string salt, .string info, .int .i64 n] w fun e w' => e = .returned (.tuple #[.string (derived (keyOf key salt) info n), .bool true]) ∧ Below w.heap.size w w' := by
  unfold keyOf saltOf
  by_cases h : salt.size = 0
  · obtain rfl : salt = ⟨#[]⟩ := ByteArray.ext (Array.eq_empty_of_size_eq_zero h)
    rw [if_pos h]
    exact refDerive_none key info n w hk hi hn
  · rw [if_neg h]
    exact refDerive_some key salt info n w hk hs hi hn h

theorem bad (key salt info : ByteArray) (n less : Int) (w : World) (hn : n < 0 ∨ 8160 < n) :
    Calls Try.prog 8 #[.string key, .string salt, .string info, .int .i64 n, .int .i64 less] w fun e w' => e = .returned (.bool true) ∧ Below w.heap.size w w' := by
  have A1 := Lib.hid awake_any
  have C1 := Lib.hid (fun w => macDerive_bad key salt info n w hn)
  have C2 := Lib.hid (fun w => refDerive_bad key salt info n w hn)
  clear hn
  go_enter Try.func8, Try.ntmps8
  go_wp2_with fail
  refine (A1.out _).mono ?_
  rintro e w1 ⟨rfl, hb1⟩
  go_wp2_with fail
  refine (C1.out _).mono ?_
  rintro e w2 ⟨rfl, rfl⟩
  go_wp2_with fail
  refine (C2.out _).mono ?_
  rintro e w2 ⟨rfl, rfl⟩
  go_wp2
  go_ret
  exact ⟨rfl, hb1⟩

theorem good (key salt info : ByteArray) (n : Nat) (less : Int) (w : World) (hk : key.size ≤ 140737488351232) (hs : salt.size ≤ 140737488351232) (hi : info.size ≤ 140737488351232) (hn : n ≤ 8160) :
    Calls Try.prog 8 #[.string key, .string salt, .string info, .int .i64 n, .int .i64 less] w fun e w' => e = .returned (.bool true) ∧ Below w.heap.size w w' := by
  have A1 := Lib.hid awake_any
  have C1 := Lib.hid (fun w => mac_ok key salt info n w hk hs hi hn)
  have C2 := Lib.hid (fun w => ref_ok key salt info n w hk hs hi hn)
  have hD := derived_size (keyOf key salt) info n
  have HL := Lib.hid (fun m (h : m ≤ n) => derived_less (keyOf key salt) info n m h)
  have C3' := Lib.hid (fun (m : Nat) (h : m ≤ n) w => mac_ok key salt info m w hk hs hi (by omega))
  obtain ⟨D, HD⟩ : ∃ D, Hid (derived (keyOf key salt) info n = D) := ⟨_, Lib.hid rfl⟩
  rw [HD.out] at C1 C2 hD HL
  have n0 : (0 : Int) ≤ (n : Int) := by omega
  have n1 : (n : Int) ≤ 8160 := by omega
  by_cases h0 : less < 0
  · go_enter Try.func8, Try.ntmps8
    go_wp2_with fail
    refine (A1.out _).mono ?_
    rintro e w1 ⟨rfl, hb1⟩
    go_wp2_with fail
    refine (C1.out _).mono ?_
    rintro e w2 ⟨rfl, hb2⟩
    go_wp2_with fail
    refine (C2.out _).mono ?_
    rintro e w3 ⟨rfl, hb3⟩
    have q1 := hb1.size
    have q2 := hb2.size
    have hbf := (hb1.trans (hb2.mono q1)).trans (hb3.mono (by omega))
    go_wp2
    go_ret
    exact ⟨rfl, hbf⟩
  by_cases h1 : (n : Int) < less
  · go_enter Try.func8, Try.ntmps8
    go_wp2_with fail
    refine (A1.out _).mono ?_
    rintro e w1 ⟨rfl, hb1⟩
    go_wp2_with fail
    refine (C1.out _).mono ?_
    rintro e w2 ⟨rfl, hb2⟩
    go_wp2_with fail
    refine (C2.out _).mono ?_
    rintro e w3 ⟨rfl, hb3⟩
    have q1 := hb1.size
    have q2 := hb2.size
    have hbf := (hb1.trans (hb2.mono q1)).trans (hb3.mono (by omega))
    go_wp2
    go_ret
    exact ⟨rfl, hbf⟩
  obtain ⟨m, rfl⟩ : ∃ m : Nat, less = m := ⟨less.toNat, by omega⟩
  have hm : m ≤ n := by omega
  have C3 := Lib.hid (C3'.out m hm)
  have hU := HL.out m hm
  obtain ⟨U, HU⟩ : ∃ U, Hid (derived (keyOf key salt) info m = U) := ⟨_, Lib.hid rfl⟩
  rw [HU.out] at C3 hU
  have m0 : (0 : Int) ≤ (m : Int) := by omega
  have m1 : (m : Int) ≤ (n : Int) := by omega
  go_enter Try.func8, Try.ntmps8
  go_wp2_with fail
  refine (A1.out _).mono ?_
  rintro e w1 ⟨rfl, hb1⟩
  go_wp2_with fail
  refine (C1.out _).mono ?_
  rintro e w2 ⟨rfl, hb2⟩
  go_wp2_with fail
  refine (C2.out _).mono ?_
  rintro e w3 ⟨rfl, hb3⟩
  go_wp2_with fail
  refine (C3.out _).mono ?_
  rintro e w4 ⟨rfl, hb4⟩
  have q1 := hb1.size
  have q2 := hb2.size
  have q3 := hb3.size
  have hbf := ((hb1.trans (hb2.mono q1)).trans (hb3.mono (by omega))).trans (hb4.mono (by omega))
  go_wp2
  go_ret
  exact ⟨rfl, hbf⟩

theorem walk (key salt info : ByteArray) (n less : Int) (w : World) (hk : key.size ≤ 140737488351232) (hs : salt.size ≤ 140737488351232) (hi : info.size ≤ 140737488351232) :
    Calls Try.prog 8 #[.string key, .string salt, .string info, .int .i64 n, .int .i64 less] w fun e w' => e = .returned (.bool true) ∧ Below w.heap.size w w' := by
  by_cases hn : n < 0 ∨ 8160 < n
  · exact bad key salt info n less w hn
  · obtain ⟨m, rfl⟩ : ∃ m : Nat, n = m := ⟨n.toNat, by omega⟩
    exact good key salt info m less w hk hs hi (by omega)

theorem lifted (os : Os) (started : os.Started) (H : Type) (enc : TypeId × Value → H) :
    ReturnsInHanded {} Try.checked os 8 .any (Rows.macDerivesSpec.pre6 enc Try.prog Try.f8 Rows.macDerivesRow.domain false) (Rows.macDerivesSpec.post enc Try.prog Try.f8 false true false false) := by
  refine returnsInHanded_of_change_sized (C := Try.checked) own started (by kernel_rfl) Try.func8
    (ChangeSpec.witness6 (enc := enc) (C := Try.checked) false ⟨#[], #[.string ByteArray.empty, .string ByteArray.empty, .string ByteArray.empty, .int .i64 0, .int .i64 0], []⟩ 8 (by kernel_rfl) (by kernel_rfl) (by kernel_rfl) (by kernel_rfl)) ?_
  intro W base args ds gs before hval0 hW hcnd hsz0 _
  have hval : ∀ (j : Nat) t v, Try.f8.params[j]? = some t → args[j]? = some v → Value.okWide Try.prog W .any base t v := hval0
  have hW' := hW
  obtain ⟨p, q, hA0, hV, rfl, hfz, hnd⟩ := hW
  have hA : DataW.TrodAll enc Try.prog W 0 (fun _ => true) true Try.f8.params.toList args.toList ds p := hA0
  have hsz : (DataW.weightsEach Try.prog (Try.f8.params.toList ++ Rows.macDerivesSpec.plain.varTypes Try.prog) (ds ++ gs)).all (· ≤ reachBytes) = true := hsz0
  rw [Try.params8] at hA hval hsz
  obtain ⟨v0, vs0, d0, ds0, p0, q0, hargs, rfl, rfl, h0, r0⟩ := trodAll_cons hA
  obtain ⟨v1, vs1, d1, ds1, p1, q1, rfl, rfl, rfl, h1, r1⟩ := trodAll_cons r0
  obtain ⟨v2, vs2, d2, ds2, p2, q2, rfl, rfl, rfl, h2, r2⟩ := trodAll_cons r1
  obtain ⟨v3, vs3, d3, ds3, p3, q3, rfl, rfl, rfl, h3, r3⟩ := trodAll_cons r2
  obtain ⟨v4, vs4, d4, ds4, p4, q4, rfl, rfl, rfl, h4, r4⟩ := trodAll_cons r3
  obtain ⟨rfl, rfl, rfl⟩ := trodAll_nil r4
  obtain rfl : args = #[v0, v1, v2, v3, v4] := by cases args; simp_all
  obtain ⟨rfl, rfl⟩ := trodVars_none hV
  obtain ⟨s0, rfl, rfl, rfl, hs0⟩ := open_string Try.underlying9 (hval 0 9 v0 rfl rfl) h0
  obtain ⟨s1, rfl, rfl, rfl, hs1⟩ := open_string Try.underlying9 (hval 1 9 v1 rfl rfl) h1
  obtain ⟨s2, rfl, rfl, rfl, hs2⟩ := open_string Try.underlying9 (hval 2 9 v2 rfl rfl) h2
  obtain ⟨n3, rfl, rfl, rfl, hn3⟩ := open_int Try.underlying3 (hval 3 3 v3 rfl rfl) h3
  obtain ⟨n4, rfl, rfl, rfl, hn4⟩ := open_int Try.underlying3 (hval 4 3 v4 rfl rfl) h4
  have hl0 : s0.size ≤ 140737488351232 := by
    have := sized_string hsz (j := 0) (t := 9) rfl rfl
    simpa [reachBytes] using this
  have hl1 : s1.size ≤ 140737488351232 := by
    have := sized_string hsz (j := 1) (t := 9) rfl rfl
    simpa [reachBytes] using this
  have hl2 : s2.size ≤ 140737488351232 := by
    have := sized_string hsz (j := 2) (t := 9) rfl rfl
    simpa [reachBytes] using this
  clear hA0 hval0 hsz0
  refine (walk s0 s1 s2 n3 n4 W hl0 hl1 hl2).mono fun e W' ⟨he, bel⟩ => ?_
  subst he
  exact ⟨_, rfl, _, _, _, [], _, [], hW', trodAll_mk1 (shut_bool Try.underlying4 _), (trodAll_cons_mk (shut_string Try.underlying9 hs0) (trodAll_cons_mk (shut_string Try.underlying9 hs1) (trodAll_cons_mk (shut_string Try.underlying9 hs2) (trodAll_cons_mk (shut_int Try.underlying3 hn3) (trodAll_mk1 (shut_int Try.underlying3 hn4)))))), rfl, bel.frame _, fun h => by cases h⟩

theorem over : Rows.macDerivesRow.holds Try.pinned (OpenSpec.ofChange Rows.macDerivesSpec) :=
  OpenClaim.holds_of_wide 8 Try.f8 rfl rfl rfl rfl rfl rfl rfl ⟨rfl, rfl, rfl, rfl, rfl⟩ rfl rfl rfl rfl rfl (by kernel_rfl) Try.func8 (by kernel_rfl)
    (of_decide_eq_true (by kernel_rfl)) (by unfold Func.isWrapper; first | (rw [if_pos (by decide +kernel)]; kernel_rfl) | (rw [if_neg (by decide +kernel)]; exact ⟨rfl, rfl⟩))
    (fun os started H enc _ => lifted os started H enc)
end Der
theorem macDerives_holds : Rows.MacDerivesSaid := Der.over
#print axioms macDerives_holds
end Go.Proofs.Ytlpdbkhpchmpmaa
