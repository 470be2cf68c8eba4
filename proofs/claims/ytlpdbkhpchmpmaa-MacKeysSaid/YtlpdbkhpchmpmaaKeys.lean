/-
  MacKeys: a short key and the same with noughts behind it make one proof; so do a long one and its sum.
-/
import Derived.Test.YtlpdbkhpchmpmaaR
import Derived.ProofKit
import Derived.OpenShut
import Derived.ShutString
import Derived.ChangeOld
import Derived.SizedLaws
namespace Go.Proofs.Ytlpdbkhpchmpmaa
open Go.ChangeShapes Go.WideShapes Go.ChangeAt Go.RowKit
open Go.ChangeMaps (open_string shut_string)
set_option linter.unusedVariables false
set_option maxRecDepth 100000
set_option maxHeartbeats 2000000

namespace Keys
theorem own : ownKnob Try.prog.godebug = none := by kernel_rfl

theorem hmac_of_sum (k t : List UInt8) (h : 64 < k.length) : hmac (sha k) t = hmac k t := by
  unfold hmac hkey
  rw [if_pos h, if_neg (by rw [sha_length]; decide)]
theorem hmac_of_noughts (k t : List UInt8) (z : Nat) (h : k.length + z ≤ 64) : hmac (k ++ List.replicate z 0) t = hmac k t := by
  unfold hmac hkey
  rw [if_neg (by simp; omega), if_neg (by omega)]
  have e : keyL (k ++ List.replicate z 0) = keyL k := by
    unfold keyL
    rw [List.append_assoc, List.length_append, List.length_replicate, List.replicate_append_replicate]
    congr 2
    omega
  unfold hmacOf turnL
  rw [e]

theorem long (key text : ByteArray) (n : Int) (w : World) (h64 : 64 < key.size) (hk : key.size ≤ 140737488351232) (ht : text.size ≤ 140737488351232) :
    Calls Try.prog 6 #[.string key, .string text, .int .i64 n] w fun e w' => e = .returned (.bool true) ∧ Below w.heap.size w w' := by
  have C1 := Lib.hid (fun w => macSum_any key w (by omega))
  have C2 := Lib.hid (fun w => macMac_any key text w (by omega) (by omega))
  have C3 := Lib.hid (fun w => macMac_any (strOf (sha key.data.toList)) text w (by rw [strOf_size, sha_length]; decide) (by omega))
  rw [strOf_list, hmac_of_sum _ _ (by simpa using h64)] at C3
  obtain ⟨K, HK⟩ : ∃ K, Hid (strOf (sha key.data.toList) = K) := ⟨_, Lib.hid rfl⟩
  obtain ⟨S, HS⟩ : ∃ S, Hid (strOf (hmac key.data.toList text.data.toList) = S) := ⟨_, Lib.hid rfl⟩
  rw [HK.out] at C1 C3
  rw [HS.out] at C2 C3
  have A1 := Lib.hid awake_any
  have hk2 : 64 < (key.size : Int) := by omega
  go_enter Try.func6, Try.ntmps6
  go_wp2_with fail
  refine (A1.out _).mono ?_
  rintro e w1 ⟨rfl, hb1⟩
  go_wp2_with fail
  refine (C2.out _).mono ?_
  rintro e w2 ⟨rfl, hb2⟩
  go_wp2_with fail
  refine (C1.out _).mono ?_
  rintro e w3 ⟨rfl, hb3⟩
  go_wp2_with fail
  refine (C3.out _).mono ?_
  rintro e w4 ⟨rfl, hb4⟩
  have q1 := hb1.size
  have q2 := hb2.size
  have q3 := hb3.size
  have hbf := ((hb1.trans (hb2.mono q1)).trans (hb3.mono (by omega))).trans (hb4.mono (by omega))
  go_wp2
  go_ret
  exact ⟨rfl, hbf⟩

theorem short (key text : ByteArray) (n : Int) (w : World) (h64 : key.size ≤ 64) (ht : text.size ≤ 140737488351232) :
    Calls Try.prog 6 #[.string key, .string text, .int .i64 n] w fun e w' => e = .returned (.bool true) ∧ Below w.heap.size w w' := by
  have C2 := Lib.hid (fun w => macMac_any key text w (by omega) (by omega))
  have C3' := Lib.hid (fun (z : Nat) (hz : key.size + z ≤ 64) w => macMac_any (strOf (key.data.toList ++ List.replicate z 0)) text w (by rw [strOf_size, List.length_append, List.length_replicate]; simp; omega) (by omega))
  have HZ := Lib.hid (fun (z : Nat) (hz : key.size + z ≤ 64) => hmac_of_noughts key.data.toList text.data.toList z (by simpa using hz))
  have hS : (strOf (hmac key.data.toList text.data.toList)).size = 32 := by rw [strOf_size, hmac_length]
  obtain ⟨S, HS⟩ : ∃ S, Hid (strOf (hmac key.data.toList text.data.toList) = S) := ⟨_, Lib.hid rfl⟩
  rw [HS.out] at C2 hS
  have A1 := Lib.hid awake_any
  have hl : key.data.toList.length = key.size := by simp
  obtain ⟨l, HL⟩ : ∃ l, Hid (key.data.toList = l) := ⟨_, Lib.hid rfl⟩
  have HLS : Hid (l.length = key.size) := by show _ = _; rw [← HL.out]; exact hl
  clear hl
  have hk0 : (0 : Int) ≤ (key.size : Int) := by omega
  have hk1 : (key.size : Int) ≤ 64 := by omega
  go_enter Try.func6, Try.ntmps6
  go_wp2_with fail
  refine (A1.out _).mono ?_
  rintro e w1 ⟨rfl, hb1⟩
  have hconv := Lib.run_convert_string_bytes (P := Try.prog) w1 9 28 5 key Try.underlying9 Try.underlying28 Try.underlying5
  have hown := OwnB.conv w1 key (by unfold maxLen; omega)
  have hbw := below_conv w1 key
  have hb0 := hb1.trans (hbw.mono hb1.size)
  replace hown := hown.mono hb1.size
  clear hbw
  rw [HL.out] at hown
  obtain ⟨W1, HW1⟩ : ∃ W, Hid (Lib.bytesWorld w1 5 key = W) := ⟨_, Lib.hid rfl⟩
  obtain ⟨cap0, HC0⟩ : ∃ c, Hid (grownCap w1 key.size 0 5 = c) := ⟨_, Lib.hid rfl⟩
  rw [HC0.out, HW1.out] at hown hconv
  rw [HW1.out] at hb0
  go_wp2
  go_loopw [7, 8] (fun v i wr => ∃ z : Nat, key.size + z ≤ 64 ∧ i = .int .i64 z ∧ OwnB wr w.heap.size v (l ++ List.replicate z 0) ∧ Below w.heap.size w wr) (fun v _ _ => 64 - sliceLen v)
  case atStart => exact ⟨0, by omega, rfl, by simpa using hown, hb0⟩
  case round =>
    clear hown hb0 hconv hb1 HC0 HW1
    obtain ⟨z, hz, rfl, hown, hnx⟩ := hrel
    have hsz := hnx.size
    have hxl : Hid ((l ++ List.replicate z 0).length = key.size + z) := by
      show _ = _
      have := HLS.out
      simp
      omega
    obtain ⟨p, cap, rfl⟩ := hown.form
    have hown' := hown
    rw [hxl.out] at hown ⊢
    have C3 : Hid (∀ w, Calls Try.prog 19 #[.string (strOf (l ++ List.replicate z 0)), .string text] w fun e w' => e = .returned (.string S) ∧ Below w.heap.size w w') := by
      show ∀ w, _
      intro w
      have h := C3'.out z hz w
      rw [strOf_list, HZ.out z hz, HS.out, HL.out] at h
      exact h
    obtain ⟨O, HO⟩ : ∃ O, Hid (O = strOf (l ++ List.replicate z 0)) := ⟨_, Lib.hid rfl⟩
    rw [← HO.out] at C3
    by_cases hn : (z : Int) < n
    · by_cases hlt : key.size + z < 64
      · have hlt' : (key.size : Int) + (z : Int) < 64 := by omega
        refine hide_post fun R HR => ?_
        go_wp2_with (at_builtin; refine wpList_append_B _ rfl _ _ rfl w.heap.size _ _ rfl (hown.alloc _) ⟨wr.heap.size, 0, none⟩ 1 1 [0] rfl rfl (news_one _ _ _ rfl) ?d2 ?d3 ?_)
        case d2 => rw [hxl.out]; omega
        case d3 => simp; omega
        intro v1 w1 hown1 hg1
        replace hown1 : OwnB w1 w.heap.size v1 (l ++ List.replicate (z + 1) 0) := by rw [List.replicate_succ']; simpa using hown1
        have hxl1 : Hid ((l ++ List.replicate (z + 1) 0).length = key.size + (z + 1)) := by
          show _ = _
          have := HLS.out
          simp
          omega
        have hb1 : Below w.heap.size w w1 := (hnx.alloc (by omega) _).grown hg1 (by simp; omega) (fun k hk => by have := (hown.lt k hk).1; omega)
        obtain ⟨p1, cap1, rfl⟩ := hown1.form
        have hown1' := hown1
        rw [hxl1.out] at hown1' ⊢
        go_wp2
        obtain rfl := HR.out
        go_roundw
        case rel => exact ⟨z + 1, by omega, by go_num, by rw [← hxl1.out]; exact hown1, hb1⟩
        case measure => simp [sliceLen]; omega
      · have hlt' : ¬ (key.size : Int) + (z : Int) < 64 := by omega
        have hstrx : ∀ x : Later wr, (convert 28 9 (.slice p (key.size + z) cap)).run Try.prog x.val = .ok (.string O) x.val := fun x => by
          have := run_string_B x.val _ _ _ (hown'.below x.property)
          rw [hxl.out] at this
          rw [HO.out]
          exact this
        refine hide_post fun R' HR' => ?_
        go_wp2
        refine wp_region_quiet (C := fun w' => ∃ x : Later wr, w' = x.val) (by kernel_rfl) (by kernel_rfl) (later_drew wr) ?_
        dsimp only
        repeat (first | go_big_quiet_step (first | with_reducible exact calls_later _ (C2.out _) | with_reducible exact calls_later _ (C3.out _)) | quiet_step (fail))
        refine wpQuiet_nil ?_
        intro w2 hx
        have hw2 : Below wr.heap.size wr w2 := by
          obtain ⟨x, rfl⟩ := hx
          exact x.property
        clear hx
        have hb2 := hnx.trans (hw2.mono hnx.size)
        go_wp2
        obtain rfl := HR'.out
        go_ret
        exact ⟨rfl, hb2⟩
    · clear hz
      have hstrx : ∀ x : Later wr, (convert 28 9 (.slice p (key.size + z) cap)).run Try.prog x.val = .ok (.string O) x.val := fun x => by
        have := run_string_B x.val _ _ _ (hown'.below x.property)
        rw [hxl.out] at this
        rw [HO.out]
        exact this
      refine hide_post fun R' HR' => ?_
      go_wp2
      refine wp_region_quiet (C := fun w' => ∃ x : Later wr, w' = x.val) (by kernel_rfl) (by kernel_rfl) (later_drew wr) ?_
      dsimp only
      repeat (first | go_big_quiet_step (first | with_reducible exact calls_later _ (C2.out _) | with_reducible exact calls_later _ (C3.out _)) | quiet_step (fail))
      refine wpQuiet_nil ?_
      intro w2 hx
      have hw2 : Below wr.heap.size wr w2 := by
        obtain ⟨x, rfl⟩ := hx
        exact x.property
      clear hx
      have hb2 := hnx.trans (hw2.mono hnx.size)
      go_wp2
      obtain rfl := HR'.out
      go_ret
      exact ⟨rfl, hb2⟩

theorem walk (key text : ByteArray) (n : Int) (w : World) (hk : key.size ≤ 140737488351232) (ht : text.size ≤ 140737488351232) :
    Calls Try.prog 6 #[.string key, .string text, .int .i64 n] w fun e w' => e = .returned (.bool true) ∧ Below w.heap.size w w' := by
  by_cases h64 : 64 < key.size
  · exact long key text n w h64 hk ht
  · exact short key text n w (by omega) ht

theorem lifted (os : Os) (started : os.Started) (H : Type) (enc : TypeId × Value → H) :
    ReturnsInHanded {} Try.checked os 6 .any (Rows.macKeysSpec.pre6 enc Try.prog Try.f6 Rows.macKeysRow.domain false) (Rows.macKeysSpec.post enc Try.prog Try.f6 false true false false) := by
  refine returnsInHanded_of_change_sized (C := Try.checked) own started (by kernel_rfl) Try.func6
    (ChangeSpec.witness6 (enc := enc) (C := Try.checked) false ⟨#[], #[.string ByteArray.empty, .string ByteArray.empty, .int .i64 0], []⟩ 8 (by kernel_rfl) (by kernel_rfl) (by kernel_rfl) (by kernel_rfl)) ?_
  intro W base args ds gs before hval0 hW hcnd hsz0 _
  have hval : ∀ (j : Nat) t v, Try.f6.params[j]? = some t → args[j]? = some v → Value.okWide Try.prog W .any base t v := hval0
  have hW' := hW
  obtain ⟨p, q, hA0, hV, rfl, hfz, hnd⟩ := hW
  have hA : DataW.TrodAll enc Try.prog W 0 (fun _ => true) true Try.f6.params.toList args.toList ds p := hA0
  have hsz : (DataW.weightsEach Try.prog (Try.f6.params.toList ++ Rows.macKeysSpec.plain.varTypes Try.prog) (ds ++ gs)).all (· ≤ reachBytes) = true := hsz0
  rw [Try.params6] at hA hval hsz
  obtain ⟨v0, vs0, d0, ds0, p0, q0, hargs, rfl, rfl, h0, r0⟩ := trodAll_cons hA
  obtain ⟨v1, vs1, d1, ds1, p1, q1, rfl, rfl, rfl, h1, r1⟩ := trodAll_cons r0
  obtain ⟨v2, vs2, d2, ds2, p2, q2, rfl, rfl, rfl, h2, r2⟩ := trodAll_cons r1
  obtain ⟨rfl, rfl, rfl⟩ := trodAll_nil r2
  obtain rfl : args = #[v0, v1, v2] := by cases args; simp_all
  obtain ⟨rfl, rfl⟩ := trodVars_none hV
  obtain ⟨s0, rfl, rfl, rfl, hs0⟩ := open_string Try.underlying9 (hval 0 9 v0 rfl rfl) h0
  obtain ⟨s1, rfl, rfl, rfl, hs1⟩ := open_string Try.underlying9 (hval 1 9 v1 rfl rfl) h1
  obtain ⟨n, rfl, rfl, rfl, hn⟩ := open_int Try.underlying3 (hval 2 3 v2 rfl rfl) h2
  have hl0 : s0.size ≤ 140737488351232 := by
    have := sized_string hsz (j := 0) (t := 9) rfl rfl
    simpa [reachBytes] using this
  have hl1 : s1.size ≤ 140737488351232 := by
    have := sized_string hsz (j := 1) (t := 9) rfl rfl
    simpa [reachBytes] using this
  clear hA0 hval0 hsz0
  refine (walk s0 s1 n W hl0 hl1).mono fun e W' ⟨he, bel⟩ => ?_
  subst he
  exact ⟨_, rfl, _, _, _, [], _, [], hW', trodAll_mk1 (shut_bool Try.underlying4 _), (trodAll_cons_mk (shut_string Try.underlying9 hs0) (trodAll_cons_mk (shut_string Try.underlying9 hs1) (trodAll_mk1 (shut_int Try.underlying3 hn)))), rfl, bel.frame _, fun h => by cases h⟩

theorem over : Rows.macKeysRow.holds Try.pinned (OpenSpec.ofChange Rows.macKeysSpec) :=
  OpenClaim.holds_of_wide 6 Try.f6 rfl rfl rfl rfl rfl rfl rfl ⟨rfl, rfl, rfl, rfl, rfl⟩ rfl rfl rfl rfl rfl (by kernel_rfl) Try.func6 (by kernel_rfl)
    (of_decide_eq_true (by kernel_rfl)) (by unfold Func.isWrapper; first | (rw [if_pos (by decide +kernel)]; kernel_rfl) | (rw [if_neg (by decide +kernel)]; exact ⟨rfl, rfl⟩))
    (fun os started H enc _ => lifted os started H enc)
end Keys
theorem macKeys_holds : Rows.MacKeysSaid := Keys.over
#print axioms macKeys_holds
end Go.Proofs.Ytlpdbkhpchmpmaa
