/-
  HMAC: mac.Mac and atriumref04.Mac; the chains; Equal.
-/
import Derived.Test.YtlpdbkhpchmpmaaO
namespace Go.Proofs.Ytlpdbkhpchmpmaa
open Go.RowKit
set_option linter.unusedVariables false
set_option maxRecDepth 100000
set_option maxHeartbeats 2000000

def hkey (k : List UInt8) : List UInt8 := if 64 < k.length then sha k else k
def hmacOf (k t : List UInt8) : List UInt8 := sha (turnL k 92 ++ sha (turnL k 54 ++ t))
def hmac (k t : List UInt8) : List UInt8 := hmacOf (hkey k) t
theorem hmac_length (k t : List UInt8) : (hmac k t).length = 32 := sha_length _
theorem turnL_length (k : List UInt8) (x : Int) (h : k.length ≤ 64) : (turnL k x).length = 64 := by simp [turnL, keyL_length k h]
theorem strOf_list (l : List UInt8) : (strOf l).data.toList = l := rfl
theorem strOf_data (s : ByteArray) : strOf s.data.toList = s := by
  apply ByteArray.ext
  simp [strOf]

/-- The words of one HMAC, under plain names. -/
theorem mac_parts (kk text : ByteArray) (hkk : kk.size ≤ 64) (ht : text.size ≤ 140737488354900) : ∃ A B X S Y R : ByteArray,
    Hid (A = strOf (turnL kk.data.toList 92)) ∧ Hid (B = strOf (turnL kk.data.toList 54)) ∧
    A.size = 64 ∧ B.size = 64 ∧ ¬ 9223372036854775807 < 64 + text.size ∧ B ++ text = X ∧ S.size = 32 ∧ A ++ S = Y ∧
    Hid (X.size ≤ 140737488354964) ∧ Hid (Y.size = 96) ∧ Hid (S = strOf (sha X.data.toList)) ∧ Hid (R = strOf (sha Y.data.toList)) ∧ Hid (R = strOf (hmacOf kk.data.toList text.data.toList)) := by
  have hl : kk.data.toList.length ≤ 64 := by simpa using hkk
  have e54 : strOf (turnL kk.data.toList 54) ++ text = strOf (turnL kk.data.toList 54 ++ text.data.toList) := by
    rw [← strOf_add, strOf_data]
  refine ⟨strOf (turnL kk.data.toList 92), strOf (turnL kk.data.toList 54), _, strOf (sha (turnL kk.data.toList 54 ++ text.data.toList)), _, strOf (hmacOf kk.data.toList text.data.toList), Lib.hid rfl, Lib.hid rfl, ?_, ?_, by omega, e54, ?_, strOf_add _ _, Lib.hid ?_, Lib.hid ?_, Lib.hid rfl, Lib.hid rfl, Lib.hid rfl⟩
  · rw [strOf_size, turnL_length _ _ hl]
  · rw [strOf_size, turnL_length _ _ hl]
  · rw [strOf_size, sha_length]
  · rw [strOf_size, List.length_append, turnL_length _ _ hl]
    simp
    omega
  · rw [strOf_size, List.length_append, turnL_length _ _ hl, sha_length]

theorem macMac_short (key text : ByteArray) (w : World) (hk : key.size ≤ 64) (ht : text.size ≤ 140737488354900) :
    Calls Try.prog 19 #[.string key, .string text] w fun e w' => e = .returned (.string (strOf (hmacOf key.data.toList text.data.toList))) ∧ Below w.heap.size w w' := by
  obtain ⟨A, B, X, S, Y, R, HA, HB, s1, s2, s3, s4, s5, s6, HX, HY, HS, HR, HE⟩ := mac_parts key text hk ht
  have C1 := Lib.hid (fun w => turned_any key 92 w hk)
  have C2 := Lib.hid (fun w => turned_any key 54 w hk)
  have C3 := Lib.hid (fun w => macSum_any X w (by have := HX.out; omega))
  have C4 := Lib.hid (fun w => macSum_any Y w (by have := HY.out; omega))
  rw [← HA.out] at C1
  rw [← HB.out] at C2
  rw [← HS.out] at C3
  rw [← HR.out] at C4
  rw [← HE.out]
  go_enter Try.func19, Try.ntmps19
  go_wp2_with fail
  refine (C1.out _).mono ?_
  rintro e w1 ⟨rfl, hb1⟩
  go_wp2_with fail
  refine (C2.out _).mono ?_
  rintro e w2 ⟨rfl, hb2⟩
  go_wp2_with fail
  refine (C3.out _).mono ?_
  rintro e w3 ⟨rfl, hb3⟩
  go_wp2_with fail
  refine (C4.out _).mono ?_
  rintro e w4 ⟨rfl, hb4⟩
  have q1 := hb1.size
  have q2 := hb2.size
  have q3 := hb3.size
  have hbf := ((hb1.trans (hb2.mono q1)).trans (hb3.mono (by omega))).trans (hb4.mono (by omega))
  go_wp2
  go_ret
  exact ⟨rfl, hbf⟩

theorem macMac_any (key text : ByteArray) (w : World) (hk : key.size ≤ 4611686018427387904) (ht : text.size ≤ 140737488354900) :
    Calls Try.prog 19 #[.string key, .string text] w fun e w' => e = .returned (.string (strOf (hmac key.data.toList text.data.toList))) ∧ Below w.heap.size w w' := by
  by_cases h64 : key.size ≤ 64
  · have e : hmac key.data.toList text.data.toList = hmacOf key.data.toList text.data.toList := by
      unfold hmac hkey
      rw [if_neg (by simp; omega)]
    rw [e]
    exact macMac_short key text w h64 ht
  have hKs : (strOf (sha key.data.toList)).size ≤ 64 := by rw [strOf_size, sha_length]; omega
  have e : hmac key.data.toList text.data.toList = hmacOf (strOf (sha key.data.toList)).data.toList text.data.toList := by
    unfold hmac hkey
    rw [if_pos (by simp; omega)]
    rfl
  rw [e]
  clear e
  have C0 := Lib.hid (fun w => macSum_any key w hk)
  obtain ⟨kk, HK⟩ : ∃ kk, Hid (strOf (sha key.data.toList) = kk) := ⟨_, Lib.hid rfl⟩
  rw [HK.out] at C0 hKs ⊢
  obtain ⟨A, B, X, S, Y, R, HA, HB, s1, s2, s3, s4, s5, s6, HX, HY, HS, HR, HE⟩ := mac_parts kk text hKs ht
  have C1 := Lib.hid (fun w => turned_any kk 92 w hKs)
  have C2 := Lib.hid (fun w => turned_any kk 54 w hKs)
  have C3 := Lib.hid (fun w => macSum_any X w (by have := HX.out; omega))
  have C4 := Lib.hid (fun w => macSum_any Y w (by have := HY.out; omega))
  rw [← HA.out] at C1
  rw [← HB.out] at C2
  rw [← HS.out] at C3
  rw [← HR.out] at C4
  rw [← HE.out]
  go_enter Try.func19, Try.ntmps19
  go_wp2_with fail
  refine (C0.out _).mono ?_
  rintro e w0 ⟨rfl, hb0⟩
  go_wp2_with fail
  refine (C1.out _).mono ?_
  rintro e w1 ⟨rfl, hb1⟩
  go_wp2_with fail
  refine (C2.out _).mono ?_
  rintro e w2 ⟨rfl, hb2⟩
  go_wp2_with fail
  refine (C3.out _).mono ?_
  rintro e w3 ⟨rfl, hb3⟩
  go_wp2_with fail
  refine (C4.out _).mono ?_
  rintro e w4 ⟨rfl, hb4⟩
  have q0 := hb0.size
  have q1 := hb1.size
  have q2 := hb2.size
  have q3 := hb3.size
  have hbf := (((hb0.trans (hb1.mono q0)).trans (hb2.mono (by omega))).trans (hb3.mono (by omega))).trans (hb4.mono (by omega))
  go_wp2
  go_ret
  exact ⟨rfl, hbf⟩

theorem turnL_take (k : List UInt8) (x : Int) (h : k.length ≤ 64) (j : Nat) (hj : j < 64) : (turnL k x).take (j + 1) = (turnL k x).take j ++ [xorB ((keyL k).getD j 0) x] := by
  rw [List.take_succ_eq_append_getElem (by rw [turnL_length k x h]; exact hj)]
  congr 1
  have := keyL_length k h
  simp [turnL, List.getD_eq_getElem?_getD, List.getElem?_eq_getElem (show j < (keyL k).length by omega)]
theorem keyL_in (k : List UInt8) (j : Nat) (h : j < k.length) : (keyL k).getD j 0 = k.getD j 0 := by
  simp [keyL, List.getD_eq_getElem?_getD, List.getElem?_append_left h]
theorem keyL_out (k : List UInt8) (j : Nat) (h : ¬ j < k.length) : (keyL k).getD j 0 = 0 := by
  simp [keyL, List.getD_eq_getElem?_getD, List.getElem?_append_right (Nat.le_of_not_lt h), List.getElem?_replicate]
  split <;> rfl

/-- append(b, ys...), with word of the block. -/
theorem wpList_append_B2 (w : World) {ops : Array Oper} {rest : List Oper} {o : Oper} {a : Act} {Q : Exit → Act → World → Prop} (hgd : o.guard = none) (s x : Operand)
    (ho : o.op = .call { callee := .builtin .append, args := #[s, x], argTypes := #[28, 28] })
    (B : Nat) (v : Value) (xs : List UInt8) (hs : a.eval s = v) (hown : OwnB w B v xs)
    (ad : Addr) (m c : Nat) (ys : List UInt8) (hx : a.eval x = .slice (some ad) m c) (hm : ys.length = m) (hc : ∀ j u, (bcells ys)[j]? = some u → w.cell? (ad.add j) = some u)
    (hlen : xs.length + m ≤ 140737488355328) (hB : B ≤ w.heap.size)
    (h : ∀ v' w', OwnB w' B v' (xs ++ ys) → w.grownBy w' v.ownBlock → (v'.ownBlock = v.ownBlock ∨ OwnB w' w.heap.size v' (xs ++ ys)) → wpList Try.prog ops Q rest (a.put o.dst v') w') : wpList Try.prog ops Q (o :: rest) a w := by
  obtain ⟨i0, hi, hz0, hz1, hz2⟩ := info_parts (show (Try.prog.info? 5).map (fun i => (i.zero, i.size, i.bytes)) = some (some (.int .u8 0), 1, 1) by kernel_rfl)
  have hm63 : xs.length + m ≤ maxLen := by unfold maxLen; omega
  rcases hown with ⟨rfl, rfl⟩ | ⟨g, cap, rfl, hg, hlt, h1, h2, hcells, hsp⟩
  · by_cases h0 : m = 0
    · subst h0
      have hy : ys = [] := List.length_eq_zero_iff.1 hm
      subst hy
      refine wpList_append_own w hgd s x 28 ho w.heap.size 5 i0 (.int .u8 0) 1 1 Try.underlying28 hi hz0 hz1 hz2 rfl (by decide) (.slice none 0 0) 0 [] hs (World.ownsRow_nil _ _ _ _) ad 0 c [] hx rfl (by intro j u hj; simp at hj) (by intro u hu; simp at hu) (by decide) (by decide) (Nat.le_refl _) ?_
      intro v' w' h1 h2 h3
      have ho1 : OwnB w' w.heap.size v' [] := OwnB.of_row (n := 0) (by simpa [bcells] using h1)
      exact h v' w' (ho1.mono hB) h2 (.inr ho1)
    · refine wpList_append_own w hgd s x 28 ho w.heap.size 5 i0 (.int .u8 0) 1 1 Try.underlying28 hi hz0 hz1 hz2 rfl (by decide) (.slice none 0 0) 0 [] hs (World.ownsRow_nil _ _ _ _) ad m c (bcells ys) hx (by rw [bcells_length, hm, Nat.mul_one]) hc (bcells_one _) (by simpa using hm63) (by simp at hlen ⊢; omega) (Nat.le_refl _) ?_
      intro v' w' h1 h2 h3
      have ho1 : OwnB w' w.heap.size v' ys := OwnB.of_row (n := 0 + m) (by simpa [bcells] using h1)
      exact h v' w' (ho1.mono hB) h2 (.inr ho1)
  · refine wpList_append_arg w hgd s x 28 ho 5 i0 (.int .u8 0) 1 1 Try.underlying28 hi hz0 hz1 hz2 rfl (by decide) g 0 xs.length cap (bcells xs) hs (by rw [bcells_length, Nat.mul_one]) (fun j u hj => ?_) ad m c (bcells ys) hx (by rw [bcells_length, hm, Nat.mul_one]) hc (bcells_one _) (fun hr j hj => ?_) hm63 (by omega) (fun hr => ?_) (fun hgr v' w' hrow hgb => ?_)
    · have hjl : j < xs.length := by have := (List.getElem?_eq_some_iff.1 hj).1; rwa [bcells_length] at this
      rw [bcells_get xs j hjl] at hj
      rw [Nat.zero_add, hcells j hjl]
      exact hj
    · rw [bcells_length] at hj
      have := hsp (xs.length + j) (by omega) (by omega)
      simpa [Nat.zero_add, Nat.mul_one] using this
    · have hgrow := grown_setCells g (bcells ys) (0 + xs.length * 1) w
      have hst : ∀ j, j < (bcells ys).length → (w.cell? ⟨g, (0 + xs.length * 1) + j, none⟩).isSome = true := by
        intro j hj
        rw [bcells_length] at hj
        have := (hsp (xs.length + j) (by omega) (by omega)).1
        simpa [Nat.zero_add, Nat.mul_one] using this
      refine h _ _ (.inr ⟨g, cap, by rw [List.length_append, hm], hg, Nat.lt_of_lt_of_le hlt hgrow.size, by rw [List.length_append, hm]; exact hr, h2, fun j hj => ?_, fun j hj hj' => ?_⟩) hgrow (.inl rfl)
      · rw [List.length_append] at hj
        by_cases hjx : j < xs.length
        · rw [World.cell?_setCells_out g _ _ _ _ (fun _ _ => .inl (by show j < 0 + xs.length * 1; omega)), hcells j hjx]
          simp [List.getElem?_append_left hjx]
        · have e := World.cell?_setCells_in g (bcells ys) (0 + xs.length * 1) w hst (j - xs.length) (by rw [bcells_length]; omega)
          rw [show 0 + xs.length * 1 + (j - xs.length) = j by omega] at e
          rw [e]
          simp [bcells, List.getElem?_append_right (show xs.length ≤ j by omega), List.getElem?_eq_getElem (show j - xs.length < ys.length by omega)]
      · rw [List.length_append] at hj
        rw [World.frozen?_setCells, World.cell?_setCells_out g _ _ _ _ (fun _ _ => .inr (by show 0 + xs.length * 1 + (bcells ys).length ≤ j; rw [bcells_length]; omega))]
        exact hsp j (by omega) hj'
    · have ho1 : OwnB w' w.heap.size v' (xs ++ ys) := OwnB.of_row (n := xs.length + m) (by rw [bcells_append]; exact hrow)
      refine h v' w' (ho1.mono hB) ⟨hgb.os, hgb.tape, hgb.output, hgb.size, fun k hk _ => hgb.block k hk (by simp)⟩ (.inr ho1)


theorem OwnB.grown {w w' : World} {B : Nat} {v u : Value} {xs : List UInt8} (h : OwnB w B v xs) (hg : w.grownBy w' u.ownBlock) (hne : ∀ b, v.ownBlock = some b → u.ownBlock ≠ some b) : OwnB w' B v xs :=
  h.keep hg.size fun k _ hk he => hg.block k hk (fun e => hne k he e.symm)

theorem refMac_short (key text : ByteArray) (w : World) (hk : key.size ≤ 64) (ht : text.size ≤ 140737488354900) :
    Calls Try.prog 20 #[.string key, .string text] w fun e w' => e = .returned (.string (strOf (hmacOf key.data.toList text.data.toList))) ∧ Below w.heap.size w w' := by
  obtain ⟨A, B, X, S, Y, R, HA, HB, s1, s2, s3, s4, s5, s6, HX, HY, HS, HR, HE⟩ := mac_parts key text hk ht
  have C3 := Lib.hid (fun w => refSum_any X w (by have := HX.out; omega))
  have C4 := Lib.hid (fun w => refSum_any Y w (by have := HY.out; omega))
  rw [← HS.out] at C3
  rw [← HR.out] at C4
  rw [← HE.out]
  clear HS HR HE HX HY
  have hl : key.data.toList.length = key.size := by simp
  obtain ⟨kl, HL⟩ : ∃ l, Hid (key.data.toList = l) := ⟨_, Lib.hid rfl⟩
  rw [HL.out] at hl HA HB
  have HLS := Lib.hid hl; clear hl
  have hk0 : (0 : Int) ≤ (key.size : Int) := by omega
  have hk1 : (key.size : Int) ≤ 64 := by omega
  have HT5 : Hid ((turnL kl 54).length = 64) := by show _ = _; exact turnL_length _ _ (by rw [HLS.out]; exact hk)
  have HT6 : Hid ((turnL kl 92).length = 64) := by show _ = _; exact turnL_length _ _ (by rw [HLS.out]; exact hk)
  go_enter Try.func20, Try.ntmps20
  go_wp2
  go_loopw [5, 6, 7] (fun v5 v6 i wr => ∃ k : Nat, k ≤ 64 ∧ i = .int .i64 k ∧ OwnB wr w.heap.size v5 ((turnL kl 54).take k) ∧ OwnB wr w.heap.size v6 ((turnL kl 92).take k) ∧ (∀ b, v6.ownBlock = some b → v5.ownBlock ≠ some b) ∧ Below w.heap.size w wr) (fun _ _ i _ => 64 - (intOf i).toNat)
  case atStart => exact ⟨0, by omega, rfl, OwnB.nil _ _, OwnB.nil _ _, fun b hb => by simp [Value.ownBlock] at hb, Below.refl _ _⟩
  case round =>
    obtain ⟨k, hk', rfl, h5, h6, hne, hnx⟩ := hrel
    have hsz := hnx.size
    by_cases hlt : k < 64
    · have HK64 : Hid (kl.length ≤ 64) := by show _ ≤ _; rw [HLS.out]; exact hk
      by_cases hin : k < key.size
      · obtain ⟨c, HC⟩ : ∃ c, Hid (kl.getD k 0 = c) := ⟨_, Lib.hid rfl⟩
        have hsk : key[k] = c := by
          rw [← HC.out, ← HL.out, List.getD_eq_getElem?_getD, List.getElem?_eq_getElem (by simpa using hin), Option.getD_some]
          rfl
        have HCK : Hid ((keyL kl).getD k 0 = c) := by
          show _ = _
          rw [keyL_in _ _ (by rw [HLS.out]; exact hin)]
          exact HC.out
        refine hide_post fun R' HR' => ?_
        go_wp2_with (at_builtin; refine wpList_append_B2 _ rfl _ _ rfl w.heap.size _ _ rfl (h5.alloc _) ⟨wr.heap.size, 0, none⟩ 1 1 [xorB c 54] rfl rfl (news_one _ _ _ ?a1) ?a2 ?a3 ?_)
        case a1 => exact (xorB_val _ _).symm
        case a2 => rw [List.length_take]; omega
        case a3 => simp; omega
        intro v5' w1 h5' hg1 hor1
        have h6' := (h6.alloc (.cells #[.int .u8 (bits .xor .u8 (c.toNat : Int) 54)] 5)).grown hg1 hne
        have hb1 := (hnx.alloc hsz (.cells #[.int .u8 (bits .xor .u8 (c.toNat : Int) 54)] 5)).grown hg1 (by simp; omega) (fun j hj => (h5.lt j hj).1)
        have hne1 : ∀ b, u6.ownBlock = some b → v5'.ownBlock ≠ some b := by
          intro b hb hb'
          rcases hor1 with h | h
          · exact hne b hb (by rw [← h]; exact hb')
          · have e1 := (h.lt b hb').1
            have e2 := (h6.lt b hb).2
            try simp at e1
            omega
        have hsz1 := hb1.size
        clear hor1 hg1
        go_wp2_with (at_builtin; refine wpList_append_B2 _ rfl _ _ rfl w.heap.size _ _ rfl (h6'.alloc _) ⟨w1.heap.size, 0, none⟩ 1 1 [xorB c 92] rfl rfl (news_one _ _ _ ?b1) ?b2 ?b3 ?_)
        case b1 => exact (xorB_val _ _).symm
        case b2 => rw [List.length_take]; omega
        case b3 => simp; omega
        intro v6' w2 h6'' hg2 hor2
        go_wp2
        obtain rfl := HR'.out
        go_roundw
        case rel =>
          refine ⟨k + 1, by omega, by go_num, ?_, ?_, ?_, (hb1.alloc hsz1 _).grown hg2 (by simp; omega) (fun j hj => (h6'.lt j hj).1)⟩
          · rw [turnL_take kl 54 HK64.out k hlt, HCK.out]
            exact (h5'.alloc _).grown hg2 (fun b hb hb' => hne1 b hb' hb)
          · rw [turnL_take kl 92 HK64.out k hlt, HCK.out]
            exact h6''
          · intro b hb hb'
            rcases hor2 with h | h
            · exact hne1 b (by rw [← h]; exact hb) hb'
            · have e1 := (h.lt b hb).1
              have e2 := (h5'.lt b hb').2
              try simp at e1
              omega
        case measure => simp [intOf]; omega
      · have HCK : Hid ((keyL kl).getD k 0 = 0) := by
          show _ = _
          exact keyL_out _ _ (by rw [HLS.out]; exact hin)
        refine hide_post fun R' HR' => ?_
        go_wp2_with (at_builtin; refine wpList_append_B2 _ rfl _ _ rfl w.heap.size _ _ rfl (h5.alloc _) ⟨wr.heap.size, 0, none⟩ 1 1 [xorB 0 54] rfl rfl (news_one _ _ _ ?a1) ?a2 ?a3 ?_)
        case a1 => exact (xorB_val 0 _).symm
        case a2 => rw [List.length_take]; omega
        case a3 => simp; omega
        intro v5' w1 h5' hg1 hor1
        have h6' := (h6.alloc (.cells #[.int .u8 (bits .xor .u8 0 54)] 5)).grown hg1 hne
        have hb1 := (hnx.alloc hsz (.cells #[.int .u8 (bits .xor .u8 0 54)] 5)).grown hg1 (by simp; omega) (fun j hj => (h5.lt j hj).1)
        have hne1 : ∀ b, u6.ownBlock = some b → v5'.ownBlock ≠ some b := by
          intro b hb hb'
          rcases hor1 with h | h
          · exact hne b hb (by rw [← h]; exact hb')
          · have e1 := (h.lt b hb').1
            have e2 := (h6.lt b hb).2
            try simp at e1
            omega
        have hsz1 := hb1.size
        clear hor1 hg1
        go_wp2_with (at_builtin; refine wpList_append_B2 _ rfl _ _ rfl w.heap.size _ _ rfl (h6'.alloc _) ⟨w1.heap.size, 0, none⟩ 1 1 [xorB 0 92] rfl rfl (news_one _ _ _ ?b1) ?b2 ?b3 ?_)
        case b1 => exact (xorB_val 0 _).symm
        case b2 => rw [List.length_take]; omega
        case b3 => simp; omega
        intro v6' w2 h6'' hg2 hor2
        go_wp2
        obtain rfl := HR'.out
        go_roundw
        case rel =>
          refine ⟨k + 1, by omega, by go_num, ?_, ?_, ?_, (hb1.alloc hsz1 _).grown hg2 (by simp; omega) (fun j hj => (h6'.lt j hj).1)⟩
          · rw [turnL_take kl 54 HK64.out k hlt, HCK.out]
            exact (h5'.alloc _).grown hg2 (fun b hb hb' => hne1 b hb' hb)
          · rw [turnL_take kl 92 HK64.out k hlt, HCK.out]
            exact h6''
          · intro b hb hb'
            rcases hor2 with h | h
            · exact hne1 b (by rw [← h]; exact hb) hb'
            · have e1 := (h.lt b hb).1
              have e2 := (h5'.lt b hb').2
              try simp at e1
              omega
        case measure => simp [intOf]; omega
    · obtain rfl : k = 64 := by omega
      clear hlt hk' hne
      rw [List.take_of_length_le (by rw [HT5.out]; exact Nat.le_refl _)] at h5
      rw [List.take_of_length_le (by rw [HT6.out]; exact Nat.le_refl _)] at h6
      have hc5 : ∀ x : Later wr, (convert 28 9 u5).run Try.prog x.val = .ok (.string B) x.val := fun x => by
        rw [HB.out]; exact run_string_B x.val _ _ _ (h5.below x.property)
      have hc6 : ∀ x : Later wr, (convert 28 9 u6).run Try.prog x.val = .ok (.string A) x.val := fun x => by
        rw [HA.out]; exact run_string_B x.val _ _ _ (h6.below x.property)
      clear h5 h6
      refine hide_post fun R' HR' => ?_
      go_wp2
      refine wp_region_quiet (C := fun w' => ∃ x : Later wr, w' = x.val) (by kernel_rfl) (by kernel_rfl) (later_drew wr) ?_
      dsimp only
      repeat (first | go_big_quiet_step (first | with_reducible exact calls_later _ (C3.out _) | with_reducible exact calls_later _ (C4.out _)) | quiet_step (fail))
      refine wpQuiet_nil ?_
      intro w2 hx
      have hw2 : Below wr.heap.size wr w2 := by
        obtain ⟨x, rfl⟩ := hx
        exact x.property
      clear hx
      have hb2 := hnx.trans (hw2.mono hnx.size)
      go_wp2
      obtain rfl := HR'.out
      go_ret
      exact ⟨rfl, hb2⟩

theorem refMac_any (key text : ByteArray) (w : World) (hk : key.size ≤ 140737488355000) (ht : text.size ≤ 140737488354900) :
    Calls Try.prog 20 #[.string key, .string text] w fun e w' => e = .returned (.string (strOf (hmac key.data.toList text.data.toList))) ∧ Below w.heap.size w w' := by
  by_cases h64 : key.size ≤ 64
  · have e : hmac key.data.toList text.data.toList = hmacOf key.data.toList text.data.toList := by
      unfold hmac hkey
      rw [if_neg (by simp; omega)]
    rw [e]
    exact refMac_short key text w h64 ht
  have hKs : (strOf (sha key.data.toList)).size ≤ 64 := by rw [strOf_size, sha_length]; omega
  have e : hmac key.data.toList text.data.toList = hmacOf (strOf (sha key.data.toList)).data.toList text.data.toList := by
    unfold hmac hkey
    rw [if_pos (by simp; omega)]
    rfl
  rw [e]
  clear e
  have C0 := Lib.hid (fun w => refSum_any key w hk)
  obtain ⟨kk, HK⟩ : ∃ kk, Hid (strOf (sha key.data.toList) = kk) := ⟨_, Lib.hid rfl⟩
  rw [HK.out] at C0 hKs ⊢
  obtain ⟨A, B, X, S, Y, R, HA, HB, s1, s2, s3, s4, s5, s6, HX, HY, HS, HR, HE⟩ := mac_parts kk text hKs ht
  have C3 := Lib.hid (fun w => refSum_any X w (by have := HX.out; omega))
  have C4 := Lib.hid (fun w => refSum_any Y w (by have := HY.out; omega))
  rw [← HS.out] at C3
  rw [← HR.out] at C4
  rw [← HE.out]
  clear HS HR HE HX HY
  have hl : kk.data.toList.length = kk.size := by simp
  obtain ⟨kl, HL⟩ : ∃ l, Hid (kk.data.toList = l) := ⟨_, Lib.hid rfl⟩
  rw [HL.out] at hl HA HB
  have HLS := Lib.hid hl; clear hl
  have hk0 : (0 : Int) ≤ (kk.size : Int) := by omega
  have hk1 : (kk.size : Int) ≤ 64 := by omega
  have HT5 : Hid ((turnL kl 54).length = 64) := by show _ = _; exact turnL_length _ _ (by rw [HLS.out]; exact hKs)
  have HT6 : Hid ((turnL kl 92).length = 64) := by show _ = _; exact turnL_length _ _ (by rw [HLS.out]; exact hKs)
  have hk2 : 64 < (key.size : Int) := by omega
  go_enter Try.func20, Try.ntmps20
  go_wp2_with fail
  refine (C0.out _).mono ?_
  rintro e w0 ⟨rfl, hb0⟩
  go_wp2
  go_loopw [5, 6, 7] (fun v5 v6 i wr => ∃ k : Nat, k ≤ 64 ∧ i = .int .i64 k ∧ OwnB wr w.heap.size v5 ((turnL kl 54).take k) ∧ OwnB wr w.heap.size v6 ((turnL kl 92).take k) ∧ (∀ b, v6.ownBlock = some b → v5.ownBlock ≠ some b) ∧ Below w.heap.size w wr) (fun _ _ i _ => 64 - (intOf i).toNat)
  case atStart => exact ⟨0, by omega, rfl, OwnB.nil _ _, OwnB.nil _ _, fun b hb => by simp [Value.ownBlock] at hb, hb0⟩
  case round =>
    clear hb0
    obtain ⟨k, hk', rfl, h5, h6, hne, hnx⟩ := hrel
    have hsz := hnx.size
    by_cases hlt : k < 64
    · have HK64 : Hid (kl.length ≤ 64) := by show _ ≤ _; rw [HLS.out]; exact hKs
      by_cases hin : k < kk.size
      · obtain ⟨c, HC⟩ : ∃ c, Hid (kl.getD k 0 = c) := ⟨_, Lib.hid rfl⟩
        have hsk : kk[k] = c := by
          rw [← HC.out, ← HL.out, List.getD_eq_getElem?_getD, List.getElem?_eq_getElem (by simpa using hin), Option.getD_some]
          rfl
        have HCK : Hid ((keyL kl).getD k 0 = c) := by
          show _ = _
          rw [keyL_in _ _ (by rw [HLS.out]; exact hin)]
          exact HC.out
        refine hide_post fun R' HR' => ?_
        go_wp2_with (at_builtin; refine wpList_append_B2 _ rfl _ _ rfl w.heap.size _ _ rfl (h5.alloc _) ⟨wr.heap.size, 0, none⟩ 1 1 [xorB c 54] rfl rfl (news_one _ _ _ ?a1) ?a2 ?a3 ?_)
        case a1 => exact (xorB_val _ _).symm
        case a2 => rw [List.length_take]; omega
        case a3 => simp; omega
        intro v5' w1 h5' hg1 hor1
        have h6' := (h6.alloc (.cells #[.int .u8 (bits .xor .u8 (c.toNat : Int) 54)] 5)).grown hg1 hne
        have hb1 := (hnx.alloc hsz (.cells #[.int .u8 (bits .xor .u8 (c.toNat : Int) 54)] 5)).grown hg1 (by simp; omega) (fun j hj => (h5.lt j hj).1)
        have hne1 : ∀ b, u6.ownBlock = some b → v5'.ownBlock ≠ some b := by
          intro b hb hb'
          rcases hor1 with h | h
          · exact hne b hb (by rw [← h]; exact hb')
          · have e1 := (h.lt b hb').1
            have e2 := (h6.lt b hb).2
            try simp at e1
            omega
        have hsz1 := hb1.size
        clear hor1 hg1
        go_wp2_with (at_builtin; refine wpList_append_B2 _ rfl _ _ rfl w.heap.size _ _ rfl (h6'.alloc _) ⟨w1.heap.size, 0, none⟩ 1 1 [xorB c 92] rfl rfl (news_one _ _ _ ?b1) ?b2 ?b3 ?_)
        case b1 => exact (xorB_val _ _).symm
        case b2 => rw [List.length_take]; omega
        case b3 => simp; omega
        intro v6' w2 h6'' hg2 hor2
        go_wp2
        obtain rfl := HR'.out
        go_roundw
        case rel =>
          refine ⟨k + 1, by omega, by go_num, ?_, ?_, ?_, (hb1.alloc hsz1 _).grown hg2 (by simp; omega) (fun j hj => (h6'.lt j hj).1)⟩
          · rw [turnL_take kl 54 HK64.out k hlt, HCK.out]
            exact (h5'.alloc _).grown hg2 (fun b hb hb' => hne1 b hb' hb)
          · rw [turnL_take kl 92 HK64.out k hlt, HCK.out]
            exact h6''
          · intro b hb hb'
            rcases hor2 with h | h
            · exact hne1 b (by rw [← h]; exact hb) hb'
            · have e1 := (h.lt b hb).1
              have e2 := (h5'.lt b hb').2
              try simp at e1
              omega
        case measure => simp [intOf]; omega
      · have HCK : Hid ((keyL kl).getD k 0 = 0) := by
          show _ = _
          exact keyL_out _ _ (by rw [HLS.out]; exact hin)
        refine hide_post fun R' HR' => ?_
        go_wp2_with (at_builtin; refine wpList_append_B2 _ rfl _ _ rfl w.heap.size _ _ rfl (h5.alloc _) ⟨wr.heap.size, 0, none⟩ 1 1 [xorB 0 54] rfl rfl (news_one _ _ _ ?a1) ?a2 ?a3 ?_)
        case a1 => exact (xorB_val 0 _).symm
        case a2 => rw [List.length_take]; omega
        case a3 => simp; omega
        intro v5' w1 h5' hg1 hor1
        have h6' := (h6.alloc (.cells #[.int .u8 (bits .xor .u8 0 54)] 5)).grown hg1 hne
        have hb1 := (hnx.alloc hsz (.cells #[.int .u8 (bits .xor .u8 0 54)] 5)).grown hg1 (by simp; omega) (fun j hj => (h5.lt j hj).1)
        have hne1 : ∀ b, u6.ownBlock = some b → v5'.ownBlock ≠ some b := by
          intro b hb hb'
          rcases hor1 with h | h
          · exact hne b hb (by rw [← h]; exact hb')
          · have e1 := (h.lt b hb').1
            have e2 := (h6.lt b hb).2
            try simp at e1
            omega
        have hsz1 := hb1.size
        clear hor1 hg1
        go_wp2_with (at_builtin; refine wpList_append_B2 _ rfl _ _ rfl w.heap.size _ _ rfl (h6'.alloc _) ⟨w1.heap.size, 0, none⟩ 1 1 [xorB 0 92] rfl rfl (news_one _ _ _ ?b1) ?b2 ?b3 ?_)
        case b1 => exact (xorB_val 0 _).symm
        case b2 => rw [List.length_take]; omega
        case b3 => simp; omega
        intro v6' w2 h6'' hg2 hor2
        go_wp2
        obtain rfl := HR'.out
        go_roundw
        case rel =>
          refine ⟨k + 1, by omega, by go_num, ?_, ?_, ?_, (hb1.alloc hsz1 _).grown hg2 (by simp; omega) (fun j hj => (h6'.lt j hj).1)⟩
          · rw [turnL_take kl 54 HK64.out k hlt, HCK.out]
            exact (h5'.alloc _).grown hg2 (fun b hb hb' => hne1 b hb' hb)
          · rw [turnL_take kl 92 HK64.out k hlt, HCK.out]
            exact h6''
          · intro b hb hb'
            rcases hor2 with h | h
            · exact hne1 b (by rw [← h]; exact hb) hb'
            · have e1 := (h.lt b hb).1
              have e2 := (h5'.lt b hb').2
              try simp at e1
              omega
        case measure => simp [intOf]; omega
    · obtain rfl : k = 64 := by omega
      clear hlt hk' hne
      rw [List.take_of_length_le (by rw [HT5.out]; exact Nat.le_refl _)] at h5
      rw [List.take_of_length_le (by rw [HT6.out]; exact Nat.le_refl _)] at h6
      have hc5 : ∀ x : Later wr, (convert 28 9 u5).run Try.prog x.val = .ok (.string B) x.val := fun x => by
        rw [HB.out]; exact run_string_B x.val _ _ _ (h5.below x.property)
      have hc6 : ∀ x : Later wr, (convert 28 9 u6).run Try.prog x.val = .ok (.string A) x.val := fun x => by
        rw [HA.out]; exact run_string_B x.val _ _ _ (h6.below x.property)
      clear h5 h6
      refine hide_post fun R' HR' => ?_
      go_wp2
      refine wp_region_quiet (C := fun w' => ∃ x : Later wr, w' = x.val) (by kernel_rfl) (by kernel_rfl) (later_drew wr) ?_
      dsimp only
      repeat (first | go_big_quiet_step (first | with_reducible exact calls_later _ (C3.out _) | with_reducible exact calls_later _ (C4.out _)) | quiet_step (fail))
      refine wpQuiet_nil ?_
      intro w2 hx
      have hw2 : Below wr.heap.size wr w2 := by
        obtain ⟨x, rfl⟩ := hx
        exact x.property
      clear hx
      have hb2 := hnx.trans (hw2.mono hnx.size)
      go_wp2
      obtain rfl := HR'.out
      go_ret
      exact ⟨rfl, hb2⟩
end Go.Proofs.Ytlpdbkhpchmpmaa
