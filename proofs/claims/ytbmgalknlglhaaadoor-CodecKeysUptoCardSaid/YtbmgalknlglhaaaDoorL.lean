/-
  The reference's Key.
-/
import Derived.Test.YtbmgalknlglhaaaDoorK
import Derived.Deep.RegionHeld3
namespace Go.Proofs.YtbmgalknlglhaaaDoor
open Go.RowKit
set_option linter.unusedVariables false
set_option maxRecDepth 100000
set_option maxHeartbeats 2000000

theorem esc_take (l : List UInt8) (j : Nat) (h : j < l.length) : esc (l.take (j + 1)) = esc (l.take j) ++ (if l.getD j 0 = 0 then [0, 255] else [l.getD j 0]) := by
  rw [List.take_succ_eq_append_getElem h, esc_append, esc_cons, esc_nil, List.append_nil]
  simp [List.getD_eq_getElem?_getD, List.getElem?_eq_getElem h]

theorem news_at (w : World) (n : Nat) (hn : w.heap.size = n) (c : UInt8) (x : Int) (h : Value.int .u8 x = .int .u8 (c.toNat : Int)) : ∀ j u, (bcells [c])[j]? = some u → (w.alloc (.cells #[.int .u8 x] 5)).cell? ((⟨n, 0, none⟩ : Addr).add j) = some u := by
  subst hn
  exact news_one w c x h

/-- append(b, s...) at a step of a region that draws its order. -/
theorem step_app_str {w : World} {ops : Array Oper} {o : Oper} {a : Act} {K : Act → World → Prop} {Q : Exit → Act → World → Prop} {E : Prop} (hgd : o.guard = none) (s x : Operand)
    (ho : o.op = .call { callee := .builtin .append, args := #[s, x], argTypes := #[47, 9] })
    (B : Nat) (v : Value) (n : Nat) (xs : List Value) (hs : a.eval s = v) (hown : w.ownsRow B 5 1 v n xs)
    (t : ByteArray) (hx : a.eval x = .string t) (hlen : n + t.size ≤ 1099511627776) (hB : B ≤ w.heap.size)
    (h : ∀ v' w', w'.ownsRow B 5 1 v' (n + t.size) (xs ++ Lib.strCells t) → w.grownBy w' v.ownBlock → K (a.put o.dst v') w') : if Region.wanted o (yielded ops a.tmps) = true then Oper.wp Tryd.prog o a w K Q else E := by
  obtain ⟨i0, hi, hz0, hz1, hz2⟩ := info_parts (show (Tryd.prog.info? 5).map (fun i => (i.zero, i.size, i.bytes)) = some (some (.int .u8 0), 1, 1) by kernel_rfl)
  have hw : Region.wanted o (yielded ops a.tmps) = true := by simp [Region.wanted, hgd]
  rw [if_pos hw]
  obtain ⟨v', w', hr, h2, h3, h4⟩ := Lib.run_append_own_string (P := Tryd.prog) w B 47 9 o.type 5 i0 Tryd.underlying47 Tryd.underlying9 hi hz0 hz1 hz2 v n xs hown t (by unfold maxLen; omega) (by omega) hB
  unfold Oper.wp execOp
  simp only [ho, resolve, invoke, builtin, Sem.run_bind, Sem.run_pure, Result.andThen_ok, List.map_toArray, List.map_cons, List.map_nil, hs, hx, hr]
  exact h _ _ h2 h3

theorem refKey_any (pa : Option Addr) (cap : Nat) (ps : List Pt) (w : World) (hp : PartsAt w w.heap.size pa ps) (hT : sumT ps ≤ 2097152) (hl : ps.length ≤ 2097152)
    (hn : ∀ p ∈ ps, p.n < 18446744073709551616) :
    Calls Tryd.prog 8 #[.slice pa ps.length cap] w fun e w' => e = .returned (.tuple #[.string (strOf (keyL ps).1), .int .i64 (keyL ps).2]) ∧ Below w.heap.size w w' := by
  by_cases h8 : 8 < ps.length
  · have hk : keyL ps = ([], 3) := by unfold keyL; rw [if_pos h8]
    rw [hk]
    have e1 : (8 : Int) < (ps.length : Int) := by omega
    go_enter Tryd.func8, Tryd.ntmps8
    go_wp2
    go_ret2
    exact ⟨rfl, Below.refl _ _⟩
  · have hl8 : ps.length ≤ 8 := by omega
    obtain ⟨L, HL⟩ : ∃ L, Hid (ps.length = L) := ⟨_, Lib.hid rfl⟩
    have HP := Lib.hid hp; clear hp
    have HT := Lib.hid hT; clear hT
    have HN := Lib.hid hn; clear hn
    have HK : Hid (keyL ps = if ps.any bad then ([], 1) else (encs ps, 0)) := by show _ = _; unfold keyL; rw [if_neg h8]
    obtain ⟨K, E, HKE⟩ : ∃ K E, Hid (keyL ps = (K, E)) := ⟨_, _, Lib.hid rfl⟩
    rw [HKE.out] at HK ⊢
    rw [HL.out] at hl8 ⊢
    have l0 : (0 : Int) ≤ (L : Int) := by omega
    have l1 : (L : Int) ≤ 8 := by omega
    have l2 : ¬ (8 : Int) < (L : Int) := by omega
    clear h8 hl
    go_enter Tryd.func8, Tryd.ntmps8
    go_wp2
    go_loopw [4, 13] (fun v i wr => ∃ (k : Nat), k ≤ L ∧ i = .int .i64 k ∧ Hid ((ps.take k).any bad = false) ∧ Hid (RowB wr w.heap.size v (encs (ps.take k))) ∧ Below w.heap.size w wr) (fun _ i _ => L - (intOf i).toNat)
    case atStart => exact ⟨0, by omega, rfl, Lib.hid rfl, by unfold encs; exact RowB.nil _ _, Below.refl _ _⟩
    case round =>
      obtain ⟨k, hk, rfl, HA, HB, hnx⟩ := hrel
      have hsz := hnx.size
      by_cases hlt : k < L
      · have hkl : k < ps.length := by rw [HL.out]; exact hlt
        obtain ⟨a, rfl, hab, c0, c1, c2⟩ := HP.out k hkl
        have hbad := any_at ps k hkl
        have htk := Lib.hid (encs_take ps k hkl)
        have hanyk := any_take ps k hkl
        have hTk := Nat.le_trans (sumT_get ps k hkl) HT.out
        have hnk : (ps.getD k default).n < 18446744073709551616 := HN.out _ (by rw [List.getD_eq_getElem?_getD, List.getElem?_eq_getElem hkl]; exact List.getElem_mem hkl)
        have HLEN : Hid ((encs (ps.take k)).length ≤ 4194376) := by
          show _ ≤ _
          have h1 := encs_length (ps.take k)
          have h2 := sumT_take ps k
          have h3 := HT.out
          have h4 := HL.out
          rw [List.length_take] at h1
          omega
        obtain ⟨p, HPT⟩ : ∃ p, Hid (ps.getD k default = p) := ⟨_, Lib.hid rfl⟩
        rw [HPT.out] at c0 c1 c2 hbad htk hanyk hTk hnk
        clear hkl
        have d0 : wr.cell? (a.add (k * 3)) = some (.string p.t) := by rw [← c0]; exact World.cell?_of_block (by rw [addb]; exact hnx.block _ hab)
        have d1 : wr.cell? ⟨(a.add (k * 3)).block, (a.add (k * 3)).off + 1, none⟩ = some (.int .u64 (p.n : Int)) := by rw [← c1]; exact World.cell?_of_block (by show wr.heap[(a.add (k * 3)).block]? = _; rw [addb]; exact hnx.block _ hab)
        have d2 : wr.cell? ⟨(a.add (k * 3)).block, (a.add (k * 3)).off + 2, none⟩ = some (.bool p.b) := by rw [← c2]; exact World.cell?_of_block (by show wr.heap[(a.add (k * 3)).block]? = _; rw [addb]; exact hnx.block _ hab)
        clear c0 c1 c2
        rcases p with ⟨t, n, b⟩
        dsimp only at d0 d1 d2 hTk hnk
        obtain ⟨l, HLL⟩ : ∃ l, Hid (encs (ps.take k) = l) := ⟨_, Lib.hid rfl⟩
        rw [HLL.out] at HB HLEN htk
        have hnx1 : Below w.heap.size w (wr.alloc (.cells #[.string t, .int .u64 (n : Int), .bool b] 51)) := hnx.alloc hsz _
        have hB1 := Lib.hid (HB.out.alloc (.cells #[.string t, .int .u64 (n : Int), .bool b] 51))
        have hP1 := Blk.new wr 51 #[.string t, .int .u64 (n : Int), .bool b]
        have HNE : Hid (∀ b', u4.ownBlock = some b' → b' ≠ wr.heap.size) := Lib.hid (fun b' h => by have := (HB.out.lt b' h).2; omega)
        have n0 : (0 : Int) ≤ (n : Int) := by omega
        have n1 : (n : Int) < 18446744073709551616 := by omega
        cases b with
        | true =>
          by_cases hts : t.size = 0
          · have ht : t = ⟨#[]⟩ := by
              apply ByteArray.ext
              apply Array.eq_empty_of_size_eq_zero
              exact hts
            subst ht
            have HNB : Hid ((ps.take (k + 1)).any bad = false) := by
              show _ = _
              rw [hanyk, HA.out]
              rfl
            rw [enc_num _ rfl] at htk
            clear hbad hanyk
            obtain ⟨i0, hi, hz0, hz1, hz2⟩ := info_parts (show (Tryd.prog.info? 5).map (fun i => (i.zero, i.size, i.bytes)) = some (some (.int .u8 0), 1, 1) by kernel_rfl)
            obtain ⟨w1, HW1⟩ : ∃ W, Hid (wr.alloc (.cells #[.string ⟨#[]⟩, .int .u64 (n : Int), .bool true] 51) = W) := ⟨_, Lib.hid rfl⟩
            have hsz1 : w1.heap.size = wr.heap.size + 1 := by rw [← HW1.out]; simp
            have HWW := HW1
            rw [HW1.out] at hnx1 hB1 hP1
            have hS1 : w1.cell? ⟨wr.heap.size, 1, none⟩ = some (.int .u64 (n : Int)) := by
              have := hP1.cell 1
              simpa only [List.getElem?_toArray, List.getElem?_cons_succ, List.getElem?_cons_zero] using this
            refine hide_post fun R HR => ?_
            go_wp2
            rw [HWW.out]
            refine wp_region_noPanic ?_
            refine wp_region_held_drew (S := fun w' => w'.cell? ⟨wr.heap.size, 1, none⟩ = some (.int .u64 (n : Int))) (by kernel_rfl) hS1 (fun hHeld => ?_)
            refine wpAnyH_take (i := 0) (v := u4) rfl (by kernel_rfl) (by kernel_rfl) (by kernel_rfl) (fun _ _ _ h => h) (Or.inl ⟨by rfl, ?_⟩) hS1 ?_
            · intro w' _
              go_simp
            try simp only [Act.put, List.setIfInBounds_toArray, List.set_cons_zero, List.set_cons_succ]
            refine wpAnyH_take (i := 3) (v := .pointer (some ⟨wr.heap.size, 1, none⟩)) rfl (by kernel_rfl) (by kernel_rfl) (by kernel_rfl) (fun _ _ _ h => h) (Or.inl ⟨by rfl, ?_⟩) hS1 ?_
            · intro w' _
              go_simp
            try simp only [Act.put, List.setIfInBounds_toArray, List.set_cons_zero, List.set_cons_succ]
            refine wpAnyH_take (i := 4) (v := .int .u64 (n : Int)) rfl (by kernel_rfl) (by kernel_rfl) (by kernel_rfl) (fun _ _ _ h => h) (Or.inl ⟨by rfl, ?_⟩) hS1 ?_
            · intro w' hSw
              go_simp
            try simp only [Act.put, List.setIfInBounds_toArray, List.set_cons_zero, List.set_cons_succ]
            refine wpAnyH_ready (rs := [1]) (by kernel_rfl) (by simp) ?_
            refine AllReadyH.cons rfl (fun K hK => ?_) AllReadyH.nil
            go_simp
            have hrow1 : RowB ((w1.alloc (.cells #[.int .u8 1] 5)).drew) w.heap.size u4 l := (hB1.out.alloc _).drew
            have hnxA : Below w.heap.size w ((w1.alloc (.cells #[.int .u8 1] 5)).drew) := (hnx1.alloc hnx1.size _).drew
            have hszA : ((w1.alloc (.cells #[.int .u8 1] 5)).drew).heap.size = wr.heap.size + 2 := by
              have h : (w1.alloc (.cells #[.int .u8 1] 5)).heap.size = w1.heap.size + 1 := by simp
              exact h.trans (by omega)
            have hS2 : ((w1.alloc (.cells #[.int .u8 1] 5)).drew).cell? ⟨wr.heap.size, 1, none⟩ = some (.int .u64 (n : Int)) :=
              (World.cell?_of_block (w := w1) (a := ⟨wr.heap.size, 1, none⟩) (Lib.alloc_old w1 _ _ (by show wr.heap.size < _; omega))).trans hS1
            refine hK.out _ _ hS2 (fun _ => ?_)
            try simp only [Act.put, List.setIfInBounds_toArray, List.set_cons_zero, List.set_cons_succ]
            refine wpAnyH_ready (rs := [2]) (by kernel_rfl) (by simp) ?_
            refine AllReadyH.cons rfl (fun K hK => ?_) AllReadyH.nil
            refine step_append_lies _ (by rfl) _ _ 47 (by rfl) w.heap.size 5 i0 (.int .u8 0) 1 1 Tryd.underlying47 hi hz0 hz1 hz2 rfl (by decide) u4 _ _ (by rfl) hrow1 ⟨wr.heap.size + 1, 0, none⟩ 1 1 (bcells [1]) (by rfl) rfl (news_at w1 (wr.heap.size + 1) hsz1 1 1 rfl) (bcells_one _) (by decide) (by unfold maxLen; have := HLEN.out; omega) (by have := HLEN.out; omega) hnxA.size (wr.heap.size + 2) hszA ?_
            intro g cap w2 hown2 hgrow2 hat2 hlt2
            have hnx2 : Below w.heap.size w w2 := hnxA.grown hgrow2 hnxA.size (fun j hj => (HB.out.lt j hj).1)
            have hgne : g ≠ wr.heap.size := by
              rcases hat2 with h | h
              · exact HNE.out g h
              · omega
            have hS3 : w2.cell? ⟨wr.heap.size, 1, none⟩ = some (.int .u64 (n : Int)) :=
              (World.cell?_of_block (a := ⟨wr.heap.size, 1, none⟩) (hgrow2.block wr.heap.size (by omega) (fun e => HNE.out _ e.symm rfl))).trans hS2
            clear hgrow2 hat2
            refine hK.out _ _ hS3 (fun _ => ?_)
            try simp only [Act.put, List.setIfInBounds_toArray, List.set_cons_zero, List.set_cons_succ]
            refine wpAnyH_ready (rs := [5]) (by kernel_rfl) (by simp) ?_
            refine AllReadyH.cons rfl (fun K hK => ?_) AllReadyH.nil
            go_simp
            refine (refNumber_any (n : Int) w2 n0 n1).mono ?_
            rintro e w3 ⟨rfl, hb3⟩
            have hS4 : w3.cell? ⟨wr.heap.size, 1, none⟩ = some (.int .u64 (n : Int)) := by
              rw [← hS3]
              exact World.cell?_of_block (hb3.block wr.heap.size (World.block_lt_of_cell? _ _ hS3))
            have hnx3 : Below w.heap.size w w3 := hnx2.trans (hb3.mono hnx2.size)
            have hown3 := row_belowW hown2 hb3
            refine hK.out _ _ hS4 (fun _ => ?_)
            try simp only [Act.put, List.setIfInBounds_toArray, List.set_cons_zero, List.set_cons_succ]
            refine wpAnyH_ready (rs := [6]) (by kernel_rfl) (by simp) ?_
            refine AllReadyH.cons rfl (fun K hK => ?_) AllReadyH.nil
            refine step_app_str (by rfl) _ _ (by rfl) w.heap.size _ _ _ (by rfl) hown3 (strOf (be8 (n : Int))) (by rfl) (by rw [strOf_size, be8_length]; have := HLEN.out; omega) hnx3.size ?_
            intro v4 w4 hown4 hgrow4
            have hnx4 : Below w.heap.size w w4 := hnx3.grown hgrow4 hnx3.size (fun j hj => (hown3.lt j hj).1)
            have hS5 : w4.cell? ⟨wr.heap.size, 1, none⟩ = some (.int .u64 (n : Int)) := by
              rw [← hS4]
              exact World.cell?_of_block (hgrow4.block wr.heap.size (World.block_lt_of_cell? _ _ hS4) (fun e => hgne (by simpa [Value.ownBlock] using e.symm)))
            have hB4 : Hid (RowB w4 w.heap.size v4 (encs (ps.take (k + 1)))) := by
              show RowB _ _ _ _
              unfold RowB
              rw [htk.out]
              have e1 : (l ++ 1 :: be8 (n : Int)).length = l.length + 1 + (strOf (be8 (n : Int))).size := by rw [strOf_size]; simp; omega
              have e2 : bcells (l ++ 1 :: be8 (n : Int)) = bcells l ++ bcells [1] ++ Lib.strCells (strOf (be8 (n : Int))) := by simp [bcells, Lib.strCells, strOf]
              rw [e1, e2]
              exact hown4
            clear hgrow4 hown3 hown4 hown2
            refine hK.out _ _ hS5 (fun _ => ?_)
            try simp only [Act.put, List.setIfInBounds_toArray, List.set_cons_zero, List.set_cons_succ]
            refine wpAnyH_ready (rs := [7]) (by kernel_rfl) (by simp) ?_
            refine AllReadyH.cons rfl (fun K hK => ?_) AllReadyH.nil
            go_simp
            refine hK.out _ _ hS5 (fun _ => ?_)
            refine wpAnyH_done (by kernel_rfl) ?_ _
            refine NoPanic.normal ?_
            clear hS1 hS2 hS3 hS4 hS5
            go_wp2
            obtain rfl := HR.out
            go_roundw
            case rel => exact ⟨k + 1, hlt, by go_num, HNB, hB4, hnx4⟩
            case measure => simp [intOf]; omega
          · have HKB : Hid ((([] : List UInt8), (1 : Int)) = (K, E)) := by
              show _ = _
              rw [HK.out, hbad (by simp [bad, hts]), if_pos rfl]
            obtain ⟨rfl, rfl⟩ : [] = K ∧ (1 : Int) = E := by simpa using HKB.out
            have hne2 : (t.toList == []) = false := by
              rw [ByteArray.toList_eq, Bool.eq_false_iff]
              simp only [ne_eq, beq_iff_eq]
              intro h
              exact hts (by have := congrArg List.length h; simpa using this)
            clear hbad hanyk HKB hts
            refine hide_post fun R HR => ?_
            go_wp2
            obtain rfl := HR.out
            go_ret2
            exact ⟨rfl, hnx1⟩
        | false =>
          by_cases hnz : n = 0
          · subst hnz
            have HNB : Hid ((ps.take (k + 1)).any bad = false) := by
              show _ = _
              rw [hanyk, HA.out]
              rfl
            rw [enc_text _ rfl] at htk
            clear hbad hanyk
            obtain ⟨tl, HTL⟩ : ∃ tl, Hid (t.data.toList = tl) := ⟨_, Lib.hid rfl⟩
            have HTS : Hid (tl.length = t.size) := by show _ = _; rw [← HTL.out]; simp
            rw [HTL.out] at htk
            have t0 : (0 : Int) ≤ (t.size : Int) := by omega
            have t1 : (t.size : Int) ≤ 2097152 := by omega
            refine hide_post fun R HR => ?_
            go_wp2_with (at_builtin; refine wpList_app_bytes _ rfl _ _ rfl w.heap.size _ _ rfl ((HB.out.alloc _).alloc _) ⟨wr.heap.size + 1, 0, none⟩ 1 1 [2] rfl rfl (news_at (wr.alloc _) (wr.heap.size + 1) (by simp) 2 2 rfl) (by decide) ?c2 ?c3 (wr.heap.size + 2) (by simp) ?_)
            case c2 => have := HLEN.out; omega
            case c3 => simp; omega
            intro v1 w1 hv1 hg1 hw1
            have hnx2 : Below w.heap.size w w1 := ((hnx1.alloc hnx1.size _)).grown hg1 (by simp; omega) (fun j hj => (HB.out.lt j hj).1)
            have hP2 : Blk w1 wr.heap.size 51 _ := (hP1.alloc _).grown hg1 (fun e => HNE.out _ e.symm rfl)
            have HNE2 : Hid (∀ b', v1.ownBlock = some b' → b' ≠ wr.heap.size) := Lib.hid (fun b' h => by
              rcases hw1 b' h with h1 | h1
              · exact HNE.out b' h1
              · omega)
            have hpl : wr.heap.size < w1.heap.size := hP2.lt
            clear hg1 hw1
            have HV1 := Lib.hid hv1; clear hv1
            have HP2 := Lib.hid hP2; clear hP2 hP1 hB1 hnx1
            obtain ⟨wo, rfl⟩ : ∃ wo : World, wo = wr := ⟨_, rfl⟩
            have HV1' : Hid (RowB w1 w.heap.size v1 (l ++ 2 :: esc (tl.take 0))) := HV1.out
            go_wp2
            go_loopw [4, 7] (fun v j w2 => ∃ (q : Nat), q ≤ t.size ∧ j = .int .i64 q ∧ Hid (RowB w2 w.heap.size v (l ++ 2 :: esc (tl.take q))) ∧ Hid (Blk w2 wo.heap.size 51 #[.string t, .int .u64 0, .bool false]) ∧ Hid (∀ b', v.ownBlock = some b' → b' ≠ wo.heap.size) ∧ Below w.heap.size w w2) (fun _ j _ => t.size - (intOf j).toNat)
            case atStart => exact ⟨0, by omega, rfl, HV1', HP2, HNE2, hnx2⟩
            case round =>
              clear HV1 HV1' HP2 HNE2 hnx2 hpl
              obtain ⟨q, hq, rfl, HV, HPq, HNq, hnq⟩ := hrel
              have hszq := hnq.size
              have hpl : wo.heap.size < wr.heap.size := HPq.out.lt
              have c0 := HPq.out.cell 0
              simp only [List.getElem?_toArray, List.getElem?_cons_zero] at c0
              have HLQ : Hid ((l ++ 2 :: esc (tl.take q)).length ≤ 8388681) := by
                show _ ≤ _
                have h1 := (esc_length (tl.take q)).2
                have h2 := HLEN.out
                rw [List.length_take, HTS.out] at h1
                rw [List.length_append, List.length_cons]
                omega
              by_cases hqt : q < t.size
              · obtain ⟨c, HC⟩ : ∃ c, Hid (tl.getD q 0 = c) := ⟨_, Lib.hid rfl⟩
                have hsk : t[q] = c := by
                  rw [← HC.out, ← HTL.out, List.getD_eq_getElem?_getD, List.getElem?_eq_getElem (by simpa using hqt), Option.getD_some]
                  rfl
                have HE := Lib.hid (esc_take tl q (by rw [HTS.out]; exact hqt))
                rw [HC.out] at HE
                obtain ⟨x, HX⟩ : ∃ x, Hid (l ++ 2 :: esc (tl.take q) = x) := ⟨_, Lib.hid rfl⟩
                rw [HX.out] at HV HLQ
                by_cases hc : c = 0
                · subst hc
                  have HNX : Hid (l ++ 2 :: esc (tl.take (q + 1)) = x ++ [0] ++ [255]) := by
                    show _ = _
                    rw [HE.out, if_pos rfl, ← HX.out]
                    simp
                  refine hide_post fun R' HR' => ?_
                  go_wp2_with (at_builtin; refine wpList_app_bytes _ rfl _ _ rfl w.heap.size _ _ rfl (HV.out.alloc _) ⟨wr.heap.size, 0, none⟩ 1 1 [0] rfl rfl (news_one _ 0 0 rfl) (by decide) ?c2 ?c3 (wr.heap.size + 1) (by simp) ?_)
                  case c2 => have := HLQ.out; omega
                  case c3 => first | omega | (simp; omega)
                  intro v3 w3 hv3 hg3 hw3
                  have hnx3 : Below w.heap.size w w3 := (hnq.alloc hszq _).grown hg3 (by simp; omega) (fun j hj => (HV.out.lt j hj).1)
                  have hP3 : Blk w3 wo.heap.size 51 _ := (HPq.out.alloc _).grown hg3 (fun e => HNq.out _ e.symm rfl)
                  have HN3 : Hid (∀ b', v3.ownBlock = some b' → b' ≠ wo.heap.size) := Lib.hid (fun b' h => by
                    rcases hw3 b' h with h1 | h1
                    · exact HNq.out b' h1
                    · omega)
                  have e0 := hP3.cell 0
                  simp only [List.getElem?_toArray, List.getElem?_cons_zero] at e0
                  have HV3 := Lib.hid hv3
                  have HP3 := Lib.hid hP3
                  have hsz3 := hnx3.size
                  have hpl3 : wo.heap.size < w3.heap.size := hP3.lt
                  clear hg3 hw3 hv3 hP3 c0 HV HPq HNq
                  go_wp2_with (at_builtin; refine wpList_app_bytes _ rfl _ _ rfl w.heap.size _ _ rfl (HV3.out.alloc _) ⟨w3.heap.size, 0, none⟩ 1 1 [255] rfl rfl (news_one _ 255 255 rfl) (by decide) ?c2 ?c3 (w3.heap.size + 1) (by simp) ?_)
                  case c2 => have := HLQ.out; rw [List.length_append]; simp; omega
                  case c3 => simp; omega
                  intro v4 w4 hv4 hg4 hw4
                  have hnx4 : Below w.heap.size w w4 := (hnx3.alloc hsz3 _).grown hg4 (by simp; omega) (fun j hj => (HV3.out.lt j hj).1)
                  have hP4 : Blk w4 wo.heap.size 51 _ := (HP3.out.alloc _).grown hg4 (fun e => HN3.out _ e.symm rfl)
                  have HN4 : Hid (∀ b', v4.ownBlock = some b' → b' ≠ wo.heap.size) := Lib.hid (fun b' h => by
                    rcases hw4 b' h with h1 | h1
                    · exact HN3.out b' h1
                    · omega)
                  have HV4 : Hid (RowB w4 w.heap.size v4 (l ++ 2 :: esc (tl.take (q + 1)))) := by
                    show RowB _ _ _ _
                    rw [HNX.out, show x ++ [0] ++ [255] = x ++ [0, 255] by simp]
                    exact hv4
                  have HP4 := Lib.hid hP4
                  clear hg4 hw4 hv4 hP4 HV3 HP3 HN3 e0
                  go_wp2
                  obtain rfl := HR'.out
                  go_roundw
                  case rel => exact ⟨q + 1, hqt, by go_num, HV4, HP4, HN4, hnx4⟩
                  case measure => simp [intOf]; omega
                · have HNX : Hid (l ++ 2 :: esc (tl.take (q + 1)) = x ++ [c]) := by
                    show _ = _
                    rw [HE.out, if_neg hc, ← HX.out]
                    simp
                  have hcz : (c.toNat : Int) ≠ 0 := by
                    intro h
                    exact hc (UInt8.toNat_inj.1 (by show c.toNat = 0; omega))
                  have hczb : ((c.toNat : Int) == 0) = false := by simpa using hcz
                  have hczd : decide ((c.toNat : Int) = 0) = false := by simpa using hcz
                  clear hc hcz
                  refine hide_post fun R' HR' => ?_
                  go_wp2_with (at_builtin; refine wpList_app_bytes _ rfl _ _ rfl w.heap.size _ _ rfl (HV.out.alloc _) ⟨wr.heap.size, 0, none⟩ 1 1 [c] rfl rfl (news_one _ c (c.toNat : Int) rfl) (by decide) ?c2 ?c3 (wr.heap.size + 1) (by simp) ?_)
                  case c2 => have := HLQ.out; omega
                  case c3 => simp; omega
                  intro v3 w3 hv3 hg3 hw3
                  have hnx3 : Below w.heap.size w w3 := (hnq.alloc hszq _).grown hg3 (by simp; omega) (fun j hj => (HV.out.lt j hj).1)
                  have hP3 : Blk w3 wo.heap.size 51 _ := (HPq.out.alloc _).grown hg3 (fun e => HNq.out _ e.symm rfl)
                  have HN3 : Hid (∀ b', v3.ownBlock = some b' → b' ≠ wo.heap.size) := Lib.hid (fun b' h => by
                    rcases hw3 b' h with h1 | h1
                    · exact HNq.out b' h1
                    · omega)
                  have e0 := hP3.cell 0
                  simp only [List.getElem?_toArray, List.getElem?_cons_zero] at e0
                  have HV3 : Hid (RowB w3 w.heap.size v3 (l ++ 2 :: esc (tl.take (q + 1)))) := by
                    show RowB _ _ _ _
                    rw [HNX.out]
                    exact hv3
                  have HP3 := Lib.hid hP3
                  have hpl3 : wo.heap.size < w3.heap.size := hP3.lt
                  clear hg3 hw3 hv3 hP3 c0 HV HPq HNq
                  go_wp2
                  obtain rfl := HR'.out
                  go_roundw
                  case rel => exact ⟨q + 1, hqt, by go_num, HV3, HP3, HN3, hnx3⟩
                  case measure => simp [intOf]; omega
              · obtain rfl : q = t.size := by omega
                have HTT : Hid (tl.take t.size = tl) := by show _ = _; rw [← HTS.out, List.take_length]
                rw [HTT.out] at HV HLQ
                obtain ⟨x, HX⟩ : ∃ x, Hid (l ++ 2 :: esc tl = x) := ⟨_, Lib.hid rfl⟩
                rw [HX.out] at HV HLQ
                refine hide_post fun R' HR' => ?_
                go_wp2_with (at_builtin; refine wpList_app_bytes _ rfl _ _ rfl w.heap.size _ _ rfl (HV.out.alloc _) ⟨wr.heap.size, 0, none⟩ 1 1 [0] rfl rfl (news_one _ 0 0 rfl) (by decide) ?c2 ?c3 (wr.heap.size + 1) (by simp) ?_)
                case c2 => have := HLQ.out; omega
                case c3 => simp; omega
                intro v3 w3 hv3 hg3 hw3
                have hnx3 : Below w.heap.size w w3 := (hnq.alloc hszq _).grown hg3 (by simp; omega) (fun j hj => (HV.out.lt j hj).1)
                have HV3 : Hid (RowB w3 w.heap.size v3 (encs (ps.take (k + 1)))) := by
                  show RowB _ _ _ _
                  have e : encs (ps.take (k + 1)) = x ++ [0] := by
                    rw [htk.out, ← HX.out]
                    simp
                  rw [e]
                  exact hv3
                clear hg3 hw3 hv3 HV HPq HNq
                go_wp2
                obtain rfl := HR'.out
                obtain rfl := HR.out
                go_roundw
                case rel => exact ⟨k + 1, hlt, by go_num, HNB, HV3, hnx3⟩
                case measure => simp [intOf]; omega
          · have HKB : Hid ((([] : List UInt8), (1 : Int)) = (K, E)) := by
              show _ = _
              rw [HK.out, hbad (by simp [bad, hnz]), if_pos rfl]
            obtain ⟨rfl, rfl⟩ : [] = K ∧ (1 : Int) = E := by simpa using HKB.out
            have hnzI : ((n : Int) != 0) = true := by rw [bne_iff_ne]; omega
            have hnzD : decide ((n : Int) = 0) = false := by rw [decide_eq_false_iff_not]; omega
            clear hbad hanyk HKB
            refine hide_post fun R HR => ?_
            go_wp2
            obtain rfl := HR.out
            go_ret2
            exact ⟨rfl, hnx1⟩
      · obtain rfl : k = L := by omega
        have HTL : Hid (ps.take k = ps) := by show _ = _; rw [← HL.out, List.take_length]
        rw [HTL.out] at HA HB
        rw [HA.out] at HK
        have HE : Hid ((encs ps, (0 : Int)) = (K, E)) := HK.out.symm
        obtain ⟨rfl, rfl⟩ : encs ps = K ∧ (0 : Int) = E := by simpa using HE.out
        obtain ⟨O, HO⟩ : ∃ O, Hid (encs ps = O) := ⟨_, Lib.hid rfl⟩
        rw [HO.out] at HB
        obtain ⟨p1, cap1, rfl⟩ := HB.out.form
        have hconv := run_string_R wr _ _ _ HB.out
        refine hide_post fun R HR => ?_
        go_wp2
        obtain rfl := HR.out
        go_ret2
        refine ⟨?_, hnx⟩
        rw [HO.out]
        rfl
end Go.Proofs.YtbmgalknlglhaaaDoor
