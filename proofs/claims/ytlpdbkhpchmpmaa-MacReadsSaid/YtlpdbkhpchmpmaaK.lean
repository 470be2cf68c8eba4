/-
  The walk of Write: whatever is written stands behind what was; nothing else that was there turns.
-/
import Derived.Test.YtlpdbkhpchmpmaaJ

namespace Go.Proofs.Ytlpdbkhpchmpmaa
open Go.RowKit
set_option linter.unusedVariables false
def strLen : Value → Nat
  | .string s => s.size
  | _ => 0
theorem wpList_copy_run {P : Program} (w : World) {ops : Array Oper} {rest : List Oper} {o : Oper} {a : Act} {Q : Exit → Act → World → Prop} (hgd : o.guard = none) (d s : Operand) (t t' : TypeId)
    (ho : o.op = .call { callee := .builtin .copy, args := #[d, s], argTypes := #[t, t'] }) (v u : Value) (hd : a.eval d = v) (hs : a.eval s = u) (v' : Value) (w' : World)
    (hr : (Builtin.copy_ #[t, t'] o.type #[v, u]).run P w = .ok v' w') (h : wpList P ops Q rest (a.put o.dst v') w') : wpList P ops Q (o :: rest) a w :=
  wpList_plain hgd fun _ hK => by
    unfold Oper.wp execOp
    simp only [ho, resolve, invoke, builtin, Sem.run_bind, Sem.run_pure, Result.andThen_ok, List.map_toArray, List.map_cons, List.map_nil, hd, hs, hr]
    exact hK _ _ h

set_option maxRecDepth 100000
set_option maxHeartbeats 4000000
theorem Write_any (g : Nat) (l : List UInt8) (s : ByteArray) (w : World) (h : IsH w g l) (hlen : l.length + s.size ≤ 9223372036854775807) :
    Calls Try.prog 16 #[.pointer (some ⟨g, 0, none⟩), .string s] w fun e w' => e = .returned (.tuple #[]) ∧ IsH w' g (l ++ s.data.toList) ∧ w.grownBy w' (some g) := by
  obtain ⟨rs, hr, hb⟩ := h
  have hst := stN_length l (l.length / 64)
  have c74 := hb.cell 74
  rw [hcells_made _ _ _ _ hst hr.1] at c74
  have c73 := hb.cell 73
  rw [hcells_all _ _ _ _ hst hr.1] at c73
  have f73 := hb.frozen 73
  have HST := Lib.hid hst; clear hst
  have HR := Lib.hid hr; clear hr
  obtain ⟨T, HT⟩ : ∃ T, Hid (l ++ s.data.toList = T) := ⟨_, Lib.hid rfl⟩
  have HTL : Hid (T.length = l.length + s.size) := by show T.length = _; rw [← HT.out]; simp
  rw [HT.out]
  go_enter Try.func16, Try.ntmps16
  go_wp2_with (go_at_call 37; refine (start_any g _ c74).mono ?_; rintro e w' ⟨rfl, rfl⟩)
  go_loopw [1] (fun v wr => ∃ (s' : ByteArray) (l' : List UInt8), v = .string s' ∧ Hid (l' ++ s'.data.toList = T) ∧ HB wr g l' T.length ∧ w.grownBy wr (some g)) (fun v _ => strLen v)
  case atStart =>
    refine ⟨s, l, rfl, HT, ⟨rs, HR.out, ?_⟩, grown_setCell (World.grownBy.refl w _) (.inl rfl) _⟩
    have := hb.set_ 73 (.int .i64 ((T.length : Nat) : Int))
    rw [hcells_set_all _ _ _ _ _ HST.out HR.out.1] at this
    rw [HTL.out] at this ⊢
    simpa using this
  case round =>
    clear hb c74 c73 f73 HR HST
    obtain ⟨s', l', rfl, HL, ⟨rs1, hr1, hb⟩, hnx⟩ := hrel
    have hst := stN_length l' (l'.length / 64)
    have c72 := hb.cell 72
    rw [hcells_n _ _ _ _ hst hr1.1] at c72
    have f72 := hb.frozen 72
    by_cases he : s'.size = 0
    · have e0 : s'.data.toList = [] := List.length_eq_zero_iff.1 (by simpa using he)
      have e1 : s'.toList = [] := by rw [ByteArray.toList_eq]; exact e0
      have HE := Lib.hid e0; clear e0 he
      refine hide_post fun R HR => ?_
      go_wp2
      go_end0
      refine ⟨rfl, ?_, hnx⟩
      have e : l' = T := by
        have := HL.out
        rw [HE.out, List.append_nil] at this
        exact this
      subst e
      exact ⟨rs1, hr1, hb⟩
    · obtain ⟨n, HN⟩ : ∃ n, Hid (l'.length % 64 = n) := ⟨_, Lib.hid rfl⟩
      rw [HN.out] at hb c72
      have hn1 : n < 64 := by have := HN.out; omega
      have n0 : (0 : Int) ≤ (n : Int) := by omega
      have n1 : (n : Int) < 64 := by omega
      have n2 : (n : Int) ≤ 64 := by omega
      have e1 : s'.toList.isEmpty = false := by
        rw [ByteArray.toList_eq]
        have : s'.data.toList.length = s'.size := by simp
        cases h : s'.data.toList with
        | nil => rw [h] at this; simp at this; omega
        | cons x xs => rfl
      have hsl : Hid (s'.data.toList.length = s'.size) := by show _ = _; simp
      obtain ⟨k, HK⟩ : ∃ k, Hid (k = Nat.min s'.size (64 - n)) := ⟨_, Lib.hid rfl⟩
      have hk0 : 0 < k := by rw [HK.out]; exact Nat.lt_min.2 ⟨by omega, by omega⟩
      have hk1 : k ≤ s'.size := by rw [HK.out]; exact Nat.min_le_left _ _
      have hk2 : n + k ≤ 64 := by have h : Nat.min s'.size (64 - n) ≤ 64 - n := Nat.min_le_right _ _; rw [← HK.out] at h; omega
      have k1 : (k : Int) ≤ (s'.size : Int) := by omega
      have k0 : (0 : Int) ≤ (k : Int) := by omega
      clear he
      have hys : Hid ((s'.data.toList.take k).length = k) := by
        show _ = _
        rw [List.length_take, hsl.out]
        omega
      have HST := Lib.hid hst; clear hst
      have HR1 := Lib.hid hr1; clear hr1
      obtain ⟨rs', HRS⟩ : ∃ r, Hid (rs1.take n ++ s'.data.toList.take k ++ rs1.drop (n + k) = r) := ⟨_, Lib.hid rfl⟩
      have hr64 : Hid (rs'.length = 64) := by
        show _ = _
        rw [← HRS.out]
        have := HR1.out.1
        have := hys.out
        rw [List.length_append, List.length_append, List.length_take, List.length_drop, hys.out]
        omega
      refine hide_post fun R HR => ?_
      go_wp2
      refine wp_region_quiet_tail (fun w' => ∃ n, w' = wr.drewN n) 9 (by kernel_rfl) (by kernel_rfl) ⟨1, rfl⟩ ?_
      simp only [List.take_succ_cons, List.take_zero, List.drop_succ_cons, List.drop_zero]
      repeat (go_big_quiet_step (fail))
      refine wpQuiet_nil ?_
      intro _ hw'; obtain ⟨nq, hw''⟩ := hw'; subst hw''
      obtain ⟨W1, hrun, hb1, hn1'⟩ : ∃ W1, (∀ ty, (Builtin.copy_ #[28, 9] ty #[.slice (some ⟨g, 8 + n, none⟩) (64 - n) (64 - n), .string s']).run Try.prog (wr.drewN nq) = .ok (.int .i64 k) W1) ∧
          Blk W1 g 53 (hcells (stN l' (l'.length / 64)) rs' n T.length) ∧ w.grownBy W1 (some g) := by
        refine ⟨_, fun ty => run_copy_min (P := Try.prog) (wr.drewN nq) 28 9 ty 5 g (8 + n) (64 - n) (64 - n) s' _ 53 Try.underlying28 (by kernel_rfl) (hb.drewN nq) k HK.out (by rw [hcells_size _ _ _ _ HST.out HR1.out.1]; omega), ?_, ?_⟩
        · have e := hcells_put (stN l' (l'.length / 64)) rs1 (s'.data.toList.take k) n T.length HST.out HR1.out.1 n (by rw [hys.out]; exact hk2)
          rw [hys.out, HRS.out] at e
          rw [e]
          exact (hb.drewN nq).setRow _
        · exact grown_setRow_same (grown_drewN hnx nq) _
      clear hb c72 f72 hnx
      have c72 := hb1.cell 72
      rw [hcells_n _ _ _ _ HST.out hr64.out] at c72
      have f72 := hb1.frozen 72
      have hb2 := hb1.set_ 72 (.int .i64 ((n + k : Nat) : Int))
      rw [hcells_set_n _ _ _ _ _ HST.out hr64.out, Int.natCast_add] at hb2
      have hg2 := grown_setCell hn1' (p := ⟨g, 72, none⟩) (.inl rfl) (.int .i64 ((n : Int) + (k : Int)))
      have hext : Hid (l' ++ s'.data.toList.take k ++ (s'.extract k s'.size).data.toList = T) := by
        show _ = _
        rw [← HL.out, List.append_assoc]
        congr 1
        rw [Lib.extract_data, List.take_of_length_le (l := s'.data.toList.drop k) (by rw [List.length_drop, hsl.out]; omega), List.take_append_drop]
      by_cases h64 : n + k < 64
      · have t0 : (n : Int) + (k : Int) < 64 := by omega
        have t1 : (((n : Int) + (k : Int)) == 64) = false := by simp; omega
        have HP := Lib.hid (HR1.out.part (s := s'.data.toList) k (by rw [hsl.out]; exact hk1) (by rw [HN.out]; exact h64))
        go_wp2_with (refine wpList_copy_run _ rfl (.tmp 27) (.tmp 28) 28 9 rfl _ _ rfl rfl (.int .i64 k) W1 (hrun _) ?_)
        obtain rfl := HR.out
        go_roundw
        case rel => 
          refine ⟨_, _, rfl, hext, ⟨rs', ?_, ?_⟩, hg2⟩
          · have := HP.out.1
            rw [HN.out, HRS.out] at this
            exact this
          · rw [HP.out.2.1, HP.out.2.2, HN.out]
            exact hb2
        case measure => 
          simp only [strLen, ByteArray.size_extract]
          omega
      · have h64' : n + k = 64 := by omega
        have HP := Lib.hid (HR1.out.full (s := s'.data.toList) k (by rw [hsl.out]; exact hk1) (by rw [HN.out]; exact h64'))
        have t1 : (((n : Int) + (k : Int)) == 64) = true := by simp; omega
        have hS := Lib.hid (show (strOf rs').size = 64 by rw [strOf_size]; exact hr64.out)
        obtain ⟨W2, HW2⟩ : ∃ W, Hid (W1.setCell ⟨g, 72, none⟩ (.int .i64 ((n : Int) + (k : Int))) = W) := ⟨_, Lib.hid rfl⟩
        rw [HW2.out] at hb2 hg2
        have hconv : ∀ m, (convert 28 9 (.slice (some ⟨g, 8, none⟩) 64 64)).run Try.prog (W2.drewN m) = .ok (.string (strOf rs')) (W2.drewN m) := by
          intro m
          have h := run_convert_bytes_back (P := Try.prog) (W2.drewN m) 28 9 5 ⟨g, 8, none⟩ 64 rs' Try.underlying28 Try.underlying5 Try.underlying9 (fun j hj => by
            have hadd : (⟨g, 8, none⟩ : Addr).add j = ⟨g, 8 + j, none⟩ := by unfold Addr.add; split <;> simp_all
            have hj' : j < 64 := by have := hr64.out; omega
            rw [hadd, (hb2.drewN m).cell (8 + j), hcells_rest _ _ _ _ HST.out hr64.out j hj']
            simp [hj])
          rw [hr64.out] at h
          exact h
        clear h64 h64'
        go_wp2_with (refine wpList_copy_run _ rfl (.tmp 27) (.tmp 28) 28 9 rfl _ _ rfl rfl (.int .i64 k) W1 (hrun _) ?_)
        rw [HW2.out]
        refine wp_region_quiet_tail (fun w' => ∃ n, w' = W2.drewN n) 8 (by kernel_rfl) (by kernel_rfl) ⟨1, rfl⟩ ?_
        simp only [List.take_succ_cons, List.take_zero, List.drop_succ_cons, List.drop_zero]
        repeat (go_big_quiet_step (fail))
        refine wpQuiet_nil ?_
        intro _ hw'; obtain ⟨nq2, hw''⟩ := hw'; subst hw''
        go_wp2_with fail
        refine (macBlock_any (stN l' (l'.length / 64)) HST.out (hrest rs' (n + k) T.length) g (strOf rs') _ hS.out (hb2.drewN nq2)).mono ?_
        rintro e w3 ⟨rfl, hb3, hg3⟩
        have HB3 : Hid ((blk (stN l' (l'.length / 64)) (strOf rs')).length = 8) := blk_length _ _ HST.out
        have d72 := hb3.cell 72
        rw [show words (blk (stN l' (l'.length / 64)) (strOf rs')) ++ hrest rs' (n + k) T.length = hcells (blk (stN l' (l'.length / 64)) (strOf rs')) rs' (n + k) T.length from rfl, hcells_n _ _ _ _ HB3.out hr64.out] at d72
        have g72 := hb3.frozen 72
        have hb4 := hb3.set_ 72 (.int .i64 ((0 : Nat) : Int))
        rw [show words (blk (stN l' (l'.length / 64)) (strOf rs')) ++ hrest rs' (n + k) T.length = hcells (blk (stN l' (l'.length / 64)) (strOf rs')) rs' (n + k) T.length from rfl, hcells_set_n _ _ _ _ _ HB3.out hr64.out] at hb4
        have hg4 := grown_setCell (grown_grown (grown_drewN hg2 nq2) hg3) (p := ⟨g, 72, none⟩) (.inl rfl) (.int .i64 ((0 : Nat) : Int))
        go_wp2
        obtain rfl := HR.out
        go_roundw
        case rel =>
          refine ⟨_, _, rfl, hext, ⟨rs', ?_, ?_⟩, hg4⟩
          · have := HP.out.2.1
            rw [HN.out, HRS.out] at this
            exact this
          · have e1 := HP.out.1
            rw [HN.out, HRS.out] at e1
            rw [HP.out.2.2.1, HP.out.2.2.2, ← e1]
            exact hb4
        case measure =>
          simp only [strLen, ByteArray.size_extract]
          omega
end Go.Proofs.Ytlpdbkhpchmpmaa
