/-
  The block function of atriumref04: it answers the state behind the block, and writes to new memory alone.
-/
import Derived.Test.YtlpdbkhpchmpmaaB
import Derived.Test.YtlpdbkhpchmpmaaQ
namespace Go.Proofs.Ytlpdbkhpchmpmaa
open Go.RowKit
set_option linter.unusedVariables false

theorem info44 : (Try.prog.info? 44).map (·.size) = some 8 := by kernel_rfl
set_option maxRecDepth 100000
set_option maxHeartbeats 8000000
theorem refBlock_any (hs : List Int) (hl : hs.length = 8) (s : ByteArray) (w : World) (hss : s.size = 64)  :
    Calls Try.prog 35 #[.agg (words hs), .string s] w fun e w' => e = .returned (.agg (words (blk hs s))) ∧ Below w.heap.size w w' := by
  have HL := Lib.hid hl; clear hl
  have HS := Lib.hid hss
  have hs1 : (64 : Int) ≤ (s.size : Int) := by omega
  have hs2 : (s.size : Int) ≤ 64 := by omega
  clear hss
  have H1 : ∃ c : Array Value, Hid (c = padded []) ∧ ∀ w, (zeroValue 66).run Try.prog w = .ok (.agg c) w := ⟨padded [], Lib.hid rfl, fun w => by kernel_rfl⟩
  obtain ⟨c, HC, hz⟩ := H1
  obtain ⟨B, HB⟩ : ∃ B, Hid (B = w.heap.size) := ⟨_, Lib.hid rfl⟩
  go_enter Try.func35, Try.ntmps35
  go_wp2
  go_loopw [6] (fun i wr => ∃ k : Nat, k ≤ 16 ∧ i = .int .i64 k ∧ Blk wr w.heap.size 44 (words hs) ∧ (∃ z, Blk wr (w.heap.size+1) 44 z ∧ z.size = 8) ∧ Blk wr (w.heap.size+1+1) 66 (padded (w16 s k)) ∧ Below w.heap.size w wr) (fun i _ => 16 - (intOf i).toNat)
  case atStart => 
    refine ⟨0, by omega, rfl, ((Blk.new w 44 _).alloc _).alloc _, ⟨words (List.replicate 8 0), (Blk.new_at (w.alloc _) _ (by simp) 44 _).alloc _, rfl⟩, ?_, ((((Below.refl _ _).alloc (Nat.le_refl _) _).alloc (by simp) _).alloc (by simp; omega) _)⟩
    rw [HC.out, w16_zero]; exact Blk.new_at ((w.alloc _).alloc _) _ (by simp) 66 _
  case round =>
    obtain ⟨k, hk, rfl, hb0, hb1, hb2, hnx⟩ := hrel
    by_cases hlt : k < 16
    · have hc := hb2.cell k
      have hf := hb2.frozen k
      rw [padded_at _ _ (by rw [w16_length]; exact Nat.le_refl _) (by omega)] at hc
      have p0 : (0:Int) ≤ 4 * (k:Int) := by omega
      have p1 : (0:Int) ≤ 4 * (k:Int) + 1 := by omega
      have p2 : (0:Int) ≤ 4 * (k:Int) + 2 := by omega
      have p3 : (0:Int) ≤ 4 * (k:Int) + 3 := by omega
      have b0 : 4 * (k:Int) < (s.size:Int) := by omega
      have b1 : 4 * (k:Int) + 1 < (s.size:Int) := by omega
      have b2 : 4 * (k:Int) + 2 < (s.size:Int) := by omega
      have b3 : 4 * (k:Int) + 3 < (s.size:Int) := by omega
      refine hide_post fun R HR => ?_
      go_wp2
      refine wp_region_quiet_tail (fun w' => ∃ n, w' = wr.drewN n) 31 (by kernel_rfl) (by kernel_rfl) ⟨1, rfl⟩ ?_
      simp only [List.take_succ_cons, List.take_zero, List.drop_succ_cons, List.drop_zero]
      repeat (go_big_quiet_step (fail))
      refine wpQuiet_nil ?_
      intro _ hw'; obtain ⟨nq, hw''⟩ := hw'; subst hw''
      go_wp2
      obtain rfl := HR.out
      go_roundw
      case rel =>
        refine ⟨k + 1, by omega, by go_num, (hb0.drewN nq).far (by simp; omega) _, ?_, ?_, (below_drewN hnx nq).setCell (by show w.heap.size ≤ w.heap.size + 1 + 1; omega) _⟩
        · obtain ⟨z, hz1, hz2⟩ := hb1
          exact ⟨z, (hz1.drewN nq).far (by simp) _, hz2⟩
        · rw [w16_snoc s k (by omega) (by omega) (by omega) (by omega), ← padded_push _ _ k (w16_length s k).symm (by rw [w16_length]; omega)]
          exact (hb2.drewN nq).set_ k _
      case measure => simp [intOf]; omega
    · obtain rfl : k = 16 := by omega
      clear hlt hk
      go_wp2
      go_loopw [7] (fun i wr => ∃ t : Nat, 16 ≤ t ∧ t ≤ 64 ∧ i = .int .i64 t ∧ Blk wr w.heap.size 44 (words hs) ∧ (∃ z, Blk wr (w.heap.size+1) 44 z ∧ z.size = 8) ∧ Blk wr (w.heap.size+1+1) 66 (padded (wTo s (t - 16))) ∧ Below w.heap.size w wr) (fun i _ => 64 - (intOf i).toNat)
      case atStart => exact ⟨16, by omega, by omega, rfl, hb0, hb1, by rw [Nat.sub_self, wTo_zero]; exact hb2, hnx⟩
      case round =>
        clear hb0 hb1 hb2 hnx
        obtain ⟨t, ht, hk, rfl, hb0, hb1, hb2, hnx⟩ := hrel
        by_cases hlt : t < 64
        · have HW := Lib.hid (wTo_length s (t - 16))
          have hc := hb2.cell t
          have hf := hb2.frozen t
          rw [padded_at _ _ (by rw [HW.out]; omega) (by omega)] at hc
          have hc15 := hb2.cell (t - 15)
          rw [padded_get _ _ (by rw [HW.out]; omega)] at hc15
          obtain ⟨a15, HA15⟩ : ∃ a, Hid ((wTo s (t - 16)).getD (t - 15) 0 = a) := ⟨_, Lib.hid rfl⟩
          rw [HA15.out] at hc15
          have hc2 := hb2.cell (t - 2)
          rw [padded_get _ _ (by rw [HW.out]; omega)] at hc2
          obtain ⟨a2, HA2⟩ : ∃ a, Hid ((wTo s (t - 16)).getD (t - 2) 0 = a) := ⟨_, Lib.hid rfl⟩
          rw [HA2.out] at hc2
          have hc7 := hb2.cell (t - 7)
          rw [padded_get _ _ (by rw [HW.out]; omega)] at hc7
          obtain ⟨a7, HA7⟩ : ∃ a, Hid ((wTo s (t - 16)).getD (t - 7) 0 = a) := ⟨_, Lib.hid rfl⟩
          rw [HA7.out] at hc7
          have hc16 := hb2.cell (t - 16)
          rw [padded_get _ _ (by rw [HW.out]; omega)] at hc16
          obtain ⟨a16, HA16⟩ : ∃ a, Hid ((wTo s (t - 16)).getD (t - 16) 0 = a) := ⟨_, Lib.hid rfl⟩
          rw [HA16.out] at hc16
          have q15 : (0:Int) ≤ (t:Int) - 15 := by omega
          have q16 : (0:Int) ≤ (t:Int) - 16 := by omega
          have q2 : (0:Int) ≤ (t:Int) - 2 := by omega
          have q7 : (0:Int) ≤ (t:Int) - 7 := by omega
          have r15 : (t:Int) - 15 < 64 := by omega
          have r16 : (t:Int) - 16 < 64 := by omega
          have r2 : (t:Int) - 2 < 64 := by omega
          have r7 : (t:Int) - 7 < 64 := by omega
          refine hide_post fun R HR => ?_
          go_wp2
          go_quiet (fail)
          go_wp2
          refine wp_region_quiet_tail (fun w' => ∃ n, w' = wr.drewN n) 29 (by kernel_rfl) (by kernel_rfl) ⟨nq + 1, rfl⟩ ?_
          simp only [List.take_succ_cons, List.take_zero, List.drop_succ_cons, List.drop_zero]
          repeat (go_big_quiet_step ((go_at_call 47; exact Calls.quiet_of (refRor_any _ _ _ (by omega) (by omega)))))
          refine wpQuiet_nil ?_
          intro _ hw'; obtain ⟨nq2, hw''⟩ := hw'; subst hw''
          go_wp2
          obtain rfl := HR.out
          go_roundw
          case rel =>
            refine ⟨t + 1, by omega, by omega, by go_num, (hb0.drewN nq2).far (by simp; omega) _, ?_, ?_, (below_drewN hnx nq2).setCell (by show w.heap.size ≤ w.heap.size + 1 + 1; omega) _⟩
            · obtain ⟨z, hz1, hz2⟩ := hb1
              exact ⟨z, (hz1.drewN nq2).far (by simp) _, hz2⟩
            · rw [wTo_snoc s t ht HW.out _ _ _ _ HA15.out HA2.out HA7.out HA16.out, ← padded_push _ _ t (by rw [HW.out]; omega) (by rw [HW.out]; omega)]
              unfold sched
              exact (hb2.drewN nq2).set_ t _
          case measure => simp [intOf]; omega
        · obtain rfl : t = 64 := by omega
          clear hlt hk ht
          have HW := Lib.hid (wTo_length s 48)
          rw [show 64 - 16 = 48 from rfl, padded_full _ HW.out] at hb2
          obtain ⟨W, HWD⟩ : ∃ W, Hid (wTo s 48 = W) := ⟨_, Lib.hid rfl⟩
          rw [HWD.out] at hb2 HW
          have hwB := hnx.size
          obtain ⟨z, hz1, hz2⟩ := hb1
          have HZ := Lib.hid hz2; clear hz2
          have HS8 := Lib.hid (show (words hs).size = 8 by rw [words_size]; exact HL.out)
          go_wp2_with fail
          refine (refConst_any _).mono ?_
          rintro e w1 ⟨rfl, hnx1⟩
          replace hb0 := hb0.below hnx1 hb0.lt
          replace hz1 := hz1.below hnx1 hz1.lt
          replace hb2 := hb2.below hnx1 hb2.lt
          replace hnx := hnx.trans (hnx1.mono hnx.size)
          clear hnx1
          go_wp2_with (first
            | (refine wpList_store_row rfl 66 _ _ rfl w1.heap.size (words kTab) rfl rfl 66 _ (heap_alloc_last w1 _) (by rw [size_kTab]; exact info66) (by rw [size_kTab, HC.out]; rfl) (words_one _) ?_; rw [World.setRow_alloc_new])
            | (refine wpList_load_row rfl 44 _ rfl w.heap.size rfl 44 (words hs) (0, 0) _ (hb0.alloc _) Try.underlying44 rfl (by rw [HS8.out]; exact info44) ?_)
            | (refine wpList_store_row rfl 44 _ _ rfl (w1.heap.size + 1) (words hs) rfl rfl 44 _ (Blk.new_at _ _ (by simp) _ _) (by rw [HS8.out]; exact info44) (by rw [HS8.out]; rfl) (words_one _) ?_; rw [show w1.heap.size + 1 = (w1.alloc (.cells (words kTab) 66)).heap.size by simp, World.setRow_alloc_new]))
          have hlt1 := hb2.lt
          have hk0 := (Blk.new w1 66 (words kTab)).alloc (.cells (words hs) 44)
          have hx0 := Blk.new_at (w1.alloc (.cells (words kTab) 66)) (w1.heap.size + 1) (by simp) 44 (words hs)
          replace hb0 := (hb0.alloc (.cells (words kTab) 66)).alloc (.cells (words hs) 44)
          replace hb2 := (hb2.alloc (.cells (words kTab) 66)).alloc (.cells (words hs) 44)
          replace hz1 := (hz1.alloc (.cells (words kTab) 66)).alloc (.cells (words hs) 44)
          replace hnx := (hnx.alloc (by omega) (.cells (words kTab) 66)).alloc (by simp; omega) (.cells (words hs) 44)
          go_loopw [12] (fun i wr => ∃ t : Nat, t ≤ 64 ∧ i = .int .i64 t ∧ Blk wr w.heap.size 44 (words hs) ∧ Blk wr (w.heap.size+1) 44 z ∧ Blk wr (w.heap.size+1+1) 66 (words (W)) ∧ Blk wr w1.heap.size 66 (words kTab) ∧ Blk wr (w1.heap.size + 1) 44 (words (rounds (W) hs t)) ∧ Below w.heap.size w wr) (fun i _ => 64 - (intOf i).toNat)
          case atStart => exact ⟨0, by omega, rfl, hb0, hz1, hb2, hk0, by rw [rounds_zero]; exact hx0, hnx⟩
          case round =>
            clear hb0 hb2 hnx hk0 hx0 hz1
            obtain ⟨t, ht, rfl, hb0, hz1, hb2, hk0, hx0, hnx⟩ := hrel
            by_cases hlt : t < 64
            · have hkc := hk0.cell t
              rw [words_get _ _ (by rw [kTab_length]; omega)] at hkc
              obtain ⟨kk, HKK⟩ : ∃ a, Hid (kTab.getD t 0 = a) := ⟨_, Lib.hid rfl⟩
              rw [HKK.out] at hkc
              have hwc := hb2.cell t
              rw [words_get _ _ (by rw [HW.out]; omega)] at hwc
              obtain ⟨ww, HWW⟩ : ∃ a, Hid ((W).getD t 0 = a) := ⟨_, Lib.hid rfl⟩
              rw [HWW.out] at hwc
              obtain ⟨a, b, c1, d, e, f, g, h8, hR⟩ := list8 _ (rounds_length (W) hs HL.out t)
              have HR := Lib.hid hR
              rw [hR] at hx0
              clear hR
              have x0 := hx0.cell 0
              have x1 := hx0.cell 1
              have x2 := hx0.cell 2
              have x3 := hx0.cell 3
              have x4 := hx0.cell 4
              have x5 := hx0.cell 5
              have x6 := hx0.cell 6
              have x7 := hx0.cell 7
              simp only [words, List.map_cons, List.map_nil, List.getElem?_toArray, List.getElem?_cons_succ, List.getElem?_cons_zero] at x0 x1 x2 x3 x4 x5 x6 x7
              refine hide_post fun R HR' => ?_
              go_wp2
              go_quiet (fail)
              go_wp2
              refine wp_region_quiet (C := fun w' => ∃ n, w' = wr.drewN n) (by kernel_rfl) (by kernel_rfl) ⟨nq + 1, rfl⟩ ?_
              dsimp only
              repeat (go_big_quiet_step ((go_at_call 47; exact Calls.quiet_of (refRor_any _ _ _ (by omega) (by omega)))))
              refine wpQuiet_nil ?_
              intro _ hw'; obtain ⟨nq2, hw''⟩ := hw'; subst hw''
              go_wp2
              rw [one_eq e f g h8 kk ww]
              refine wp_region_quiet (C := fun w' => ∃ n, w' = wr.drewN n) (by kernel_rfl) (by kernel_rfl) ⟨nq2 + 1, rfl⟩ ?_
              dsimp only
              repeat (go_big_quiet_step ((go_at_call 47; exact Calls.quiet_of (refRor_any _ _ _ (by omega) (by omega)))))
              refine wpQuiet_nil ?_
              intro _ hw'; obtain ⟨nq3, hw''⟩ := hw'; subst hw''
              rw [two_eq a b c1]
              obtain ⟨T1, HT1⟩ : ∃ T, Hid (one e f g h8 kk ww = T) := ⟨_, Lib.hid rfl⟩
              obtain ⟨T2, HT2⟩ : ∃ T, Hid (two a b c1 = T) := ⟨_, Lib.hid rfl⟩
              rw [HT1.out, HT2.out]
              go_wp2_with (refine wpList_store_row rfl 44 (.tmp 11) (.tmp 177) rfl (w1.heap.size + 1) (words [(T1 + T2) % 4294967296, a, b, c1, (d + T1) % 4294967296, e, f, g]) rfl rfl 44 _ (hx0.drewN nq3) (by rw [words_size]; exact info44) rfl (words_one _) ?_)
              obtain rfl := HR'.out
              go_roundw
              case rel =>
                refine ⟨t + 1, by omega, by go_num, (hb0.drewN nq3).setRow_far (by omega) _, (hz1.drewN nq3).setRow_far (by omega) _, (hb2.drewN nq3).setRow_far (by omega) _, (hk0.drewN nq3).setRow_far (by omega) _, ?_, below_setRow' (below_drewN hnx nq3) _ (by omega) _⟩
                rw [rounds_succ, HKK.out, HWW.out, HR.out, rnd, HT1.out, HT2.out, ← addI_eq, ← addI_eq]
                exact (hx0.drewN nq3).setRow _
              case measure => simp [intOf]; omega
            · obtain rfl : t = 64 := by omega
              clear hlt ht
              have HX := Lib.hid (rounds_length W hs HL.out 64)
              obtain ⟨xs, HXS⟩ : ∃ X, Hid (rounds W hs 64 = X) := ⟨_, Lib.hid rfl⟩
              rw [HXS.out] at hx0 HX
              refine hide_post fun R HR => ?_
              go_wp2
              go_loopw [178] (fun i wr => ∃ n : Nat, n ≤ 8 ∧ i = .int .i64 n ∧ Blk wr w.heap.size 44 (words (added hs xs n)) ∧ Blk wr (w.heap.size+1) 44 z ∧ Blk wr (w1.heap.size + 1) 44 (words xs) ∧ Below w.heap.size w wr) (fun i _ => 8 - (intOf i).toNat)
              case atStart => exact ⟨0, by omega, rfl, by rw [added_zero]; exact hb0, hz1, hx0, hnx⟩
              case round =>
                clear hb0 hb2 hnx hk0 hx0 hz1
                obtain ⟨n, hn, rfl, hb0, hz1, hx0, hnx⟩ := hrel
                by_cases hlt : n < 8
                · have HA := Lib.hid (added_length hs xs HL.out HX.out n)
                  have hh := hb0.cell n
                  rw [words_get _ _ (by rw [HA.out]; exact hlt), added_get _ _ HL.out HX.out n hlt] at hh
                  have hf := hb0.frozen n
                  have hx := hx0.cell n
                  rw [words_get _ _ (by rw [HX.out]; exact hlt)] at hx
                  obtain ⟨p, HP⟩ : ∃ T, Hid (hs.getD n 0 = T) := ⟨_, Lib.hid rfl⟩
                  obtain ⟨q, HQ⟩ : ∃ T, Hid (xs.getD n 0 = T) := ⟨_, Lib.hid rfl⟩
                  rw [HP.out] at hh
                  rw [HQ.out] at hx
                  refine hide_post fun R HR => ?_
                  go_wp2
                  refine wp_region_quiet_tail (fun w' => ∃ n, w' = wr.drewN n) 8 (by kernel_rfl) (by kernel_rfl) ⟨1, rfl⟩ ?_
                  simp only [List.take_succ_cons, List.take_zero, List.drop_succ_cons, List.drop_zero]
                  repeat (go_big_quiet_step (fail))
                  refine wpQuiet_nil ?_
                  intro _ hw'; obtain ⟨nq, hw''⟩ := hw'; subst hw''
                  go_wp2
                  obtain rfl := HR.out
                  go_roundw
                  case rel =>
                    refine ⟨n + 1, by omega, by go_num, ?_, (hz1.drewN nq).far (by simp) _, (hx0.drewN nq).far (by simp; omega) _, (below_drewN hnx nq).setCell (by simp) _⟩
                    rw [← added_succ hs xs HL.out HX.out n hlt, HP.out, HQ.out, ← words_set, ← addI_eq]
                    exact (hb0.drewN nq).set_ n _
                  case measure => simp [intOf]; omega
                · obtain rfl : n = 8 := by omega
                  clear hlt hn
                  rw [added_all hs xs HL.out HX.out] at hb0
                  have HE := Lib.hid (show List.zipWith addI hs xs = blk hs s by rw [blk_eq, HWD.out, HXS.out])
                  rw [HE.out] at hb0
                  have HB8 := Lib.hid (show (words (blk hs s)).size = 8 by rw [words_size]; exact blk_length _ _ HL.out)
                  go_wp2_with (first
                    | (refine wpList_load_row rfl 44 _ rfl w.heap.size rfl 44 (words (blk hs s)) (0, 0) _ hb0 Try.underlying44 rfl (by rw [HB8.out]; exact info44) ?_)
                    | (refine wpList_store_row rfl 44 _ _ rfl (w.heap.size + 1) (words (blk hs s)) rfl rfl 44 _ hz1 (by rw [HB8.out]; exact info44) (by rw [HB8.out]; exact HZ.out) (words_one _) ?_))
                  exact bodyPost_ret (results_cell_row Try.results35 _ _ (w.heap.size + 1) 44 (words (blk hs s)) (0, 0) _ rfl (hz1.setRow _) Try.underlying44 rfl (by rw [HB8.out]; exact info44)) rfl ⟨rfl, below_setRow' hnx _ (by omega) _⟩
end Go.Proofs.Ytlpdbkhpchmpmaa
