/-
  Sum, of mac and of atriumref04: both are SHA-256.
-/
import Derived.Test.YtlpdbkhpchmpmaaL
import Derived.Test.YtlpdbkhpchmpmaaC
namespace Go.Proofs.Ytlpdbkhpchmpmaa
open Go.RowKit
set_option linter.unusedVariables false
set_option maxRecDepth 100000
set_option maxHeartbeats 2000000

theorem sha_nil_append (s : ByteArray) : ([] : List UInt8) ++ s.data.toList = s.data.toList := rfl
theorem below_of_grown {w w1 w2 : World} {g : Nat} (h : Below w.heap.size w w1) (hg : w1.grownBy w2 (some g)) (hlt : w.heap.size ≤ g) : Below w.heap.size w w2 :=
  h.trans ⟨hg.os, hg.tape, hg.output, hg.size, fun k hk => hg.block k (by have := h.size; omega) (by simp; omega)⟩
theorem macSum_any (s : ByteArray) (w : World) (hlen : s.size ≤ 4611686018427387904) :
    Calls Try.prog 12 #[.string s] w fun e w' => e = .returned (.string (strOf (sha s.data.toList))) ∧ Below w.heap.size w w' := by
  go_enter Try.func12, Try.ntmps12
  go_wp2_with fail
  refine (New_any w).mono ?_
  rintro e w1 ⟨g, rfl, hg, hH, hb1⟩
  have HH := Lib.hid hH; clear hH
  go_wp2_with fail
  refine (Write_any g [] s w1 HH.out (by simp; omega)).mono ?_
  rintro e w2 ⟨rfl, hH2, hg2⟩
  rw [List.nil_append] at hH2
  have hb2 := below_of_grown hb1 hg2 hg
  have HH2 := Lib.hid hH2; clear hH2
  go_wp2_with fail
  refine (HSum_any g _ w2 HH2.out (by simp; omega)).mono ?_
  rintro e w3 ⟨rfl, hb3⟩
  go_wp2
  go_ret
  exact ⟨rfl, hb2.trans (hb3.mono hb2.size)⟩

/-! ### the reference's -/
def sliceLen : Value → Nat
  | .slice _ n _ => n
  | _ => 0
theorem run_index_words44 (st : List Int) (k : Nat) (h : st.length = 8) (hk : k < 8) (w : World) : (Instr.index 44 (.agg (words st)) (.int .i64 (k : Int))).run Try.prog w = .ok (.int .u32 (st.getD k 0)) w := by
  have h0 : (0 : Int) ≤ (k : Int) ∧ (k : Int) < 8 := by omega
  have hs : (sizeOf 43).run Try.prog w = .ok 1 w := by kernel_rfl
  have ha : (isAgg 43).run Try.prog w = .ok false w := by kernel_rfl
  have hg := words_get st k (by omega)
  simp [Instr.index, asIntOf, run_underlying Try.underlying44, h0, part, hs, hg]
  omega
theorem quiet_load_row {C : World → Prop} {K : Act → Prop} {a : Act} {o : Oper} (ty : TypeId) (x : Operand) (h : o.op = .load ty x) (g : Nat) (cs : Array Value) (hx : a.eval x = .pointer (some ⟨g, 0, none⟩))
    (hr : ∀ w, C w → (loadVar ty ⟨g, 0, none⟩).run Try.prog w = .ok (.agg cs) w) (hk : K (a.put o.dst (.agg cs))) : o.quiet Try.prog a C K := by
  refine ⟨.agg cs, fun w hw => ?_, hk⟩
  unfold Oper.quietAt execOp
  simp only [h, hx, Instr.loadAt, Instr.sureAddr, Sem.run_bind, Sem.run_pure, Result.andThen_ok, hr w hw]
  exact ⟨rfl, rfl⟩
theorem chunk_cut (L : List UInt8) (k : Nat) : (strOf L).extract (64 * k) (64 * k + 64) = chunkS L k := by
  apply ByteArray.ext
  apply Array.toList_inj.1
  rw [Lib.extract_data]
  simp [chunkS, strOf]

theorem news_word (w : World) (x : Int) : ∀ j u, (bcells (wordB x))[j]? = some u →
    (w.alloc (.cells #[.int .u8 (x / 16777216 % 256), .int .u8 (x / 65536 % 256), .int .u8 (x / 256 % 256), .int .u8 (x % 256)] 5)).cell? ((⟨w.heap.size, 0, none⟩ : Addr).add j) = some u := by
  have e : bcells (wordB x) = [.int .u8 (x / 16777216 % 256), .int .u8 (x / 65536 % 256), .int .u8 (x / 256 % 256), .int .u8 (x % 256)] := by
    simp only [bcells, wordB, List.map_cons, List.map_nil, byteAt_val]
    simp
  intro j u hj
  rw [e] at hj
  have hadd : (⟨w.heap.size, 0, none⟩ : Addr).add j = ⟨w.heap.size, j, none⟩ := by unfold Addr.add; split <;> simp_all
  rw [hadd, (Blk.new w 5 _).cell j]
  simpa using hj

theorem refSum_any (s : ByteArray) (w : World) (hlen : s.size ≤ 140737488355000) :
    Calls Try.prog 13 #[.string s] w fun e w' => e = .returned (.string (strOf (sha s.data.toList))) ∧ Below w.heap.size w w' := by
  have hl : s.data.toList.length = s.size := by simp
  obtain ⟨l, HL⟩ : ∃ l, Hid (s.data.toList = l) := ⟨_, Lib.hid rfl⟩
  rw [HL.out] at hl ⊢
  have HLS := Lib.hid hl; clear hl
  have hl0 : (0 : Int) ≤ (s.size : Int) := by omega
  have hl1 : (s.size : Int) ≤ 140737488355000 := by omega
  have hconv := Lib.run_convert_string_bytes (P := Try.prog) (w.alloc (.cells (words hTab) 44)) 9 28 5 s Try.underlying9 Try.underlying28 Try.underlying5
  have hown := OwnB.conv (w.alloc (.cells (words hTab) 44)) s (by unfold maxLen; omega)
  have hbw := below_conv (w.alloc (.cells (words hTab) 44)) s
  have hblk := (Blk.new w 44 (words hTab)).below hbw (by simp)
  have hb0 : Below w.heap.size w (Lib.bytesWorld (w.alloc (.cells (words hTab) 44)) 5 s) := ((Below.refl _ _).alloc (Nat.le_refl _) _).trans (hbw.mono (by simp))
  obtain ⟨W1, HW1⟩ : ∃ W, Hid (Lib.bytesWorld (w.alloc (.cells (words hTab) 44)) 5 s = W) := ⟨_, Lib.hid rfl⟩
  have hsz : W1.heap.size = w.heap.size + 2 := by rw [← HW1.out, Lib.bytesWorld_size]; simp
  have HSZ := Lib.hid hsz; clear hsz
  rw [HW1.out] at hconv hown hblk hb0
  have HHT : Hid (words hTab = #[.int .u32 1779033703, .int .u32 3144134277, .int .u32 1013904242, .int .u32 2773480762, .int .u32 1359893119, .int .u32 2600822924, .int .u32 528734635, .int .u32 1541459225]) := rfl
  rw [HHT.out] at hconv
  rw [show (w.alloc (.cells (words hTab) 44)).heap.size = w.heap.size + 1 by simp, HL.out] at hown
  obtain ⟨cap0, HC0⟩ : ∃ c, Hid (grownCap (w.alloc (.cells (words hTab) 44)) s.size 0 5 = c) := ⟨_, Lib.hid rfl⟩
  rw [HC0.out] at hown
  rw [HHT.out] at HC0
  rw [HC0.out] at hconv
  clear hbw
  go_enter Try.func13, Try.ntmps13
  go_wp2_with (at_builtin; refine wpList_append_B _ rfl _ _ rfl (w.heap.size + 1) _ l rfl (hown.alloc _) ⟨W1.heap.size, 0, none⟩ 1 1 [128] rfl rfl (news_one _ _ _ rfl) ?c2 ?c3 ?_)
  case c2 => have := HLS.out; omega
  case c3 => have := HSZ.out; simp; omega
  intro v1 w1 hown1 hg1
  have hb1 : Below w.heap.size w w1 := (hb0.alloc (by have := HSZ.out; omega) _).grown hg1 (by have := HSZ.out; simp; omega) (fun k hk => by have := (hown.lt k hk).1; omega)
  have hblk1 : Blk w1 w.heap.size 44 (words hTab) := (hblk.alloc _).grown hg1 (fun e => by have := (hown.lt _ e.symm).1; omega)
  have hsz1 : w.heap.size + 2 ≤ w1.heap.size := by have := hg1.size; have := HSZ.out; simp at *; omega
  clear hg1 hown hb0 hblk hconv
  obtain ⟨Z, HZ⟩ : ∃ z, Hid (zerosN s.size = z) := ⟨_, Lib.hid rfl⟩
  have hZ64 : Z < 64 := by rw [← HZ.out]; exact zerosN_lt _
  go_wp2
  go_loopw [4] (fun v wr => ∃ z : Nat, z ≤ Z ∧ OwnB wr (w.heap.size + 1) v (l ++ 128 :: List.replicate z 0) ∧ Blk wr w.heap.size 44 (words hTab) ∧ Below w.heap.size w wr ∧ w.heap.size + 2 ≤ wr.heap.size) (fun v _ => s.size + 1 + Z - sliceLen v)
  case atStart => exact ⟨0, by omega, hown1, hblk1, hb1, hsz1⟩
  case round =>
    clear hown1 hblk1 hb1 hsz1
    obtain ⟨z, hz, hown, hblk, hbw, hsz⟩ := hrel
    have hxl : Hid ((l ++ 128 :: List.replicate z 0).length = s.size + 1 + z) := by
      show _ = _
      have := HLS.out
      simp
      omega
    obtain ⟨p, cap, rfl⟩ := hown.form
    have hown' := hown
    rw [hxl.out] at hown ⊢
    by_cases hzz : z < Z
    · have t1 : (((s.size + 1 + z : Nat) : Int) % 64 != 56) = true := by
        have := HZ.out
        unfold zerosN at this
        rw [bne_iff_ne]
        omega
      refine hide_post fun R HR => ?_
      go_wp2_with (at_builtin; refine wpList_append_B _ rfl _ _ rfl (w.heap.size + 1) _ _ rfl (hown.alloc _) ⟨wr.heap.size, 0, none⟩ 1 1 [0] rfl rfl (news_one _ _ _ rfl) ?d2 ?d3 ?_)
      case d2 => rw [hxl.out]; omega
      case d3 => simp; omega
      intro v1 w1 hown1 hg1
      replace hown1 : OwnB w1 (w.heap.size + 1) v1 (l ++ 128 :: List.replicate (z + 1) 0) := by rw [List.replicate_succ']; simpa using hown1
      have hxl1 : Hid ((l ++ 128 :: List.replicate (z + 1) 0).length = s.size + 1 + (z + 1)) := by
        show _ = _
        have := HLS.out
        simp
        omega
      have hb1 : Below w.heap.size w w1 := (hbw.alloc (by omega) _).grown hg1 (by simp; omega) (fun k hk => by have := (hown.lt k hk).1; omega)
      have hblk1 : Blk w1 w.heap.size 44 (words hTab) := (hblk.alloc _).grown hg1 (fun e => by have := (hown.lt _ e.symm).1; omega)
      have hsz1 : w.heap.size + 2 ≤ w1.heap.size := by have := hg1.size; simp at this; omega
      obtain ⟨p1, cap1, rfl⟩ := hown1.form
      have hown1' := hown1
      rw [hxl1.out] at hown1' ⊢
      go_wp2
      obtain rfl := HR.out
      go_roundw
      case rel => exact ⟨z + 1, hzz, by rw [← hxl1.out]; exact hown1, hblk1, hb1, hsz1⟩
      case measure => simp [sliceLen]; omega
    · obtain rfl : z = Z := by omega
      clear hzz hz
      have t1 : (((s.size + 1 + z : Nat) : Int) % 64 != 56) = false := by
        have := HZ.out
        unfold zerosN at this
        rw [bne_eq_false_iff_eq]
        omega
      have hstr := run_string_B wr _ _ _ hown'
      have hstrx : ∀ x : Later wr, (convert 28 9 (.slice p (s.size + 1 + z) cap)).run Try.prog x.val = .ok (.string (strOf (l ++ 128 :: List.replicate z 0))) x.val := fun x => by
        have := run_string_B x.val _ _ _ (hown'.below x.property)
        rw [hxl.out] at this
        exact this
      clear hstr
      obtain ⟨m8, HM8⟩ : ∃ m, Hid (8 * (s.size : Int) % 18446744073709551616 = m) := ⟨_, Lib.hid rfl⟩
      have hNum : Hid (∀ w, Calls Try.prog 34 #[.int .u64 ((s.size : Int) * 8)] w fun e w' => e = .returned (.string (strOf (be8 m8))) ∧ Below w.heap.size w w') := by
        intro w
        have e : (s.size : Int) * 8 = m8 := by have := HM8.out; omega
        rw [e]
        exact refNumber_any m8 w (by have := HM8.out; omega) (by have := HM8.out; omega)
      have s4 : (strOf (l ++ 128 :: List.replicate z 0)).size = s.size + 1 + z := by rw [strOf_size]; exact hxl.out
      have s5 : (strOf (be8 m8)).size = 8 := by rw [strOf_size, be8_length]
      have s6 : ¬ 9223372036854775807 < s.size + 1 + z + 8 := by omega
      obtain ⟨L, HLL⟩ : ∃ L, Hid (l ++ padL l.length = L) := ⟨_, Lib.hid rfl⟩
      have s7 : strOf (l ++ 128 :: List.replicate z 0) ++ strOf (be8 m8) = strOf L := by
        rw [strOf_add, ← HLL.out, List.append_assoc]
        unfold padL
        rw [HLS.out, HZ.out, HM8.out]
        rfl
      refine hide_post fun R HR => ?_
      go_wp2
      refine wp_region_quiet (C := fun w' => ∃ x : Later wr, w' = x.val) (by kernel_rfl) (by kernel_rfl) (later_drew wr) ?_
      dsimp only
      repeat (first | go_big_quiet_step ((exact calls_later _ (hNum.out _))) | quiet_step (fail))
      refine wpQuiet_nil ?_
      intro w2 hx
      have hw2 : Below wr.heap.size wr w2 := by
        obtain ⟨x, rfl⟩ := hx
        exact x.property
      clear hx
      have hblk2 := hblk.below hw2 hblk.lt
      have hb2 := hbw.trans (hw2.mono hbw.size)
      have hs2 := hw2.size
      clear hw2 hown hown' hstrx hNum s4 s5 s6 s7 hblk hbw
      have hLs : (strOf L).size = L.length := strOf_size L
      have hL64 := Lib.hid (pad_whole l)
      rw [HLL.out] at hL64
      obtain ⟨N, HN⟩ : ∃ N, Hid (L.length = 64 * N) := ⟨L.length / 64, by show _ = _; have := hL64.out; omega⟩
      have hLb : Hid (L.length ≤ 140737488355200) := by
        show _ ≤ _
        rw [← HLL.out, List.length_append, padL_length, HLS.out]
        have := zerosN_lt s.size
        omega
      have hNb : N ≤ 2199023255550 := by have := HN.out; have := hLb.out; omega
      have hLs' : (strOf L).size = 64 * N := by rw [hLs]; exact HN.out
      clear hLs
      obtain ⟨A, HA⟩ : ∃ A, Hid (strOf L = A) := ⟨_, Lib.hid rfl⟩
      rw [HA.out] at hLs' ⊢
      go_wp2
      have t2 : (((s.size : Int) + 1 + (z : Int)) % 64 != 56) = false := by simpa using t1
      rw [t2]
      clear t2
      go_loopw [6] (fun i wr => ∃ k : Nat, k ≤ N ∧ i = .int .i64 (64 * (k : Int)) ∧ Blk wr w.heap.size 44 (words (stN L k)) ∧ Below w.heap.size w wr ∧ w.heap.size + 2 ≤ wr.heap.size) (fun i _ => (64 * N + 1) - (intOf i).toNat)
      case atStart => exact ⟨0, by omega, rfl, by rw [stN_zero]; exact hblk2, hb2, by omega⟩
      case round =>
        clear hblk2 hb2 hs2 hsz
        obtain ⟨k, hk, rfl, hblk, hbw, hsz⟩ := hrel
        by_cases hlt : k < N
        · have H8 := Lib.hid (stN_length L k)
          obtain ⟨st, HST⟩ : ∃ st, Hid (stN L k = st) := ⟨_, Lib.hid rfl⟩
          rw [HST.out] at H8 hblk
          have hcut : A.extract (64 * k) (64 * k + 64) = chunkS L k := by rw [← HA.out]; exact chunk_cut L k
          have hc64 : Hid ((chunkS L k).size = 64) := by
            show _ = _
            rw [chunkS, strOf_size, List.length_take, List.length_drop]
            have := HN.out
            omega
          obtain ⟨ck, HCK⟩ : ∃ c, Hid (chunkS L k = c) := ⟨_, Lib.hid rfl⟩
          rw [HCK.out] at hcut hc64
          have hrow := fun x : Later wr => run_loadVar_row (P := Try.prog) x.val w.heap.size 44 44 (words st) (0, 0) _ (hblk.below x.property hblk.lt) Try.underlying44 rfl (by rw [words_size, H8.out]; exact info44)
          have HROW := Lib.hid hrow; clear hrow
          have k0 : (0 : Int) ≤ 64 * (k : Int) := by omega
          have k1 : 64 * (k : Int) + 64 ≤ (A.size : Int) := by omega
          have k2 : 64 * (k : Int) + 64 ≤ 64 * (N : Int) := by omega
          have k3 : 64 * (k : Int) ≤ 64 * (k : Int) + 64 := by omega
          have k4 : (0 : Int) ≤ 64 * (k : Int) + 64 := by omega
          refine hide_post fun R HR => ?_
          go_wp2
          refine wp_region_quiet_tail (fun w' => ∃ x : Later wr, w' = x.val) 7 (by kernel_rfl) (by kernel_rfl) (later_drew wr) ?_
          simp only [List.take_succ_cons, List.take_zero, List.drop_succ_cons, List.drop_zero]
          go_big_quiet_want
          refine quiet_load_row 44 (.tmp 3) rfl w.heap.size (words st) rfl (fun w' hw' => by obtain ⟨x, rfl⟩ := hw'; exact HROW.out x) ?_
          simp only [Act.put, List.setIfInBounds_toArray, List.set_cons_zero, List.set_cons_succ]
          go_big_quiet_on
          repeat (first | go_big_quiet_step ((exact calls_later _ (refBlock_any st H8.out ck _ hc64.out))) | quiet_step (fail))
          refine wpQuiet_nil ?_
          intro w3 hx
          have hw3 : Below wr.heap.size wr w3 := by
            obtain ⟨x, rfl⟩ := hx
            exact x.property
          clear hx HROW
          have hblk3 := hblk.below hw3 hblk.lt
          have hb3 := hbw.trans (hw3.mono hbw.size)
          have hs3 := hw3.size
          have HB8 : Hid ((blk st ck).length = 8) := blk_length _ _ H8.out
          go_wp2_with (refine wpList_store_row rfl 44 (.tmp 3) (.tmp 42) rfl w.heap.size (words (blk st ck)) rfl rfl 44 _ hblk3 (by rw [words_size, HB8.out]; exact info44) (by rw [words_size, words_size, HB8.out, H8.out]) (words_one _) ?_)
          obtain rfl := HR.out
          go_roundw
          case rel =>
            refine ⟨k + 1, by omega, by go_num, ?_, below_setRow' hb3 _ (Nat.le_refl _) _, by simp; omega⟩
            rw [stN_succ, HST.out, HCK.out]
            exact hblk3.setRow _
          case measure => simp [intOf]; omega
        · obtain rfl : k = N := by omega
          clear hlt hk
          have H8 := Lib.hid (stN_length L k)
          have HF : Hid (outB (stN L k) = sha l) := by
            show _ = _
            rw [sha, HLL.out, HN.out, Nat.mul_div_cancel_left _ (by decide)]
          obtain ⟨st, HST⟩ : ∃ st, Hid (stN L k = st) := ⟨_, Lib.hid rfl⟩
          rw [HST.out] at H8 hblk HF
          go_wp2_with (refine wpList_load_row rfl 44 _ rfl w.heap.size rfl 44 (words st) (0, 0) _ hblk Try.underlying44 rfl (by rw [words_size, H8.out]; exact info44) ?_)
          go_loopw [7, 44] (fun v i wr => ∃ j : Nat, j ≤ 8 ∧ i = .int .i64 j ∧ OwnB wr (w.heap.size + 1) v (outB (st.take j)) ∧ Below w.heap.size w wr ∧ w.heap.size + 2 ≤ wr.heap.size) (fun _ i _ => 8 - (intOf i).toNat)
          case atStart => exact ⟨0, by omega, rfl, OwnB.nil _ _, hbw, hsz⟩
          case round =>
            clear hbw hsz hblk
            obtain ⟨j, hj, rfl, hown, hbw, hsz⟩ := hrel
            by_cases hlt : j < 8
            · have hidx := run_index_words44 st j H8.out hlt
              obtain ⟨x, HX⟩ : ∃ x, Hid (st.getD j 0 = x) := ⟨_, Lib.hid rfl⟩
              rw [HX.out] at hidx
              refine hide_post fun R HR => ?_
              go_wp2_with (at_builtin; refine wpList_append_B _ rfl _ _ rfl (w.heap.size + 1) _ _ rfl (hown.alloc _) ⟨wr.heap.size, 0, none⟩ 4 4 (wordB x) rfl rfl ?e1 ?e2 ?e3 ?_)
              case e1 => exact news_word wr x
              case e2 => rw [outB_length, List.length_take]; omega
              case e3 => simp; omega
              intro v1 w1 hown1 hg1
              go_wp2
              obtain rfl := HR.out
              go_roundw
              case rel =>
                refine ⟨j + 1, by omega, by go_num, by rw [outB_succ st j (by rw [H8.out]; exact hlt), HX.out]; exact hown1, (hbw.alloc (by omega) _).grown hg1 (by simp; omega) (fun k hk => by have := (hown.lt k hk).1; omega), by have := hg1.size; simp at this; omega⟩
              case measure => simp [intOf]; omega
            · obtain rfl : j = 8 := by omega
              clear hlt hj
              rw [List.take_of_length_le (by rw [H8.out]; exact Nat.le_refl _), HF.out] at hown
              obtain ⟨p1, cap1, rfl⟩ := hown.form
              have hconv := run_string_B wr _ _ _ hown
              go_wp2
              go_ret
              exact ⟨rfl, hbw⟩
end Go.Proofs.Ytlpdbkhpchmpmaa
