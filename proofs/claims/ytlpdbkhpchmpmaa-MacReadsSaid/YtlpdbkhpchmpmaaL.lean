/-
  New, Len, Fork and Sum of a Hasher: Sum is SHA-256 of what was written.
-/
import Derived.Test.YtlpdbkhpchmpmaaK
import Derived.Test.YtlpdbkhpchmpmaaF
namespace Go.Proofs.Ytlpdbkhpchmpmaa
open Go.RowKit
set_option linter.unusedVariables false

/-- A new Hasher's address. -/
def NewH (w : World) (l : List UInt8) (e : Ending) (w' : World) : Prop := ∃ g, e = .returned (.pointer (some ⟨g, 0, none⟩)) ∧ w.heap.size ≤ g ∧ IsH w' g l ∧ Below w.heap.size w w'
theorem rest_zero : Rest [] (List.replicate 64 0) := ⟨by simp, rfl⟩
set_option maxRecDepth 100000 in
theorem New_any (w : World) : Calls Try.prog 14 #[] w (NewH w []) := by
  obtain ⟨c, HC⟩ : ∃ c, Hid (hcells hTab (List.replicate 64 0) 0 0 = c) := ⟨_, Lib.hid rfl⟩
  go_enter Try.func14, Try.ntmps14
  go_wp2_with (first
    | (go_at_call 36; refine (macFirst_any _).mono ?_; rintro e w1 ⟨rfl, hnx⟩)
    | (refine wpList_built rfl 53 _ rfl (hcells hTab (List.replicate 64 0) 0 0) (by kernel_rfl) ?_; rw [HC.out]))
  go_ret
  have hs := hnx.size
  refine ⟨_, rfl, hs, ⟨List.replicate 64 0, rest_zero, ?_⟩, hnx.alloc hs _⟩
  show Blk _ _ 53 (hcells (stN [] 0) _ 0 0)
  rw [stN_zero, HC.out]
  exact Blk.new w1 53 c

set_option maxRecDepth 100000 in
theorem Len_any (g : Nat) (l : List UInt8) (w : World) (h : IsH w g l) : Calls Try.prog 18 #[.pointer (some ⟨g, 0, none⟩)] w fun e w' => e = .returned (.int .i64 l.length) ∧ w = w' := by
  obtain ⟨rs, hr, hb⟩ := h
  have c73 := hb.cell 73
  rw [hcells_all _ _ _ _ (stN_length _ _) hr.1] at c73
  clear hb hr
  go_enter Try.func18, Try.ntmps18
  go_wp2
  go_ret
  exact ⟨rfl, rfl⟩

theorem info53 : (Try.prog.info? 53).map (·.size) = some 75 := by kernel_rfl
set_option maxRecDepth 100000 in
set_option maxHeartbeats 1000000 in
theorem Fork_any (g : Nat) (l : List UInt8) (w : World) (h : IsH w g l) : Calls Try.prog 15 #[.pointer (some ⟨g, 0, none⟩)] w (NewH w l) := by
  obtain ⟨rs, hr, hb⟩ := h
  have H1 : ∃ c : Array Value, Hid (c.size = 75) ∧ ∀ w, (zeroValue 53).run Try.prog w = .ok (.agg c) w := ⟨hcells (List.replicate 8 0) (List.replicate 64 0) 0 0 |>.setIfInBounds 74 (.bool false), by show _ = _; kernel_rfl, fun w => by kernel_rfl⟩
  obtain ⟨z, HZ, hz⟩ := H1
  have HS := Lib.hid (hcells_size (stN l (l.length / 64)) rs (l.length % 64) l.length (stN_length _ _) hr.1)
  obtain ⟨cs, HCS⟩ : ∃ c, Hid (hcells (stN l (l.length / 64)) rs (l.length % 64) l.length = c) := ⟨_, Lib.hid rfl⟩
  have H1c := Lib.hid (hcells_one (stN l (l.length / 64)) rs (l.length % 64) l.length)
  rw [HCS.out] at hb HS H1c
  go_enter Try.func15, Try.ntmps15
  go_wp2_with (first
    | (refine wpList_load_row rfl 53 _ rfl g rfl 53 cs (0, 0) _ hb Try.underlying53 rfl (by rw [HS.out]; exact info53) ?_)
    | (refine wpList_store_row rfl 53 _ _ rfl w.heap.size cs rfl rfl 53 _ (heap_alloc_last w _) (by rw [HS.out]; exact info53) (by rw [HS.out]; exact HZ.out) H1c.out ?_; rw [World.setRow_alloc_new]))
  go_ret
  refine ⟨_, rfl, Nat.le_refl _, ⟨rs, hr, ?_⟩, (Below.refl _ _).alloc (Nat.le_refl _) _⟩
  rw [HCS.out]
  exact Blk.new w 53 cs

/-! ### the sum -/
theorem run_index_words (st : List Int) (k : Nat) (h : st.length = 8) (hk : k < 8) (w : World) : (Instr.index 49 (.agg (words st)) (.int .i64 (k : Int))).run Try.prog w = .ok (.int .u32 (st.getD k 0)) w := by
  have h0 : (0 : Int) ≤ (k : Int) ∧ (k : Int) < 8 := by omega
  have hs : (sizeOf 43).run Try.prog w = .ok 1 w := by kernel_rfl
  have ha : (isAgg 43).run Try.prog w = .ok false w := by kernel_rfl
  have hg := words_get st k (by omega)
  simp [Instr.index, asIntOf, run_underlying Try.underlying49, h0, part, hs, hg]
  omega
theorem word_cut (x : Int) : (strOf (be8 (x % 18446744073709551616))).extract 4 8 = strOf (wordB x) := by
  apply ByteArray.ext
  apply Array.toList_inj.1
  rw [← wordB_eq]
  rw [Lib.extract_data]
  show List.take 4 (List.drop 4 (be8 (x % 18446744073709551616)).toArray.toList) = _
  rw [List.toList_toArray, List.take_of_length_le (by rw [List.length_drop, be8_length]; decide)]
  simp [strOf]
theorem outB_succ (st : List Int) (k : Nat) (h : k < st.length) : outB (st.take (k + 1)) = outB (st.take k) ++ wordB (st.getD k 0) := by
  unfold outB
  rw [List.take_succ_eq_append_getElem h, List.flatMap_append]
  simp [h]
theorem cells_word (bs : List UInt8) (x : Int) : Lib.byteCells bs ++ Lib.strCells (strOf (wordB x)) = Lib.byteCells (bs ++ wordB x) := by
  simp [Lib.byteCells, Lib.strCells, strOf]
theorem builder_below {T e : TypeId} {B b : Nat} {bs : List Value} {w w' : World} (h : Lib.IsBuilder T e B b bs w) (hb : Below w.heap.size w w') : Lib.IsBuilder T e B b bs w' := by
  have key : ∀ p, Lib.BuilderAt T e B b p bs w → Lib.BuilderAt T e B b p bs w' := by
    rintro p ⟨hB, v, hbk, hown, hne⟩
    have hlt : b < w.heap.size := (Array.getElem?_eq_some_iff.1 hbk).1
    refine ⟨hB, v, (hb.block b hlt).trans hbk, ?_, hne⟩
    refine hown.kept (row := none) ⟨hb.os, hb.tape, hb.output, hb.size, fun k hk _ => hb.block k hk⟩ ?_
    cases hv : v.ownBlock with
    | none => exact .inl rfl
    | some k => exact .inr (by simp)
  rcases h with h | h
  · exact .inl (key _ h)
  · exact .inr (key _ h)
theorem zerosN_lt (n : Nat) : zerosN n < 64 := by unfold zerosN; omega
theorem strOf_add (a b : List UInt8) : strOf a ++ strOf b = strOf (a ++ b) := by
  apply ByteArray.ext
  simp [strOf]
theorem repeat_zero (c : Nat) : Lib.repeatL [0] c = List.replicate c 0 := by
  induction c with
  | zero => rfl
  | succ c ih => simp [Lib.repeatL, ih, List.replicate_succ]
theorem Repeat0_any (c : Nat) (w : World) (hc : c ≤ 1000) :
    Calls Try.prog 39 #[.string ⟨#[0]⟩, .int .i64 c] w fun e w' => e = .returned (.string (strOf (List.replicate c 0))) ∧ Below w.heap.size w w' := by
  refine (Try.strings_Repeat ⟨#[0]⟩ c w (by omega) (by show 1 * c ≤ _; omega)).mono fun e w' ⟨he, hb⟩ => ⟨?_, hb⟩
  rw [he]
  show _ = Ending.returned (.string (strOf _))
  rw [← repeat_zero]
  rfl

set_option maxRecDepth 100000
set_option maxHeartbeats 4000000
theorem HSum_any (g : Nat) (l : List UInt8) (w : World) (h : IsH w g l) (hlen : l.length ≤ 4611686018427387904) :
    Calls Try.prog 17 #[.pointer (some ⟨g, 0, none⟩)] w fun e w' => e = .returned (.string (strOf (sha l))) ∧ Below w.heap.size w w' := by
  obtain ⟨rs, hr, hb⟩ := h
  have hg0 := hb.lt
  have c74 := hb.cell 74
  rw [hcells_made _ _ _ _ (stN_length _ _) hr.1] at c74
  have c73 := hb.cell 73
  rw [hcells_all _ _ _ _ (stN_length _ _) hr.1] at c73
  have c72 := hb.cell 72
  rw [hcells_n _ _ _ _ (stN_length _ _) hr.1] at c72
  have H1 : ∃ c : Array Value, Hid (c.size = 75) ∧ ∀ w, (zeroValue 53).run Try.prog w = .ok (.agg c) w := ⟨hcells (List.replicate 8 0) (List.replicate 64 0) 0 0 |>.setIfInBounds 74 (.bool false), by show _ = _; kernel_rfl, fun w => by kernel_rfl⟩
  obtain ⟨z, HZ, hz⟩ := H1
  have HS := Lib.hid (hcells_size (stN l (l.length / 64)) rs (l.length % 64) l.length (stN_length _ _) hr.1)
  obtain ⟨cs, HCS⟩ : ∃ c, Hid (hcells (stN l (l.length / 64)) rs (l.length % 64) l.length = c) := ⟨_, Lib.hid rfl⟩
  have H1c := Lib.hid (hcells_one (stN l (l.length / 64)) rs (l.length % 64) l.length)
  rw [HCS.out] at hb HS H1c
  have HR := Lib.hid hr; clear hr
  obtain ⟨n, HN⟩ : ∃ n, Hid (l.length % 64 = n) := ⟨_, Lib.hid rfl⟩
  rw [HN.out] at c72
  have n1 : (n : Int) < 64 := by have := HN.out; omega
  obtain ⟨zz, HZZ⟩ : ∃ z, Hid (zerosN l.length = z) := ⟨_, Lib.hid rfl⟩
  have zq : (119 - (n : Int)) % 64 = (zz : Int) := by have := HZZ.out; have := HN.out; unfold zerosN at *; omega
  have zl : zz ≤ 1000 := by have := HZZ.out; unfold zerosN at *; omega
  have hRep : Hid (∀ w, Calls Try.prog 39 #[.string ⟨#[0]⟩, .int .i64 ((119 - (n : Int)) % 64)] w fun e w' => e = .returned (.string (strOf (List.replicate zz 0))) ∧ Below w.heap.size w w') := by
    intro w
    rw [zq]
    exact Repeat0_any zz w zl
  clear zq
  go_enter Try.func17, Try.ntmps17
  go_wp2_with (first
    | (go_at_call 37; refine (start_any g _ c74).mono ?_; rintro e w' ⟨rfl, rfl⟩)
    | (refine wpList_load_row rfl 53 _ rfl g rfl 53 cs (0, 0) _ hb Try.underlying53 rfl (by rw [HS.out]; exact info53) ?_)
    | (refine wpList_store_row rfl 53 _ _ rfl w.heap.size cs rfl rfl 53 _ (heap_alloc_last w _) (by rw [HS.out]; exact info53) (by rw [HS.out]; exact HZ.out) H1c.out ?_; rw [World.setRow_alloc_new]))
  have hc0 : HB (w.alloc (.cells cs 53)) w.heap.size l l.length := ⟨rs, HR.out, by rw [HCS.out]; exact Blk.new w 53 cs⟩
  have hn0 : Below w.heap.size w (w.alloc (.cells cs 53)) := (Below.refl _ _).alloc (Nat.le_refl _) _
  have d73 : (w.alloc (.cells cs 53)).cell? ⟨g, 73, none⟩ = some (.int .i64 l.length) := (hn0.cell hg0).trans c73
  obtain ⟨w3, HW3⟩ : ∃ w3, Hid (w.alloc (.cells cs 53) = w3) := ⟨_, Lib.hid rfl⟩
  have hw3s : w3.heap.size = w.heap.size + 1 := by rw [← HW3.out]; simp
  have HW3S := Lib.hid hw3s; clear hw3s
  rw [HW3.out] at hc0 hn0 d73 ⊢
  have s1 : (strOf (List.replicate zz 0)).size = zz := by rw [strOf_size]; simp
  have s2 : (⟨#[128]⟩ : ByteArray) ++ strOf (List.replicate zz 0) = strOf (128 :: List.replicate zz 0) := strOf_add [128] _
  have s3 : ¬ 9223372036854775807 < 1 + zz := by omega
  have s4 : (strOf (128 :: List.replicate zz 0)).size = zz + 1 := by rw [strOf_size]; simp
  have s5 : (strOf (be8 (8 * (l.length : Int) % 18446744073709551616))).size = 8 := by rw [strOf_size, be8_length]
  have s6 : ¬ 9223372036854775807 < zz + 1 + 8 := by omega
  have s7 : strOf (128 :: List.replicate zz 0) ++ strOf (be8 (8 * (l.length : Int) % 18446744073709551616)) = strOf (padL l.length) := by
    rw [strOf_add]
    unfold padL
    rw [HZZ.out]
    rfl
  have hl0 : (0 : Int) ≤ (l.length : Int) := by omega
  have hl1 : (l.length : Int) ≤ 4611686018427387904 := by omega
  obtain ⟨m8, HM8⟩ : ∃ m, Hid (8 * (l.length : Int) % 18446744073709551616 = m) := ⟨_, Lib.hid rfl⟩
  rw [HM8.out] at s5 s7
  have m0 : 0 ≤ m8 := by have := HM8.out; omega
  have m1 : m8 < 18446744073709551616 := by have := HM8.out; omega
  have hNum : Hid (∀ w, Calls Try.prog 40 #[.int .u64 (IntKind.u64.wrap (8 * (l.length : Int)))] w fun e w' => e = .returned (.string (strOf (be8 m8))) ∧ Below w.heap.size w w') := by
    intro w
    rw [IntKind.wrap_u64, HM8.out]
    exact macNumber_any m8 w m0 m1
  have M0 := Lib.hid m0; clear m0
  have M1 := Lib.hid m1; clear m1
  have d73x : ∀ x : Later w3, x.val.cell? ⟨g, 73, none⟩ = some (.int .i64 l.length) := fun x => x.cell d73
  clear hb c74 c73 c72 hz d73
  refine wp_region_quiet_tail (fun w' => ∃ x : Later w3, w' = x.val) 11 (by kernel_rfl) (by kernel_rfl) (later_drew w3) ?_
  simp only [List.take_succ_cons, List.take_zero, List.drop_succ_cons, List.drop_zero]
  repeat (first | go_big_quiet_step (first | (exact calls_later _ (hRep.out _)) | (exact calls_later _ (hNum.out _))) | quiet_step (fail))
  refine wpQuiet_nil ?_
  intro w4 hx
  have hw4 : Below w3.heap.size w3 w4 := by
    obtain ⟨x, rfl⟩ := hx
    exact x.property
  clear hx
  have hc4 : IsH w4 w.heap.size l := hc0.below hw4 hc0.lt
  have hn4 := hn0.trans (hw4.mono (by have := HW3S.out; omega))
  have HPL := Lib.hid (padL_length l.length)
  clear hc0 hn0 hw4 d73x s1 s2 s4 s5 s7
  go_wp2_with fail
  refine (Write_any w.heap.size l (strOf (padL l.length)) w4 hc4 (by rw [strOf_size, HPL.out]; have := zerosN_lt l.length; omega)).mono ?_
  rintro e w5 ⟨rfl, hc5, hg5⟩
  have hn5 : Below w.heap.size w w5 := hn4.trans ⟨hg5.os, hg5.tape, hg5.output, hg5.size, fun k hk => hg5.block k (by have := hc4.lt; omega) (by simp; omega)⟩
  obtain ⟨L, HLL⟩ : ∃ L, Hid (l ++ (strOf (padL l.length)).data.toList = L) := ⟨_, Lib.hid rfl⟩
  rw [HLL.out] at hc5
  obtain ⟨rs5, hr5, hb5⟩ := hc5
  obtain ⟨st, HST⟩ : ∃ st, Hid (stN L (L.length / 64) = st) := ⟨_, Lib.hid rfl⟩
  have H8 : Hid (st.length = 8) := by show _ = _; rw [← HST.out]; exact stN_length _ _
  rw [HST.out] at hb5
  have hrg := app_range (hb5.alloc (.cells #[.pointer none, .slice none 0 0] 57))
  clear hc4 hn4 hg5
  go_wp2_with (refine wpList_load_mid rfl 49 _ rfl w.heap.size 0 rfl (words st).toList _ hrg Try.underlying49 rfl (by rw [Array.length_toList, words_size, H8.out]; exact info49) ?_; rw [Array.toArray_toList])
  have hb0 := Lib.fresh_isBuilder 57 5 w5
  have hs5 := hn5.size
  have hn6 : Below w.heap.size w (w5.alloc (.cells #[.pointer none, .slice none 0 0] 57)) := hn5.alloc hs5 _
  go_loopw [35] (fun i wr => ∃ k : Nat, k ≤ 8 ∧ i = .int .i64 k ∧ Lib.IsBuilder 57 5 w5.heap.size w5.heap.size (Lib.byteCells (outB (st.take k))) wr ∧ Below w.heap.size w wr ∧ w5.heap.size ≤ wr.heap.size) (fun i _ => 8 - (intOf i).toNat)
  case atStart => exact ⟨0, by omega, rfl, hb0, hn6, by simp⟩
  case round =>
    clear hb0 hn6 hrg hb5 hn5
    obtain ⟨k, hk, rfl, hB, hnx, hsz⟩ := hrel
    by_cases hlt : k < 8
    · have hidx := run_index_words st k H8.out hlt
      obtain ⟨x, HX⟩ : ∃ x, Hid (st.getD k 0 = x) := ⟨_, Lib.hid rfl⟩
      rw [HX.out] at hidx
      refine hide_post fun R HR => ?_
      have hlenB := Lib.hid (show (Lib.byteCells (outB (st.take k))).length ≤ 32 by simp only [Lib.byteCells, List.length_map]; rw [outB_length, List.length_take]; omega)
      have hc8 : (strOf (be8 (x % 18446744073709551616))).size = 8 := by rw [strOf_size, be8_length]
      have hcut := word_cut x
      have hN2 : Hid (∀ w, Calls Try.prog 40 #[.int .u64 (IntKind.u64.wrap x)] w fun e w' => e = .returned (.string (strOf (be8 (x % 18446744073709551616)))) ∧ Below w.heap.size w w') := by
        intro w
        rw [IntKind.wrap_u64]
        exact macNumber_any _ w (by omega) (by omega)
      obtain ⟨V, HV⟩ : ∃ V, Hid (strOf (be8 (x % 18446744073709551616)) = V) := ⟨_, Lib.hid rfl⟩
      rw [HV.out] at hc8 hcut hN2
      go_wp2_with fail
      refine (hN2.out _).mono ?_
      rintro e w6 ⟨rfl, hb6⟩
      have hB6 : Lib.IsBuilder 57 5 w5.heap.size w5.heap.size (Lib.byteCells (outB (st.take k))) w6 := builder_below hB hb6
      have hs6 := hb6.size
      go_wp2_with fail
      refine (WriteString_any w5.heap.size w5.heap.size _ (strOf (wordB x)) w6 hB6 (by rw [strOf_size, wordB_length]; have := hlenB.out; omega) (by omega)).mono ?_
      rintro e w7 ⟨rfl, hB7, hb7⟩
      have hs7 := hb7.size
      go_wp2
      obtain rfl := HR.out
      go_roundw
      case rel =>
        refine ⟨k + 1, by omega, by go_num, ?_, (hnx.trans (hb6.mono hnx.size)).trans (hb7.mono hs5), by omega⟩
        rw [outB_succ st k (by rw [H8.out]; exact hlt), HX.out, ← cells_word]
        exact .inr hB7
      case measure => simp [intOf]; omega
    · obtain rfl : k = 8 := by omega
      clear hlt hk
      have HF : Hid (outB (st.take 8) = sha l) := by
        show _ = _
        rw [List.take_of_length_le (by rw [H8.out]; exact Nat.le_refl _), ← HST.out, ← HLL.out]
        rfl
      rw [HF.out] at hB
      have hSA := Try.Builder_String_any w5.heap.size w5.heap.size (sha l) wr hB hsz
      have HSA := Lib.hid hSA; clear hSA
      go_wp2_with fail
      refine HSA.out.mono ?_
      rintro e w6 ⟨rfl, hb6⟩
      go_wp2
      go_ret
      exact ⟨rfl, hnx.trans (hb6.mono hs5)⟩
end Go.Proofs.Ytlpdbkhpchmpmaa
