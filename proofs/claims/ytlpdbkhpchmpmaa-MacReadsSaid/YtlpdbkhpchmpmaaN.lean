/-
  Bytes as letters: what mac.groups answers, state by state.
-/
import Derived.Test.YtlpdbkhpchmpmaaL
namespace Go.Proofs.Ytlpdbkhpchmpmaa
open Go.RowKit
set_option linter.unusedVariables false

/-! ### the plain law -/
/-- As many letters as there are in the bits at hand. -/
def emit (w : Nat) (al : List UInt8) : Nat → Nat → Nat → List UInt8 → Nat × Nat × List UInt8
  | 0, now, hv, out => (now, hv, out)
  | f + 1, now, hv, out => if w ≤ hv then emit w al f (now % 2 ^ (hv - w)) (hv - w) (out ++ [al.getD (now / 2 ^ (hv - w)) 0]) else (now, hv, out)
theorem emit_stop (w : Nat) (al : List UInt8) (f now hv : Nat) (out : List UInt8) (h : hv < w) : emit w al f now hv out = (now, hv, out) := by
  cases f with
  | zero => rfl
  | succ f => rw [emit, if_neg (by omega)]
theorem emit_go (w : Nat) (al : List UInt8) (f now hv : Nat) (out : List UInt8) (h : w ≤ hv) : emit w al (f + 1) now hv out = emit w al f (now % 2 ^ (hv - w)) (hv - w) (out ++ [al.getD (now / 2 ^ (hv - w)) 0]) := by
  rw [emit, if_pos h]
def gstep (w : Nat) (al : List UInt8) (st : Nat × Nat × List UInt8) (c : UInt8) : Nat × Nat × List UInt8 := emit w al (st.2.1 + 8) (st.1 * 256 + c.toNat) (st.2.1 + 8) st.2.2
def gfold (w : Nat) (al : List UInt8) (l : List UInt8) : Nat × Nat × List UInt8 := l.foldl (gstep w al) (0, 0, [])
def groupsL (w : Nat) (al l : List UInt8) : List UInt8 :=
  if 0 < (gfold w al l).2.1 then (gfold w al l).2.2 ++ [al.getD ((gfold w al l).1 * 2 ^ (w - (gfold w al l).2.1)) 0] else (gfold w al l).2.2
theorem gfold_snoc (w : Nat) (al l : List UInt8) (c : UInt8) : gfold w al (l ++ [c]) = gstep w al (gfold w al l) c := by simp [gfold]
theorem gfold_take (w : Nat) (al l : List UInt8) (k : Nat) (h : k < l.length) : gfold w al (l.take (k + 1)) = gstep w al (gfold w al (l.take k)) (l.getD k 0) := by
  rw [List.take_succ_eq_append_getElem h, gfold_snoc]
  simp [h]
/-- What is at hand is less than a letter, and so many letters are out. -/
def GOk (w : Nat) (n : Nat) (st : Nat × Nat × List UInt8) : Prop := st.1 < 2 ^ st.2.1 ∧ st.2.1 < w ∧ st.2.2.length * w + st.2.1 = 8 * n
theorem emit_ok (w : Nat) (hw : 0 < w) (al : List UInt8) (n : Nat) : ∀ (f now hv : Nat) (out : List UInt8), hv ≤ f → now < 2 ^ hv → out.length * w + hv = 8 * n → GOk w n (emit w al f now hv out)
  | 0, now, hv, out, hf, hn, hl => by
    rw [emit]
    exact ⟨hn, by show hv < w; omega, hl⟩
  | f + 1, now, hv, out, hf, hn, hl => by
    by_cases h : w ≤ hv
    · rw [emit_go _ _ _ _ _ _ h]
      refine emit_ok w hw al n f _ _ _ (by omega) (Nat.mod_lt _ (Nat.pow_pos (by decide))) ?_
      rw [List.length_append, List.length_singleton, Nat.add_mul]
      omega
    · rw [emit_stop _ _ _ _ _ _ (by omega)]
      exact ⟨hn, by show hv < w; omega, hl⟩
theorem gstep_ok (w : Nat) (hw : 0 < w) (al : List UInt8) (n : Nat) (st : Nat × Nat × List UInt8) (c : UInt8) (h : GOk w n st) : GOk w (n + 1) (gstep w al st c) := by
  refine emit_ok w hw al (n + 1) _ _ _ _ (Nat.le_refl _) ?_ (by have := h.2.2; omega)
  have h1 := h.1
  have h2 : c.toNat < 256 := c.toNat_lt
  rw [Nat.pow_add]
  show st.1 * 256 + c.toNat < 2 ^ st.2.1 * 256
  omega
theorem gfold_ok (w : Nat) (hw : 0 < w) (al l : List UInt8) : GOk w l.length (gfold w al l) := by
  rw [← List.reverse_reverse l]
  generalize l.reverse = r
  induction r with
  | nil => exact ⟨by simp [gfold], hw, by simp [gfold]⟩
  | cons c r ih =>
    rw [List.reverse_cons, gfold_snoc, List.length_append, List.length_singleton]
    exact gstep_ok w hw al _ _ _ ih
theorem gfold_nil (w : Nat) (al : List UInt8) : gfold w al [] = (0, 0, []) := rfl
attribute [irreducible] gfold
theorem ofInt_i64 (a : Nat) (ha : a < 9223372036854775808) : (BitVec.ofInt 64 (a : Int)).toNat = a := by
  rw [BitVec.ofInt_natCast, BitVec.toNat_ofNat]; exact Nat.mod_eq_of_lt (by omega)
theorem i64_and_nat (a b : Nat) (ha : a < 9223372036854775808) (hb : b < 9223372036854775808) : bits .and .i64 (a : Int) (b : Int) = ((a &&& b : Nat) : Int) := by
  have hx : a &&& b < 2 ^ 63 := Nat.and_lt_two_pow _ (by omega)
  show IntKind.i64.wrap ((BitVec.ofInt 64 (a : Int) &&& BitVec.ofInt 64 (b : Int)).toNat : Int) = _
  rw [BitVec.toNat_and, ofInt_i64 a ha, ofInt_i64 b hb, IntKind.wrap_i64]
  omega
theorem i64_or_nat (a b : Nat) (ha : a < 9223372036854775808) (hb : b < 9223372036854775808) : bits .or .i64 (a : Int) (b : Int) = ((a ||| b : Nat) : Int) := by
  have hx : a ||| b < 2 ^ 63 := Nat.or_lt_two_pow (by omega) (by omega)
  show IntKind.i64.wrap ((BitVec.ofInt 64 (a : Int) ||| BitVec.ofInt 64 (b : Int)).toNat : Int) = _
  rw [BitVec.toNat_or, ofInt_i64 a ha, ofInt_i64 b hb, IntKind.wrap_i64]
  omega
theorem or_join (n c : Nat) (hn : n < 1048576) (hc : c < 256) : bits .or .i64 ((n : Int) * 256) (c : Int) = ((n * 256 + c : Nat) : Int) := by
  have e : (n : Int) * 256 = ((n * 256 : Nat) : Int) := by omega
  rw [e, i64_or_nat _ _ (by omega) (by omega)]
  congr 1
  have := Nat.shiftLeft_add_eq_or_of_lt (show c < 2 ^ 8 by omega) n
  rw [Nat.shiftLeft_eq] at this
  exact this.symm
theorem and_mask (n d : Nat) (hn : n < 1048576) (hd : d ≤ 20) : bits .and .i64 (n : Int) ((2 : Int) ^ d - 1) = ((n % 2 ^ d : Nat) : Int) := by
  have h1 : 0 < 2 ^ d := Nat.pow_pos (by decide)
  have h2 : 2 ^ d ≤ 2 ^ 20 := Nat.pow_le_pow_right (by decide) hd
  have e : (2 : Int) ^ d - 1 = ((2 ^ d - 1 : Nat) : Int) := by
    rw [Int.natCast_sub h1]
    simp
  rw [e, i64_and_nat _ _ (by omega) (by omega), Nat.and_two_pow_sub_one_eq_mod]
theorem and_mask' (n d : Nat) (hn : n < 1048576) (hd : d ≤ 20) : bits .and .i64 (n : Int) (wrap64 (wrap64 ((2 : Int) ^ d) - 1)) = ((n % 2 ^ d : Nat) : Int) := by
  have h1 : 0 < 2 ^ d := Nat.pow_pos (by decide)
  have h2 : 2 ^ d ≤ 2 ^ 20 := Nat.pow_le_pow_right (by decide) hd
  have e : (2 : Int) ^ d = ((2 ^ d : Nat) : Int) := by simp
  have e1 : wrap64 ((2 : Int) ^ d) = (2 : Int) ^ d := by rw [e]; unfold wrap64; omega
  have e2 : wrap64 ((2 : Int) ^ d - 1) = (2 : Int) ^ d - 1 := by rw [e]; unfold wrap64; omega
  rw [e1, e2]
  exact and_mask n d hn hd

set_option maxRecDepth 100000
set_option maxHeartbeats 4000000
theorem groups_any (s al : ByteArray) (wd : Nat) (w : World) (hw1 : 1 ≤ wd) (hw2 : wd ≤ 6) (hal : al.size = 2 ^ wd) (hlen : 8 * s.size ≤ wd * 140737488351232) :
    Calls Try.prog 45 #[.string s, .int .i64 wd, .string al] w fun e w' => e = .returned (.string (strOf (groupsL wd al.data.toList s.data.toList))) ∧ Below w.heap.size w w' := by
  have hl : s.data.toList.length = s.size := by simp
  obtain ⟨l, HL⟩ : ∃ l, Hid (s.data.toList = l) := ⟨_, Lib.hid rfl⟩
  obtain ⟨a, HA⟩ : ∃ l, Hid (al.data.toList = l) := ⟨_, Lib.hid rfl⟩
  rw [HL.out] at hl ⊢
  rw [HA.out]
  have HLS := Lib.hid hl; clear hl
  have HAL := Lib.hid hal; clear hal
  have w1 : (1 : Int) ≤ (wd : Int) := by omega
  have w2 : (wd : Int) ≤ 6 := by omega
  go_enter Try.func45, Try.ntmps45
  go_wp2
  have hb0 := Lib.fresh_isBuilder 57 5 w
  go_loopw [8, 9, 13] (fun v h i wr => ∃ (k : Nat), k ≤ s.size ∧ i = .int .i64 k ∧ v = .int .i64 ((gfold wd a (l.take k)).1 : Nat) ∧ h = .int .i64 ((gfold wd a (l.take k)).2.1 : Nat) ∧
      Lib.IsBuilder 57 5 w.heap.size w.heap.size (Lib.byteCells (gfold wd a (l.take k)).2.2) wr ∧ Below w.heap.size w wr) (fun _ _ i _ => s.size - (intOf i).toNat)
  case atStart => exact ⟨0, by omega, rfl, by rw [List.take_zero, gfold_nil]; rfl, by rw [List.take_zero, gfold_nil]; rfl, by rw [List.take_zero, gfold_nil]; exact hb0, (Below.refl _ _).alloc (Nat.le_refl _) _⟩
  case round =>
    clear hb0
    obtain ⟨k, hk, rfl, rfl, rfl, hB, hnx⟩ := hrel
    have hok := gfold_ok wd (by omega) a (l.take k)
    obtain ⟨now, hv, out, HG⟩ : ∃ a' b c, Hid (gfold wd a (l.take k) = (a', b, c)) := ⟨_, _, _, Lib.hid rfl⟩
    rw [HG.out] at hok hB ⊢
    dsimp only at hB ⊢
    obtain ⟨g1, g2, g3⟩ := hok
    dsimp only at g1 g2 g3
    have g4 : now < 2 ^ 6 := Nat.lt_of_lt_of_le g1 (Nat.pow_le_pow_right (by decide) (by omega))
    rw [List.length_take, HLS.out, Nat.min_eq_left hk] at g3
    by_cases hlt : k < s.size
    · obtain ⟨c, HC⟩ : ∃ c, Hid (l.getD k 0 = c) := ⟨_, Lib.hid rfl⟩
      have hsk : s[k] = c := by
        rw [← HC.out, ← HL.out, List.getD_eq_getElem?_getD, List.getElem?_eq_getElem (by simpa using hlt), Option.getD_some]
        rfl
      have hc256 : c.toNat < 256 := c.toNat_lt
      have hor := or_join now c.toNat (by omega) hc256
      have HT : Hid (gfold wd a (l.take (k + 1)) = emit wd a (hv + 8) (now * 256 + c.toNat) (hv + 8) out) := by
        show _ = _
        rw [gfold_take _ _ _ _ (by rw [HLS.out]; exact hlt), HG.out, HC.out]
        rfl
      have n0 : (0 : Int) ≤ (now : Int) := by omega
      have n1 : (now : Int) < 64 := by omega
      have v0 : (hv : Int) ≤ 5 := by omega
      refine hide_post fun R HR => ?_
      go_wp2
      obtain ⟨wo, rfl⟩ : ∃ wo : World, wo = wr := ⟨_, rfl⟩
      obtain ⟨T, HTT⟩ : ∃ T, Hid (gfold wd a (l.take (k + 1)) = T) := ⟨_, Lib.hid rfl⟩
      have HE0 : Hid (emit wd a (hv + 8) (now * 256 + c.toNat) (hv + 8) out = T) := by show _ = _; rw [← HTT.out, HT.out]
      have hb8 : now * 256 + c.toNat < 2 ^ (hv + 8) := by rw [Nat.pow_add]; omega
      go_loopw [8, 9] (fun v h wr => ∃ (f n' h' : Nat) (o' : List UInt8), v = .int .i64 (n' : Nat) ∧ h = .int .i64 (h' : Nat) ∧ h' ≤ f ∧ h' ≤ 13 ∧ n' < 2 ^ h' ∧ o'.length * wd + h' = 8 * (k + 1) ∧ Hid (emit wd a f n' h' o' = T) ∧
          Lib.IsBuilder 57 5 w.heap.size w.heap.size (Lib.byteCells o') wr ∧ Below w.heap.size w wr) (fun _ h _ => (intOf h).toNat)
      case atStart => exact ⟨hv + 8, now * 256 + c.toNat, hv + 8, out, by go_num, by go_num, Nat.le_refl _, by omega, hb8, by omega, HE0, hB, hnx⟩
      case round =>
        clear HE0 hb8 hB hnx HT hor hsk n0 n1 v0 g1 g2 g3 g4 HG
        obtain ⟨f, n', h', o', rfl, rfl, hf, h13, hn', ho', HE, hB, hnx⟩ := hrel
        by_cases hge : wd ≤ h'
        · obtain ⟨d, rfl⟩ : ∃ d, h' = d + wd := ⟨h' - wd, by omega⟩
          obtain ⟨f, rfl⟩ : ∃ f', f = f' + 1 := ⟨f - 1, by omega⟩
          have hE2 := HE.out
          rw [emit_go _ _ _ _ _ _ hge, Nat.add_sub_cancel] at hE2
          replace hE2 := Lib.hid hE2
          have hpow : Hid (n' < 2 ^ d * 2 ^ wd) := by show _ < _; rw [← Nat.pow_add]; exact hn'
          have hd0 : 0 < 2 ^ d := Nat.pow_pos (by decide)
          have hdiv : n' / 2 ^ d < 2 ^ wd := by rw [Nat.div_lt_iff_lt_mul hd0, Nat.mul_comm]; exact hpow.out
          have hn20 : n' < 1048576 := Nat.lt_of_lt_of_le hn' (Nat.le_trans (Nat.pow_le_pow_right (by decide) h13) (by decide))
          have hmask := and_mask' n' d hn20 (by omega)
          obtain ⟨ix, HIX⟩ : ∃ x, Hid (n' / 2 ^ d = x) := ⟨_, Lib.hid rfl⟩
          have hixI : (n' : Int) / 2 ^ d = (ix : Int) := by rw [← HIX.out]; simp
          have hix : (ix : Int) < (al.size : Int) := by rw [HAL.out]; have := HIX.out; omega
          have ix0 : (0 : Int) ≤ (ix : Int) := by omega
          clear hn' hpow hd0 hdiv
          have d0 : (d : Int) ≤ 13 := by omega
          have d1 : (0 : Int) ≤ (d : Int) := by omega
          refine hide_post fun R' HR' => ?_
          have hixN : ix < al.size := by omega
          obtain ⟨ch, HCH⟩ : ∃ x, Hid (a.getD ix 0 = x) := ⟨_, Lib.hid rfl⟩
          have hai : al[ix] = ch := by
            rw [← HCH.out, ← HA.out, List.getD_eq_getElem?_getD, List.getElem?_eq_getElem (by simpa using hixN), Option.getD_some]
            rfl
          have hcells : Hid (Lib.byteCells o' ++ [Value.int .u8 (ch.toNat : Int)] = Lib.byteCells (o' ++ [ch])) := by show _ = _; simp [Lib.byteCells]
          have hsz := hnx.size
          have holen : Hid ((Lib.byteCells o').length + 1 ≤ 140737488355328) := by
            show _ ≤ _
            simp only [Lib.byteCells, List.length_map]
            have : o'.length ≤ 140737488351232 := by
              refine Nat.le_of_mul_le_mul_right (c := wd) ?_ (by omega)
              omega
            omega
          have HOL : Hid ((o' ++ [ch]).length * wd + d = 8 * (k + 1)) := by
            show _ = _
            rw [List.length_append, List.length_singleton, Nat.add_mul]
            omega
          go_wp2_with fail
          refine (WriteByte_any w.heap.size w.heap.size _ (ch.toNat : Int) wr hB holen.out hsz).mono ?_
          rintro e w2 ⟨rfl, hB2, hb2⟩
          rw [hcells.out] at hB2
          have hnx2 := hnx.trans hb2
          clear hB hb2 hnx
          go_wp2
          obtain rfl := HR'.out
          go_roundw
          case rel => exact ⟨f, _, d, o' ++ [ch], rfl, rfl, by omega, by omega, Nat.mod_lt _ (Nat.pow_pos (by decide)), HOL.out, by rw [HIX.out, HCH.out] at hE2; exact hE2, .inr hB2, hnx2⟩
          case measure => simp [intOf]; omega
        · have HS : Hid ((n', h', o') = T) := by
            show _ = _
            rw [← HE.out, emit_stop _ _ _ _ _ _ (by omega)]
          refine hide_post fun R' HR' => ?_
          go_wp2
          obtain rfl := HR.out
          go_roundw
          case rel => exact ⟨k + 1, hlt, by go_num, by rw [HTT.out, ← HS.out], by rw [HTT.out, ← HS.out], by rw [HTT.out, ← HS.out]; exact hB, hnx⟩
          case measure => simp [intOf]; omega
    · obtain rfl : k = s.size := by omega
      clear hlt hk
      have HTL : Hid (l.take s.size = l) := by show _ = _; rw [← HLS.out, List.take_length]
      rw [HTL.out] at HG
      have hsz := hnx.size
      have holen : out.length ≤ 140737488351232 := by
        refine Nat.le_of_mul_le_mul_right (c := wd) ?_ (by omega)
        omega
      by_cases hpos : 0 < hv
      · have HF : Hid (groupsL wd a l = out ++ [a.getD (now * 2 ^ (wd - hv)) 0]) := by
          show _ = _
          unfold groupsL
          rw [HG.out, if_pos hpos]
        obtain ⟨d, hd⟩ : ∃ d, wd = hv + d := ⟨wd - hv, by omega⟩
        have hix0 : now * 2 ^ d < 2 ^ wd := by
          rw [hd, Nat.pow_add]
          exact Nat.mul_lt_mul_of_pos_right g1 (Nat.pow_pos (by decide))
        have h2d : 2 ^ d ≤ 2 ^ 6 := Nat.pow_le_pow_right (by decide) (by omega)
        obtain ⟨ix, HIX⟩ : ∃ x, Hid (now * 2 ^ d = x) := ⟨_, Lib.hid rfl⟩
        rw [HIX.out] at hix0
        have hdI : (wd : Int) - (hv : Int) = (d : Int) := by omega
        have hixI : (now : Int) * 2 ^ d = (ix : Int) := by rw [← HIX.out]; simp
        have hix : (ix : Int) < (al.size : Int) := by rw [HAL.out]; omega
        have hixN : ix < al.size := by omega
        have ix0 : (0 : Int) ≤ (ix : Int) := by omega
        have ix1 : (ix : Int) < 1000 := by
          have : 2 ^ wd ≤ 2 ^ 6 := Nat.pow_le_pow_right (by decide) hw2
          omega
        obtain ⟨ch, HCH⟩ : ∃ x, Hid (a.getD ix 0 = x) := ⟨_, Lib.hid rfl⟩
        have hai : al[ix] = ch := by
          rw [← HCH.out, ← HA.out, List.getD_eq_getElem?_getD, List.getElem?_eq_getElem (by simpa using hixN), Option.getD_some]
          rfl
        rw [show wd - hv = d by omega, HIX.out, HCH.out] at HF
        have hcells : Hid (Lib.byteCells out ++ [Value.int .u8 (ch.toNat : Int)] = Lib.byteCells (out ++ [ch])) := by show _ = _; simp [Lib.byteCells]
        have HL1 : Hid ((Lib.byteCells out).length + 1 ≤ 140737488355328) := by show _ ≤ _; simp only [Lib.byteCells, List.length_map]; omega
        have hp0 : (0 : Int) < (hv : Int) := by omega
        have hd2 : (hv : Int) ≤ (wd : Int) := by omega
        have HD := Lib.hid hd; clear hd
        clear g1 g3 g4 h2d hix0
        go_wp2_with fail
        refine (WriteByte_any w.heap.size w.heap.size _ (ch.toNat : Int) wr hB HL1.out hsz).mono ?_
        rintro e w2 ⟨rfl, hB2, hb2⟩
        rw [hcells.out] at hB2
        have hnx2 := hnx.trans hb2
        clear hB hb2 hnx
        have hS := Lib.hid (Try.Builder_String_any w.heap.size w.heap.size (out ++ [ch]) w2 (.inr hB2) hnx2.size)
        go_wp2_with fail
        refine hS.out.mono ?_
        rintro e w3 ⟨rfl, hb3⟩
        go_wp2
        go_ret
        refine ⟨?_, hnx2.trans hb3⟩
        rw [HF.out]
        rfl
      · have HF : Hid (groupsL wd a l = out) := by
          show _ = _
          unfold groupsL
          rw [HG.out, if_neg hpos]
        have hp0 : ¬ (0 : Int) < (hv : Int) := by omega
        have hS := Lib.hid (Try.Builder_String_any w.heap.size w.heap.size out wr hB hsz)
        clear g1 g3 g4
        go_wp2_with fail
        refine hS.out.mono ?_
        rintro e w3 ⟨rfl, hb3⟩
        go_wp2
        go_ret
        refine ⟨?_, hnx.trans hb3⟩
        rw [HF.out]
        rfl
end Go.Proofs.Ytlpdbkhpchmpmaa
