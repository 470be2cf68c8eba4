/-
  The reference's Base64: by the same groups as mac's.
-/
import Derived.Test.YtlpdbkhpchmpmaaO
namespace Go.Proofs.Ytlpdbkhpchmpmaa
open Go.RowKit
set_option linter.unusedVariables false
set_option maxRecDepth 100000
set_option maxHeartbeats 4000000

def b64S : ByteArray := ⟨#[65, 66, 67, 68, 69, 70, 71, 72, 73, 74, 75, 76, 77, 78, 79, 80, 81, 82, 83, 84, 85, 86, 87, 88, 89, 90,
    97, 98, 99, 100, 101, 102, 103, 104, 105, 106, 107, 108, 109, 110, 111, 112, 113, 114, 115, 116, 117, 118, 119, 120, 121, 122, 48, 49, 50, 51, 52, 53, 54, 55, 56, 57, 45, 95]⟩
theorem b64_index (ix : Nat) (h : ix < 64) (w : World) : (Instr.index 9 (.string b64S) (.int .i64 (ix : Int))).run Try.prog w = .ok (.int .u8 ((b64Al.getD ix 0).toNat : Int)) w := by
  have key : ∀ i : Fin 64, (Instr.index 9 (.string b64S) (.int .i64 (i.val : Int))).run Try.prog w = .ok (.int .u8 ((b64Al.getD i.val 0).toNat : Int)) w := by
    intro i
    have h64 : i.val < b64S.size := i.isLt
    have e : b64S[i.val]'h64 = b64Al.getD i.val 0 := by
      rw [List.getD_eq_getElem?_getD, List.getElem?_eq_getElem (show i.val < b64Al.length from i.isLt), Option.getD_some]
      rfl
    have h0 : (0 : Int) ≤ (i.val : Int) ∧ (i.val : Int) < 64 := by omega
    simp [Instr.index, asIntOf, run_underlying Try.underlying9, h0, e, h64]
    try omega
  exact key ⟨ix, h⟩

theorem refBase64_any (s : ByteArray) (w : World) (hlen : s.size ≤ 105553116263424) :
    Calls Try.prog 31 #[.string s] w fun e w' => e = .returned (.string (strOf (groupsL 6 b64Al s.data.toList))) ∧ Below w.heap.size w w' := by
  have hl : s.data.toList.length = s.size := by simp
  obtain ⟨l, HL⟩ : ∃ l, Hid (s.data.toList = l) := ⟨_, Lib.hid rfl⟩
  rw [HL.out] at hl ⊢
  obtain ⟨a, HA⟩ : ∃ l, Hid (b64Al = l) := ⟨_, Lib.hid rfl⟩
  have HIXA := Lib.hid (fun ix h w => b64_index ix h w)
  rw [HA.out] at HIXA
  rw [HA.out]
  have HLS := Lib.hid hl; clear hl
  have l0 : (0 : Int) ≤ (s.size : Int) := by omega
  have l1 : (s.size : Int) ≤ 105553116263424 := by omega
  go_enter Try.func31, Try.ntmps31
  go_wp2
  go_loopw [3, 4, 5, 6] (fun b v h i wr => ∃ (k : Nat), k ≤ s.size ∧ i = .int .i64 k ∧ v = .int .i64 ((gfold 6 a (l.take k)).1 : Nat) ∧ h = .int .i64 ((gfold 6 a (l.take k)).2.1 : Nat) ∧
      OwnB wr w.heap.size b (gfold 6 a (l.take k)).2.2 ∧ Below w.heap.size w wr) (fun _ _ _ i _ => s.size - (intOf i).toNat)
  case atStart => exact ⟨0, by omega, rfl, by rw [List.take_zero, gfold_nil]; rfl, by rw [List.take_zero, gfold_nil]; rfl, by rw [List.take_zero, gfold_nil]; exact OwnB.nil _ _, Below.refl _ _⟩
  case round =>
    obtain ⟨k, hk, rfl, rfl, rfl, hB, hnx⟩ := hrel
    have hok := gfold_ok 6 (by omega) a (l.take k)
    obtain ⟨now, hv, out, HG⟩ : ∃ a' b c, Hid (gfold 6 a (l.take k) = (a', b, c)) := ⟨_, _, _, Lib.hid rfl⟩
    rw [HG.out] at hok hB ⊢
    dsimp only at hB ⊢
    obtain ⟨g1, g2, g3⟩ := hok
    dsimp only at g1 g2 g3
    have g4 : now < 2 ^ 6 := Nat.lt_of_lt_of_le g1 (Nat.pow_le_pow_right (by decide) (by omega))
    rw [List.length_take, HLS.out, Nat.min_eq_left hk] at g3
    by_cases hlt : k < s.size
    · obtain ⟨c, HC⟩ : ∃ c, Hid (l.getD k 0 = c) := ⟨_, Lib.hid rfl⟩
      have hsk : s[k] = c := by
        rw [← HC.out, ← HL.out, List.getD_eq_getElem?_getD, List.getElem?_eq_getElem (by simpa using hlt), Option.getD_some]
        rfl
      have hc256 : c.toNat < 256 := c.toNat_lt
      have HT : Hid (gfold 6 a (l.take (k + 1)) = emit 6 a (hv + 8) (now * 256 + c.toNat) (hv + 8) out) := by
        show _ = _
        rw [gfold_take _ _ _ _ (by rw [HLS.out]; exact hlt), HG.out, HC.out]
        rfl
      have n0 : (0 : Int) ≤ (now : Int) := by omega
      have n1 : (now : Int) < 64 := by omega
      have v0 : (hv : Int) ≤ 5 := by omega
      have hcI : (c.toNat : Int) < 256 := by omega
      have hb8 : now * 256 + c.toNat < 2 ^ (hv + 8) := by rw [Nat.pow_add]; omega
      obtain ⟨T, HTT⟩ : ∃ T, Hid (gfold 6 a (l.take (k + 1)) = T) := ⟨_, Lib.hid rfl⟩
      have HE0 : Hid (emit 6 a (hv + 8) (now * 256 + c.toNat) (hv + 8) out = T) := by show _ = _; rw [← HTT.out, HT.out]
      refine hide_post fun R HR => ?_
      go_wp2
      obtain ⟨wo, rfl⟩ : ∃ wo : World, wo = wr := ⟨_, rfl⟩
      go_loopw [3, 4, 5] (fun b v h wr => ∃ (f n' h' : Nat) (o' : List UInt8), v = .int .i64 (n' : Nat) ∧ h = .int .i64 (h' : Nat) ∧ h' ≤ f ∧ h' ≤ 13 ∧ n' < 2 ^ h' ∧ o'.length * 6 + h' = 8 * (k + 1) ∧ Hid (emit 6 a f n' h' o' = T) ∧
          OwnB wr w.heap.size b o' ∧ Below w.heap.size w wr) (fun _ _ h _ => (intOf h).toNat)
      case atStart => exact ⟨hv + 8, now * 256 + c.toNat, hv + 8, out, by go_num, by go_num, Nat.le_refl _, by omega, hb8, by omega, HE0, hB, hnx⟩
      case round =>
        clear HE0 hb8 hB hnx HT hsk n0 n1 v0 g1 g2 g3 g4 HG
        obtain ⟨f, n', h', o', rfl, rfl, hf, h13, hn', ho', HE, hB, hnx⟩ := hrel
        by_cases hge : 6 ≤ h'
        · obtain ⟨d, rfl⟩ : ∃ d, h' = d + 6 := ⟨h' - 6, by omega⟩
          obtain ⟨f, rfl⟩ : ∃ f', f = f' + 1 := ⟨f - 1, by omega⟩
          have hE2 := HE.out
          rw [emit_go _ _ _ _ _ _ hge, Nat.add_sub_cancel] at hE2
          replace hE2 := Lib.hid hE2
          have hpow : Hid (n' < 2 ^ d * 2 ^ 6) := by show _ < _; rw [← Nat.pow_add]; exact hn'
          have hd0 : 0 < 2 ^ d := Nat.pow_pos (by decide)
          have hdiv : n' / 2 ^ d < 2 ^ 6 := by rw [Nat.div_lt_iff_lt_mul hd0, Nat.mul_comm]; exact hpow.out
          have hn20 : n' < 1048576 := Nat.lt_of_lt_of_le hn' (Nat.le_trans (Nat.pow_le_pow_right (by decide) h13) (by decide))
          have hmask := and_mask' n' d hn20 (by omega)
          obtain ⟨ix, HIX⟩ : ∃ x, Hid (n' / 2 ^ d = x) := ⟨_, Lib.hid rfl⟩
          have hixI : (n' : Int) / 2 ^ d = (ix : Int) := by rw [← HIX.out]; simp
          have hixN : ix < 64 := by have := HIX.out; omega
          have ix0 : (0 : Int) ≤ (ix : Int) := by omega
          clear hn' hpow hd0 hdiv
          have d0 : (d : Int) ≤ 13 := by omega
          have d1 : (0 : Int) ≤ (d : Int) := by omega
          have hidx := HIXA.out ix hixN
          obtain ⟨ch, HCH⟩ : ∃ x, Hid (a.getD ix 0 = x) := ⟨_, Lib.hid rfl⟩
          rw [HCH.out] at hidx
          unfold b64S at hidx
          have hsz := hnx.size
          have HOL : Hid ((o' ++ [ch]).length * 6 + d = 8 * (k + 1)) := by
            show _ = _
            rw [List.length_append, List.length_singleton, Nat.add_mul]
            omega
          refine hide_post fun R' HR' => ?_
          go_wp2_with (at_builtin; refine wpList_append_B _ rfl _ _ rfl w.heap.size _ _ rfl (hB.alloc _) ⟨wr.heap.size, 0, none⟩ 1 1 [ch] rfl rfl (news_one _ _ _ rfl) ?c2 ?c3 ?_)
          case c2 => omega
          case c3 => first | omega | exact Nat.le_trans hsz (by simp) | (simp; omega)
          intro v1 w1 hB1 hg1
          have hnx1 : Below w.heap.size w w1 := (hnx.alloc hsz _).grown hg1 (by simp; omega) (fun j hj => (hB.lt j hj).1)
          clear hg1 hB hnx
          go_wp2
          obtain rfl := HR'.out
          go_roundw
          case rel => exact ⟨f, _, d, o' ++ [ch], rfl, rfl, by omega, by omega, Nat.mod_lt _ (Nat.pow_pos (by decide)), HOL.out, by rw [HIX.out, HCH.out] at hE2; exact hE2, hB1, hnx1⟩
          case measure => simp [intOf]; omega
        · have HS : Hid ((n', h', o') = T) := by
            show _ = _
            rw [← HE.out, emit_stop _ _ _ _ _ _ (by omega)]
          refine hide_post fun R' HR' => ?_
          go_wp2
          obtain rfl := HR'.out
          obtain rfl := HR.out
          go_roundw
          case rel => exact ⟨k + 1, hlt, by go_num, by rw [HTT.out, ← HS.out], by rw [HTT.out, ← HS.out], by rw [HTT.out, ← HS.out]; exact hB, hnx⟩
          case measure => simp [intOf]; omega
    · obtain rfl : k = s.size := by omega
      clear hlt hk
      have HTL : Hid (l.take s.size = l) := by show _ = _; rw [← HLS.out, List.take_length]
      rw [HTL.out] at HG
      have hsz := hnx.size
      by_cases hpos : 0 < hv
      · have HF : Hid (groupsL 6 a l = out ++ [a.getD (now * 2 ^ (6 - hv)) 0]) := by
          show _ = _
          unfold groupsL
          rw [HG.out, if_pos hpos]
        obtain ⟨d, hd⟩ : ∃ d, 6 = hv + d := ⟨6 - hv, by omega⟩
        have hix0 : now * 2 ^ d < 2 ^ 6 := by
          rw [hd, Nat.pow_add]
          exact Nat.mul_lt_mul_of_pos_right g1 (Nat.pow_pos (by decide))
        obtain ⟨ix, HIX⟩ : ∃ x, Hid (now * 2 ^ d = x) := ⟨_, Lib.hid rfl⟩
        rw [HIX.out] at hix0
        have hdI : (6 : Int) - (hv : Int) = (d : Int) := by omega
        have hixI : (now : Int) * 2 ^ d = (ix : Int) := by rw [← HIX.out]; simp
        have ix0 : (0 : Int) ≤ (ix : Int) := by omega
        have ix1 : (ix : Int) < 1000 := by omega
        have hidx := HIXA.out ix (by omega)
        obtain ⟨ch, HCH⟩ : ∃ x, Hid (a.getD ix 0 = x) := ⟨_, Lib.hid rfl⟩
        rw [HCH.out] at hidx
        unfold b64S at hidx
        rw [show 6 - hv = d by omega, HIX.out, HCH.out] at HF
        have hp0 : (0 : Int) < (hv : Int) := by omega
        have hd2 : (hv : Int) ≤ 6 := by omega
        have hd3 : (0 : Int) ≤ (d : Int) := by omega
        have hd4 : (d : Int) ≤ 6 := by omega
        have g5 : out.length ≤ 140737488351232 := by omega
        have HD := Lib.hid hd; clear hd
        clear g1 g3 g4 hix0
        refine hide_post fun R' HR' => ?_
        go_wp2_with (at_builtin; refine wpList_append_B _ rfl _ _ rfl w.heap.size _ _ rfl (hB.alloc _) ⟨wr.heap.size, 0, none⟩ 1 1 [ch] rfl rfl (news_one _ _ _ rfl) ?c2 ?c3 ?_)
        case c2 => omega
        case c3 => first | omega | exact Nat.le_trans hsz (by simp) | (simp; omega)
        intro v1 w1 hB1 hg1
        have hnx1 : Below w.heap.size w w1 := (hnx.alloc hsz _).grown hg1 (by simp; omega) (fun j hj => (hB.lt j hj).1)
        obtain ⟨O, HO⟩ : ∃ O, Hid (out ++ [ch] = O) := ⟨_, Lib.hid rfl⟩
        rw [HO.out] at hB1 HF
        obtain ⟨p1, cap1, rfl⟩ := hB1.form
        have hconv := run_string_B w1 _ _ _ hB1
        clear hg1 hB hnx
        go_wp2
        obtain rfl := HR'.out
        go_ret
        refine ⟨?_, hnx1⟩
        rw [HF.out]
        rfl
      · have HF : Hid (groupsL 6 a l = out) := by
          show _ = _
          unfold groupsL
          rw [HG.out, if_neg hpos]
        have hp0 : ¬ (0 : Int) < (hv : Int) := by omega
        obtain ⟨p1, cap1, rfl⟩ := hB.form
        have hconv := run_string_B wr _ _ _ hB
        clear g1 g3 g4
        refine hide_post fun R' HR' => ?_
        go_wp2
        obtain rfl := HR'.out
        go_ret
        refine ⟨?_, hnx⟩
        rw [HF.out]
        rfl
end Go.Proofs.Ytlpdbkhpchmpmaa
