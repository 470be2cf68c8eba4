/-
  Reading undoes writing: ungroupedL of groupsL.
-/
import Derived.Test.YtlpdbkhpchmpmaaZ
namespace Go.Proofs.Ytlpdbkhpchmpmaa
set_option linter.unusedVariables false

theorem in_getD (w : Nat) (al : List UInt8) (hal : Al w al) (x : Nat) (hx : x < 2 ^ w) : InAl w al (al.getD x 0) := ⟨x, hal.2 x hx, hx⟩
theorem emit_in (w : Nat) (al : List UInt8) (hal : Al w al) : ∀ (f now hv : Nat) (out : List UInt8), now < 2 ^ hv → (∀ c ∈ out, InAl w al c) → ∀ c ∈ (emit w al f now hv out).2.2, InAl w al c
  | 0, now, hv, out, _, h => by rw [emit]; exact h
  | f + 1, now, hv, out, hn, h => by
    by_cases hw : w ≤ hv
    · obtain ⟨d, rfl⟩ : ∃ d, hv = d + w := ⟨hv - w, by omega⟩
      rw [emit_go _ _ _ _ _ _ hw, Nat.add_sub_cancel]
      have hd0 : 0 < 2 ^ d := Nat.pow_pos (by decide)
      have hq : now / 2 ^ d < 2 ^ w := by
        rw [Nat.div_lt_iff_lt_mul hd0, Nat.mul_comm, ← Nat.pow_add]
        exact hn
      refine emit_in w al hal f _ _ _ (Nat.mod_lt _ hd0) fun c hc => ?_
      rcases List.mem_append.1 hc with hc | hc
      · exact h c hc
      · rw [List.mem_singleton.1 hc]
        exact in_getD w al hal _ hq
    · rw [emit_stop _ _ _ _ _ _ (by omega)]
      exact h
theorem gfold_in (w : Nat) (hw : 0 < w) (al : List UInt8) (hal : Al w al) (l : List UInt8) : ∀ c ∈ (gfold w al l).2.2, InAl w al c := by
  rw [← List.reverse_reverse l]
  generalize l.reverse = r
  induction r with
  | nil => rw [List.reverse_nil, gfold_nil]; intro c hc; cases hc
  | cons c r ih =>
    have hok := gfold_ok w hw al r.reverse
    have hc := c.toNat_lt
    rw [List.reverse_cons, gfold_snoc]
    unfold gstep
    exact emit_in w al hal _ _ _ _ (by have := hok.1; rw [Nat.pow_add]; omega) ih
/-- The letters: their number of bits, their alphabet, their number. -/
theorem groups_facts (w : Nat) (hw : 0 < w) (al : List UInt8) (hal : Al w al) (l : List UInt8) : ∃ pad, pad < w ∧ w * (groupsL w al l).length = 8 * l.length + pad ∧
    (∀ c ∈ groupsL w al l, InAl w al c) ∧ big (2 ^ w) (digs al (groupsL w al l)) = big 256 (vals l) * 2 ^ pad := by
  have hok := gfold_ok w hw al l
  have hin := gfold_in w hw al hal l
  have hbig := gfold_big w hw al hal l
  unfold groupsL
  obtain ⟨now, hv, out, HG⟩ : ∃ a b c, gfold w al l = (a, b, c) := ⟨_, _, _, rfl⟩
  rw [HG] at hok hin hbig ⊢
  obtain ⟨g1, g2, g3⟩ := hok
  dsimp only at *
  by_cases hp : 0 < hv
  · rw [if_pos hp]
    obtain ⟨d, hd⟩ : ∃ d, w = hv + d := ⟨w - hv, by omega⟩
    have hx : now * 2 ^ d < 2 ^ w := by
      rw [hd, Nat.pow_add]
      exact Nat.mul_lt_mul_of_pos_right g1 (Nat.pow_pos (by decide))
    rw [show w - hv = d by omega]
    refine ⟨d, by omega, ?_, fun c hc => ?_, ?_⟩
    · rw [List.length_append, List.length_singleton, Nat.mul_add, Nat.mul_comm w]
      omega
    · rcases List.mem_append.1 hc with hc | hc
      · exact hin c hc
      · rw [List.mem_singleton.1 hc]
        exact in_getD w al hal _ hx
    · rw [digs_snoc, big_snoc, hal.2 _ hx, Int.toNat_natCast, ← hbig, Nat.add_mul, Nat.mul_assoc, ← Nat.pow_add, ← hd]
  · rw [if_neg hp]
    obtain rfl : hv = 0 := by omega
    obtain rfl : now = 0 := by simpa using g1
    exact ⟨0, hw, by rw [Nat.mul_comm]; omega, hin, by simpa using hbig⟩
theorem vals_inj (l m : List UInt8) (h : vals l = vals m) : l = m := by
  have e := congrArg (List.map UInt8.ofNat) h
  have f : (UInt8.ofNat ∘ UInt8.toNat) = id := by
    funext c
    simp
  simpa [vals, f] using e
theorem ungrouped_groups (w : Nat) (hw : 0 < w) (hw6 : w ≤ 6) (al : List UInt8) (hal : Al w al) (l : List UInt8) : ungroupedL w al (groupsL w al l) = some l := by
  obtain ⟨pad, hp, hlen, hin, hbig⟩ := groups_facts w hw al hal l
  obtain ⟨now, hv, out, hu, hb, hn, h8, hl⟩ := ufold_big w (by omega) al _ hin
  obtain rfl : hv = pad := by omega
  have hol : out.length = l.length := by omega
  rw [hbig] at hb
  have hd0 : 0 < 2 ^ hv := Nat.pow_pos (by decide)
  have hv1 : big 256 (vals out) = big 256 (vals l) := by
    have e1 : (big 256 (vals out) * 2 ^ hv + now) / 2 ^ hv = big 256 (vals out) := by
      rw [Nat.mul_comm, Nat.mul_add_div hd0, Nat.div_eq_of_lt hn, Nat.add_zero]
    rw [← e1, hb, Nat.mul_div_cancel _ hd0]
  obtain rfl : now = 0 := by rw [hv1] at hb; omega
  have ho : out = l := vals_inj _ _ (big_inj 256 (by decide) _ _ (fun d hd => by obtain ⟨c, _, rfl⟩ := List.mem_map.1 hd; exact c.toNat_lt) (fun d hd => by obtain ⟨c, _, rfl⟩ := List.mem_map.1 hd; exact c.toNat_lt) (by simp [vals, hol]) hv1)
  unfold ungroupedL
  rw [hu, ho]
  simp only
  rw [if_neg (by omega)]
end Go.Proofs.Ytlpdbkhpchmpmaa
