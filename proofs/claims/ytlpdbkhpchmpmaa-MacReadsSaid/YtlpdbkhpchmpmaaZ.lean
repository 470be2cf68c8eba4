/-
  Reading undoes writing: plain law.
-/
import Derived.Test.YtlpdbkhpchmpmaaY
import Derived.Test.YtlpdbkhpchmpmaaW
namespace Go.Proofs.Ytlpdbkhpchmpmaa
set_option linter.unusedVariables false

/-- Digits of base b, the highest first, as one number. -/
def big (b : Nat) (l : List Nat) : Nat := l.foldl (fun n d => n * b + d) 0
theorem big_snoc (b : Nat) (l : List Nat) (d : Nat) : big b (l ++ [d]) = big b l * b + d := by simp [big]
theorem big_lt (b : Nat) (hb : 0 < b) (l : List Nat) (h : ∀ d ∈ l, d < b) : big b l < b ^ l.length := by
  rw [← List.reverse_reverse l] at h ⊢
  generalize l.reverse = r at h ⊢
  induction r with
  | nil => simp [big]
  | cons d r ih =>
    rw [List.reverse_cons] at h ⊢
    rw [big_snoc, List.length_append, List.length_singleton, Nat.pow_succ]
    have h1 := ih (fun x hx => h x (List.mem_append_left _ hx))
    have h2 := h d (by simp)
    have h3 : (big b r.reverse + 1) * b ≤ b ^ r.reverse.length * b := Nat.mul_le_mul_right _ h1
    rw [Nat.add_mul] at h3
    omega
theorem big_inj (b : Nat) (hb : 0 < b) : ∀ (l m : List Nat), (∀ d ∈ l, d < b) → (∀ d ∈ m, d < b) → l.length = m.length → big b l = big b m → l = m := by
  intro l
  rw [← List.reverse_reverse l]
  generalize l.reverse = r
  induction r with
  | nil =>
    intro m _ _ hlen _
    exact (List.length_eq_zero_iff.1 (by simpa using hlen.symm)).symm
  | cons d r ih =>
    intro m hl hm hlen he
    rw [List.reverse_cons] at hl hlen he ⊢
    rcases List.eq_nil_or_concat m with rfl | ⟨m', e, rfl⟩
    · simp at hlen
    · rw [List.concat_eq_append] at *
      rw [big_snoc, big_snoc] at he
      have h1 := hl d (by simp)
      have h2 := hm e (by simp)
      have hd : d = e := by
        have := congrArg (· % b) he
        simp only [Nat.mul_add_mod_of_lt h1, Nat.mul_add_mod_of_lt h2] at this
        exact this
      subst hd
      have hq : big b r.reverse = big b m' := by
        have : big b r.reverse * b = big b m' * b := by omega
        exact Nat.eq_of_mul_eq_mul_right hb this
      rw [ih m' (fun x hx => hl x (List.mem_append_left _ hx)) (fun x hx => hm x (List.mem_append_left _ hx)) (by simpa using hlen) hq]

def vals (l : List UInt8) : List Nat := l.map UInt8.toNat
/-- Letters as digits. -/
def digs (al l : List UInt8) : List Nat := l.map fun c => (Lib.indexByte al c).toNat
/-- The alphabet's letters are found where they stand. -/
def Al (w : Nat) (al : List UInt8) : Prop := al.length = 2 ^ w ∧ ∀ x, x < 2 ^ w → Lib.indexByte al (al.getD x 0) = x
theorem al_hex : Al 4 hexAl := by
  refine ⟨rfl, fun x hx => ?_⟩
  have : ∀ i : Fin 16, Lib.indexByte hexAl (hexAl.getD i.val 0) = (i.val : Int) := by decide +kernel
  exact this ⟨x, hx⟩
theorem al_b64 : Al 6 b64Al := by
  refine ⟨rfl, fun x hx => ?_⟩
  have : ∀ i : Fin 64, Lib.indexByte b64Al (b64Al.getD i.val 0) = (i.val : Int) := by decide +kernel
  exact this ⟨x, hx⟩
theorem digs_snoc (al l : List UInt8) (c : UInt8) : digs al (l ++ [c]) = digs al l ++ [(Lib.indexByte al c).toNat] := by simp [digs]
/-- What emit lays out and keeps, read as one number, is what went in. -/
theorem emit_big (w : Nat) (al : List UInt8) (hal : Al w al) : ∀ (f now hv : Nat) (out : List UInt8), now < 2 ^ hv →
    big (2 ^ w) (digs al (emit w al f now hv out).2.2) * 2 ^ (emit w al f now hv out).2.1 + (emit w al f now hv out).1 = big (2 ^ w) (digs al out) * 2 ^ hv + now
  | 0, now, hv, out, _ => by rw [emit]
  | f + 1, now, hv, out, hn => by
    by_cases h : w ≤ hv
    · obtain ⟨d, rfl⟩ : ∃ d, hv = d + w := ⟨hv - w, by omega⟩
      rw [emit_go _ _ _ _ _ _ h, Nat.add_sub_cancel]
      have hd0 : 0 < 2 ^ d := Nat.pow_pos (by decide)
      have hq : now / 2 ^ d < 2 ^ w := by
        rw [Nat.div_lt_iff_lt_mul hd0, Nat.mul_comm, ← Nat.pow_add]
        exact hn
      rw [emit_big w al hal f _ _ _ (Nat.mod_lt _ hd0), digs_snoc, big_snoc, hal.2 _ hq, Int.toNat_natCast, Nat.add_mul, Nat.mul_assoc, ← Nat.pow_add, Nat.add_comm w d, Nat.add_assoc, Nat.mul_comm (now / 2 ^ d), Nat.div_add_mod]
    · rw [emit_stop _ _ _ _ _ _ (by omega)]
theorem vals_snoc (l : List UInt8) (c : UInt8) : vals (l ++ [c]) = vals l ++ [c.toNat] := by simp [vals]
theorem gfold_big (w : Nat) (hw : 0 < w) (al : List UInt8) (hal : Al w al) (l : List UInt8) :
    big (2 ^ w) (digs al (gfold w al l).2.2) * 2 ^ (gfold w al l).2.1 + (gfold w al l).1 = big 256 (vals l) := by
  rw [← List.reverse_reverse l]
  generalize l.reverse = r
  induction r with
  | nil => rw [List.reverse_nil, gfold_nil]; rfl
  | cons c r ih =>
    have hok := gfold_ok w hw al r.reverse
    have hc := c.toNat_lt
    rw [List.reverse_cons, gfold_snoc, vals_snoc, big_snoc, ← ih]
    unfold gstep
    rw [emit_big w al hal _ _ _ _ (by have := hok.1; rw [Nat.pow_add]; omega), Nat.pow_add]
    rw [Nat.add_mul, ← Nat.mul_assoc, Nat.add_assoc]
/-- A letter of the alphabet. -/
def InAl (w : Nat) (al : List UInt8) (c : UInt8) : Prop := ∃ m : Nat, Lib.indexByte al c = m ∧ m < 2 ^ w
theorem ufold_big (w : Nat) (hw8 : w ≤ 8) (al : List UInt8) (l : List UInt8) (hl : ∀ c ∈ l, InAl w al c) :
    ∃ now hv out, ufold w al l = some (now, hv, out) ∧ big 256 (vals out) * 2 ^ hv + now = big (2 ^ w) (digs al l) ∧ now < 2 ^ hv ∧ hv < 8 ∧ 8 * out.length + hv = w * l.length := by
  rw [← List.reverse_reverse l] at hl ⊢
  generalize l.reverse = r at hl ⊢
  induction r with
  | nil => exact ⟨0, 0, [], by rw [List.reverse_nil, ufold_nil], rfl, by decide, by decide, rfl⟩
  | cons c r ih =>
    rw [List.reverse_cons] at hl ⊢
    obtain ⟨now, hv, out, hu, hb, hn, h8, hlen⟩ := ih (fun x hx => hl x (List.mem_append_left _ hx))
    obtain ⟨m, hm, hml⟩ := hl c (by simp)
    have hx : now * 2 ^ w + m < 2 ^ (hv + w) := by
      rw [Nat.pow_add]
      have h3 : (now + 1) * 2 ^ w ≤ 2 ^ hv * 2 ^ w := Nat.mul_le_mul_right _ hn
      rw [Nat.add_mul, Nat.one_mul] at h3
      omega
    have hbig : big (2 ^ w) (digs al (r.reverse ++ [c])) = big 256 (vals out) * 2 ^ (hv + w) + (now * 2 ^ w + m) := by
      rw [digs_snoc, big_snoc, ← hb, hm, Int.toNat_natCast, Nat.add_mul, Nat.mul_assoc, ← Nat.pow_add, Nat.add_assoc]
    rw [ufold_snoc, hu, hbig]
    unfold ustep
    simp only
    rw [if_neg (by rw [hm]; omega), hm, Int.toNat_natCast]
    by_cases h : 8 ≤ hv + w
    · obtain ⟨d, hd⟩ : ∃ d, hv + w = d + 8 := ⟨hv + w - 8, by omega⟩
      rw [if_pos h, show hv + w - 8 = d by omega]
      have hd0 : 0 < 2 ^ d := Nat.pow_pos (by decide)
      have hq : (now * 2 ^ w + m) / 2 ^ d < 256 := by
        rw [Nat.div_lt_iff_lt_mul hd0]
        rw [hd, Nat.pow_add, Nat.mul_comm (2 ^ d)] at hx
        exact hx
      refine ⟨_, _, _, rfl, ?_, Nat.mod_lt _ hd0, by omega, ?_⟩
      · rw [vals_snoc, big_snoc, hd, Nat.pow_add]
        rw [show (UInt8.ofNat ((now * 2 ^ w + m) / 2 ^ d)).toNat = (now * 2 ^ w + m) / 2 ^ d by rw [UInt8.toNat_ofNat']; exact Nat.mod_eq_of_lt hq]
        have e := Nat.div_add_mod (now * 2 ^ w + m) (2 ^ d)
        rw [Nat.add_mul, Nat.mul_comm ((now * 2 ^ w + m) / 2 ^ d), Nat.add_assoc, e, Nat.mul_assoc, Nat.mul_comm 256]
      · rw [List.length_append, List.length_append, List.length_singleton, List.length_singleton, Nat.mul_add 8, Nat.mul_add w]
        omega
    · rw [if_neg h]
      refine ⟨_, _, _, rfl, rfl, hx, by omega, ?_⟩
      rw [List.length_append, List.length_singleton, Nat.mul_add]
      omega
end Go.Proofs.Ytlpdbkhpchmpmaa
