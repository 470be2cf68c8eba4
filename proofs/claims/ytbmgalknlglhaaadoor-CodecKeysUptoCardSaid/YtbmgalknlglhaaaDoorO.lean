/-
  Keys stand, as bytes, in the order of their parts: plain words.
-/
import Derived.Test.YtbmgalknlglhaaaDoorB
namespace Go.Proofs.YtbmgalknlglhaaaDoor
open Go.RowKit
set_option linter.unusedVariables false

theorem bl_nil (x : List UInt8) : Op.bytesLess x [] = false := by cases x <;> rfl
theorem bl_nil' (b : UInt8) (y : List UInt8) : Op.bytesLess [] (b :: y) = true := rfl
theorem bl_cons (a b : UInt8) (x y : List UInt8) : Op.bytesLess (a :: x) (b :: y) = (decide (a < b) || (a == b && Op.bytesLess x y)) := rfl
theorem bl_lt (a b : UInt8) (x y : List UInt8) (h : a < b) : Op.bytesLess (a :: x) (b :: y) = true := by rw [bl_cons, decide_eq_true h]; rfl
theorem bl_gt (a b : UInt8) (x y : List UInt8) (h : b < a) : Op.bytesLess (a :: x) (b :: y) = false := by
  have h1 : b.toNat < a.toNat := h
  rw [bl_cons, decide_eq_false (by intro (h2 : a.toNat < b.toNat); omega), beq_eq_false_iff_ne.2 (by rintro rfl; omega)]
  rfl
theorem bl_eq (a : UInt8) (x y : List UInt8) : Op.bytesLess (a :: x) (a :: y) = Op.bytesLess x y := by
  rw [bl_cons, decide_eq_false (by intro (h2 : a.toNat < a.toNat); omega)]
  simp
theorem bl_strip (x u v : List UInt8) : Op.bytesLess (x ++ u) (x ++ v) = Op.bytesLess u v := by
  induction x with
  | nil => rfl
  | cons a x ih => rw [List.cons_append, List.cons_append, bl_eq, ih]
theorem bl_self (x : List UInt8) : Op.bytesLess x x = false := by
  induction x with
  | nil => rfl
  | cons a x ih => rw [bl_eq, ih]
theorem bl_total : ∀ x y : List UInt8, x ≠ y → Op.bytesLess x y = true ∨ Op.bytesLess y x = true
  | [], [], h => absurd rfl h
  | [], b :: y, _ => .inl rfl
  | a :: x, [], _ => .inr rfl
  | a :: x, b :: y, h => by
    by_cases hab : a = b
    · subst hab
      rw [bl_eq, bl_eq]
      exact bl_total x y (fun e => h (by rw [e]))
    · have hne : a.toNat ≠ b.toNat := fun e => hab (UInt8.toNat_inj.1 e)
      rcases Nat.lt_or_ge a.toNat b.toNat with h1 | h1
      · exact .inl (bl_lt a b x y h1)
      · exact .inr (bl_lt b a y x (by show b.toNat < a.toNat; omega))

/-! ### texts -/
theorem zero_lt (c : UInt8) (h : c ≠ 0) : (0 : UInt8) < c := by
  show (0 : UInt8).toNat < c.toNat
  have : c.toNat ≠ (0 : UInt8).toNat := fun e => h (UInt8.toNat_inj.1 e)
  have h0 : (0 : UInt8).toNat = 0 := rfl
  omega
theorem esc_lt : ∀ (x y u v : List UInt8), (∀ R, Op.bytesLess u (255 :: R) = true) → (∀ R, Op.bytesLess (255 :: R) v = false) → x ≠ y → Op.bytesLess (esc x ++ 0 :: u) (esc y ++ 0 :: v) = Op.bytesLess x y
  | [], [], _, _, _, _, h => absurd rfl h
  | [], d :: y, u, v, hu, hv, _ => by
    rw [esc_nil, esc_cons, bl_nil', List.nil_append]
    by_cases hd : d = 0
    · subst hd
      rw [if_pos rfl, List.append_assoc, List.cons_append, List.cons_append, bl_eq]
      exact hu _
    · rw [if_neg hd, List.append_assoc, List.cons_append]
      exact bl_lt _ _ _ _ (zero_lt d hd)
  | c :: x, [], u, v, hu, hv, _ => by
    rw [esc_nil, esc_cons, bl_nil, List.nil_append]
    by_cases hc : c = 0
    · subst hc
      rw [if_pos rfl, List.append_assoc, List.cons_append, List.cons_append, bl_eq]
      exact hv _
    · rw [if_neg hc, List.append_assoc, List.cons_append]
      exact bl_gt _ _ _ _ (zero_lt c hc)
  | c :: x, d :: y, u, v, hu, hv, h => by
    by_cases hcd : c = d
    · subst hcd
      rw [esc_cons, esc_cons, List.append_assoc, List.append_assoc, bl_strip, bl_eq]
      exact esc_lt x y u v hu hv (fun e => h (by rw [e]))
    · rw [esc_cons, esc_cons]
      by_cases hc : c = 0
      · subst hc
        have hd : d ≠ 0 := fun e => hcd e.symm
        rw [if_pos rfl, if_neg hd, List.append_assoc, List.append_assoc]
        exact (bl_lt 0 d _ _ (zero_lt d hd)).trans (bl_lt 0 d _ _ (zero_lt d hd)).symm
      · by_cases hd : d = 0
        · subst hd
          rw [if_neg hc, if_pos rfl, List.append_assoc, List.append_assoc]
          exact (bl_gt c 0 _ _ (zero_lt c hc)).trans (bl_gt c 0 _ _ (zero_lt c hc)).symm
        · rw [if_neg hc, if_neg hd, List.append_assoc, List.append_assoc]
          show Op.bytesLess (c :: _) (d :: _) = Op.bytesLess (c :: _) (d :: _)
          rw [bl_cons, bl_cons, beq_eq_false_iff_ne.2 hcd]
          rfl

/-! ### numbers -/
theorem byteAt_nat (n k : Nat) : (byteAt (n : Int) k).toNat = n / 256 ^ k % 256 := by
  unfold byteAt
  have e : ((n : Int) / 256 ^ k % 256).toNat = n / 256 ^ k % 256 := by
    rw [show ((n : Int) / 256 ^ k % 256) = ((n / 256 ^ k % 256 : Nat) : Int) by simp]
    rfl
  rw [e, UInt8.toNat_ofNat', Nat.mod_mod]
theorem lastB_lt (n m : Nat) : ∀ (k : Nat) (u v : List UInt8), n % 256 ^ k ≠ m % 256 ^ k → Op.bytesLess (lastB (n : Int) k ++ u) (lastB (m : Int) k ++ v) = decide (n % 256 ^ k < m % 256 ^ k)
  | 0, u, v, h => absurd (by rw [Nat.pow_zero, Nat.mod_one, Nat.mod_one]) h
  | k + 1, u, v, h => by
    rw [lastB_succ, lastB_succ, List.cons_append, List.cons_append]
    have hp : 0 < 256 ^ k := Nat.pow_pos (by decide)
    have en : n % 256 ^ (k + 1) = 256 ^ k * (n / 256 ^ k % 256) + n % 256 ^ k := by rw [Nat.pow_succ, Nat.mod_mul, Nat.add_comm]
    have em : m % 256 ^ (k + 1) = 256 ^ k * (m / 256 ^ k % 256) + m % 256 ^ k := by rw [Nat.pow_succ, Nat.mod_mul, Nat.add_comm]
    have ln := Nat.mod_lt n hp
    have lm := Nat.mod_lt m hp
    have bn := byteAt_nat n k
    have bm := byteAt_nat m k
    rw [en, em] at h ⊢
    generalize n / 256 ^ k % 256 = x at *
    generalize m / 256 ^ k % 256 = y at *
    rcases Nat.lt_trichotomy x y with hxy | hxy | hxy
    · rw [bl_lt _ _ _ _ (by show (byteAt (n : Int) k).toNat < (byteAt (m : Int) k).toNat; omega)]
      have : 256 ^ k * (x + 1) ≤ 256 ^ k * y := Nat.mul_le_mul_left _ hxy
      rw [Nat.mul_add, Nat.mul_one] at this
      rw [decide_eq_true (by omega)]
    · subst hxy
      have hb : byteAt (n : Int) k = byteAt (m : Int) k := UInt8.toNat_inj.1 (by omega)
      rw [hb, bl_eq, lastB_lt n m k u v (by omega)]
      by_cases hlt : n % 256 ^ k < m % 256 ^ k
      · rw [decide_eq_true hlt, decide_eq_true (by omega)]
      · rw [decide_eq_false hlt, decide_eq_false (by omega)]
    · rw [bl_gt _ _ _ _ (by show (byteAt (m : Int) k).toNat < (byteAt (n : Int) k).toNat; omega)]
      have : 256 ^ k * (y + 1) ≤ 256 ^ k * x := Nat.mul_le_mul_left _ hxy
      rw [Nat.mul_add, Nat.mul_one] at this
      rw [decide_eq_false (by omega)]
theorem be8_lt (n m : Nat) (hn : n < 18446744073709551616) (hm : m < 18446744073709551616) (h : n ≠ m) (u v : List UInt8) : Op.bytesLess (be8 (n : Int) ++ u) (be8 (m : Int) ++ v) = decide (n < m) := by
  unfold be8
  have e : (256 : Nat) ^ 8 = 18446744073709551616 := by decide
  have := lastB_lt n m 8 u v (by rw [e, Nat.mod_eq_of_lt hn, Nat.mod_eq_of_lt hm]; exact h)
  rw [e, Nat.mod_eq_of_lt hn, Nat.mod_eq_of_lt hm] at this
  exact this

/-! ### parts -/
def Good (p : Pt) : Prop := bad p = false ∧ p.n < 18446744073709551616
theorem Good.num {p : Pt} (h : Good p) (hb : p.b = true) : p.t = ⟨#[]⟩ := by
  have h1 := h.1
  unfold bad at h1
  rw [hb] at h1
  simp at h1
  apply ByteArray.ext
  apply Array.eq_empty_of_size_eq_zero
  rw [h1]
  rfl
theorem Good.text {p : Pt} (h : Good p) (hb : p.b = false) : p.n = 0 := by
  have h1 := h.1
  unfold bad at h1
  rw [hb] at h1
  simpa using h1
theorem enc_lt (p q : Pt) (hp : Good p) (hq : Good q) (hne : p ≠ q) (u v : List UInt8) (hu : ∀ R, Op.bytesLess u (255 :: R) = true) (hv : ∀ R, Op.bytesLess (255 :: R) v = false) : Op.bytesLess (enc p ++ u) (enc q ++ v) = ltPt p q := by
  unfold ltPt
  cases hpb : p.b with
  | true =>
    cases hqb : q.b with
    | true =>
      have hn : p.n ≠ q.n := fun e => hne (Pt.ext (by rw [hp.num hpb, hq.num hqb]) e (by rw [hpb, hqb]))
      rw [enc_num p hpb, enc_num q hqb, List.cons_append, List.cons_append, bl_eq, be8_lt _ _ hp.2 hq.2 hn]
      rfl
    | false =>
      rw [enc_num p hpb, enc_text q hqb, List.cons_append, List.cons_append, bl_lt _ _ _ _ (by decide)]
      rfl
  | false =>
    cases hqb : q.b with
    | true =>
      rw [enc_text p hpb, enc_num q hqb, List.cons_append, List.cons_append, bl_gt _ _ _ _ (by decide)]
      rfl
    | false =>
      have ht : p.t.data.toList ≠ q.t.data.toList := fun e => hne (Pt.ext (ByteArray.ext (Array.toList_inj.1 e)) (by rw [hp.text hpb, hq.text hqb]) (by rw [hpb, hqb]))
      rw [enc_text p hpb, enc_text q hqb, List.cons_append, List.cons_append, bl_eq, List.append_assoc, List.append_assoc]
      rw [List.cons_append, List.nil_append, List.cons_append, List.nil_append, esc_lt _ _ u v hu hv ht, ByteArray.toList_eq, ByteArray.toList_eq]
      rfl
theorem enc_head (p : Pt) : ∃ c r, enc p = c :: r ∧ c < 255 ∧ c ≠ 255 := by
  unfold enc
  split
  · exact ⟨1, _, rfl, by decide, by decide⟩
  · exact ⟨2, _, rfl, by decide, by decide⟩
theorem encs_low (ps : List Pt) : (∀ R, Op.bytesLess (encs ps) (255 :: R) = true) ∧ (∀ R, Op.bytesLess (255 :: R) (encs ps) = false) ∧ (∀ R, Op.bytesLess (255 :: R) (encs ps ++ [255]) = false) ∧ Op.bytesLess (encs ps) [255] = true := by
  cases ps with
  | nil =>
    rw [encs_nil]
    exact ⟨fun R => rfl, fun R => rfl, fun R => by rw [List.nil_append, bl_eq, bl_nil], rfl⟩
  | cons p ps =>
    obtain ⟨c, r, h, hc, _⟩ := enc_head p
    rw [encs_cons, h, List.cons_append]
    exact ⟨fun R => bl_lt _ _ _ _ hc, fun R => bl_gt _ _ _ _ hc, fun R => by rw [List.cons_append]; exact bl_gt _ _ _ _ hc, bl_lt _ _ _ _ hc⟩
theorem encs_lt : ∀ ps qs : List Pt, (∀ p ∈ ps, Good p) → (∀ p ∈ qs, Good p) → Op.bytesLess (encs ps) (encs qs) = belowL ps qs
  | [], [], _, _ => by rw [encs_nil, belowL_nil]; rfl
  | [], q :: qs, _, _ => by
    obtain ⟨c, r, h, _, _⟩ := enc_head q
    rw [encs_nil, belowL_nil, encs_cons, h, List.cons_append, bl_nil', decide_eq_true (by simp)]
  | p :: ps, [], _, _ => by rw [encs_nil, bl_nil, belowL_nil']
  | p :: ps, q :: qs, hp, hq => by
    rw [belowL_cons, encs_cons, encs_cons]
    by_cases h : p = q
    · subst h
      rw [if_pos ((samePt_iff p p).2 rfl), bl_strip]
      exact encs_lt ps qs (fun x hx => hp x (by simp [hx])) (fun x hx => hq x (by simp [hx]))
    · rw [if_neg (fun e => h ((samePt_iff p q).1 e))]
      exact enc_lt p q (hp p (by simp)) (hq q (by simp)) h _ _ (encs_low ps).1 (encs_low qs).2.1
theorem ltPt_total (p q : Pt) (hp : Good p) (hq : Good q) (hne : p ≠ q) : ltPt p q = true ∨ ltPt q p = true := by
  rw [← enc_lt p q hp hq hne [] [] (fun R => rfl) (fun R => rfl), ← enc_lt q p hq hp (Ne.symm hne) [] [] (fun R => rfl) (fun R => rfl), List.append_nil, List.append_nil]
  refine bl_total _ _ (fun e => ?_)
  have h1 := enc_lt p q hp hq hne [] [255] (fun R => rfl) (fun R => by rw [bl_eq, bl_nil])
  have h2 := enc_lt p q hp hq hne [] [] (fun R => rfl) (fun R => rfl)
  rw [e, bl_strip] at h1 h2
  rw [← h2] at h1
  cases h1
theorem encs_inj : ∀ ps qs : List Pt, (∀ p ∈ ps, Good p) → (∀ p ∈ qs, Good p) → encs ps = encs qs → ps = qs
  | [], [], _, _, _ => rfl
  | [], q :: qs, _, _, h => by
    obtain ⟨c, r, h', _, _⟩ := enc_head q
    rw [encs_nil, encs_cons, h'] at h
    cases h
  | p :: ps, [], _, _, h => by
    obtain ⟨c, r, h', _, _⟩ := enc_head p
    rw [encs_nil, encs_cons, h'] at h
    cases h
  | p :: ps, q :: qs, hp, hq, h => by
    rw [encs_cons, encs_cons] at h
    by_cases e : p = q
    · subst e
      rw [encs_inj ps qs (fun x hx => hp x (by simp [hx])) (fun x hx => hq x (by simp [hx])) (List.append_cancel_left h)]
    · have h1 := enc_lt p q (hp p (by simp)) (hq q (by simp)) e _ _ (encs_low ps).1 (encs_low qs).2.1
      have h2 := enc_lt q p (hq q (by simp)) (hp p (by simp)) (Ne.symm e) _ _ (encs_low qs).1 (encs_low ps).2.1
      rw [h, bl_self] at h1 h2
      rcases ltPt_total p q (hp p (by simp)) (hq q (by simp)) e with h3 | h3
      · rw [h3] at h1; cases h1
      · rw [h3] at h2; cases h2
/-- A range holds the keys that begin with its parts, and no other ones. -/
theorem range_law : ∀ ps qs : List Pt, (∀ p ∈ ps, Good p) → (∀ p ∈ qs, Good p) → ((!(Op.bytesLess (encs qs) (encs ps)) && Op.bytesLess (encs qs) (encs ps ++ [255])) = true ↔ qs.take ps.length = ps)
  | [], qs, _, _ => by
    rw [encs_nil, List.nil_append, bl_nil, (encs_low qs).2.2.2]
    simp
  | p :: ps, [], _, _ => by
    obtain ⟨c, r, h', _, _⟩ := enc_head p
    rw [encs_nil, encs_cons, h', List.cons_append, bl_nil']
    simp
  | p :: ps, q :: qs, hp, hq => by
    rw [encs_cons, encs_cons, List.length_cons, List.take_succ_cons]
    by_cases e : q = p
    · subst e
      rw [List.append_assoc, bl_strip, bl_strip, range_law ps qs (fun x hx => hp x (by simp [hx])) (fun x hx => hq x (by simp [hx]))]
      constructor
      · intro h; rw [h]
      · intro h; exact (List.cons.inj h).2
    · rw [List.append_assoc, enc_lt q p (hq q (by simp)) (hp p (by simp)) e _ _ (encs_low qs).1 (encs_low ps).2.1, enc_lt q p (hq q (by simp)) (hp p (by simp)) e _ _ (encs_low qs).1 (encs_low ps).2.2.1]
      constructor
      · intro h
        cases h1 : ltPt q p <;> rw [h1] at h <;> cases h
      · intro h
        exact absurd (List.cons.inj h).1 e
end Go.Proofs.YtbmgalknlglhaaaDoor
