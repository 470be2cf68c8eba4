/-
  The reference's find; writing undoes reading.
-/
import Derived.Test.YtlpdbkhpchmpmaaZb
namespace Go.Proofs.Ytlpdbkhpchmpmaa
open Go.RowKit
set_option linter.unusedVariables false
set_option maxRecDepth 100000
set_option maxHeartbeats 2000000

theorem idx_at (a : List UInt8) (c : UInt8) : ∀ k, (∀ j, j < k → a.getD j 0 ≠ c) → k < a.length → a.getD k 0 = c → Lib.indexByte a c = k := by
  induction a with
  | nil => intro k _ hk _; simp at hk
  | cons b l ih =>
    intro k hj hk hc
    unfold Lib.indexByte
    cases k with
    | zero =>
      rw [if_pos (by simpa using hc)]
      rfl
    | succ k =>
      have h0 := hj 0 (by omega)
      rw [if_neg (by simpa using h0), ih k (fun j h => by simpa using hj (j + 1) (by omega)) (by simpa using hk) (by simpa using hc), if_neg (by simp)]
      simp
theorem idx_none (a : List UInt8) (c : UInt8) (h : ∀ j, j < a.length → a.getD j 0 ≠ c) : Lib.indexByte a c = -1 := by
  rcases indexByte_cases a c with h1 | ⟨m, _, hm, hg⟩
  · exact h1
  · exact absurd hg (h m hm)

theorem ustep_in (w : Nat) (al : List UInt8) (hal : al.length = 2 ^ w) (st : Option (Nat × Nat × List UInt8)) (c : UInt8) (t) (h : ustep w al st c = some t) : st.isSome ∧ InAl w al c := by
  cases st with
  | none => cases h
  | some st =>
    refine ⟨rfl, ?_⟩
    rcases indexByte_cases al c with hn | ⟨m, hm, hml, _⟩
    · unfold ustep at h
      simp only at h
      rw [if_pos (by rw [hn]; decide)] at h
      cases h
    · exact ⟨m, hm, by omega⟩
theorem ufold_in (w : Nat) (al : List UInt8) (hal : al.length = 2 ^ w) (l : List UInt8) : ∀ t, ufold w al l = some t → ∀ c ∈ l, InAl w al c := by
  rw [← List.reverse_reverse l]
  generalize l.reverse = r
  induction r with
  | nil => intro t _ c hc; simp at hc
  | cons c r ih =>
    intro t h
    rw [List.reverse_cons, ufold_snoc] at h
    obtain ⟨h1, h2⟩ := ustep_in w al hal _ _ _ h
    obtain ⟨t', ht⟩ := Option.isSome_iff_exists.1 h1
    intro x hx
    rw [List.reverse_cons] at hx
    rcases List.mem_append.1 hx with hx | hx
    · exact ih t' ht x hx
    · rw [List.mem_singleton.1 hx]
      exact h2
theorem in_letter (w : Nat) (al : List UInt8) (c d : UInt8) (hc : InAl w al c) (hd : InAl w al d) (h : (Lib.indexByte al c).toNat = (Lib.indexByte al d).toNat) : c = d := by
  obtain ⟨m, hm, _⟩ := hc
  obtain ⟨n, hn, _⟩ := hd
  rw [hm, hn] at h
  have e : m = n := by simpa using h
  subst e
  rcases indexByte_cases al c with h1 | ⟨p, hp, _, g1⟩
  · rw [hm] at h1; omega
  rcases indexByte_cases al d with h2 | ⟨q, hq, _, g2⟩
  · rw [hn] at h2; omega
  have e1 : p = m := by rw [hm] at hp; omega
  have e2 : q = m := by rw [hn] at hq; omega
  subst e1
  subst e2
  rw [← g1, ← g2]
theorem digs_inj (w : Nat) (al : List UInt8) : ∀ (l m : List UInt8), (∀ c ∈ l, InAl w al c) → (∀ c ∈ m, InAl w al c) → digs al l = digs al m → l = m := by
  intro l
  induction l with
  | nil => intro m _ _ h; cases m with | nil => rfl | cons => simp [digs] at h
  | cons c l ih =>
    intro m h1 h2 h
    cases m with
    | nil => simp [digs] at h
    | cons d m =>
      simp only [digs, List.map_cons, List.cons.injEq] at h
      rw [in_letter w al c d (h1 c (by simp)) (h2 d (by simp)) h.1, ih m (fun x hx => h1 x (by simp [hx])) (fun x hx => h2 x (by simp [hx])) h.2]
theorem digs_lt (w : Nat) (al l : List UInt8) (h : ∀ c ∈ l, InAl w al c) : ∀ d ∈ digs al l, d < 2 ^ w := by
  intro d hd
  obtain ⟨c, hc, rfl⟩ := List.mem_map.1 hd
  obtain ⟨m, hm, hml⟩ := h c hc
  rw [hm]
  exact hml
/-- What is read whole is written the same, and only that. -/
theorem groups_ufold (w : Nat) (hw : w = 4 ∨ w = 6) (al : List UInt8) (hal : Al w al) (l : List UInt8) (now hv : Nat) (out : List UInt8) (hu : ufold w al l = some (now, hv, out)) :
    groupsL w al out = l ↔ ¬ (w ≤ hv ∨ now ≠ 0) := by
  have hin := ufold_in w al hal.1 l _ hu
  obtain ⟨now', hv', out', hu', hb, hn, h8, hlen⟩ := ufold_big w (by omega) al l hin
  rw [hu] at hu'
  cases hu'
  obtain ⟨pad, hp, glen, gin, gbig⟩ := groups_facts w (by omega) al hal out
  constructor
  · intro he
    rw [he] at glen gbig
    obtain rfl : pad = hv := by omega
    rw [gbig] at hb
    omega
  · intro hno
    obtain rfl : now = 0 := by omega
    have hlt : hv < w := by omega
    have hll : (groupsL w al out).length = l.length ∧ pad = hv := by
      rcases hw with rfl | rfl
      · omega
      · omega
    obtain ⟨hll, rfl⟩ := hll
    refine digs_inj w al _ _ gin hin (big_inj (2 ^ w) (Nat.pow_pos (by decide)) _ _ (digs_lt w al _ gin) (digs_lt w al _ hin) (by simp [digs, hll]) ?_)
    rw [gbig, ← hb, Nat.add_zero]
theorem groups_ungrouped (w : Nat) (hw : w = 4 ∨ w = 6) (al : List UInt8) (hal : Al w al) (l a : List UInt8) (h : ungroupedL w al l = some a) : groupsL w al a = l := by
  unfold ungroupedL at h
  cases hu : ufold w al l with
  | none => rw [hu] at h; cases h
  | some t =>
    obtain ⟨now, hv, out⟩ := t
    rw [hu] at h
    simp only at h
    by_cases hb : w ≤ hv ∨ now ≠ 0
    · rw [if_pos hb] at h; cases h
    · rw [if_neg hb] at h
      cases h
      exact (groups_ufold w hw al hal l now hv _ hu).2 hb

theorem refFind_any (al : ByteArray) (c : UInt8) (w : World) (hlen : al.size ≤ 64) :
    Calls Try.prog 46 #[.string al, .int .u8 (c.toNat : Int)] w fun e w' => e = .returned (.int .i64 (Lib.indexByte al.data.toList c)) ∧ w' = w := by
  have hl : al.data.toList.length = al.size := by simp
  obtain ⟨l, HL⟩ : ∃ l, Hid (al.data.toList = l) := ⟨_, Lib.hid rfl⟩
  rw [HL.out] at hl ⊢
  obtain ⟨X, HX⟩ : ∃ X, Hid (Lib.indexByte l c = X) := ⟨_, Lib.hid rfl⟩
  rw [HX.out]
  have HLS := Lib.hid hl; clear hl
  have l0 : (0 : Int) ≤ (al.size : Int) := by omega
  have l1 : (al.size : Int) ≤ 64 := by omega
  have c0 : (0 : Int) ≤ (c.toNat : Int) := by omega
  have c1 : (c.toNat : Int) < 256 := by have := c.toNat_lt; omega
  go_enter Try.func46, Try.ntmps46
  go_wp2
  go_loopw [5] (fun i wr => ∃ (k : Nat), k ≤ al.size ∧ i = .int .i64 k ∧ Hid (∀ j, j < k → l.getD j 0 ≠ c) ∧ wr = w) (fun i _ => al.size - (intOf i).toNat)
  case atStart => exact ⟨0, by omega, rfl, Lib.hid (fun j hj => absurd hj (by omega)), rfl⟩
  case round =>
    obtain ⟨k, hk, rfl, HK, rfl⟩ := hrel
    by_cases hlt : k < al.size
    · obtain ⟨d, HD⟩ : ∃ d, Hid (l.getD k 0 = d) := ⟨_, Lib.hid rfl⟩
      have hsk : al[k] = d := by
        rw [← HD.out, ← HL.out, List.getD_eq_getElem?_getD, List.getElem?_eq_getElem (by simpa using hlt), Option.getD_some]
        rfl
      by_cases hdc : d = c
      · subst hdc
        have HY : Hid ((k : Int) = X) := by
          show _ = _
          rw [← HX.out, idx_at l d k HK.out (by rw [HLS.out]; exact hlt) HD.out]
        refine hide_post fun R HR => ?_
        go_wp2
        obtain rfl := HR.out
        go_ret
        exact ⟨by rw [HY.out]; rfl, rfl⟩
      · have hne : (d.toNat : Int) ≠ (c.toNat : Int) := by
          intro h
          exact hdc (UInt8.toNat_inj.1 (by omega))
        have hneb : ((d.toNat : Int) == (c.toNat : Int)) = false := by simpa using hne
        have HK2 : Hid (∀ j, j < k + 1 → l.getD j 0 ≠ c) := by
          show ∀ j, _
          intro j hj
          by_cases hjk : j = k
          · rw [hjk, HD.out]; exact hdc
          · exact HK.out j (by omega)
        refine hide_post fun R HR => ?_
        go_wp2
        obtain rfl := HR.out
        go_roundw
        case rel => exact ⟨k + 1, hlt, by go_num, HK2, rfl⟩
        case measure => simp [intOf]; omega
    · obtain rfl : k = al.size := by omega
      have HY : Hid ((-1 : Int) = X) := by
        show _ = _
        rw [← HX.out, idx_none l c (by rw [HLS.out]; exact HK.out)]
      refine hide_post fun R HR => ?_
      go_wp2
      obtain rfl := HR.out
      go_ret
      exact ⟨by rw [HY.out]; rfl, rfl⟩
end Go.Proofs.Ytlpdbkhpchmpmaa
