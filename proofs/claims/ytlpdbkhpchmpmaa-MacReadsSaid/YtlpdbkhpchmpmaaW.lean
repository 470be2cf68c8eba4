/-
  The reference's Hex.
-/
import Derived.Test.YtlpdbkhpchmpmaaV
import Derived.Deep.RegionHeld3
import Derived.Deep.AppendLies
namespace Go.Proofs.Ytlpdbkhpchmpmaa
open Go.RowKit
set_option linter.unusedVariables false
set_option maxRecDepth 100000
set_option maxHeartbeats 4000000

def hexS : ByteArray := ⟨#[48, 49, 50, 51, 52, 53, 54, 55, 56, 57, 97, 98, 99, 100, 101, 102]⟩
theorem hex_index (ix : Nat) (h : ix < 16) (w : World) : (Instr.index 9 (.string hexS) (.int .u8 (ix : Int))).run Try.prog w = .ok (.int .u8 ((hexAl.getD ix 0).toNat : Int)) w := by
  have key : ∀ i : Fin 16, (Instr.index 9 (.string hexS) (.int .u8 (i.val : Int))).run Try.prog w = .ok (.int .u8 ((hexAl.getD i.val 0).toNat : Int)) w := by
    intro i
    have h64 : i.val < hexS.size := i.isLt
    have e : hexS[i.val]'h64 = hexAl.getD i.val 0 := by
      rw [List.getD_eq_getElem?_getD, List.getElem?_eq_getElem (show i.val < hexAl.length from i.isLt), Option.getD_some]
      rfl
    have h0 : (0 : Int) ≤ (i.val : Int) ∧ (i.val : Int) < 16 := by omega
    simp [Instr.index, asIntOf, run_underlying Try.underlying9, h0, e, h64]
    try omega
  exact key ⟨ix, h⟩
def hexL (al l : List UInt8) : List UInt8 := l.flatMap fun c => [al.getD (c.toNat / 16) 0, al.getD (c.toNat % 16) 0]
theorem gstep4 (al out : List UInt8) (c : UInt8) : gstep 4 al (0, 0, out) c = (0, 0, out ++ [al.getD (c.toNat / 16) 0, al.getD (c.toNat % 16) 0]) := by
  have hc := c.toNat_lt
  unfold gstep
  simp only [Nat.zero_mul, Nat.zero_add]
  rw [emit_go _ _ _ _ _ _ (by omega), emit_go _ _ _ _ _ _ (by omega), emit_stop _ _ _ _ _ _ (by omega)]
  simp [Nat.mod_one]
theorem gfold4 (al l : List UInt8) : gfold 4 al l = (0, 0, hexL al l) := by
  rw [← List.reverse_reverse l]
  generalize l.reverse = r
  induction r with
  | nil => rw [List.reverse_nil, gfold_nil]; rfl
  | cons c r ih =>
    rw [List.reverse_cons, gfold_snoc, ih, gstep4]
    simp [hexL]
theorem groups4 (al l : List UInt8) : groupsL 4 al l = hexL al l := by
  unfold groupsL
  rw [gfold4]
  simp
theorem hexL_take (al l : List UInt8) (k : Nat) (h : k < l.length) : hexL al (l.take (k + 1)) = hexL al (l.take k) ++ [al.getD ((l.getD k 0).toNat / 16) 0, al.getD ((l.getD k 0).toNat % 16) 0] := by
  rw [List.take_succ_eq_append_getElem h]
  unfold hexL
  rw [List.flatMap_append]
  simp [List.getD_eq_getElem?_getD, List.getElem?_eq_getElem h]
theorem hexL_length (al l : List UInt8) : (hexL al l).length = 2 * l.length := by
  induction l with
  | nil => rfl
  | cons c l ih => simp [hexL] at ih ⊢; omega
attribute [irreducible] hexL
theorem news_two (w : World) (c d : UInt8) : ∀ j u, (bcells [c, d])[j]? = some u → (w.alloc (.cells #[.int .u8 (c.toNat : Int), .int .u8 (d.toNat : Int)] 5)).cell? ((⟨w.heap.size, 0, none⟩ : Addr).add j) = some u := by
  intro j u hj
  have hadd : (⟨w.heap.size, 0, none⟩ : Addr).add j = ⟨w.heap.size, j, none⟩ := by unfold Addr.add; split <;> simp_all
  rw [hadd, (Blk.new w 5 _).cell j]
  simpa [bcells] using hj

theorem row_keepW {w w' : World} {B n : Nat} {v : Value} {xs : List Value} (h : w.ownsRow B 5 1 v n xs) (hb : ∀ k, v.ownBlock = some k → k < w.heap.size → w'.heap[k]? = w.heap[k]?) : w'.ownsRow B 5 1 v n xs := by
  refine ⟨h.1, ?_⟩
  rcases h.2 with h0 | ⟨g, cap, cur, rfl, hg, hh, r⟩
  · exact .inl h0
  · exact .inr ⟨g, cap, cur, rfl, hg, by rw [hb g rfl (Array.getElem?_eq_some_iff.1 hh).1]; exact hh, r⟩
theorem row_belowW {w w' : World} {B n : Nat} {v : Value} {xs : List Value} (h : w.ownsRow B 5 1 v n xs) (hb : Below w.heap.size w w') : w'.ownsRow B 5 1 v n xs :=
  row_keepW h fun k _ hk => hb.block k hk
theorem refHex_any (s : ByteArray) (w : World) (hlen : s.size ≤ 8796093022208) :
    Calls Try.prog 30 #[.string s] w fun e w' => e = .returned (.string (strOf (groupsL 4 hexAl s.data.toList))) ∧ Below w.heap.size w w' := by
  rw [groups4]
  have hl : s.data.toList.length = s.size := by simp
  obtain ⟨l, HL⟩ : ∃ l, Hid (s.data.toList = l) := ⟨_, Lib.hid rfl⟩
  rw [HL.out] at hl ⊢
  obtain ⟨a, HA⟩ : ∃ l, Hid (hexAl = l) := ⟨_, Lib.hid rfl⟩
  have HIXA := Lib.hid (fun ix h w => hex_index ix h w)
  rw [HA.out] at HIXA
  rw [HA.out]
  have HLS := Lib.hid hl; clear hl
  have l0 : (0 : Int) ≤ (s.size : Int) := by omega
  have l1 : (s.size : Int) ≤ 8796093022208 := by omega
  obtain ⟨i0, hi, hz0, hz1, hz2⟩ := info_parts (show (Try.prog.info? 5).map (fun i => (i.zero, i.size, i.bytes)) = some (some (.int .u8 0), 1, 1) by kernel_rfl)
  go_enter Try.func30, Try.ntmps30
  go_wp2
  go_loopw [3, 4] (fun b i wr => ∃ (k : Nat), k ≤ s.size ∧ i = .int .i64 k ∧ wr.ownsRow w.heap.size 5 1 b (hexL a (l.take k)).length (bcells (hexL a (l.take k))) ∧ Below w.heap.size w wr) (fun _ i _ => s.size - (intOf i).toNat)
  case atStart => exact ⟨0, by omega, rfl, by rw [List.take_zero]; unfold hexL; exact World.ownsRow_nil _ _ _ _, Below.refl _ _⟩
  case round =>
    obtain ⟨k, hk, rfl, hB, hnx⟩ := hrel
    have hsz := hnx.size
    by_cases hlt : k < s.size
    · obtain ⟨c, HC⟩ : ∃ c, Hid (l.getD k 0 = c) := ⟨_, Lib.hid rfl⟩
      have hsk : s[k] = c := by
        rw [← HC.out, ← HL.out, List.getD_eq_getElem?_getD, List.getElem?_eq_getElem (by simpa using hlt), Option.getD_some]
        rfl
      have HT : Hid (hexL a (l.take (k + 1)) = hexL a (l.take k) ++ [a.getD (c.toNat / 16) 0, a.getD (c.toNat % 16) 0]) := by
        show _ = _
        rw [hexL_take _ _ _ (by rw [HLS.out]; exact hlt), HC.out]
      have hc256 : c.toNat < 256 := c.toNat_lt
      have HLN : Hid ((hexL a (l.take k)).length ≤ 17592186044416) := by
        show _ ≤ _
        rw [hexL_length, List.length_take]
        omega
      have i1 := HIXA.out (c.toNat / 16) (by omega)
      have i2 := HIXA.out (c.toNat % 16) (by omega)
      obtain ⟨x, HX⟩ : ∃ x, Hid (a.getD (c.toNat / 16) 0 = x) := ⟨_, Lib.hid rfl⟩
      obtain ⟨y, HY⟩ : ∃ x, Hid (a.getD (c.toNat % 16) 0 = x) := ⟨_, Lib.hid rfl⟩
      rw [HX.out] at i1 HT
      rw [HY.out] at i2 HT
      unfold hexS at i1 i2
      rw [show ((c.toNat / 16 : Nat) : Int) = (c.toNat : Int) / 16 by omega] at i1
      rw [show ((c.toNat % 16 : Nat) : Int) = (c.toNat : Int) % 16 by omega] at i2
      have c0 : (0 : Int) ≤ (c.toNat : Int) := by omega
      have c1 : (c.toNat : Int) < 256 := by omega
      refine hide_post fun R HR => ?_
      go_wp2
      refine wp_region_noPanic ?_
      refine wp_region_held_drew (S := fun _ => True) (by kernel_rfl) trivial (fun hHeld => ?_)
      refine wpAnyH_take (i := 0) (v := u3) rfl (by kernel_rfl) (by kernel_rfl) (by kernel_rfl) (fun _ _ _ h => h) (Or.inl ⟨by rfl, ?_⟩) trivial ?_
      · intro w' _
        go_simp
      try simp only [Act.put, List.setIfInBounds_toArray, List.set_cons_zero, List.set_cons_succ]
      refine wpAnyH_take (i := 1) (v := .string s) rfl (by kernel_rfl) (by kernel_rfl) (by kernel_rfl) (fun _ _ _ h => h) (Or.inl ⟨by rfl, ?_⟩) trivial ?_
      · intro w' _
        go_simp
      try simp only [Act.put, List.setIfInBounds_toArray, List.set_cons_zero, List.set_cons_succ]
      refine wpAnyH_take (i := 2) (v := .int .i64 (k : Int)) rfl (by kernel_rfl) (by kernel_rfl) (by kernel_rfl) (fun _ _ _ h => h) (Or.inl ⟨by rfl, ?_⟩) trivial ?_
      · intro w' _
        go_simp
      try simp only [Act.put, List.setIfInBounds_toArray, List.set_cons_zero, List.set_cons_succ]
      refine wpAnyH_take (i := 3) (v := .int .u8 (c.toNat : Int)) rfl (by kernel_rfl) (by kernel_rfl) (by kernel_rfl) (fun _ _ _ h => h) (Or.inl ⟨by rfl, ?_⟩) trivial ?_
      · intro w' _
        go_simp
      try simp only [Act.put, List.setIfInBounds_toArray, List.set_cons_zero, List.set_cons_succ]
      refine wpAnyH_take (i := 4) (v := .int .u8 ((c.toNat : Int) / 16)) rfl (by kernel_rfl) (by kernel_rfl) (by kernel_rfl) (fun _ _ _ h => h) (Or.inl ⟨by rfl, ?_⟩) trivial ?_
      · intro w' _
        go_simp
        rw [IntKind.wrap_u8]
        omega
      try simp only [Act.put, List.setIfInBounds_toArray, List.set_cons_zero, List.set_cons_succ]
      refine wpAnyH_take (i := 5) (v := .int .u8 (x.toNat : Int)) rfl (by kernel_rfl) (by kernel_rfl) (by kernel_rfl) (fun _ _ _ h => h) (Or.inl ⟨by rfl, ?_⟩) trivial ?_
      · intro w' _
        go_simp
      try simp only [Act.put, List.setIfInBounds_toArray, List.set_cons_zero, List.set_cons_succ]
      refine wpAnyH_take (i := 6) (v := .string s) rfl (by kernel_rfl) (by kernel_rfl) (by kernel_rfl) (fun _ _ _ h => h) (Or.inl ⟨by rfl, ?_⟩) trivial ?_
      · intro w' _
        go_simp
      try simp only [Act.put, List.setIfInBounds_toArray, List.set_cons_zero, List.set_cons_succ]
      refine wpAnyH_take (i := 7) (v := .int .i64 (k : Int)) rfl (by kernel_rfl) (by kernel_rfl) (by kernel_rfl) (fun _ _ _ h => h) (Or.inl ⟨by rfl, ?_⟩) trivial ?_
      · intro w' _
        go_simp
      try simp only [Act.put, List.setIfInBounds_toArray, List.set_cons_zero, List.set_cons_succ]
      refine wpAnyH_take (i := 8) (v := .int .u8 (c.toNat : Int)) rfl (by kernel_rfl) (by kernel_rfl) (by kernel_rfl) (fun _ _ _ h => h) (Or.inl ⟨by rfl, ?_⟩) trivial ?_
      · intro w' _
        go_simp
      try simp only [Act.put, List.setIfInBounds_toArray, List.set_cons_zero, List.set_cons_succ]
      refine wpAnyH_take (i := 9) (v := .int .u8 ((c.toNat : Int) % 16)) rfl (by kernel_rfl) (by kernel_rfl) (by kernel_rfl) (fun _ _ _ h => h) (Or.inl ⟨by rfl, ?_⟩) trivial ?_
      · intro w' _
        go_simp
        exact Int.tmod_eq_emod_of_nonneg c0
      try simp only [Act.put, List.setIfInBounds_toArray, List.set_cons_zero, List.set_cons_succ]
      refine wpAnyH_take (i := 10) (v := .int .u8 (y.toNat : Int)) rfl (by kernel_rfl) (by kernel_rfl) (by kernel_rfl) (fun _ _ _ h => h) (Or.inl ⟨by rfl, ?_⟩) trivial ?_
      · intro w' _
        go_simp
      try simp only [Act.put, List.setIfInBounds_toArray, List.set_cons_zero, List.set_cons_succ]
      refine wpAnyH_ready (rs := [11]) (by kernel_rfl) (by simp) ?_
      refine AllReadyH.cons rfl (fun K hK => ?_) AllReadyH.nil
      go_simp
      refine hK.out _ _ trivial (fun _ => ?_)
      try simp only [Act.put, List.setIfInBounds_toArray, List.set_cons_zero, List.set_cons_succ]
      refine wpAnyH_ready (rs := [12]) (by kernel_rfl) (by simp) ?_
      refine AllReadyH.cons rfl (fun K hK => ?_) AllReadyH.nil
      refine step_append_lies _ (by rfl) _ _ 28 (by rfl) w.heap.size 5 i0 (.int .u8 0) 1 1 Try.underlying28 hi hz0 hz1 hz2 rfl (by decide) u3 _ _ (by rfl) (row_belowW hB (((Below.refl _ _).drew).alloc (Nat.le_refl _) _)) ⟨wr.heap.size, 0, none⟩ 2 2 (bcells [x, y]) (by rfl) rfl (news_two wr.drew x y) (bcells_one _) (by decide) (by unfold maxLen; have := HLN.out; omega) (by have := HLN.out; omega) (by simp; exact Nat.le_succ_of_le hsz) (wr.heap.size + 1) (by simp) ?_
      intro g cap w1 hown1 hgrow hat hlt1
      refine hK.out _ _ trivial (fun _ => ?_)
      try simp only [Act.put, List.setIfInBounds_toArray, List.set_cons_zero, List.set_cons_succ]
      refine wpAnyH_ready (rs := [13]) (by kernel_rfl) (by simp) ?_
      refine AllReadyH.cons rfl (fun K hK => ?_) AllReadyH.nil
      go_simp
      refine hK.out _ _ trivial (fun _ => ?_)
      refine wpAnyH_done (by kernel_rfl) ?_ _
      refine NoPanic.normal ?_
      have hnx1 : Below w.heap.size w w1 := (hnx.drew.alloc hsz (.cells #[.int .u8 (x.toNat : Int), .int .u8 (y.toNat : Int)] 5)).grown hgrow (by simp; exact Nat.le_succ_of_le hsz) (fun j hj => by
        rcases hB.2 with ⟨rfl, _⟩ | ⟨q, cap', cur, rfl, hq, hh, _⟩
        · simp [Value.ownBlock] at hj
        · simp [Value.ownBlock] at hj
          omega)
      have hlen1 : (hexL a (l.take k)).length + 2 = (hexL a (l.take (k + 1))).length := by rw [HT.out, List.length_append]; rfl
      have hrow1 : bcells (hexL a (l.take k)) ++ bcells [x, y] = bcells (hexL a (l.take (k + 1))) := by rw [HT.out, bcells_append]
      rw [hlen1, hrow1] at hown1
      rw [hlen1]
      clear hgrow hat
      go_wp2
      obtain rfl := HR.out
      go_roundw
      case rel => exact ⟨k + 1, hlt, by go_num, hown1, hnx1⟩
      case measure => simp [intOf]; omega
    · obtain rfl : k = s.size := by omega
      clear hlt hk
      have HTL : Hid (l.take s.size = l) := by show _ = _; rw [← HLS.out, List.take_length]
      rw [HTL.out] at hB
      obtain ⟨O, HO⟩ : ∃ O, Hid (hexL a l = O) := ⟨_, Lib.hid rfl⟩
      rw [HO.out] at hB
      have hB' := OwnB.of_row hB
      obtain ⟨p1, cap1, rfl⟩ := hB'.form
      have hconv := run_string_B wr _ _ _ hB'
      refine hide_post fun R HR => ?_
      go_wp2
      obtain rfl := HR.out
      go_ret
      refine ⟨?_, hnx⟩
      rw [HO.out]
      rfl
end Go.Proofs.Ytlpdbkhpchmpmaa
