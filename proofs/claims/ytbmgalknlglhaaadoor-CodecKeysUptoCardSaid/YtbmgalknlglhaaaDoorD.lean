/-
  awake: the check sum of nine digits, a varint and a text, written and read back.
-/
import Derived.Test.YtbmgalknlglhaaaDoorC
import Derived.Test.YtbmgalknlglhaaaDoorR
namespace Go.Proofs.YtbmgalknlglhaaaDoor
open Go.RowKit
set_option linter.unusedVariables false
set_option maxRecDepth 100000
set_option maxHeartbeats 2000000

def cstep (c : Int) : Int := bits .xor .u32 (c / 2) (bits .and .u32 2197175160 (-(bits .and .u32 c 1) % 4294967296))
def cbits : Nat → Int → Int
  | 0, c => c
  | k + 1, c => cstep (cbits k c)
def cbyte (c : Int) (x : UInt8) : Int := cbits 8 (bits .xor .u32 c (x.toNat : Int))
def cfold (l : List UInt8) : Int := l.foldl cbyte 4294967295
theorem cfold_take (l : List UInt8) (k : Nat) (h : k < l.length) : cfold (l.take (k + 1)) = cbyte (cfold (l.take k)) (l.getD k 0) := by
  rw [List.take_succ_eq_append_getElem h]
  simp [cfold, List.foldl_append, -List.take_append_getElem, List.getD_eq_getElem?_getD, List.getElem?_eq_getElem h]
theorem xor_in (x y : Int) : 0 ≤ bits .xor .u32 x y ∧ bits .xor .u32 x y < 4294967296 := by
  have h := bits_within .xor .u32 x y
  simp only [IntKind.min, IntKind.max, IntKind.signed, IntKind.bits] at h
  have h1 := h.1
  have h2 := h.2
  simp at h1 h2
  omega
theorem cbits_in (k : Nat) (x : Int) (h : 0 ≤ x ∧ x < 4294967296) : 0 ≤ cbits k x ∧ cbits k x < 4294967296 := by
  cases k with
  | zero => exact h
  | succ k => exact xor_in _ _
theorem cfold_in (l : List UInt8) : 0 ≤ cfold l ∧ cfold l < 4294967296 := by
  rw [← List.reverse_reverse l]
  generalize l.reverse = r
  cases r with
  | nil => exact ⟨by decide, by decide⟩
  | cons c r => simp only [cfold, List.reverse_cons, List.foldl_append, List.foldl_cons, List.foldl_nil]; exact cbits_in 8 _ (xor_in _ _)
theorem cfold_nine : bits .xor .u32 IntKind.u32.max (cfold [49, 50, 51, 52, 53, 54, 55, 56, 57]) = 3808858755 := by decide +kernel
attribute [irreducible] cstep cfold

theorem crc_any (s : ByteArray) (w : World) (hlen : s.size ≤ 1099511627776) :
    Calls Tryd.prog 15 #[.string s] w fun e w' => e = .returned (.int .u32 (bits .xor .u32 IntKind.u32.max (cfold s.data.toList))) ∧ w' = w := by
  have hl : s.data.toList.length = s.size := by simp
  obtain ⟨l, HL⟩ : ∃ l, Hid (s.data.toList = l) := ⟨_, Lib.hid rfl⟩
  rw [HL.out] at hl ⊢
  have HLS := Lib.hid hl; clear hl
  have l0 : (0 : Int) ≤ (s.size : Int) := by omega
  have l1 : (s.size : Int) ≤ 1099511627776 := by omega
  go_enter Tryd.func15, Tryd.ntmps15
  go_wp2
  go_loopw [3, 4, 7] (fun c _ i wr => ∃ (k : Nat), k ≤ s.size ∧ i = .int .i64 k ∧ c = .int .u32 (cfold (l.take k)) ∧ wr = w) (fun _ _ i _ => s.size - (intOf i).toNat)
  case atStart => exact ⟨0, by omega, rfl, by rw [List.take_zero]; unfold cfold; rfl, rfl⟩
  case round =>
    obtain ⟨k, hk, rfl, rfl, rfl⟩ := hrel
    by_cases hlt : k < s.size
    · obtain ⟨d, HC⟩ : ∃ c, Hid (l.getD k 0 = c) := ⟨_, Lib.hid rfl⟩
      have hsk : s[k] = d := by
        rw [← HC.out, ← HL.out, List.getD_eq_getElem?_getD, List.getElem?_eq_getElem (by simpa using hlt), Option.getD_some]
        rfl
      have HT : Hid (cfold (l.take (k + 1)) = cbyte (cfold (l.take k)) d) := by
        show _ = _
        rw [cfold_take _ _ (by rw [HLS.out]; exact hlt), HC.out]
      obtain ⟨x, HX⟩ : ∃ x, Hid (bits .xor .u32 (cfold (l.take k)) (d.toNat : Int) = x) := ⟨_, Lib.hid rfl⟩
      have hx := HX.out
      have HXI : Hid (0 ≤ x ∧ x < 4294967296) := by show _ ∧ _; rw [← hx]; exact xor_in _ _
      have hd0 : (d.toNat : Int) < 256 := by have := d.toNat_lt; omega
      have hd1 : (0 : Int) ≤ (d.toNat : Int) := by omega
      obtain ⟨y, HY⟩ : ∃ y, Hid (cfold (l.take k) = y) := ⟨_, Lib.hid rfl⟩
      rw [HY.out] at hx ⊢
      have HTT : Hid (cfold (l.take (k + 1)) = cbits 8 x) := by show _ = _; rw [HT.out, HY.out, ← hx]; rfl
      refine hide_post fun R HR => ?_
      go_wp2
      obtain ⟨wo, rfl⟩ : ∃ wo : World, wo = wr := ⟨_, rfl⟩
      go_loopw [3, 16] (fun c j wr => ∃ (m : Nat), m ≤ 8 ∧ j = .int .i64 m ∧ c = .int .u32 (cbits m x) ∧ wr = wo) (fun _ j _ => 8 - (intOf j).toNat)
      case atStart => exact ⟨0, by omega, rfl, by first | rfl | (rw [hx]; rfl), rfl⟩
      case round =>
        obtain ⟨m, hm, rfl, rfl, rfl⟩ := hrel
        obtain ⟨z, HZ⟩ : ∃ z, Hid (cbits m x = z) := ⟨_, Lib.hid rfl⟩
        have hzi := cbits_in m x HXI.out
        rw [HZ.out] at hzi
        obtain ⟨z0, z1⟩ := hzi
        by_cases hml : m < 8
        · have HN : Hid (cbits (m + 1) x = cstep z) := by show _ = _; rw [← HZ.out]; rfl
          rw [HZ.out]
          refine hide_post fun R' HR' => ?_
          go_wp2
          obtain rfl := HR'.out
          go_roundw
          case rel => exact ⟨m + 1, hml, by go_num, by rw [HN.out]; unfold cstep; rfl, rfl⟩
          case measure => simp [intOf]; omega
        · obtain rfl : m = 8 := by omega
          rw [HZ.out]
          refine hide_post fun R' HR' => ?_
          go_wp2
          obtain rfl := HR'.out
          obtain rfl := HR.out
          go_roundw
          case rel => exact ⟨k + 1, hlt, by go_num, by rw [HTT.out, HZ.out], rfl⟩
          case measure => simp [intOf]; omega
    · obtain rfl : k = s.size := by omega
      have HTL : Hid (l.take s.size = l) := by show _ = _; rw [← HLS.out, List.take_length]
      rw [HTL.out]
      refine hide_post fun R' HR' => ?_
      go_wp2
      obtain rfl := HR'.out
      go_ret
      exact ⟨rfl, rfl⟩
theorem crc_nine (w : World) : Calls Tryd.prog 15 #[.string ⟨#[49, 50, 51, 52, 53, 54, 55, 56, 57]⟩] w fun e w' => e = .returned (.int .u32 3808858755) ∧ w' = w := by
  have h := crc_any ⟨#[49, 50, 51, 52, 53, 54, 55, 56, 57]⟩ w (by decide)
  rw [show (⟨#[49, 50, 51, 52, 53, 54, 55, 56, 57]⟩ : ByteArray).data.toList = [49, 50, 51, 52, 53, 54, 55, 56, 57] from rfl, cfold_nine] at h
  exact h

/-! ### the Writer's varints -/
theorem varint_300 (w : World) : Calls Tryd.prog 34 #[.int .u64 300] w fun e w' => ∃ v, e = .returned v ∧ OwnB w' w.heap.size v [172, 2] ∧ Below w.heap.size w w' := by
  have b1 : bits .or .u8 44 128 = 172 := by decide
  go_enter Tryd.func34, Tryd.ntmps34
  go_wp2
  go_loopw [0, 3] (fun n v wr => ((n = .int .u64 300 ∧ OwnB wr w.heap.size v []) ∨ (n = .int .u64 2 ∧ OwnB wr w.heap.size v [172])) ∧ Below w.heap.size w wr) (fun n _ _ => (intOf n).toNat)
  case atStart => exact ⟨.inl ⟨rfl, OwnB.nil _ _⟩, Below.refl _ _⟩
  case round =>
    obtain ⟨hcase, hnx⟩ := hrel
    have hsz := hnx.size
    rcases hcase with ⟨rfl, hB⟩ | ⟨rfl, hB⟩
    · refine hide_post fun R HR => ?_
      go_wp2_with (at_builtin; refine wpList_append_B _ rfl _ _ rfl w.heap.size _ _ rfl (hB.alloc _) ⟨wr.heap.size, 0, none⟩ 1 1 [172] rfl rfl (news_one _ _ _ rfl) ?c2 ?c3 ?_)
      case c2 => decide
      case c3 => first | omega | exact Nat.le_trans hsz (by simp) | (simp; omega)
      intro v1 w1 hB1 hg1
      have hnx1 : Below w.heap.size w w1 := (hnx.alloc hsz _).grown hg1 (by simp; omega) (fun j hj => (hB.lt j hj).1)
      clear hg1 hB hnx
      go_wp2
      obtain rfl := HR.out
      go_roundw
      case rel => exact ⟨.inr ⟨rfl, hB1⟩, hnx1⟩
      case measure => simp [intOf]
    · refine hide_post fun R HR => ?_
      go_wp2_with (at_builtin; refine wpList_append_B _ rfl _ _ rfl w.heap.size _ _ rfl (hB.alloc _) ⟨wr.heap.size, 0, none⟩ 1 1 [2] rfl rfl (news_one _ _ _ rfl) ?c2 ?c3 ?_)
      case c2 => decide
      case c3 => first | omega | exact Nat.le_trans hsz (by simp) | (simp; omega)
      intro v1 w1 hB1 hg1
      have hnx1 : Below w.heap.size w w1 := (hnx.alloc hsz _).grown hg1 (by simp; omega) (fun j hj => (hB.lt j hj).1)
      clear hg1 hB hnx
      go_wp2
      obtain rfl := HR.out
      go_ret
      exact ⟨_, rfl, hB1, hnx1⟩
theorem varint_2 (w : World) : Calls Tryd.prog 34 #[.int .u64 2] w fun e w' => ∃ v, e = .returned v ∧ RowB w' w.heap.size v [2] ∧ Below w.heap.size w w' := by
  go_enter Tryd.func34, Tryd.ntmps34
  go_wp2
  go_loopw [0, 3] (fun n v wr => n = .int .u64 2 ∧ v = .slice none 0 0 ∧ wr = w) (fun n _ _ => (intOf n).toNat)
  case atStart => exact ⟨rfl, rfl, rfl⟩
  case round =>
    obtain ⟨rfl, rfl, rfl⟩ := hrel
    refine hide_post fun R HR => ?_
    go_wp2_with (at_builtin; refine wpList_app_bytes _ rfl _ _ rfl wr.heap.size _ _ rfl (RowB.nil _ _) ⟨wr.heap.size, 0, none⟩ 1 1 [2] rfl rfl (news_one _ _ _ rfl) (by decide) ?c2 ?c3 (wr.heap.size + 1) (by simp) ?_)
    case c2 => decide
    case c3 => simp
    intro v1 w1 hB1 hg1 _
    have hnx1 : Below wr.heap.size wr w1 := ((Below.refl _ wr).alloc (Nat.le_refl _) _).grown hg1 (by simp) (fun j hj => by simp [Value.ownBlock] at hj)
    clear hg1
    go_wp2
    obtain rfl := HR.out
    go_ret
    exact ⟨_, rfl, hB1, hnx1⟩

theorem wVarint_300 (B b most : Nat) (l : List UInt8) (w : World) (h : IsW w B b most l) (hroom : l.length + 2 ≤ most) (hmost : most ≤ 1099511627776) (hBw : B ≤ w.heap.size) :
    Calls Tryd.prog 16 #[.pointer (some ⟨b, 0, none⟩), .int .u64 300] w fun e w' => e = .returned (.tuple #[]) ∧ IsW w' B b most (l ++ [172, 2]) ∧ Below B w w' := by
  obtain ⟨O, HO⟩ : ∃ O, Hid (l ++ [172, 2] = O) := ⟨_, Lib.hid rfl⟩
  rw [HO.out]
  have HV := Lib.hid (fun w => varint_300 w)
  have H1 := Lib.hid h
  have H2 := Lib.hid hroom
  have H3 := Lib.hid hmost
  clear h hroom hmost
  go_enter Tryd.func16, Tryd.ntmps16
  go_wp2_with fail
  refine (HV.out _).mono ?_
  rintro e w1 ⟨v, rfl, hv, hb1⟩
  have hW1 := Lib.hid (H1.out.below hb1)
  rcases hv with ⟨_, h0⟩ | ⟨g, cap, rfl, hg, hlt, hc1, hc2, hcells, _⟩
  · cases h0
  have hP := Lib.hid (put_any B b most l ⟨g, 0, none⟩ 2 cap [172, 2] w1 hW1.out rfl (fun j u hj => by
    have hadd : (⟨g, 0, none⟩ : Addr).add j = ⟨g, j, none⟩ := by unfold Addr.add; split <;> simp_all
    have hjl : j < 2 := by have := (List.getElem?_eq_some_iff.1 hj).1; rwa [bcells_length] at this
    rw [hadd, hcells j hjl, ← hj, bcells_get _ _ hjl]) H2.out H3.out (Nat.le_trans hBw hb1.size))
  rw [HO.out] at hP
  clear hcells
  go_wp2_with fail
  refine hP.out.mono ?_
  rintro e w2 ⟨rfl, hw2, hb2⟩
  go_wp2
  go_end0
  exact ⟨rfl, hw2, (hb1.mono hBw).trans hb2⟩

theorem wText_ab (B b most : Nat) (l : List UInt8) (w : World) (h : IsW w B b most l) (hroom : l.length + 3 ≤ most) (hmost : most ≤ 1099511627776) (hBw : B ≤ w.heap.size) :
    Calls Tryd.prog 17 #[.pointer (some ⟨b, 0, none⟩), .string ⟨#[97, 98]⟩] w fun e w' => e = .returned (.tuple #[]) ∧ IsW w' B b most (l ++ [2, 97, 98]) ∧ Below B w w' := by
  obtain ⟨O, HO⟩ : ∃ O, Hid (l ++ [2, 97, 98] = O) := ⟨_, Lib.hid rfl⟩
  rw [HO.out]
  have HV := Lib.hid (fun w => varint_2 w)
  have H1 := Lib.hid h
  have H2 := Lib.hid hroom
  have H3 := Lib.hid hmost
  clear h hroom hmost
  obtain ⟨S, HS⟩ : ∃ S, Hid ((⟨#[97, 98]⟩ : ByteArray) = S) := ⟨_, Lib.hid rfl⟩
  have hs : S.size = 2 := by rw [← HS.out]; rfl
  rw [HS.out]
  go_enter Tryd.func17, Tryd.ntmps17
  go_wp2_with fail
  refine (HV.out _).mono ?_
  rintro e w1 ⟨v, rfl, hv, hb1⟩
  have hW1 := Lib.hid (H1.out.below hb1)
  have hsz := hb1.size
  go_wp2_with (at_builtin; refine wpList_app_str _ rfl _ _ rfl w.heap.size _ _ rfl hv S rfl ?c2 hsz ?_)
  case c2 => rw [hs]; decide
  intro v2 w2 hv2 hg2
  have hb12 := (hb1.grown hg2 hsz (fun j hj => (hv.lt j hj).1))
  have hW2 := Lib.hid (H1.out.below hb12)
  have hv3 : RowB w2 w.heap.size v2 [2, 97, 98] := by rw [← HS.out] at hv2; exact hv2
  obtain ⟨g, cap, rfl, hg, hlt, hcells⟩ := hv3.some (by decide)
  have hP := Lib.hid (put_any B b most l ⟨g, 0, none⟩ 3 cap [2, 97, 98] w2 hW2.out rfl hcells H2.out H3.out (Nat.le_trans hBw hb12.size))
  rw [HO.out] at hP
  clear hcells hv2 hv3 hv hg2
  go_wp2_with fail
  refine hP.out.mono ?_
  rintro e w3 ⟨rfl, hw3, hb3⟩
  go_wp2
  go_end0
  exact ⟨rfl, hw3, (hb12.mono hBw).trans hb3⟩
end Go.Proofs.YtbmgalknlglhaaaDoor
