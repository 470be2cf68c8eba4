/-
  The codec's Reader, and awake.
-/
import Derived.Test.YtbmgalknlglhaaaDoorD
namespace Go.Proofs.YtbmgalknlglhaaaDoor
open Go.RowKit
set_option linter.unusedVariables false
set_option maxRecDepth 100000
set_option maxHeartbeats 2000000

/-- The Reader at block b has s left and no fault. -/
def IsR (w : World) (b : Nat) (s : ByteArray) : Prop := Blk w b 68 #[.string s, .int .i64 0]

theorem newReader_any (s : ByteArray) (w : World) :
    Calls Tryd.prog 19 #[.string s] w fun e w' => e = .returned (.pointer (some ⟨w.heap.size, 0, none⟩)) ∧ IsR w' w.heap.size s ∧ Below w.heap.size w w' := by
  go_enter Tryd.func19, Tryd.ntmps19
  go_wp2
  go_ret
  exact ⟨rfl, Blk.new w 68 _, (Below.refl _ _).alloc (Nat.le_refl _) _⟩

theorem rErr_any (b : Nat) (s : ByteArray) (w : World) (h : IsR w b s) :
    Calls Tryd.prog 31 #[.pointer (some ⟨b, 0, none⟩)] w fun e w' => e = .returned (.int .i64 0) ∧ w' = w := by
  have c1 := Blk.cell h 1
  simp only [List.getElem?_toArray, List.getElem?_cons_succ, List.getElem?_cons_zero] at c1
  go_enter Tryd.func31, Tryd.ntmps31
  go_wp2
  go_ret
  exact ⟨rfl, rfl⟩
theorem rDone_empty (b : Nat) (s : ByteArray) (w : World) (h : IsR w b s) (hs : s.size = 0) :
    Calls Tryd.prog 22 #[.pointer (some ⟨b, 0, none⟩)] w fun e w' => e = .returned (.int .i64 0) ∧ w' = w := by
  have c0 := Blk.cell h 0
  simp only [List.getElem?_toArray, List.getElem?_cons_zero] at c0
  have HE := Lib.hid (rErr_any b s w h)
  go_enter Tryd.func22, Tryd.ntmps22
  go_wp2_with fail
  refine HE.out.mono ?_
  rintro e w1 ⟨rfl, rfl⟩
  go_wp2
  go_ret
  exact ⟨rfl, rfl⟩

theorem raw_any (B b : Nat) (s p r : ByteArray) (n : Nat) (w : World) (h : IsR w b s) (hB : B ≤ b) (hn : n ≤ s.size) (hs : s.size ≤ 1099511627776) (hp : s.extract 0 n = p) (hr : s.extract n s.size = r) :
    Calls Tryd.prog 37 #[.pointer (some ⟨b, 0, none⟩), .int .i64 (n : Int)] w fun e w' => e = .returned (.string p) ∧ IsR w' b r ∧ Below B w w' := by
  have c0 := Blk.cell h 0
  have c1 := Blk.cell h 1
  have f0 := Blk.frozen h 0
  simp only [List.getElem?_toArray, List.getElem?_cons_succ, List.getElem?_cons_zero] at c0 c1
  have n0 : (0 : Int) ≤ (n : Int) := by omega
  have n1 : (n : Int) ≤ (s.size : Int) := by omega
  have n2 : (s.size : Int) ≤ 1099511627776 := by omega
  have n3 : ¬ ((s.size : Int) < (n : Int)) := by omega
  go_enter Tryd.func37, Tryd.ntmps37
  go_wp2
  go_ret
  exact ⟨rfl, Blk.set_ h 0 _, (Below.refl B w).setCell (p := ⟨b, 0, none⟩) hB _⟩

theorem rVarint_any (B b : Nat) (s r : ByteArray) (n : Int) (k : Nat) (w : World) (h : IsR w b s) (hB : B ≤ b) (hk : k ≤ s.size) (hs : s.size ≤ 1099511627776) (hr : s.extract k s.size = r)
    (hshape : ∀ w, Calls Tryd.prog 35 #[.string s] w fun e w' => e = .returned (.tuple #[.int .u64 n, .int .i64 (k : Int), .int .i64 0]) ∧ w' = w) :
    Calls Tryd.prog 20 #[.pointer (some ⟨b, 0, none⟩)] w fun e w' => e = .returned (.int .u64 n) ∧ IsR w' b r ∧ Below B w w' := by
  have c0 := Blk.cell h 0
  have c1 := Blk.cell h 1
  have f0 := Blk.frozen h 0
  simp only [List.getElem?_toArray, List.getElem?_cons_succ, List.getElem?_cons_zero] at c0 c1
  have n0 : (0 : Int) ≤ (k : Int) := by omega
  have n1 : (k : Int) ≤ (s.size : Int) := by omega
  have n2 : (s.size : Int) ≤ 1099511627776 := by omega
  have HS := Lib.hid hshape
  clear hshape
  go_enter Tryd.func20, Tryd.ntmps20
  go_wp2_with fail
  refine (HS.out _).mono ?_
  rintro e w1 ⟨rfl, rfl⟩
  go_wp2
  go_ret
  exact ⟨rfl, Blk.set_ h 0 _, (Below.refl B w1).setCell (p := ⟨b, 0, none⟩) hB _⟩

theorem rText_any (B b : Nat) (s t p r : ByteArray) (n k : Nat) (w : World) (h : IsR w b s) (hB : B ≤ b) (hk : k ≤ s.size) (hs : s.size ≤ 1099511627776) (ht : s.extract k s.size = t)
    (hshape : ∀ w, Calls Tryd.prog 35 #[.string s] w fun e w' => e = .returned (.tuple #[.int .u64 (n : Int), .int .i64 (k : Int), .int .i64 0]) ∧ w' = w)
    (hn : n ≤ t.size) (hts : t.size ≤ 1099511627776) (hp : t.extract 0 n = p) (hr : t.extract n t.size = r) :
    Calls Tryd.prog 21 #[.pointer (some ⟨b, 0, none⟩)] w fun e w' => e = .returned (.string p) ∧ IsR w' b r ∧ Below B w w' := by
  have H1 := Lib.hid (rVarint_any B b s t (n : Int) k w h hB hk hs ht hshape)
  clear hshape ht
  have n0 : (0 : Int) ≤ (n : Int) := by omega
  have n1 : (n : Int) ≤ (t.size : Int) := by omega
  have n2 : (t.size : Int) ≤ 1099511627776 := by omega
  have n3 : ¬ ((t.size : Int) < (n : Int)) := by omega
  have HP := Lib.hid hp
  have HR := Lib.hid hr
  clear hp hr
  go_enter Tryd.func21, Tryd.ntmps21
  go_wp2_with fail
  refine H1.out.mono ?_
  rintro e w1 ⟨rfl, hr1, hb1⟩
  have c0 := Blk.cell hr1 0
  have c1 := Blk.cell hr1 1
  simp only [List.getElem?_toArray, List.getElem?_cons_succ, List.getElem?_cons_zero] at c0 c1
  have H2 := Lib.hid (raw_any B b t p r n w1 hr1 hB hn hts HP.out HR.out)
  go_wp2_with fail
  refine H2.out.mono ?_
  rintro e w2 ⟨rfl, hr2, hb2⟩
  go_wp2
  go_ret
  exact ⟨rfl, hr2, hb1.trans hb2⟩

/-! ### awake -/
theorem shape_1 (w : World) : Calls Tryd.prog 35 #[.string ⟨#[172, 2, 2, 97, 98]⟩] w fun e w' => e = .returned (.tuple #[.int .u64 300, .int .i64 2, .int .i64 0]) ∧ w' = w := by
  have b1 : bits .and .u8 172 127 = 44 := by decide
  have b2 : bits .or .u64 0 44 = 44 := by decide
  have b3 : bits .and .u8 2 127 = 2 := by decide
  have b4 : bits .or .u64 44 256 = 300 := by decide
  obtain ⟨s, HS⟩ : ∃ s, Hid ((⟨#[172, 2, 2, 97, 98]⟩ : ByteArray) = s) := ⟨_, Lib.hid rfl⟩
  have hs : s.size = 5 := by rw [← HS.out]; rfl
  have h0 : 0 < s.size := by omega
  have h1 : 1 < s.size := by omega
  have e0 : s[0] = 172 := by have := HS.out; subst this; rfl
  have e1 : s[1] = 2 := by have := HS.out; subst this; rfl
  rw [HS.out]
  go_enter Tryd.func35, Tryd.ntmps35
  go_wp2
  go_loopw [2, 5, 6, 9] (fun n _ _ i wr => ((n = .int .u64 0 ∧ i = .int .i64 0) ∨ (n = .int .u64 44 ∧ i = .int .i64 1)) ∧ wr = w) (fun _ _ _ i _ => 2 - (intOf i).toNat)
  case atStart => exact ⟨.inl ⟨rfl, rfl⟩, rfl⟩
  case round =>
    obtain ⟨hcase, rfl⟩ := hrel
    rcases hcase with ⟨rfl, rfl⟩ | ⟨rfl, rfl⟩
    · refine hide_post fun R HR => ?_
      go_wp2
      obtain rfl := HR.out
      go_roundw
      case rel => exact ⟨.inr ⟨rfl, rfl⟩, rfl⟩
      case measure => simp [intOf]
    · refine hide_post fun R HR => ?_
      go_wp2
      obtain rfl := HR.out
      go_ret3
      exact ⟨rfl, rfl⟩
theorem shape_2 (w : World) : Calls Tryd.prog 35 #[.string ⟨#[2, 97, 98]⟩] w fun e w' => e = .returned (.tuple #[.int .u64 2, .int .i64 1, .int .i64 0]) ∧ w' = w := by
  have b2 : bits .or .u64 0 2 = 2 := by decide
  have b3 : bits .and .u8 2 127 = 2 := by decide
  obtain ⟨s, HS⟩ : ∃ s, Hid ((⟨#[2, 97, 98]⟩ : ByteArray) = s) := ⟨_, Lib.hid rfl⟩
  have hs : s.size = 3 := by rw [← HS.out]; rfl
  have h0 : 0 < s.size := by omega
  have e0 : s[0] = 2 := by have := HS.out; subst this; rfl
  rw [HS.out]
  go_enter Tryd.func35, Tryd.ntmps35
  go_wp2
  go_loopw [2, 5, 6, 9] (fun n _ _ i wr => n = .int .u64 0 ∧ i = .int .i64 0 ∧ wr = w) (fun _ _ _ i _ => 2 - (intOf i).toNat)
  case atStart => exact ⟨rfl, rfl, rfl⟩
  case round =>
    obtain ⟨rfl, rfl, rfl⟩ := hrel
    refine hide_post fun R HR => ?_
    go_wp2
    obtain rfl := HR.out
    go_ret3
    exact ⟨rfl, rfl⟩
theorem awake_any (w : World) : Calls Tryd.prog 6 #[] w fun e w' => e = .returned (.bool true) ∧ Below w.heap.size w w' := by
  have C1 := Lib.hid (fun w => newWriter_any 100 w (by decide))
  have C2 := Lib.hid crc_nine
  have C3 := Lib.hid (fun w b h1 h2 => wVarint_300 b b 100 [] w h1 (by decide) (by decide) h2)
  have C4 := Lib.hid (fun w b h1 h2 => wText_ab b b 100 [172, 2] w h1 (by decide) (by decide) h2)
  have C5 : Hid (∀ w b, IsW w b b 100 [172, 2, 2, 97, 98] → Calls Tryd.prog 18 #[.pointer (some ⟨b, 0, none⟩)] w fun e w' => e = .returned (.tuple #[.string ⟨#[172, 2, 2, 97, 98]⟩, .int .i64 0]) ∧ w' = w) := Lib.hid (fun w b h => wDone_any b b 100 [172, 2, 2, 97, 98] w h)
  have C6 := Lib.hid (fun w => newReader_any ⟨#[172, 2, 2, 97, 98]⟩ w)
  have C7 := Lib.hid (fun w b h => rVarint_any b b ⟨#[172, 2, 2, 97, 98]⟩ ⟨#[2, 97, 98]⟩ 300 2 w h (Nat.le_refl _) (by decide) (by decide) rfl shape_1)
  have C8 := Lib.hid (fun w b h => rText_any b b ⟨#[2, 97, 98]⟩ ⟨#[97, 98]⟩ ⟨#[97, 98]⟩ ⟨#[]⟩ 2 1 w h (Nat.le_refl _) (by decide) (by decide) rfl shape_2 (by decide) (by decide) rfl rfl)
  have C9 := Lib.hid (fun w b h => rDone_empty b ⟨#[]⟩ w h rfl)
  go_enter Tryd.func6, Tryd.ntmps6
  go_wp2_with fail
  refine (C1.out _).mono ?_
  rintro e w1 ⟨rfl, hw1, hb1⟩
  go_wp2_with fail
  refine (C2.out _).mono ?_
  rintro e w2 ⟨rfl, rfl⟩
  go_wp2_with fail
  refine (C3.out _ _ hw1 hb1.size).mono ?_
  rintro e w3 ⟨rfl, hw3, hb3⟩
  go_wp2_with fail
  refine (C4.out _ _ hw3 (Nat.le_trans hb1.size hb3.size)).mono ?_
  rintro e w4 ⟨rfl, hw4, hb4⟩
  go_wp2_with fail
  refine (C5.out _ _ hw4).mono ?_
  rintro e w5 ⟨rfl, rfl⟩
  have q1 := hb1.size
  have q3 := hb3.size
  have q4 := hb4.size
  go_wp2_with fail
  refine (C6.out _).mono ?_
  rintro e w6 ⟨rfl, hr6, hb6⟩
  have q6 := hb6.size
  go_wp2_with fail
  refine (C7.out _ _ hr6).mono ?_
  rintro e w7 ⟨rfl, hr7, hb7⟩
  go_wp2_with fail
  refine (C8.out _ _ hr7).mono ?_
  rintro e w8 ⟨rfl, hr8, hb8⟩
  go_wp2_with fail
  refine (C9.out _ _ hr8).mono ?_
  rintro e w9 ⟨rfl, rfl⟩
  have hbf := ((((hb1.trans hb3).trans hb4).trans (hb6.mono (by omega))).trans (hb7.mono (by omega))).trans (hb8.mono (by omega))
  go_wp2
  go_ret
  exact ⟨rfl, hbf⟩
end Go.Proofs.YtbmgalknlglhaaaDoor
