/-
  Numbers as eight bytes: the Writer's U8 and U64, the reference's Number.
-/
import Derived.Test.YtbmgalknlglhaaaDoorC
namespace Go.Proofs.YtbmgalknlglhaaaDoor
open Go.RowKit
set_option linter.unusedVariables false
set_option maxRecDepth 100000
set_option maxHeartbeats 2000000

theorem make8 : ∀ w : World, (Instr.makeSlice 47 (.int .i64 8) (.int .i64 8)).run Tryd.prog w = .ok (.slice (some ⟨w.heap.size, 0, none⟩) 8 8) (w.alloc (.cells (numArr 0 0) 5)) := fun w => by kernel_rfl
theorem make1 : ∀ w : World, (Instr.makeSlice 47 (.int .i64 1) (.int .i64 1)).run Tryd.prog w = .ok (.slice (some ⟨w.heap.size, 0, none⟩) 1 1) (w.alloc (.cells #[.int .u8 0] 5)) := fun w => by kernel_rfl
theorem numArr_zero (n m : Int) : numArr n 0 = numArr m 0 := rfl

theorem number64_any (n : Int) (B b most : Nat) (l : List UInt8) (w : World) (h0 : 0 ≤ n) (h1 : n < 18446744073709551616) (h : IsW w B b most l)
    (hroom : l.length + 8 ≤ most) (hmost : most ≤ 1099511627776) (hBw : B ≤ w.heap.size) :
    Calls Tryd.prog 39 #[.pointer (some ⟨b, 0, none⟩), .int .u64 n, .int .i64 8] w fun e w' => e = .returned (.tuple #[]) ∧ IsW w' B b most (l ++ be8 n) ∧ Below B w w' := by
  obtain ⟨Z, hmk, HZ⟩ : ∃ Z, (∀ w : World, (Instr.makeSlice 47 (.int .i64 8) (.int .i64 8)).run Tryd.prog w = .ok (.slice (some ⟨w.heap.size, 0, none⟩) 8 8) (w.alloc (.cells Z 5))) ∧ Hid (numArr n 0 = Z) := ⟨_, make8, rfl⟩
  have H0 := Lib.hid h0; clear h0
  have H1 := Lib.hid h1; clear h1
  have HRM := Lib.hid hroom; clear hroom
  have HMS := Lib.hid hmost; clear hmost
  go_enter Tryd.func39, Tryd.ntmps39
  go_wp2
  go_loopw [1, 7, 12] (fun v _ i wr => ∃ k : Nat, k ≤ 8 ∧ i = .int .i64 k ∧ v = .int .u64 (n / 256 ^ k) ∧ Blk wr w.heap.size 5 (numArr n k) ∧ Below w.heap.size w wr) (fun _ _ i _ => 8 - (intOf i).toNat)
  case atStart => exact ⟨0, by omega, rfl, by simp, by rw [HZ.out]; exact Blk.new w 5 _, (Below.refl _ _).alloc (Nat.le_refl _) _⟩
  case round =>
    obtain ⟨k, hk, rfl, rfl, hb, hnx⟩ := hrel
    by_cases hlt : k < 8
    · obtain ⟨u, hu⟩ := numArr_some n k (7 - k) hk (by omega)
      have hc := hb.cell (7 - k)
      rw [hu] at hc
      clear hu
      have hf := hb.frozen (7 - k)
      obtain ⟨x, HX⟩ : ∃ x, Hid (n / 256 ^ k = x) := ⟨_, Lib.hid rfl⟩
      have p0 : (0 : Int) ≤ 7 - (k : Int) := by omega
      have p1 : 7 - (k : Int) < 8 := by omega
      have p2 : (7 - (k : Int)).toNat = 7 - k := by omega
      rw [HX.out]
      refine hide_post fun R HR => ?_
      go_wp2
      obtain rfl := HR.out
      go_roundw
      case rel =>
        refine ⟨k + 1, by omega, by go_num, ?_, ?_, hnx.setCell (Nat.le_refl _) _⟩
        · rw [← HX.out, Int.pow_succ, ← Int.ediv_ediv_of_nonneg (Int.pow_nonneg (by decide))]
          rw [Int.ediv_ediv_of_nonneg (by decide)]
          rfl
        · rw [← numArr_succ n k hlt, HX.out]
          exact hb.set_ _ _
      case measure => simp [intOf]; omega
    · obtain rfl : k = 8 := by omega
      clear hlt hk
      have hP := Lib.hid (put_any B b most l ⟨w.heap.size, 0, none⟩ 8 8 (be8 n) wr (h.below hnx) (be8_length n) (fun j u hj => by
        have hadd : (⟨w.heap.size, 0, none⟩ : Addr).add j = ⟨w.heap.size, j, none⟩ := by unfold Addr.add; split <;> simp_all
        rw [hadd, hb.cell j]
        unfold numArr be8 at *
        simpa [bcells] using hj) HRM.out HMS.out (Nat.le_trans hBw hnx.size))
      refine hide_post fun R HR => ?_
      go_wp2_with fail
      refine hP.out.mono ?_
      rintro e w2 ⟨rfl, hw2, hb2⟩
      go_wp2
      obtain rfl := HR.out
      go_end0
      exact ⟨rfl, hw2, (hnx.mono hBw).trans hb2⟩
theorem lastB_get (n : Int) (k : Nat) (h : k < 8) : (be8 n).take (k + 1) = (be8 n).take k ++ [byteAt n (7 - k)] := by
  rw [List.take_succ_eq_append_getElem (by rw [be8_length]; exact h)]
  congr 1
  simp [be8, lastB]

theorem refNumber_any (n : Int) (w : World) (h0 : 0 ≤ n) (h1 : n < 18446744073709551616) :
    Calls Tryd.prog 29 #[.int .u64 n, .int .i64 8] w fun e w' => e = .returned (.string (strOf (be8 n))) ∧ Below w.heap.size w w' := by
  have H0 := Lib.hid h0; clear h0
  have H1 := Lib.hid h1; clear h1
  go_enter Tryd.func29, Tryd.ntmps29
  go_wp2
  go_loopw [5, 6] (fun v i wr => ∃ k : Nat, k ≤ 8 ∧ i = .int .i64 (7 - (k : Int)) ∧ OwnB wr w.heap.size v ((be8 n).take k) ∧ Below w.heap.size w wr) (fun _ i _ => (1 + intOf i).toNat)
  case atStart => exact ⟨0, by omega, rfl, OwnB.nil _ _, Below.refl _ _⟩
  case round =>
    obtain ⟨k, hk, rfl, hown, hnx⟩ := hrel
    have hsz := hnx.size
    have hbl := Lib.hid (be8_length n)
    by_cases hlt : k < 8
    · have p0 : (0 : Int) ≤ 7 - (k : Int) := by omega
      have p1 : 7 - (k : Int) < 8 := by omega
      have p2 : (0 : Int) ≤ 8 * (7 - (k : Int)) := by omega
      have p3 : 8 * (7 - (k : Int)) < 64 := by omega
      refine hide_post fun R HR => ?_
      go_wp2_with (at_builtin; refine wpList_append_B _ rfl _ _ rfl w.heap.size _ _ rfl (hown.alloc _) ⟨wr.heap.size, 0, none⟩ 1 1 [byteAt n (7 - k)] rfl rfl (news_one _ _ _ ?c1) ?c2 ?c3 ?_)
      case c1 =>
        rw [byteAt_val, Int.pow_mul]
        rfl
      case c2 => rw [List.length_take]; omega
      case c3 => simp; omega
      intro v' w1 hown' hgrow
      go_wp2
      obtain rfl := HR.out
      go_roundw
      case rel =>
        refine ⟨k + 1, by omega, by go_num, by rw [lastB_get n k hlt]; exact hown', ((hnx.alloc hsz _).grown hgrow (by simp; omega) (fun j hj => (hown.lt j hj).1))⟩
      case measure => simp [intOf]; omega
    · obtain rfl : k = 8 := by omega
      clear hlt hk
      rw [List.take_of_length_le (by rw [be8_length]; exact Nat.le_refl _)] at hown
      obtain ⟨p, cap, rfl⟩ := hown.form
      have hconv := run_string_B wr _ _ _ hown
      go_wp2
      go_ret
      exact ⟨rfl, hnx⟩

theorem number8_any (c : UInt8) (B b most : Nat) (l : List UInt8) (w : World) (h : IsW w B b most l)
    (hroom : l.length + 1 ≤ most) (hmost : most ≤ 1099511627776) (hBw : B ≤ w.heap.size) :
    Calls Tryd.prog 38 #[.pointer (some ⟨b, 0, none⟩), .int .u8 (c.toNat : Int), .int .i64 1] w fun e w' => e = .returned (.tuple #[]) ∧ IsW w' B b most (l ++ [c]) ∧ Below B w w' := by
  have hmk := make1
  have HRM := Lib.hid hroom; clear hroom
  have HMS := Lib.hid hmost; clear hmost
  obtain ⟨n, hn⟩ : ∃ n, Hid ((c.toNat : Int) = n) := ⟨_, Lib.hid rfl⟩
  rw [hn.out]
  go_enter Tryd.func38, Tryd.ntmps38
  go_wp2
  go_loopw [1, 7, 12] (fun v _ i wr => ∃ (k : Nat) (x y : Int), k ≤ 1 ∧ i = .int .i64 k ∧ v = .int .u8 x ∧ (k = 0 → x = n) ∧ (k = 1 → y = n) ∧ Blk wr w.heap.size 5 #[.int .u8 y] ∧ Below w.heap.size w wr) (fun _ _ i _ => 1 - (intOf i).toNat)
  case atStart => exact ⟨0, n, 0, by omega, rfl, rfl, fun _ => rfl, fun h => by omega, Blk.new w 5 _, (Below.refl _ _).alloc (Nat.le_refl _) _⟩
  case round =>
    obtain ⟨k, x, y, hk, rfl, rfl, hx, hy, hb, hnx⟩ := hrel
    by_cases hlt : k < 1
    · obtain rfl : k = 0 := by omega
      obtain rfl := hx rfl
      have hc := hb.cell 0
      have hf := hb.frozen 0
      simp only [List.getElem?_toArray, List.getElem?_cons_succ, List.getElem?_cons_zero] at hc
      refine hide_post fun R HR => ?_
      go_wp2
      obtain rfl := HR.out
      go_roundw
      case rel => exact ⟨1, _, x, by omega, rfl, rfl, fun h => by omega, fun _ => rfl, hb.set_ 0 _, hnx.setCell (Nat.le_refl _) _⟩
      case measure => simp [intOf]
    · obtain rfl : k = 1 := by omega
      obtain rfl := hy rfl
      clear hlt hk hx hy
      have hP := Lib.hid (put_any B b most l ⟨w.heap.size, 0, none⟩ 1 1 [c] wr (h.below hnx) rfl (fun j u hj => by
        have hadd : (⟨w.heap.size, 0, none⟩ : Addr).add j = ⟨w.heap.size, j, none⟩ := by unfold Addr.add; split <;> simp_all
        rw [hadd, hb.cell j, ← hn.out]
        simpa [bcells] using hj) HRM.out HMS.out (Nat.le_trans hBw hnx.size))
      refine hide_post fun R HR => ?_
      go_wp2_with fail
      refine hP.out.mono ?_
      rintro e w2 ⟨rfl, hw2, hb2⟩
      go_wp2
      obtain rfl := HR.out
      go_end0
      exact ⟨rfl, hw2, (hnx.mono hBw).trans hb2⟩

theorem U8_any (c : UInt8) (B b most : Nat) (l : List UInt8) (w : World) (h : IsW w B b most l)
    (hroom : l.length + 1 ≤ most) (hmost : most ≤ 1099511627776) (hBw : B ≤ w.heap.size) :
    Calls Tryd.prog 23 #[.pointer (some ⟨b, 0, none⟩), .int .u8 (c.toNat : Int)] w fun e w' => e = .returned (.tuple #[]) ∧ IsW w' B b most (l ++ [c]) ∧ Below B w w' := by
  have hP := Lib.hid (number8_any c B b most l w h hroom hmost hBw)
  obtain ⟨n, hn⟩ : ∃ n, Hid ((c.toNat : Int) = n) := ⟨_, Lib.hid rfl⟩
  rw [hn.out] at hP ⊢
  clear h hroom hmost hBw hn
  obtain ⟨O, HO⟩ : ∃ O, Hid (l ++ [c] = O) := ⟨_, Lib.hid rfl⟩
  rw [HO.out] at hP ⊢
  go_enter Tryd.func23, Tryd.ntmps23
  go_wp2_with fail
  refine hP.out.mono ?_
  rintro e w2 ⟨rfl, hw2, hb2⟩
  go_wp2
  go_end0
  exact ⟨rfl, hw2, hb2⟩

theorem U64_any (n : Int) (B b most : Nat) (l : List UInt8) (w : World) (h0 : 0 ≤ n) (h1 : n < 18446744073709551616) (h : IsW w B b most l)
    (hroom : l.length + 8 ≤ most) (hmost : most ≤ 1099511627776) (hBw : B ≤ w.heap.size) :
    Calls Tryd.prog 24 #[.pointer (some ⟨b, 0, none⟩), .int .u64 n] w fun e w' => e = .returned (.tuple #[]) ∧ IsW w' B b most (l ++ be8 n) ∧ Below B w w' := by
  have hP := Lib.hid (number64_any n B b most l w h0 h1 h hroom hmost hBw)
  clear h hroom hmost hBw h0 h1
  obtain ⟨O, HO⟩ : ∃ O, Hid (l ++ be8 n = O) := ⟨_, Lib.hid rfl⟩
  rw [HO.out] at hP ⊢
  go_enter Tryd.func24, Tryd.ntmps24
  go_wp2_with fail
  refine hP.out.mono ?_
  rintro e w2 ⟨rfl, hw2, hb2⟩
  go_wp2
  go_end0
  exact ⟨rfl, hw2, hb2⟩
end Go.Proofs.YtbmgalknlglhaaaDoor
