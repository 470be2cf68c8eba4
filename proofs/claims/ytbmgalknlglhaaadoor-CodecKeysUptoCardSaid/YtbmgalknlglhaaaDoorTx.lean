/-
  The codec's text: the text with which bytes begin.
-/
import Derived.Test.YtbmgalknlglhaaaDoorOrd
import Derived.Deep.RegionHeld3
namespace Go.Proofs.YtbmgalknlglhaaaDoor
open Go.RowKit
set_option linter.unusedVariables false
set_option maxRecDepth 100000
set_option maxHeartbeats 2000000

theorem strOf_extract (l : List UInt8) (a b : Nat) : (strOf l).extract a b = strOf ((l.drop a).take (b - a)) := by
  apply ByteArray.ext
  apply Array.toList_inj.1
  rw [Lib.extract_data]
  rfl
theorem strOf_head (x y : List UInt8) (s : ByteArray) (h : strOf (x ++ y) = s) (n : Nat) (hn : x.length = n) : s.extract 0 n = strOf x := by
  rw [← h, strOf_extract, ← hn]
  simp
theorem strOf_tail (x y : List UInt8) (s : ByteArray) (h : strOf (x ++ y) = s) (n : Nat) (hn : x.length = n) : s.extract n s.size = strOf y := by
  rw [← h, strOf_extract, ← hn, strOf_size]
  rw [List.length_append, List.drop_left, List.take_of_length_le (by omega)]
theorem split_zero (r : List UInt8) : (∀ c ∈ r, c ≠ 0) ∨ ∃ r1 r2, r = r1 ++ 0 :: r2 ∧ ∀ c ∈ r1, c ≠ 0 := by
  induction r with
  | nil => exact .inl (fun c h => by cases h)
  | cons a r ih =>
    by_cases ha : a = 0
    · subst ha
      exact .inr ⟨[], r, rfl, fun c h => by cases h⟩
    · rcases ih with h | ⟨r1, r2, rfl, h⟩
      · exact .inl (fun c hc => by rcases List.mem_cons.1 hc with rfl | hc; exact ha; exact h c hc)
      · exact .inr ⟨a :: r1, r2, rfl, fun c hc => by rcases List.mem_cons.1 hc with rfl | hc; exact ha; exact h c hc⟩
theorem idx_first (r x : List UInt8) (h : ∀ c ∈ r, c ≠ 0) : Lib.indexByte (r ++ 0 :: x) 0 = r.length := by
  induction r with
  | nil => rfl
  | cons a r ih =>
    rw [List.cons_append]
    unfold Lib.indexByte
    rw [if_neg (by simpa using h a (by simp)), ih (fun c hc => h c (by simp [hc])), if_neg (by simp)]
    simp
theorem pre_no (rest : List UInt8) (h : ∀ r, rest ≠ 255 :: r) : Lib.hasPrefix (0 :: rest) [0, 255] = false := by
  cases rest with
  | nil => rfl
  | cons c r =>
    have hc : c ≠ 255 := fun e => h r (by rw [e])
    unfold Lib.hasPrefix
    simp only [List.isPrefixOf]
    rw [beq_eq_false_iff_ne.2 (Ne.symm hc)]
    rfl
theorem pre_yes (x : List UInt8) : Lib.hasPrefix (0 :: 255 :: x) [0, 255] = true := rfl
def strSize : Value → Nat
  | .string s => s.size
  | _ => 0

theorem text_any (t rest : List UInt8) (s : ByteArray) (w : World) (hs : strOf (esc t ++ 0 :: rest) = s) (hlow : ∀ r, rest ≠ 255 :: r) (hsz : s.size ≤ 1099511627776) :
    Calls Tryd.prog 32 #[.string s] w fun e w' => e = .returned (.tuple #[.string (strOf t), .string (strOf rest), .bool true]) ∧ Below w.heap.size w w' := by
  have HLOW := Lib.hid hlow; clear hlow
  obtain ⟨X, HX⟩ : ∃ X, Hid (strOf rest = X) := ⟨_, Lib.hid rfl⟩
  obtain ⟨T, HT⟩ : ∃ X, Hid (strOf t = X) := ⟨_, Lib.hid rfl⟩
  rw [HX.out, HT.out]
  have htl : t.length ≤ 1099511627776 := by
    have h1 := (esc_length t).1
    rw [← hs, strOf_size, List.length_append] at hsz
    omega
  go_enter Tryd.func32, Tryd.ntmps32
  go_wp2
  have hb0 := Lib.fresh_isBuilder 49 5 w
  go_loopw [0, 6] (fun v _ wr => ∃ (s' : ByteArray) (acc r : List UInt8), v = .string s' ∧ Hid (strOf (esc r ++ 0 :: rest) = s') ∧ s'.size ≤ 1099511627776 ∧ Hid (acc ++ r = t) ∧ Hid (Lib.IsBuilder 49 5 w.heap.size w.heap.size (Lib.byteCells acc) wr) ∧ Below w.heap.size w wr) (fun v _ _ => strSize v)
  case atStart => exact ⟨s, [], t, rfl, hs, hsz, Lib.hid rfl, hb0, (Below.refl _ _).alloc (Nat.le_refl _) _⟩
  case round =>
    clear hb0
    obtain ⟨s', acc, r, rfl, HS, hsz', HA, HB, hnx⟩ := hrel
    have hszw := hnx.size
    have HACC : Hid (acc.length ≤ 1099511627776) := by
      show _ ≤ _
      have := congrArg List.length HA.out
      rw [List.length_append] at this
      omega
    have n2 : (s'.size : Int) ≤ 1099511627776 := by omega
    rcases split_zero r with hz | ⟨r1, r2, hr, hz⟩
    · have e0 := HS.out
      rw [esc_clean r hz] at e0
      obtain ⟨i, hi⟩ : ∃ i, r.length = i := ⟨_, rfl⟩
      have HI : Hid (∀ w, Calls Tryd.prog 43 #[.string s', .string ⟨#[0]⟩] w fun e w' => e = .returned (.int .i64 (i : Int)) ∧ w' = w) := by
        show ∀ w, _
        intro w
        have h := Tryd.strings_Index_one s' 0 w
        rw [← e0, strOf_list, idx_first r rest hz, hi, e0] at h
        exact h
      have h1 := strOf_head r (0 :: rest) s' e0 i hi
      have h2 := strOf_tail r (0 :: rest) s' e0 i hi
      have h3 := strOf_tail (r ++ [0]) rest s' (by rw [← e0]; simp) (i + 1) (by simp [hi])
      have hil : i < s'.size := by rw [← e0, strOf_size, List.length_append, hi]; simp
      have HP : Hid (∀ w, Calls Tryd.prog 44 #[.string (strOf (0 :: rest)), .string ⟨#[0, 255]⟩] w fun e w' => e = .returned (.bool false) ∧ w' = w) := by
        show ∀ w, _
        intro w
        have h := Tryd.strings_HasPrefix (strOf (0 :: rest)) ⟨#[0, 255]⟩ w
        rw [strOf_list, show (⟨#[0, 255]⟩ : ByteArray).data.toList = [0, 255] from rfl, pre_no rest HLOW.out] at h
        exact h
      obtain ⟨P, HPP⟩ : ∃ P, Hid (strOf r = P) := ⟨_, Lib.hid rfl⟩
      obtain ⟨Q, HQ⟩ : ∃ P, Hid (strOf (0 :: rest) = P) := ⟨_, Lib.hid rfl⟩
      rw [HPP.out] at h1
      rw [HQ.out] at h2 HP
      rw [HX.out] at h3
      have hPs : P.size = i := by rw [← HPP.out, strOf_size, hi]
      have n0 : (0 : Int) ≤ (i : Int) := by omega
      have n1 : (i : Int) < (s'.size : Int) := by omega
      have n3 : (i : Int) + 1 ≤ (s'.size : Int) := by omega
      have n4 : (0 : Int) ≤ (i : Int) + 1 := by omega
      have HW := Lib.hid (fun w' (hB : Lib.IsBuilder 49 5 w.heap.size w.heap.size (Lib.byteCells acc) w') hw => WriteString_any w.heap.size w.heap.size (Lib.byteCells acc) P w' hB (by have := HACC.out; simp [Lib.byteCells]; omega) hw)
      have HE : Hid (Lib.byteCells acc ++ Lib.strCells P = Lib.byteCells t) := by
        show _ = _
        rw [← HPP.out, cells_str, HA.out]
      clear e0 hi
      refine hide_post fun R HR => ?_
      go_wp2_with fail
      refine (HI.out _).mono ?_
      rintro e w2 ⟨rfl, rfl⟩
      go_wp2_with fail
      refine (HW.out _ HB.out hszw).mono ?_
      rintro e w3 ⟨rfl, hB3, hb3⟩
      rw [HE.out] at hB3
      have hnx3 := hnx.trans hb3
      go_wp2_with fail
      refine (HP.out _).mono ?_
      rintro e w4 ⟨rfl, rfl⟩
      have hS4 := Tryd.Builder_String_any w.heap.size w.heap.size t w4.drew (.inr hB3) hnx3.size
      rw [show (⟨t.toArray⟩ : ByteArray) = T from HT.out] at hS4
      have HS4 := Lib.hid hS4
      clear hS4
      go_wp2
      have hwrap : IntKind.i64.wrap ((i : Int) + 1) = (i : Int) + 1 := by rw [IntKind.wrap_i64]; omega
      go_region_held3 (fun _ => True) (trivial) (first | (refine HS4.out.mono ?_; rintro e w5 ⟨rfl, hb5⟩))
      have hb5 := (hnx3.drew).trans hb5
      go_wp2
      obtain rfl := HR.out
      go_ret3
      exact ⟨rfl, hb5⟩
    · have e0 : strOf (r1 ++ 0 :: 255 :: (esc r2 ++ 0 :: rest)) = s' := by
        rw [← HS.out, hr, esc_append, esc_clean r1 hz, esc_cons, if_pos rfl]
        simp
      obtain ⟨i, hi⟩ : ∃ i, r1.length = i := ⟨_, rfl⟩
      have HI : Hid (∀ w, Calls Tryd.prog 43 #[.string s', .string ⟨#[0]⟩] w fun e w' => e = .returned (.int .i64 (i : Int)) ∧ w' = w) := by
        show ∀ w, _
        intro w
        have h := Tryd.strings_Index_one s' 0 w
        rw [← e0, strOf_list, idx_first r1 _ hz, hi, e0] at h
        exact h
      have h1 := strOf_head r1 _ s' e0 i hi
      have h2 := strOf_tail r1 _ s' e0 i hi
      have h3 := strOf_tail (r1 ++ [0, 255]) (esc r2 ++ 0 :: rest) s' (by rw [← e0]; simp) (i + 2) (by simp [hi])
      have hil : i + 2 ≤ s'.size := by rw [← e0, strOf_size, List.length_append, hi]; simp
      have HP : Hid (∀ w, Calls Tryd.prog 44 #[.string (strOf (0 :: 255 :: (esc r2 ++ 0 :: rest))), .string ⟨#[0, 255]⟩] w fun e w' => e = .returned (.bool true) ∧ w' = w) := by
        show ∀ w, _
        intro w
        have h := Tryd.strings_HasPrefix (strOf (0 :: 255 :: (esc r2 ++ 0 :: rest))) ⟨#[0, 255]⟩ w
        rw [strOf_list, show (⟨#[0, 255]⟩ : ByteArray).data.toList = [0, 255] from rfl, pre_yes] at h
        exact h
      obtain ⟨P, HPP⟩ : ∃ P, Hid (strOf r1 = P) := ⟨_, Lib.hid rfl⟩
      obtain ⟨Q, HQ⟩ : ∃ P, Hid (strOf (0 :: 255 :: (esc r2 ++ 0 :: rest)) = P) := ⟨_, Lib.hid rfl⟩
      obtain ⟨S2, HS2⟩ : ∃ P, Hid (strOf (esc r2 ++ 0 :: rest) = P) := ⟨_, Lib.hid rfl⟩
      rw [HPP.out] at h1
      rw [HQ.out] at h2 HP
      rw [HS2.out] at h3
      have hPs : P.size = i := by rw [← HPP.out, strOf_size, hi]
      have hS2 : S2.size + (i + 2) = s'.size := by
        rw [← HS2.out, ← e0, strOf_size, strOf_size, ← hi]
        simp
        omega
      have n0 : (0 : Int) ≤ (i : Int) := by omega
      have n1 : (i : Int) + 2 ≤ (s'.size : Int) := by omega
      have HW := Lib.hid (fun w' (hB : Lib.IsBuilder 49 5 w.heap.size w.heap.size (Lib.byteCells acc) w') hw => WriteString_any w.heap.size w.heap.size (Lib.byteCells acc) P w' hB (by have := HACC.out; simp [Lib.byteCells]; omega) hw)
      have HW2 := Lib.hid (fun w' (hB : Lib.IsBuilder 49 5 w.heap.size w.heap.size (Lib.byteCells acc ++ Lib.strCells P) w') hw => WriteString_any w.heap.size w.heap.size (Lib.byteCells acc ++ Lib.strCells P) ⟨#[0]⟩ w' hB (by have := HACC.out; rw [List.length_append, Lib.strCells_length]; simp [Lib.byteCells]; show _ + (1 : Nat) ≤ _; omega) hw)
      have HE : Hid (Lib.byteCells acc ++ Lib.strCells P ++ Lib.strCells ⟨#[0]⟩ = Lib.byteCells (acc ++ r1 ++ [0])) := by
        show _ = _
        rw [← HPP.out, cells_str, show (⟨#[0]⟩ : ByteArray) = strOf [0] from rfl, cells_str]
      have HA2 : Hid (acc ++ r1 ++ [0] ++ r2 = t) := by
        show _ = _
        rw [← HA.out, hr]
        simp
      clear e0 hi hr
      refine hide_post fun R HR => ?_
      go_wp2_with fail
      refine (HI.out _).mono ?_
      rintro e w2 ⟨rfl, rfl⟩
      go_wp2_with fail
      refine (HW.out _ HB.out hszw).mono ?_
      rintro e w3 ⟨rfl, hB3, hb3⟩
      have hnx3 := hnx.trans hb3
      go_wp2_with fail
      refine (HP.out _).mono ?_
      rintro e w4 ⟨rfl, rfl⟩
      have HB4 := Lib.hid hB3
      clear hB3
      go_wp2_with fail
      refine (HW2.out _ (.inr HB4.out) hnx3.size).mono ?_
      rintro e w5 ⟨rfl, hB5, hb5⟩
      rw [HE.out] at hB5
      have HB5 : Hid (Lib.IsBuilder 49 5 w.heap.size w.heap.size (Lib.byteCells (acc ++ r1 ++ [0])) w5) := .inr hB5
      have hnx5 := hnx3.trans hb5
      clear hB5
      go_wp2
      obtain rfl := HR.out
      go_roundw
      case rel => exact ⟨S2, acc ++ r1 ++ [0], r2, by rw [h3], HS2, by omega, HA2, HB5, hnx5⟩
      case measure => simp [strSize]; omega
end Go.Proofs.YtbmgalknlglhaaaDoor
