/-
  mac.Unhex and mac.Unbase64, by ungrouped.
-/
import Derived.Test.YtlpdbkhpchmpmaaX
namespace Go.Proofs.Ytlpdbkhpchmpmaa
open Go.RowKit
set_option linter.unusedVariables false
set_option maxRecDepth 100000
set_option maxHeartbeats 2000000

theorem macUnbase64_any (s : ByteArray) (w : World) (hlen : s.size ≤ 140737488351232) :
    Calls Try.prog 28 #[.string s] w fun e w' => e = .returned (.tuple #[.string (strOf ((ungroupedL 6 b64Al s.data.toList).getD [])), .bool (ungroupedL 6 b64Al s.data.toList).isSome]) ∧ Below w.heap.size w w' := by
  have h := Lib.hid (ungrouped_any s ⟨#[65, 66, 67, 68, 69, 70, 71, 72, 73, 74, 75, 76, 77, 78, 79, 80, 81, 82, 83, 84, 85, 86, 87, 88, 89, 90,
    97, 98, 99, 100, 101, 102, 103, 104, 105, 106, 107, 108, 109, 110, 111, 112, 113, 114, 115, 116, 117, 118, 119, 120, 121, 122, 48, 49, 50, 51, 52, 53, 54, 55, 56, 57, 45, 95]⟩ 6 w (by omega) (by omega) rfl hlen)
  rw [show (⟨#[65, 66, 67, 68, 69, 70, 71, 72, 73, 74, 75, 76, 77, 78, 79, 80, 81, 82, 83, 84, 85, 86, 87, 88, 89, 90,
    97, 98, 99, 100, 101, 102, 103, 104, 105, 106, 107, 108, 109, 110, 111, 112, 113, 114, 115, 116, 117, 118, 119, 120, 121, 122, 48, 49, 50, 51, 52, 53, 54, 55, 56, 57, 45, 95]⟩ : ByteArray).data.toList = b64Al from rfl] at h
  obtain ⟨U, HU⟩ : ∃ U, Hid (ungroupedL 6 b64Al s.data.toList = U) := ⟨_, Lib.hid rfl⟩
  rw [HU.out] at h ⊢
  obtain ⟨S, HS⟩ : ∃ U', Hid (strOf (U.getD []) = U') := ⟨_, Lib.hid rfl⟩
  obtain ⟨b, HB⟩ : ∃ b, Hid (U.isSome = b) := ⟨_, Lib.hid rfl⟩
  rw [HS.out, HB.out] at h ⊢
  go_enter Try.func28, Try.ntmps28
  go_wp2_with fail
  refine h.out.mono ?_
  rintro e w1 ⟨rfl, hb1⟩
  go_wp2
  go_ret2
  exact ⟨rfl, hb1⟩

/-- What Unhex answers. -/
def unhexL (l : List UInt8) : Option (List UInt8) := if l.length % 2 = 0 then ungroupedL 4 hexAl l else none
theorem macUnhex_any (s : ByteArray) (w : World) (hlen : s.size ≤ 140737488351232) :
    Calls Try.prog 26 #[.string s] w fun e w' => e = .returned (.tuple #[.string (strOf ((unhexL s.data.toList).getD [])), .bool (unhexL s.data.toList).isSome]) ∧ Below w.heap.size w w' := by
  have hl : s.data.toList.length = s.size := by simp
  have s0 : (0 : Int) ≤ (s.size : Int) := by omega
  by_cases hev : s.size % 2 = 0
  · have e : unhexL s.data.toList = ungroupedL 4 hexAl s.data.toList := by
      unfold unhexL
      rw [if_pos (by rw [hl]; exact hev)]
    rw [e]
    clear e
    have h := Lib.hid (ungrouped_any s ⟨#[48, 49, 50, 51, 52, 53, 54, 55, 56, 57, 97, 98, 99, 100, 101, 102]⟩ 4 w (by omega) (by omega) rfl hlen)
    rw [show (⟨#[48, 49, 50, 51, 52, 53, 54, 55, 56, 57, 97, 98, 99, 100, 101, 102]⟩ : ByteArray).data.toList = hexAl from rfl] at h
    obtain ⟨U, HU⟩ : ∃ U, Hid (ungroupedL 4 hexAl s.data.toList = U) := ⟨_, Lib.hid rfl⟩
    rw [HU.out] at h ⊢
    obtain ⟨S, HS⟩ : ∃ U', Hid (strOf (U.getD []) = U') := ⟨_, Lib.hid rfl⟩
    obtain ⟨b, HB⟩ : ∃ b, Hid (U.isSome = b) := ⟨_, Lib.hid rfl⟩
    rw [HS.out, HB.out] at h ⊢
    have hm : (s.size : Int) % 2 = 0 := by omega
    clear hl
    go_enter Try.func26, Try.ntmps26
    go_wp2_with fail
    refine h.out.mono ?_
    rintro e w1 ⟨rfl, hb1⟩
    go_wp2
    go_ret2
    exact ⟨rfl, hb1⟩
  · have e : unhexL s.data.toList = none := by
      unfold unhexL
      rw [if_neg (by rw [hl]; exact hev)]
    rw [e]
    clear e
    have hm : (s.size : Int) % 2 = 1 := by omega
    clear hl
    go_enter Try.func26, Try.ntmps26
    go_wp2
    go_ret2
    exact ⟨rfl, Below.refl _ _⟩
end Go.Proofs.Ytlpdbkhpchmpmaa
