/-
  The chapter's examples: awake answers true. Hex and Base64 by their groups.
-/
import Derived.Test.YtlpdbkhpchmpmaaM
import Derived.Test.YtlpdbkhpchmpmaaN
namespace Go.Proofs.Ytlpdbkhpchmpmaa
open Go.RowKit
set_option linter.unusedVariables false
set_option maxRecDepth 100000
set_option maxHeartbeats 2000000

def hexAl : List UInt8 := [48, 49, 50, 51, 52, 53, 54, 55, 56, 57, 97, 98, 99, 100, 101, 102]
def b64Al : List UInt8 := [65, 66, 67, 68, 69, 70, 71, 72, 73, 74, 75, 76, 77, 78, 79, 80, 81, 82, 83, 84, 85, 86, 87, 88, 89, 90,
  97, 98, 99, 100, 101, 102, 103, 104, 105, 106, 107, 108, 109, 110, 111, 112, 113, 114, 115, 116, 117, 118, 119, 120, 121, 122, 48, 49, 50, 51, 52, 53, 54, 55, 56, 57, 45, 95]
theorem sha_abc : sha [97, 98, 99] = [0xba,0x78,0x16,0xbf,0x8f,0x01,0xcf,0xea,0x41,0x41,0x40,0xde,0x5d,0xae,0x22,0x23,0xb0,0x03,0x61,0xa3,0x96,0x17,0x7a,0x9c,0xb4,0x10,0xff,0x61,0xf2,0x00,0x15,0xad] := by decide +kernel
theorem hex_abc : groupsL 4 hexAl (sha [97, 98, 99]) = [98, 97, 55, 56, 49, 54, 98, 102, 56, 102, 48, 49, 99, 102, 101, 97, 52, 49, 52, 49, 52, 48, 100, 101, 53, 100, 97, 101, 50, 50, 50, 51, 98, 48, 48, 51, 54, 49, 97, 51, 57, 54, 49, 55, 55, 97, 57, 99, 98, 52, 49, 48, 102, 102, 54, 49, 102, 50, 48, 48, 49, 53, 97, 100] := by
  rw [sha_abc]
  decide +kernel
theorem b64_fb : groupsL 6 b64Al [251, 255] = [45, 95, 56] := by decide +kernel

theorem macHex_any (s : ByteArray) (w : World) (hlen : s.size ≤ 70368744175616) :
    Calls Try.prog 27 #[.string s] w fun e w' => e = .returned (.string (strOf (groupsL 4 hexAl s.data.toList))) ∧ Below w.heap.size w w' := by
  have h := Lib.hid (groups_any s ⟨#[48, 49, 50, 51, 52, 53, 54, 55, 56, 57, 97, 98, 99, 100, 101, 102]⟩ 4 w (by omega) (by omega) rfl (by omega))
  go_enter Try.func27, Try.ntmps27
  go_wp2_with fail
  refine h.out.mono ?_
  rintro e w1 ⟨rfl, hb1⟩
  go_wp2
  go_ret
  exact ⟨rfl, hb1⟩
theorem macBase64_any (s : ByteArray) (w : World) (hlen : s.size ≤ 105553116263424) :
    Calls Try.prog 29 #[.string s] w fun e w' => e = .returned (.string (strOf (groupsL 6 b64Al s.data.toList))) ∧ Below w.heap.size w w' := by
  have h := Lib.hid (groups_any s ⟨#[65, 66, 67, 68, 69, 70, 71, 72, 73, 74, 75, 76, 77, 78, 79, 80, 81, 82, 83, 84, 85, 86, 87, 88, 89, 90,
    97, 98, 99, 100, 101, 102, 103, 104, 105, 106, 107, 108, 109, 110, 111, 112, 113, 114, 115, 116, 117, 118, 119, 120, 121, 122, 48, 49, 50, 51, 52, 53, 54, 55, 56, 57, 45, 95]⟩ 6 w (by omega) (by omega) rfl (by omega))
  go_enter Try.func29, Try.ntmps29
  go_wp2_with fail
  refine h.out.mono ?_
  rintro e w1 ⟨rfl, hb1⟩
  go_wp2
  go_ret
  exact ⟨rfl, hb1⟩

theorem hexOfAbc (w : World) : Calls Try.prog 27 #[.string (strOf (sha [97, 98, 99]))] w fun e w' => e = .returned (.string ⟨#[98, 97, 55, 56, 49, 54, 98, 102, 56, 102, 48, 49, 99, 102, 101, 97, 52, 49, 52, 49, 52, 48, 100, 101, 53, 100, 97, 101, 50, 50, 50, 51, 98, 48, 48, 51, 54, 49, 97, 51, 57, 54, 49, 55, 55, 97, 57, 99, 98, 52, 49, 48, 102, 102, 54, 49, 102, 50, 48, 48, 49, 53, 97, 100]⟩) ∧ Below w.heap.size w w' := by
  refine (macHex_any _ w (by rw [strOf_size, sha_length]; decide)).mono fun e w' ⟨he, hb⟩ => ⟨?_, hb⟩
  rw [he]
  show Ending.returned (.string (strOf (groupsL 4 hexAl (sha [97, 98, 99])))) = _
  rw [hex_abc]
  rfl
theorem b64OfFb (w : World) : Calls Try.prog 29 #[.string ⟨#[251, 255]⟩] w fun e w' => e = .returned (.string ⟨#[45, 95, 56]⟩) ∧ Below w.heap.size w w' := by
  refine (macBase64_any _ w (by decide)).mono fun e w' ⟨he, hb⟩ => ⟨?_, hb⟩
  rw [he]
  show Ending.returned (.string (strOf (groupsL 6 b64Al [251, 255]))) = _
  rw [b64_fb]
  rfl
theorem sumAbc (w : World) : Calls Try.prog 12 #[.string ⟨#[97, 98, 99]⟩] w fun e w' => e = .returned (.string (strOf (sha [97, 98, 99]))) ∧ Below w.heap.size w w' :=
  macSum_any ⟨#[97, 98, 99]⟩ w (by decide)

theorem awake_any (w : World) : Calls Try.prog 11 #[] w fun e w' => e = .returned (.bool true) ∧ Below w.heap.size w w' := by
  obtain ⟨S, HS⟩ : ∃ S, Hid (strOf (sha [97, 98, 99]) = S) := ⟨_, Lib.hid rfl⟩
  have K1 := Lib.hid hexOfAbc
  have K2 := Lib.hid b64OfFb
  have K3 := Lib.hid sumAbc
  rw [HS.out] at K1 K3
  go_enter Try.func11, Try.ntmps11
  go_wp2_with fail
  refine (New_any w).mono ?_
  rintro e w1 ⟨g, rfl, hg, hH, hb1⟩
  have HH := Lib.hid hH; clear hH
  go_wp2_with fail
  refine (Write_any g [] ⟨#[97, 98]⟩ w1 HH.out (by decide)).mono ?_
  rintro e w2 ⟨rfl, hH2, hg2⟩
  have hb2 := below_of_grown hb1 hg2 hg
  have HH2 := Lib.hid hH2; clear hH2
  go_wp2_with fail
  refine (Write_any g _ ⟨#[99]⟩ w2 HH2.out (by decide)).mono ?_
  rintro e w3 ⟨rfl, hH3, hg3⟩
  have hb3 := below_of_grown hb2 hg3 hg
  have HH3 : Hid (IsH w3 g [97, 98, 99]) := hH3
  clear hH3
  clear hg2 hg3 hb1 hb2
  go_wp2_with fail
  refine (K3.out _).mono ?_
  rintro e w4 ⟨rfl, hb4⟩
  go_wp2_with fail
  refine (K1.out _).mono ?_
  rintro e w5 ⟨rfl, hb5⟩
  have hb35 := hb4.trans (hb5.mono hb4.size)
  have H17 := Lib.hid (HSum_any g _ w5 (HH3.out.below hb35 HH3.out.lt) (by decide))
  rw [HS.out] at H17
  go_wp2_with fail
  refine H17.out.mono ?_
  rintro e w6 ⟨rfl, hb6⟩
  go_wp2_with fail
  refine (K3.out _).mono ?_
  rintro e w7 ⟨rfl, hb7⟩
  go_wp2_with fail
  refine (K2.out _).mono ?_
  rintro e w8 ⟨rfl, hb8⟩
  have s5 := hb4.size
  have s6 := hb5.size
  have s7 := hb6.size
  have s8 := hb7.size
  have hbf := ((hb35.trans (hb6.mono (by omega))).trans (hb7.mono (by omega))).trans (hb8.mono (by omega))
  go_wp2
  go_ret
  exact ⟨rfl, hb3.trans (hbf.mono hb3.size)⟩
end Go.Proofs.Ytlpdbkhpchmpmaa
