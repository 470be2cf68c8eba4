/-
  The codec's Reader: U64.
-/
import Derived.Test.YtbmgalknlglhaaaDoorTx
import Derived.Test.YtbmgalknlglhaaaDoorE
namespace Go.Proofs.YtbmgalknlglhaaaDoor
open Go.RowKit
set_option linter.unusedVariables false
set_option maxRecDepth 100000
set_option maxHeartbeats 2000000

theorem ofInt_u64 (a : Nat) (ha : a < 18446744073709551616) : (BitVec.ofInt 64 (a : Int)).toNat = a := by
  rw [BitVec.ofInt_natCast, BitVec.toNat_ofNat]; exact Nat.mod_eq_of_lt (by omega)
theorem u64_or_nat (a b : Nat) (ha : a < 18446744073709551616) (hb : b < 18446744073709551616) : bits .or .u64 (a : Int) (b : Int) = ((a ||| b : Nat) : Int) := by
  have hx : a ||| b < 2 ^ 64 := Nat.or_lt_two_pow (by omega) (by omega)
  show IntKind.u64.wrap ((BitVec.ofInt 64 (a : Int) ||| BitVec.ofInt 64 (b : Int)).toNat : Int) = _
  rw [BitVec.toNat_or, ofInt_u64 a ha, ofInt_u64 b hb, IntKind.wrap_u64]
  omega
theorem u64_join (x c : Nat) (hx : x < 72057594037927936) (hc : c < 256) : bits .or .u64 ((x * 256 : Nat) : Int) (c : Int) = ((x * 256 + c : Nat) : Int) := by
  rw [u64_or_nat _ _ (by omega) (by omega)]
  congr 1
  have := Nat.shiftLeft_add_eq_or_of_lt (show c < 2 ^ 8 from hc) x
  rw [Nat.shiftLeft_eq] at this
  exact this.symm
theorem be8_get (n k : Nat) (h : k < 8) : (be8 (n : Int)).getD k 0 = byteAt (n : Int) (7 - k) := by
  have e := lastB_get (n : Int) k h
  have hl : k < (be8 (n : Int)).length := by rw [be8_length]; exact h
  rw [List.take_succ_eq_append_getElem hl] at e
  have := List.append_cancel_left e
  rw [List.getD_eq_getElem?_getD, List.getElem?_eq_getElem hl]
  simpa using this
theorem byteAt_nat' (n k : Nat) : (byteAt (n : Int) k).toNat = n / 256 ^ k % 256 := by
  unfold byteAt
  have e : ((n : Int) / 256 ^ k % 256).toNat = n / 256 ^ k % 256 := by
    rw [show ((n : Int) / 256 ^ k % 256) = ((n / 256 ^ k % 256 : Nat) : Int) by simp]
    rfl
  rw [e, UInt8.toNat_ofNat', Nat.mod_mod]

theorem read8_any (n : Nat) (rest : List UInt8) (B b : Nat) (s : ByteArray) (w : World) (hn : n < 18446744073709551616) (h : IsR w b s) (hs : strOf (be8 (n : Int) ++ rest) = s) (hsz : s.size ≤ 1099511627776) (hB : B ≤ b) (hBw : B ≤ w.heap.size) :
    Calls Tryd.prog 42 #[.pointer (some ⟨b, 0, none⟩), .int .i64 8] w fun e w' => e = .returned (.int .u64 (n : Int)) ∧ IsR w' b (strOf rest) ∧ Below B w w' := by
  have h1 := strOf_head _ rest s hs 8 (be8_length _)
  have h2 := strOf_tail _ rest s hs 8 (be8_length _)
  have h8 : 8 ≤ s.size := by rw [← hs, strOf_size, List.length_append, be8_length]; omega
  have CR := Lib.hid (raw_any B b s (strOf (be8 (n : Int))) (strOf rest) 8 w h hB h8 hsz h1 h2)
  have hps : (strOf (be8 (n : Int))).size = 8 := by rw [strOf_size, be8_length]
  have hpd : (strOf (be8 (n : Int))).data.toList = be8 (n : Int) := rfl
  obtain ⟨P, HP⟩ : ∃ P, Hid (strOf (be8 (n : Int)) = P) := ⟨_, Lib.hid rfl⟩
  obtain ⟨X, HX⟩ : ∃ P, Hid (strOf rest = P) := ⟨_, Lib.hid rfl⟩
  rw [HP.out] at CR hps hpd
  rw [HX.out] at CR ⊢
  have HN := Lib.hid hn; clear hn
  have HPD := Lib.hid hpd; clear hpd
  clear h h1 h2 hs
  have hCV := Lib.hid (fun w => Lib.run_convert_string_bytes (P := Tryd.prog) w 9 47 5 P Tryd.underlying9 Tryd.underlying47 Tryd.underlying5)
  go_enter Tryd.func42, Tryd.ntmps42
  go_wp2_with fail
  refine CR.out.mono ?_
  rintro e w1 ⟨rfl, hr1, hb1⟩
  have hconv := hCV.out w1
  have hown := OwnB.conv w1 P (by unfold maxLen; omega)
  have hbw := below_conv w1 P
  have hblk : IsR (Lib.bytesWorld w1 5 P) b X := Blk.below hr1 hbw (Blk.lt hr1)
  have hbf : Below B w (Lib.bytesWorld w1 5 P) := hb1.trans (hbw.mono (Nat.le_trans hBw hb1.size))
  obtain ⟨W1, HW1⟩ : ∃ W, Hid (Lib.bytesWorld w1 5 P = W) := ⟨_, Lib.hid rfl⟩
  obtain ⟨cap0, HC0⟩ : ∃ c, Hid (grownCap w1 P.size 0 5 = c) := ⟨_, Lib.hid rfl⟩
  rw [HC0.out] at hown hconv
  rw [HW1.out] at hconv hown hblk hbf
  rw [hps] at hconv hown
  have HBL := Lib.hid hblk
  have HCELLS : Hid (∀ j, j < 8 → W1.cell? ⟨w1.heap.size, j, none⟩ = some (.int .u8 (((be8 (n : Int)).getD j 0).toNat : Int))) := by
    show ∀ j, _
    intro j hj
    rw [HPD.out] at hown
    rcases hown with ⟨h0, _⟩ | ⟨g, cap, hv, _, _, _, _, hc, _⟩
    · cases h0
    · have hg : w1.heap.size = g := by simpa using (congrArg (fun v => match v with | Value.slice (some a) _ _ => a.block | _ => 0) hv)
      rw [hg]
      exact hc j (by rw [be8_length]; exact hj)
  clear hown hblk hbw hr1
  go_wp2
  go_loopw [5, 7, 13] (fun v _ i wr => ∃ (k x : Nat), k ≤ 8 ∧ i = .int .i64 k ∧ v = .int .u64 (x : Int) ∧ Hid (x = n / 256 ^ (8 - k)) ∧ wr = W1) (fun _ _ i _ => 8 - (intOf i).toNat)
  case atStart => exact ⟨0, 0, by omega, rfl, rfl, by show 0 = _; rw [Nat.div_eq_of_lt (by have := HN.out; simpa using this)], rfl⟩
  case round =>
    obtain ⟨k, x, hk, rfl, rfl, HXK, rfl⟩ := hrel
    by_cases hlt : k < 8
    · have hc := HCELLS.out k hlt
      rw [be8_get n k hlt, byteAt_nat'] at hc
      obtain ⟨c, HC⟩ : ∃ c, Hid (n / 256 ^ (7 - k) % 256 = c) := ⟨_, Lib.hid rfl⟩
      rw [HC.out] at hc
      have hc256 : c < 256 := by rw [← HC.out]; exact Nat.mod_lt _ (by decide)
      have hx : x < 72057594037927936 := by
        rw [HXK.out]
        have h1 : 256 ^ (8 - k) = 256 ^ (7 - k) * 256 := by rw [show 8 - k = (7 - k) + 1 by omega, Nat.pow_succ]
        rw [h1, ← Nat.div_div_eq_div_mul, Nat.div_div_eq_div_mul, Nat.div_lt_iff_lt_mul (Nat.mul_pos (Nat.pow_pos (by decide)) (by decide))]
        have h2 : 1 ≤ 256 ^ (7 - k) := Nat.pow_pos (by decide)
        have h3 := HN.out
        omega
      have HNX : Hid (x * 256 + c = n / 256 ^ (8 - (k + 1))) := by
        show _ = _
        rw [HXK.out, ← HC.out, show 8 - (k + 1) = 7 - k by omega, show 8 - k = (7 - k) + 1 by omega, Nat.pow_succ, ← Nat.div_div_eq_div_mul]
        omega
      have hor := u64_join x c hx hc256
      have x0 : (0 : Int) ≤ (x : Int) := by omega
      have x1 : (x : Int) * 256 < 18446744073709551616 := by omega
      have xe : ((x * 256 : Nat) : Int) = (x : Int) * 256 := by omega
      rw [xe] at hor
      have xm : (x : Int) * 256 % 18446744073709551616 = (x : Int) * 256 := by omega
      have c0 : (0 : Int) ≤ (c : Int) := by omega
      have c1 : (c : Int) < 256 := by omega
      have hkI : (k : Int) < 8 := by omega
      have hk0 : (0 : Int) ≤ (k : Int) := by omega
      clear xe hx hconv hb1 hc256
      have HX1 := Lib.hid x1
      clear x1
      refine hide_post fun R HR => ?_
      go_wp2
      obtain rfl := HR.out
      go_roundw
      case rel => exact ⟨k + 1, x * 256 + c, hlt, by go_num, rfl, HNX, rfl⟩
      case measure => simp [intOf]; omega
    · obtain rfl : k = 8 := by omega
      have hxn : x = n := by have := HXK.out; simpa using this
      subst hxn
      refine hide_post fun R HR => ?_
      go_wp2
      obtain rfl := HR.out
      go_ret
      exact ⟨rfl, HBL.out, hbf⟩
theorem rU64_any (n : Nat) (rest : List UInt8) (B b : Nat) (s : ByteArray) (w : World) (hn : n < 18446744073709551616) (h : IsR w b s) (hs : strOf (be8 (n : Int) ++ rest) = s) (hsz : s.size ≤ 1099511627776) (hB : B ≤ b) (hBw : B ≤ w.heap.size) :
    Calls Tryd.prog 30 #[.pointer (some ⟨b, 0, none⟩)] w fun e w' => e = .returned (.int .u64 (n : Int)) ∧ IsR w' b (strOf rest) ∧ Below B w w' := by
  have C := Lib.hid (read8_any n rest B b s w hn h hs hsz hB hBw)
  clear h hs hsz hn
  go_enter Tryd.func30, Tryd.ntmps30
  go_wp2_with fail
  refine C.out.mono ?_
  rintro e w1 ⟨rfl, hr1, hb1⟩
  go_wp2
  go_ret
  exact ⟨rfl, hr1, hb1⟩
end Go.Proofs.YtbmgalknlglhaaaDoor
