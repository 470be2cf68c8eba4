/-
  HKDF: mac.Derive and atriumref04.Derive.
-/
import Derived.Test.YtlpdbkhpchmpmaaR
namespace Go.Proofs.Ytlpdbkhpchmpmaa
open Go.RowKit
set_option linter.unusedVariables false
set_option maxRecDepth 100000
set_option maxHeartbeats 2000000

def byteStr (k : Nat) : ByteArray := strOf [UInt8.ofNat k]
/-- The last part after k rounds. -/
def dLast (p info : ByteArray) : Nat → ByteArray
  | 0 => ⟨#[]⟩
  | k + 1 => strOf (hmac p.data.toList (dLast p info k ++ info ++ byteStr (k + 1)).data.toList)
def dOut (p info : ByteArray) : Nat → ByteArray
  | 0 => ⟨#[]⟩
  | k + 1 => dOut p info k ++ dLast p info (k + 1)
theorem dLast_zero (p info : ByteArray) : dLast p info 0 = ⟨#[]⟩ := rfl
theorem dLast_succ (p info : ByteArray) (k : Nat) : dLast p info (k + 1) = strOf (hmac p.data.toList (dLast p info k ++ info ++ byteStr (k + 1)).data.toList) := rfl
theorem dOut_zero (p info : ByteArray) : dOut p info 0 = ⟨#[]⟩ := rfl
theorem dOut_succ (p info : ByteArray) (k : Nat) : dOut p info (k + 1) = dOut p info k ++ dLast p info (k + 1) := rfl
attribute [irreducible] dLast dOut
theorem dLast_size_succ (p info : ByteArray) (k : Nat) : (dLast p info (k + 1)).size = 32 := by rw [dLast_succ, strOf_size, hmac_length]
theorem dLast_size (p info : ByteArray) (k : Nat) : (dLast p info k).size ≤ 32 := by
  cases k with
  | zero => rw [dLast_zero]; decide
  | succ k => rw [dLast_size_succ]; omega
theorem dOut_size (p info : ByteArray) (k : Nat) : (dOut p info k).size = 32 * k := by
  induction k with
  | zero => rw [dOut_zero]; rfl
  | succ k ih => rw [dOut_succ, ByteArray.size_append, ih, dLast_size_succ]; omega
/-- What is derived: n bytes. -/
def derived (p info : ByteArray) (n : Nat) : ByteArray := (dOut p info ((n + 31) / 32)).extract 0 n
theorem dOut_front (p info : ByteArray) (n k : Nat) (h : n ≤ 32 * k) (m : Nat) : (dOut p info (k + m)).extract 0 n = (dOut p info k).extract 0 n := by
  induction m with
  | zero => rfl
  | succ m ih =>
    rw [show k + (m + 1) = (k + m) + 1 by omega, dOut_succ, ← ih]
    have hs := dOut_size p info (k + m)
    apply ByteArray.ext
    apply Array.toList_inj.1
    rw [Lib.extract_data, Lib.extract_data]
    simp only [List.drop_zero, Nat.sub_zero, ByteArray.data_append, Array.toList_append]
    rw [List.take_append_of_le_length]
    simp only [Array.length_toList, ByteArray.size_data, hs]
    omega
theorem derived_less (p info : ByteArray) (n m : Nat) (h : m ≤ n) : (derived p info n).extract 0 m = derived p info m := by
  have e : (n + 31) / 32 = (m + 31) / 32 + ((n + 31) / 32 - (m + 31) / 32) := by omega
  unfold derived
  rw [← dOut_front p info m ((m + 31) / 32) (by omega) ((n + 31) / 32 - (m + 31) / 32), ← e]
  apply ByteArray.ext
  apply Array.toList_inj.1
  rw [Lib.extract_data, Lib.extract_data, Lib.extract_data]
  simp only [List.drop_zero, Nat.sub_zero, List.take_take]
  rw [Nat.min_eq_left h]
theorem derived_size (p info : ByteArray) (n : Nat) : (derived p info n).size = n := by
  unfold derived
  rw [ByteArray.size_extract, dOut_size]
  omega

theorem run_byte_str (w : World) (k : Nat) (h : k < 256) : (convert 28 9 (.slice (some ⟨w.heap.size, 0, none⟩) 1 1)).run Try.prog (w.alloc (.cells #[.int .u8 (k : Int)] 5)) = .ok (.string (byteStr k)) (w.alloc (.cells #[.int .u8 (k : Int)] 5)) := by
  have hv : Value.int .u8 (k : Int) = .int .u8 ((UInt8.ofNat k).toNat : Int) := by
    have := byte_of (k : Int) (by omega) (by omega)
    simpa using this.symm
  refine run_convert_bytes_back (P := Try.prog) _ 28 9 5 ⟨w.heap.size, 0, none⟩ 1 [UInt8.ofNat k] Try.underlying28 Try.underlying5 Try.underlying9 fun j hj => ?_
  obtain rfl : j = 0 := by simpa using hj
  exact news_one w (UInt8.ofNat k) k hv 0 _ rfl
def noughts32 : ByteArray := strOf (List.replicate 32 0)
theorem make32 : ∀ w : World, (Instr.makeSlice 28 (.int .i64 32) (.int .i64 32)).run Try.prog w = .ok (.slice (some ⟨w.heap.size, 0, none⟩) 32 32) (w.alloc (.cells (barr (List.replicate 32 0)) 5)) := fun w => by kernel_rfl

theorem conv32 (w : World) : (convert 28 9 (.slice (some ⟨w.heap.size, 0, none⟩) 32 32)).run Try.prog (w.alloc (.cells (barr (List.replicate 32 0)) 5)) = .ok (.string noughts32) (w.alloc (.cells (barr (List.replicate 32 0)) 5)) := by
  refine run_convert_bytes_back (P := Try.prog) _ 28 9 5 ⟨w.heap.size, 0, none⟩ 32 (List.replicate 32 0) Try.underlying28 Try.underlying5 Try.underlying9 fun j hj => ?_
  have hadd : (⟨w.heap.size, 0, none⟩ : Addr).add j = ⟨w.heap.size, j, none⟩ := by unfold Addr.add; split <;> simp_all
  rw [hadd, (Blk.new w 5 _).cell j, barr_get _ _ hj]
  simp at hj
  simp [hj]

theorem macDerive_some (key salt info : ByteArray) (n : Nat) (w : World) (hk : key.size ≤ 140737488351232) (hs : salt.size ≤ 140737488351232) (hi : info.size ≤ 140737488351232) (hn : n ≤ 8160) (hne : salt.size ≠ 0) :
    Calls Try.prog 24 #[.string key, .string salt, .string info, .int .i64 n] w fun e w' => e = .returned (.tuple #[.string (derived (strOf (hmac salt.data.toList key.data.toList)) info n), .bool true]) ∧ Below w.heap.size w w' := by
  have C1 := Lib.hid (fun w => macMac_any salt key w (by omega) (by omega))
  have hps : (strOf (hmac salt.data.toList key.data.toList)).size = 32 := by rw [strOf_size, hmac_length]
  obtain ⟨p, HP⟩ : ∃ p, Hid (strOf (hmac salt.data.toList key.data.toList) = p) := ⟨_, Lib.hid rfl⟩
  rw [HP.out] at C1 hps ⊢
  have HPS := Lib.hid hps; clear hps
  have C2 := Lib.hid (fun (t : ByteArray) (ht : t.size ≤ 140737488351300) w => macMac_any p t w (by rw [HPS.out]; decide) (by omega))
  have n0 : (0 : Int) ≤ (n : Int) := by omega
  have n1 : (n : Int) ≤ 8160 := by omega
  have hne2 : (salt.toList == []) = false := by
    rw [ByteArray.toList_eq, Bool.eq_false_iff]
    simp only [ne_eq, beq_iff_eq]
    intro h
    exact hne (by have := congrArg List.length h; simpa using this)
  go_enter Try.func24, Try.ntmps24
  go_wp2_with fail
  refine (C1.out _).mono ?_
  rintro e w1 ⟨rfl, hb1⟩
  have hb := hb1
  go_wp2
  go_loopw [11, 12, 13] (fun o l i wr => ∃ k : Nat, k ≤ (n + 31) / 32 ∧ i = .int .i64 (k + 1) ∧ o = .string (dOut p info k) ∧ l = .string (dLast p info k) ∧ Below w.heap.size w wr) (fun _ _ i _ => 300 - (intOf i).toNat)
  case atStart => exact ⟨0, by omega, rfl, by rw [dOut_zero], by rw [dLast_zero], hb⟩
  case round =>
    clear hb
    obtain ⟨k, hk', rfl, rfl, rfl, hnx⟩ := hrel
    have hos := dOut_size p info k
    have hls := dLast_size p info k
    by_cases hlt : 32 * k < n
    · have C3 := Lib.hid (C2.out (dLast p info k ++ info ++ byteStr (k + 1)) (by rw [ByteArray.size_append, ByteArray.size_append, byteStr, strOf_size]; simp; omega))
      rw [← dLast_succ] at C3
      have HO := Lib.hid (dOut_succ p info k)
      have hls' := dLast_size_succ p info k
      have hos' : Hid ((dOut p info (k + 1)).size = 32 * (k + 1)) := dOut_size p info (k + 1)
      obtain ⟨O, HOO⟩ : ∃ O, Hid (dOut p info k = O) := ⟨_, Lib.hid rfl⟩
      obtain ⟨O', HOO'⟩ : ∃ O, Hid (dOut p info (k + 1) = O) := ⟨_, Lib.hid rfl⟩
      obtain ⟨L, HL⟩ : ∃ O, Hid (dLast p info k = O) := ⟨_, Lib.hid rfl⟩
      obtain ⟨L', HL'⟩ : ∃ O, Hid (dLast p info (k + 1) = O) := ⟨_, Lib.hid rfl⟩
      rw [HL.out, HL'.out] at C3
      rw [HOO.out, HOO'.out, HL'.out] at HO
      rw [HOO.out] at hos
      rw [HL.out] at hls
      rw [HL'.out] at hls'
      rw [HOO.out, HL.out]
      have hk255 : k + 1 < 256 := by omega
      have hconv := run_byte_str wr (k + 1) hk255
      have hbs : (byteStr (k + 1)).size = 1 := by rw [byteStr, strOf_size]; rfl
      obtain ⟨bs, HBS⟩ : ∃ b, Hid (byteStr (k + 1) = b) := ⟨_, Lib.hid rfl⟩
      rw [HBS.out] at C3 hconv hbs
      have e1 : ¬ 9223372036854775807 < L.size + info.size := by omega
      have e2 : (L ++ info).size = L.size + info.size := ByteArray.size_append
      have e3 : ¬ 9223372036854775807 < L.size + info.size + 1 := by omega
      have e4 : ¬ 9223372036854775807 < 32 * k + 32 := by omega
      have e5 : O ++ L' = O' := HO.out.symm
      obtain ⟨X, HX⟩ : ∃ X, X = L ++ info := ⟨_, rfl⟩
      obtain ⟨Y, HY⟩ : ∃ Y, Y = X ++ bs := ⟨_, rfl⟩
      rw [← HX] at e2 C3
      rw [← HY] at C3
      replace HX := HX.symm
      replace HY := HY.symm
      have hwk : IntKind.u8.wrap ((k : Int) + 1) = ((k + 1 : Nat) : Int) := by rw [IntKind.wrap_u8]; omega
      have hwk2 : ((k : Int) + 1) % 256 = ((k + 1 : Nat) : Int) := by omega
      have kc : (k : Int) + 1 = ((k + 1 : Nat) : Int) := by omega
      rw [kc]
      obtain ⟨kk, HKK⟩ : ∃ kk, kk = k + 1 := ⟨_, rfl⟩
      rw [← HKK] at hconv hk255 ⊢
      have k0 : (0 : Int) ≤ (kk : Int) := by omega
      have k1 : (kk : Int) < 256 := by omega
      have k2 : 32 * (k : Int) < (n : Int) := by omega
      have HKH := Lib.hid HKK; clear HKK
      refine hide_post fun R' HR' => ?_
      go_wp2_with fail
      refine (C3.out _).mono ?_
      rintro e w2 ⟨rfl, hb2⟩
      go_wp2
      obtain rfl := HR'.out
      go_roundw
      case rel =>
        refine ⟨k + 1, by omega, ?_, by rw [HOO'.out], by rw [HL'.out], (hnx.alloc hnx.size _).trans (hb2.mono (by have := hnx.size; simp; omega))⟩
        have := HKH.out
        subst this
        go_num
      case measure => have := HKH.out; simp [intOf]; omega
    · obtain rfl : k = (n + 31) / 32 := by omega
      have he : Hid ((dOut p info ((n + 31) / 32)).extract 0 n = derived p info n) := rfl
      have h1 : n ≤ 32 * ((n + 31) / 32) := by omega
      obtain ⟨K, HK⟩ : ∃ K, Hid ((n + 31) / 32 = K) := ⟨_, Lib.hid rfl⟩
      rw [HK.out] at hos hls hlt he h1 ⊢
      obtain ⟨O, HOO⟩ : ∃ O, Hid (dOut p info K = O) := ⟨_, Lib.hid rfl⟩
      rw [HOO.out] at hos he ⊢
      have k2 : ¬ 32 * (K : Int) < (n : Int) := by omega
      have k3 : (n : Int) ≤ 32 * (K : Int) := by omega
      clear hk' hlt
      go_wp2
      go_ret2
      refine ⟨?_, hnx⟩
      rw [← he.out]
      rfl

theorem macDerive_none (key info : ByteArray) (n : Nat) (w : World) (hk : key.size ≤ 140737488351232) (hi : info.size ≤ 140737488351232) (hn : n ≤ 8160) :
    Calls Try.prog 24 #[.string key, .string ⟨#[]⟩, .string info, .int .i64 n] w fun e w' => e = .returned (.tuple #[.string (derived (strOf (hmac noughts32.data.toList key.data.toList)) info n), .bool true]) ∧ Below w.heap.size w w' := by
  have C1 := Lib.hid (fun w => macMac_any noughts32 key w (by decide) (by omega))
  have hps : (strOf (hmac noughts32.data.toList key.data.toList)).size = 32 := by rw [strOf_size, hmac_length]
  obtain ⟨p, HP⟩ : ∃ p, Hid (strOf (hmac noughts32.data.toList key.data.toList) = p) := ⟨_, Lib.hid rfl⟩
  rw [HP.out] at C1 hps ⊢
  have HPS := Lib.hid hps; clear hps
  have C2 := Lib.hid (fun (t : ByteArray) (ht : t.size ≤ 140737488351300) w => macMac_any p t w (by rw [HPS.out]; decide) (by omega))
  have n0 : (0 : Int) ≤ (n : Int) := by omega
  have n1 : (n : Int) ≤ 8160 := by omega
  have C0 := Lib.hid (fun w => Repeat0_any 32 w (by omega))
  rw [show strOf (List.replicate 32 0) = noughts32 from rfl] at C0
  go_enter Try.func24, Try.ntmps24
  go_wp2_with fail
  refine (C0.out _).mono ?_
  rintro e w0 ⟨rfl, hb0⟩
  go_wp2_with fail
  refine (C1.out _).mono ?_
  rintro e w1 ⟨rfl, hb1⟩
  have hb := hb0.trans (hb1.mono hb0.size)
  go_wp2
  go_loopw [11, 12, 13] (fun o l i wr => ∃ k : Nat, k ≤ (n + 31) / 32 ∧ i = .int .i64 (k + 1) ∧ o = .string (dOut p info k) ∧ l = .string (dLast p info k) ∧ Below w.heap.size w wr) (fun _ _ i _ => 300 - (intOf i).toNat)
  case atStart => exact ⟨0, by omega, rfl, by rw [dOut_zero], by rw [dLast_zero], hb⟩
  case round =>
    clear hb
    obtain ⟨k, hk', rfl, rfl, rfl, hnx⟩ := hrel
    have hos := dOut_size p info k
    have hls := dLast_size p info k
    by_cases hlt : 32 * k < n
    · have C3 := Lib.hid (C2.out (dLast p info k ++ info ++ byteStr (k + 1)) (by rw [ByteArray.size_append, ByteArray.size_append, byteStr, strOf_size]; simp; omega))
      rw [← dLast_succ] at C3
      have HO := Lib.hid (dOut_succ p info k)
      have hls' := dLast_size_succ p info k
      have hos' : Hid ((dOut p info (k + 1)).size = 32 * (k + 1)) := dOut_size p info (k + 1)
      obtain ⟨O, HOO⟩ : ∃ O, Hid (dOut p info k = O) := ⟨_, Lib.hid rfl⟩
      obtain ⟨O', HOO'⟩ : ∃ O, Hid (dOut p info (k + 1) = O) := ⟨_, Lib.hid rfl⟩
      obtain ⟨L, HL⟩ : ∃ O, Hid (dLast p info k = O) := ⟨_, Lib.hid rfl⟩
      obtain ⟨L', HL'⟩ : ∃ O, Hid (dLast p info (k + 1) = O) := ⟨_, Lib.hid rfl⟩
      rw [HL.out, HL'.out] at C3
      rw [HOO.out, HOO'.out, HL'.out] at HO
      rw [HOO.out] at hos
      rw [HL.out] at hls
      rw [HL'.out] at hls'
      rw [HOO.out, HL.out]
      have hk255 : k + 1 < 256 := by omega
      have hconv := run_byte_str wr (k + 1) hk255
      have hbs : (byteStr (k + 1)).size = 1 := by rw [byteStr, strOf_size]; rfl
      obtain ⟨bs, HBS⟩ : ∃ b, Hid (byteStr (k + 1) = b) := ⟨_, Lib.hid rfl⟩
      rw [HBS.out] at C3 hconv hbs
      have e1 : ¬ 9223372036854775807 < L.size + info.size := by omega
      have e2 : (L ++ info).size = L.size + info.size := ByteArray.size_append
      have e3 : ¬ 9223372036854775807 < L.size + info.size + 1 := by omega
      have e4 : ¬ 9223372036854775807 < 32 * k + 32 := by omega
      have e5 : O ++ L' = O' := HO.out.symm
      obtain ⟨X, HX⟩ : ∃ X, X = L ++ info := ⟨_, rfl⟩
      obtain ⟨Y, HY⟩ : ∃ Y, Y = X ++ bs := ⟨_, rfl⟩
      rw [← HX] at e2 C3
      rw [← HY] at C3
      replace HX := HX.symm
      replace HY := HY.symm
      have hwk : IntKind.u8.wrap ((k : Int) + 1) = ((k + 1 : Nat) : Int) := by rw [IntKind.wrap_u8]; omega
      have hwk2 : ((k : Int) + 1) % 256 = ((k + 1 : Nat) : Int) := by omega
      have kc : (k : Int) + 1 = ((k + 1 : Nat) : Int) := by omega
      rw [kc]
      obtain ⟨kk, HKK⟩ : ∃ kk, kk = k + 1 := ⟨_, rfl⟩
      rw [← HKK] at hconv hk255 ⊢
      have k0 : (0 : Int) ≤ (kk : Int) := by omega
      have k1 : (kk : Int) < 256 := by omega
      have k2 : 32 * (k : Int) < (n : Int) := by omega
      have HKH := Lib.hid HKK; clear HKK
      refine hide_post fun R' HR' => ?_
      go_wp2_with fail
      refine (C3.out _).mono ?_
      rintro e w2 ⟨rfl, hb2⟩
      go_wp2
      obtain rfl := HR'.out
      go_roundw
      case rel =>
        refine ⟨k + 1, by omega, ?_, by rw [HOO'.out], by rw [HL'.out], (hnx.alloc hnx.size _).trans (hb2.mono (by have := hnx.size; simp; omega))⟩
        have := HKH.out
        subst this
        go_num
      case measure => have := HKH.out; simp [intOf]; omega
    · obtain rfl : k = (n + 31) / 32 := by omega
      have he : Hid ((dOut p info ((n + 31) / 32)).extract 0 n = derived p info n) := rfl
      have h1 : n ≤ 32 * ((n + 31) / 32) := by omega
      obtain ⟨K, HK⟩ : ∃ K, Hid ((n + 31) / 32 = K) := ⟨_, Lib.hid rfl⟩
      rw [HK.out] at hos hls hlt he h1 ⊢
      obtain ⟨O, HOO⟩ : ∃ O, Hid (dOut p info K = O) := ⟨_, Lib.hid rfl⟩
      rw [HOO.out] at hos he ⊢
      have k2 : ¬ 32 * (K : Int) < (n : Int) := by omega
      have k3 : (n : Int) ≤ 32 * (K : Int) := by omega
      clear hk' hlt
      go_wp2
      go_ret2
      refine ⟨?_, hnx⟩
      rw [← he.out]
      rfl

theorem refDerive_some (key salt info : ByteArray) (n : Nat) (w : World) (hk : key.size ≤ 140737488351232) (hs : salt.size ≤ 140737488351232) (hi : info.size ≤ 140737488351232) (hn : n ≤ 8160) (hne : salt.size ≠ 0) :
    Calls Try.prog 25 #[.string key, .string salt, .string info, .int .i64 n] w fun e w' => e = .returned (.tuple #[.string (derived (strOf (hmac salt.data.toList key.data.toList)) info n), .bool true]) ∧ Below w.heap.size w w' := by
  have C1 := Lib.hid (fun w => refMac_any salt key w (by omega) (by omega))
  have hps : (strOf (hmac salt.data.toList key.data.toList)).size = 32 := by rw [strOf_size, hmac_length]
  obtain ⟨p, HP⟩ : ∃ p, Hid (strOf (hmac salt.data.toList key.data.toList) = p) := ⟨_, Lib.hid rfl⟩
  rw [HP.out] at C1 hps ⊢
  have HPS := Lib.hid hps; clear hps
  have C2 := Lib.hid (fun (t : ByteArray) (ht : t.size ≤ 140737488351300) w => refMac_any p t w (by rw [HPS.out]; decide) (by omega))
  have n0 : (0 : Int) ≤ (n : Int) := by omega
  have n1 : (n : Int) ≤ 8160 := by omega
  have hne2 : (salt.toList == []) = false := by
    rw [ByteArray.toList_eq, Bool.eq_false_iff]
    simp only [ne_eq, beq_iff_eq]
    intro h
    exact hne (by have := congrArg List.length h; simpa using this)
  go_enter Try.func25, Try.ntmps25
  go_wp2_with fail
  refine (C1.out _).mono ?_
  rintro e w1 ⟨rfl, hb1⟩
  have hb := hb1
  go_wp2
  go_loopw [11, 12, 13] (fun o l i wr => ∃ k : Nat, k ≤ (n + 31) / 32 ∧ i = .int .i64 (k + 1) ∧ o = .string (dOut p info k) ∧ l = .string (dLast p info k) ∧ Below w.heap.size w wr) (fun _ _ i _ => 300 - (intOf i).toNat)
  case atStart => exact ⟨0, by omega, rfl, by rw [dOut_zero], by rw [dLast_zero], hb⟩
  case round =>
    clear hb
    obtain ⟨k, hk', rfl, rfl, rfl, hnx⟩ := hrel
    have hos := dOut_size p info k
    have hls := dLast_size p info k
    by_cases hlt : 32 * k < n
    · have C3 := Lib.hid (C2.out (dLast p info k ++ info ++ byteStr (k + 1)) (by rw [ByteArray.size_append, ByteArray.size_append, byteStr, strOf_size]; simp; omega))
      rw [← dLast_succ] at C3
      have HO := Lib.hid (dOut_succ p info k)
      have hls' := dLast_size_succ p info k
      have hos' : Hid ((dOut p info (k + 1)).size = 32 * (k + 1)) := dOut_size p info (k + 1)
      obtain ⟨O, HOO⟩ : ∃ O, Hid (dOut p info k = O) := ⟨_, Lib.hid rfl⟩
      obtain ⟨O', HOO'⟩ : ∃ O, Hid (dOut p info (k + 1) = O) := ⟨_, Lib.hid rfl⟩
      obtain ⟨L, HL⟩ : ∃ O, Hid (dLast p info k = O) := ⟨_, Lib.hid rfl⟩
      obtain ⟨L', HL'⟩ : ∃ O, Hid (dLast p info (k + 1) = O) := ⟨_, Lib.hid rfl⟩
      rw [HL.out, HL'.out] at C3
      rw [HOO.out, HOO'.out, HL'.out] at HO
      rw [HOO.out] at hos
      rw [HL.out] at hls
      rw [HL'.out] at hls'
      rw [HOO.out, HL.out]
      have hk255 : k + 1 < 256 := by omega
      have hconv := run_byte_str wr (k + 1) hk255
      have hbs : (byteStr (k + 1)).size = 1 := by rw [byteStr, strOf_size]; rfl
      obtain ⟨bs, HBS⟩ : ∃ b, Hid (byteStr (k + 1) = b) := ⟨_, Lib.hid rfl⟩
      rw [HBS.out] at C3 hconv hbs
      have e1 : ¬ 9223372036854775807 < L.size + info.size := by omega
      have e2 : (L ++ info).size = L.size + info.size := ByteArray.size_append
      have e3 : ¬ 9223372036854775807 < L.size + info.size + 1 := by omega
      have e4 : ¬ 9223372036854775807 < 32 * k + 32 := by omega
      have e5 : O ++ L' = O' := HO.out.symm
      obtain ⟨X, HX⟩ : ∃ X, X = L ++ info := ⟨_, rfl⟩
      obtain ⟨Y, HY⟩ : ∃ Y, Y = X ++ bs := ⟨_, rfl⟩
      rw [← HX] at e2 C3
      rw [← HY] at C3
      replace HX := HX.symm
      replace HY := HY.symm
      have hwk : IntKind.u8.wrap ((k : Int) + 1) = ((k + 1 : Nat) : Int) := by rw [IntKind.wrap_u8]; omega
      have hwk2 : ((k : Int) + 1) % 256 = ((k + 1 : Nat) : Int) := by omega
      have kc : (k : Int) + 1 = ((k + 1 : Nat) : Int) := by omega
      rw [kc]
      obtain ⟨kk, HKK⟩ : ∃ kk, kk = k + 1 := ⟨_, rfl⟩
      rw [← HKK] at hconv hk255 ⊢
      have k0 : (0 : Int) ≤ (kk : Int) := by omega
      have k1 : (kk : Int) < 256 := by omega
      have k2 : 32 * (k : Int) < (n : Int) := by omega
      have HKH := Lib.hid HKK; clear HKK
      refine hide_post fun R' HR' => ?_
      go_wp2_with fail
      refine (C3.out _).mono ?_
      rintro e w2 ⟨rfl, hb2⟩
      go_wp2
      obtain rfl := HR'.out
      go_roundw
      case rel =>
        refine ⟨k + 1, by omega, ?_, by rw [HOO'.out], by rw [HL'.out], (hnx.alloc hnx.size _).trans (hb2.mono (by have := hnx.size; simp; omega))⟩
        have := HKH.out
        subst this
        go_num
      case measure => have := HKH.out; simp [intOf]; omega
    · obtain rfl : k = (n + 31) / 32 := by omega
      have he : Hid ((dOut p info ((n + 31) / 32)).extract 0 n = derived p info n) := rfl
      have h1 : n ≤ 32 * ((n + 31) / 32) := by omega
      obtain ⟨K, HK⟩ : ∃ K, Hid ((n + 31) / 32 = K) := ⟨_, Lib.hid rfl⟩
      rw [HK.out] at hos hls hlt he h1 ⊢
      obtain ⟨O, HOO⟩ : ∃ O, Hid (dOut p info K = O) := ⟨_, Lib.hid rfl⟩
      rw [HOO.out] at hos he ⊢
      have k2 : ¬ 32 * (K : Int) < (n : Int) := by omega
      have k3 : (n : Int) ≤ 32 * (K : Int) := by omega
      clear hk' hlt
      go_wp2
      go_ret2
      refine ⟨?_, hnx⟩
      rw [← he.out]
      rfl

theorem refDerive_none (key info : ByteArray) (n : Nat) (w : World) (hk : key.size ≤ 140737488351232) (hi : info.size ≤ 140737488351232) (hn : n ≤ 8160) :
    Calls Try.prog 25 #[.string key, .string ⟨#[]⟩, .string info, .int .i64 n] w fun e w' => e = .returned (.tuple #[.string (derived (strOf (hmac noughts32.data.toList key.data.toList)) info n), .bool true]) ∧ Below w.heap.size w w' := by
  have C1 := Lib.hid (fun w => refMac_any noughts32 key w (by decide) (by omega))
  have hps : (strOf (hmac noughts32.data.toList key.data.toList)).size = 32 := by rw [strOf_size, hmac_length]
  obtain ⟨p, HP⟩ : ∃ p, Hid (strOf (hmac noughts32.data.toList key.data.toList) = p) := ⟨_, Lib.hid rfl⟩
  rw [HP.out] at C1 hps ⊢
  have HPS := Lib.hid hps; clear hps
  have C2 := Lib.hid (fun (t : ByteArray) (ht : t.size ≤ 140737488351300) w => refMac_any p t w (by rw [HPS.out]; decide) (by omega))
  have n0 : (0 : Int) ≤ (n : Int) := by omega
  have n1 : (n : Int) ≤ 8160 := by omega
  obtain ⟨Z, hmk, hcv⟩ : ∃ Z, (∀ w : World, (Instr.makeSlice 28 (.int .i64 32) (.int .i64 32)).run Try.prog w = .ok (.slice (some ⟨w.heap.size, 0, none⟩) 32 32) (w.alloc (.cells Z 5))) ∧
      (∀ w : World, (convert 28 9 (.slice (some ⟨w.heap.size, 0, none⟩) 32 32)).run Try.prog (w.alloc (.cells Z 5)) = .ok (.string noughts32) (w.alloc (.cells Z 5))) := ⟨_, make32, conv32⟩
  go_enter Try.func25, Try.ntmps25
  go_wp2_with fail
  refine (C1.out _).mono ?_
  rintro e w1 ⟨rfl, hb1⟩
  have hb := ((Below.refl w.heap.size w).alloc (Nat.le_refl _) (.cells Z 5)).trans (hb1.mono (by simp))
  go_wp2
  go_loopw [11, 12, 13] (fun o l i wr => ∃ k : Nat, k ≤ (n + 31) / 32 ∧ i = .int .i64 (k + 1) ∧ o = .string (dOut p info k) ∧ l = .string (dLast p info k) ∧ Below w.heap.size w wr) (fun _ _ i _ => 300 - (intOf i).toNat)
  case atStart => exact ⟨0, by omega, rfl, by rw [dOut_zero], by rw [dLast_zero], hb⟩
  case round =>
    clear hb
    obtain ⟨k, hk', rfl, rfl, rfl, hnx⟩ := hrel
    have hos := dOut_size p info k
    have hls := dLast_size p info k
    by_cases hlt : 32 * k < n
    · have C3 := Lib.hid (C2.out (dLast p info k ++ info ++ byteStr (k + 1)) (by rw [ByteArray.size_append, ByteArray.size_append, byteStr, strOf_size]; simp; omega))
      rw [← dLast_succ] at C3
      have HO := Lib.hid (dOut_succ p info k)
      have hls' := dLast_size_succ p info k
      have hos' : Hid ((dOut p info (k + 1)).size = 32 * (k + 1)) := dOut_size p info (k + 1)
      obtain ⟨O, HOO⟩ : ∃ O, Hid (dOut p info k = O) := ⟨_, Lib.hid rfl⟩
      obtain ⟨O', HOO'⟩ : ∃ O, Hid (dOut p info (k + 1) = O) := ⟨_, Lib.hid rfl⟩
      obtain ⟨L, HL⟩ : ∃ O, Hid (dLast p info k = O) := ⟨_, Lib.hid rfl⟩
      obtain ⟨L', HL'⟩ : ∃ O, Hid (dLast p info (k + 1) = O) := ⟨_, Lib.hid rfl⟩
      rw [HL.out, HL'.out] at C3
      rw [HOO.out, HOO'.out, HL'.out] at HO
      rw [HOO.out] at hos
      rw [HL.out] at hls
      rw [HL'.out] at hls'
      rw [HOO.out, HL.out]
      have hk255 : k + 1 < 256 := by omega
      have hconv := run_byte_str wr (k + 1) hk255
      have hbs : (byteStr (k + 1)).size = 1 := by rw [byteStr, strOf_size]; rfl
      obtain ⟨bs, HBS⟩ : ∃ b, Hid (byteStr (k + 1) = b) := ⟨_, Lib.hid rfl⟩
      rw [HBS.out] at C3 hconv hbs
      have e1 : ¬ 9223372036854775807 < L.size + info.size := by omega
      have e2 : (L ++ info).size = L.size + info.size := ByteArray.size_append
      have e3 : ¬ 9223372036854775807 < L.size + info.size + 1 := by omega
      have e4 : ¬ 9223372036854775807 < 32 * k + 32 := by omega
      have e5 : O ++ L' = O' := HO.out.symm
      obtain ⟨X, HX⟩ : ∃ X, X = L ++ info := ⟨_, rfl⟩
      obtain ⟨Y, HY⟩ : ∃ Y, Y = X ++ bs := ⟨_, rfl⟩
      rw [← HX] at e2 C3
      rw [← HY] at C3
      replace HX := HX.symm
      replace HY := HY.symm
      have hwk : IntKind.u8.wrap ((k : Int) + 1) = ((k + 1 : Nat) : Int) := by rw [IntKind.wrap_u8]; omega
      have hwk2 : ((k : Int) + 1) % 256 = ((k + 1 : Nat) : Int) := by omega
      have kc : (k : Int) + 1 = ((k + 1 : Nat) : Int) := by omega
      rw [kc]
      obtain ⟨kk, HKK⟩ : ∃ kk, kk = k + 1 := ⟨_, rfl⟩
      rw [← HKK] at hconv hk255 ⊢
      have k0 : (0 : Int) ≤ (kk : Int) := by omega
      have k1 : (kk : Int) < 256 := by omega
      have k2 : 32 * (k : Int) < (n : Int) := by omega
      have HKH := Lib.hid HKK; clear HKK
      refine hide_post fun R' HR' => ?_
      go_wp2_with fail
      refine (C3.out _).mono ?_
      rintro e w2 ⟨rfl, hb2⟩
      go_wp2
      obtain rfl := HR'.out
      go_roundw
      case rel =>
        refine ⟨k + 1, by omega, ?_, by rw [HOO'.out], by rw [HL'.out], (hnx.alloc hnx.size _).trans (hb2.mono (by have := hnx.size; simp; omega))⟩
        have := HKH.out
        subst this
        go_num
      case measure => have := HKH.out; simp [intOf]; omega
    · obtain rfl : k = (n + 31) / 32 := by omega
      have he : Hid ((dOut p info ((n + 31) / 32)).extract 0 n = derived p info n) := rfl
      have h1 : n ≤ 32 * ((n + 31) / 32) := by omega
      obtain ⟨K, HK⟩ : ∃ K, Hid ((n + 31) / 32 = K) := ⟨_, Lib.hid rfl⟩
      rw [HK.out] at hos hls hlt he h1 ⊢
      obtain ⟨O, HOO⟩ : ∃ O, Hid (dOut p info K = O) := ⟨_, Lib.hid rfl⟩
      rw [HOO.out] at hos he ⊢
      have k2 : ¬ 32 * (K : Int) < (n : Int) := by omega
      have k3 : (n : Int) ≤ 32 * (K : Int) := by omega
      clear hk' hlt
      go_wp2
      go_ret2
      refine ⟨?_, hnx⟩
      rw [← he.out]
      rfl

theorem macDerive_bad (key salt info : ByteArray) (n : Int) (w : World) (hn : n < 0 ∨ 8160 < n) :
    Calls Try.prog 24 #[.string key, .string salt, .string info, .int .i64 n] w fun e w' => e = .returned (.tuple #[.string ⟨#[]⟩, .bool false]) ∧ w = w' := by
  by_cases h0 : n < 0
  · go_enter Try.func24, Try.ntmps24
    go_wp2
    go_ret2
    exact ⟨rfl, rfl⟩
  · have h1 : 8160 < n := by omega
    go_enter Try.func24, Try.ntmps24
    go_wp2
    go_ret2
    exact ⟨rfl, rfl⟩

theorem refDerive_bad (key salt info : ByteArray) (n : Int) (w : World) (hn : n < 0 ∨ 8160 < n) :
    Calls Try.prog 25 #[.string key, .string salt, .string info, .int .i64 n] w fun e w' => e = .returned (.tuple #[.string ⟨#[]⟩, .bool false]) ∧ w = w' := by
  by_cases h0 : n < 0
  · go_enter Try.func25, Try.ntmps25
    go_wp2
    go_ret2
    exact ⟨rfl, rfl⟩
  · have h1 : 8160 < n := by omega
    go_enter Try.func25, Try.ntmps25
    go_wp2
    go_ret2
    exact ⟨rfl, rfl⟩
end Go.Proofs.Ytlpdbkhpchmpmaa
