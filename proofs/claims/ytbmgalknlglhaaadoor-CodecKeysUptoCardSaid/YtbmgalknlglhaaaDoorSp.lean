/-
  The codec's Split, of a key.
-/
import Derived.Test.YtbmgalknlglhaaaDoorRu
import Derived.Deep.Slices
namespace Go.Proofs.YtbmgalknlglhaaaDoor
open Go.RowKit
set_option linter.unusedVariables false
set_option maxRecDepth 100000
set_option maxHeartbeats 2000000

def pcell (p : Pt) : List Value := [.string p.t, .int .u64 (p.n : Int), .bool p.b]
def pcells (ps : List Pt) : List Value := ps.flatMap pcell
theorem pcells_append (ps qs : List Pt) : pcells (ps ++ qs) = pcells ps ++ pcells qs := by simp [pcells]
theorem pcells_length (ps : List Pt) : (pcells ps).length = ps.length * 3 := by
  induction ps with
  | nil => rfl
  | cons p ps ih =>
    show (pcell p ++ pcells ps).length = _
    rw [List.length_append, ih, List.length_cons]
    simp [pcell]
    omega
theorem pcells_one (ps : List Pt) : ∀ u ∈ pcells ps, u.oneCell' = true := by
  intro u hu
  obtain ⟨p, _, hp⟩ := List.mem_flatMap.1 hu
  simp [pcell] at hp
  rcases hp with rfl | rfl | rfl <;> rfl
theorem pcells_get : ∀ (ps : List Pt) (k j : Nat) (v : Value), k < ps.length → (pcell (ps.getD k default))[j]? = some v → (pcells ps)[k * 3 + j]? = some v
  | [], k, j, v, h, _ => by simp at h
  | p :: ps, 0, j, v, _, h => by
    have hj : j < 3 := by
      have := (List.getElem?_eq_some_iff.1 h).1
      simpa [pcell] using this
    show (pcell p ++ pcells ps)[0 * 3 + j]? = some v
    rw [Nat.zero_mul, Nat.zero_add, List.getElem?_append_left (by simp [pcell]; omega)]
    exact h
  | p :: ps, k + 1, j, v, hk, h => by
    show (pcell p ++ pcells ps)[(k + 1) * 3 + j]? = some v
    rw [List.getElem?_append_right (by simp [pcell]; omega)]
    have e : (k + 1) * 3 + j - (pcell p).length = k * 3 + j := by simp [pcell]; omega
    rw [e]
    exact pcells_get ps k j v (by simpa using hk) (by simpa using h)
/-- Cells that are the parts', from an address on. -/
theorem partsAt_of {w : World} {B g : Nat} {ps : List Pt} (hB : g < B) (h : ∀ j u, (pcells ps)[j]? = some u → w.cell? ((⟨g, 0, none⟩ : Addr).add j) = some u) : PartsAt w B (some ⟨g, 0, none⟩) ps := by
  intro k hk
  refine ⟨_, rfl, hB, ?_, ?_, ?_⟩
  · exact h (k * 3 + 0) _ (pcells_get ps k 0 _ hk rfl)
  · rw [Go.Deep.add_add]; exact h (k * 3 + 1) _ (pcells_get ps k 1 _ hk rfl)
  · rw [Go.Deep.add_add]; exact h (k * 3 + 2) _ (pcells_get ps k 2 _ hk rfl)
/-- A slice of parts that the call owns. -/
def OwnP (w : World) (B : Nat) (v : Value) (ps : List Pt) : Prop := w.ownsRow B 51 3 v ps.length (pcells ps)
theorem OwnP.parts {w : World} {B : Nat} {v : Value} {ps : List Pt} (h : OwnP w B v ps) : ∃ q cap, v = .slice q ps.length cap ∧ PartsAt w w.heap.size q ps := by
  rcases Nat.eq_zero_or_pos ps.length with h0 | h0
  · have hps : ps = [] := List.length_eq_zero_iff.1 h0
    subst hps
    rcases h.2 with ⟨hv, _⟩ | ⟨g, cap, cur, hv, _⟩
    · exact ⟨none, 0, hv, fun k hk => by simp at hk⟩
    · exact ⟨_, cap, hv, fun k hk => by simp at hk⟩
  · obtain ⟨g, cap, hv, hB, hlt⟩ := World.ownsRow.form h h0
    exact ⟨_, cap, hv, partsAt_of hlt (World.ownsRow.cells h (by rw [hv]; rfl))⟩
theorem OwnP.below {w w' : World} {B : Nat} {v : Value} {ps : List Pt} (h : OwnP w B v ps) (hb : Below w.heap.size w w') : OwnP w' B v ps := by
  refine ⟨h.1, ?_⟩
  rcases h.2 with h0 | ⟨g, cap, cur, rfl, hg, hh, r⟩
  · exact .inl h0
  · exact .inr ⟨g, cap, cur, rfl, hg, by rw [hb.block g (Array.getElem?_eq_some_iff.1 hh).1]; exact hh, r⟩
theorem OwnP.form {w : World} {B : Nat} {v : Value} {ps : List Pt} (h : OwnP w B v ps) : ∃ q cap, v = .slice q ps.length cap := by
  obtain ⟨q, cap, hv, _⟩ := h.parts
  exact ⟨q, cap, hv⟩
theorem OwnP.alloc {w : World} {B : Nat} {v : Value} {ps : List Pt} (h : OwnP w B v ps) (o : Obj) : OwnP (w.alloc o) B v ps := World.ownsRow.alloc h o
theorem hi51 : ∃ i0, Tryd.prog.info? 51 = some i0 ∧ i0.zero = some (.agg #[.string ⟨#[]⟩, .int .u64 0, .bool false]) ∧ i0.size = 3 ∧ i0.bytes = 32 := info_parts (show (Tryd.prog.info? 51).map (fun i => (i.zero, i.size, i.bytes)) = some (some (.agg #[.string ⟨#[]⟩, .int .u64 0, .bool false]), 3, 32) by kernel_rfl)

/-- append(out, part...). -/
theorem wpList_app_parts (w : World) {ops : Array Oper} {rest : List Oper} {o : Oper} {a : Act} {Q : Exit → Act → World → Prop} (hgd : o.guard = none) (s x : Operand)
    (ho : o.op = .call { callee := .builtin .append, args := #[s, x], argTypes := #[22, 22] })
    (B : Nat) (v : Value) (ps : List Pt) (hs : a.eval s = v) (hown : OwnP w B v ps)
    (ad : Addr) (m c : Nat) (qs : List Pt) (hx : a.eval x = .slice (some ad) m c) (hm : qs.length = m) (hc : ∀ j u, (pcells qs)[j]? = some u → w.cell? (ad.add j) = some u)
    (hlen : ps.length + m ≤ 4194304) (hB : B ≤ w.heap.size)
    (h : ∀ v' w', OwnP w' B v' (ps ++ qs) → w.grownBy w' v.ownBlock → wpList Tryd.prog ops Q rest (a.put o.dst v') w') : wpList Tryd.prog ops Q (o :: rest) a w := by
  obtain ⟨i0, hi, hz0, hz1, hz2⟩ := hi51
  refine wpList_append_own w hgd s x 22 ho B 51 i0 _ 3 32 Tryd.underlying22 hi hz0 hz1 hz2 rfl (by decide) v ps.length (pcells ps) hs hown ad m c (pcells qs) hx (by rw [pcells_length, hm]) hc (pcells_one _) (by unfold maxLen; omega) (by omega) hB ?_
  intro v' w' h1 h2 h3
  refine h v' w' ?_ h2
  unfold OwnP
  rw [List.length_append, hm, pcells_append]
  exact h1
theorem news_pt (w : World) (n : Nat) (hn : w.heap.size = n) (p : Pt) : ∀ j u, (pcells [p])[j]? = some u → (w.alloc (.cells #[.string p.t, .int .u64 (p.n : Int), .bool p.b] 51)).cell? ((⟨n, 0, none⟩ : Addr).add j) = some u := by
  subst hn
  intro j u hj
  have hadd : (⟨w.heap.size, 0, none⟩ : Addr).add j = ⟨w.heap.size, j, none⟩ := by unfold Addr.add; split <;> simp_all
  rw [hadd, (Blk.new w 51 _).cell j]
  simpa [pcells, pcell] using hj
theorem drop_head (ps : List Pt) (k : Nat) (h : k < ps.length) : encs (ps.drop k) = enc (ps.getD k default) ++ encs (ps.drop (k + 1)) := by
  rw [drop_at ps k h, encs_cons]
theorem encs_not255 (ps : List Pt) : ∀ r, encs ps ≠ 255 :: r := by
  intro r h
  cases ps with
  | nil => rw [encs_nil] at h; cases h
  | cons p ps =>
    obtain ⟨c, r', h', _, hc⟩ := enc_head p
    rw [encs_cons, h', List.cons_append] at h
    exact hc (List.cons.inj h).1

theorem split_any (ps : List Pt) (s : ByteArray) (w : World) (hs : strOf (encs ps) = s) (h8 : ps.length ≤ 8) (hg : ∀ p ∈ ps, Good p) (hT : sumT ps ≤ 2097152) :
    Calls Tryd.prog 13 #[.string s] w fun e w' => (∃ q cap, e = .returned (.tuple #[.slice q ps.length cap, .int .i64 0]) ∧ PartsAt w' w'.heap.size q ps) ∧ Below w.heap.size w w' := by
  obtain ⟨L, HL⟩ : ∃ L, Hid (ps.length = L) := ⟨_, Lib.hid rfl⟩
  rw [HL.out] at h8 ⊢
  have HG := Lib.hid hg; clear hg
  have HSZ : Hid (∀ k, (encs (ps.drop k)).length ≤ 4194376) := by
    show ∀ k, _
    intro k
    have h1 := encs_length (ps.drop k)
    have h2 : sumT (ps.drop k) ≤ sumT ps := by
      have : sumT ps = sumT (ps.take k) + sumT (ps.drop k) := by
        conv => lhs; rw [← List.take_append_drop k ps]
        unfold sumT
        simp only [List.map_append, List.sum_append]
      omega
    have h3 := HL.out
    rw [List.length_drop] at h1
    omega
  clear hT
  go_enter Tryd.func13, Tryd.ntmps13
  go_wp2
  go_loopw [0, 4] (fun v u wr => ∃ (k : Nat) (s' : ByteArray), k ≤ L ∧ v = .string s' ∧ Hid (strOf (encs (ps.drop k)) = s') ∧ Hid (OwnP wr w.heap.size u (ps.take k)) ∧ Below w.heap.size w wr) (fun v _ _ => strSize v)
  case atStart => exact ⟨0, s, by omega, rfl, hs, by rw [List.take_zero]; exact World.ownsRow_nil _ _ _ _, Below.refl _ _⟩
  case round =>
    obtain ⟨k, s', hk, rfl, HS, HO, hnx⟩ := hrel
    have hszw := hnx.size
    have hss : s'.size ≤ 4194376 := by rw [← HS.out, strOf_size]; exact HSZ.out k
    by_cases hlt : k < L
    · have hkl : k < ps.length := by rw [HL.out]; exact hlt
      have hd := drop_head ps k hkl
      have hgood := HG.out (ps.getD k default) (by rw [List.getD_eq_getElem?_getD, List.getElem?_eq_getElem hkl]; exact List.getElem_mem hkl)
      have htk := take_snoc ps k hkl
      obtain ⟨p, HPT⟩ : ∃ p, Hid (ps.getD k default = p) := ⟨_, Lib.hid rfl⟩
      rw [HPT.out] at hd hgood htk
      have HTK := Lib.hid htk
      have hlow := encs_not255 (ps.drop (k + 1))
      obtain ⟨rest, HRS⟩ : ∃ r, Hid (encs (ps.drop (k + 1)) = r) := ⟨_, Lib.hid rfl⟩
      rw [HRS.out] at hd hlow
      have hol : (ps.take k).length = k := by rw [List.length_take, HL.out]; omega
      have hform := HO.out.form
      rw [hol] at hform
      obtain ⟨q0, cap0, rfl⟩ := hform
      obtain ⟨X, HX⟩ : ∃ X, Hid (strOf rest = X) := ⟨_, Lib.hid rfl⟩
      have hk8 : ((k : Int) == 8) = false := by rw [beq_eq_false_iff_ne]; omega
      have hk8d : ¬ (k : Int) = 8 := by omega
      have n2 : (s'.size : Int) ≤ 4194376 := by omega
      clear htk hkl
      cases hb : p.b with
      | true =>
        have e0 := HS.out
        rw [hd, enc_num p hb, List.cons_append] at e0
        have h1 := strOf_tail [1] (be8 (p.n : Int) ++ rest) s' e0 1 rfl
        have hs0 : 0 < s'.size := by rw [← e0, strOf_size]; simp
        have hb0 : s'[0] = 1 := by subst e0; rfl
        obtain ⟨S1, HS1⟩ : ∃ S, Hid (strOf (be8 (p.n : Int) ++ rest) = S) := ⟨_, Lib.hid rfl⟩
        rw [HS1.out] at h1
        have hS1 : S1.size + 1 = s'.size := by rw [← HS1.out, ← e0, strOf_size, strOf_size]; simp
        have h2 := strOf_tail _ rest S1 HS1.out 8 (be8_length _)
        rw [HX.out] at h2
        have hX8 : X.size + 8 = S1.size := by rw [← HX.out, ← HS1.out, strOf_size, strOf_size, List.length_append, be8_length]; omega
        have hne2 : (s'.toList == []) = false := by
          rw [ByteArray.toList_eq, Bool.eq_false_iff]
          simp only [ne_eq, beq_iff_eq]
          intro h
          have h2 : s'.data.toList.length = s'.size := by simp
          rw [h, List.length_nil] at h2
          omega
        have C1 := Lib.hid (fun w => newReader_any S1 w)
        have C2 := Lib.hid (fun w b (h : IsR w b S1) hB => rU64_any p.n rest b b S1 w hgood.2 h HS1.out (by omega) (Nat.le_refl _) hB)
        have C3 := Lib.hid (fun w b h => rErr_any b X w h)
        rw [HX.out] at C2
        have hpe : p = ⟨⟨#[]⟩, p.n, true⟩ := Pt.ext (hgood.num hb) rfl hb
        obtain ⟨n, hn⟩ : ∃ n, p.n = n := ⟨_, rfl⟩
        rw [hn] at C2 hpe
        have n0 : (0 : Int) ≤ (s'.size : Int) := by omega
        have n1 : (1 : Int) ≤ (s'.size : Int) := by omega
        have n3 : (8 : Int) ≤ (S1.size : Int) := by omega
        have n4 : (S1.size : Int) ≤ 4194376 := by omega
        clear e0 hd hn
        refine hide_post fun R HR => ?_
        go_wp2_with fail
        refine (C1.out _).mono ?_
        rintro e w1 ⟨rfl, hr1, hb1⟩
        have q1 := hb1.size
        go_wp2_with fail
        refine (C2.out _ _ hr1 q1).mono ?_
        rintro e w2 ⟨rfl, hr2, hb2⟩
        go_wp2_with fail
        refine (C3.out _ _ hr2).mono ?_
        rintro e w3 ⟨rfl, rfl⟩
        have hbr := hb1.trans hb2
        have HO3 := Lib.hid (HO.out.below hbr)
        have hnx3 := hnx.trans (hbr.mono hszw)
        clear hr1 hr2 hb1 hb2 hbr
        have HXX : Hid (strOf (encs (ps.drop (k + 1))) = X) := by show _ = _; rw [HRS.out, HX.out]
        have hsz3 := hnx3.size
        go_wp2_with (at_builtin; refine wpList_app_parts _ rfl _ _ rfl w.heap.size _ (ps.take k) rfl (HO3.out.alloc _) ⟨w3.heap.size, 0, none⟩ 1 1 [⟨⟨#[]⟩, n, true⟩] rfl rfl (news_pt w3 _ rfl ⟨⟨#[]⟩, n, true⟩) ?c2 ?c3 ?_)
        case c2 => rw [hol]; omega
        case c3 => first | omega | (simp; omega)
        intro v4 w4 hv4 hg4
        have hnx4 : Below w.heap.size w w4 := (hnx3.alloc hsz3 _).grown hg4 (by simp; omega) (fun j hj => (World.ownsRow.lt HO3.out j hj).1)
        have HO4 : Hid (OwnP w4 w.heap.size v4 (ps.take (k + 1))) := by
          show OwnP _ _ _ _
          rw [HTK.out, hpe]
          exact hv4
        clear hg4 hv4 HO3 HO
        go_wp2
        obtain rfl := HR.out
        go_roundw
        case rel => exact ⟨k + 1, X, hlt, by first | rfl | rw [h2], HXX, HO4, hnx4⟩
        case measure => simp [strSize]; omega
      | false =>
        have e0 := HS.out
        rw [hd, enc_text p hb, List.cons_append, List.append_assoc] at e0
        rw [show esc p.t.data.toList ++ ([0] ++ rest) = esc p.t.data.toList ++ 0 :: rest from rfl] at e0
        have h1 := strOf_tail [2] (esc p.t.data.toList ++ 0 :: rest) s' e0 1 rfl
        have hs0 : 0 < s'.size := by rw [← e0, strOf_size]; simp
        have hb0 : s'[0] = 2 := by subst e0; rfl
        obtain ⟨S1, HS1⟩ : ∃ S, Hid (strOf (esc p.t.data.toList ++ 0 :: rest) = S) := ⟨_, Lib.hid rfl⟩
        rw [HS1.out] at h1
        have hS1 : S1.size + 1 = s'.size := by rw [← HS1.out, ← e0, strOf_size, strOf_size]; simp
        have hX1 : X.size < S1.size := by rw [← HX.out, ← HS1.out, strOf_size, strOf_size, List.length_append]; simp; omega
        have hne2 : (s'.toList == []) = false := by
          rw [ByteArray.toList_eq, Bool.eq_false_iff]
          simp only [ne_eq, beq_iff_eq]
          intro h
          have h2 : s'.data.toList.length = s'.size := by simp
          rw [h, List.length_nil] at h2
          omega
        have C1 := Lib.hid (fun w => text_any p.t.data.toList rest S1 w HS1.out hlow (by omega))
        rw [HX.out, show strOf p.t.data.toList = p.t from rfl] at C1
        have hpe : p = ⟨p.t, 0, false⟩ := Pt.ext rfl (hgood.text hb) hb
        obtain ⟨tt, ht⟩ : ∃ n, p.t = n := ⟨_, rfl⟩
        rw [ht] at C1 hpe
        have n0 : (0 : Int) ≤ (s'.size : Int) := by omega
        have n1 : (1 : Int) ≤ (s'.size : Int) := by omega
        have HXX : Hid (strOf (encs (ps.drop (k + 1))) = X) := by show _ = _; rw [HRS.out, HX.out]
        clear e0 hd ht
        refine hide_post fun R HR => ?_
        go_wp2_with fail
        refine (C1.out _).mono ?_
        rintro e w3 ⟨rfl, hbr⟩
        have HO3 := Lib.hid (HO.out.below hbr)
        have hnx3 := hnx.trans (hbr.mono hszw)
        have hsz3 := hnx3.size
        clear hbr
        go_wp2_with (at_builtin; refine wpList_app_parts _ rfl _ _ rfl w.heap.size _ (ps.take k) rfl (HO3.out.alloc _) ⟨w3.heap.size, 0, none⟩ 1 1 [⟨tt, 0, false⟩] rfl rfl (news_pt w3 _ rfl ⟨tt, 0, false⟩) ?c2 ?c3 ?_)
        case c2 => rw [hol]; omega
        case c3 => first | omega | (simp; omega)
        intro v4 w4 hv4 hg4
        have hnx4 : Below w.heap.size w w4 := (hnx3.alloc hsz3 _).grown hg4 (by simp; omega) (fun j hj => (World.ownsRow.lt HO3.out j hj).1)
        have HO4 : Hid (OwnP w4 w.heap.size v4 (ps.take (k + 1))) := by
          show OwnP _ _ _ _
          rw [HTK.out, hpe]
          exact hv4
        clear hg4 hv4 HO3 HO
        go_wp2
        obtain rfl := HR.out
        go_roundw
        case rel => exact ⟨k + 1, X, hlt, rfl, HXX, HO4, hnx4⟩
        case measure => simp [strSize]; omega
    · obtain rfl : k = L := by omega
      have HTL : Hid (ps.take k = ps) := by show _ = _; rw [← HL.out, List.take_length]
      have hdl : ps.drop k = [] := List.drop_of_length_le (by rw [HL.out]; exact Nat.le_refl _)
      have e0 := HS.out
      rw [hdl, encs_nil, show strOf [] = (⟨#[]⟩ : ByteArray) from rfl] at e0
      subst e0
      rw [HTL.out] at HO
      obtain ⟨q0, cap0, hv, hP⟩ := HO.out.parts
      rw [HL.out] at hv
      subst hv
      have HPP := Lib.hid hP
      clear hP
      refine hide_post fun R HR => ?_
      go_wp2
      obtain rfl := HR.out
      go_ret2
      exact ⟨⟨q0, cap0, rfl, HPP.out⟩, hnx⟩
end Go.Proofs.YtbmgalknlglhaaaDoor
