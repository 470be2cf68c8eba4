/-
  The codec's Key.
-/
import Derived.Test.YtbmgalknlglhaaaDoorN
import Derived.Test.YtbmgalknlglhaaaDoorP
import Derived.Test.YtbmgalknlglhaaaDoorG
import Derived.Test.YtbmgalknlglhaaaDoorShelf
import Derived.Test.YtbmgalknlglhaaaDoorR
namespace Go.Proofs.YtbmgalknlglhaaaDoor
open Go.RowKit
set_option linter.unusedVariables false
set_option maxRecDepth 100000
set_option maxHeartbeats 2000000

theorem addb (a : Addr) (n : Nat) : (a.add n).block = a.block := by unfold Addr.add; split <;> rfl
/-- The parts lie from pa on, below B. -/
def PartsAt (w : World) (B : Nat) (pa : Option Addr) (ps : List Pt) : Prop :=
  ∀ k, k < ps.length → ∃ a, pa = some a ∧ a.block < B ∧ w.cell? (a.add (k * 3)) = some (.string (ps.getD k default).t) ∧
    w.cell? ((a.add (k * 3)).add 1) = some (.int .u64 ((ps.getD k default).n : Int)) ∧ w.cell? ((a.add (k * 3)).add 2) = some (.bool (ps.getD k default).b)
theorem PartsAt.below {w w' : World} {B : Nat} {pa : Option Addr} {ps : List Pt} (h : PartsAt w B pa ps) (hb : Below B w w') : PartsAt w' B pa ps := by
  intro k hk
  obtain ⟨a, h1, h2, h3, h4, h5⟩ := h k hk
  refine ⟨a, h1, h2, ?_, ?_, ?_⟩
  · rw [← h3]; exact World.cell?_of_block (by rw [addb]; exact hb.block _ h2)
  · rw [← h4]; exact World.cell?_of_block (by rw [addb, addb]; exact hb.block _ h2)
  · rw [← h5]; exact World.cell?_of_block (by rw [addb, addb]; exact hb.block _ h2)

theorem builderAt_below {T B b : Nat} {p : Value} {bs : List Value} {w w' : World} (h : Lib.BuilderAt T 5 B b p bs w) (hb : Below w.heap.size w w') : Lib.BuilderAt T 5 B b p bs w' := by
  have hlt := h.lt
  obtain ⟨hB, v, h1, h2, h3⟩ := h
  exact ⟨hB, v, by rw [hb.block b hlt]; exact h1, row_belowW h2 hb, h3⟩
theorem isBuilder_below {T B b : Nat} {bs : List Value} {w w' : World} (h : Lib.IsBuilder T 5 B b bs w) (hb : Below w.heap.size w w') : Lib.IsBuilder T 5 B b bs w' := by
  rcases h with h | h
  · exact .inl (builderAt_below h hb)
  · exact .inr (builderAt_below h hb)
theorem isBuilder_alloc {T B b : Nat} {bs : List Value} {w : World} (h : Lib.IsBuilder T 5 B b bs w) (o : Obj) : Lib.IsBuilder T 5 B b bs (w.alloc o) :=
  isBuilder_below h ((Below.refl _ _).alloc (Nat.le_refl _) _)

theorem U8_one (B b most : Nat) (l : List UInt8) (w : World) (h : IsW w B b most l)
    (hroom : l.length + 1 ≤ most) (hmost : most ≤ 1099511627776) (hBw : B ≤ w.heap.size) :
    Calls Tryd.prog 23 #[.pointer (some ⟨b, 0, none⟩), .int .u8 1] w fun e w' => e = .returned (.tuple #[]) ∧ IsW w' B b most (l ++ [1]) ∧ Below B w w' := U8_any 1 B b most l w h hroom hmost hBw
theorem cells_str (l x : List UInt8) : Lib.byteCells l ++ Lib.strCells (strOf x) = Lib.byteCells (l ++ x) := by
  simp [Lib.byteCells, Lib.strCells, strOf]

theorem key_any (pa : Option Addr) (cap : Nat) (ps : List Pt) (m : Int) (w : World) (hp : PartsAt w w.heap.size pa ps) (hm : w.cell? ⟨0, 0, none⟩ = some (.int .i64 m)) (hT : sumT ps ≤ 2097152) (hl : ps.length ≤ 2097152)
    (hn : ∀ p ∈ ps, p.n < 18446744073709551616) :
    Calls Tryd.prog 7 #[.slice pa ps.length cap] w fun e w' => e = .returned (.tuple #[.string (strOf (keyL ps).1), .int .i64 (keyL ps).2]) ∧ Below w.heap.size w w' := by
  by_cases h8 : 8 < ps.length
  · have hk : keyL ps = ([], 3) := by unfold keyL; rw [if_pos h8]
    rw [hk]
    have e1 : (8 : Int) < (ps.length : Int) := by omega
    go_enter Tryd.func7, Tryd.ntmps7
    go_wp2
    go_ret2
    exact ⟨rfl, Below.refl _ _⟩
  · have hl8 : ps.length ≤ 8 := by omega
    obtain ⟨L, HL⟩ : ∃ L, Hid (ps.length = L) := ⟨_, Lib.hid rfl⟩
    have HP := Lib.hid hp; clear hp
    have HM := Lib.hid hm; clear hm
    have HT := Lib.hid hT; clear hT
    have HN := Lib.hid hn; clear hn
    have HK : Hid (keyL ps = if ps.any bad then ([], 1) else (encs ps, 0)) := by show _ = _; unfold keyL; rw [if_neg h8]
    obtain ⟨K, E, HKE⟩ : ∃ K E, Hid (keyL ps = (K, E)) := ⟨_, _, Lib.hid rfl⟩
    rw [HKE.out] at HK ⊢
    rw [HL.out] at hl8 ⊢
    have l0 : (0 : Int) ≤ (L : Int) := by omega
    have l1 : (L : Int) ≤ 8 := by omega
    have l2 : ¬ (8 : Int) < (L : Int) := by omega
    have hgl : 0 < w.heap.size := World.block_lt_of_cell? _ _ HM.out
    clear h8 hl
    go_enter Tryd.func7, Tryd.ntmps7
    go_wp2
    have hb0 := Lib.fresh_isBuilder 49 5 w
    go_loopw [15] (fun i wr => ∃ (k : Nat), k ≤ L ∧ i = .int .i64 k ∧ Hid ((ps.take k).any bad = false) ∧ Hid (Lib.IsBuilder 49 5 w.heap.size w.heap.size (Lib.byteCells (encs (ps.take k))) wr) ∧ Below w.heap.size w wr) (fun i _ => L - (intOf i).toNat)
    case atStart => exact ⟨0, by omega, rfl, Lib.hid rfl, by unfold encs; exact hb0, (Below.refl _ _).alloc (Nat.le_refl _) _⟩
    case round =>
      clear hb0
      obtain ⟨k, hk, rfl, HA, HB, hnx⟩ := hrel
      have hsz := hnx.size
      by_cases hlt : k < L
      · have hkl : k < ps.length := by rw [HL.out]; exact hlt
        obtain ⟨a, rfl, hab, c0, c1, c2⟩ := HP.out k hkl
        have hbad := any_at ps k hkl
        have htk := Lib.hid (encs_take ps k hkl)
        have hanyk := any_take ps k hkl
        have hTk := Nat.le_trans (sumT_get ps k hkl) HT.out
        have hnk : (ps.getD k default).n < 18446744073709551616 := HN.out _ (by rw [List.getD_eq_getElem?_getD, List.getElem?_eq_getElem hkl]; exact List.getElem_mem hkl)
        have HLEN : Hid ((encs (ps.take k)).length ≤ 4194376) := by
          show _ ≤ _
          have h1 := encs_length (ps.take k)
          have h2 := sumT_take ps k
          have h3 := HT.out
          have h4 := HL.out
          rw [List.length_take] at h1
          omega
        obtain ⟨p, HPT⟩ : ∃ p, Hid (ps.getD k default = p) := ⟨_, Lib.hid rfl⟩
        rw [HPT.out] at c0 c1 c2 hbad htk hanyk hTk hnk
        clear hkl
        have d0 : wr.cell? (a.add (k * 3)) = some (.string p.t) := by rw [← c0]; exact World.cell?_of_block (by rw [addb]; exact hnx.block _ hab)
        have d1 : wr.cell? ⟨(a.add (k * 3)).block, (a.add (k * 3)).off + 1, none⟩ = some (.int .u64 (p.n : Int)) := by rw [← c1]; exact World.cell?_of_block (by show wr.heap[(a.add (k * 3)).block]? = _; rw [addb]; exact hnx.block _ hab)
        have d2 : wr.cell? ⟨(a.add (k * 3)).block, (a.add (k * 3)).off + 2, none⟩ = some (.bool p.b) := by rw [← c2]; exact World.cell?_of_block (by show wr.heap[(a.add (k * 3)).block]? = _; rw [addb]; exact hnx.block _ hab)
        clear c0 c1 c2
        rcases p with ⟨t, n, b⟩
        dsimp only at d0 d1 d2 hTk hnk
        obtain ⟨l, HLL⟩ : ∃ l, Hid (encs (ps.take k) = l) := ⟨_, Lib.hid rfl⟩
        rw [HLL.out] at HB HLEN htk
        have hnx1 : Below w.heap.size w (wr.alloc (.cells #[.string t, .int .u64 (n : Int), .bool b] 51)) := hnx.alloc hsz _
        have hB1 := Lib.hid (isBuilder_alloc HB.out (.cells #[.string t, .int .u64 (n : Int), .bool b] 51))
        have hP1 := Blk.new wr 51 #[.string t, .int .u64 (n : Int), .bool b]
        have n0 : (0 : Int) ≤ (n : Int) := by omega
        have n1 : (n : Int) < 18446744073709551616 := by omega
        cases b with
        | true =>
          by_cases hts : t.size = 0
          · have ht : t = ⟨#[]⟩ := by
              apply ByteArray.ext
              apply Array.eq_empty_of_size_eq_zero
              exact hts
            subst ht
            have HNB : Hid ((ps.take (k + 1)).any bad = false) := by
              show _ = _
              rw [hanyk, HA.out]
              rfl
            rw [enc_num _ rfl] at htk
            clear hbad hanyk
            obtain ⟨w1, HW1⟩ : ∃ W, Hid (wr.alloc (.cells #[.string ⟨#[]⟩, .int .u64 (n : Int), .bool true] 51) = W) := ⟨_, Lib.hid rfl⟩
            have hsz1 : wr.heap.size < w1.heap.size := by rw [← HW1.out]; simp
            have CN := Lib.hid (newWriter_any 9 w1 (by decide))
            obtain ⟨g, HG⟩ : ∃ g, Hid (w1.heap.size = g) := ⟨_, Lib.hid rfl⟩
            rw [HW1.out] at hnx1 hB1 hP1
            rw [HG.out] at CN hsz1
            have hBg : w.heap.size ≤ g := by omega
            refine hide_post fun R HR => ?_
            go_wp2_with fail
            rw [HW1.out]
            refine CN.out.mono ?_
            rintro e w2 ⟨rfl, hw2, hb2⟩
            have q2 : g ≤ w2.heap.size := by have := hb2.size; have := HG.out; omega
            go_wp2_with fail
            refine (U8_one g g 9 [] w2 hw2 (by decide) (by decide) q2).mono ?_
            rintro e w3 ⟨rfl, hw3, hb3⟩
            have q3 : g ≤ w3.heap.size := Nat.le_trans q2 hb3.size
            have hP3 := (hP1.below hb2 hsz1).below hb3 hsz1
            have c1 := hP3.cell 1
            simp only [List.getElem?_toArray, List.getElem?_cons_succ, List.getElem?_cons_zero] at c1
            go_wp2_with fail
            refine (U64_any (n : Int) g g 9 ([] ++ [1]) w3 n0 n1 hw3 (by decide) (by decide) q3).mono ?_
            rintro e w4 ⟨rfl, hw4, hb4⟩
            have hb14 : Below w1.heap.size w1 w4 := by rw [HG.out]; exact (hb2.trans hb3).trans hb4
            have hB4 := Lib.hid (isBuilder_below hB1.out hb14)
            have hnx4 : Below w.heap.size w w4 := hnx1.trans (hb14.mono (by rw [HG.out]; exact hBg))
            have hD := Lib.hid (wDone_any g g 9 ([] ++ [1] ++ be8 (n : Int)) w4 hw4)
            obtain ⟨S, HS⟩ : ∃ S, Hid (strOf ([] ++ [1] ++ be8 (n : Int)) = S) := ⟨_, Lib.hid rfl⟩
            have hSs : S.size = 9 := by rw [← HS.out, strOf_size]; simp [be8_length]
            rw [HS.out] at hD
            clear hP1 hP3 c1 hw2 hw3 hw4 hb2 hb3 hb4 hb14
            go_wp2_with fail
            refine hD.out.mono ?_
            rintro e w5 ⟨rfl, rfl⟩
            have hWS := Lib.hid (WriteString_any w.heap.size w.heap.size (Lib.byteCells l) S w5 hB4.out (by have := HLEN.out; simp [Lib.byteCells]; omega) hnx4.size)
            go_wp2_with fail
            refine hWS.out.mono ?_
            rintro e w6 ⟨rfl, hB6, hb6⟩
            have hB7 : Hid (Lib.IsBuilder 49 5 w.heap.size w.heap.size (Lib.byteCells (encs (ps.take (k + 1)))) w6) := by
              show Lib.IsBuilder _ _ _ _ _ _
              rw [htk.out]
              rw [← HS.out, cells_str] at hB6
              exact .inr hB6
            clear hB6
            go_wp2
            obtain rfl := HR.out
            go_roundw
            case rel => exact ⟨k + 1, hlt, by go_num, HNB, hB7, hnx4.trans hb6⟩
            case measure => simp [intOf]; omega
          · have HKB : Hid ((([] : List UInt8), (1 : Int)) = (K, E)) := by
              show _ = _
              rw [HK.out, hbad (by simp [bad, hts]), if_pos rfl]
            obtain ⟨rfl, rfl⟩ : [] = K ∧ (1 : Int) = E := by simpa using HKB.out
            have hne2 : (t.toList == []) = false := by
              rw [ByteArray.toList_eq, Bool.eq_false_iff]
              simp only [ne_eq, beq_iff_eq]
              intro h
              exact hts (by have := congrArg List.length h; simpa using this)
            clear hbad hanyk HKB hts
            refine hide_post fun R HR => ?_
            go_wp2
            obtain rfl := HR.out
            go_ret2
            exact ⟨rfl, hnx1⟩
        | false =>
          by_cases hnz : n = 0
          · subst hnz
            have HNB : Hid ((ps.take (k + 1)).any bad = false) := by
              show _ = _
              rw [hanyk, HA.out]
              rfl
            rw [enc_text _ rfl] at htk
            have HNEW : Hid (∀ p v, (wr.alloc (.cells #[.string t, .int .u64 ((0 : Nat) : Int), .bool false] 51)).heap[w.heap.size]? = some (.cells #[p, v] 49 (0, 0)) → v.ownBlock ≠ some wr.heap.size) := by
              show ∀ p v, _
              intro p v hpv e
              have hBlt : w.heap.size < wr.heap.size := by
                rcases HB.out with h | h
                · exact h.lt
                · exact h.lt
              rw [Lib.alloc_old wr _ _ hBlt] at hpv
              have key : ∀ q, Lib.BuilderAt 49 5 w.heap.size w.heap.size q (Lib.byteCells l) wr → False := by
                rintro q ⟨_, v', hb', hown', _⟩
                rw [hpv] at hb'
                obtain ⟨_, hvv⟩ : p = q ∧ v = v' := by simpa using hb'
                subst hvv
                have := (hown'.lt _ e).2
                omega
              rcases HB.out with h | h
              · exact key _ h
              · exact key _ h
            obtain ⟨w1, HW1⟩ : ∃ W, Hid (wr.alloc (.cells #[.string t, .int .u64 ((0 : Nat) : Int), .bool false] 51) = W) := ⟨_, Lib.hid rfl⟩
            have hsz1 : wr.heap.size < w1.heap.size := by rw [← HW1.out]; simp
            rw [HW1.out] at hnx1 hB1 hP1 HNEW
            have hBne : wr.heap.size ≠ w.heap.size := by
              have : w.heap.size < wr.heap.size := by
                rcases HB.out with h | h
                · exact h.lt
                · exact h.lt
              omega
            have hW1 := Lib.hid (WriteByte_far w.heap.size w.heap.size (Lib.byteCells l) 2 w1 hB1.out (by have := HLEN.out; simp [Lib.byteCells]; omega) hnx1.size wr.heap.size hsz1 hBne HNEW.out)
            have HWW : Hid (wr.alloc (.cells #[.string t, .int .u64 0, .bool false] 51) = w1) := HW1.out
            have hRA := Lib.hid (fun w2 (h : w2.cell? ⟨0, 0, none⟩ = some (.int .i64 m)) => Tryd.strings_ReplaceAll t ⟨#[0]⟩ ⟨#[0, 255]⟩ m w2 (by omega) h (by decide) (by
              have := Lib.countB_mul_le ⟨#[0]⟩ (by decide) t.size t (Nat.le_refl _)
              rw [show (⟨#[0]⟩ : ByteArray).size = 1 from rfl] at this
              rw [show (⟨#[0, 255]⟩ : ByteArray).size = 2 from rfl]
              omega))
            rw [show (⟨#[0]⟩ : ByteArray).data.toList = [0] from rfl, show (⟨#[0, 255]⟩ : ByteArray).data.toList = [0, 255] from rfl, replaceAll_esc] at hRA
            obtain ⟨S, HS⟩ : ∃ S, Hid ((⟨(esc t.data.toList).toArray⟩ : ByteArray) = S) := ⟨_, Lib.hid rfl⟩
            have hSs : S.size ≤ 4194304 := by
              have h1 := (esc_length t.data.toList).2
              have h2 : S.size = (esc t.data.toList).length := by rw [← HS.out]; exact strOf_size _
              have h3 : t.data.toList.length = t.size := by simp
              omega
            rw [HS.out] at hRA
            clear hbad hanyk HNEW HW1
            refine hide_post fun R HR => ?_
            go_wp2_with fail
            rw [HWW.out]
            refine hW1.out.mono ?_
            rintro e w2 ⟨rfl, hB2, hb2, hk2⟩
            have hnx2 : Below w.heap.size w w2 := hnx1.trans hb2
            have hP2 : Blk w2 wr.heap.size 51 _ := hk2.trans hP1
            have c0 := hP2.cell 0
            simp only [List.getElem?_toArray, List.getElem?_cons_zero] at c0
            have HM2 : Hid (w2.cell? ⟨0, 0, none⟩ = some (.int .i64 m)) := by
              show _ = _
              rw [← HM.out]
              exact World.cell?_of_block (hnx2.block 0 hgl)
            have HB2 := Lib.hid hB2
            clear hB2 hk2 hP2 hP1
            go_wp2_with fail
            refine (hRA.out _ HM2.out).mono ?_
            rintro e w3 ⟨rfl, hb3⟩
            have HB3 := Lib.hid (builderAt_below HB2.out hb3)
            have hnx3 : Below w.heap.size w w3 := hnx2.trans (hb3.mono hnx2.size)
            have hWS := Lib.hid (WriteString_any w.heap.size w.heap.size (Lib.byteCells l ++ [.int .u8 2]) S w3 (.inr HB3.out) (by have := HLEN.out; simp [Lib.byteCells]; omega) hnx3.size)
            go_wp2_with fail
            refine hWS.out.mono ?_
            rintro e w4 ⟨rfl, hB4, hb4⟩
            have hnx4 : Below w.heap.size w w4 := hnx3.trans hb4
            have hWZ := Lib.hid (WriteString_any w.heap.size w.heap.size _ ⟨#[0]⟩ w4 (.inr hB4) (by have := HLEN.out; rw [List.length_append, Lib.strCells_length]; simp [Lib.byteCells]; show _ + (1 : Nat) ≤ _; omega) hnx4.size)
            go_wp2_with fail
            refine hWZ.out.mono ?_
            rintro e w5 ⟨rfl, hB5, hb5⟩
            have hB6 : Hid (Lib.IsBuilder 49 5 w.heap.size w.heap.size (Lib.byteCells (encs (ps.take (k + 1)))) w5) := by
              show Lib.IsBuilder _ _ _ _ _ _
              rw [htk.out]
              refine .inr ?_
              rw [← HS.out] at hB5
              simpa [Lib.byteCells, Lib.strCells] using hB5
            clear hB5 hB4
            go_wp2
            obtain rfl := HR.out
            go_roundw
            case rel => exact ⟨k + 1, hlt, by go_num, HNB, hB6, hnx4.trans hb5⟩
            case measure => simp [intOf]; omega
          · have HKB : Hid ((([] : List UInt8), (1 : Int)) = (K, E)) := by
              show _ = _
              rw [HK.out, hbad (by simp [bad, hnz]), if_pos rfl]
            obtain ⟨rfl, rfl⟩ : [] = K ∧ (1 : Int) = E := by simpa using HKB.out
            have hnzI : ((n : Int) != 0) = true := by rw [bne_iff_ne]; omega
            have hnzD : decide ((n : Int) = 0) = false := by rw [decide_eq_false_iff_not]; omega
            clear hbad hanyk HKB
            refine hide_post fun R HR => ?_
            go_wp2
            obtain rfl := HR.out
            go_ret2
            exact ⟨rfl, hnx1⟩
      · obtain rfl : k = L := by omega
        have HTL : Hid (ps.take k = ps) := by show _ = _; rw [← HL.out, List.take_length]
        rw [HTL.out] at HA HB
        have HS := Lib.hid (Tryd.Builder_String_any w.heap.size w.heap.size (encs ps) wr HB.out hsz)
        rw [HA.out] at HK
        have HE : Hid ((encs ps, (0 : Int)) = (K, E)) := HK.out.symm
        obtain ⟨rfl, rfl⟩ : encs ps = K ∧ (0 : Int) = E := by simpa using HE.out
        refine hide_post fun R HR => ?_
        go_wp2_with fail
        refine HS.out.mono ?_
        rintro e w3 ⟨rfl, hb3⟩
        go_wp2
        obtain rfl := HR.out
        go_ret2
        exact ⟨rfl, hnx.trans hb3⟩
end Go.Proofs.YtbmgalknlglhaaaDoor
