/-
  sameParts; the reference's Below.
-/
import Derived.Test.YtbmgalknlglhaaaDoorK
import Derived.Laws.StructEq
namespace Go.Proofs.YtbmgalknlglhaaaDoor
open Go.RowKit
set_option linter.unusedVariables false
set_option maxRecDepth 100000
set_option maxHeartbeats 2000000

def ptV (p : Pt) : Value := .agg #[.string p.t, .int .u64 (p.n : Int), .bool p.b]
def samePt (p q : Pt) : Bool := (p.t.toList == q.t.toList) && ((p.n : Int) == (q.n : Int)) && (p.b == q.b)
theorem samePt_iff (p q : Pt) : samePt p q = true ↔ p = q := by
  unfold samePt
  simp only [Bool.and_eq_true, beq_iff_eq, ByteArray.toList_eq]
  constructor
  · rintro ⟨⟨h1, h2⟩, h3⟩
    exact Pt.ext (ByteArray.ext (Array.toList_inj.1 h1)) (by omega) h3
  · rintro rfl
    exact ⟨⟨rfl, rfl⟩, rfl⟩
theorem equal51 (p q : Pt) (w : World) : (Op.equalIn 10000 51 (ptV p) (ptV q)).run Tryd.prog w = .ok (samePt p q) w := by
  unfold ptV
  rw [show (10000 : Nat) = 9999 + 1 from rfl, run_equalIn_agg _ _ _ _ _ (by kernel_rfl) (by kernel_rfl)]
  rw [show (Tryd.prog.fieldsOf 51).toList = [{ name := "Text", type := 9, offset := 0, embedded := false, tag := "", pkgPath := "", byteOffset := 0 }, { name := "Num", type := 38, offset := 1, embedded := false, tag := "", pkgPath := "", byteOffset := 16 }, { name := "IsNum", type := 4, offset := 2, embedded := false, tag := "", pkgPath := "", byteOffset := 24 }] from by kernel_rfl]
  have h9 := Tryd.underlying9
  have h38 := Tryd.underlying38
  have h4 := Tryd.underlying4
  have e0 : ∀ w : World, (part 9 #[.string p.t, .int .u64 (p.n : Int), .bool p.b] 0).run Tryd.prog w = .ok (.string p.t) w := fun w => by kernel_rfl
  have e1 : ∀ w : World, (part 38 #[.string p.t, .int .u64 (p.n : Int), .bool p.b] 1).run Tryd.prog w = .ok (.int .u64 (p.n : Int)) w := fun w => by kernel_rfl
  have e2 : ∀ w : World, (part 4 #[.string p.t, .int .u64 (p.n : Int), .bool p.b] 2).run Tryd.prog w = .ok (.bool p.b) w := fun w => by kernel_rfl
  have f0 : ∀ w : World, (part 9 #[.string q.t, .int .u64 (q.n : Int), .bool q.b] 0).run Tryd.prog w = .ok (.string q.t) w := fun w => by kernel_rfl
  have f1 : ∀ w : World, (part 38 #[.string q.t, .int .u64 (q.n : Int), .bool q.b] 1).run Tryd.prog w = .ok (.int .u64 (q.n : Int)) w := fun w => by kernel_rfl
  have f2 : ∀ w : World, (part 4 #[.string q.t, .int .u64 (q.n : Int), .bool q.b] 2).run Tryd.prog w = .ok (.bool q.b) w := fun w => by kernel_rfl
  have s0 : ∀ w : World, (Op.equalIn 9999 9 (.string p.t) (.string q.t)).run Tryd.prog w = .ok (p.t.toList == q.t.toList) w := fun w => run_equalIn_string w 9998 _ _ _ h9
  have s1 : ∀ w : World, (Op.equalIn 9999 38 (.int .u64 (p.n : Int)) (.int .u64 (q.n : Int))).run Tryd.prog w = .ok ((p.n : Int) == (q.n : Int)) w := fun w => run_equalIn_int w 9998 _ _ _ _ _ h38
  have s2 : ∀ w : World, (Op.equalIn 9999 4 (.bool p.b) (.bool q.b)).run Tryd.prog w = .ok (p.b == q.b) w := fun w => run_equalIn_bool' w 9998 _ _ _ h4
  unfold samePt
  simp only [s0, s1, s2, Op.eqFields, ne_eq, Sem.run_bind, Sem.run_ite, e0, e1, e2, f0, f1, f2, Result.andThen_ok]
  cases h1 : (p.t.toList == q.t.toList) <;> cases h2 : ((p.n : Int) == (q.n : Int)) <;> cases h3 : (p.b == q.b) <;> simp
theorem eql51 (p q : Pt) (w : World) : (binOp .eql 51 (ptV p) (ptV q)).run Tryd.prog w = .ok (.bool (samePt p q)) w := by
  have h := equal51 p q w
  unfold ptV at h ⊢
  rw [run_eql_struct, h]
  rfl
theorem neq51 (p q : Pt) (w : World) : (binOp .neq 51 (ptV p) (ptV q)).run Tryd.prog w = .ok (.bool (!samePt p q)) w := by
  have h := equal51 p q w
  unfold ptV at h ⊢
  rw [run_neq_struct, h]
  rfl

theorem PartsAt.get {w : World} {B : Nat} {pa : Option Addr} {ps : List Pt} (h : PartsAt w B pa ps) (k : Nat) (hk : k < ps.length) (p : Pt) (hp : ps.getD k default = p) : ∃ a, pa = some a ∧ a.block < B ∧ w.cell? (a.add (k * 3)) = some (.string p.t) ∧
    w.cell? ⟨(a.add (k * 3)).block, (a.add (k * 3)).off + 1, none⟩ = some (.int .u64 (p.n : Int)) ∧ w.cell? ⟨(a.add (k * 3)).block, (a.add (k * 3)).off + 2, none⟩ = some (.bool p.b) := by
  subst hp
  obtain ⟨a, h1, h2, h3, h4, h5⟩ := h k hk
  exact ⟨a, h1, h2, h3, by rw [← h4]; rfl, by rw [← h5]; rfl⟩

theorem sameParts_any (pa pb : Option Addr) (ca cb : Nat) (ps qs : List Pt) (w : World) (hp : PartsAt w w.heap.size pa ps) (hq : PartsAt w w.heap.size pb qs) (hl : ps.length ≤ 2097152) (hl' : qs.length ≤ 2097152) :
    Calls Tryd.prog 10 #[.slice pa ps.length ca, .slice pb qs.length cb] w fun e w' => (∃ r : Bool, e = .returned (.bool r) ∧ (r = true ↔ ps = qs)) ∧ Below w.heap.size w w' := by
  obtain ⟨L, HL⟩ : ∃ L, Hid (ps.length = L) := ⟨_, Lib.hid rfl⟩
  obtain ⟨M, HM⟩ : ∃ L, Hid (qs.length = L) := ⟨_, Lib.hid rfl⟩
  have HP := Lib.hid hp; clear hp
  have HQ := Lib.hid hq; clear hq
  rw [HL.out] at hl ⊢
  rw [HM.out] at hl' ⊢
  by_cases hLM : L = M
  · subst hLM
    have l0 : (0 : Int) ≤ (L : Int) := by omega
    have l1 : (L : Int) ≤ 2097152 := by omega
    go_enter Tryd.func10, Tryd.ntmps10
    go_wp2
    go_loopw [5, 13] (fun _ i wr => ∃ (k : Nat), k ≤ L ∧ i = .int .i64 k ∧ Hid (ps.take k = qs.take k) ∧ Below w.heap.size w wr) (fun _ i _ => L - (intOf i).toNat)
    case atStart => exact ⟨0, by omega, rfl, Lib.hid rfl, Below.refl _ _⟩
    case round =>
      obtain ⟨k, hk, rfl, HTK, hnx⟩ := hrel
      by_cases hlt : k < L
      · obtain ⟨p, HPT⟩ : ∃ p, Hid (ps.getD k default = p) := ⟨_, Lib.hid rfl⟩
        obtain ⟨q, HQT⟩ : ∃ p, Hid (qs.getD k default = p) := ⟨_, Lib.hid rfl⟩
        obtain ⟨a, rfl, hab, c0, c1, c2⟩ := (HP.out.below hnx).get k (by rw [HL.out]; exact hlt) p HPT.out
        obtain ⟨b, rfl, hbb, d0, d1, d2⟩ := (HQ.out.below hnx).get k (by rw [HM.out]; exact hlt) q HQT.out
        have hneq : ∀ w : World, (binOp .neq 51 (.agg #[.string p.t, .int .u64 (p.n : Int), .bool p.b]) (.agg #[.string q.t, .int .u64 (q.n : Int), .bool q.b])).run Tryd.prog w = .ok (.bool (!samePt p q)) w := fun w => neq51 p q w
        have e1 := take_snoc ps k (by rw [HL.out]; exact hlt)
        have e2 := take_snoc qs k (by rw [HM.out]; exact hlt)
        rw [HPT.out] at e1
        rw [HQT.out] at e2
        cases hs : samePt p q with
        | true =>
          have hpq := (samePt_iff p q).1 hs
          have HNX : Hid (ps.take (k + 1) = qs.take (k + 1)) := by show _ = _; rw [e1, e2, HTK.out, hpq]
          rw [hs] at hneq
          clear e1 e2 hpq hs
          refine hide_post fun R HR => ?_
          go_wp2
          go_quiet (fail)
          go_wp2
          obtain rfl := HR.out
          go_roundw
          case rel => exact ⟨k + 1, hlt, by go_num, HNX, below_drewN hnx nq⟩
          case measure => simp [intOf]; omega
        | false =>
          have HNX : Hid (ps ≠ qs) := by
            show _ ≠ _
            intro e
            rw [← HPT.out, ← HQT.out, e, (samePt_iff _ _).2 rfl] at hs
            cases hs
          rw [hs] at hneq
          clear e1 e2 hs
          refine hide_post fun R HR => ?_
          go_wp2
          go_quiet (fail)
          go_wp2
          obtain rfl := HR.out
          go_ret
          exact ⟨⟨false, rfl, by simp [HNX.out]⟩, below_drewN hnx nq⟩
      · obtain rfl : k = L := by omega
        have HEQ : Hid (ps = qs) := by
          show _ = _
          have := HTK.out
          rw [List.take_of_length_le (by rw [HL.out]; exact Nat.le_refl _), List.take_of_length_le (by rw [HM.out]; exact Nat.le_refl _)] at this
          exact this
        refine hide_post fun R HR => ?_
        go_wp2
        obtain rfl := HR.out
        go_ret
        exact ⟨⟨true, rfl, by simp [HEQ.out]⟩, hnx⟩
  · have l0 : (0 : Int) ≤ (L : Int) := by omega
    have l1 : (L : Int) ≤ 2097152 := by omega
    have l2 : (0 : Int) ≤ (M : Int) := by omega
    have l3 : (M : Int) ≤ 2097152 := by omega
    have HNX : Hid (ps ≠ qs) := by
      show _ ≠ _
      intro e
      have h1 := HL.out
      rw [e, HM.out] at h1
      omega
    have hne : ((L : Int) != (M : Int)) = true := by rw [bne_iff_ne]; omega
    have hned : ((L : Int) == (M : Int)) = false := by rw [beq_eq_false_iff_ne]; omega
    have hnee : ¬ (L : Int) = (M : Int) := by omega
    clear hLM
    go_enter Tryd.func10, Tryd.ntmps10
    go_wp2
    go_ret
    exact ⟨⟨false, rfl, by simp [HNX.out]⟩, Below.refl _ _⟩
end Go.Proofs.YtbmgalknlglhaaaDoor
