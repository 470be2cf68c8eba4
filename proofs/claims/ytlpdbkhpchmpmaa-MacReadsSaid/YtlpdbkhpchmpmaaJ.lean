/-
  A Hasher in memory, and what Write does to it.
-/
import Derived.Test.YtlpdbkhpchmpmaaI
import Derived.Test.YtlpdbkhpchmpmaaE
namespace Go.Proofs.Ytlpdbkhpchmpmaa
open Go.RowKit
set_option linter.unusedVariables false

/-! ### the cells of a Hasher -/
def hrest (rs : List UInt8) (n all : Nat) : Array Value := (bcells rs ++ [Value.int .i64 n, Value.int .i64 all, Value.bool true]).toArray
def hcells (st : List Int) (rs : List UInt8) (n all : Nat) : Array Value := words st ++ hrest rs n all
theorem hcells_list (st : List Int) (rs : List UInt8) (n all : Nat) : (hcells st rs n all).toList = st.map (Value.int .u32) ++ (bcells rs ++ [Value.int .i64 n, Value.int .i64 all, Value.bool true]) := by
  simp [hcells, hrest, words]
theorem hcells_size (st : List Int) (rs : List UInt8) (n all : Nat) (hs : st.length = 8) (hr : rs.length = 64) : (hcells st rs n all).size = 75 := by
  simp [hcells, hrest, words, bcells_length, hs, hr]
theorem hcells_at (st : List Int) (rs : List UInt8) (n all : Nat) (hs : st.length = 8) (hr : rs.length = 64) (i : Nat) (v : Value) (h : [Value.int .i64 n, Value.int .i64 all, Value.bool true][i]? = some v) : (hcells st rs n all)[72 + i]? = some v := by
  rw [← Array.getElem?_toList, hcells_list, List.getElem?_append_right (by simp [hs]; omega), List.getElem?_append_right (by rw [bcells_length]; simp [hs, hr]; omega), bcells_length, hr]
  simp only [List.length_map, hs]
  rw [show 72 + i - 8 - 64 = i by omega]
  exact h
theorem hcells_n (st : List Int) (rs : List UInt8) (n all : Nat) (hs : st.length = 8) (hr : rs.length = 64) : (hcells st rs n all)[72]? = some (.int .i64 n) := hcells_at st rs n all hs hr 0 _ rfl
theorem hcells_all (st : List Int) (rs : List UInt8) (n all : Nat) (hs : st.length = 8) (hr : rs.length = 64) : (hcells st rs n all)[73]? = some (.int .i64 all) := hcells_at st rs n all hs hr 1 _ rfl
theorem hcells_made (st : List Int) (rs : List UInt8) (n all : Nat) (hs : st.length = 8) (hr : rs.length = 64) : (hcells st rs n all)[74]? = some (.bool true) := hcells_at st rs n all hs hr 2 _ rfl
theorem hcells_set_n (st : List Int) (rs : List UInt8) (n m all : Nat) (hs : st.length = 8) (hr : rs.length = 64) : (hcells st rs n all).setIfInBounds 72 (.int .i64 m) = hcells st rs m all := by
  apply Array.toList_inj.1
  rw [Array.toList_setIfInBounds, hcells_list, hcells_list, List.set_append_right _ _ (by simp [hs]), List.set_append_right _ _ (by rw [bcells_length]; simp [hs, hr]), bcells_length, hr]
  simp [hs]
theorem hcells_set_all (st : List Int) (rs : List UInt8) (n all m : Nat) (hs : st.length = 8) (hr : rs.length = 64) : (hcells st rs n all).setIfInBounds 73 (.int .i64 m) = hcells st rs n m := by
  apply Array.toList_inj.1
  rw [Array.toList_setIfInBounds, hcells_list, hcells_list, List.set_append_right _ _ (by simp [hs]), List.set_append_right _ _ (by rw [bcells_length]; simp [hs, hr]), bcells_length, hr]
  simp [hs]
theorem hcells_rest (st : List Int) (rs : List UInt8) (n all : Nat) (hs : st.length = 8) (hr : rs.length = 64) (j : Nat) (hj : j < 64) : (hcells st rs n all)[8 + j]? = some (.int .u8 ((rs.getD j 0).toNat : Int)) := by
  rw [← Array.getElem?_toList, hcells_list, List.getElem?_append_right (by simp [hs]), List.getElem?_append_left (by rw [bcells_length]; simp [hs, hr]; omega)]
  simp only [List.length_map, hs]
  rw [show 8 + j - 8 = j by omega]
  exact bcells_get rs j (by omega)
theorem hcells_one (st : List Int) (rs : List UInt8) (n all : Nat) : (hcells st rs n all).all (·.oneCell') = true := by
  rw [← Array.all_toList, hcells_list]
  simp [bcells, Value.oneCell']
/-- Bytes laid into the room from place n on. -/
theorem hcells_put (st : List Int) (rs ys : List UInt8) (n all : Nat) (hs : st.length = 8) (hr : rs.length = 64) (m : Nat) (hm : m + ys.length ≤ 64) :
    ((hcells st rs n all).toList.take (8 + m) ++ Lib.byteCells ys ++ (hcells st rs n all).toList.drop (8 + m + ys.length)).toArray = hcells st (rs.take m ++ ys ++ rs.drop (m + ys.length)) n all := by
  apply Array.toList_inj.1
  rw [hcells_list, hcells_list]
  have h8 : (st.map (Value.int .u32)).length = 8 := by simp [hs]
  have hb : (bcells rs).length = 64 := by rw [bcells_length, hr]
  rw [List.take_append, List.drop_append, h8, List.take_of_length_le (by rw [h8]; omega), List.drop_of_length_le (by rw [h8]; omega)]
  rw [show 8 + m - 8 = m by omega, show 8 + m + ys.length - 8 = m + ys.length by omega]
  rw [List.take_append_of_le_length (by omega), List.drop_append_of_le_length (by omega)]
  simp [bcells, Lib.byteCells, List.map_take, List.map_drop]

/-- The Hasher in block g has the bytes l behind it, and says that all of them are so many. -/
def HB (w : World) (g : Nat) (l : List UInt8) (all : Nat) : Prop := ∃ rs, Rest l rs ∧ Blk w g 53 (hcells (stN l (l.length / 64)) rs (l.length % 64) all)
/-- The Hasher in block g has the bytes l behind it. -/
def IsH (w : World) (g : Nat) (l : List UInt8) : Prop := HB w g l l.length
theorem HB.lt {w : World} {g : Nat} {l : List UInt8} {all : Nat} (h : HB w g l all) : g < w.heap.size := by
  obtain ⟨rs, _, hb⟩ := h
  exact hb.lt
theorem HB.below {w w' : World} {g B : Nat} {l : List UInt8} {all : Nat} (h : HB w g l all) (hb : Below B w w') (hg : g < B) : HB w' g l all := by
  obtain ⟨rs, h1, h2⟩ := h
  exact ⟨rs, h1, h2.below hb hg⟩
theorem HB.grown {w w' : World} {g : Nat} {l : List UInt8} {all : Nat} (h : HB w g l all) {row : Option Nat} (hb : w.grownBy w' row) (hg : some g ≠ row) : HB w' g l all := by
  obtain ⟨rs, h1, h2⟩ := h
  exact ⟨rs, h1, h2.grown hb hg⟩
theorem grown_grown {a b c : World} {row : Option Nat} (h : a.grownBy b row) (k : b.grownBy c row) : a.grownBy c row :=
  ⟨k.os.trans h.os, k.tape.trans h.tape, k.output.trans h.output, Nat.le_trans h.size k.size, fun i hi hn => (k.block i (Nat.lt_of_lt_of_le hi h.size) hn).trans (h.block i hi hn)⟩
theorem grown_setRow_same {a w : World} {g : Nat} (h : a.grownBy w (some g)) (cs : Array Value) : a.grownBy (w.setRow g cs) (some g) :=
  ⟨h.os, h.tape, h.output, by simpa using h.size, fun k hk hn => (setRow_other w g k cs (fun e => hn (by rw [e]))).trans (h.block k hk hn)⟩

/-! ### start, Len, Fork, New -/
set_option maxRecDepth 100000 in
theorem start_any (g : Nat) (w : World) (h : w.cell? ⟨g, 74, none⟩ = some (.bool true)) :
    Calls Try.prog 37 #[.pointer (some ⟨g, 0, none⟩)] w fun e w' => e = .returned (.tuple #[]) ∧ w = w' := by
  go_enter Try.func37, Try.ntmps37
  go_wp2
  go_end0
  exact ⟨rfl, rfl⟩

/-! ### copy of a text's first bytes -/
theorem run_copy_min {P : Program} (w : World) (dT sT ty elem : TypeId) (g o dLen dCap : Nat) (s : ByteArray) (cur : Array Value) (t : TypeId)
    (hu : P.underlying dT = some (.slice elem)) (hs : (P.info? elem).map (·.size) = some 1) (hg : w.heap[g]? = some (.cells cur t (0, 0))) (k : Nat) (hk : k = Nat.min s.size dLen) (hfit : o + k ≤ cur.size) :
    (Builtin.copy_ #[dT, sT] ty #[.slice (some ⟨g, o, none⟩) dLen dCap, .string s]).run P w =
      .ok (goInt k) (w.setRow g (cur.toList.take o ++ Lib.byteCells (s.data.toList.take k) ++ cur.toList.drop (o + k)).toArray) := by
  have hle : k ≤ s.data.toList.length := by
    have : s.data.toList.length = s.size := by simp
    rw [this, hk]
    exact Nat.min_le_left _ _
  have hlen : (Lib.byteCells (s.data.toList.take k)).length = k := by simp only [Lib.byteCells, List.length_map, List.length_take]; omega
  have hst := run_storeCells_at P g o t (Lib.byteCells (s.data.toList.take k)) 0 cur w hg (by rw [hlen]; simpa using hfit) (Lib.byteCells_one _)
  have htk : List.take k (List.map (fun b : UInt8 => Value.int IntKind.u8 (b.toNat : Int)) s.data.toList) = Lib.byteCells (s.data.toList.take k) := by
    rw [← List.map_take]
    rfl
  rw [hlen] at hst
  simp only [Nat.add_zero] at hst
  cases hq : P.info? elem with
  | none => simp [hq] at hs
  | some i =>
    simp [Builtin.copy_, run_underlying hu, Builtin.lenOf, Builtin.firstCells, sizeOf, typeInfo, hq, ← hk]
    rw [htk, hst]
    simp [Result.andThen]
end Go.Proofs.Ytlpdbkhpchmpmaa
