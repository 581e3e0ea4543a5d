/-
  slices.Insert, the parts that no program names: a copy into a row of the call's own, what the row then holds. Conditions: none.
-/
import Derived.Test.YtfbfapobmhfenaaDelA
import Derived.Test.YtfbfapobmhfenaaTreeB
import Derived.Lib.Overlaps
import Derived.Lib.AppendZerosOnto
import Derived.Laws.CopyRow
import Derived.Laws.CopyOwn
import Derived.Shelf.Spec.SlicesInsert
namespace Go.Proofs.Ytfbfapobmhfenaa
open Go.ChangeShapes Go.WideShapes Go.ChangeAt Go.RowKit Go.Shelf
set_option maxRecDepth 100000

/-- A row with new cells from o on. -/
def putAt (cur : Array Value) (o : Nat) (cs : List Value) : Array Value := (cur.toList.take o ++ cs ++ cur.toList.drop (o + cs.length)).toArray
theorem run_copy_any {P : Program} (sz : Nat) (w : World) (dT sT ty elem : TypeId) (g o dLen dCap : Nat) (a : Addr) (sLen sCap : Nat) (cur : Array Value) (t : TypeId) (cs : List Value)
    (hu : P.underlying dT = some (.slice elem)) (hs : (P.info? elem).map (·.size) = some sz)
    (hg : w.heap[g]? = some (.cells cur t (0, 0))) (k : Nat) (hk : Nat.min sLen dLen = k) (hn : cs.length = k * sz)
    (hsrc : ∀ j v, cs[j]? = some v → w.cell? (a.add j) = some v) (hfit : o + cs.length ≤ cur.size) (h1 : ∀ v ∈ cs, v.oneCell' = true) :
    (Builtin.copy_ #[dT, sT] ty #[.slice (some ⟨g, o, none⟩) dLen dCap, .slice (some a) sLen sCap]).run P w = .ok (goInt k) (w.setRow g (putAt cur o cs)) := by
  have hl := run_loadCells_list (P := P) w a cs hsrc
  have hst := run_storeCells_at P g o t cs 0 cur w hg (by simpa using hfit) h1
  rw [hn] at hl
  unfold putAt
  cases hq : P.info? elem with
  | none => simp [hq] at hs
  | some i =>
    have hi : i.size = sz := by simpa [hq] using hs
    simp only [Nat.add_zero] at hst
    simp [Builtin.copy_, run_underlying hu, Builtin.lenOf, Builtin.firstCells, sizeOf, typeInfo, hq, hi, hk, hl, hst]
theorem putAt_size {cur : Array Value} {o : Nat} {cs : List Value} (h : o + cs.length ≤ cur.size) : (putAt cur o cs).size = cur.size := by
  unfold putAt
  simp only [List.size_toArray, List.length_append, List.length_take, List.length_drop, Array.length_toList]
  omega
theorem own_of_row {W : World} {B g n cap sz : Nat} {E : TypeId} {R : Array Value} {T rest : List Value} (hB : B ≤ g) (h : W.heap[g]? = some (.cells R E (0, 0))) (hn : n ≤ cap) (hc : cap ≤ maxLen) (hs : R.size = cap * sz) (ht : T.length = n * sz) (hr : R.toList = T ++ rest) :
    W.ownsRow B E sz (.slice (some ⟨g, 0, none⟩) n cap) n T :=
  ⟨ht, .inr ⟨g, cap, R, rfl, hB, h, hn, hc, hs, by rw [hr, ← ht]; exact List.take_left⟩⟩
/-- The row behind the two copies of an insertion: the tail moved up, the new cells at their place. -/
theorem put_shift {cur : Array Value} {xs vs : List Value} {n i sz : Nat} (ht : cur.toList.take (n * sz) = xs) (hv : vs.length = sz) (hi : i ≤ n) (hc : (n + 1) * sz ≤ cur.size) :
    ∃ rest, (putAt (putAt cur ((i + 1) * sz) (xs.drop (i * sz))) (i * sz) vs).toList = (xs.take (i * sz) ++ vs ++ xs.drop (i * sz)) ++ rest := by
  have e1 : (i + 1) * sz = i * sz + sz := by rw [Nat.add_mul, Nat.one_mul]
  have hin : i * sz ≤ n * sz := Nat.mul_le_mul_right _ hi
  have e3 : (n + 1) * sz = n * sz + sz := by rw [Nat.add_mul, Nat.one_mul]
  rw [e3] at hc
  have hcl : cur.toList.length = cur.size := Array.length_toList
  have hcx : cur.toList = xs ++ cur.toList.drop (n * sz) := by rw [← ht]; exact (List.take_append_drop _ _).symm
  unfold putAt
  simp only [e1]
  generalize i * sz = a at *
  generalize n * sz = b at *
  have hk : (cur.toList.take (a + sz)).length = a + sz := by rw [List.length_take]; omega
  have t1 : (cur.toList.take (a + sz) ++ xs.drop a ++ cur.toList.drop (a + sz + (xs.drop a).length)).take a = xs.take a := by
    rw [List.append_assoc, List.take_append_of_le_length (by omega), List.take_take, Nat.min_eq_left (by omega), ← ht, List.take_take, Nat.min_eq_left hin]
  have t2 : (cur.toList.take (a + sz) ++ xs.drop a ++ cur.toList.drop (a + sz + (xs.drop a).length)).drop (a + vs.length) = xs.drop a ++ cur.toList.drop (a + sz + (xs.drop a).length) := by
    rw [hv, List.append_assoc]
    exact List.drop_left' hk
  refine ⟨cur.toList.drop (a + sz + (xs.drop a).length), ?_⟩
  rw [t1, t2, ← List.append_assoc]
/-- The same in a new row: the head stands, then the new cells, then the tail. -/
theorem put_grow {R : Array Value} {xs vs rest : List Value} {n i sz : Nat} (hR : R.toList = xs.take (i * sz) ++ rest) (hx : xs.length = n * sz) (hv : vs.length = sz) (hi : i ≤ n) :
    ∃ rest, (putAt (putAt R (i * sz) vs) ((i + 1) * sz) (xs.drop (i * sz))).toList = (xs.take (i * sz) ++ vs ++ xs.drop (i * sz)) ++ rest := by
  have e1 : (i + 1) * sz = i * sz + sz := by rw [Nat.add_mul, Nat.one_mul]
  have hin : i * sz ≤ n * sz := Nat.mul_le_mul_right _ hi
  unfold putAt
  simp only [e1]
  generalize i * sz = a at *
  generalize n * sz = b at *
  have hl : (xs.take a).length = a := by rw [List.length_take]; omega
  have t0 : R.toList.take a = xs.take a := by rw [hR]; exact List.take_left' hl
  have hl2 : (xs.take a ++ vs).length = a + sz := by rw [List.length_append, hl, hv]
  have t1 : (xs.take a ++ vs ++ R.toList.drop (a + vs.length)).take (a + sz) = xs.take a ++ vs := List.take_left' hl2
  refine ⟨(xs.take a ++ vs ++ R.toList.drop (a + vs.length)).drop (a + sz + (xs.drop a).length), ?_⟩
  rw [t0, t1]
theorem only_setRow {w W : World} {g : Nat} (h : w.grownBy W (some g)) (cs : Array Value) : w.grownBy (W.setRow g cs) (some g) :=
  ⟨h.os, h.tape, h.output, by simpa using h.size, fun k hk hne => (setRow_other W g k cs (fun e => hne (by rw [e]))).trans (h.block k hk hne)⟩
theorem from_at (g k c sz : Nat) (h : c ≠ k) : fromA (some ⟨g, 0, none⟩) k c sz = some ⟨g, k * sz, none⟩ := by
  unfold fromA
  rw [if_neg h]
  simp [Addr.add_lit]
end Go.Proofs.Ytfbfapobmhfenaa
