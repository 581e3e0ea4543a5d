/-
  Rows that are filled cell by cell; a make of a length that came in. Conditions: Go's own sizes.
-/
import Derived.Test.YtlfhgmbmgbbnjaaBase
import Derived.Laws.MakeOwn
namespace Go.Proofs.Ytlfhgmbmgbbnjaa
open Go.ChangeShapes Go.WideShapes Go.ChangeAt Go.RowKit
set_option maxRecDepth 100000

/-- The first m cells of an array are those of a list as long. -/
def Filled (arr : Array Value) (xs : List Value) (m : Nat) : Prop := arr.size = xs.length ∧ ∀ j, j < m → arr[j]? = xs[j]?
theorem Filled.zero {arr : Array Value} {xs : List Value} (h : arr.size = xs.length) : Filled arr xs 0 := ⟨h, fun j hj => absurd hj (by omega)⟩
theorem Filled.step {arr : Array Value} {xs : List Value} {m : Nat} {u : Value} (h : Filled arr xs m) (hu : xs[m]? = some u) : Filled (arr.setIfInBounds m u) xs (m + 1) := by
  have hm : m < arr.size := by rw [h.1]; exact (List.getElem?_eq_some_iff.1 hu).1
  refine ⟨by simp [h.1], fun j hj => ?_⟩
  by_cases e : j = m
  · subst e; rw [hu]; simp [hm]
  · rw [Array.getElem?_setIfInBounds, if_neg (by omega)]
    exact h.2 j (by omega)
theorem Filled.done {arr : Array Value} {xs : List Value} (h : Filled arr xs xs.length) : arr = xs.toArray := by
  apply Array.ext_getElem?
  intro j
  by_cases hj : j < xs.length
  · rw [h.2 j hj]; simp
  · rw [Array.getElem?_eq_none (by have := h.1; omega)]; simp; omega
theorem Filled.there {arr : Array Value} {xs : List Value} {m : Nat} (h : Filled arr xs m) {j : Nat} (hj : j < xs.length) : ∃ x, arr[j]? = some x := by
  have : j < arr.size := by rw [h.1]; exact hj
  exact ⟨_, Array.getElem?_eq_getElem this⟩

theorem run_make_rowN {P : Program} (t e : TypeId) (i : TypeInfo) (z : Value) (ht : P.underlying t = some (.slice e)) (hi : P.info? e = some i) (hz : i.zero = some z)
    (kl kc : IntKind) (n c : Nat) (hnc : n ≤ c) (hbytes : i.bytes * c ≤ 281474976710656) (h63 : c ≤ 9223372036854775807) (w : World) :
    (Instr.makeSlice t (.int kl (n : Int)) (.int kc (c : Int))).run P w = .ok (.slice (some ⟨w.heap.size, 0, none⟩) n c) (w.alloc (.cells (madeCells z.cells (c * i.size)) e)) := by
  have hb : (i.bytes : Int) * (c : Int) ≤ 281474976710656 := by
    have h : ((i.bytes * c : Nat) : Int) ≤ 281474976710656 := by omega
    rwa [Int.natCast_mul] at h
  have hr := run_make (P := P) w t e i z ht hi hz kl kc n c (by omega) (by omega) hb (by omega)
  simp only [Int.toNat_natCast] at hr
  exact hr

theorem madeCells_size (z : Array Value) (n : Nat) : (madeCells z n).size = n := by simp [madeCells]
end Go.Proofs.Ytlfhgmbmgbbnjaa
