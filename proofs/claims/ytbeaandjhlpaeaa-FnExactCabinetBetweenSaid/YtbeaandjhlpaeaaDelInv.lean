/-
  What a pass of slices.DeleteFunc keeps true of its row; clear of a row's rest. Conditions: none.
-/
import Derived.Test.YtbeaandjhlpaeaaIdxFunc
import Derived.Laws.IdiomCopy
namespace Go.Proofs.Ytbeaandjhlpaeaa
open Go.ChangeShapes Go.WideShapes Go.ChangeAt Go.RowKit Go.Shelf
set_option maxRecDepth 100000

section
variable {α : Type} {enc : α → List Value} {sz : Nat}
/-- Cells i·sz and on: those of the elements kept among the first j; behind the j-th all is as it was. -/
def DelInv (enc : α → List Value) (sz : Nat) (keep : α → Bool) (xs : List α) (cur : Array Value) (cap i j : Nat) : Prop :=
  cur.size = cap * sz ∧ cur.toList.take (i * sz) = ((xs.take j).filter keep).flatMap enc ∧ ((xs.take j).filter keep).length = i ∧
    ∀ (t : Nat) (x : α), j ≤ t → xs[t]? = some x → ∀ q, q < sz → cur[t * sz + q]? = (enc x)[q]?

theorem DelInv.start (hl : ∀ a, (enc a).length = sz) {keep : α → Bool} {xs : List α} {cur : Array Value} {cap k : Nat} (hs : cur.size = cap * sz) (ht : cur.toList.take (xs.length * sz) = xs.flatMap enc) (hk : k ≤ xs.length) (hkeep : ∀ x ∈ xs.take k, keep x = true) :
    DelInv enc sz keep xs cur cap k k := by
  have hf : (xs.take k).filter keep = xs.take k := List.filter_eq_self.2 hkeep
  have hsp : xs.flatMap enc = (xs.take k).flatMap enc ++ (xs.drop k).flatMap enc := by rw [← List.flatMap_append, List.take_append_drop]
  have hlen : ((xs.take k).flatMap enc).length = k * sz := by rw [flat_len hl, List.length_take, Nat.min_eq_left hk]
  refine ⟨hs, ?_, by rw [hf, List.length_take, Nat.min_eq_left hk], ?_⟩
  · rw [hf]
    have h1 : (cur.toList.take (xs.length * sz)).take (k * sz) = (xs.flatMap enc).take (k * sz) := by rw [ht]
    rw [List.take_take, Nat.min_eq_left (Nat.mul_le_mul_right _ hk)] at h1
    rw [h1, hsp, List.take_append_of_le_length (by omega), List.take_of_length_le (by omega)]
  · intro t x _ hx q hq
    have hlt : t < xs.length := (List.getElem?_eq_some_iff.1 hx).1
    have hex : (enc x)[q]? = some ((enc x)[q]'(by rw [hl]; exact hq)) := List.getElem?_eq_getElem _
    have h1 := flat_at hl xs t x q _ hx hex
    rw [← ht] at h1
    have hm : t * sz + q < xs.length * sz := by
      have : (t + 1) * sz ≤ xs.length * sz := Nat.mul_le_mul_right _ hlt
      rw [Nat.succ_mul] at this; omega
    rw [List.getElem?_take_of_lt hm, Array.getElem?_toList] at h1
    rw [h1, hex]

theorem DelInv.skip {keep : α → Bool} {xs : List α} {cur : Array Value} {cap i j : Nat} {x : α} (h : DelInv enc sz keep xs cur cap i j) (hx : xs[j]? = some x) (hk : keep x = false) : DelInv enc sz keep xs cur cap i (j + 1) := by
  have he : (xs.take (j + 1)).filter keep = (xs.take j).filter keep := by rw [take_step hx, List.filter_append]; simp [hk]
  exact ⟨h.1, by rw [he]; exact h.2.1, by rw [he]; exact h.2.2.1, fun t y ht => h.2.2.2 t y (by omega)⟩

theorem DelInv.put (hl : ∀ a, (enc a).length = sz) {keep : α → Bool} {xs : List α} {cur cur' : Array Value} {cap i j : Nat} {x : α} (h : DelInv enc sz keep xs cur cap i j) (hij : i ≤ j) (hx : xs[j]? = some x) (hk : keep x = true) (hc : xs.length ≤ cap)
    (h1 : cur'.size = cur.size) (h2 : ∀ q, q < sz → cur'[i * sz + q]? = (enc x)[q]?) (h3 : ∀ m, m < i * sz ∨ (i + 1) * sz ≤ m → cur'[m]? = cur[m]?) : DelInv enc sz keep xs cur' cap (i + 1) (j + 1) := by
  have he : (xs.take (j + 1)).filter keep = (xs.take j).filter keep ++ [x] := by rw [take_step hx, List.filter_append]; simp [hk]
  have hlt : j < xs.length := (List.getElem?_eq_some_iff.1 hx).1
  have hsz : (i + 1) * sz ≤ cur'.size := by rw [h1, h.1]; exact Nat.mul_le_mul_right _ (by omega)
  have hmul : (i + 1) * sz = i * sz + sz := Nat.succ_mul i sz
  refine ⟨by rw [h1, h.1], ?_, by rw [he, List.length_append, h.2.2.1]; rfl, ?_⟩
  · rw [he, List.flatMap_append, ← h.2.1]
    have hl1 : (cur.toList.take (i * sz)).length = i * sz := by rw [List.length_take, Array.length_toList]; omega
    have hl2 : ([x].flatMap enc) = enc x := by simp
    rw [hl2]
    apply List.ext_getElem?
    intro m
    rcases Nat.lt_or_ge m (i * sz) with hm | hm
    · rw [List.getElem?_append_left (by omega), List.getElem?_take_of_lt hm, List.getElem?_take_of_lt (by omega), Array.getElem?_toList, Array.getElem?_toList, h3 m (.inl hm)]
    · rw [List.getElem?_append_right (by omega), hl1]
      rcases Nat.lt_or_ge m ((i + 1) * sz) with hm2 | hm2
      · rw [List.getElem?_take_of_lt hm2, Array.getElem?_toList, ← h2 (m - i * sz) (by omega)]
        congr 1; omega
      · rw [List.getElem?_eq_none (by rw [List.length_take]; omega), List.getElem?_eq_none (by rw [hl]; omega)]
  · intro t y ht hy q hq
    rw [h3 _ (.inr (by
      have : (i + 1) * sz ≤ t * sz := Nat.mul_le_mul_right _ (by omega)
      omega))]
    exact h.2.2.2 t y (by omega) hy q hq
end

theorem Blk.cells {b : Nat} {t : TypeId} : ∀ (vs : List Value) (o : Nat) {w : World} {cs : Array Value}, Blk w b t cs → ∃ cs', Blk (w.setCells b o vs) b t cs' ∧ cs'.size = cs.size ∧ ∀ j, j < o → cs'[j]? = cs[j]?
  | [], _, _, cs, h => ⟨cs, h, rfl, fun _ _ => rfl⟩
  | v :: r, o, _, _, h => by
    obtain ⟨cs', h1, h2, h3⟩ := Blk.cells r (o + 1) (h.set o v)
    refine ⟨cs', h1, by rw [h2]; simp, fun j hj => ?_⟩
    rw [h3 j (by omega), Array.getElem?_setIfInBounds_ne (by omega)]
theorem only_setCells {a : World} {g : Nat} : ∀ (vs : List Value) (o : Nat) {w : World}, a.grownBy w (some g) → a.grownBy (w.setCells g o vs) (some g)
  | [], _, _, h => h
  | v :: r, o, _, h => only_setCells r (o + 1) (only_set h rfl v)

/-- 'clear' of a list that is not empty, whatever its elements: the run's cells are turned. -/
theorem run_clear_any {P : Program} (w : World) (n : Nat) (t e ty : TypeId) (z : Value) (ht : P.underlying t = some (.slice e)) (hv : ∀ w, (zeroValue e).run P w = .ok z w) (h1 : ∀ v ∈ (Builtin.zeroCells z.cells n).toList, v.oneCell' = true) (b o c : Nat) (hn : 0 < n)
    (hc : ∀ j, j < (Builtin.zeroCells z.cells n).toList.length → (w.cell? ⟨b, o + j, none⟩).isSome = true) (hf : ∀ j, w.frozen? ⟨b, o + j, none⟩ = false) :
    (Builtin.clear_ #[t] ty #[.slice (some ⟨b, o, none⟩) n c]).run P w = .ok (.tuple #[]) (w.setCells b o (Builtin.zeroCells z.cells n).toList) := by
  have hst := run_storeCells_cells (P := P) b o (Builtin.zeroCells z.cells n).toList 0 w (by simpa using hc) (by intro j _; simpa using hf j) h1
  simp only [Nat.add_zero] at hst
  obtain ⟨m, rfl⟩ : ∃ m, n = m + 1 := ⟨n - 1, by omega⟩
  simp [Builtin.clear_, run_underlying ht, hv, hst]
end Go.Proofs.Ytbeaandjhlpaeaa
