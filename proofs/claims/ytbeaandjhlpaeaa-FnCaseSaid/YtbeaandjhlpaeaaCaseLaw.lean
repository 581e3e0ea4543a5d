/-
  Days of a case in a cabinet: ascending, each filed. Conditions: none.
-/
import Derived.Test.YtbeaandjhlpaeaaCabCase
import Derived.Test.YtbeaandjhlpaeaaFindA
namespace Go.Proofs.Ytbeaandjhlpaeaa
open Go.ChangeShapes Go.WideShapes Go.ChangeAt Go.RowKit

/-- How many pads are of a case. -/
def caseCnt (s : ByteArray) (ps : List Pad) : Nat := (caseDays s ps).length
theorem caseDays_asc {s : ByteArray} {l : List Pad} (h : sortedOK l) : (caseDays s l).Pairwise (· < ·) := by
  rw [sorted_iff] at h
  unfold caseDays
  rw [List.pairwise_map]
  have h2 := h.2.sublist (List.filter_sublist (p := fun p : Pad => p.case.toList == s.toList) (l := l))
  refine h2.imp_of_mem fun {p q} hp hq hpq => ?_
  have e1 := (List.mem_filter.1 hp).2
  have e2 := (List.mem_filter.1 hq).2
  simp only [beq_iff_eq] at e1 e2
  rcases ordPad_neg.1 hpq with h | ⟨_, h⟩
  · exact h
  · rw [← toL, ← toL, e1, e2] at h
    exact absurd h (lt_irr _)
theorem caseDays_mem {s : ByteArray} {l : List Pad} {x : Int} (h : x ∈ caseDays s l) : (⟨x, s⟩ : Pad) ∈ l := by
  unfold caseDays at h
  obtain ⟨p, hp, rfl⟩ := List.mem_map.1 h
  obtain ⟨h1, h2⟩ := List.mem_filter.1 hp
  simp only [beq_iff_eq] at h2
  have : (⟨p.day, s⟩ : Pad) = p := pad_ext rfl (by rw [← toL, ← toL, h2])
  rw [this]; exact h1
theorem mem_found {css : List (List Pad)} {p : Pad} (h : p ∈ css.flatten) : ∃ i k, FoundAt css p i k := by
  obtain ⟨l, hl, hp⟩ := List.mem_flatten.1 h
  obtain ⟨i, hi, rfl⟩ := List.getElem_of_mem hl
  obtain ⟨k, hk, rfl⟩ := List.getElem_of_mem hp
  have e : drw css i = css[i] := by unfold drw; simp [List.getD, List.getElem?_eq_getElem hi]
  refine ⟨i, k, hi, by rw [e]; exact hk, ?_⟩
  rw [e]; unfold padAt; simp [List.getD, List.getElem?_eq_getElem hk]
theorem mem_findO {css : List (List Pad)} {p : Pad} (hc : cabOK css) (h : p ∈ css.flatten) : ∃ i k, findO css p = some (i, k) := by
  obtain ⟨i, k, hf⟩ := mem_found h
  exact ⟨i, k, findO_yes hc hf⟩
theorem case_cab {css : List (List Pad)} {s : ByteArray} (h : 0 < (caseDays s (ansP css)).length) : cabOK css := by
  by_cases hc : cabB css = true
  · exact cabB_iff.1 hc
  · rw [ansP_no (by simpa using hc)] at h
    simp [caseDays] at h
theorem intAt_asc {l : List Int} (h : l.Pairwise (· < ·)) {k : Nat} (h0 : 0 < k) (hk : k < l.length) : intAt l (k - 1) < intAt l k := by
  have := List.pairwise_iff_getElem.1 h (k - 1) k (by omega) hk (by omega)
  unfold intAt
  rwa [show l.getD (k - 1) 0 = l[k - 1] by simp [List.getD, List.getElem?_eq_getElem (show k - 1 < l.length by omega)], show l.getD k 0 = l[k] by simp [List.getD, List.getElem?_eq_getElem hk]]
theorem intAt_mem {l : List Int} {k : Nat} (hk : k < l.length) : intAt l k ∈ l := by
  unfold intAt; rw [show l.getD k 0 = l[k] by simp [List.getD, List.getElem?_eq_getElem hk]]; exact List.getElem_mem _
end Go.Proofs.Ytbeaandjhlpaeaa
