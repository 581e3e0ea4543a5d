/-
  What a cabinet is, in plain words. Conditions: none.
-/
import Derived.Test.YtbeaandjhlpaeaaCab2
import Derived.Test.YtbeaandjhlpaeaaPadOrder
namespace Go.Proofs.Ytbeaandjhlpaeaa
open Go.ChangeShapes Go.WideShapes Go.ChangeAt Go.RowKit

def okP (p : Pad) : Bool := padB p.day p.case.data.toList
def ordPad (p q : Pad) : Int := ordP p.day p.case.data.toList q.day q.case.data.toList
/-- The i-th pad is valid, and behind the one ahead. -/
def goodAt (ps : List Pad) (i : Nat) : Prop := okP (padAt ps i) = true ∧ (0 < i → ordPad (padAt ps (i - 1)) (padAt ps i) < 0)
def sortedOK (ps : List Pad) : Prop := ∀ i, i < ps.length → goodAt ps i
def lenOK (ps : List Pad) : Prop := 1 ≤ ps.length ∧ ps.length ≤ 4
def cabOK (css : List (List Pad)) : Prop := css.length ≤ 6 ∧ (∀ ps ∈ css, lenOK ps) ∧ sortedOK css.flatten
noncomputable def cabB (css : List (List Pad)) : Bool := @decide (cabOK css) (Classical.propDecidable _)
theorem cabB_yes {css : List (List Pad)} (h : cabOK css) : cabB css = true := by unfold cabB; exact @decide_eq_true _ (Classical.propDecidable _) h
theorem cabB_no {css : List (List Pad)} (h : ¬ cabOK css) : cabB css = false := by unfold cabB; exact @decide_eq_false _ (Classical.propDecidable _) h
theorem cabB_iff {css : List (List Pad)} : cabB css = true ↔ cabOK css := by unfold cabB; exact @decide_eq_true_iff _ (Classical.propDecidable _)

theorem padAt_append_left {a b : List Pad} {i : Nat} (h : i < a.length) : padAt (a ++ b) i = padAt a i := by
  unfold padAt; simp [List.getD, List.getElem?_append_left h]
theorem padAt_append_right {a b : List Pad} {i : Nat} (h : a.length ≤ i) : padAt (a ++ b) i = padAt b (i - a.length) := by
  unfold padAt; simp [List.getD, List.getElem?_append_right h]
theorem goodAt_append {a b : List Pad} {i : Nat} (h : i < a.length) : goodAt (a ++ b) i ↔ goodAt a i := by
  unfold goodAt
  rw [padAt_append_left h]
  constructor
  · rintro ⟨h1, h2⟩; exact ⟨h1, fun hi => by have := h2 hi; rwa [padAt_append_left (by omega)] at this⟩
  · rintro ⟨h1, h2⟩; exact ⟨h1, fun hi => by rw [padAt_append_left (by omega)]; exact h2 hi⟩
theorem sorted_left {a b : List Pad} (h : sortedOK (a ++ b)) : sortedOK a := fun i hi => (goodAt_append hi).1 (h i (by rw [List.length_append]; omega))
theorem sorted_okP {ps : List Pad} (h : sortedOK ps) {p : Pad} (hp : p ∈ ps) : okP p = true := by
  obtain ⟨i, hi, rfl⟩ := List.getElem_of_mem hp
  have := (h i hi).1
  rwa [show padAt ps i = ps[i] by unfold padAt; simp [List.getD, List.getElem?_eq_getElem hi]] at this
end Go.Proofs.Ytbeaandjhlpaeaa
