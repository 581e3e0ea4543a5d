/-
  Where each pad of a cabinet stands, one behind the other. Conditions: none.
-/
import Derived.Test.YtfbfapobmhfenaaFindA
namespace Go.Proofs.Ytfbfapobmhfenaa
open Go.ChangeShapes Go.WideShapes Go.ChangeAt Go.RowKit
set_option maxRecDepth 100000

/-- The drawer and the place of a pad by its number. -/
def posN : List (List Pad) → Nat → Nat × Nat
  | [], _ => (0, 0)
  | ps :: r, q => if q < ps.length then (0, q) else ((posN r (q - ps.length)).1 + 1, (posN r (q - ps.length)).2)
theorem posN_here {ps : List Pad} {r : List (List Pad)} {q : Nat} (h : q < ps.length) : posN (ps :: r) q = (0, q) := by unfold posN; rw [if_pos h]
theorem posN_later {ps : List Pad} {r : List (List Pad)} {q : Nat} (h : ¬ q < ps.length) : posN (ps :: r) q = ((posN r (q - ps.length)).1 + 1, (posN r (q - ps.length)).2) := by
  rw [posN, if_neg h]
theorem pos_found : ∀ {css : List (List Pad)} {q : Nat}, q < css.flatten.length → FoundAt css (padAt css.flatten q) (posN css q).1 (posN css q).2
  | [], q, h => by simp at h
  | ps :: r, q, h => by
    rw [List.flatten_cons, List.length_append] at h
    by_cases hq : q < ps.length
    · rw [posN_here hq, List.flatten_cons, padAt_append_left hq]
      exact ⟨by simp, hq, rfl⟩
    · rw [posN_later hq, List.flatten_cons, padAt_append_right (by omega)]
      obtain ⟨h1, h2, h3⟩ := pos_found (css := r) (q := q - ps.length) (by omega)
      exact ⟨by simpa using h1, h2, h3⟩
theorem pos_zero {css : List (List Pad)} (h : ∀ ps ∈ css, 1 ≤ ps.length) : posN css 0 = (0, 0) := by
  cases css with
  | nil => rfl
  | cons ps r => exact posN_here (by have := h ps (by simp); omega)
theorem pos_next : ∀ {css : List (List Pad)} {q : Nat}, (∀ ps ∈ css, 1 ≤ ps.length) → q + 1 < css.flatten.length → ((posN css (q + 1)).1 = (posN css q).1 ∧ (posN css (q + 1)).2 = (posN css q).2 + 1) ∨ ((posN css (q + 1)).1 = (posN css q).1 + 1 ∧ (posN css (q + 1)).2 = 0)
  | [], q, _, h => by simp at h
  | ps :: r, q, hn, h => by
    rw [List.flatten_cons, List.length_append] at h
    have hr : ∀ x ∈ r, 1 ≤ x.length := fun x hx => hn x (by simp [hx])
    by_cases h1 : q + 1 < ps.length
    · rw [posN_here h1, posN_here (by omega)]; exact .inl ⟨rfl, rfl⟩
    · by_cases h2 : q < ps.length
      · rw [posN_later h1, posN_here h2, show q + 1 - ps.length = 0 by omega, pos_zero hr]; exact .inr ⟨rfl, rfl⟩
      · rw [posN_later h1, posN_later h2, show q + 1 - ps.length = (q - ps.length) + 1 by omega]
        rcases pos_next (q := q - ps.length) hr (by omega) with ⟨h3, h4⟩ | ⟨h3, h4⟩
        · exact .inl ⟨by rw [h3], h4⟩
        · exact .inr ⟨by rw [h3], h4⟩
/-- What stands ahead of a pad: the drawer and the place of the one before, or none. -/
def Ahead (css : List (List Pad)) (q : Nat) (D K : Int) : Prop := (q = 0 ∧ D = -1 ∧ K = 0) ∨ (0 < q ∧ D = ((posN css (q - 1)).1 : Int) ∧ K = ((posN css (q - 1)).2 : Int))
theorem Ahead.start (css : List (List Pad)) : Ahead css 0 (-1) 0 := .inl ⟨rfl, rfl, rfl⟩
theorem Ahead.next (css : List (List Pad)) (q : Nat) : Ahead css (q + 1) ((posN css q).1 : Int) ((posN css q).2 : Int) := .inr ⟨by omega, rfl, rfl⟩
theorem Ahead.step {css : List (List Pad)} {q : Nat} {D K : Int} (h : Ahead css q D K) (hn : ∀ ps ∈ css, 1 ≤ ps.length) (hq : q < css.flatten.length) :
    (D < ((posN css q).1 : Int) ∧ (posN css q).2 = 0) ∨ (D = ((posN css q).1 : Int) ∧ K + 1 = ((posN css q).2 : Int)) := by
  rcases h with ⟨rfl, rfl, rfl⟩ | ⟨h0, rfl, rfl⟩
  · rw [pos_zero hn]; exact .inl ⟨by simp, rfl⟩
  · obtain ⟨m, rfl⟩ : ∃ m, q = m + 1 := ⟨q - 1, by omega⟩
    rw [Nat.add_sub_cancel]
    rcases pos_next hn hq with ⟨h3, h4⟩ | ⟨h3, h4⟩
    · exact .inr ⟨by omega, by omega⟩
    · exact .inl ⟨by omega, h4⟩
theorem pos_le {css : List (List Pad)} {q : Nat} (hc : cabOK css) (h : q < css.flatten.length) : (posN css q).1 < 6 ∧ (posN css q).2 < 4 := by
  obtain ⟨h1, h2, _⟩ := pos_found h
  have := hc.1
  have h4 := (hc.2.1 _ (drw_mem h1)).2
  omega
end Go.Proofs.Ytfbfapobmhfenaa
