/-
  Lists cut into pieces of four: the pure law of packing. Conditions: none.
-/
import Derived.Test.YtlphefpgnfogfaaCabA
namespace Go.Proofs.Ytlphefpgnfogfaa
set_option maxRecDepth 100000

section
variable {α : Type}
/-- The piece of number k of the first t things. -/
def pieceAt (l : List α) (t k : Nat) : List α := (l.drop (4 * k)).take (min 4 (t - 4 * k))
/-- The first t things in pieces of four. -/
def pieces (l : List α) (t : Nat) : List (List α) := (List.range ((t + 3) / 4)).map (pieceAt l t)
theorem pieces_len (l : List α) (t : Nat) : (pieces l t).length = (t + 3) / 4 := by simp [pieces]
theorem pieces_zero (l : List α) : pieces l 0 = [] := rfl
theorem pieceAt_len {l : List α} {t k : Nat} (ht : t ≤ l.length) : (pieceAt l t k).length = min 4 (t - 4 * k) := by
  unfold pieceAt
  rw [List.length_take, List.length_drop]
  omega
theorem piece_more {l : List α} {t j : Nat} (h : 4 * j ≤ t) (h2 : t < 4 * j + 4) (hl : t < l.length) : pieceAt l (t + 1) j = pieceAt l t j ++ [l[t]] := by
  unfold pieceAt
  rw [show min 4 (t + 1 - 4 * j) = (t - 4 * j) + 1 by omega, show min 4 (t - 4 * j) = t - 4 * j by omega, List.take_succ_eq_append_getElem (by rw [List.length_drop]; omega)]
  congr 2
  rw [List.getElem_drop]
  congr 1
  omega
theorem piece_old {l : List α} {t j k : Nat} (h : 4 * j ≤ t) (h2 : t < 4 * j + 4) (hk : k < j) : pieceAt l (t + 1) k = pieceAt l t k := by
  unfold pieceAt
  rw [show min 4 (t + 1 - 4 * k) = min 4 (t - 4 * k) by omega]
/-- A thing that begins a piece. -/
theorem pieces_new {l : List α} {j : Nat} (hl : 4 * j < l.length) : pieces l (4 * j + 1) = pieces l (4 * j) ++ [[l[4 * j]]] := by
  unfold pieces
  rw [show (4 * j + 1 + 3) / 4 = j + 1 by omega, show (4 * j + 3) / 4 = j by omega, List.range_succ, List.map_append]
  congr 1
  · apply List.map_congr_left
    intro k hk
    exact piece_old (j := j) (Nat.le_refl _) (by omega) (by simpa using hk)
  · simp only [List.map_cons, List.map_nil]
    rw [piece_more (Nat.le_refl _) (by omega) hl]
    unfold pieceAt
    rw [show min 4 (4 * j - 4 * j) = 0 by omega]
    rfl
/-- A thing that goes on with the last piece. -/
theorem pieces_on {l : List α} {t j : Nat} (h : 4 * j < t) (h2 : t < 4 * j + 4) (hl : t < l.length) :
    pieces l t = (List.range j).map (pieceAt l t) ++ [pieceAt l t j] ∧ pieces l (t + 1) = (List.range j).map (pieceAt l t) ++ [pieceAt l t j ++ [l[t]]] := by
  unfold pieces
  rw [show (t + 3) / 4 = j + 1 by omega, show (t + 1 + 3) / 4 = j + 1 by omega, List.range_succ, List.map_append, List.map_append]
  refine ⟨rfl, ?_⟩
  congr 1
  · apply List.map_congr_left
    intro k hk
    exact piece_old (j := j) (by omega) h2 (by simpa using hk)
  · simp only [List.map_cons, List.map_nil]
    rw [piece_more (by omega) h2 hl]
/-- A list in pieces of four. -/
def packed (l : List α) : List (List α) := pieces l l.length
theorem packed_len (l : List α) : (packed l).length = (l.length + 3) / 4 := pieces_len _ _
theorem flat_pieces (l : List α) : ∀ m, ((List.range m).map fun k => (l.drop (4 * k)).take 4).flatten = l.take (4 * m)
  | 0 => by simp
  | m + 1 => by
    rw [List.range_succ, List.map_append, List.flatten_append, flat_pieces l m]
    simp only [List.map_cons, List.map_nil, List.flatten_cons, List.flatten_nil, List.append_nil]
    rw [show 4 * (m + 1) = 4 * m + 4 by omega, List.take_add]
theorem packed_at (l : List α) : packed l = (List.range ((l.length + 3) / 4)).map fun k => (l.drop (4 * k)).take 4 := by
  unfold packed pieces
  apply List.map_congr_left
  intro k hk
  have hk := List.mem_range.1 hk
  unfold pieceAt
  by_cases h : 4 ≤ l.length - 4 * k
  · rw [Nat.min_eq_left h]
  · rw [Nat.min_eq_right (by omega), List.take_of_length_le (by rw [List.length_drop]; exact Nat.le_refl _), List.take_of_length_le (by rw [List.length_drop]; omega)]
theorem packed_flat (l : List α) : (packed l).flatten = l := by
  rw [packed_at, flat_pieces, List.take_of_length_le (by omega)]
theorem packed_lens {l : List α} : ∀ p ∈ packed l, 1 ≤ p.length ∧ p.length ≤ 4 := by
  intro p hp
  obtain ⟨k, hk, rfl⟩ := List.mem_map.1 hp
  have hk := List.mem_range.1 hk
  rw [pieceAt_len (Nat.le_refl _)]
  omega
theorem packed_full {l : List α} {i : Nat} (h : i + 1 < (packed l).length) : ((packed l)[i]'(by omega)).length = 4 := by
  rw [packed_len] at h
  unfold packed pieces
  simp only [List.getElem_map, List.getElem_range]
  rw [pieceAt_len (Nat.le_refl _)]
  omega
end
theorem flat_le {css : List (List Pad)} (h : ∀ ps ∈ css, lenOK ps) : css.flatten.length ≤ 4 * css.length := by
  induction css with
  | nil => simp
  | cons a r ih =>
    have h1 := (h a (by simp)).2
    have h2 := ih (fun l hl => h l (by simp [hl]))
    rw [List.flatten_cons, List.length_append, List.length_cons]; omega
theorem packed_ok {css : List (List Pad)} (h : cabOK css) : cabOK (packed css.flatten) ∧ (packed css.flatten).length ≤ css.length := by
  have h1 := flat_le h.2.1
  have h2 := packed_len css.flatten
  exact ⟨⟨by have := h.1; omega, fun p hp => packed_lens p hp, by rw [packed_flat]; exact h.2.2⟩, by omega⟩
noncomputable def packO (css : List (List Pad)) : Option (List (List Pad)) := if cabB css = true then some (packed css.flatten) else none
theorem packO_yes {css : List (List Pad)} (h : cabB css = true) : packO css = some (packed css.flatten) := if_pos h
theorem packO_no {css : List (List Pad)} (h : cabB css = false) : packO css = none := if_neg (by rw [h]; simp)
end Go.Proofs.Ytlphefpgnfogfaa
