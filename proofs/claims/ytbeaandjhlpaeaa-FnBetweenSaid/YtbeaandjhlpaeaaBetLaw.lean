/-
  Days of a cabinet, parted at a day. Conditions: none.
-/
import Derived.Test.YtbeaandjhlpaeaaCabBetween2
import Derived.Test.YtbeaandjhlpaeaaFindA
namespace Go.Proofs.Ytbeaandjhlpaeaa
open Go.ChangeShapes Go.WideShapes Go.ChangeAt Go.RowKit

theorem sorted_days {l : List Pad} (h : sortedOK l) : l.Pairwise (fun p q => p.day ≤ q.day) := by
  rw [sorted_iff] at h
  refine h.2.imp fun hpq => ?_
  rcases ordPad_neg.1 hpq with h | h <;> omega
theorem bet_split {x y d : Int} (h1 : x ≤ d + 1) (h2 : d ≤ y) : ∀ {l : List Pad}, l.Pairwise (fun p q => p.day ≤ q.day) → l.filter (inDays x d) ++ l.filter (inDays (d + 1) y) = l.filter (inDays x y)
  | [], _ => rfl
  | q :: r, h => by
    obtain ⟨hq, hr⟩ := List.pairwise_cons.1 h
    by_cases hd : q.day ≤ d
    · have e1 : inDays x d q = inDays x y q := by unfold inDays; rw [decide_eq_true hd, decide_eq_true (show q.day ≤ y by omega)]
      have e2 : inDays (d + 1) y q = false := by unfold inDays; rw [decide_eq_false (show ¬ d + 1 ≤ q.day by omega)]; rfl
      rw [List.filter_cons, List.filter_cons, List.filter_cons, e1, e2, ← bet_split h1 h2 hr]
      by_cases e : inDays x y q = true
      · simp [e]
      · simp [e]
    · have n1 : (q :: r).filter (inDays x d) = [] := by
        rw [List.filter_eq_nil_iff]
        intro p hp
        have : q.day ≤ p.day := by
          rcases List.mem_cons.1 hp with rfl | hp
          · omega
          · exact hq p hp
        unfold inDays; rw [decide_eq_false (show ¬ p.day ≤ d by omega)]; simp
      have n2 : (q :: r).filter (inDays (d + 1) y) = (q :: r).filter (inDays x y) := by
        apply List.filter_congr
        intro p hp
        have : q.day ≤ p.day := by
          rcases List.mem_cons.1 hp with rfl | hp
          · omega
          · exact hq p hp
        unfold inDays; rw [decide_eq_true (show d + 1 ≤ p.day by omega), decide_eq_true (show x ≤ p.day by omega)]
      rw [n1, n2, List.nil_append]
theorem ans_days {css : List (List Pad)} : (ansP css).Pairwise (fun p q => p.day ≤ q.day) := by
  by_cases h : cabB css = true
  · rw [ansP_yes h]; exact sorted_days (cabB_iff.1 h).2.2
  · rw [ansP_no (by simpa using h)]; exact List.Pairwise.nil
end Go.Proofs.Ytbeaandjhlpaeaa
