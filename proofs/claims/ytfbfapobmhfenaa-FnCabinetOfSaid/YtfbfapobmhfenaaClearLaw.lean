/-
  Thinned cabinets are cabinets; early and late pads. Conditions: none.
-/
import Derived.Test.YtfbfapobmhfenaaClear
import Derived.Test.YtfbfapobmhfenaaCabBetween2
import Derived.Test.YtfbfapobmhfenaaFindA
namespace Go.Proofs.Ytfbfapobmhfenaa
open Go.ChangeShapes Go.WideShapes Go.ChangeAt Go.RowKit

theorem thinned_flat (p : Pad → Bool) (css : List (List Pad)) : (thinned p css).flatten = css.flatten.filter p := flat_filter p css
theorem thinned_ok {p : Pad → Bool} {css : List (List Pad)} (hc : cabOK css) : cabOK (thinned p css) := by
  refine ⟨?_, fun l hl => ?_, ?_⟩
  · unfold thinned
    have := List.length_filter_le full? (css.map (·.filter p))
    rw [List.length_map] at this
    have := hc.1; omega
  · obtain ⟨h2, h3⟩ := List.mem_filter.1 hl
    obtain ⟨c, hcm, e⟩ := List.mem_map.1 h2
    have := (hc.2.1 c hcm).2
    have h5 : l.length ≤ c.length := by rw [← e]; exact List.length_filter_le _ _
    exact ⟨full_iff.1 h3, by omega⟩
  · rw [thinned_flat]
    have h1 := hc.2.2
    rw [sorted_iff] at h1 ⊢
    exact ⟨fun q hq => h1.1 q (List.mem_filter.1 hq).1, h1.2.sublist List.filter_sublist⟩
theorem thinned_twice (p : Pad → Bool) (css : List (List Pad)) : thinned p (thinned p css) = thinned p css := by
  have h1 : (thinned p css).map (·.filter p) = thinned p css := by
    have h0 : (thinned p css).map (·.filter p) = (thinned p css).map id := by
      apply List.map_congr_left
      intro l hl
      obtain ⟨c, _, e⟩ := List.mem_map.1 (List.mem_filter.1 hl).1
      rw [← e]
      show (c.filter p).filter p = c.filter p
      rw [List.filter_filter]; simp
    rw [h0, List.map_id]
  have h2 : (thinned p css).filter full? = thinned p css := by
    refine List.filter_eq_self.2 fun l hl => (List.mem_filter.1 hl).2
  show ((thinned p css).map (·.filter p)).filter full? = thinned p css
  rw [h1, h2]
theorem okP_day {q : Pad} (h : okP q = true) : 0 ≤ q.day ∧ q.day ≤ 9999 := by
  unfold okP padB at h
  simp only [Bool.and_eq_true, decide_eq_true_eq] at h
  exact h.1
theorem late_eq {l : List Pad} {d m : Int} (hm : m = max 0 d) (h : ∀ q ∈ l, okP q = true) : l.filter (inDays m 9999) = l.filter (fromDay d) := by
  apply List.filter_congr
  intro q hq
  have := okP_day (h q hq)
  subst hm
  unfold inDays fromDay
  rw [decide_eq_true this.2, Bool.and_true, decide_eq_decide]; omega
theorem early_late {d : Int} : ∀ {l : List Pad}, (∀ q ∈ l, okP q = true) → (l.filter (inDays 0 (d - 1))).length + (l.filter (fromDay d)).length = l.length
  | [], _ => rfl
  | q :: r, h => by
    have h1 := okP_day (h q (by simp))
    have h2 := early_late (d := d) (l := r) (fun x hx => h x (by simp [hx]))
    rw [List.filter_cons, List.filter_cons, List.length_cons]
    by_cases hd : d ≤ q.day
    · have e1 : inDays 0 (d - 1) q = false := by unfold inDays; rw [decide_eq_false (show ¬ q.day ≤ d - 1 by omega), Bool.and_false]
      have e2 : fromDay d q = true := decide_eq_true hd
      rw [e1, e2]; simp; omega
    · have e1 : inDays 0 (d - 1) q = true := by unfold inDays; rw [decide_eq_true h1.1, decide_eq_true (show q.day ≤ d - 1 by omega)]; rfl
      have e2 : fromDay d q = false := decide_eq_false hd
      rw [e1, e2]; simp; omega
theorem cab_okP {css : List (List Pad)} (hc : cabOK css) : ∀ q ∈ css.flatten, okP q = true := fun _ hq => sorted_okP hc.2.2 hq
theorem filter_small {css : List (List Pad)} (hc : cabOK css) : css.flatten.length ≤ 24 := by
  have h3 : ∀ {L : List (List Pad)}, (∀ l ∈ L, lenOK l) → L.flatten.length ≤ 4 * L.length := by
    intro L
    induction L with
    | nil => simp
    | cons a r ih =>
      intro hL
      have := (hL a (by simp)).2; have := ih (fun l hl => hL l (by simp [hl]))
      rw [List.flatten_cons, List.length_append, List.length_cons]; omega
  have := h3 hc.2.1
  have := hc.1; omega
end Go.Proofs.Ytfbfapobmhfenaa
