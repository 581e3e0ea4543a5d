/-
  A filing gives a cabinet; a cabinet is small. Conditions: none.
-/
import Derived.Test.YtbeaandjhlpaeaaFileLaw
import Derived.Test.YtbeaandjhlpaeaaFind2
import Derived.Test.YtbeaandjhlpaeaaCab2
namespace Go.Proofs.Ytbeaandjhlpaeaa
open Go.ChangeShapes Go.WideShapes Go.ChangeAt Go.RowKit

theorem fileTo_props (css : List (List Pad)) (p : Pad) : ∀ k, (0 < fileTo css p k → ordPad (padAt (drw css (fileTo css p k)) 0) p < 0) ∧ ∀ i, fileTo css p k < i → i < k → ¬ ordPad (padAt (drw css i) 0) p < 0
  | 0 => ⟨fun h => by simp [fileTo] at h, fun i _ h => by omega⟩
  | k + 1 => by
    obtain ⟨h1, h2⟩ := fileTo_props css p k
    unfold fileTo
    by_cases hk : ordPad (padAt (drw css k) 0) p < 0
    · rw [if_pos hk]
      exact ⟨fun _ => hk, fun i a b => by omega⟩
    · rw [if_neg hk]
      refine ⟨h1, fun i a b => ?_⟩
      by_cases e : i = k
      · subst e; exact hk
      · exact h2 i a (by omega)
theorem drawer_ex {css : List (List Pad)} {p : Pad} (hc : cabOK css) (hf : findO css p = none) (hn : 0 < css.length) : DrawerOf css p (fileTo css p css.length) := by
  have hno := findO_none hc hf
  obtain ⟨h1, h2⟩ := fileTo_props css p css.length
  have hle := fileTo_le css p css.length
  refine ⟨by omega, fun h => by have := h1 h; omega, fun i a b => ?_⟩
  have h3 := h2 i a b
  have h4 : ordPad (padAt (drw css i) 0) p ≠ 0 := fun e => hno i 0 ⟨b, (hc.2.1 _ (drw_mem b)).1, ordPad_nil.1 e⟩
  omega
theorem cab_nil : cabOK [] := ⟨by simp, by simp, fun i hi => by simp at hi⟩
theorem fileS_ok {css css' : List (List Pad)} {p : Pad} (hc : cabOK css) (hp : okP p = true) (hf : findO css p = none) (h : fileS css p = some css') : cabOK css' := by
  by_cases hn : css.length = 0
  · unfold fileS at h
    rw [if_pos hn] at h
    injection h with h; subst h
    exact single_ok hp
  · have hd := drawer_ex hc hf (by omega)
    have ha := putIdx_place (p := p) (sorted_drw hc.2.2 hd.1)
    rw [fileS_turned hc hf hd ha] at h
    by_cases h6 : 6 < (turned css (fileTo css p css.length) (ins (drw css (fileTo css p css.length)) p (putIdx (drw css (fileTo css p css.length)) p))).length
    · rw [if_pos h6] at h; cases h
    · rw [if_neg h6] at h
      injection h with h; subst h
      exact turned_ok hc hp hf hd ha (by omega)
theorem fileO_ok {css css' : List (List Pad)} {p : Pad} (h : fileO css p = some css') : cabOK css' := by
  by_cases hx : cabOK css ∧ okP p = true ∧ findO css p = none
  · rw [fileO_yes hx.1 hx.2.1 hx.2.2] at h
    exact fileS_ok hx.1 hx.2.1 hx.2.2 h
  · rw [fileO_no hx] at h; cases h

theorem okP_size {p : Pad} (h : okP p = true) : p.case.size ≤ 12 := by
  unfold okP padB wordB at h
  simp only [Bool.and_eq_true, decide_eq_true_eq] at h
  have := h.2.2.2
  simpa using this
theorem padsSz_small : ∀ {ps : List Pad}, (∀ p ∈ ps, okP p = true) → padsSz ps ≤ 13 * ps.length
  | [], _ => by simp [padsSz]
  | p :: r, h => by
    have h1 := okP_size (h p (by simp))
    have h2 := padsSz_small (ps := r) (fun q hq => h q (by simp [hq]))
    simp only [padsSz, List.length_cons]; omega
theorem cabSz_small : ∀ {ds : List Drawer}, (∀ d ∈ ds, lenOK d.ps ∧ ∀ p ∈ d.ps, okP p = true) → cabSz ds ≤ 53 * ds.length
  | [], _ => by simp [cabSz]
  | d :: r, h => by
    obtain ⟨h1, h2⟩ := h d (by simp)
    have h3 := padsSz_small h2
    have h4 := cabSz_small (ds := r) (fun q hq => h q (by simp [hq]))
    unfold lenOK at h1
    simp only [cabSz, List.length_cons]; omega
theorem cab_small {ds : List Drawer} (h : cabOK (ds.map (·.ps))) : cabSz ds ≤ 318 := by
  have h1 := cabSz_small (ds := ds) (fun d hd => ⟨h.2.1 d.ps (List.mem_map_of_mem hd), fun p hp => sorted_okP h.2.2 (List.mem_flatten.2 ⟨d.ps, List.mem_map_of_mem hd, hp⟩)⟩)
  have h2 := h.1
  rw [List.length_map] at h2
  omega
end Go.Proofs.Ytbeaandjhlpaeaa
