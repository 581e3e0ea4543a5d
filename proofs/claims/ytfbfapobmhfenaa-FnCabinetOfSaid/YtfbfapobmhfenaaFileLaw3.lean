/-
  What a filing changes, in plain lists: the pads are the old ones and the new one; a cabinet's order is the only one. Conditions: none.
-/
import Derived.Test.YtfbfapobmhfenaaCabOf
import Derived.Test.YtfbfapobmhfenaaTakeDraw
namespace Go.Proofs.Ytfbfapobmhfenaa
open Go.ChangeShapes Go.WideShapes Go.ChangeAt Go.RowKit
set_option maxRecDepth 100000

theorem ins_perm (l : List Pad) (p : Pad) (a : Nat) : (ins l p a).Perm (p :: l) := by
  unfold ins
  have h := List.perm_middle (a := p) (l₁ := l.take a) (l₂ := l.drop a)
  rwa [List.take_append_drop] at h
theorem turned_perm {css : List (List Pad)} {d a : Nat} {p : Pad} (hd : d < css.length) : (turned css d (ins (drw css d) p a)).flatten.Perm (p :: css.flatten) := by
  rw [turned_flat, css_flat hd]
  have h1 := (ins_perm (drw css d) p a).append_right (css.drop (d + 1)).flatten
  have h2 := h1.append_left (css.take d).flatten
  refine h2.trans ?_
  rw [List.cons_append]
  exact List.perm_middle
theorem turned_len {css : List (List Pad)} {d : Nat} {f : List Pad} (hd : d < css.length) : (turned css d f).length = css.length ∨ (turned css d f).length = css.length + 1 := by
  unfold turned
  split
  · right; simp; omega
  · left; simp; omega
/-- What a filing gives. -/
theorem file_cases {css css' : List (List Pad)} {p : Pad} (h : fileO css p = some css') : cabOK css ∧ okP p = true ∧ findO css p = none ∧ cabOK css' ∧ css'.flatten.Perm (p :: css.flatten) ∧ (css'.length = css.length ∨ css'.length = css.length + 1) := by
  have hok := fileO_ok h
  rcases fileO_cases css p with ⟨_, h1⟩ | ⟨_, _, h1⟩ | ⟨_, _, _, h1⟩ | ⟨hc, hp, hf, h1⟩
  · rw [h1] at h; cases h
  · rw [h1] at h; cases h
  · rw [h1] at h; cases h
  · refine ⟨hc, hp, hf, hok, ?_⟩
    rw [h1] at h
    cases css with
    | nil => rw [fileS_nil] at h; injection h with h; subst h; exact ⟨List.Perm.refl _, .inr rfl⟩
    | cons x r =>
      have hd := drawer_ex hc hf (by simp)
      have hs := putIdx_place (p := p) (sorted_drw hc.2.2 hd.1)
      rw [fileS_turned hc hf hd hs] at h
      split at h
      · cases h
      · injection h with h; subst h
        exact ⟨turned_perm hd.1, turned_len hd.1⟩
theorem sorted_unique {a b : List Pad} (ha : sortedOK a) (hb : sortedOK b) (h : a.Perm b) : a = b :=
  List.Perm.eq_of_pairwise (le := fun p q => ordPad p q < 0) (fun p q _ _ h1 h2 => by have := ordPad_anti p q; omega) (sorted_iff.1 ha).2 (sorted_iff.1 hb).2 h
theorem mem_found {css : List (List Pad)} {p : Pad} (hc : cabOK css) (h : p ∈ css.flatten) : ∃ i k, findO css p = some (i, k) := by
  rw [← List.take_length (l := css)] at h
  obtain ⟨i, k, _, h2, h3, h4⟩ := mem_take_flat h
  exact ⟨i, k, findO_yes hc ⟨h2, h3, h4⟩⟩
theorem not_mem {css : List (List Pad)} {p : Pad} (hc : cabOK css) (h : findO css p = none) : p ∉ css.flatten := fun hm => by
  obtain ⟨i, k, e⟩ := mem_found hc hm
  rw [h] at e; cases e
theorem filter_not {l : List Pad} {p : Pad} (h : p ∉ l) : l.filter (notP p) = l := List.filter_eq_self.2 fun _ hx => notP_true.2 fun e => h (e ▸ hx)
theorem found_mem {css : List (List Pad)} {p : Pad} {x : Nat × Nat} (h : findO css p = some x) : p ∈ css.flatten := by
  rcases x with ⟨i, k⟩
  obtain ⟨_, h1, h2, h3⟩ := findO_some h
  refine List.mem_flatten.2 ⟨drw css i, drw_mem h1, ?_⟩
  rw [← h3]
  exact List.mem_of_getElem? (padAt_some h2)
theorem file_found {css css' : List (List Pad)} {p : Pad} (h : fileO css p = some css') : ∃ i k, findO css' p = some (i, k) := by
  obtain ⟨_, _, _, hok, hp, _⟩ := file_cases h
  exact mem_found hok (hp.mem_iff.2 (by simp))
theorem file_again {css css' : List (List Pad)} {p : Pad} (h : fileO css p = some css') : fileO css' p = none := by
  obtain ⟨i, k, e⟩ := file_found h
  exact fileO_no (fun h => by rw [e] at h; cases h.2.2)
theorem file_take {css css' : List (List Pad)} {p : Pad} (h : fileO css p = some css') : takeO css' p = some (thinned (notP p) css') ∧ cabOK (thinned (notP p) css') ∧ (thinned (notP p) css').flatten = css.flatten := by
  obtain ⟨hc, _, hf, hok, hp, _⟩ := file_cases h
  obtain ⟨i, k, e⟩ := file_found h
  refine ⟨takeO_yes e, thinned_ok hok, ?_⟩
  refine sorted_unique (thinned_ok hok).2.2 hc.2.2 ?_
  rw [thinned_flat]
  have h1 := hp.filter (notP p)
  rw [List.filter_cons_of_neg (by rw [notP_false.2 rfl]; simp), filter_not (not_mem hc hf)] at h1
  exact h1
theorem of_perm : ∀ {l : List Pad} {css css' : List (List Pad)}, ofO css l = some css' → css'.flatten.Perm (l ++ css.flatten)
  | [], css, css', e => by injection e with e; subst e; exact List.Perm.refl _
  | p :: r, css, css', e => by
    unfold ofO at e
    cases hf : fileO css p with
    | none => rw [hf] at e; cases e
    | some c =>
      rw [hf] at e
      have h1 := of_perm (l := r) e
      have h2 := (file_cases hf).2.2.2.2.1
      exact (h1.trans (h2.append_left r)).trans List.perm_middle
/-- A list in order that is filed gives itself. -/
theorem of_sorted {l : List Pad} {css : List (List Pad)} (hs : sortedOK l) (h : ofO [] l = some css) : css.flatten = l := by
  have := of_perm h
  rw [List.flatten_nil, List.append_nil] at this
  exact sorted_unique (ofO_ok cab_nil h).2.2 hs this
theorem of_back {l : List Pad} {css css' : List (List Pad)} (h : ofO [] l = some css) (h' : ofO [] l.reverse = some css') : css.flatten = css'.flatten := by
  have h1 := of_perm h
  have h2 := of_perm h'
  rw [List.flatten_nil, List.append_nil] at h1 h2
  exact sorted_unique (ofO_ok cab_nil h).2.2 (ofO_ok cab_nil h').2.2 (h1.trans ((List.reverse_perm l).symm.trans h2.symm))
theorem of_len {l : List Pad} {css : List (List Pad)} (h : ofO [] l = some css) : css.flatten.length = l.length := by
  have := (of_perm h).length_eq
  simpa using this
theorem cons_filter {p : Pad} : ∀ {l : List Pad}, l.Pairwise (fun p q => ordPad p q < 0) → p ∈ l → (p :: l.filter (notP p)).Perm l
  | q :: r, h, hm => by
    obtain ⟨h1, h2⟩ := List.pairwise_cons.1 h
    by_cases e : q = p
    · subst e
      rw [List.filter_cons_of_neg (by rw [notP_false.2 rfl]; simp), filter_not (fun hq => by have := h1 q hq; rw [ordPad_self] at this; omega)]
    · rw [List.filter_cons_of_pos (notP_true.2 e)]
      have hr : p ∈ r := by rcases List.mem_cons.1 hm with h | h; exact absurd h.symm e; exact h
      exact (List.Perm.swap q p _).trans ((cons_filter h2 hr).cons q)
/-- A pad that was found is taken and filed again. -/
theorem refile {css : List (List Pad)} {p : Pad} {x : Nat × Nat} (h : findO css p = some x) : (fileO (thinned (notP p) css) p = none → css.length = 6) ∧ ∀ y, fileO (thinned (notP p) css) p = some y → y.flatten = css.flatten := by
  have hc : cabOK css := by rcases x with ⟨i, k⟩; exact (findO_some h).1
  have hm := found_mem h
  have hp := cab_okP hc p hm
  have hx := thinned_ok (p := notP p) hc
  have hl : (thinned (notP p) css).length ≤ css.length := by
    unfold thinned
    have := List.length_filter_le full? (css.map (·.filter (notP p)))
    rwa [List.length_map] at this
  have h6 := hc.1
  have hg := take_gone css p
  constructor
  · intro hn
    rw [fileO_yes hx hp hg] at hn
    generalize thinned (notP p) css = y at *
    have hy : y ≠ [] := by rintro rfl; rw [fileS_nil] at hn; cases hn
    have hd := drawer_ex hx hg (List.length_pos_iff.2 hy)
    have hs := putIdx_place (p := p) (sorted_drw hx.2.2 hd.1)
    rw [fileS_turned hx hg hd hs] at hn
    split at hn
    · rename_i h7
      have := turned_len (f := ins (drw y (fileTo y p y.length)) p (putIdx (drw y (fileTo y p y.length)) p)) hd.1
      omega
    · cases hn
  · intro y hy
    obtain ⟨_, _, _, hok, hpm, _⟩ := file_cases hy
    refine sorted_unique hok.2.2 hc.2.2 (hpm.trans ?_)
    rw [thinned_flat]
    exact cons_filter (sorted_iff.1 hc.2.2).2 hm
end Go.Proofs.Ytfbfapobmhfenaa
