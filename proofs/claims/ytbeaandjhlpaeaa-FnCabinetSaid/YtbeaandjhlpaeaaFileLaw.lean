/-
  Filing a pad: what the drawers are then, in plain words; they are a cabinet again. Conditions: none.
-/
import Derived.Test.YtbeaandjhlpaeaaFindLaw
namespace Go.Proofs.Ytbeaandjhlpaeaa
open Go.ChangeShapes Go.WideShapes Go.ChangeAt Go.RowKit

theorem sorted_iff {l : List Pad} : sortedOK l ↔ (∀ p ∈ l, okP p = true) ∧ l.Pairwise (fun p q => ordPad p q < 0) := by
  constructor
  · intro h
    refine ⟨fun p hp => sorted_okP h hp, List.pairwise_iff_getElem.2 fun i j hi hj hij => ?_⟩
    have := sorted_lt h hij hj
    rwa [show padAt l i = l[i] by unfold padAt; simp [List.getD, List.getElem?_eq_getElem hi], show padAt l j = l[j] by unfold padAt; simp [List.getD, List.getElem?_eq_getElem hj]] at this
  · rintro ⟨h1, h2⟩ i hi
    refine ⟨h1 _ (padAt_mem hi), fun h0 => ?_⟩
    have := List.pairwise_iff_getElem.1 h2 (i - 1) i (by omega) hi (by omega)
    rwa [show padAt l (i - 1) = l[i - 1] by unfold padAt; simp [List.getD, List.getElem?_eq_getElem (show i - 1 < l.length by omega)], show padAt l i = l[i] by unfold padAt; simp [List.getD, List.getElem?_eq_getElem hi]]

/-- A list with a pad at a place. -/
def ins (l : List Pad) (p : Pad) (a : Nat) : List Pad := l.take a ++ p :: l.drop a
theorem ins_len {l : List Pad} {p : Pad} {a : Nat} : (ins l p a).length = l.length + 1 := by
  unfold ins; rw [List.length_append, List.length_cons, List.length_take, List.length_drop]; omega
/-- How many pads at the head come ahead of p. -/
def putIdx : List Pad → Pad → Nat
  | [], _ => 0
  | q :: r, p => if ordPad q p < 0 then putIdx r p + 1 else 0
theorem putIdx_le : ∀ (l : List Pad) (p : Pad), putIdx l p ≤ l.length
  | [], _ => Nat.le_refl _
  | q :: r, p => by
    unfold putIdx
    split
    · have := putIdx_le r p; rw [List.length_cons]; omega
    · exact Nat.zero_le _
theorem padAt_cons_succ (q : Pad) (r : List Pad) (j : Nat) : padAt (q :: r) (j + 1) = padAt r j := by unfold padAt; simp [List.getD]
theorem padAt_cons_zero (q : Pad) (r : List Pad) : padAt (q :: r) 0 = q := by unfold padAt; simp [List.getD]
theorem putIdx_of : ∀ {l : List Pad} {p : Pad} {a : Nat}, a ≤ l.length → (∀ j, j < a → ordPad (padAt l j) p < 0) → (a < l.length → ¬ ordPad (padAt l a) p < 0) → putIdx l p = a
  | [], p, a, h, _, _ => by simp at h; subst h; rfl
  | q :: r, p, 0, _, _, h3 => by
    unfold putIdx
    rw [if_neg]
    have := h3 (by simp)
    rwa [padAt_cons_zero] at this
  | q :: r, p, a + 1, h1, h2, h3 => by
    unfold putIdx
    have h0 := h2 0 (by omega)
    rw [padAt_cons_zero] at h0
    rw [if_pos h0, putIdx_of (a := a) (by simpa using h1) (fun j hj => by have := h2 (j + 1) (by omega); rwa [padAt_cons_succ] at this) (fun hj => by have := h3 (by simpa using hj); rwa [padAt_cons_succ] at this)]
theorem place_idx {l : List Pad} {p : Pad} {a : Nat} (h : PlaceOf l p a) : a = putIdx l p :=
  (putIdx_of h.1 h.2.1 (fun ha => by have := h.2.2 a (Nat.le_refl _) ha; omega)).symm

/-- The drawer that the reference files into, looked for among the first k. -/
def fileTo (css : List (List Pad)) (p : Pad) : Nat → Nat
  | 0 => 0
  | k + 1 => if ordPad (padAt (drw css k) 0) p < 0 then k else fileTo css p k
theorem fileTo_spec {css : List (List Pad)} {p : Pad} : ∀ {k d : Nat}, (d < k ∨ d = 0) → (0 < d → ordPad (padAt (drw css d) 0) p < 0) → (∀ i, d < i → i < k → ¬ ordPad (padAt (drw css i) 0) p < 0) → fileTo css p k = d
  | 0, d, h, _, _ => by rcases h with h | h; · omega
                        · exact h.symm
  | k + 1, d, h, h1, h2 => by
    unfold fileTo
    by_cases hk : ordPad (padAt (drw css k) 0) p < 0
    · rw [if_pos hk]
      rcases Nat.lt_trichotomy d k with hlt | he | hgt
      · exact absurd hk (h2 k hlt (by omega))
      · exact he.symm
      · omega
    · rw [if_neg hk]
      refine fileTo_spec (k := k) ?_ h1 (fun i hi hik => h2 i hi (by omega))
      rcases Nat.lt_trichotomy d k with hlt | he | hgt
      · exact .inl hlt
      · subst he
        by_cases h0 : 0 < d
        · exact absurd (h1 h0) hk
        · right; omega
      · right; omega
theorem fileTo_le (css : List (List Pad)) (p : Pad) : ∀ k, fileTo css p k ≤ k - 1
  | 0 => Nat.le_refl _
  | k + 1 => by
    unfold fileTo
    split
    · omega
    · have := fileTo_le css p k; omega

def halfOf (n : Nat) : Nat := if 4 < n then (n + 1) / 2 else n
/-- The drawers behind a filing, some perhaps empty. -/
def partsAt (css : List (List Pad)) (a : Nat) (f : List Pad) : List (List Pad) := css.take a ++ ([f.take (halfOf f.length), f.drop (halfOf f.length)] ++ css.drop (a + 1))
def full? (l : List Pad) : Bool := !(l.length == 0)
def filed (css : List (List Pad)) (p : Pad) : List (List Pad) :=
  (partsAt css (fileTo css p css.length) (ins (drw css (fileTo css p css.length)) p (putIdx (drw css (fileTo css p css.length)) p))).filter full?
def fileS (css : List (List Pad)) (p : Pad) : Option (List (List Pad)) :=
  if css.length = 0 then some [[p]] else if 6 < (filed css p).length then none else some (filed css p)
noncomputable def fileO (css : List (List Pad)) (p : Pad) : Option (List (List Pad)) :=
  @ite _ (cabOK css ∧ okP p = true ∧ findO css p = none) (Classical.propDecidable _) (fileS css p) none
theorem fileO_yes {css : List (List Pad)} {p : Pad} (h1 : cabOK css) (h2 : okP p = true) (h3 : findO css p = none) : fileO css p = fileS css p := by unfold fileO; rw [if_pos ⟨h1, h2, h3⟩]
theorem fileO_no {css : List (List Pad)} {p : Pad} (h : ¬ (cabOK css ∧ okP p = true ∧ findO css p = none)) : fileO css p = none := by unfold fileO; rw [if_neg h]

theorem drawer_file {css : List (List Pad)} {p : Pad} {d : Nat} (hc : cabOK css) (hf : findO css p = none) (hd : DrawerOf css p d) : fileTo css p css.length = d := by
  have hno := findO_none hc hf
  refine fileTo_spec (.inl hd.1) (fun h0 => ?_) (fun i hi hil => by have := hd.2.2 i hi hil; omega)
  have h1 := hd.2.1 h0
  by_cases h2 : ordPad (padAt (drw css d) 0) p = 0
  · exact absurd ⟨hd.1, (hc.2.1 _ (drw_mem hd.1)).1, ordPad_nil.1 h2⟩ (hno d 0)
  · omega
theorem full_iff {l : List Pad} : full? l = true ↔ 1 ≤ l.length := by
  unfold full?
  cases l <;> simp
theorem filter_full {css : List (List Pad)} (h : ∀ ps ∈ css, lenOK ps) : css.filter full? = css := List.filter_eq_self.2 fun x hx => full_iff.2 (h x hx).1
theorem halfOf_small {n : Nat} (h : n ≤ 4) : halfOf n = n := by unfold halfOf; rw [if_neg (by omega)]
theorem halfOf_great {n : Nat} (h : 4 < n) : halfOf n = (n + 1) / 2 := by unfold halfOf; rw [if_pos h]

/-- The drawers behind a filing, as the tree has them. -/
def turned (css : List (List Pad)) (a : Nat) (f : List Pad) : List (List Pad) := if 4 < f.length then css.take a ++ (f.take ((f.length + 1) / 2) :: f.drop ((f.length + 1) / 2) :: css.drop (a + 1)) else css.take a ++ (f :: css.drop (a + 1))
theorem parts_turned {css : List (List Pad)} {a : Nat} {f : List Pad} (h : ∀ ps ∈ css, lenOK ps) (hf : 1 ≤ f.length) : (partsAt css a f).filter full? = turned css a f := by
  have h1 : (css.take a).filter full? = css.take a := filter_full fun x hx => h x (List.mem_of_mem_take hx)
  have h2 : (css.drop (a + 1)).filter full? = css.drop (a + 1) := filter_full fun x hx => h x (List.mem_of_mem_drop hx)
  unfold partsAt turned
  rw [List.filter_append, List.filter_append, h1, h2]
  by_cases h4 : 4 < f.length
  · rw [if_pos h4, halfOf_great h4]
    have f1 : full? (f.take ((f.length + 1) / 2)) = true := full_iff.2 (by rw [List.length_take]; omega)
    have f2 : full? (f.drop ((f.length + 1) / 2)) = true := full_iff.2 (by rw [List.length_drop]; omega)
    simp [f1, f2]
  · rw [if_neg h4, halfOf_small (by omega)]
    have f1 : full? (f.take f.length) = true := full_iff.2 (by rw [List.length_take]; omega)
    have f2 : full? (f.drop f.length) = false := by
      cases hx : full? (f.drop f.length) with
      | false => rfl
      | true => have := full_iff.1 hx; rw [List.length_drop] at this; omega
    rw [List.filter_cons, if_pos f1, List.filter_cons, if_neg (by rw [f2]; simp), List.take_length]; simp
theorem filed_eq {css : List (List Pad)} {p : Pad} {d a : Nat} (hc : cabOK css) (hf : findO css p = none) (hd : DrawerOf css p d) (ha : PlaceOf (drw css d) p a) : filed css p = turned css d (ins (drw css d) p a) := by
  unfold filed
  rw [drawer_file hc hf hd, ← place_idx ha, parts_turned hc.2.1 (by rw [ins_len]; omega)]
theorem fileS_nil (p : Pad) : fileS [] p = some [[p]] := rfl
theorem fileS_turned {css : List (List Pad)} {p : Pad} {d a : Nat} (hc : cabOK css) (hf : findO css p = none) (hd : DrawerOf css p d) (ha : PlaceOf (drw css d) p a) : fileS css p = if 6 < (turned css d (ins (drw css d) p a)).length then none else some (turned css d (ins (drw css d) p a)) := by
  unfold fileS
  rw [if_neg (by have := hd.1; omega), filed_eq hc hf hd ha]

theorem turned_flat {css : List (List Pad)} {a : Nat} {f : List Pad} : (turned css a f).flatten = (css.take a).flatten ++ (f ++ (css.drop (a + 1)).flatten) := by
  unfold turned
  split
  · rw [List.flatten_append, List.flatten_cons, List.flatten_cons, ← List.append_assoc (f.take _), List.take_append_drop]
  · rw [List.flatten_append, List.flatten_cons]
theorem css_flat {css : List (List Pad)} {d : Nat} (h : d < css.length) : css.flatten = (css.take d).flatten ++ (drw css d ++ (css.drop (d + 1)).flatten) := by
  have h := congrArg List.flatten (css_split h)
  rw [List.flatten_append, List.flatten_cons] at h
  exact h
theorem mem_take_flat {css : List (List Pad)} {d : Nat} {q : Pad} (h : q ∈ (css.take d).flatten) : ∃ i k, i < d ∧ i < css.length ∧ k < (drw css i).length ∧ padAt (drw css i) k = q := by
  obtain ⟨l, hl, hq⟩ := List.mem_flatten.1 h
  obtain ⟨i, hi, rfl⟩ := List.getElem_of_mem hl
  rw [List.length_take] at hi
  obtain ⟨k, hk, rfl⟩ := List.getElem_of_mem hq
  rw [List.getElem_take] at hk
  have hi2 : i < css.length := by omega
  have e : drw css i = css[i] := by unfold drw; simp [List.getD, List.getElem?_eq_getElem hi2]
  refine ⟨i, k, by omega, hi2, by rw [e]; exact hk, ?_⟩
  rw [e]
  unfold padAt; simp [List.getD, List.getElem?_eq_getElem hk]
theorem mem_drop_flat {css : List (List Pad)} {d : Nat} {q : Pad} (h : q ∈ (css.drop d).flatten) : ∃ i k, d ≤ i ∧ i < css.length ∧ k < (drw css i).length ∧ padAt (drw css i) k = q := by
  obtain ⟨l, hl, hq⟩ := List.mem_flatten.1 h
  obtain ⟨i, hi, rfl⟩ := List.getElem_of_mem hl
  rw [List.length_drop] at hi
  obtain ⟨k, hk, rfl⟩ := List.getElem_of_mem hq
  rw [List.getElem_drop] at hk
  have hi2 : d + i < css.length := by omega
  have e : drw css (d + i) = css[d + i] := by unfold drw; simp [List.getD, List.getElem?_eq_getElem hi2]
  refine ⟨d + i, k, by omega, hi2, by rw [e]; exact hk, ?_⟩
  rw [e]
  unfold padAt; simp [List.getD, List.getElem?_eq_getElem hk]
theorem ins_sorted {A x C : List Pad} {p : Pad} {a : Nat} (h : sortedOK (A ++ (x ++ C))) (hp : okP p = true) (h1 : ∀ q ∈ A ++ x.take a, ordPad q p < 0) (h2 : ∀ q ∈ x.drop a ++ C, ordPad p q < 0) : sortedOK (A ++ (ins x p a ++ C)) := by
  have e1 : A ++ (x ++ C) = (A ++ x.take a) ++ (x.drop a ++ C) := by
    rw [List.append_assoc, ← List.append_assoc (x.take a), List.take_append_drop]
  have e2 : A ++ (ins x p a ++ C) = (A ++ x.take a) ++ (p :: (x.drop a ++ C)) := by unfold ins; simp
  rw [e2]; rw [e1] at h
  generalize A ++ x.take a = L at *
  generalize x.drop a ++ C = R at *
  rw [sorted_iff] at *
  obtain ⟨g1, g2⟩ := h
  rw [List.pairwise_append] at g2
  refine ⟨fun q hq => ?_, List.pairwise_append.2 ⟨g2.1, List.pairwise_cons.2 ⟨h2, g2.2.1⟩, fun q hq r hr => ?_⟩⟩
  · rcases List.mem_append.1 hq with hq | hq
    · exact g1 q (List.mem_append.2 (.inl hq))
    · rcases List.mem_cons.1 hq with rfl | hq
      · exact hp
      · exact g1 q (List.mem_append.2 (.inr hq))
  · rcases List.mem_cons.1 hr with rfl | hr
    · exact h1 q hq
    · exact g2.2.2 q hq r hr
theorem file_before {css : List (List Pad)} {p : Pad} {d a : Nat} (hc : cabOK css) (hf : findO css p = none) (hd : DrawerOf css p d) (ha : PlaceOf (drw css d) p a) : (∀ q ∈ (css.take d).flatten ++ (drw css d).take a, ordPad q p < 0) ∧ ∀ q ∈ (drw css d).drop a ++ (css.drop (d + 1)).flatten, ordPad p q < 0 := by
  have hno := findO_none hc hf
  have hpos : ∀ {j}, j < css.length → 0 < (drw css j).length := fun hj => (hc.2.1 _ (drw_mem hj)).1
  constructor
  · intro q hq
    rcases List.mem_append.1 hq with hq | hq
    · obtain ⟨i, k, h1, h2, h3, rfl⟩ := mem_take_flat hq
      have q1 := hd.2.1 (by omega)
      have q2 := cab_lt hc.2.2 h2 h3 hd.1 (hpos hd.1) (.inl h1)
      by_cases e : ordPad (padAt (drw css d) 0) p = 0
      · rw [ordPad_nil] at e; rw [e] at q2; exact q2
      · exact ordPad_trans q2 (by omega)
    · obtain ⟨j, hj, rfl⟩ := List.getElem_of_mem hq
      rw [List.length_take] at hj
      have := ha.2.1 j (by omega)
      rwa [show padAt (drw css d) j = (drw css d)[j]'(by omega) by unfold padAt; simp [List.getD, List.getElem?_eq_getElem (show j < (drw css d).length by omega)], ← List.getElem_take (j := a) (h := by rw [List.length_take]; omega)] at this
  · intro q hq
    rcases List.mem_append.1 hq with hq | hq
    · obtain ⟨j, hj, rfl⟩ := List.getElem_of_mem hq
      rw [List.length_drop] at hj
      have h1 := ha.2.2 (a + j) (by omega) (by omega)
      have h2 : ordPad (padAt (drw css d) (a + j)) p ≠ 0 := fun e => hno d (a + j) ⟨hd.1, by omega, ordPad_nil.1 e⟩
      have h3 := ordPad_anti (padAt (drw css d) (a + j)) p
      rw [List.getElem_drop]
      rw [show padAt (drw css d) (a + j) = (drw css d)[a + j]'(by omega) by unfold padAt; simp [List.getD, List.getElem?_eq_getElem (show a + j < (drw css d).length by omega)]] at h1 h2 h3
      omega
    · obtain ⟨i, k, h1, h2, h3, rfl⟩ := mem_drop_flat hq
      have q1 := hd.2.2 i (by omega) h2
      have q3 := ordPad_anti (padAt (drw css i) 0) p
      by_cases hk : k = 0
      · subst hk; omega
      · have q2 := cab_lt hc.2.2 h2 (hpos h2) h2 h3 (.inr ⟨rfl, by omega⟩)
        exact ordPad_trans (by omega) q2
theorem turned_ok {css : List (List Pad)} {p : Pad} {d a : Nat} (hc : cabOK css) (hp : okP p = true) (hf : findO css p = none) (hd : DrawerOf css p d) (ha : PlaceOf (drw css d) p a) (h6 : (turned css d (ins (drw css d) p a)).length ≤ 6) : cabOK (turned css d (ins (drw css d) p a)) := by
  refine ⟨h6, ?_, ?_⟩
  · have hl := ins_len (l := drw css d) (p := p) (a := a)
    have hdl := hc.2.1 _ (drw_mem hd.1)
    have h1 : ∀ ps ∈ css.take d, lenOK ps := fun x hx => hc.2.1 x (List.mem_of_mem_take hx)
    have h2 : ∀ ps ∈ css.drop (d + 1), lenOK ps := fun x hx => hc.2.1 x (List.mem_of_mem_drop hx)
    generalize ins (drw css d) p a = f at *
    unfold lenOK at hdl
    unfold turned
    split
    · intro x hx
      rcases List.mem_append.1 hx with hx | hx
      · exact h1 x hx
      · rcases List.mem_cons.1 hx with rfl | hx
        · unfold lenOK; rw [List.length_take]; omega
        · rcases List.mem_cons.1 hx with rfl | hx
          · unfold lenOK; rw [List.length_drop]; omega
          · exact h2 x hx
    · intro x hx
      rcases List.mem_append.1 hx with hx | hx
      · exact h1 x hx
      · rcases List.mem_cons.1 hx with rfl | hx
        · unfold lenOK; omega
        · exact h2 x hx
  · rw [turned_flat]
    have hs := hc.2.2
    rw [css_flat hd.1] at hs
    obtain ⟨b1, b2⟩ := file_before hc hf hd ha
    exact ins_sorted hs hp b1 b2
theorem single_ok {p : Pad} (hp : okP p = true) : cabOK [[p]] := by
  refine ⟨by simp, fun x hx => ?_, ?_⟩
  · simp at hx; subst hx; exact ⟨by simp, by simp⟩
  · rw [sorted_iff]; simp [hp]
end Go.Proofs.Ytbeaandjhlpaeaa
