/-
  Pads have a linear order; a pad of a cabinet has one place, and the drawer's search finds it. Conditions: none.
-/
import Derived.Test.YtbeaandjhlpaeaaCabDef
import Derived.Sort.Walk0
namespace Go.Proofs.Ytbeaandjhlpaeaa
open Go.ChangeShapes Go.WideShapes Go.ChangeAt Go.RowKit

theorem cbL (a b : List UInt8) : Lib.compareBytes a b = if a < b then -1 else if a = b then 0 else 1 := by
  rw [cb_spec, bytesLess_eq]
  by_cases h : a < b <;> simp [h]
theorem lt_irr (a : List UInt8) : ¬ a < a := List.lt_irrefl a
theorem cb_neg {a b : List UInt8} : Lib.compareBytes a b < 0 ↔ a < b := by
  rw [cbL]
  by_cases h : a < b
  · simp [h]
  · rw [if_neg h]
    constructor
    · intro h2; split at h2 <;> omega
    · intro h2; exact absurd h2 h
theorem cb_nil {a b : List UInt8} : Lib.compareBytes a b = 0 ↔ a = b := by
  rw [cbL]
  by_cases h : a < b
  · constructor
    · intro e; rw [if_pos h] at e; cases e
    · rintro rfl; exact absurd h (lt_irr a)
  · by_cases e : a = b <;> simp [h, e]
theorem cb_range (a b : List UInt8) : Lib.compareBytes a b = -1 ∨ Lib.compareBytes a b = 0 ∨ Lib.compareBytes a b = 1 := by
  rw [cbL]
  by_cases h : a < b
  · left; simp [h]
  · by_cases e : a = b <;> simp [h, e]
theorem cb_anti (a b : List UInt8) : Lib.compareBytes b a = - Lib.compareBytes a b := by
  rw [cbL, cbL]
  by_cases h : a < b
  · have h2 : ¬ b < a := fun h2 => lt_irr a (List.lt_trans h h2)
    have h3 : ¬ b = a := by rintro rfl; exact lt_irr _ h
    simp [h, h2, h3]
  · by_cases e : a = b
    · subst e; simp [h]
    · have h2 : b < a := by
        rcases List.le_iff_lt_or_eq.1 (List.not_lt.1 h) with h2 | h2
        · exact h2
        · exact absurd h2.symm e
      simp [h, h2, e]
theorem pad_ext {p q : Pad} (h1 : p.day = q.day) (h2 : p.case.data.toList = q.case.data.toList) : p = q := by
  rcases p with ⟨d, c⟩; rcases q with ⟨d', c'⟩
  simp only at h1 h2
  subst h1
  have : c = c' := by
    rcases c with ⟨c⟩; rcases c' with ⟨c'⟩
    simp only at h2
    rw [Array.toList_inj.1 h2]
  rw [this]
theorem ordPad_neg {p q : Pad} : ordPad p q < 0 ↔ p.day < q.day ∨ (p.day = q.day ∧ p.case.data.toList < q.case.data.toList) := by
  unfold ordPad
  rcases Int.lt_trichotomy p.day q.day with h | h | h
  · rw [ordP_lt h]; simp [h]
  · rw [h, ordP_eq, cb_neg]; simp
  · rw [ordP_gt h]
    constructor
    · intro h; omega
    · rintro (h1 | h1) <;> omega
theorem ordPad_nil {p q : Pad} : ordPad p q = 0 ↔ p = q := by
  unfold ordPad
  rcases Int.lt_trichotomy p.day q.day with h | h | h
  · rw [ordP_lt h]
    constructor
    · intro h; omega
    · rintro rfl; omega
  · rw [h, ordP_eq, cb_nil]
    exact ⟨fun e => pad_ext h e, fun e => by rw [e]⟩
  · rw [ordP_gt h]
    constructor
    · intro h; omega
    · rintro rfl; omega
theorem ordPad_anti (p q : Pad) : ordPad q p = - ordPad p q := by
  unfold ordPad
  rcases Int.lt_trichotomy p.day q.day with h | h | h
  · rw [ordP_lt h, ordP_gt h]; rfl
  · rw [h, ordP_eq, ordP_eq, cb_anti]
  · rw [ordP_lt h, ordP_gt h]
theorem ordPad_trans {p q r : Pad} (h : ordPad p q < 0) (h2 : ordPad q r < 0) : ordPad p r < 0 := by
  rw [ordPad_neg] at *
  rcases h with h | ⟨e, h⟩ <;> rcases h2 with h2 | ⟨e2, h2⟩
  · left; omega
  · left; omega
  · left; omega
  · right; exact ⟨by omega, List.lt_trans h h2⟩
theorem ordPad_trans_le {p q r : Pad} (h : ordPad p q ≤ 0) (h2 : ordPad q r < 0) : ordPad p r < 0 := by
  by_cases e : ordPad p q = 0
  · rw [ordPad_nil] at e; subst e; exact h2
  · exact ordPad_trans (by omega) h2
theorem ordPad_self (p : Pad) : ordPad p p = 0 := ordPad_nil.2 rfl

theorem sorted_lt {l : List Pad} (h : sortedOK l) {i : Nat} : ∀ {j : Nat}, i < j → j < l.length → ordPad (padAt l i) (padAt l j) < 0 := by
  intro j
  induction j with
  | zero => intro h; omega
  | succ j ih =>
    intro hij hj
    have h1 := (h (j + 1) hj).2 (by omega)
    simp only [Nat.add_sub_cancel] at h1
    by_cases e : i = j
    · subst e; exact h1
    · exact ordPad_trans (ih (by omega) (by omega)) h1

/-- The i-th drawer. -/
def drw (css : List (List Pad)) (i : Nat) : List Pad := css.getD i []
theorem drw_some {css : List (List Pad)} {i : Nat} (h : i < css.length) : css[i]? = some (drw css i) := by
  unfold drw; simp [List.getD, List.getElem?_eq_getElem h]
theorem drw_mem {css : List (List Pad)} {i : Nat} (h : i < css.length) : drw css i ∈ css := List.mem_of_getElem? (drw_some h)
def cpos (css : List (List Pad)) (i k : Nat) : Nat := (css.take i).flatten.length + k
theorem css_split {css : List (List Pad)} {i : Nat} (h : i < css.length) : css = css.take i ++ drw css i :: css.drop (i + 1) := by
  have h1 : css = css.take i ++ css.drop i := (List.take_append_drop i css).symm
  have h2 : css.drop i = css[i] :: css.drop (i + 1) := List.drop_eq_getElem_cons h
  have h3 : css[i] = drw css i := by unfold drw; simp [List.getD, List.getElem?_eq_getElem h]
  rw [h3] at h2; rw [← h2]; exact h1
theorem cpos_at {css : List (List Pad)} {i k : Nat} (hi : i < css.length) (hk : k < (drw css i).length) : cpos css i k < css.flatten.length ∧ padAt css.flatten (cpos css i k) = padAt (drw css i) k := by
  have e : css.flatten = (css.take i).flatten ++ (drw css i ++ (css.drop (i + 1)).flatten) := by
    have h := congrArg List.flatten (css_split hi)
    rw [List.flatten_append, List.flatten_cons] at h
    exact h
  unfold cpos
  constructor
  · have h2 := congrArg List.length e
    simp only [List.length_append] at h2; omega
  · rw [e, padAt_append_right (by omega), Nat.add_sub_cancel_left, padAt_append_left hk]
theorem take_flat_mono {css : List (List Pad)} : ∀ {i j : Nat}, i ≤ j → (css.take i).flatten.length ≤ (css.take j).flatten.length := by
  intro i j h
  have e : css.take j = (css.take j).take i ++ (css.take j).drop i := (List.take_append_drop i _).symm
  rw [List.take_take, Nat.min_eq_left h] at e
  rw [e, List.flatten_append, List.length_append]; omega
theorem cpos_lt {css : List (List Pad)} {i j k k' : Nat} (hij : i < j) (hj : j < css.length) (hk : k < (drw css i).length) : cpos css i k < cpos css j k' := by
  unfold cpos
  have h1 := take_flat_mono (css := css) (show i + 1 ≤ j by omega)
  have h2 : (css.take (i + 1)).flatten.length = (css.take i).flatten.length + (drw css i).length := by
    rw [take_step (drw_some (by omega)), List.flatten_append, List.length_append]; simp
  omega

/-- The pad p is the k-th of the i-th drawer. -/
def FoundAt (css : List (List Pad)) (p : Pad) (i k : Nat) : Prop := i < css.length ∧ k < (drw css i).length ∧ padAt (drw css i) k = p
theorem cab_lt {css : List (List Pad)} (hs : sortedOK css.flatten) {i j k k' : Nat} (hi : i < css.length) (hk : k < (drw css i).length) (hj : j < css.length) (hk' : k' < (drw css j).length) (h : i < j ∨ (i = j ∧ k < k')) : ordPad (padAt (drw css i) k) (padAt (drw css j) k') < 0 := by
  obtain ⟨a1, a2⟩ := cpos_at hi hk
  obtain ⟨b1, b2⟩ := cpos_at hj hk'
  rw [← a2, ← b2]
  refine sorted_lt hs ?_ b1
  rcases h with h | ⟨rfl, h⟩
  · exact cpos_lt h hj hk
  · unfold cpos; omega
theorem FoundAt.uniq {css : List (List Pad)} {p : Pad} {i k i' k' : Nat} (hs : sortedOK css.flatten) (h : FoundAt css p i k) (h' : FoundAt css p i' k') : i = i' ∧ k = k' := by
  obtain ⟨h1, h2, h3⟩ := h
  obtain ⟨g1, g2, g3⟩ := h'
  have key : ∀ {a b : Nat × Nat}, a.1 < css.length → a.2 < (drw css a.1).length → b.1 < css.length → b.2 < (drw css b.1).length → padAt (drw css a.1) a.2 = p → padAt (drw css b.1) b.2 = p → ¬ (a.1 < b.1 ∨ (a.1 = b.1 ∧ a.2 < b.2)) := by
    intro a b q1 q2 q3 q4 q5 q6 q7
    have := cab_lt hs q1 q2 q3 q4 q7
    rw [q5, q6, ordPad_self] at this
    omega
  have e1 := key (a := (i, k)) (b := (i', k')) h1 h2 g1 g2 h3 g3
  have e2 := key (a := (i', k')) (b := (i, k)) g1 g2 h1 h2 g3 h3
  simp only at e1 e2
  omega

/-- The place of a pad in a cabinet. -/
noncomputable def findO (css : List (List Pad)) (p : Pad) : Option (Nat × Nat) :=
  @dite _ (cabOK css ∧ ∃ x : Nat × Nat, FoundAt css p x.1 x.2) (Classical.propDecidable _) (fun h => some h.2.choose) (fun _ => none)
theorem findO_yes {css : List (List Pad)} {p : Pad} {i k : Nat} (hc : cabOK css) (h : FoundAt css p i k) : findO css p = some (i, k) := by
  have hx : cabOK css ∧ ∃ x : Nat × Nat, FoundAt css p x.1 x.2 := ⟨hc, (i, k), h⟩
  unfold findO
  rw [dif_pos hx]
  obtain ⟨e1, e2⟩ := FoundAt.uniq hc.2.2 hx.2.choose_spec h
  rw [← e1, ← e2]
theorem findO_no {css : List (List Pad)} {p : Pad} (h : ∀ i k, ¬ FoundAt css p i k) : findO css p = none := by
  unfold findO
  rw [dif_neg]
  rintro ⟨_, x, hx⟩; exact h _ _ hx
theorem findO_bad {css : List (List Pad)} {p : Pad} (h : ¬ cabOK css) : findO css p = none := by
  unfold findO
  rw [dif_neg]
  rintro ⟨hc, _⟩; exact h hc
theorem findO_some {css : List (List Pad)} {p : Pad} {i k : Nat} (h : findO css p = some (i, k)) : cabOK css ∧ FoundAt css p i k := by
  unfold findO at h
  split at h
  · rename_i hx
    injection h with h
    have := hx.2.choose_spec
    rw [h] at this
    exact ⟨hx.1, this⟩
  · cases h
theorem findO_none {css : List (List Pad)} {p : Pad} (hc : cabOK css) (h : findO css p = none) : ∀ i k, ¬ FoundAt css p i k := by
  intro i k hf
  rw [findO_yes hc hf] at h; cases h

/-- The drawer that a pad belongs to. -/
def DrawerOf (css : List (List Pad)) (p : Pad) (d : Nat) : Prop :=
  d < css.length ∧ (0 < d → ordPad (padAt (drw css d) 0) p ≤ 0) ∧ ∀ i, d < i → i < css.length → 0 < ordPad (padAt (drw css i) 0) p
/-- The place that a pad has in a list. -/
def PlaceOf (l : List Pad) (p : Pad) (a : Nat) : Prop := a ≤ l.length ∧ (∀ j, j < a → ordPad (padAt l j) p < 0) ∧ ∀ j, a ≤ j → j < l.length → 0 ≤ ordPad (padAt l j) p
theorem find_law {css : List (List Pad)} {p : Pad} {d a : Nat} (hc : cabOK css) (hd : DrawerOf css p d) (ha : PlaceOf (drw css d) p a) {i k : Nat} (h : FoundAt css p i k) : i = d ∧ k = a := by
  obtain ⟨h1, h2, h3⟩ := h
  obtain ⟨d1, d2, d3⟩ := hd
  obtain ⟨a1, a2, a3⟩ := ha
  have hpos : ∀ {j}, j < css.length → 0 < (drw css j).length := fun hj => (hc.2.1 _ (drw_mem hj)).1
  have hid : i = d := by
    rcases Nat.lt_trichotomy i d with hlt | he | hgt
    · have q1 := d2 (by omega)
      have q2 := cab_lt hc.2.2 h1 h2 d1 (hpos d1) (.inl hlt)
      rw [h3] at q2
      have := ordPad_anti p (padAt (drw css d) 0)
      omega
    · exact he
    · have q1 := d3 i hgt h1
      by_cases hk : k = 0
      · subst hk; rw [h3, ordPad_self] at q1; omega
      · have q2 := cab_lt hc.2.2 h1 (hpos h1) h1 h2 (.inr ⟨rfl, by omega⟩)
        rw [h3] at q2; omega
  subst hid
  refine ⟨rfl, ?_⟩
  rcases Nat.lt_trichotomy k a with hlt | he | hgt
  · have := a2 k hlt; rw [h3, ordPad_self] at this; omega
  · exact he
  · have q1 := cab_lt hc.2.2 h1 (by omega : a < _) h1 h2 (.inr ⟨rfl, hgt⟩)
    rw [h3] at q1
    have := a3 a (Nat.le_refl _) (by omega); omega
theorem find_yes {css : List (List Pad)} {p : Pad} {d a : Nat} (hc : cabOK css) (hd : DrawerOf css p d) (_ : PlaceOf (drw css d) p a) (h : a < (drw css d).length) (h0 : ordPad (padAt (drw css d) a) p = 0) : findO css p = some (d, a) :=
  findO_yes hc ⟨hd.1, h, ordPad_nil.1 h0⟩
theorem find_not {css : List (List Pad)} {p : Pad} {d a : Nat} (hc : cabOK css) (hd : DrawerOf css p d) (ha : PlaceOf (drw css d) p a) (h : ¬ (a < (drw css d).length ∧ ordPad (padAt (drw css d) a) p = 0)) : findO css p = none :=
  findO_no fun i k hf => by
    obtain ⟨rfl, rfl⟩ := find_law hc hd ha hf
    exact h ⟨hf.2.1, by rw [hf.2.2]; exact ordPad_self p⟩
end Go.Proofs.Ytbeaandjhlpaeaa
