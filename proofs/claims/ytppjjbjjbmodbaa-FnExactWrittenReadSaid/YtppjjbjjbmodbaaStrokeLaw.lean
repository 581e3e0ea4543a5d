/-
  Outlines as plain lists: which lists are outlines, their texts, and what is read back. Conditions: none.
-/
import Derived.WalkKit
namespace Go.Proofs.Ytppjjbjjbmodbaa
set_option maxRecDepth 100000

structure Stroke where
  dir : Int
  size : Int
def okS (s : Stroke) : Bool := decide (0 ≤ s.dir ∧ s.dir ≤ 7) && decide (1 ≤ s.size ∧ s.size ≤ 3)
/-- May the second stroke follow the first one? -/
def leadB (a b : Stroke) : Bool := decide ((b.dir - a.dir) % 4 ≠ 0)
def linkB : List Stroke → Bool
  | [] => true
  | [a] => okS a
  | a :: b :: r => okS a && leadB a b && linkB (b :: r)
def outB (l : List Stroke) : Bool := decide (l.length ≤ 8) && linkB l
def strokeAt (l : List Stroke) (i : Nat) : Stroke := l.getD i ⟨0, 0⟩
/-- What is asked of a stroke at its place. -/
def goodS (l : List Stroke) (i : Nat) : Prop := okS (strokeAt l i) = true ∧ (0 < i → leadB (strokeAt l (i - 1)) (strokeAt l i) = true)

theorem okS_iff {s : Stroke} : okS s = true ↔ 0 ≤ s.dir ∧ s.dir ≤ 7 ∧ 1 ≤ s.size ∧ s.size ≤ 3 := by unfold okS; simp; omega
theorem okS_not {s : Stroke} : okS s = false ↔ ¬ (0 ≤ s.dir ∧ s.dir ≤ 7 ∧ 1 ≤ s.size ∧ s.size ≤ 3) := by rw [← okS_iff]; simp
theorem linkB_cons {a : Stroke} {r : List Stroke} : linkB (a :: r) = true ↔ okS a = true ∧ (0 < r.length → leadB a (strokeAt r 0) = true) ∧ linkB r = true := by
  cases r with
  | nil => simp [linkB]
  | cons b r => simp [linkB, strokeAt, and_assoc]
theorem strokeAt_cons (a : Stroke) (r : List Stroke) (i : Nat) : strokeAt (a :: r) (i + 1) = strokeAt r i := rfl
theorem strokeAt_zero (a : Stroke) (r : List Stroke) : strokeAt (a :: r) 0 = a := rfl
theorem linkB_iff : ∀ {l : List Stroke}, linkB l = true ↔ ∀ i, i < l.length → goodS l i
  | [] => by simp [linkB]
  | a :: r => by
    rw [linkB_cons, linkB_iff]
    constructor
    · rintro ⟨h1, h2, h3⟩ i hi
      cases i with
      | zero => exact ⟨by rw [strokeAt_zero]; exact h1, fun h => absurd h (by omega)⟩
      | succ i =>
        have h4 := h3 i (by simpa using hi)
        refine ⟨by rw [strokeAt_cons]; exact h4.1, fun _ => ?_⟩
        cases i with
        | zero => rw [Nat.add_sub_cancel, strokeAt_zero, strokeAt_cons]; exact h2 (by simpa using hi)
        | succ j => rw [Nat.add_sub_cancel, strokeAt_cons, strokeAt_cons]; simpa using h4.2 (by omega)
    · intro h
      refine ⟨by have := (h 0 (by simp)).1; rwa [strokeAt_zero] at this, fun h0 => ?_, fun i hi => ?_⟩
      · have := (h 1 (by simpa using h0)).2 (by omega)
        simpa [strokeAt_cons, strokeAt_zero] using this
      · have := h (i + 1) (by simpa using hi)
        refine ⟨by have := this.1; rwa [strokeAt_cons] at this, fun hi0 => ?_⟩
        have h2 := this.2 (by omega)
        obtain ⟨j, rfl⟩ : ∃ j, i = j + 1 := ⟨i - 1, by omega⟩
        rw [strokeAt_cons] at h2
        simpa [strokeAt_cons] using h2
theorem outB_iff {l : List Stroke} : outB l = true ↔ l.length ≤ 8 ∧ ∀ i, i < l.length → goodS l i := by
  unfold outB; rw [Bool.and_eq_true, decide_eq_true_iff, linkB_iff]
theorem outB_no {l : List Stroke} {i : Nat} (hi : i < l.length) (h : ¬ goodS l i) : outB l = false := by
  rw [Bool.eq_false_iff]; intro h2; exact h ((outB_iff.1 h2).2 i hi)
theorem outB_long {l : List Stroke} (h : 8 < l.length) : outB l = false := by
  rw [Bool.eq_false_iff]; intro h2; have := (outB_iff.1 h2).1; omega
theorem linkB_ok {l : List Stroke} (h : linkB l = true) {s : Stroke} (hs : s ∈ l) : okS s = true := by
  obtain ⟨i, hi, rfl⟩ := List.getElem_of_mem hs
  have := (linkB_iff.1 h i hi).1
  unfold strokeAt at this
  rwa [List.getD_eq_getElem?_getD, List.getElem?_eq_getElem hi] at this
theorem outB_ok {l : List Stroke} (h : outB l = true) {s : Stroke} (hs : s ∈ l) : okS s = true := linkB_ok (by unfold outB at h; rw [Bool.and_eq_true] at h; exact h.2) hs
theorem outB_link {l : List Stroke} (h : outB l = true) : linkB l = true := by unfold outB at h; rw [Bool.and_eq_true] at h; exact h.2
theorem outB_len {l : List Stroke} (h : outB l = true) : l.length ≤ 8 := (outB_iff.1 h).1
theorem linkB_append {a b : List Stroke} (h : linkB (a ++ b) = true) : linkB a = true ∧ linkB b = true := by
  induction a with
  | nil => exact ⟨rfl, h⟩
  | cons x a ih =>
    rw [List.cons_append, linkB_cons] at h
    have := ih h.2.2
    refine ⟨linkB_cons.2 ⟨h.1, fun h0 => ?_, this.1⟩, this.2⟩
    have h3 := h.2.1 (by simp; omega)
    cases a with
    | nil => simp at h0
    | cons y a => simpa [strokeAt] using h3
theorem outB_append {a b : List Stroke} (h : outB (a ++ b) = true) : outB a = true ∧ outB b = true := by
  have h1 := outB_len h
  have h2 := linkB_append (outB_link h)
  rw [List.length_append] at h1
  unfold outB
  rw [h2.1, h2.2, Bool.and_true, Bool.and_true, decide_eq_true_iff, decide_eq_true_iff]
  omega
theorem outB_take {l : List Stroke} (h : outB l = true) (k : Nat) : outB (l.take k) = true ∧ outB (l.drop k) = true := outB_append (by rw [List.take_append_drop]; exact h)

/-- The letter of a size. -/
def sizeL (z : Int) : UInt8 := if z = 1 then 115 else if z = 2 then 109 else 108
def sText (s : Stroke) : List UInt8 := [UInt8.ofNat (48 + s.dir).toNat, sizeL s.size]
theorem sText_len (s : Stroke) : (sText s).length = 2 := rfl
def textS (l : List Stroke) : List UInt8 := l.flatMap sText
def outText (l : List Stroke) : List UInt8 := if outB l = true then textS l else []
theorem outText_yes {l : List Stroke} (h : outB l = true) : outText l = textS l := if_pos h
theorem outText_no {l : List Stroke} (h : outB l = false) : outText l = [] := if_neg (by rw [h]; simp)
theorem textS_len : ∀ l : List Stroke, (textS l).length = 2 * l.length
  | [] => rfl
  | s :: l => by have := textS_len l; unfold textS at this ⊢; rw [List.flatMap_cons, List.length_append, this, sText_len, List.length_cons]; omega
/-- The size of a letter. -/
def sizeN (c : UInt8) : Int := if c = 115 then 1 else if c = 109 then 2 else if c = 108 then 3 else 0
def pairsS : List UInt8 → List Stroke
  | a :: b :: r => ⟨(a.toNat : Int) - 48, sizeN b⟩ :: pairsS r
  | _ => []
theorem pairsS_len : ∀ l : List UInt8, (pairsS l).length = l.length / 2
  | [] => rfl
  | [_] => by simp [pairsS]
  | a :: b :: r => by rw [pairsS, List.length_cons, pairsS_len r, List.length_cons, List.length_cons]; omega
def fromS (l : List UInt8) : Option (List Stroke) := if l.length % 2 = 0 ∧ outB (pairsS l) = true then some (pairsS l) else none
theorem fromS_yes {l : List UInt8} (h : l.length % 2 = 0) (h2 : outB (pairsS l) = true) : fromS l = some (pairsS l) := if_pos ⟨h, h2⟩
theorem fromS_no {l : List UInt8} (h : l.length % 2 = 1 ∨ outB (pairsS l) = false) : fromS l = none := if_neg (by rintro ⟨h1, h2⟩; rcases h with h | h; (omega); (rw [h2] at h; cases h))
theorem fromS_some {l : List UInt8} {o : List Stroke} (h : fromS l = some o) : l.length % 2 = 0 ∧ outB o = true ∧ o = pairsS l := by
  unfold fromS at h
  split at h
  · rename_i h2; injection h with h; subst h; exact ⟨h2.1, h2.2, rfl⟩
  · cases h
theorem sizeN_L {z : Int} (h1 : 1 ≤ z) (h2 : z ≤ 3) : sizeN (sizeL z) = z := by
  have : z = 1 ∨ z = 2 ∨ z = 3 := by omega
  rcases this with rfl | rfl | rfl <;> decide
theorem pairs_one {s : Stroke} (h : okS s = true) (r : List UInt8) : pairsS (sText s ++ r) = s :: pairsS r := by
  obtain ⟨h1, h2, h3, h4⟩ := okS_iff.1 h
  obtain ⟨d, z⟩ := s
  simp only at h1 h2 h3 h4
  have e : ((UInt8.ofNat (48 + d).toNat).toNat : Int) - 48 = d := by simp only [UInt8.toNat_ofNat']; omega
  simp only [sText, List.cons_append, List.nil_append, pairsS, e, sizeN_L h3 h4]
theorem pairs_text : ∀ {l : List Stroke}, (∀ s ∈ l, okS s = true) → pairsS (textS l) = l
  | [], _ => rfl
  | s :: l, h => by
    unfold textS
    rw [List.flatMap_cons, pairs_one (h s (by simp))]
    have := pairs_text (l := l) (fun s hs => h s (by simp [hs]))
    unfold textS at this
    rw [this]
theorem sizeL_N {c : UInt8} (h : 1 ≤ sizeN c) : sizeL (sizeN c) = c := by
  unfold sizeN at h ⊢
  split
  · rename_i h; subst h; rfl
  · split
    · rename_i h; subst h; rfl
    · split
      · rename_i h; subst h; rfl
      · rename_i h1 h2 h3; rw [if_neg h1, if_neg h2, if_neg h3] at h; omega
theorem text_pairs : ∀ {l : List UInt8}, l.length % 2 = 0 → (∀ s ∈ pairsS l, okS s = true) → textS (pairsS l) = l
  | [], _, _ => rfl
  | [_], h, _ => by simp at h
  | a :: b :: r, h, hk => by
    have h0 := okS_iff.1 (hk ⟨(a.toNat : Int) - 48, sizeN b⟩ (by simp [pairsS]))
    have := text_pairs (l := r) (by simp at h; omega) (fun s hs => hk s (by simp [pairsS, hs]))
    unfold textS at this ⊢
    simp only [pairsS, List.flatMap_cons, this, sText, List.cons_append, List.nil_append]
    simp only at h0
    rw [sizeL_N h0.2.2.1]
    have e : UInt8.ofNat (48 + ((a.toNat : Int) - 48)).toNat = a := by
      apply UInt8.toNat_inj.1
      rw [UInt8.toNat_ofNat']
      have := a.toNat_lt
      omega
    rw [e]
/-- The text of an outline is read back. -/
theorem from_text {l : List Stroke} (h : outB l = true) : fromS (textS l) = some l := by
  have e := pairs_text (fun s hs => outB_ok h hs)
  have := fromS_yes (l := textS l) (by rw [textS_len]; omega) (by rw [e]; exact h)
  rw [this, e]
theorem text_from {l : List UInt8} {o : List Stroke} (h : fromS l = some o) : outB o = true ∧ textS o = l := by
  obtain ⟨h1, h2, rfl⟩ := fromS_some h
  exact ⟨h2, text_pairs h1 (fun s hs => outB_ok h2 hs)⟩
theorem from_more {l : List UInt8} {o : List Stroke} (h : fromS l = some o) (c : UInt8) : fromS (l ++ [c]) = none := fromS_no (.inl (by have := (fromS_some h).1; rw [List.length_append, List.length_singleton]; omega))
theorem text_split {l : List Stroke} (h : outB l = true) (k : Nat) : outText (l.take k) ++ outText (l.drop k) = outText l := by
  have h2 := outB_take h k
  rw [outText_yes h, outText_yes h2.1, outText_yes h2.2]
  unfold textS
  rw [← List.flatMap_append, List.take_append_drop]
theorem outText_empty {l : List Stroke} (h : outText l = []) : outB l = false ∨ l = [] := by
  cases hb : outB l with
  | false => exact .inl rfl
  | true =>
    rw [outText_yes hb] at h
    have := textS_len l
    rw [h] at this
    exact .inr (List.length_eq_zero_iff.1 (by rw [List.length_nil] at this; omega))
end Go.Proofs.Ytppjjbjjbmodbaa
