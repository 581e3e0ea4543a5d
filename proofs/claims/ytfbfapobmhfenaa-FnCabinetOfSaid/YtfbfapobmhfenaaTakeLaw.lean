/-
  A cabinet without a pad, in plain words. Conditions: none.
-/
import Derived.Test.YtfbfapobmhfenaaFindA
import Derived.Test.YtfbfapobmhfenaaClear
namespace Go.Proofs.Ytfbfapobmhfenaa
open Go.ChangeShapes Go.WideShapes Go.ChangeAt Go.RowKit

/-- Another pad than p. -/
def notP (p x : Pad) : Bool := !(x.day == p.day && x.case.toList == p.case.toList)
theorem notP_false {p x : Pad} : notP p x = false ↔ x = p := by
  unfold notP
  rw [Bool.not_eq_false', ← pad_same]
theorem notP_true {p x : Pad} : notP p x = true ↔ x ≠ p := by
  constructor
  · rintro h rfl; rw [notP_false.2 rfl] at h; cases h
  · intro h
    cases hq : notP p x with
    | true => rfl
    | false => exact absurd (notP_false.1 hq) h
noncomputable def takeO (css : List (List Pad)) (p : Pad) : Option (List (List Pad)) := (findO css p).map (fun _ => thinned (notP p) css)
theorem takeO_yes {css : List (List Pad)} {p : Pad} {x : Nat × Nat} (h : findO css p = some x) : takeO css p = some (thinned (notP p) css) := by unfold takeO; rw [h]; rfl
theorem takeO_no {css : List (List Pad)} {p : Pad} (h : findO css p = none) : takeO css p = none := by unfold takeO; rw [h]; rfl
theorem filter_none {p : Pad} {l : List Pad} (h : ∀ k, k < l.length → padAt l k ≠ p) : l.filter (notP p) = l := by
  refine List.filter_eq_self.2 fun x hx => ?_
  obtain ⟨k, hk, rfl⟩ := List.getElem_of_mem hx
  have := h k hk
  rw [show padAt l k = l[k] by unfold padAt; simp [List.getD, List.getElem?_eq_getElem hk]] at this
  exact notP_true.2 this
theorem pad_split {l : List Pad} {k : Nat} (h : k < l.length) : l = l.take k ++ padAt l k :: l.drop (k + 1) := by
  have h1 : l = l.take k ++ l.drop k := (List.take_append_drop k l).symm
  have h2 : l.drop k = l[k] :: l.drop (k + 1) := List.drop_eq_getElem_cons h
  have h3 : l[k] = padAt l k := by unfold padAt; simp [List.getD, List.getElem?_eq_getElem h]
  rw [h3] at h2; rw [← h2]; exact h1
theorem filter_one {p : Pad} {l : List Pad} {k : Nat} (hk : k < l.length) (hp : padAt l k = p) (h : ∀ j, j < l.length → j ≠ k → padAt l j ≠ p) : l.filter (notP p) = l.take k ++ l.drop (k + 1) := by
  have e := pad_split hk
  have h1 : (l.take k).filter (notP p) = l.take k := filter_none fun j hj => by
    rw [List.length_take] at hj
    have := h j (by omega) (by omega)
    rw [e, padAt_append_left (by rw [List.length_take]; omega)] at this
    exact this
  have h2 : (l.drop (k + 1)).filter (notP p) = l.drop (k + 1) := filter_none fun j hj => by
    rw [List.length_drop] at hj
    have h3 := h (k + 1 + j) (by omega) (by omega)
    have h4 : padAt (l.drop (k + 1)) j = padAt l (k + 1 + j) := by unfold padAt; rw [List.getD, List.getD, List.getElem?_drop]
    rw [h4]; exact h3
  have h5 := congrArg (List.filter (notP p)) e
  rw [List.filter_append, List.filter_cons, hp, if_neg (by rw [notP_false.2 rfl]; simp), h1, h2] at h5
  exact h5
theorem take_thin {css : List (List Pad)} {p : Pad} {i k : Nat} (h : findO css p = some (i, k)) : (css.set i ((drw css i).take k ++ (drw css i).drop (k + 1))).filter full? = thinned (notP p) css := by
  obtain ⟨hc, hf⟩ := findO_some h
  obtain ⟨h1, h2, h3⟩ := hf
  have huniq : ∀ j q, FoundAt css p j q → j = i ∧ q = k := fun j q hjq => FoundAt.uniq hc.2.2 hjq ⟨h1, h2, h3⟩
  unfold thinned
  congr 1
  apply List.ext_getElem?
  intro j
  rw [List.getElem?_map]
  by_cases hji : j = i
  · subst hji
    rw [List.getElem?_set_self h1, drw_some h1]
    show some _ = some ((drw css j).filter (notP p))
    rw [filter_one h2 h3 (fun q hq hqk e => hqk (huniq j q ⟨h1, hq, e⟩).2)]
  · rw [List.getElem?_set_ne (fun e => hji e.symm)]
    rcases Nat.lt_or_ge j css.length with hj | hj
    · rw [drw_some hj]
      show some _ = some ((drw css j).filter (notP p))
      rw [filter_none (fun q hq e => hji (huniq j q ⟨hj, hq, e⟩).1)]
    · rw [List.getElem?_eq_none hj]; rfl
end Go.Proofs.Ytfbfapobmhfenaa
