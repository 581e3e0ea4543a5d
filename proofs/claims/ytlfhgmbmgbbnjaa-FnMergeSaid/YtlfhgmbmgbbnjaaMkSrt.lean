/-
  Insertion sort of marks, as plain lists; an exchange of two marks of a row. Conditions: none.
-/
import Derived.Test.YtlfhgmbmgbbnjaaMkFn
namespace Go.Proofs.Ytlfhgmbmgbbnjaa
open Go.ChangeShapes Go.WideShapes Go.ChangeAt Go.RowKit
set_option maxRecDepth 100000
set_option linter.unusedVariables false

def swp (D : List Mr) (j : Nat) : List Mr := (D.set (j + 1) (mrAt D j)).set j (mrAt D (j + 1))
theorem swp_len (D : List Mr) (j : Nat) : (swp D j).length = D.length := by unfold swp; rw [List.length_set, List.length_set]
theorem mrAt_get {xs : List Mr} {i : Nat} (h : i < xs.length) : xs[i] = mrAt xs i := by
  have := mrAt_some h; rw [List.getElem?_eq_getElem h] at this; injection this
theorem mrAt_set {xs : List Mr} {i j : Nat} {x : Mr} (hi : i < xs.length) : mrAt (xs.set i x) j = if j = i then x else mrAt xs j := by
  unfold mrAt
  rw [List.getD_eq_getElem?_getD, List.getElem?_set]
  by_cases h : i = j
  · subst h; rw [if_pos rfl, if_pos hi, if_pos rfl]; rfl
  · rw [if_neg h, if_neg (Ne.symm h), List.getD_eq_getElem?_getD]
theorem swp_at {D : List Mr} {j : Nat} (hj : j + 1 < D.length) (k : Nat) : mrAt (swp D j) k = if k = j then mrAt D (j + 1) else if k = j + 1 then mrAt D j else mrAt D k := by
  unfold swp
  rw [mrAt_set (by rw [List.length_set]; omega), mrAt_set hj]
theorem swp_perm {D : List Mr} {j : Nat} (hj : j + 1 < D.length) : (swp D j).Perm D := by
  have e1 : D = D.take j ++ (mrAt D j :: mrAt D (j + 1) :: D.drop (j + 2)) := by
    conv => lhs; rw [← List.take_append_drop j D]
    rw [List.drop_eq_getElem_cons (by omega), List.drop_eq_getElem_cons hj, mrAt_get, mrAt_get]
  have e2 : swp D j = D.take j ++ (mrAt D (j + 1) :: mrAt D j :: D.drop (j + 2)) := by
    have hl : (D.take j).length = j := by rw [List.length_take]; omega
    generalize ha : mrAt D j = a at *
    generalize hb : mrAt D (j + 1) = b at *
    unfold swp
    rw [ha, hb]
    conv => lhs; rw [e1]
    rw [List.set_append_right _ _ (by omega), List.set_append_right _ _ (by omega), hl, Nat.sub_self, Nat.add_sub_cancel_left]
    rfl
  rw [e2]
  conv => rhs; rw [e1]
  exact List.Perm.append_left _ (List.Perm.swap _ _ _)
/-- Sorted up to i but for the one at j, which is no greater than those behind it. -/
def Inn (D : List Mr) (i j : Nat) : Prop :=
  (∀ p q, p < q → q ≤ i → p ≠ j → q ≠ j → (mrAt D p).at_ ≤ (mrAt D q).at_) ∧ (∀ q, j < q → q ≤ i → (mrAt D j).at_ ≤ (mrAt D q).at_)
def Outr (D : List Mr) (i : Nat) : Prop := ∀ p q, p < q → q < i → (mrAt D p).at_ ≤ (mrAt D q).at_
theorem Inn.start {D : List Mr} {i : Nat} (h : Outr D i) : Inn D i i := ⟨fun p q hpq hq hp hq2 => h p q hpq (by omega), fun q h1 h2 => by omega⟩
theorem Inn.step {D : List Mr} {i j : Nat} (hD : i < D.length) (hji : j + 1 ≤ i) (h : Inn D i (j + 1)) (hlt : (mrAt D (j + 1)).at_ < (mrAt D j).at_) : Inn (swp D j) i j := by
  have hj : j + 1 < D.length := by omega
  constructor
  · intro p q hpq hq hp hq2
    rw [swp_at hj, swp_at hj, if_neg hp, if_neg hq2]
    by_cases e1 : p = j + 1
    · rw [if_pos e1, if_neg (by omega)]
      exact h.1 j q (by omega) hq (by omega) (by omega)
    · rw [if_neg e1]
      by_cases e2 : q = j + 1
      · rw [if_pos e2]
        exact h.1 p j (by omega) (by omega) (by omega) (by omega)
      · rw [if_neg e2]
        exact h.1 p q hpq hq e1 e2
  · intro q h1 h2
    rw [swp_at hj, swp_at hj, if_pos rfl, if_neg (by omega)]
    by_cases e2 : q = j + 1
    · rw [if_pos e2]; omega
    · rw [if_neg e2]
      exact h.2 q (by omega) h2
theorem Inn.stop {D : List Mr} {i j : Nat} (h : Inn D i j) (hji : j ≤ i) (hge : j = 0 ∨ ¬ (mrAt D j).at_ < (mrAt D (j - 1)).at_) : Outr D (i + 1) := by
  intro p q hpq hq
  by_cases e1 : p = j
  · rw [e1]; exact h.2 q (by omega) (by omega)
  · by_cases e2 : q = j
    · rw [e2]
      rcases hge with h0 | h0
      · omega
      · by_cases e3 : p = j - 1
        · rw [e3]; omega
        · have := h.1 p (j - 1) (by omega) (by omega) e1 (by omega)
          omega
    · exact h.1 p q hpq (by omega) e1 e2
theorem Outr.srt {D : List Mr} (h : Outr D D.length) : Srt (D.map Mr.dat) := by
  refine List.pairwise_iff_getElem.2 (fun i j hi hj hij => ?_)
  rw [List.length_map] at hi hj
  have := h i j hij hj
  rw [List.getElem_map, List.getElem_map, mrAt_get hi, mrAt_get hj]
  exact this
/-- One mark of a row of cells is set. -/
theorem flat_set3 (D : List Mr) (j : Nat) (x : Mr) (hj : j < D.length) : (((D.flatMap mkC).set (j * 3) (.int .i64 (x.at_ : Int))).set (j * 3 + 1) (.int .i64 (x.cut : Int))).set (j * 3 + 2) (.slice x.A x.n x.c) = (D.set j x).flatMap mkC := by
  have e1 : D = D.take j ++ (mrAt D j :: D.drop (j + 1)) := by
    conv => lhs; rw [← List.take_append_drop j D]
    rw [List.drop_eq_getElem_cons hj, mrAt_get]
  have hl : (D.take j).length = j := by rw [List.length_take]; omega
  generalize mrAt D j = a at *
  have hf : ((D.take j).flatMap mkC).length = j * 3 := by rw [flat_len mkC_len, hl]
  have e2 : D.set j x = D.take j ++ (x :: D.drop (j + 1)) := by
    conv => lhs; rw [e1]
    rw [List.set_append_right _ _ (by omega), hl, Nat.sub_self]; rfl
  rw [e2]
  conv => lhs; rw [e1]
  rw [List.flatMap_append, List.flatMap_append, List.flatMap_cons, List.flatMap_cons]
  rw [List.set_append_right _ _ (by omega), hf, Nat.sub_self, List.set_append_right _ _ (by omega), hf, Nat.add_sub_cancel_left, List.set_append_right _ _ (by omega), hf, Nat.add_sub_cancel_left]
  rfl
/-- The three stores of a mark. -/
def put3 (w : World) (g j : Nat) (x : Mr) : World := ((w.setCell ⟨g, j * 3, none⟩ (.int .i64 (x.at_ : Int))).setCell ⟨g, j * 3 + 1, none⟩ (.int .i64 (x.cut : Int))).setCell ⟨g, j * 3 + 2, none⟩ (.slice x.A x.n x.c)
theorem put3_own {w : World} {B n c g j : Nat} {D : List Mr} {x : Mr} (h : w.ownsRow B 37 3 (.slice (some ⟨g, 0, none⟩) n c) n (D.flatMap mkC)) (hj : j < D.length) : (put3 w g j x).ownsRow B 37 3 (.slice (some ⟨g, 0, none⟩) n c) n ((D.set j x).flatMap mkC) := by
  have h1 := own_set (j := j * 3) (u := .int .i64 (x.at_ : Int)) h rfl
  have h2 := own_set (j := j * 3 + 1) (u := .int .i64 (x.cut : Int)) h1 rfl
  have h3 := own_set (j := j * 3 + 2) (u := .slice x.A x.n x.c) h2 rfl
  rw [flat_set3 D j x hj] at h3
  exact h3
theorem put3_only (w : World) (g j : Nat) (x : Mr) : w.grownBy (put3 w g j x) (some g) := only_next (only_next (only_set1 _ _ _ _) (only_set1 _ _ _ _)) (only_set1 _ _ _ _)
theorem swp_comm (D : List Mr) (j : Nat) : (D.set j (mrAt D (j + 1))).set (j + 1) (mrAt D j) = swp D j := by
  unfold swp; rw [List.set_comm _ _ (by omega)]
/-- Two marks have changed places. -/
theorem MrOwn.swapped {w w' : World} {B c g j : Nat} {D : List Mr} (h : MrOwn w B (.slice (some ⟨g, 0, none⟩) D.length c) D) (hj : j + 1 < D.length) (hw : w' = put3 (put3 w g (j + 1) (mrAt D j)) g j (mrAt D (j + 1)) ∨ w' = put3 (put3 w g j (mrAt D (j + 1))) g (j + 1) (mrAt D j)) :
    MrOwn w' B (.slice (some ⟨g, 0, none⟩) D.length c) (swp D j) ∧ w.grownBy w' (some g) := by
  have key : w'.ownsRow B 37 3 (.slice (some ⟨g, 0, none⟩) D.length c) D.length ((swp D j).flatMap mkC) ∧ w.grownBy w' (some g) := by
    rcases hw with rfl | rfl
    · exact ⟨put3_own (put3_own h.1 hj) (by rw [List.length_set]; omega), only_next (put3_only _ _ _ _) (put3_only _ _ _ _)⟩
    · rw [← swp_comm]
      exact ⟨put3_own (put3_own h.1 (by omega)) (by rw [List.length_set]; omega), only_next (put3_only _ _ _ _) (put3_only _ _ _ _)⟩
  refine ⟨⟨by rw [swp_len]; exact key.1, fun x hx => ?_⟩, key.2⟩
  have hx2 := h.2 x ((swp_perm hj).mem_iff.1 hx)
  exact ⟨WdsIn.grown hx2.1 key.2 (fun hp a ha => (hx2.2 hp a ha).1), fun hp a ha => ⟨(hx2.2 hp a ha).1, Nat.lt_of_lt_of_le (hx2.2 hp a ha).2 key.2.size⟩⟩
end Go.Proofs.Ytlfhgmbmgbbnjaa
