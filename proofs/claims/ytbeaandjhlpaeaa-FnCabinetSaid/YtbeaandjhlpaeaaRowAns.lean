/-
  A list of pads as an answer; parts of a row. Conditions: none.
-/
import Derived.Test.YtbeaandjhlpaeaaTreePads
import Derived.Test.YtbeaandjhlpaeaaHeldPads
namespace Go.Proofs.Ytbeaandjhlpaeaa
open Go.ChangeShapes Go.WideShapes Go.ChangeAt Go.RowKit
set_option maxRecDepth 100000

/-- A list of pads in memory of the call's own. -/
def RowAns (w' : World) (B : Nat) (D : List Pad) (e : Ending) : Prop :=
  ∃ A c, e = .returned (.slice A D.length c) ∧ PadsOwn w' B (.slice A D.length c) D
theorem RowAns.of {w' : World} {B : Nat} {D : List Pad} {e : Ending} {v : Value} (he : e = .returned v) (ho : PadsOwn w' B v D) : RowAns w' B D e := by
  obtain ⟨A, c, rfl, _⟩ := own_form ho
  exact ⟨A, c, he, ho⟩

theorem rowNewPad (w : World) (u1 u2 : Value) (t : TypeId) : Row (w.alloc (.cells #[u1, u2] t)) (w.heap.size + 1) (some ⟨w.heap.size, 0, none⟩) 1 2 [u1, u2] := by
  refine ⟨rfl, fun _ => ⟨w.heap.size, 0, rfl, by omega, fun j x hx => ?_⟩⟩
  rcases j with _ | _ | j
  · simp at hx; subst hx; exact newcell w #[u1, u2] t 0 u1 rfl
  · simp at hx; subst hx; exact newcell w #[u1, u2] t 1 u2 rfl
  · simp at hx

theorem Row.take {w : World} {B n sz k : Nat} {A : Option Addr} {xs : List Value} (h : Row w B A n sz xs) (hk : k ≤ n) : Row w B A k sz (xs.take (k * sz)) := by
  refine ⟨by rw [List.length_take, h.1, Nat.min_eq_left (Nat.mul_le_mul_right _ hk)], fun h0 => ?_⟩
  obtain ⟨b, off, e, hb, hc⟩ := h.2 (by omega)
  refine ⟨b, off, e, hb, fun j u hu => hc j u ?_⟩
  have hj : j < (xs.take (k * sz)).length := (List.getElem?_eq_some_iff.1 hu).1
  rw [List.length_take] at hj
  rwa [List.getElem?_take_of_lt (by omega)] at hu
theorem Row.drop {w : World} {B n sz k b off : Nat} {xs : List Value} (h : Row w B (some ⟨b, off, none⟩) n sz xs) (hk : k ≤ n) : Row w B (some ⟨b, off + k * sz, none⟩) (n - k) sz (xs.drop (k * sz)) := by
  refine ⟨by rw [List.length_drop, h.1, Nat.sub_mul], fun h0 => ?_⟩
  obtain ⟨b', off', e, hb, hc⟩ := h.2 (by omega)
  injection e with e; injection e with e1 e2; subst e1 e2
  refine ⟨b, off + k * sz, rfl, hb, fun j u hu => ?_⟩
  rw [List.getElem?_drop] at hu
  have := hc _ u hu
  rwa [← Nat.add_assoc] at this
theorem Row.empty {w : World} {B sz : Nat} {A : Option Addr} : Row w B A 0 sz [] := ⟨by simp, fun h => by omega⟩
theorem flat_take {α : Type} {ea : α → List Value} {sz : Nat} (hl : ∀ a, (ea a).length = sz) (l : List α) (k : Nat) : (l.flatMap ea).take (k * sz) = (l.take k).flatMap ea := by
  rcases Nat.lt_or_ge k l.length with h | h
  · have e : l.flatMap ea = (l.take k).flatMap ea ++ (l.drop k).flatMap ea := by rw [← List.flatMap_append, List.take_append_drop]
    have e2 : ((l.take k).flatMap ea).length = k * sz := by rw [flat_len hl, List.length_take, Nat.min_eq_left (by omega)]
    rw [e, List.take_append_of_le_length (by omega), List.take_of_length_le (by omega)]
  · rw [List.take_of_length_le h, List.take_of_length_le (by rw [flat_len hl]; exact Nat.mul_le_mul_right _ h)]
theorem flat_drop {α : Type} {ea : α → List Value} {sz : Nat} (hl : ∀ a, (ea a).length = sz) (l : List α) (k : Nat) : (l.flatMap ea).drop (k * sz) = (l.drop k).flatMap ea := by
  rcases Nat.lt_or_ge k l.length with h | h
  · have e : l.flatMap ea = (l.take k).flatMap ea ++ (l.drop k).flatMap ea := by rw [← List.flatMap_append, List.take_append_drop]
    have e2 : ((l.take k).flatMap ea).length = k * sz := by rw [flat_len hl, List.length_take, Nat.min_eq_left (by omega)]
    rw [e, List.drop_append_of_le_length (by omega), List.drop_of_length_le (by omega), List.nil_append]
  · rw [List.drop_of_length_le h, List.drop_of_length_le (by rw [flat_len hl]; exact Nat.mul_le_mul_right _ h)]; rfl
end Go.Proofs.Ytbeaandjhlpaeaa
