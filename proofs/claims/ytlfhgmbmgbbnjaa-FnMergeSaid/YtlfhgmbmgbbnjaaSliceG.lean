/-
  A slice up to a place, and from a place on. Conditions: none.
-/
import Derived.Test.YtlfhgmbmgbbnjaaBase
namespace Go.Proofs.Ytlfhgmbmgbbnjaa
open Go.ChangeShapes Go.WideShapes Go.ChangeAt Go.RowKit
set_option maxRecDepth 100000

theorem Row.take {w : World} {B n sz k : Nat} {A : Option Addr} {xs : List Value} (h : Row w B A n sz xs) (hk : k ≤ n) : Row w B A k sz (xs.take (k * sz)) := by
  refine ⟨by rw [List.length_take, h.1, Nat.min_eq_left (Nat.mul_le_mul_right _ hk)], fun h0 => ?_⟩
  obtain ⟨b, off, e, hb, hc⟩ := h.2 (by omega)
  refine ⟨b, off, e, hb, fun j u hu => hc j u ?_⟩
  have hj : j < (xs.take (k * sz)).length := (List.getElem?_eq_some_iff.1 hu).1
  rw [List.length_take] at hj
  rwa [List.getElem?_take_of_lt (by omega)] at hu
theorem Row.drop {w : World} {B n sz k b off : Nat} {xs : List Value} (h : Row w B (some ⟨b, off, none⟩) n sz xs) (hk : k ≤ n) : Row w B (some ⟨b, off + k * sz, none⟩) (n - k) sz (xs.drop (k * sz)) := by
  refine ⟨by rw [List.length_drop, h.1, Nat.sub_mul], fun h0 => ?_⟩
  obtain ⟨b', off', e, hb, hc⟩ := h.2 (by omega)
  injection e with e; injection e with e1 e2; subst e1 e2
  refine ⟨b, off + k * sz, rfl, hb, fun j u hu => ?_⟩
  rw [List.getElem?_drop] at hu
  have := hc _ u hu
  rwa [← Nat.add_assoc] at this
theorem Row.empty {w : World} {B sz : Nat} {A : Option Addr} : Row w B A 0 sz [] := ⟨by simp, fun h => by omega⟩
theorem flat_take {α : Type} {ea : α → List Value} {sz : Nat} (hl : ∀ a, (ea a).length = sz) (l : List α) (k : Nat) : (l.flatMap ea).take (k * sz) = (l.take k).flatMap ea := by
  rcases Nat.lt_or_ge k l.length with h | h
  · have e : l.flatMap ea = (l.take k).flatMap ea ++ (l.drop k).flatMap ea := by rw [← List.flatMap_append, List.take_append_drop]
    have e2 : ((l.take k).flatMap ea).length = k * sz := by rw [flat_len hl, List.length_take, Nat.min_eq_left (by omega)]
    rw [e, List.take_append_of_le_length (by omega), List.take_of_length_le (by omega)]
  · rw [List.take_of_length_le h, List.take_of_length_le (by rw [flat_len hl]; exact Nat.mul_le_mul_right _ h)]
theorem flat_drop {α : Type} {ea : α → List Value} {sz : Nat} (hl : ∀ a, (ea a).length = sz) (l : List α) (k : Nat) : (l.flatMap ea).drop (k * sz) = (l.drop k).flatMap ea := by
  rcases Nat.lt_or_ge k l.length with h | h
  · have e : l.flatMap ea = (l.take k).flatMap ea ++ (l.drop k).flatMap ea := by rw [← List.flatMap_append, List.take_append_drop]
    have e2 : ((l.take k).flatMap ea).length = k * sz := by rw [flat_len hl, List.length_take, Nat.min_eq_left (by omega)]
    rw [e, List.drop_append_of_le_length (by omega), List.drop_of_length_le (by omega), List.nil_append]
  · rw [List.drop_of_length_le h, List.drop_of_length_le (by rw [flat_len hl]; exact Nat.mul_le_mul_right _ h)]; rfl
def fromB (a : Option Addr) (k c sz : Nat) : Option Addr := if c = k then a else a.map (·.add (k * sz))
theorem run_fromS {P : Program} {t : TypeId} {sz : Nat} (ht : P.underlying t = some (.slice (P.elem t))) (hs : ∀ w, (sizeOf (P.elem t)).run P w = .ok sz w) (a : Option Addr) (n c k : Nat) (hk : k ≤ n) (w : World) :
    (Instr.slice t (.slice a n c) (some (.int .i64 (k : Int))) none none).run P w = .ok (.slice (fromB a k c sz) (n - k) (c - k)) w := by
  rw [run_slice_l w t a n c ht .i64 (k : Int) (by omega) (by omega), hs]
  simp [Result.andThen, sliced, fromB]
theorem run_uptoS {P : Program} {t : TypeId} {sz : Nat} (ht : P.underlying t = some (.slice (P.elem t))) (hs : ∀ w, (sizeOf (P.elem t)).run P w = .ok sz w) (b off n c k : Nat) (hk : k ≤ c) (w : World) :
    (Instr.slice t (.slice (some ⟨b, off, none⟩) n c) none (some (.int .i64 (k : Int))) none).run P w = .ok (.slice (some ⟨b, off, none⟩) k c) w := by
  rw [run_slice_h w t (some ⟨b, off, none⟩) n c ht .i64 (k : Int) (by omega) (by omega), hs]
  simp [Result.andThen, sliced, Addr.add]
theorem Row.fromS {w : World} {B n sz k c : Nat} {A : Option Addr} {xs : List Value} (h : Row w B A n sz xs) (hk : k ≤ n) (hc : n ≤ c) : Row w B (fromB A k c sz) (n - k) sz (xs.drop (k * sz)) := by
  unfold fromB
  by_cases e : c = k
  · rw [if_pos e]
    have h0 : n - k = 0 := by omega
    have h1 : xs.drop (k * sz) = [] := List.drop_of_length_le (by rw [h.1]; exact Nat.mul_le_mul_right _ (by omega))
    rw [h0, h1]; exact Row.empty
  · rw [if_neg e]
    rcases Nat.eq_zero_or_pos n with hn | hn
    · have h0 : n - k = 0 := by omega
      have h1 : xs.drop (k * sz) = [] := List.drop_of_length_le (by rw [h.1, hn]; simp)
      rw [h0, h1]; exact Row.empty
    · obtain ⟨b, off, eA, _⟩ := h.2 hn
      subst eA
      rw [show Option.map (fun x : Addr => x.add (k * sz)) (some (⟨b, off, none⟩ : Addr)) = some ⟨b, off + k * sz, none⟩ from by
        by_cases hz : k * sz = 0
        · simp [Addr.add, hz]
        · simp [Addr.add, hz]]
      exact h.drop hk
theorem run_uptoA {P : Program} {t : TypeId} {sz : Nat} (ht : P.underlying t = some (.slice (P.elem t))) (hs : ∀ w, (sizeOf (P.elem t)).run P w = .ok sz w) (a : Option Addr) (n c k : Nat) (hk : k ≤ c) (w : World) :
    (Instr.slice t (.slice a n c) none (some (.int .i64 (k : Int))) none).run P w = .ok (.slice a k c) w := by
  rw [run_slice_h w t a n c ht .i64 (k : Int) (by omega) (by omega), hs]
  cases a <;> simp [Result.andThen, sliced, Addr.add]
end Go.Proofs.Ytlfhgmbmgbbnjaa
