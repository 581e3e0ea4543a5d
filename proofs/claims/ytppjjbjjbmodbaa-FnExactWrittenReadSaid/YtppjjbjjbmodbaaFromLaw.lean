/-
  A text of strokes pair by pair. Conditions: none.
-/
import Derived.Test.YtppjjbjjbmodbaaSOpen
import Derived.Lib.Bytealg
import Derived.Lib.Walk
namespace Go.Proofs.Ytppjjbjjbmodbaa
open Go.ChangeShapes Go.WideShapes Go.ChangeAt Go.RowKit
set_option maxRecDepth 100000

theorem pairs_at : ∀ {l : List UInt8} {j : Nat} (h : 2 * j + 1 < l.length), (pairsS l)[j]? = some ⟨(l[2 * j].toNat : Int) - 48, sizeN l[2 * j + 1]⟩
  | [], j, h => by simp at h
  | [_], j, h => by simp at h
  | a :: b :: r, 0, h => rfl
  | a :: b :: r, j + 1, h => by
    have h2 : 2 * j + 1 < r.length := by simp at h; omega
    have := pairs_at (l := r) (j := j) h2
    rw [pairsS, List.getElem?_cons_succ, this]
    rfl
theorem pairs_take {l : List UInt8} {j : Nat} (h : 2 * j + 1 < l.length) : (pairsS l).take (j + 1) = (pairsS l).take j ++ [⟨(l[2 * j].toNat : Int) - 48, sizeN l[2 * j + 1]⟩] := by
  rw [List.take_add_one, pairs_at h]; rfl
theorem sizeN_bd (c : UInt8) : 0 ≤ sizeN c ∧ sizeN c ≤ 3 := by unfold sizeN; split <;> (try split) <;> (try split) <;> omega
theorem pairs_good {l : List UInt8} : ∀ s ∈ pairsS l, s.good := by
  intro s hs
  obtain ⟨j, hj, e⟩ := List.getElem_of_mem hs
  rw [pairsS_len] at hj
  have h1 := pairs_at (l := l) (j := j) (by omega)
  rw [List.getElem?_eq_getElem (by rw [pairsS_len]; exact hj), e] at h1
  injection h1 with h1
  subst h1
  have h2 := sizeN_bd l[2 * j + 1]
  have h3 := l[2 * j].toNat_lt
  exact ⟨WalkArith.wf_i64 (by simp only; omega), WalkArith.wf_i64 (by simp only; omega)⟩
theorem index_size (c : UInt8) : Lib.indexByte [115, 109, 108] c + 1 = sizeN c := by
  unfold sizeN
  by_cases h1 : c = 115
  · subst h1; decide
  · by_cases h2 : c = 109
    · subst h2; decide
    · by_cases h3 : c = 108
      · subst h3; decide
      · rw [if_neg h1, if_neg h2, if_neg h3]
        have e1 : ¬ (115 : UInt8) = c := fun h => h1 h.symm
        have e2 : ¬ (109 : UInt8) = c := fun h => h2 h.symm
        have e3 : ¬ (108 : UInt8) = c := fun h => h3 h.symm
        simp [Lib.indexByte, e1, e2, e3]
end Go.Proofs.Ytppjjbjjbmodbaa
