/-
  Validity of marks, step by step. Conditions: none.
-/
import Derived.Test.YtlfhgmbmgbbnjaaMkV
namespace Go.Proofs.Ytlfhgmbmgbbnjaa
open Go.ChangeShapes Go.WideShapes Go.ChangeAt Go.RowKit
set_option maxRecDepth 100000

/-- Up to k all is well. -/
def GapK (n : Nat) (ms : List Mk) (k : Nat) : Prop := ∀ i, i < k → gapG n ms i
theorem GapK.succ {n k : Nat} {ms : List Mk} (h : GapK n ms k) (h2 : gapG n ms k) : GapK n ms (k + 1) := fun i hi => by
  rcases Nat.lt_or_ge i k with h3 | h3
  · exact h i h3
  · have e : i = k := by omega
    rw [e]; exact h2
theorem marks_no {ws : List Wd} {ms : List Mk} {k : Nat} (hk : k < ms.length) (h : ¬ gapG ws.length ms k) : marksB ws ms = false := by
  rw [Bool.eq_false_iff]
  intro e
  exact h (gapB_iff.1 (marksB_iff.1 e).2.2.1 k hk)
theorem marks_end {ws : List Wd} {ms : List Mk} (h1 : spB ws = true) (h2 : ms.length ≤ 20) (h : GapK ws.length ms ms.length) : marksB ws ms = decide (lenI ws.length (ms.take ms.length) ≤ 20) := by
  rw [List.take_length, Bool.eq_iff_iff, marksB_iff, decide_eq_true_iff]
  exact ⟨fun h => h.2.2.2, fun h3 => ⟨h1, h2, gapB_iff.2 (fun i hi => h i hi), h3⟩⟩
theorem marks_sp {ws : List Wd} {ms : List Mk} (h : spB ws = false) : marksB ws ms = false := by
  rw [Bool.eq_false_iff]; intro e; rw [(marksB_iff.1 e).1] at h; cases h
theorem marks_many {ws : List Wd} {ms : List Mk} (h : 20 < ms.length) : marksB ws ms = false := by
  rw [Bool.eq_false_iff]; intro e; have := (marksB_iff.1 e).2.1; omega
theorem lenI_succ {n : Int} {ms : List Mk} {k : Nat} (hk : k < ms.length) : lenI n (ms.take (k + 1)) = lenI n (ms.take k) - ((mkAt ms k).cut : Int) + ((mkAt ms k).put.length : Int) := by
  unfold lenI
  rw [List.take_succ_eq_append_getElem hk, List.foldl_append, mkAt_get hk]
  rfl
theorem lenI_bound {n : Int} {ms : List Mk} (hs : ∀ m ∈ ms, m.cut ≤ 1000 ∧ m.put.length ≤ 1000) (k : Nat) (hk : k ≤ ms.length) : n - 1000 * (k : Int) ≤ lenI n (ms.take k) ∧ lenI n (ms.take k) ≤ n + 1000 * (k : Int) := by
  induction k with
  | zero => simp [lenI]
  | succ k ih =>
    have h1 := ih (by omega)
    rw [lenI_succ (by omega)]
    have h2 := hs _ (mkAt_mem (ms := ms) (i := k) (by omega))
    omega
theorem gap_no1 {n k : Nat} {ms : List Mk} (h : mkB n (mkAt ms k) = false) : ¬ gapG n ms k := fun h2 => by rw [h2.1] at h; cases h
theorem gap_no2 {n k : Nat} {ms : List Mk} (h0 : 0 < k) (h : (mkAt ms k).at_ ≤ (mkAt ms (k - 1)).at_ + (mkAt ms (k - 1)).cut) : ¬ gapG n ms k := fun h2 => by have := h2.2 h0; omega
/-- What is known of marks in memory that are asked for. -/
def OkMs (xs : List Mr) : Prop := ∀ x ∈ xs, SmM x ∧ ∀ l ∈ x.put, l.length ≤ maxLen
theorem mkB_no1 {n : Nat} {x : Mr} (h : ¬ x.at_ ≤ n) : mkB n x.dat = false := by
  rw [Bool.eq_false_iff]; intro e; have := (mkB_iff.1 e).1; simp only [Mr.dat] at this; omega
theorem mkB_no2 {n : Nat} {x : Mr} (h : ¬ x.cut ≤ n - x.at_) (h1 : x.at_ ≤ n) : mkB n x.dat = false := by
  rw [Bool.eq_false_iff]; intro e; have := (mkB_iff.1 e).1; simp only [Mr.dat] at this; omega
theorem mkB_no3 {n : Nat} {x : Mr} (h : spB x.put = false) : mkB n x.dat = false := by
  rw [Bool.eq_false_iff]; intro e; have := (mkB_iff.1 e).2.1; simp only [Mr.dat] at this; rw [h] at this; cases this
theorem mkB_no4 {n : Nat} {x : Mr} (h : x.cut = 0) (h1 : x.put.length = 0) : mkB n x.dat = false := by
  rw [Bool.eq_false_iff]; intro e; have := (mkB_iff.1 e).2.2; simp only [Mr.dat] at this; omega
theorem mkB_yes {n : Nat} {x : Mr} (h1 : x.at_ ≤ n) (h2 : x.cut ≤ n - x.at_) (h3 : spB x.put = true) (h4 : ¬ (x.cut = 0 ∧ x.put.length = 0)) : mkB n x.dat = true :=
  mkB_iff.2 ⟨by simp only [Mr.dat]; omega, h3, by simp only [Mr.dat]; omega⟩
end Go.Proofs.Ytlfhgmbmgbbnjaa
