/-
  Positions part the words of one outline: plain lists. Conditions: none.
-/
import Derived.Test.YtppjjbjjbmodbaaReadT
import Derived.Test.YtppjjbjjbmodbaaIntN
namespace Go.Proofs.Ytppjjbjjbmodbaa

/-- The words with an outline. -/
def dreadOf (xs : List Sg) (ws : List (List UInt8)) (o : List Stroke) : List Nat := (List.range ws.length).filter fun i => decide (wordOut xs (wdAt ws i) = some o)
def dreadAll (xs : List Sg) (ws : List (List UInt8)) (o : List Stroke) : List Nat := if (sysB xs && dicB ws) = true ∧ outB o = true then dreadOf xs ws o else []
theorem dreadOf_len (xs : List Sg) (ws : List (List UInt8)) (o : List Stroke) : (dreadOf xs ws o).length ≤ ws.length := by
  unfold dreadOf; exact Nat.le_trans (List.length_filter_le _ _) (by simp)
theorem dread_lt {xs : List Sg} {ws : List (List UInt8)} {o : List Stroke} {i : Nat} (h : i ∈ dreadOf xs ws o) : i < ws.length := by
  unfold dreadOf at h
  simpa using (List.mem_filter.1 h).1
theorem read_filter (xs : List Sg) (ws : List (List UInt8)) (o : List Stroke) (p : Int) : readOf xs ws (o, p) = (dreadOf xs ws o).filter fun i => decide (posOf (wdAt ws i) = p) := by
  unfold readOf dreadOf
  rw [List.filter_filter]
  congr 1
  funext i
  cases h : wordOut xs (wdAt ws i) with
  | none => simp
  | some q => by_cases h1 : q = o <;> by_cases h2 : posOf (wdAt ws i) = p <;> simp [h1, h2]
theorem three_parts (f : Nat → Int) : ∀ L : List Nat, (∀ i ∈ L, 0 ≤ f i ∧ f i ≤ 2) → (L.filter fun i => decide (f i = 0)).length + (L.filter fun i => decide (f i = 1)).length + (L.filter fun i => decide (f i = 2)).length = L.length
  | [], _ => rfl
  | x :: r, h => by
    have ih := three_parts f r (fun i hi => h i (by simp [hi]))
    have h1 := h x (by simp)
    have h2 : f x = 0 ∨ f x = 1 ∨ f x = 2 := by omega
    rw [List.filter_cons, List.filter_cons, List.filter_cons]
    rcases h2 with h2 | h2 | h2 <;> rw [h2] <;> simp <;> omega
theorem dread_pos {xs : List Sg} {ws : List (List UInt8)} {o : List Stroke} {i : Nat} (h : i ∈ dreadOf xs ws o) : 0 ≤ posOf (wdAt ws i) ∧ posOf (wdAt ws i) ≤ 2 := by
  unfold dreadOf at h
  have h1 := (List.mem_filter.1 h).2
  rw [decide_eq_true_iff] at h1
  have h2 := (wordOut_ok h1).2.1
  unfold posOf
  rw [if_pos h2]
  exact posV_bd _
theorem read_parts (xs : List Sg) (ws : List (List UInt8)) (o : List Stroke) : (readOf xs ws (o, 0)).length + (readOf xs ws (o, 1)).length + (readOf xs ws (o, 2)).length = (dreadOf xs ws o).length := by
  rw [read_filter, read_filter, read_filter]
  exact three_parts (fun i => posOf (wdAt ws i)) _ (fun i hi => dread_pos hi)
theorem read_mem {xs : List Sg} {ws : List (List UInt8)} {o : List Stroke} {p : Int} {i : Nat} (h : i ∈ dreadOf xs ws o) : i ∈ readOf xs ws (o, p) ↔ posOf (wdAt ws i) = p := by
  rw [read_filter, List.mem_filter]
  simp [h]
theorem read_le (xs : List Sg) (ws : List (List UInt8)) (o : List Stroke) (p : Int) : (readOf xs ws (o, p)).length ≤ (dreadOf xs ws o).length := by
  rw [read_filter]; exact List.length_filter_le _ _
/-- What the statement asks, of lists. -/
theorem read_law {xs : List Sg} {ws : List (List UInt8)} {o : List Stroke} {p : Int} (h : readAll xs ws (o, p) ≠ []) :
    (∀ q : Int, 0 ≤ q → q ≤ 2 → readAll xs ws (o, q) = readOf xs ws (o, q)) ∧ readAll xs ws (o, p) = readOf xs ws (o, p) ∧ dreadAll xs ws o = dreadOf xs ws o ∧ ws.length ≤ 20 := by
  unfold readAll at h
  split at h
  · rename_i hc
    have hw : wrB o p = true := hc.2
    obtain ⟨h1, h2, h3⟩ := wrB_iff.1 hw
    refine ⟨fun q hq0 hq2 => if_pos ⟨hc.1, wrB_iff.2 ⟨h1, hq0, hq2⟩⟩, if_pos hc, if_pos ⟨hc.1, h1⟩, ?_⟩
    have := hc.1
    rw [Bool.and_eq_true] at this
    exact (dicB_iff.1 this.2).1
  · exact absurd rfl h
theorem dread_outs (xs : List Sg) (ws : List (List UInt8)) (o : List Stroke) (k : Nat) :
    ((outsK xs ws k).filter fun x => decide (x.2 = o)).map (·.1) = (List.range k).filter fun i => decide (wordOut xs (wdAt ws i) = some o) := by
  induction k with
  | zero => rfl
  | succ k ih =>
    rw [outsK_succ, List.filter_append, List.map_append, ih, List.range_succ, List.filter_append]
    congr 1
    cases h : wordOut xs (wdAt ws k) with
    | none => simp [h]
    | some q => by_cases hd : q = o <;> simp [h, hd]
/-- The sum over the first k positions. -/
def sumR (xs : List Sg) (ws : List (List UInt8)) (o : List Stroke) : Nat → Nat
  | 0 => 0
  | k + 1 => sumR xs ws o k + (readOf xs ws (o, (k : Int))).length
theorem sumR_three (xs : List Sg) (ws : List (List UInt8)) (o : List Stroke) : sumR xs ws o 3 = (dreadOf xs ws o).length := by
  rw [← read_parts]
  show 0 + (readOf xs ws (o, ((0 : Nat) : Int))).length + (readOf xs ws (o, ((1 : Nat) : Int))).length + (readOf xs ws (o, ((2 : Nat) : Int))).length = _
  rw [Nat.zero_add]; rfl
theorem sumR_le {ws : List (List UInt8)} (h : ws.length ≤ 20) (xs : List Sg) (o : List Stroke) : ∀ k, sumR xs ws o k ≤ 20 * k
  | 0 => Nat.le_refl _
  | k + 1 => by
    have h1 := sumR_le h xs o k
    have h2 := readOf_len xs ws (o, (k : Int))
    rw [sumR]; omega
theorem has_pos {xs : List Sg} {ws : List (List UInt8)} {o : List Stroke} {p : Int} {i : Nat} (h : i ∈ dreadOf xs ws o) : (decide ((i : Int) ∈ asI (readOf xs ws (o, p))) != (posOf (wdAt ws i) == p)) = false := by
  have h1 : ((i : Int) ∈ asI (readOf xs ws (o, p))) ↔ i ∈ readOf xs ws (o, p) := by
    unfold asI
    rw [List.mem_map]
    constructor
    · rintro ⟨j, hj, e⟩
      have : j = i := by omega
      rw [← this]; exact hj
    · intro hi; exact ⟨i, hi, rfl⟩
  by_cases hp : posOf (wdAt ws i) = p
  · rw [decide_eq_true (h1.2 ((read_mem h).2 hp)), hp]; simp
  · rw [decide_eq_false (fun hh => hp ((read_mem h).1 (h1.1 hh)))]; simp [hp]
end Go.Proofs.Ytppjjbjjbmodbaa
