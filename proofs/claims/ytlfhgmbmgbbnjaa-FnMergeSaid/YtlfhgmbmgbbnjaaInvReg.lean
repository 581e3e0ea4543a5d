/-
  A region that draws its order, crossed by ONE invariant: each operation that may come up is run once, whatever has come up before it. Conditions: the operations wait only for earlier ones.
-/
import Derived.Test.YtlfhgmbmgbbnjaaBase
import Derived.RegionTactic
namespace Go.Proofs.Ytlfhgmbmgbbnjaa
open Go.ChangeShapes Go.WideShapes Go.ChangeAt Go.RowKit
set_option maxRecDepth 100000
set_option linter.unusedSimpArgs false

section
variable {P : Program} {md : Region.Mode} {ops : Array Oper} {Q : Exit → Act → World → Prop}

def unl (n : Nat) (listed : Array Bool) : List Nat := (List.range n).filter fun j => !listed.getD j true
theorem unl_set {n i : Nat} {listed : Array Bool} (hi : listed.getD i true = false) (hn : i < n) : (unl n (listed.setIfInBounds i true)).length < (unl n listed).length := by
  have e : unl n (listed.setIfInBounds i true) = (unl n listed).filter fun j => !decide (j = i) := by
    unfold unl
    rw [List.filter_filter]
    congr 1
    funext j
    by_cases h : j = i
    · subst h
      have hlt : j < listed.size := by
        rcases Nat.lt_or_ge j listed.size with h | h
        · exact h
        · rw [Array.getD_eq_getD_getElem?, Array.getElem?_eq_none h] at hi; cases hi
      simp [Array.getD_eq_getD_getElem?, Array.getElem?_setIfInBounds, hlt]
    · simp [Array.getD_eq_getD_getElem?, Array.getElem?_setIfInBounds, h, Ne.symm h]
  rw [e, List.length_filter_lt_length_iff_exists]
  exact ⟨i, by unfold unl; rw [List.mem_filter]; exact ⟨List.mem_range.2 hn, by rw [hi]; rfl⟩, by simp⟩
theorem ready_done {listed : Array Bool} (hs : listed.size = ops.size) (hord : ∀ (i : Nat) o, ops[i]? = some o → ∀ e ∈ o.after, e.on < i) (hr : Region.ready md ops listed = []) : ∀ j, j < ops.size → listed.getD j false = true := by
  intro j
  induction j using Nat.strongRecOn with
  | ind j ih =>
    intro hj
    have hnot : j ∉ Region.ready md ops listed := by rw [hr]; simp
    rw [mem_ready] at hnot
    have h1 : listed.getD j true ≠ false := fun h => hnot ⟨h, ops[j], Array.getElem?_eq_getElem hj, fun e he _ => ih e.on (hord j _ (Array.getElem?_eq_getElem hj) e he) (Nat.lt_trans (hord j _ (Array.getElem?_eq_getElem hj) e he) hj)⟩
    have hj' : j < listed.size := by omega
    rw [Array.getD_eq_getD_getElem?, Array.getElem?_eq_getElem hj'] at h1 ⊢
    simpa using h1
theorem wpAny_inv (I : (Nat → Prop) → Act → World → Prop) (hord : ∀ (i : Nat) o, ops[i]? = some o → ∀ e ∈ o.after, e.on < i)
    (hdone : ∀ L a w, (∀ j, j < ops.size → L j) → I L a w → Q .normal a w)
    (hstep : ∀ (L : Nat → Prop) (i : Nat) o a w, ops[i]? = some o → ¬ L i → (∀ e ∈ o.after, Region.binds md e = true → L e.on) → I L a w → wpOp P ops Q i (I fun j => j = i ∨ L j) a w) :
    ∀ (fuel : Nat) (listed : Array Bool) (a : Act) (w : World), listed.size = ops.size → (unl ops.size listed).length ≤ fuel → I (fun j => listed.getD j false = true) a w → wpAny P md ops Q fuel listed a w := by
  have none : ∀ listed : Array Bool, (unl ops.size listed).length = 0 → Region.ready md ops listed = [] := fun listed h => by
    rw [List.eq_nil_iff_forall_not_mem]
    intro j hj
    rw [mem_ready] at hj
    obtain ⟨h1, o, ho, _⟩ := hj
    have hlt : j < ops.size := by
      rcases Nat.lt_or_ge j ops.size with h | h
      · exact h
      · rw [Array.getElem?_eq_none h] at ho; cases ho
    have hm : j ∈ unl ops.size listed := by unfold unl; rw [List.mem_filter]; exact ⟨List.mem_range.2 hlt, by rw [h1]; rfl⟩
    rw [List.eq_nil_of_length_eq_zero h] at hm
    cases hm
  intro fuel
  induction fuel with
  | zero =>
    intro listed a w hs hf hI
    have hr := none listed (by omega)
    exact ⟨hr, hdone _ a w (ready_done hs hord hr) hI⟩
  | succ fuel ih =>
    intro listed a w hs hf hI
    refine ⟨fun hr => hdone _ a w (ready_done hs hord hr) hI, fun i hi => ?_⟩
    rw [mem_ready] at hi
    obtain ⟨h1, o, ho, ha⟩ := hi
    have hlt : i < ops.size := by
      rcases Nat.lt_or_ge i ops.size with h | h
      · exact h
      · rw [Array.getElem?_eq_none h] at ho; cases ho
    have hl : i < listed.size := by omega
    have hni : ¬ listed.getD i false = true := by
      rw [Array.getD_eq_getD_getElem?, Array.getElem?_eq_getElem hl] at h1 ⊢
      simpa using h1
    refine wpOp_mono (fun a' w' hI' => ih _ a' w' (by simpa using hs) (by have := unl_set h1 hlt; omega) ?_) (hstep _ i o a w ho hni ha hI)
    have e : (fun j => (listed.setIfInBounds i true).getD j false = true) = fun j => j = i ∨ listed.getD j false = true := by
      funext j
      by_cases h : j = i
      · subst h; simp [Array.getD_eq_getD_getElem?, Array.getElem?_setIfInBounds, hl]
      · simp [Array.getD_eq_getD_getElem?, Array.getElem?_setIfInBounds, h, Ne.symm h]
    rw [e]
    exact hI'
/-- What operation i waits for. -/
def waits (md : Region.Mode) (ops : Array Oper) (i : Nat) : List Nat := ((ops[i]?).map fun o => (o.after.toList.filter (Region.binds md)).map (·.on)).getD []
def ordered (ops : Array Oper) : Bool := (List.range ops.size).all fun i => ((ops[i]?).map fun o => o.after.all fun e => decide (e.on < i)).getD true
theorem wp_region_inv {id : Nat} {a : Act} {w : World} (hm : P.follows .mixedOrders = true) (I : (Nat → Prop) → Act → World → Prop) (hord : ordered ops = true)
    (hstart : I (fun _ => False) a w.drew)
    (hdone : ∀ L a w, (∀ j, j < ops.size → L j) → I L a w → Q .normal a w)
    (hstep : ∀ (L : Nat → Prop) (i : Nat) a w, i < ops.size → ¬ L i → (∀ j, (waits .any ops i).contains j = true → L j) → I L a w → wpOp P ops Q i (I fun j => j = i ∨ L j) a w) :
    (Code.region id ops true).wp P Q a w := by
  refine wp_region_any hm ?_
  have hord' : ∀ (i : Nat) o, ops[i]? = some o → ∀ e ∈ o.after, e.on < i := by
    intro i o ho e he
    have hlt : i < ops.size := by
      rcases Nat.lt_or_ge i ops.size with h | h
      · exact h
      · rw [Array.getElem?_eq_none h] at ho; cases ho
    unfold ordered at hord
    have h1 := List.all_eq_true.1 hord i (List.mem_range.2 hlt)
    rw [ho] at h1
    simp only [Option.map_some, Option.getD_some] at h1
    obtain ⟨k, hk, rfl⟩ := Array.mem_iff_getElem.1 he
    simpa using (Array.all_eq_true.1 h1) k hk
  refine wpAny_inv I hord' hdone (fun L i o a w ho hn ha hI => ?_) _ _ a _ (by simp) ?_ ?_
  · have hlt : i < ops.size := by
      rcases Nat.lt_or_ge i ops.size with h | h
      · exact h
      · rw [Array.getElem?_eq_none h] at ho; cases ho
    refine hstep L i a w hlt hn (fun j hj => ?_) hI
    unfold waits at hj
    rw [ho] at hj
    simp only [Option.map_some, Option.getD_some, List.contains_iff_mem, List.mem_map, List.mem_filter] at hj
    obtain ⟨e, ⟨he, hb⟩, rfl⟩ := hj
    exact ha e (by simpa using he) hb
  · unfold unl
    exact Nat.le_trans (List.length_filter_le _ _) (by simp)
  · have e : (fun j => (Array.replicate ops.size false).getD j false = true) = fun _ => False := by
      funext j
      simp only [Array.getD_eq_getD_getElem?, Array.getElem?_replicate]
      split <;> simp
    rw [e]
    exact hstart
end
theorem or_l {k i : Nat} {L : Nat → Prop} {p : Prop} (hne : k ≠ i) (h : L k → p) : (k = i ∨ L k) → p := fun h' => h (h'.resolve_left hne)
end Go.Proofs.Ytlfhgmbmgbbnjaa
