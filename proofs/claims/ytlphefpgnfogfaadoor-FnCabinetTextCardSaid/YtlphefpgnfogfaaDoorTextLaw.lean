/-
  The text of a cabinet as a list of bytes. Conditions: none.
-/
import Derived.Test.YtlphefpgnfogfaaDoorCabA
import Derived.Test.YtlphefpgnfogfaaDoorStr
import Derived.Lib.ItoaLen
import Derived.Lib.Join
namespace Go.Proofs.YtlphefpgnfogfaaDoor
set_option maxRecDepth 100000

/-- A pad: its day, a colon, its case. -/
def dayT (p : Pad) : List UInt8 := Lib.decDigits p.day.toNat ++ ([58] ++ p.case.data.toList)
def drawT (ps : List Pad) : List UInt8 := Lib.join (ps.map dayT) [32]
def cabTxt (css : List (List Pad)) : List UInt8 := css.flatMap fun ps => drawT ps ++ [10]
noncomputable def cabText (css : List (List Pad)) : List UInt8 := if cabB css = true then cabTxt css else []
theorem cabText_yes {css : List (List Pad)} (h : cabB css = true) : cabText css = cabTxt css := if_pos h
theorem cabText_no {css : List (List Pad)} (h : cabB css = false) : cabText css = [] := if_neg (by rw [h]; simp)
theorem joinT_snoc (L : List (List UInt8)) (y sep : List UInt8) (h : 0 < L.length) : Lib.join (L ++ [y]) sep = Lib.join L sep ++ (sep ++ y) := by
  cases L with
  | nil => simp at h
  | cons x r =>
    rw [List.cons_append, Lib.join_cons, Lib.join_cons]
    unfold Lib.joinTail
    simp
def drawK (ps : List Pad) (k : Nat) : List UInt8 := drawT (ps.take k)
theorem drawK_zero (ps : List Pad) : drawK ps 0 = [] := by unfold drawK drawT; simp [Lib.join_nil]
theorem padTake {ps : List Pad} {k : Nat} (h : k < ps.length) : ps.take (k + 1) = ps.take k ++ [padAt ps k] := by
  rw [List.take_succ_eq_append_getElem h]
  have := padAt_some h
  rw [List.getElem?_eq_getElem h] at this
  injection this with this
  rw [this]
theorem drawK_first {ps : List Pad} (h : 0 < ps.length) : drawK ps 1 = dayT (padAt ps 0) := by
  unfold drawK drawT; rw [padTake h]; simp [Lib.join_cons, Lib.joinTail]
theorem drawK_step {ps : List Pad} {k : Nat} (h : k < ps.length) (h0 : 0 < k) : drawK ps (k + 1) = drawK ps k ++ ([32] ++ dayT (padAt ps k)) := by
  unfold drawK drawT
  rw [padTake h, List.map_append]
  exact joinT_snoc _ _ _ (by rw [List.length_map, List.length_take]; omega)
theorem drawK_all {ps : List Pad} {k : Nat} (h : ps.length ≤ k) : drawK ps k = drawT ps := by unfold drawK; rw [List.take_of_length_le h]
theorem join_len {n : Nat} {L : List (List UInt8)} (h : ∀ l ∈ L, l.length ≤ n) : (Lib.join L [32]).length ≤ (n + 1) * L.length := by
  cases L with
  | nil => simp [Lib.join_nil]
  | cons x r =>
    rw [Lib.join_cons, List.length_append]
    have h1 := h x (by simp)
    have h2 : (Lib.joinTail [32] r).length ≤ (n + 1) * r.length := by
      unfold Lib.joinTail
      have h0 : ∀ l ∈ r, l.length ≤ n := fun l hl => h l (by simp [hl])
      clear h
      induction r with
      | nil => simp
      | cons y r ih =>
        have h3 := h0 y (by simp)
        have h4 := ih (fun l hl => h0 l (by simp [hl]))
        simp only [List.map_cons, List.flatten_cons, List.length_append, List.length_cons, List.length_nil] at h4 ⊢
        rw [Nat.mul_add]
        omega
    rw [List.length_cons, Nat.mul_add]; omega
theorem ok_case {p : Pad} (h : okP p = true) : 0 ≤ p.day ∧ p.day ≤ 9999 ∧ p.case.data.toList.length ≤ 12 := by
  unfold okP padB wordB at h
  rw [Bool.and_eq_true, Bool.and_eq_true, Bool.and_eq_true] at h
  obtain ⟨h1, _, _, h4⟩ := h
  have h1 := of_decide_eq_true h1
  have h4 := of_decide_eq_true h4
  exact ⟨h1.1, h1.2, h4⟩
theorem dayT_len {p : Pad} (h : okP p = true) : (dayT p).length ≤ 33 := by
  obtain ⟨h1, h2, h3⟩ := ok_case h
  unfold dayT
  rw [List.length_append, List.length_append, List.length_singleton, Lib.decDigits_length]
  have := Lib.nDigits_le20 p.day.toNat (by omega)
  omega
theorem drawK_len {ps : List Pad} (h : ∀ p ∈ ps, okP p = true) (k : Nat) : (drawK ps k).length ≤ 34 * ps.length := by
  unfold drawK drawT
  have h1 := join_len (n := 33) (L := (ps.take k).map dayT) (fun l hl => by
    obtain ⟨p, hp, rfl⟩ := List.mem_map.1 hl
    exact dayT_len (h p (List.mem_of_mem_take hp)))
  rw [List.length_map, List.length_take] at h1
  have : min k ps.length ≤ ps.length := Nat.min_le_right _ _
  have := Nat.mul_le_mul_left 34 this
  omega
theorem drawT_len {ps : List Pad} (h : ∀ p ∈ ps, okP p = true) : (drawT ps).length ≤ 34 * ps.length := by
  have := drawK_len h ps.length
  rwa [drawK_all (Nat.le_refl _)] at this
theorem cabTxt_len : ∀ {css : List (List Pad)}, (∀ ps ∈ css, (∀ p ∈ ps, okP p = true) ∧ ps.length ≤ 4) → (cabTxt css).length ≤ 137 * css.length
  | [], _ => by simp [cabTxt]
  | ps :: r, h => by
    obtain ⟨h1, h2⟩ := h ps (by simp)
    have h3 := drawT_len h1
    have h4 := cabTxt_len (css := r) (fun x hx => h x (by simp [hx]))
    unfold cabTxt at h4 ⊢
    rw [List.flatMap_cons, List.length_append, List.length_append, List.length_singleton, List.length_cons]
    omega
theorem cab_all {css : List (List Pad)} (h : cabOK css) : ∀ ps ∈ css, (∀ p ∈ ps, okP p = true) ∧ ps.length ≤ 4 := fun ps hps =>
  ⟨fun _ hp => sorted_okP h.2.2 (List.mem_flatten.2 ⟨ps, hps, hp⟩), (h.2.1 ps hps).2⟩
theorem cabTxt_app (a b : List (List Pad)) : cabTxt (a ++ b) = cabTxt a ++ cabTxt b := by unfold cabTxt; rw [List.flatMap_append]
end Go.Proofs.YtlphefpgnfogfaaDoor
