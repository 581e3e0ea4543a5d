/-
  What a merge of transcripts obeys, as plain lists. Conditions: none.
-/
import Derived.Test.YtlfhgmbmgbbnjaaMkLaw2
namespace Go.Proofs.Ytlfhgmbmgbbnjaa

/-- By how much a mark lengthens. -/
def wM (m : Mk) : Int := (m.put.length : Int) - (m.cut : Int)
def sumW : List Mk → Int
  | [] => 0
  | m :: r => wM m + sumW r
theorem doK_size (ws : List Wd) : ∀ (ms : List Mk) (i : Nat), (∀ m ∈ ms, mkB ws.length m = true) → Ord ms → (∀ m ∈ ms, i ≤ m.at_) → i ≤ ws.length → ((doK ws ms i).length : Int) = (ws.length : Int) - i + sumW ms := by
  intro ms
  induction ms with
  | nil => intro i _ _ _ hi; rw [doK, List.length_drop, sumW]; omega
  | cons m r ih =>
    intro i h1 h2 h3 hi
    have hm := (mkB_iff.1 (h1 m (by simp))).1
    have hi2 := h3 m (by simp)
    rw [Ord, List.pairwise_cons] at h2
    have e := ih (m.at_ + m.cut) (fun x hx => h1 x (by simp [hx])) h2.2 (fun x hx => by have := h2.1 x hx; omega) hm
    rw [doK, sumW, wM, List.length_append, List.length_append, List.length_take, List.length_drop]
    omega
theorem take_one_more {W : List Wd} {s i : Nat} {x : Wd} {a : List Wd} (h : W.drop i = x :: a) (hs : s ≤ i) : (W.drop s).take (i + 1 - s) = (W.drop s).take (i - s) ++ [x] := by
  have hi : i < W.length := by
    rcases Nat.lt_or_ge i W.length with h2 | h2
    · exact h2
    · rw [List.drop_of_length_le h2] at h; cases h
  have hx : W[i] = x := by
    rw [List.drop_eq_getElem_cons hi] at h; injection h
  rw [show i + 1 - s = (i - s) + 1 by omega, List.take_succ_eq_append_getElem (by rw [List.length_drop]; omega), List.getElem_drop]
  congr 2
  rw [← hx]; congr 1; omega
theorem drop_next {W : List Wd} {i : Nat} {x : Wd} {a : List Wd} (h : W.drop i = x :: a) : W.drop (i + 1) = a := by
  rw [← List.drop_drop (i := 1) (j := i), h]; rfl
theorem drop_end {W : List Wd} {i s : Nat} (h : W.drop i = []) (hs : s ≤ i) : (W.drop s).take (i - s) = W.drop s := by
  apply List.take_of_length_le
  have : (W.drop i).length = 0 := by rw [h]; rfl
  rw [List.length_drop] at this ⊢; omega
/-- The marks from one text to another lead there. -/
theorem mkGo_do (W : List Wd) : ∀ (a b : List Wd) (i : Nat) (cur : Option Mk), W.drop i = a →
    (cur = none → ∀ s, s ≤ i → doK W (mkGo a b i cur) s = (W.drop s).take (i - s) ++ b) ∧
    (∀ m, cur = some m → m.at_ + m.cut = i → ∀ s, doK W (mkGo a b i cur) s = (W.drop s).take (m.at_ - s) ++ (m.put ++ b)) := by
  intro a b i cur
  induction a, b, i, cur using mkGo.induct with
  | case1 i cur =>
    intro hW
    rw [mkGo_done]
    refine ⟨?_, ?_⟩
    · rintro rfl s hs
      rw [Option.toList_none, doK, drop_end hW hs, List.append_nil]
    · rintro m rfl hm s
      rw [Option.toList_some, doK, doK, hm, hW]
  | case2 x a i cur ih =>
    intro hW
    have ih2 := ih (drop_next hW)
    rw [mkGo_cut (fun y r h => by cases h) (dst_end x a)]
    refine ⟨?_, ?_⟩
    · rintro rfl s hs
      have := ih2.2 _ rfl (by simp [curOf]) s
      rw [this]; simp [curOf]
    · rintro m rfl hm s
      have := ih2.2 _ rfl (by simp [curOf]; omega) s
      rw [this]; simp [curOf]
  | case3 y b i cur ih =>
    intro hW
    have ih2 := ih hW
    rw [mkGo_put (fun x r h => by cases h)]
    refine ⟨?_, ?_⟩
    · rintro rfl s hs
      have := ih2.2 _ rfl (by simp [curOf]) s
      rw [this]; simp [curOf]
    · rintro m rfl hm s
      have := ih2.2 _ rfl (by simp [curOf]; omega) s
      rw [this]; simp [curOf]
  | case4 x a b i cur ih =>
    intro hW
    have ih2 := ih (drop_next hW)
    rw [mkGo_same]
    refine ⟨?_, ?_⟩
    · rintro rfl s hs
      rw [Option.toList_none, List.nil_append, ih2.1 rfl s (by omega), take_one_more hW hs, List.append_assoc]; rfl
    · rintro m rfl hm s
      rw [Option.toList_some, List.singleton_append, doK, hm, ih2.1 rfl i (by omega), take_one_more hW (Nat.le_refl _)]
      simp
  | case5 x a y b i cur hne hd ih =>
    intro hW
    have ih2 := ih (drop_next hW)
    rw [mkGo_cut (fun y' r h => by injection h with h _; rw [← h]; exact hne) hd]
    refine ⟨?_, ?_⟩
    · rintro rfl s hs
      have := ih2.2 _ rfl (by simp [curOf]) s
      rw [this]; simp [curOf]
    · rintro m rfl hm s
      have := ih2.2 _ rfl (by simp [curOf]; omega) s
      rw [this]; simp [curOf]
  | case6 x a y b i cur hne hd ih =>
    intro hW
    have ih2 := ih hW
    rw [mkGo_put (fun x' r h => by injection h with h1 h2; rw [← h1, ← h2]; exact ⟨hne, hd⟩)]
    refine ⟨?_, ?_⟩
    · rintro rfl s hs
      have := ih2.2 _ rfl (by simp [curOf]) s
      rw [this]; simp [curOf]
    · rintro m rfl hm s
      have := ih2.2 _ rfl (by simp [curOf]; omega) s
      rw [this]; simp [curOf]
theorem do_mkAll (base a : List Wd) : doK base (mkAll base a) 0 = a := by
  have := (mkGo_do base base a 0 none rfl).1 rfl 0 (Nat.le_refl _)
  unfold mkAll
  rw [this]; simp
theorem mkGo_self (a : List Wd) : ∀ i, mkGo a a i none = [] := by
  induction a with
  | nil => intro i; rw [mkGo_done]; rfl
  | cons x a ih => intro i; rw [mkGo_same, ih]; rfl
theorem mkAll_self (a : List Wd) : mkAll a a = [] := mkGo_self a 0
theorem touch_comm (x y : Mk) : touchB x y = touchB y x := by
  unfold touchB; exact decide_eq_decide.2 ⟨fun h => ⟨h.2, h.1⟩, fun h => ⟨h.2, h.1⟩⟩
theorem clash_comm {a b : List Mk} (h : clashB a b = false) : clashB b a = false := by
  rw [Bool.eq_false_iff]
  intro e
  unfold clashB at e
  obtain ⟨y, hy, e⟩ := List.any_eq_true.1 e
  obtain ⟨x, hx, e⟩ := List.any_eq_true.1 e
  rw [Bool.and_eq_true] at e
  have hne : x ≠ y := fun e2 => by rw [e2] at e; simp at e
  have ht := e.1
  rw [touch_comm] at ht
  exact clashB_no h x hx y hy hne (of_decide_eq_true ht)
theorem merge_comm {a b : List Mk} (ha : Ord a) (hb : Ord b) (h : clashB a b = false) : mergeP b a = mergeP a b := by
  refine ord_ext (mergeP_ord hb ha (clashB_no (clash_comm h))) (mergeP_ord ha hb (clashB_no h)) (fun m => ?_)
  rw [mergeP_mem, mergeP_mem]; exact Or.comm
theorem clash_nil (a : List Mk) : clashB a [] = false := by
  unfold clashB
  rw [List.any_eq_false]; intro x _; simp
theorem clash_self {a : List Mk} (ha : Ord a) : clashB a a = false := by
  rw [Bool.eq_false_iff]
  intro e
  unfold clashB at e
  obtain ⟨x, hx, e⟩ := List.any_eq_true.1 e
  obtain ⟨y, hy, e⟩ := List.any_eq_true.1 e
  rw [Bool.and_eq_true] at e
  have hne : x ≠ y := fun e2 => by rw [e2] at e; simp at e
  have ht : x.at_ ≤ y.at_ + y.cut ∧ y.at_ ≤ x.at_ + x.cut := of_decide_eq_true e.1
  obtain ⟨i, hi, rfl⟩ := List.getElem_of_mem hx
  obtain ⟨j, hj, rfl⟩ := List.getElem_of_mem hy
  rcases Nat.lt_trichotomy i j with h1 | h1 | h1
  · have := List.pairwise_iff_getElem.1 ha i j hi hj h1; omega
  · subst h1; exact hne rfl
  · have := List.pairwise_iff_getElem.1 ha j i hj hi h1; omega
theorem merge_self (a : List Mk) : mergeP a a = a := by
  induction a with
  | nil => exact mergeP_nil _
  | cons x a ih => rw [mergeP_cons, if_pos rfl, ih]
theorem marks_nil {ws : List Wd} (h : spB ws = true) : marksB ws [] = true := by
  refine marksB_iff.2 ⟨h, by simp, rfl, ?_⟩
  have := (spB_iff.1 h).2
  unfold lenI; simp; omega
/-- What two lists have in common. -/
def rowW (x : Mk) : List Mk → Int
  | [] => 0
  | y :: r => (if x = y then wM x else 0) + rowW x r
def comW (a b : List Mk) : Int := match a with
  | [] => 0
  | x :: r => rowW x b + comW r b
theorem rowW_no {x : Mk} {b : List Mk} (h : x ∉ b) : rowW x b = 0 := by
  induction b with
  | nil => rfl
  | cons y r ih =>
    rw [rowW, if_neg (fun e => h (by rw [e]; simp)), ih (fun hm => h (by simp [hm]))]; rfl
theorem comW_skip {y : Mk} {a b : List Mk} (h : y ∉ a) : comW a (y :: b) = comW a b := by
  induction a with
  | nil => rfl
  | cons x r ih =>
    rw [comW, comW, ih (fun hm => h (by simp [hm])), rowW, if_neg (fun e => h (by rw [← e]; simp))]; omega
theorem comW_nil (a : List Mk) : comW a [] = 0 := by
  induction a with
  | nil => rfl
  | cons x r ih => rw [comW, ih]; rfl
theorem sum_merge {a b : List Mk} (ha : Ord a) (hb : Ord b) : sumW (mergeP a b) + comW a b = sumW a + sumW b := by
  induction a, b using mergeP.induct with
  | case1 b => rw [mergeP_nil, comW, sumW]; omega
  | case2 x a => rw [mergeP_nil', comW_nil, sumW, sumW]
  | case3 a x b ih =>
    have h1 := List.pairwise_cons.1 ha
    have h2 := List.pairwise_cons.1 hb
    have n1 : x ∉ a := fun hm => by have := h1.1 x hm; omega
    have n2 : x ∉ b := fun hm => by have := h2.1 x hm; omega
    have := ih h1.2 h2.2
    rw [mergeP_cons, if_pos rfl, sumW, sumW, sumW, comW, comW_skip n1, rowW, if_pos rfl, rowW_no n2]; omega
  | case4 x a y b hne hlt ih =>
    have h1 := List.pairwise_cons.1 ha
    have h2 := List.pairwise_cons.1 hb
    have n2 : x ∉ y :: b := fun hm => by
      rcases List.mem_cons.1 hm with e | hm
      · exact hne e
      · have := h2.1 x hm; omega
    have := ih h1.2 hb
    rw [mergeP_cons, if_neg hne, if_pos hlt, sumW, sumW, comW, rowW_no n2]
    omega
  | case5 x a y b hne hlt ih =>
    have h1 := List.pairwise_cons.1 ha
    have h2 := List.pairwise_cons.1 hb
    have n1 : y ∉ x :: a := fun hm => by
      rcases List.mem_cons.1 hm with e | hm
      · exact hne e.symm
      · have := h1.1 y hm; omega
    have := ih ha h2.2
    rw [mergeP_cons, if_neg hne, if_neg hlt, comW_skip n1]
    simp only [sumW] at *
    omega
theorem rowW_snoc (x y : Mk) (b : List Mk) : rowW x (b ++ [y]) = rowW x b + (if x = y then wM x else 0) := by
  induction b with
  | nil => rw [List.nil_append, rowW, rowW, rowW]; omega
  | cons z r ih => rw [List.cons_append, rowW, rowW, ih]; omega
theorem comW_snoc (x : Mk) (a b : List Mk) : comW (a ++ [x]) b = comW a b + rowW x b := by
  induction a with
  | nil => rw [List.nil_append, comW, comW, comW]; omega
  | cons z r ih => rw [List.cons_append, comW, comW, ih]; omega
def makeO' (a b : List Wd) : Option (List Mk) := if (spB a && spB b) = true then some (mkAll a b) else none
/-- All that the law of merges asks. -/
theorem merge_law {base a b out : List Wd} (h : mergeThree base a b = some out) :
    mergeThree base b a = some out ∧ mergeThree base a base = some a ∧ mergeThree base a a = some a ∧ makeO' base a = some (mkAll base a) ∧ makeO' base b = some (mkAll base b) ∧
    (out.length : Int) = a.length + b.length - base.length - comW (mkAll base a) (mkAll base b) ∧ marksB base (mkAll base a) = true ∧ marksB base (mkAll base b) = true := by
  unfold mergeThree at h
  split at h
  · rename_i hs
    rw [Bool.and_eq_true, Bool.and_eq_true] at hs
    obtain ⟨s0, s1, s2⟩ := hs
    unfold bothP at h
    split at h
    · rename_i hv
      rw [Bool.and_eq_true, Bool.and_eq_true, Bool.not_eq_true'] at hv
      obtain ⟨v1, v2, v3⟩ := hv
      split at h
      · rename_i hm
        simp only [Option.map_some] at h
        injection h with h
        have g1 := gapB_ord (marksB_iff.1 v1).2.2.1
        have g2 := gapB_ord (marksB_iff.1 v2).2.2.1
        have g3 := gapB_ord (marksB_iff.1 hm).2.2.1
        have e1 := doK_size base (mkAll base a) 0 g1.1 g1.2.1 (fun _ _ => Nat.zero_le _) (Nat.zero_le _)
        have e2 := doK_size base (mkAll base b) 0 g2.1 g2.2.1 (fun _ _ => Nat.zero_le _) (Nat.zero_le _)
        have e3 := doK_size base (mergeP (mkAll base a) (mkAll base b)) 0 g3.1 g3.2.1 (fun _ _ => Nat.zero_le _) (Nat.zero_le _)
        have e4 := sum_merge g1.2.1 g2.2.1
        rw [do_mkAll] at e1 e2
        rw [h] at e3
        refine ⟨?_, ?_, ?_, ?_, ?_, by omega, v1, v2⟩
        · unfold mergeThree bothP
          rw [if_pos (by rw [s0, s1, s2]; rfl), if_pos (by rw [v1, v2, clash_comm v3]; rfl), merge_comm g1.2.1 g2.2.1 v3, if_pos hm]
          rw [Option.map_some, h]
        · unfold mergeThree bothP
          rw [if_pos (by rw [s0, s1]; rfl), mkAll_self, mergeP_nil', if_pos (by rw [v1, marks_nil s0, clash_nil]; rfl), if_pos v1, Option.map_some, do_mkAll]
        · unfold mergeThree bothP
          rw [if_pos (by rw [s0, s1]; rfl), merge_self, if_pos (by rw [v1, clash_self g1.2.1]; rfl), if_pos v1, Option.map_some, do_mkAll]
        · unfold makeO'; rw [if_pos (by rw [s0, s1]; rfl)]
        · unfold makeO'; rw [if_pos (by rw [s0, s2]; rfl)]
      · cases h
    · cases h
  · cases h
end Go.Proofs.Ytlfhgmbmgbbnjaa
