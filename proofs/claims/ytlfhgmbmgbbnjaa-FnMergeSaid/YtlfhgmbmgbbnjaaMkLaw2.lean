/-
  Marks of transcripts, as plain lists: validity, clashes, both lists together in order. Conditions: none.
-/
import Derived.Test.YtlfhgmbmgbbnjaaMkLaw
import Derived.Test.YtlfhgmbmgbbnjaaBase
namespace Go.Proofs.Ytlfhgmbmgbbnjaa

/-- A speech. -/
def spB (ws : List Wd) : Bool := ws.all wordB && decide (ws.length ≤ 20)
theorem spB_iff {ws : List Wd} : spB ws = true ↔ (∀ l ∈ ws, wordB l = true) ∧ ws.length ≤ 20 := by
  unfold spB; rw [Bool.and_eq_true, List.all_eq_true, decide_eq_true_iff]
/-- One mark of a transcript of n words. -/
def mkB (n : Nat) (m : Mk) : Bool := decide (m.at_ ≤ n ∧ m.cut ≤ n - m.at_) && (spB m.put && decide (0 < m.cut + m.put.length))
theorem mkB_iff {n : Nat} {m : Mk} : mkB n m = true ↔ m.at_ + m.cut ≤ n ∧ spB m.put = true ∧ 0 < m.cut + m.put.length := by
  unfold mkB
  rw [Bool.and_eq_true, Bool.and_eq_true, decide_eq_true_iff, decide_eq_true_iff]
  constructor
  · rintro ⟨⟨h1, h2⟩, h3, h4⟩; exact ⟨by omega, h3, h4⟩
  · rintro ⟨h1, h3, h4⟩; exact ⟨⟨by omega, by omega⟩, h3, h4⟩
/-- Each mark is one, and lies behind the one ahead of it. -/
def gapB (n : Nat) : Option Mk → List Mk → Bool
  | _, [] => true
  | p, m :: r => (mkB n m && (match p with | none => true | some q => decide (q.at_ + q.cut < m.at_))) && gapB n (some m) r
def behind (p : Option Mk) (m : Mk) : Bool := match p with | none => true | some q => decide (q.at_ + q.cut < m.at_)
theorem gapB_cons (n : Nat) (p : Option Mk) (m : Mk) (r : List Mk) : gapB n p (m :: r) = ((mkB n m && behind p m) && gapB n (some m) r) := by cases p <;> rfl
def lenI (n : Int) (ms : List Mk) : Int := ms.foldl (fun l m => l - (m.cut : Int) + (m.put.length : Int)) n
def marksB (ws : List Wd) (ms : List Mk) : Bool := (spB ws && decide (ms.length ≤ 20)) && (gapB ws.length none ms && decide (lenI ws.length ms ≤ 20))
theorem marksB_iff {ws : List Wd} {ms : List Mk} : marksB ws ms = true ↔ spB ws = true ∧ ms.length ≤ 20 ∧ gapB ws.length none ms = true ∧ lenI ws.length ms ≤ 20 := by
  unfold marksB
  rw [Bool.and_eq_true, Bool.and_eq_true, Bool.and_eq_true, decide_eq_true_iff, decide_eq_true_iff, and_assoc]
/-- Strictly in order, by what stands ahead. -/
def Ord (ms : List Mk) : Prop := ms.Pairwise (fun x y => x.at_ + x.cut < y.at_)
theorem gapB_ord {n : Nat} {p : Option Mk} {ms : List Mk} (h : gapB n p ms = true) : (∀ m ∈ ms, mkB n m = true) ∧ Ord ms ∧ (∀ q, p = some q → ∀ m ∈ ms, q.at_ + q.cut < m.at_) := by
  induction ms generalizing p with
  | nil => exact ⟨by simp, List.Pairwise.nil, by simp⟩
  | cons x r ih =>
    rw [gapB_cons, Bool.and_eq_true, Bool.and_eq_true] at h
    obtain ⟨⟨h1, h2⟩, h3⟩ := h
    obtain ⟨i1, i2, i3⟩ := ih h3
    refine ⟨fun m hm => ?_, List.Pairwise.cons (fun m hm => i3 x rfl m hm) i2, fun q hq m hm => ?_⟩
    · rcases List.mem_cons.1 hm with rfl | hm
      · exact h1
      · exact i1 m hm
    · subst hq
      have h2 : q.at_ + q.cut < x.at_ := of_decide_eq_true h2
      rcases List.mem_cons.1 hm with rfl | hm
      · exact h2
      · have := i3 x rfl m hm; omega
theorem ord_gapB {n : Nat} {p : Option Mk} {ms : List Mk} (h1 : ∀ m ∈ ms, mkB n m = true) (h2 : Ord ms) (h3 : ∀ q, p = some q → ∀ m ∈ ms, q.at_ + q.cut < m.at_) : gapB n p ms = true := by
  induction ms generalizing p with
  | nil => rfl
  | cons x r ih =>
    rw [gapB_cons, Bool.and_eq_true, Bool.and_eq_true]
    rw [Ord, List.pairwise_cons] at h2
    refine ⟨⟨h1 x (by simp), ?_⟩, ih (fun m hm => h1 m (by simp [hm])) h2.2 (fun q hq m hm => by injection hq with hq; subst hq; exact h2.1 m hm)⟩
    cases p with
    | none => rfl
    | some q => exact decide_eq_true (h3 q rfl x (by simp))
def mkAt (ms : List Mk) (i : Nat) : Mk := ms.getD i ⟨0, 0, []⟩
theorem mkAt_some {ms : List Mk} {i : Nat} (h : i < ms.length) : ms[i]? = some (mkAt ms i) := by simp [mkAt, List.getD_eq_getElem?_getD, h]
theorem mkAt_get {ms : List Mk} {i : Nat} (h : i < ms.length) : ms[i] = mkAt ms i := by
  have := mkAt_some h; rw [List.getElem?_eq_getElem h] at this; injection this
theorem mkAt_mem {ms : List Mk} {i : Nat} (h : i < ms.length) : mkAt ms i ∈ ms := List.mem_of_getElem? (mkAt_some h)
/-- What is asked of a mark at its place. -/
def gapG (n : Nat) (ms : List Mk) (i : Nat) : Prop := mkB n (mkAt ms i) = true ∧ (0 < i → (mkAt ms (i - 1)).at_ + (mkAt ms (i - 1)).cut < (mkAt ms i).at_)
theorem gapB_iff {n : Nat} {ms : List Mk} : gapB n none ms = true ↔ ∀ i, i < ms.length → gapG n ms i := by
  constructor
  · intro h i hi
    obtain ⟨h1, h2, _⟩ := gapB_ord h
    refine ⟨h1 _ (mkAt_mem hi), fun h0 => ?_⟩
    have := List.pairwise_iff_getElem.1 h2 (i - 1) i (by omega) hi (by omega)
    rwa [mkAt_get, mkAt_get] at this
  · intro h
    refine ord_gapB (fun m hm => ?_) (List.pairwise_iff_getElem.2 (fun i j hi hj hij => ?_)) (by simp)
    · obtain ⟨i, hi, rfl⟩ := List.getElem_of_mem hm
      rw [mkAt_get hi]; exact (h i hi).1
    · rw [mkAt_get, mkAt_get]
      obtain ⟨d, rfl⟩ : ∃ d, j = i + 1 + d := ⟨j - (i + 1), by omega⟩
      clear hij
      induction d with
      | zero => exact (h (i + 1) hj).2 (by omega)
      | succ d ih =>
        have h1 := ih (by omega)
        have h2 := (h (i + 1 + (d + 1)) hj).2 (by omega)
        rw [show i + 1 + (d + 1) - 1 = i + 1 + d by omega] at h2
        omega
/-- Different marks that touch. -/
def touchB (x y : Mk) : Bool := decide (x.at_ ≤ y.at_ + y.cut ∧ y.at_ ≤ x.at_ + x.cut)
def clashB (a b : List Mk) : Bool := a.any fun x => b.any fun y => touchB x y && !decide (x = y)
theorem clashB_no {a b : List Mk} (h : clashB a b = false) : ∀ x ∈ a, ∀ y ∈ b, x ≠ y → ¬ (x.at_ ≤ y.at_ + y.cut ∧ y.at_ ≤ x.at_ + x.cut) := by
  intro x hx y hy hne ht
  have h1 : clashB a b = true := by
    unfold clashB
    rw [List.any_eq_true]
    refine ⟨x, hx, ?_⟩
    rw [List.any_eq_true]
    exact ⟨y, hy, by unfold touchB; rw [decide_eq_true ht, decide_eq_false hne]; rfl⟩
  rw [h1] at h; cases h
/-- Both lists together: the lesser index first, equal ones once. -/
def mergeP : List Mk → List Mk → List Mk
  | [], b => b
  | x :: a, [] => x :: a
  | x :: a, y :: b => if x = y then x :: mergeP a b else if x.at_ < y.at_ then x :: mergeP a (y :: b) else y :: mergeP (x :: a) b
termination_by a b => a.length + b.length
theorem mergeP_nil (b : List Mk) : mergeP [] b = b := by rw [mergeP]
theorem mergeP_nil' (a : List Mk) : mergeP a [] = a := by cases a <;> rw [mergeP]
theorem mergeP_cons (x y : Mk) (a b : List Mk) : mergeP (x :: a) (y :: b) = if x = y then x :: mergeP a b else if x.at_ < y.at_ then x :: mergeP a (y :: b) else y :: mergeP (x :: a) b := by rw [mergeP]
theorem mergeP_mem (a b : List Mk) (m : Mk) : m ∈ mergeP a b ↔ m ∈ a ∨ m ∈ b := by
  induction a, b using mergeP.induct with
  | case1 b => rw [mergeP_nil]; simp
  | case2 x a => rw [mergeP_nil']; simp
  | case3 x a b ih =>
    rw [mergeP_cons, if_pos rfl, List.mem_cons, ih, List.mem_cons, List.mem_cons]
    constructor
    · rintro (h | h | h)
      · exact .inl (.inl h)
      · exact .inl (.inr h)
      · exact .inr (.inr h)
    · rintro ((h | h) | (h | h))
      · exact .inl h
      · exact .inr (.inl h)
      · exact .inl h
      · exact .inr (.inr h)
  | case4 x a y b hne hlt ih =>
    rw [mergeP_cons, if_neg hne, if_pos hlt, List.mem_cons, ih, List.mem_cons (l := a), or_assoc]
  | case5 x a y b hne hlt ih =>
    rw [mergeP_cons, if_neg hne, if_neg hlt, List.mem_cons, ih, List.mem_cons (l := b)]
    constructor
    · rintro (h | h | h)
      · exact .inr (.inl h)
      · exact .inl h
      · exact .inr (.inr h)
    · rintro (h | h | h)
      · exact .inr (.inl h)
      · exact .inl h
      · exact .inr (.inr h)
theorem mergeP_len (a b : List Mk) : (mergeP a b).length ≤ a.length + b.length := by
  induction a, b using mergeP.induct with
  | case1 b => rw [mergeP_nil]; simp
  | case2 x a => rw [mergeP_nil']; simp
  | case3 x a b ih => rw [mergeP_cons, if_pos rfl]; simp only [List.length_cons] at *; omega
  | case4 x a y b hne hlt ih => rw [mergeP_cons, if_neg hne, if_pos hlt]; simp only [List.length_cons] at *; omega
  | case5 x a y b hne hlt ih => rw [mergeP_cons, if_neg hne, if_neg hlt]; simp only [List.length_cons] at *; omega
/-- Two marks of lists in order that do not clash: equal, or one wholly ahead of the other. -/
theorem apart {x y : Mk} (h : ¬ (x.at_ ≤ y.at_ + y.cut ∧ y.at_ ≤ x.at_ + x.cut)) : (x.at_ + x.cut < y.at_ ∧ x.at_ < y.at_) ∨ (y.at_ + y.cut < x.at_ ∧ ¬ x.at_ < y.at_) := by omega
theorem mergeP_ord {a b : List Mk} (ha : Ord a) (hb : Ord b) (h : ∀ x ∈ a, ∀ y ∈ b, x ≠ y → ¬ (x.at_ ≤ y.at_ + y.cut ∧ y.at_ ≤ x.at_ + x.cut)) : Ord (mergeP a b) := by
  induction a, b using mergeP.induct with
  | case1 b => rw [mergeP_nil]; exact hb
  | case2 x a => rw [mergeP_nil']; exact ha
  | case3 x a b ih =>
    rw [mergeP_cons, if_pos rfl]
    have ha2 := List.pairwise_cons.1 ha
    have hb2 := List.pairwise_cons.1 hb
    refine List.Pairwise.cons (fun m hm => ?_) (ih ha2.2 hb2.2 (fun p hp q hq => h p (by simp [hp]) q (by simp [hq])))
    rcases (mergeP_mem _ _ _).1 hm with hm | hm
    · exact ha2.1 m hm
    · exact hb2.1 m hm
  | case4 x a y b hne hlt ih =>
    rw [mergeP_cons, if_neg hne, if_pos hlt]
    have ha2 := List.pairwise_cons.1 ha
    have hb2 := List.pairwise_cons.1 hb
    have h1 := apart (h x (by simp) y (by simp) hne)
    refine List.Pairwise.cons (fun m hm => ?_) (ih ha2.2 hb (fun p hp q hq => h p (by simp [hp]) q hq))
    rcases (mergeP_mem _ _ _).1 hm with hm | hm
    · exact ha2.1 m hm
    · rcases List.mem_cons.1 hm with rfl | hm
      · omega
      · have := hb2.1 m hm; omega
  | case5 x a y b hne hlt ih =>
    rw [mergeP_cons, if_neg hne, if_neg hlt]
    have ha2 := List.pairwise_cons.1 ha
    have hb2 := List.pairwise_cons.1 hb
    have h1 := apart (h x (by simp) y (by simp) hne)
    refine List.Pairwise.cons (fun m hm => ?_) (ih ha hb2.2 (fun p hp q hq => h p hp q (by simp [hq])))
    rcases (mergeP_mem _ _ _).1 hm with hm | hm
    · rcases List.mem_cons.1 hm with rfl | hm
      · omega
      · have := ha2.1 m hm; omega
    · exact hb2.1 m hm
/-- Lists in order with the same marks are equal. -/
theorem ord_ext {a b : List Mk} (ha : Ord a) (hb : Ord b) (h : ∀ m, m ∈ a ↔ m ∈ b) : a = b := by
  induction a generalizing b with
  | nil =>
    cases b with
    | nil => rfl
    | cons y b => exact absurd ((h y).2 (by simp)) (by simp)
  | cons x a ih =>
    cases b with
    | nil => exact absurd ((h x).1 (by simp)) (by simp)
    | cons y b =>
      have ha2 := List.pairwise_cons.1 ha
      have hb2 := List.pairwise_cons.1 hb
      have e : x = y := by
        rcases List.mem_cons.1 ((h x).1 (by simp)) with e | h1
        · exact e
        · rcases List.mem_cons.1 ((h y).2 (by simp)) with e | h2
          · exact e.symm
          · have h3 := hb2.1 x h1
            have h4 := ha2.1 y h2
            omega
      subst e
      congr 1
      refine ih ha2.2 hb2.2 (fun m => ?_)
      constructor
      · intro hm
        rcases List.mem_cons.1 ((h m).1 (by simp [hm])) with e | h1
        · have := ha2.1 m hm; rw [e] at this; omega
        · exact h1
      · intro hm
        rcases List.mem_cons.1 ((h m).2 (by simp [hm])) with e | h1
        · have := hb2.1 m hm; rw [e] at this; omega
        · exact h1
/-- The marks of a list without those that stand ahead. -/
def dedup (acc : List Mk) : List Mk → List Mk
  | [] => acc
  | m :: r => if m ∈ acc then dedup acc r else dedup (acc ++ [m]) r
theorem dedup_mem (L : List Mk) : ∀ (acc : List Mk) (m : Mk), m ∈ dedup acc L ↔ m ∈ acc ∨ m ∈ L := by
  induction L with
  | nil => intro acc m; simp [dedup]
  | cons x r ih =>
    intro acc m
    rw [dedup]
    split
    · rename_i hx
      rw [ih, List.mem_cons]
      constructor
      · rintro (h | h)
        · exact .inl h
        · exact .inr (.inr h)
      · rintro (h | h | h)
        · exact .inl h
        · subst h; exact .inl hx
        · exact .inr h
    · rw [ih, List.mem_append, List.mem_singleton, List.mem_cons, or_assoc]
theorem dedup_nodup (L : List Mk) : ∀ acc : List Mk, acc.Nodup → (dedup acc L).Nodup := by
  induction L with
  | nil => intro acc h; exact h
  | cons x r ih =>
    intro acc h
    rw [dedup]
    split
    · exact ih acc h
    · rename_i hx
      exact ih _ (List.nodup_append.2 ⟨h, by simp, fun a ha b hb => by rw [List.mem_singleton] at hb; subst hb; rintro rfl; exact hx ha⟩)
theorem dedup_len (L : List Mk) : ∀ acc : List Mk, (dedup acc L).length ≤ acc.length + L.length := by
  induction L with
  | nil => intro acc; simp [dedup]
  | cons x r ih =>
    intro acc
    rw [dedup]
    split
    · have := ih acc; simp only [List.length_cons]; omega
    · have := ih (acc ++ [x]); simp only [List.length_append, List.length_cons, List.length_nil] at *; omega
/-- Weakly in order by the first index. -/
def Srt (ms : List Mk) : Prop := ms.Pairwise (fun x y => x.at_ ≤ y.at_)
/-- A sorted list of the same marks is the merged one. -/
theorem sorted_merge {a b S : List Mk} (ha : Ord a) (hb : Ord b) (h : ∀ x ∈ a, ∀ y ∈ b, x ≠ y → ¬ (x.at_ ≤ y.at_ + y.cut ∧ y.at_ ≤ x.at_ + x.cut)) (hS : Srt S) (hP : S.Perm (dedup [] (a ++ b))) : S = mergeP a b := by
  have hmem : ∀ m, m ∈ S ↔ m ∈ a ∨ m ∈ b := fun m => by rw [hP.mem_iff, dedup_mem]; simp
  have hnd : S.Nodup := hP.nodup_iff.2 (dedup_nodup _ [] List.nodup_nil)
  have hOa : ∀ x ∈ a, ∀ y ∈ a, x ≠ y → (x.at_ + x.cut < y.at_ ∨ y.at_ + y.cut < x.at_) := by
    intro x hx y hy hne
    obtain ⟨i, hi, rfl⟩ := List.getElem_of_mem hx
    obtain ⟨j, hj, rfl⟩ := List.getElem_of_mem hy
    rcases Nat.lt_trichotomy i j with h1 | h1 | h1
    · exact .inl (List.pairwise_iff_getElem.1 ha i j hi hj h1)
    · subst h1; exact absurd rfl hne
    · exact .inr (List.pairwise_iff_getElem.1 ha j i hj hi h1)
  have hOb : ∀ x ∈ b, ∀ y ∈ b, x ≠ y → (x.at_ + x.cut < y.at_ ∨ y.at_ + y.cut < x.at_) := by
    intro x hx y hy hne
    obtain ⟨i, hi, rfl⟩ := List.getElem_of_mem hx
    obtain ⟨j, hj, rfl⟩ := List.getElem_of_mem hy
    rcases Nat.lt_trichotomy i j with h1 | h1 | h1
    · exact .inl (List.pairwise_iff_getElem.1 hb i j hi hj h1)
    · subst h1; exact absurd rfl hne
    · exact .inr (List.pairwise_iff_getElem.1 hb j i hj hi h1)
  have hO : Ord S := by
    refine List.pairwise_iff_getElem.2 (fun i j hi hj hij => ?_)
    have h1 := List.pairwise_iff_getElem.1 hS i j hi hj hij
    have h2 := List.pairwise_iff_getElem.1 hnd i j hi hj hij
    have m1 := (hmem _).1 (List.getElem_mem hi)
    have m2 := (hmem _).1 (List.getElem_mem hj)
    have h3 : S[i].at_ + S[i].cut < S[j].at_ ∨ S[j].at_ + S[j].cut < S[i].at_ := by
      rcases m1 with m1 | m1 <;> rcases m2 with m2 | m2
      · exact hOa _ m1 _ m2 h2
      · have := h _ m1 _ m2 h2; omega
      · have := h _ m2 _ m1 (fun e => h2 e.symm); omega
      · exact hOb _ m1 _ m2 h2
    omega
  exact ord_ext hO (mergeP_ord ha hb h) (fun m => by rw [hmem, mergeP_mem])

/-- What is done. -/
def doK (ws : List Wd) : List Mk → Nat → List Wd
  | [], i => ws.drop i
  | m :: r, i => (ws.drop i).take (m.at_ - i) ++ (m.put ++ doK ws r (m.at_ + m.cut))
def bothP (ws : List Wd) (a b : List Mk) : Option (List Mk) :=
  if (marksB ws a && (marksB ws b && !clashB a b)) = true then (if marksB ws (mergeP a b) = true then some (mergeP a b) else none) else none
def mergeThree (base a b : List Wd) : Option (List Wd) :=
  if (spB base && (spB a && spB b)) = true then (bothP base (mkAll base a) (mkAll base b)).map (fun m => doK base m 0) else none

/-- No more than twenty marks stand together. -/
theorem ord_at {S : List Mk} (h : Ord S) (i : Nat) (hi : i < S.length) : i ≤ S[i].at_ := by
  induction i with
  | zero => omega
  | succ i ih =>
    have h1 := ih (by omega)
    have h2 := List.pairwise_iff_getElem.1 h i (i + 1) (by omega) hi (by omega)
    omega
theorem ord_at2 {S : List Mk} (h : Ord S) {N : Nat} (hN : ∀ m ∈ S, m.at_ + m.cut ≤ N) (i : Nat) (hi : i < S.length) : S[i].at_ + S[i].cut + (S.length - 1 - i) ≤ N := by
  generalize hd : S.length - 1 - i = d
  induction d generalizing i with
  | zero => have := hN _ (List.getElem_mem hi); omega
  | succ d ih =>
    have h1 := ih (i + 1) (by omega) (by omega)
    have h2 := List.pairwise_iff_getElem.1 h i (i + 1) hi (by omega) (by omega)
    omega
theorem lenI_bd {n : Int} {ms : List Mk} (h0 : ∀ m ∈ ms, m.cut = 0) : lenI n ms = n + ((ms.map fun m => m.put.length).sum : Nat) := by
  unfold lenI
  induction ms generalizing n with
  | nil => simp
  | cons x r ih =>
    rw [List.foldl_cons, ih (fun m hm => h0 m (by simp [hm]))]
    have := h0 x (by simp)
    simp only [List.map_cons, List.sum_cons]
    omega
theorem no_ins {ws : List Wd} {ms : List Mk} (h : marksB ws ms = true) (hn : ws.length = 20) (h0 : ∀ m ∈ ms, m.cut = 0) : ms = [] := by
  obtain ⟨h1, h2, h3, h4⟩ := marksB_iff.1 h
  rw [lenI_bd h0, hn] at h4
  cases ms with
  | nil => rfl
  | cons x r =>
    have h5 := (gapB_ord h3).1 x (by simp)
    have h6 := (mkB_iff.1 h5).2.2
    have h7 := h0 x (by simp)
    simp only [List.map_cons, List.sum_cons] at h4
    omega
theorem merge_20 {ws : List Wd} {a b : List Mk} (ha : marksB ws a = true) (hb : marksB ws b = true) (hc : clashB a b = false) : (mergeP a b).length ≤ 20 := by
  obtain ⟨a1, a2, a3, a4⟩ := marksB_iff.1 ha
  obtain ⟨b1, b2, b3, b4⟩ := marksB_iff.1 hb
  have hn := (spB_iff.1 a1).2
  have hO := mergeP_ord (gapB_ord a3).2.1 (gapB_ord b3).2.1 (clashB_no hc)
  have hbd : ∀ m ∈ mergeP a b, m.at_ + m.cut ≤ ws.length := fun m hm => by
    rcases (mergeP_mem _ _ _).1 hm with h | h
    · exact (mkB_iff.1 ((gapB_ord a3).1 m h)).1
    · exact (mkB_iff.1 ((gapB_ord b3).1 m h)).1
  apply Classical.byContradiction
  intro hlen
  have h0 : ∀ m ∈ mergeP a b, m.cut = 0 := fun m hm => by
    obtain ⟨i, hi, rfl⟩ := List.getElem_of_mem hm
    have h1 := ord_at hO i hi
    have h2 := ord_at2 hO hbd i hi
    omega
  have hn20 : ws.length = 20 := by
    have hi : (mergeP a b).length - 1 < (mergeP a b).length := by omega
    have h1 := ord_at hO _ hi
    have h2 := hbd _ (List.getElem_mem hi)
    omega
  have e1 := no_ins ha hn20 (fun m hm => h0 m ((mergeP_mem _ _ _).2 (.inl hm)))
  have e2 := no_ins hb hn20 (fun m hm => h0 m ((mergeP_mem _ _ _).2 (.inr hm)))
  rw [e1, e2, mergeP_nil] at hlen
  simp at hlen
theorem dedup_20 {ws : List Wd} {a b : List Mk} (ha : marksB ws a = true) (hb : marksB ws b = true) (hc : clashB a b = false) : (dedup [] (a ++ b)).length ≤ 20 := by
  have h1 := merge_20 ha hb hc
  have h2 : (dedup [] (a ++ b)).mergeSort (fun x y => decide (x.at_ ≤ y.at_)) = mergeP a b := by
    refine sorted_merge (gapB_ord (marksB_iff.1 ha).2.2.1).2.1 (gapB_ord (marksB_iff.1 hb).2.2.1).2.1 (clashB_no hc) ?_ (List.mergeSort_perm _ _)
    refine (List.pairwise_mergeSort (le := fun x y : Mk => decide (x.at_ ≤ y.at_)) (fun x y z hxy hyz => ?_) (fun x y => ?_) _).imp (fun h => of_decide_eq_true h)
    · rw [decide_eq_true_iff] at *; omega
    · rw [Bool.or_eq_true, decide_eq_true_iff, decide_eq_true_iff]; omega
  rw [← h2, List.length_mergeSort] at h1
  exact h1
end Go.Proofs.Ytlfhgmbmgbbnjaa
