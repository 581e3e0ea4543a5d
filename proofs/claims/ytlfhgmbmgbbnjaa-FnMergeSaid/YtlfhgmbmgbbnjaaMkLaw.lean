/-
  Marks of transcripts, as plain lists: the least size, the marks that lead from one transcript to another, validity, clashes, both lists together, doing. Conditions: none.
-/
import Derived.Test.YtlfhgmbmgbbnjaaRows
namespace Go.Proofs.Ytlfhgmbmgbbnjaa

abbrev Wd := List UInt8
/-- The least size of marks that lead from one list to another. -/
def dst : List Wd → List Wd → Nat
  | [], b => b.length
  | x :: a, [] => (x :: a).length
  | x :: a, y :: b => if x = y then dst a b else 1 + min (dst a (y :: b)) (dst (x :: a) b)
termination_by a b => a.length + b.length
theorem dst_nil (b : List Wd) : dst [] b = b.length := by rw [dst]
theorem dst_nil' (a : List Wd) : dst a [] = a.length := by cases a <;> rw [dst]
theorem dst_cons (x y : Wd) (a b : List Wd) : dst (x :: a) (y :: b) = if x = y then dst a b else 1 + min (dst a (y :: b)) (dst (x :: a) b) := by rw [dst]
theorem dst_le (a b : List Wd) : dst a b ≤ a.length + b.length := by
  induction a, b using dst.induct with
  | case1 b => rw [dst_nil]; simp
  | case2 x a => rw [dst_nil']; simp
  | case3 x a b ih => rw [dst_cons, if_pos rfl]; simp only [List.length_cons]; omega
  | case4 x a y b h ih1 ih2 => rw [dst_cons, if_neg h]; simp only [List.length_cons] at *; omega
theorem dst_lip (a b : List Wd) : (∀ x, dst (x :: a) b ≤ dst a b + 1 ∧ dst a b ≤ dst (x :: a) b + 1) ∧ (∀ y, dst a (y :: b) ≤ dst a b + 1 ∧ dst a b ≤ dst a (y :: b) + 1) := by
  generalize hn : a.length + b.length = n
  induction n using Nat.strongRecOn generalizing a b with
  | _ n ih =>
  have hA : ∀ x, dst (x :: a) b ≤ dst a b + 1 ∧ dst a b ≤ dst (x :: a) b + 1 := by
    intro x
    cases b with
    | nil => rw [dst_nil', dst_nil']; simp; omega
    | cons y b =>
      rw [dst_cons]
      have h1 := (ih (a.length + b.length) (by rw [← hn]; simp) a b rfl).2 y
      split
      · omega
      · have h2 := (ih (a.length + b.length) (by rw [← hn]; simp) a b rfl).1 x
        omega
  have hB : ∀ y, dst a (y :: b) ≤ dst a b + 1 ∧ dst a b ≤ dst a (y :: b) + 1 := by
    intro y
    cases a with
    | nil => rw [dst_nil, dst_nil]; simp; omega
    | cons x a =>
      rw [dst_cons]
      have h1 := (ih (a.length + b.length) (by rw [← hn]; simp) a b rfl).1 x
      split
      · omega
      · have h2 := (ih (a.length + b.length) (by rw [← hn]; simp) a b rfl).2 y
        omega
  exact ⟨hA, hB⟩
/-- Both texts' tests for the next step agree. -/
theorem dst_step (x : Wd) (a b : List Wd) : dst a b < dst (x :: a) b ↔ 1 + dst a b = dst (x :: a) b := by
  have := (dst_lip a b).1 x
  omega

/-- A mark. -/
structure Mk where
  at_ : Nat
  cut : Nat
  put : List Wd
deriving DecidableEq
def Mk.end_ (m : Mk) : Nat := m.at_ + m.cut
def curOf (i : Nat) (cur : Option Mk) : Mk := cur.getD ⟨i, 0, []⟩
/-- The marks from one list to another, from index i on, behind an open mark. -/
def mkGo : List Wd → List Wd → Nat → Option Mk → List Mk
  | [], [], _, cur => cur.toList
  | x :: a, [], i, cur => mkGo a [] (i + 1) (some ⟨(curOf i cur).at_, (curOf i cur).cut + 1, (curOf i cur).put⟩)
  | [], y :: b, i, cur => mkGo [] b i (some ⟨(curOf i cur).at_, (curOf i cur).cut, (curOf i cur).put ++ [y]⟩)
  | x :: a, y :: b, i, cur =>
    if x = y then cur.toList ++ mkGo a b (i + 1) none
    else if dst a (y :: b) < dst (x :: a) (y :: b) then mkGo a (y :: b) (i + 1) (some ⟨(curOf i cur).at_, (curOf i cur).cut + 1, (curOf i cur).put⟩)
    else mkGo (x :: a) b i (some ⟨(curOf i cur).at_, (curOf i cur).cut, (curOf i cur).put ++ [y]⟩)
termination_by a b => a.length + b.length
def mkAll (a b : List Wd) : List Mk := mkGo a b 0 none
theorem mkGo_done (i : Nat) (cur : Option Mk) : mkGo [] [] i cur = cur.toList := by rw [mkGo]
theorem mkGo_same {a b : List Wd} {x : Wd} {i : Nat} {cur : Option Mk} : mkGo (x :: a) (x :: b) i cur = cur.toList ++ mkGo a b (i + 1) none := by rw [mkGo, if_pos rfl]
theorem mkGo_cut {a b : List Wd} {x : Wd} {i : Nat} {cur : Option Mk} (h : ∀ y r, b = y :: r → x ≠ y) (hd : dst a b < dst (x :: a) b) :
    mkGo (x :: a) b i cur = mkGo a b (i + 1) (some ⟨(curOf i cur).at_, (curOf i cur).cut + 1, (curOf i cur).put⟩) := by
  cases b with
  | nil => rw [mkGo]
  | cons y b => rw [mkGo, if_neg (h y b rfl), if_pos hd]
theorem mkGo_put {a b : List Wd} {y : Wd} {i : Nat} {cur : Option Mk} (h : ∀ x r, a = x :: r → x ≠ y ∧ ¬ dst r (y :: b) < dst (x :: r) (y :: b)) :
    mkGo a (y :: b) i cur = mkGo a b i (some ⟨(curOf i cur).at_, (curOf i cur).cut, (curOf i cur).put ++ [y]⟩) := by
  cases a with
  | nil => rw [mkGo]
  | cons x a => rw [mkGo, if_neg (h x a rfl).1, if_neg (h x a rfl).2]
/-- Nothing is left to be put: the next word is cut. -/
theorem dst_end (x : Wd) (a : List Wd) : dst a [] < dst (x :: a) [] := by rw [dst_nil', dst_nil']; simp

/-- The sizes stay small. -/
theorem mkGo_bd {N M : Nat} : ∀ (a b : List Wd) (i : Nat) (cur : Option Mk), i + a.length ≤ N → (∀ m, cur = some m → m.at_ + m.cut ≤ i ∧ m.put.length + b.length ≤ M) → b.length ≤ M →
    ∀ m ∈ mkGo a b i cur, m.at_ + m.cut ≤ N ∧ m.put.length ≤ M := by
  intro a b i cur
  induction a, b, i, cur using mkGo.induct with
  | case1 i cur =>
    intro h1 h2 h3 m hm
    rw [mkGo_done] at hm
    cases cur with
    | none => cases hm
    | some m' =>
      have e : m = m' := by simpa using hm
      have := h2 m' rfl
      rw [e]; simp at *; omega
  | case2 x a i cur ih =>
    intro h1 h2 h3 m hm
    rw [mkGo_cut (fun y r h => by cases h) (dst_end x a)] at hm
    refine ih (by simp at h1; omega) (fun m' e => ?_) h3 m hm
    injection e with e
    subst e
    cases cur with
    | none => simp [curOf]
    | some c => have := h2 c rfl; simp [curOf] at *; omega
  | case3 y b i cur ih =>
    intro h1 h2 h3 m hm
    rw [mkGo_put (fun x r h => by cases h)] at hm
    refine ih h1 (fun m' e => ?_) (by simp at h3; omega) m hm
    injection e with e
    subst e
    cases cur with
    | none => simp [curOf] at *; omega
    | some c => have := h2 c rfl; simp [curOf] at *; omega
  | case4 x a b i cur ih =>
    intro h1 h2 h3 m hm
    rw [mkGo_same] at hm
    rcases List.mem_append.1 hm with hm | hm
    · cases cur with
      | none => cases hm
      | some m' =>
        have e : m = m' := by simpa using hm
        have := h2 m' rfl
        rw [e]; simp at *; omega
    · exact ih (by simp at h1; omega) (fun m' e => by cases e) (by simp at h3; omega) m hm
  | case5 x a y b i cur hne hd ih =>
    intro h1 h2 h3 m hm
    rw [mkGo_cut (fun y' r h => by injection h with h _; rw [← h]; exact hne) hd] at hm
    refine ih (by simp at h1; omega) (fun m' e => ?_) h3 m hm
    injection e with e
    subst e
    cases cur with
    | none => simp [curOf] at *; omega
    | some c => have := h2 c rfl; simp [curOf] at *; omega
  | case6 x a y b i cur hne hd ih =>
    intro h1 h2 h3 m hm
    rw [mkGo_put (fun x' r h => by injection h with h1 h2; rw [← h1, ← h2]; exact ⟨hne, hd⟩)] at hm
    refine ih h1 (fun m' e => ?_) (by simp at h3; omega) m hm
    injection e with e
    subst e
    cases cur with
    | none => simp [curOf] at *; omega
    | some c => have := h2 c rfl; simp [curOf] at *; omega
end Go.Proofs.Ytlfhgmbmgbbnjaa
