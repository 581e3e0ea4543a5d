/-
  Words, systems and dictionaries as plain lists. Conditions: none.
-/
import Derived.Test.YtppjjbjjbmodbaaDoorWrLaw
namespace Go.Proofs.YtppjjbjjbmodbaaDoor
set_option maxRecDepth 100000

instance : DecidableEq Stroke := fun a b => decidable_of_iff (a.dir = b.dir ∧ a.size = b.size) ⟨fun h => by cases a; cases b; simp_all, fun h => by subst h; exact ⟨rfl, rfl⟩⟩

def at8 (l : List UInt8) (i : Nat) : UInt8 := l.getD i 0
theorem at8_get {l : List UInt8} {i : Nat} (h : i < l.length) : l[i] = at8 l i := by simp [at8, List.getD_eq_getElem?_getD, h]
def isVow (c : UInt8) : Bool := decide (c = 97 ∨ c = 101 ∨ c = 105 ∨ c = 111 ∨ c = 117)
theorem wordB_iff {l : List UInt8} : wordB l = true ↔ (1 ≤ l.length ∧ l.length ≤ 12) ∧ ∀ i, i < l.length → isLetter (at8 l i) = true := by
  unfold wordB
  rw [Bool.and_eq_true, Bool.and_eq_true, decide_eq_true_iff, decide_eq_true_iff, List.all_eq_true]
  constructor
  · rintro ⟨h1, h2, h3⟩
    exact ⟨⟨h2, h3⟩, fun i hi => by rw [← at8_get hi]; exact h1 _ (List.getElem_mem hi)⟩
  · rintro ⟨⟨h2, h3⟩, h1⟩
    refine ⟨fun x hx => ?_, h2, h3⟩
    obtain ⟨i, hi, rfl⟩ := List.getElem_of_mem hx
    rw [at8_get hi]; exact h1 i hi
theorem wordB_size {l : List UInt8} (h : ¬ (1 ≤ l.length ∧ l.length ≤ 12)) : wordB l = false := by
  rw [Bool.eq_false_iff]; intro h2; exact h (wordB_iff.1 h2).1

def barePick (l : List UInt8) (i : Nat) : List UInt8 := if isVow (at8 l i) = false ∧ (i = 0 ∨ at8 l (i - 1) ≠ at8 l i) then [at8 l i] else []
def bareK (l : List UInt8) (k : Nat) : List UInt8 := (List.range k).flatMap (barePick l)
theorem bareK_succ (l : List UInt8) (k : Nat) : bareK l (k + 1) = bareK l k ++ barePick l k := by simp [bareK, List.range_succ]
theorem barePick_len (l : List UInt8) (i : Nat) : (barePick l i).length ≤ 1 := by unfold barePick; split <;> simp
theorem bareK_len (l : List UInt8) (k : Nat) : (bareK l k).length ≤ k := by
  induction k with
  | zero => simp [bareK]
  | succ k ih => rw [bareK_succ, List.length_append]; have := barePick_len l k; omega
def bareOf (l : List UInt8) : List UInt8 := if wordB l = true then bareK l l.length else []
theorem bareOf_yes {l : List UInt8} (h : wordB l = true) : bareOf l = bareK l l.length := if_pos h
theorem bareOf_no {l : List UInt8} (h : wordB l = false) : bareOf l = [] := if_neg (by rw [h]; simp)
theorem bareOf_len (l : List UInt8) : (bareOf l).length ≤ 12 := by
  cases h : wordB l with
  | true => rw [bareOf_yes h]; have := bareK_len l l.length; have := (wordB_iff.1 h).1; omega
  | false => rw [bareOf_no h]; simp
def vowPick (l : List UInt8) (i : Nat) : List UInt8 := if isVow (at8 l i) = true then [at8 l i] else []
def vowK (l : List UInt8) (k : Nat) : List UInt8 := (List.range k).flatMap (vowPick l)
theorem vowK_succ (l : List UInt8) (k : Nat) : vowK l (k + 1) = vowK l k ++ vowPick l k := by simp [vowK, List.range_succ]
theorem vowK_len (l : List UInt8) (k : Nat) : (vowK l k).length ≤ k := by
  induction k with
  | zero => simp [vowK]
  | succ k ih => rw [vowK_succ, List.length_append]; have : (vowPick l k).length ≤ 1 := by { unfold vowPick; split <;> simp }; omega
def vowOf (l : List UInt8) : List UInt8 := if wordB l = true then vowK l l.length else []
theorem vowOf_yes {l : List UInt8} (h : wordB l = true) : vowOf l = vowK l l.length := if_pos h
theorem vowOf_no {l : List UInt8} (h : wordB l = false) : vowOf l = [] := if_neg (by rw [h]; simp)
theorem vowOf_len (l : List UInt8) : (vowOf l).length ≤ 12 := by
  cases h : wordB l with
  | true => rw [vowOf_yes h]; have := vowK_len l l.length; have := (wordB_iff.1 h).1; omega
  | false => rw [vowOf_no h]; simp
def posV (v : List UInt8) : Int := match v with | [] => 1 | c :: _ => if c = 97 ∨ c = 111 then 0 else if c = 101 then 1 else 2
def posOf (l : List UInt8) : Int := if wordB l = true then posV (vowOf l) else -1
theorem posV_bd (v : List UInt8) : 0 ≤ posV v ∧ posV v ≤ 2 := by unfold posV; repeat' split <;> omega
theorem posOf_bd (l : List UInt8) : -1 ≤ posOf l ∧ posOf l ≤ 2 := by have := posV_bd (vowOf l); unfold posOf; split <;> omega

structure Sg where
  l : List UInt8
  st : Stroke
def sgAt (xs : List Sg) (k : Nat) : Sg := xs.getD k ⟨[], ⟨0, 0⟩⟩
theorem sgAt_some {xs : List Sg} {k : Nat} (h : k < xs.length) : xs[k]? = some (sgAt xs k) := by simp [sgAt, List.getD_eq_getElem?_getD, h]
theorem sgAt_mem {xs : List Sg} {k : Nat} (h : k < xs.length) : sgAt xs k ∈ xs := List.mem_of_getElem? (sgAt_some h)
def okL (l : List UInt8) : Bool := decide (l.length = 1) && (isLetter (at8 l 0) && !isVow (at8 l 0))
def okSg (x : Sg) : Bool := okL x.l && okS x.st
def sysGood (xs : List Sg) (i : Nat) : Prop := okSg (sgAt xs i) = true ∧ ∀ j, j < i → (sgAt xs j).l ≠ (sgAt xs i).l ∧ (sgAt xs j).st ≠ (sgAt xs i).st
instance (xs : List Sg) (i : Nat) : Decidable (sysGood xs i) := by unfold sysGood; infer_instance
def sysB (xs : List Sg) : Bool := decide (xs.length ≤ 21 ∧ ∀ i, i < xs.length → sysGood xs i)
theorem sysB_iff {xs : List Sg} : sysB xs = true ↔ xs.length ≤ 21 ∧ ∀ i, i < xs.length → sysGood xs i := by unfold sysB; rw [decide_eq_true_iff]
theorem sysB_no {xs : List Sg} {i : Nat} (hi : i < xs.length) (h : ¬ sysGood xs i) : sysB xs = false := by
  rw [Bool.eq_false_iff]; intro h2; exact h ((sysB_iff.1 h2).2 i hi)
theorem sysB_all {xs : List Sg} (h : ∀ i, i < xs.length → sysGood xs i) : sysB xs = decide (xs.length ≤ 21) := by
  unfold sysB; congr 1; exact propext ⟨fun h => h.1, fun h2 => ⟨h2, h⟩⟩
theorem sysB_long {xs : List Sg} (h : 21 < xs.length) : sysB xs = false := by
  rw [Bool.eq_false_iff]; intro h2; have := (sysB_iff.1 h2).1; omega

def strokeOf (xs : List Sg) (l : List UInt8) : Option Stroke := if sysB xs = true then (xs.find? fun x => decide (x.l = l)).map (·.st) else none
theorem find_at : ∀ {xs : List Sg} {l : List UInt8} {i : Nat}, i < xs.length → (∀ j, j < i → (sgAt xs j).l ≠ l) → (sgAt xs i).l = l → (xs.find? fun x => decide (x.l = l)) = some (sgAt xs i)
  | [], _, _, h, _, _ => by simp at h
  | x :: r, l, 0, _, _, h => by
    have h : x.l = l := h
    rw [List.find?_cons, decide_eq_true h]; rfl
  | x :: r, l, i + 1, hi, hj, h => by
    have h0 : x.l ≠ l := hj 0 (by omega)
    rw [List.find?_cons, decide_eq_false h0]
    have := find_at (xs := r) (l := l) (i := i) (by simpa using hi) (fun j hj2 => hj (j + 1) (by omega)) h
    rw [this]; rfl
theorem find_no {xs : List Sg} {l : List UInt8} (h : ∀ j, j < xs.length → (sgAt xs j).l ≠ l) : (xs.find? fun x => decide (x.l = l)) = none := by
  rw [List.find?_eq_none]
  intro x hx
  obtain ⟨i, hi, rfl⟩ := List.getElem_of_mem hx
  have := h i hi
  unfold sgAt at this
  rw [List.getD_eq_getElem?_getD, List.getElem?_eq_getElem hi] at this
  simpa using this
theorem strokeOf_at {xs : List Sg} {l : List UInt8} {i : Nat} (hb : sysB xs = true) (hi : i < xs.length) (hj : ∀ j, j < i → (sgAt xs j).l ≠ l) (h : (sgAt xs i).l = l) : strokeOf xs l = some (sgAt xs i).st := by
  unfold strokeOf; rw [if_pos hb, find_at hi hj h]; rfl
theorem strokeOf_no {xs : List Sg} {l : List UInt8} (h : sysB xs = true → ∀ j, j < xs.length → (sgAt xs j).l ≠ l) : strokeOf xs l = none := by
  unfold strokeOf; split
  · rename_i hb; rw [find_no (h hb)]; rfl
  · rfl
theorem strokeOf_ok {xs : List Sg} {l : List UInt8} {s : Stroke} (h : strokeOf xs l = some s) : sysB xs = true ∧ okS s = true := by
  unfold strokeOf at h
  split at h
  · rename_i hb
    obtain ⟨x, hx, rfl⟩ := Option.map_eq_some_iff.1 h
    obtain ⟨i, hi, rfl⟩ := List.getElem_of_mem (List.mem_of_find?_eq_some hx)
    have := ((sysB_iff.1 hb).2 i hi).1
    unfold sgAt at this
    rw [List.getD_eq_getElem?_getD, List.getElem?_eq_getElem hi] at this
    unfold okSg at this
    rw [Bool.and_eq_true] at this
    exact ⟨hb, this.2⟩
  · cases h

def outl (xs : List Sg) : List UInt8 → Option (List Stroke)
  | [] => some []
  | c :: r => (strokeOf xs [c]).bind fun s => (outl xs r).map (s :: ·)
theorem outl_snoc (xs : List Sg) (a : List UInt8) (c : UInt8) : outl xs (a ++ [c]) = (outl xs a).bind fun L => (strokeOf xs [c]).map fun s => L ++ [s] := by
  induction a with
  | nil => simp only [List.nil_append, outl]; cases strokeOf xs [c] <;> rfl
  | cons x r ih =>
    simp only [List.cons_append, outl, ih]
    cases strokeOf xs [x] <;> cases outl xs r <;> cases strokeOf xs [c] <;> rfl
theorem outl_no {xs : List Sg} {a : List UInt8} {c : UInt8} (h : c ∈ a) (hn : strokeOf xs [c] = none) : outl xs a = none := by
  induction a with
  | nil => cases h
  | cons x r ih =>
    rcases List.mem_cons.1 h with rfl | h
    · simp [outl, hn]
    · simp only [outl, ih h]; cases strokeOf xs [x] <;> rfl
theorem outl_len {xs : List Sg} : ∀ {a : List UInt8} {o : List Stroke}, outl xs a = some o → o.length = a.length
  | [], o, h => by simp [outl] at h; subst h; rfl
  | c :: r, o, h => by
    simp only [outl] at h
    obtain ⟨s, _, h⟩ := Option.bind_eq_some_iff.1 h
    obtain ⟨q, hq, rfl⟩ := Option.map_eq_some_iff.1 h
    simp [outl_len hq]
def wordOut (xs : List Sg) (l : List UInt8) : Option (List Stroke) :=
  if sysB xs = true ∧ wordB l = true then (outl xs (bareOf l)).bind fun o => if outB o = true then some o else none else none
theorem wordOut_bad {xs : List Sg} {l : List UInt8} (h : sysB xs = false ∨ wordB l = false) : wordOut xs l = none := if_neg (by rintro ⟨h1, h2⟩; rcases h with h | h <;> simp_all)
theorem wordOut_eq {xs : List Sg} {l : List UInt8} (h1 : sysB xs = true) (h2 : wordB l = true) : wordOut xs l = (outl xs (bareOf l)).bind fun o => if outB o = true then some o else none := if_pos ⟨h1, h2⟩
theorem wordOut_ok {xs : List Sg} {l : List UInt8} {o : List Stroke} (h : wordOut xs l = some o) : sysB xs = true ∧ wordB l = true ∧ outl xs (bareOf l) = some o ∧ outB o = true := by
  unfold wordOut at h
  split at h
  · rename_i hb
    obtain ⟨q, hq, h⟩ := Option.bind_eq_some_iff.1 h
    split at h
    · rename_i ho; injection h with h; subst h; exact ⟨hb.1, hb.2, hq, ho⟩
    · cases h
  · cases h

def wdAt (ws : List (List UInt8)) (k : Nat) : List UInt8 := ws.getD k []
theorem wdAt_some {ws : List (List UInt8)} {k : Nat} (h : k < ws.length) : ws[k]? = some (wdAt ws k) := by simp [wdAt, List.getD_eq_getElem?_getD, h]
theorem wdAt_mem {ws : List (List UInt8)} {k : Nat} (h : k < ws.length) : wdAt ws k ∈ ws := List.mem_of_getElem? (wdAt_some h)
def dicGood (ws : List (List UInt8)) (i : Nat) : Prop := wordB (wdAt ws i) = true ∧ ∀ j, j < i → wdAt ws j ≠ wdAt ws i
instance (ws : List (List UInt8)) (i : Nat) : Decidable (dicGood ws i) := by unfold dicGood; infer_instance
def dicB (ws : List (List UInt8)) : Bool := decide (ws.length ≤ 20 ∧ ∀ i, i < ws.length → dicGood ws i)
theorem dicB_iff {ws : List (List UInt8)} : dicB ws = true ↔ ws.length ≤ 20 ∧ ∀ i, i < ws.length → dicGood ws i := by unfold dicB; rw [decide_eq_true_iff]
theorem dicB_no {ws : List (List UInt8)} {i : Nat} (hi : i < ws.length) (h : ¬ dicGood ws i) : dicB ws = false := by
  rw [Bool.eq_false_iff]; intro h2; exact h ((dicB_iff.1 h2).2 i hi)
theorem dicB_all {ws : List (List UInt8)} (h : ∀ i, i < ws.length → dicGood ws i) : dicB ws = decide (ws.length ≤ 20) := by
  unfold dicB; congr 1; exact propext ⟨fun h => h.1, fun h2 => ⟨h2, h⟩⟩
theorem dicB_long {ws : List (List UInt8)} (h : 20 < ws.length) : dicB ws = false := by
  rw [Bool.eq_false_iff]; intro h2; have := (dicB_iff.1 h2).1; omega
/-- The indexes of the written words among the first k. -/
def idxK (xs : List Sg) (ws : List (List UInt8)) (k : Nat) : List Nat := (List.range k).filter fun i => (wordOut xs (wdAt ws i)).isSome
theorem idxK_succ (xs : List Sg) (ws : List (List UInt8)) (k : Nat) : idxK xs ws (k + 1) = idxK xs ws k ++ if (wordOut xs (wdAt ws k)).isSome = true then [k] else [] := by
  unfold idxK; rw [List.range_succ, List.filter_append]; congr 1; simp [List.filter_cons]
theorem idxK_lt {xs : List Sg} {ws : List (List UInt8)} {k i : Nat} (h : i ∈ idxK xs ws k) : i < k := by unfold idxK at h; rw [List.mem_filter, List.mem_range] at h; exact h.1
theorem idxK_len (xs : List Sg) (ws : List (List UInt8)) (k : Nat) : (idxK xs ws k).length ≤ k := by unfold idxK; exact Nat.le_trans (List.length_filter_le _ _) (by simp)
def idxOf (xs : List Sg) (ws : List (List UInt8)) : List Nat := if sysB xs = true ∧ dicB ws = true then idxK xs ws ws.length else []
end Go.Proofs.YtppjjbjjbmodbaaDoor
