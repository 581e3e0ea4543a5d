/-
  Contracts and plain laws that the proof of the law ExactExecute leans on. Conditions: as each says.
-/
import Derived.Test.YtbkhnljaajajiaaGreatDoorPExactExecute00
import Derived.Test.YtbkhnljaajajiaaGreatDoorRows
import Derived.Laws.MakeOwn
namespace Go.Proofs.YtbkhnljaajajiaaGreatDoor
open Go.ChangeShapes Go.WideShapes Go.ChangeAt Go.RowKit
set_option maxRecDepth 100000
set_option linter.unusedSimpArgs false
set_option linter.unusedVariables false
theorem Row.take {w : World} {B n sz k : Nat} {A : Option Addr} {xs : List Value} (h : Row w B A n sz xs) (hk : k ≤ n) : Row w B A k sz (xs.take (k * sz)) := by
 refine ⟨by rw [List.length_take, h.1, Nat.min_eq_left (Nat.mul_le_mul_right _ hk)], fun h0 => ?_⟩; obtain ⟨b, off, e, hb, hc⟩ := h.2 (by omega); refine ⟨b, off, e, hb, fun j u hu => hc j u ?_⟩; have hj : j < (xs.take (k * sz)).length := (List.getElem?_eq_some_iff.1 hu).1; rw [List.length_take] at hj
 rwa [List.getElem?_take_of_lt (by omega)] at hu
theorem Row.drop {w : World} {B n sz k b off : Nat} {xs : List Value} (h : Row w B (some ⟨b, off, none⟩) n sz xs) (hk : k ≤ n) : Row w B (some ⟨b, off + k * sz, none⟩) (n - k) sz (xs.drop (k * sz)) := by
 refine ⟨by rw [List.length_drop, h.1, Nat.sub_mul], fun h0 => ?_⟩; obtain ⟨b', off', e, hb, hc⟩ := h.2 (by omega); injection e with e; injection e with e1 e2; subst e1 e2; refine ⟨b, off + k * sz, rfl, hb, fun j u hu => ?_⟩; rw [List.getElem?_drop] at hu; have := hc _ u hu
 rwa [← Nat.add_assoc] at this
theorem Row.empty {w : World} {B sz : Nat} {A : Option Addr} : Row w B A 0 sz [] := ⟨by simp, fun h => by omega⟩
theorem flat_take {α : Type} {ea : α → List Value} {sz : Nat} (hl : ∀ a, (ea a).length = sz) (l : List α) (k : Nat) : (l.flatMap ea).take (k * sz) = (l.take k).flatMap ea := by
 rcases Nat.lt_or_ge k l.length with h | h
 ·have e : l.flatMap ea = (l.take k).flatMap ea ++ (l.drop k).flatMap ea := (by rw [← List.flatMap_append, List.take_append_drop]); have e2 : ((l.take k).flatMap ea).length = k * sz := (by rw [flat_len hl, List.length_take, Nat.min_eq_left (by omega)]); rw [e, List.take_append_of_le_length (by omega), List.take_of_length_le (by omega)]
 ·rw [List.take_of_length_le h, List.take_of_length_le (by rw [flat_len hl]; exact Nat.mul_le_mul_right _ h)]
theorem flat_drop {α : Type} {ea : α → List Value} {sz : Nat} (hl : ∀ a, (ea a).length = sz) (l : List α) (k : Nat) : (l.flatMap ea).drop (k * sz) = (l.drop k).flatMap ea := by
 rcases Nat.lt_or_ge k l.length with h | h
 ·have e : l.flatMap ea = (l.take k).flatMap ea ++ (l.drop k).flatMap ea := (by rw [← List.flatMap_append, List.take_append_drop]); have e2 : ((l.take k).flatMap ea).length = k * sz := (by rw [flat_len hl, List.length_take, Nat.min_eq_left (by omega)]); rw [e, List.drop_append_of_le_length (by omega), List.drop_of_length_le (by omega), List.nil_append]
 ·rw [List.drop_of_length_le h, List.drop_of_length_le (by rw [flat_len hl]; exact Nat.mul_le_mul_right _ h)]; rfl
def fromB (a : Option Addr) (k c sz : Nat) : Option Addr := if c = k then a else a.map (·.add (k * sz))
theorem run_fromS {P : Program} {t : TypeId} {sz : Nat} (ht : P.underlying t = some (.slice (P.elem t))) (hs : ∀ w, (sizeOf (P.elem t)).run P w = .ok sz w) (a : Option Addr) (n c k : Nat) (hk : k ≤ n) (w : World) :
  (Instr.slice t (.slice a n c) (some (.int .i64 (k : Int))) none none).run P w = .ok (.slice (fromB a k c sz) (n - k) (c - k)) w := by
 rw [run_slice_l w t a n c ht .i64 (k : Int) (by omega) (by omega), hs]; simp [Result.andThen, sliced, fromB]
theorem Row.fromS {w : World} {B n sz k c : Nat} {A : Option Addr} {xs : List Value} (h : Row w B A n sz xs) (hk : k ≤ n) (hc : n ≤ c) : Row w B (fromB A k c sz) (n - k) sz (xs.drop (k * sz)) := by
 unfold fromB; by_cases e : c = k
 ·rw [if_pos e]; have h0 : n - k = 0 := (by omega); have h1 : xs.drop (k * sz) = [] := List.drop_of_length_le (by rw [h.1]; exact Nat.mul_le_mul_right _ (by omega)); rw [h0, h1]; exact Row.empty
 ·rw [if_neg e]; rcases Nat.eq_zero_or_pos n with hn | hn
  ·have h0 : n - k = 0 := (by omega); have h1 : xs.drop (k * sz) = [] := List.drop_of_length_le (by rw [h.1, hn]; simp); rw [h0, h1]; exact Row.empty
  ·obtain ⟨b, off, eA, _⟩ := h.2 hn; subst eA; rw [show Option.map (fun x : Addr => x.add (k * sz)) (some (⟨b, off, none⟩ : Addr)) = some ⟨b, off + k * sz, none⟩ from by
    by_cases hz : k * sz = 0
    ·simp [Addr.add, hz]
    ·simp [Addr.add, hz]]
   exact h.drop hk
theorem run_uptoA {P : Program} {t : TypeId} {sz : Nat} (ht : P.underlying t = some (.slice (P.elem t))) (hs : ∀ w, (sizeOf (P.elem t)).run P w = .ok sz w) (a : Option Addr) (n c k : Nat) (hk : k ≤ c) (w : World) :
  (Instr.slice t (.slice a n c) none (some (.int .i64 (k : Int))) none).run P w = .ok (.slice a k c) w := by
 rw [run_slice_h w t a n c ht .i64 (k : Int) (by omega) (by omega), hs]; cases a <;> simp [Result.andThen, sliced, Addr.add]
theorem elemW : Tryz.prog.underlying 27 = some (.slice (Tryz.prog.elem 27)) := by kernel_rfl
theorem sizeW : ∀ w, (sizeOf (Tryz.prog.elem 27)).run Tryz.prog w = .ok 1 w := fun w => by kernel_rfl
theorem WdsIn.upto {w : World} {B n c k : Nat} {A : Option Addr} {ws : List (List UInt8)} (h : WdsIn w B A n c ws) (hk : k ≤ n) : WdsIn w B A k c (ws.take k) :=
 ⟨by rw [List.length_take, h.1]; omega, Nat.le_trans hk h.2.1, h.2.2.1, by have := h.2.2.2.take hk; rw [Nat.mul_one, ← List.map_take] at this; exact this⟩
theorem WdsIn.fromS {w : World} {B n c k : Nat} {A : Option Addr} {ws : List (List UInt8)} (h : WdsIn w B A n c ws) (hk : k ≤ n) : WdsIn w B (fromB A k c 1) (n - k) (c - k) (ws.drop k) :=
 ⟨by rw [List.length_drop, h.1], by have := h.2.1; omega, by have := h.2.2.1; omega, by have := h.2.2.2.fromS hk h.2.1; rw [Nat.mul_one, ← List.map_drop] at this; exact this⟩
end Go.Proofs.YtbkhnljaajajiaaGreatDoor
namespace Go.Proofs.YtbkhnljaajajiaaGreatDoor
set_option maxRecDepth 100000
set_option linter.unusedSimpArgs false
set_option linter.unusedVariables false
abbrev Wd := List UInt8
def dst : List Wd → List Wd → Nat
 | [], b => b.length
 | x :: a, [] => (x :: a).length
 | x :: a, y :: b => if x = y then dst a b else 1 + min (dst a (y :: b)) (dst (x :: a) b)
termination_by a b => a.length + b.length
theorem dst_nil (b : List Wd) : dst [] b = b.length := by rw [dst]
theorem dst_nil' (a : List Wd) : dst a [] = a.length := by cases a <;> rw [dst]
theorem dst_cons (x y : Wd) (a b : List Wd) : dst (x :: a) (y :: b) = if x = y then dst a b else 1 + min (dst a (y :: b)) (dst (x :: a) b) := by rw [dst]
theorem dst_le (a b : List Wd) : dst a b ≤ a.length + b.length := by
 induction a, b using dst.induct with
 | case1 b => rw [dst_nil]; simp
 | case2 x a => rw [dst_nil']; simp
 | case3 x a b ih => rw [dst_cons, if_pos rfl]; simp only [List.length_cons]; omega
 | case4 x a y b h ih1 ih2 => rw [dst_cons, if_neg h]; simp only [List.length_cons] at *; omega
theorem dst_lip (a b : List Wd) : (∀ x, dst (x :: a) b ≤ dst a b + 1 ∧ dst a b ≤ dst (x :: a) b + 1) ∧ (∀ y, dst a (y :: b) ≤ dst a b + 1 ∧ dst a b ≤ dst a (y :: b) + 1) := by
 generalize hn : a.length + b.length = n; induction n using Nat.strongRecOn generalizing a b with
 | _ n ih =>
 have hA : ∀ x, dst (x :: a) b ≤ dst a b + 1 ∧ dst a b ≤ dst (x :: a) b + 1 := by
  intro x; cases b with
  | nil => rw [dst_nil', dst_nil']; simp; omega
  | cons y b =>
   rw [dst_cons]; have h1 := (ih (a.length + b.length) (by rw [← hn]; simp) a b rfl).2 y; split
   ·omega
   ·have h2 := (ih (a.length + b.length) (by rw [← hn]; simp) a b rfl).1 x; omega
 have hB : ∀ y, dst a (y :: b) ≤ dst a b + 1 ∧ dst a b ≤ dst a (y :: b) + 1 := by
  intro y; cases a with
  | nil => rw [dst_nil, dst_nil]; simp; omega
  | cons x a =>
   rw [dst_cons]; have h1 := (ih (a.length + b.length) (by rw [← hn]; simp) a b rfl).1 x; split
   ·omega
   ·have h2 := (ih (a.length + b.length) (by rw [← hn]; simp) a b rfl).2 y; omega
 exact ⟨hA, hB⟩
theorem dst_step (x : Wd) (a b : List Wd) : dst a b < dst (x :: a) b ↔ 1 + dst a b = dst (x :: a) b := by
 have := (dst_lip a b).1 x; omega
structure Mk where
 at_ : Nat
 cut : Nat
 put : List Wd
deriving DecidableEq
def curOf (i : Nat) (cur : Option Mk) : Mk := cur.getD ⟨i, 0, []⟩
def mkGo : List Wd → List Wd → Nat → Option Mk → List Mk
 | [], [], _, cur => cur.toList
 | x :: a, [], i, cur => mkGo a [] (i + 1) (some ⟨(curOf i cur).at_, (curOf i cur).cut + 1, (curOf i cur).put⟩)
 | [], y :: b, i, cur => mkGo [] b i (some ⟨(curOf i cur).at_, (curOf i cur).cut, (curOf i cur).put ++ [y]⟩)
 | x :: a, y :: b, i, cur =>
  if x = y then cur.toList ++ mkGo a b (i + 1) none
  else if dst a (y :: b) < dst (x :: a) (y :: b) then mkGo a (y :: b) (i + 1) (some ⟨(curOf i cur).at_, (curOf i cur).cut + 1, (curOf i cur).put⟩)
  else mkGo (x :: a) b i (some ⟨(curOf i cur).at_, (curOf i cur).cut, (curOf i cur).put ++ [y]⟩)
termination_by a b => a.length + b.length
def mkAll (a b : List Wd) : List Mk := mkGo a b 0 none
theorem mkGo_done (i : Nat) (cur : Option Mk) : mkGo [] [] i cur = cur.toList := by rw [mkGo]
theorem mkGo_same {a b : List Wd} {x : Wd} {i : Nat} {cur : Option Mk} : mkGo (x :: a) (x :: b) i cur = cur.toList ++ mkGo a b (i + 1) none := by rw [mkGo, if_pos rfl]
theorem mkGo_cut {a b : List Wd} {x : Wd} {i : Nat} {cur : Option Mk} (h : ∀ y r, b = y :: r → x ≠ y) (hd : dst a b < dst (x :: a) b) :
  mkGo (x :: a) b i cur = mkGo a b (i + 1) (some ⟨(curOf i cur).at_, (curOf i cur).cut + 1, (curOf i cur).put⟩) := by
 cases b with
 | nil => rw [mkGo]
 | cons y b => rw [mkGo, if_neg (h y b rfl), if_pos hd]
theorem mkGo_put {a b : List Wd} {y : Wd} {i : Nat} {cur : Option Mk} (h : ∀ x r, a = x :: r → x ≠ y ∧ ¬ dst r (y :: b) < dst (x :: r) (y :: b)) :
  mkGo a (y :: b) i cur = mkGo a b i (some ⟨(curOf i cur).at_, (curOf i cur).cut, (curOf i cur).put ++ [y]⟩) := by
 cases a with
 | nil => rw [mkGo]
 | cons x a => rw [mkGo, if_neg (h x a rfl).1, if_neg (h x a rfl).2]
theorem dst_end (x : Wd) (a : List Wd) : dst a [] < dst (x :: a) [] := by rw [dst_nil', dst_nil']; simp
theorem mkGo_bd {N M : Nat} : ∀ (a b : List Wd) (i : Nat) (cur : Option Mk), i + a.length ≤ N → (∀ m, cur = some m → m.at_ + m.cut ≤ i ∧ m.put.length + b.length ≤ M) → b.length ≤ M →
  ∀ m ∈ mkGo a b i cur, m.at_ + m.cut ≤ N ∧ m.put.length ≤ M := by
 intro a b i cur; induction a, b, i, cur using mkGo.induct with
 | case1 i cur =>
  intro h1 h2 h3 m hm; rw [mkGo_done] at hm; cases cur with
  | none => cases hm
  | some m' =>
   have e : m = m' := (by simpa using hm); have := h2 m' rfl; rw [e]; simp at *; omega
 | case2 x a i cur ih =>
  intro h1 h2 h3 m hm; rw [mkGo_cut (fun y r h => by cases h) (dst_end x a)] at hm; refine ih (by simp at h1; omega) (fun m' e => ?_) h3 m hm; injection e with e; subst e; cases cur with
  | none => simp [curOf]
  | some c => have := h2 c rfl; simp [curOf] at *; omega
 | case3 y b i cur ih =>
  intro h1 h2 h3 m hm; rw [mkGo_put (fun x r h => by cases h)] at hm; refine ih h1 (fun m' e => ?_) (by simp at h3; omega) m hm; injection e with e; subst e; cases cur with
  | none => simp [curOf] at *; omega
  | some c => have := h2 c rfl; simp [curOf] at *; omega
 | case4 x a b i cur ih =>
  intro h1 h2 h3 m hm; rw [mkGo_same] at hm; rcases List.mem_append.1 hm with hm | hm
  ·cases cur with
   | none => cases hm
   | some m' =>
    have e : m = m' := (by simpa using hm); have := h2 m' rfl; rw [e]; simp at *; omega
  ·exact ih (by simp at h1; omega) (fun m' e => by cases e) (by simp at h3; omega) m hm
 | case5 x a y b i cur hne hd ih =>
  intro h1 h2 h3 m hm; rw [mkGo_cut (fun y' r h => by injection h with h _; rw [← h]; exact hne) hd] at hm; refine ih (by simp at h1; omega) (fun m' e => ?_) h3 m hm; injection e with e; subst e; cases cur with
  | none => simp [curOf] at *; omega
  | some c => have := h2 c rfl; simp [curOf] at *; omega
 | case6 x a y b i cur hne hd ih =>
  intro h1 h2 h3 m hm; rw [mkGo_put (fun x' r h => by injection h with h1 h2; rw [← h1, ← h2]; exact ⟨hne, hd⟩)] at hm; refine ih h1 (fun m' e => ?_) (by simp at h3; omega) m hm; injection e with e; subst e; cases cur with
  | none => simp [curOf] at *; omega
  | some c => have := h2 c rfl; simp [curOf] at *; omega
def spB (ws : List Wd) : Bool := ws.all wordB && decide (ws.length ≤ 20)
theorem spB_iff {ws : List Wd} : spB ws = true ↔ (∀ l ∈ ws, wordB l = true) ∧ ws.length ≤ 20 := by
 unfold spB; rw [Bool.and_eq_true, List.all_eq_true, decide_eq_true_iff]
def mkB (n : Nat) (m : Mk) : Bool := decide (m.at_ ≤ n ∧ m.cut ≤ n - m.at_) && (spB m.put && decide (0 < m.cut + m.put.length))
theorem mkB_iff {n : Nat} {m : Mk} : mkB n m = true ↔ m.at_ + m.cut ≤ n ∧ spB m.put = true ∧ 0 < m.cut + m.put.length := by
 unfold mkB; rw [Bool.and_eq_true, Bool.and_eq_true, decide_eq_true_iff, decide_eq_true_iff]; constructor
 ·rintro ⟨⟨h1, h2⟩, h3, h4⟩; exact ⟨by omega, h3, h4⟩
 ·rintro ⟨h1, h3, h4⟩; exact ⟨⟨by omega, by omega⟩, h3, h4⟩
def gapB (n : Nat) : Option Mk → List Mk → Bool
 | _, [] => true
 | p, m :: r => (mkB n m && (match p with | none => true | some q => decide (q.at_ + q.cut < m.at_))) && gapB n (some m) r
def behind (p : Option Mk) (m : Mk) : Bool := match p with | none => true | some q => decide (q.at_ + q.cut < m.at_)
theorem gapB_cons (n : Nat) (p : Option Mk) (m : Mk) (r : List Mk) : gapB n p (m :: r) = ((mkB n m && behind p m) && gapB n (some m) r) := by cases p <;> rfl
def lenI (n : Int) (ms : List Mk) : Int := ms.foldl (fun l m => l - (m.cut : Int) + (m.put.length : Int)) n
def marksB (ws : List Wd) (ms : List Mk) : Bool := (spB ws && decide (ms.length ≤ 20)) && (gapB ws.length none ms && decide (lenI ws.length ms ≤ 20))
theorem marksB_iff {ws : List Wd} {ms : List Mk} : marksB ws ms = true ↔ spB ws = true ∧ ms.length ≤ 20 ∧ gapB ws.length none ms = true ∧ lenI ws.length ms ≤ 20 := by
 unfold marksB; rw [Bool.and_eq_true, Bool.and_eq_true, Bool.and_eq_true, decide_eq_true_iff, decide_eq_true_iff, and_assoc]
def Ord (ms : List Mk) : Prop := ms.Pairwise (fun x y => x.at_ + x.cut < y.at_)
theorem gapB_ord {n : Nat} {p : Option Mk} {ms : List Mk} (h : gapB n p ms = true) : (∀ m ∈ ms, mkB n m = true) ∧ Ord ms ∧ (∀ q, p = some q → ∀ m ∈ ms, q.at_ + q.cut < m.at_) := by
 induction ms generalizing p with
 | nil => exact ⟨by simp, List.Pairwise.nil, by simp⟩
 | cons x r ih =>
  rw [gapB_cons, Bool.and_eq_true, Bool.and_eq_true] at h; obtain ⟨⟨h1, h2⟩, h3⟩ := h; obtain ⟨i1, i2, i3⟩ := ih h3; refine ⟨fun m hm => ?_, List.Pairwise.cons (fun m hm => i3 x rfl m hm) i2, fun q hq m hm => ?_⟩
  ·rcases List.mem_cons.1 hm with rfl | hm
   ·exact h1
   ·exact i1 m hm
  ·subst hq; have h2 : q.at_ + q.cut < x.at_ := of_decide_eq_true h2; rcases List.mem_cons.1 hm with rfl | hm
   ·exact h2
   ·have := i3 x rfl m hm; omega
theorem ord_gapB {n : Nat} {p : Option Mk} {ms : List Mk} (h1 : ∀ m ∈ ms, mkB n m = true) (h2 : Ord ms) (h3 : ∀ q, p = some q → ∀ m ∈ ms, q.at_ + q.cut < m.at_) : gapB n p ms = true := by
 induction ms generalizing p with
 | nil => rfl
 | cons x r ih =>
  rw [gapB_cons, Bool.and_eq_true, Bool.and_eq_true]; rw [Ord, List.pairwise_cons] at h2; refine ⟨⟨h1 x (by simp), ?_⟩, ih (fun m hm => h1 m (by simp [hm])) h2.2 (fun q hq m hm => by injection hq with hq; subst hq; exact h2.1 m hm)⟩; cases p with
  | none => rfl
  | some q => exact decide_eq_true (h3 q rfl x (by simp))
def mkAt (ms : List Mk) (i : Nat) : Mk := ms.getD i ⟨0, 0, []⟩
theorem mkAt_some {ms : List Mk} {i : Nat} (h : i < ms.length) : ms[i]? = some (mkAt ms i) := by simp [mkAt, List.getD_eq_getElem?_getD, h]
theorem mkAt_get {ms : List Mk} {i : Nat} (h : i < ms.length) : ms[i] = mkAt ms i := by
 have := mkAt_some h; rw [List.getElem?_eq_getElem h] at this; injection this
theorem mkAt_mem {ms : List Mk} {i : Nat} (h : i < ms.length) : mkAt ms i ∈ ms := List.mem_of_getElem? (mkAt_some h)
def gapG (n : Nat) (ms : List Mk) (i : Nat) : Prop := mkB n (mkAt ms i) = true ∧ (0 < i → (mkAt ms (i - 1)).at_ + (mkAt ms (i - 1)).cut < (mkAt ms i).at_)
theorem gapB_iff {n : Nat} {ms : List Mk} : gapB n none ms = true ↔ ∀ i, i < ms.length → gapG n ms i := by
 constructor
 ·intro h i hi; obtain ⟨h1, h2, _⟩ := gapB_ord h; refine ⟨h1 _ (mkAt_mem hi), fun h0 => ?_⟩; have := List.pairwise_iff_getElem.1 h2 (i - 1) i (by omega) hi (by omega)
  rwa [mkAt_get, mkAt_get] at this
 ·intro h; refine ord_gapB (fun m hm => ?_) (List.pairwise_iff_getElem.2 (fun i j hi hj hij => ?_)) (by simp)
  ·obtain ⟨i, hi, rfl⟩ := List.getElem_of_mem hm; rw [mkAt_get hi]; exact (h i hi).1
  ·rw [mkAt_get, mkAt_get]; obtain ⟨d, rfl⟩ : ∃ d, j = i + 1 + d := ⟨j - (i + 1), by omega⟩; clear hij; induction d with
   | zero => exact (h (i + 1) hj).2 (by omega)
   | succ d ih =>
    have h1 := ih (by omega); have h2 := (h (i + 1 + (d + 1)) hj).2 (by omega); rw [show i + 1 + (d + 1) - 1 = i + 1 + d by omega] at h2; omega
theorem apart {x y : Mk} (h : ¬ (x.at_ ≤ y.at_ + y.cut ∧ y.at_ ≤ x.at_ + x.cut)) : (x.at_ + x.cut < y.at_ ∧ x.at_ < y.at_) ∨ (y.at_ + y.cut < x.at_ ∧ ¬ x.at_ < y.at_) := by omega
end Go.Proofs.YtbkhnljaajajiaaGreatDoor
namespace Go.Proofs.YtbkhnljaajajiaaGreatDoor
open Go.ChangeShapes Go.WideShapes Go.ChangeAt Go.RowKit
set_option maxRecDepth 100000
set_option linter.unusedSimpArgs false
set_option linter.unusedVariables false
theorem run_make_rowN {P : Program} (t e : TypeId) (i : TypeInfo) (z : Value) (ht : P.underlying t = some (.slice e)) (hi : P.info? e = some i) (hz : i.zero = some z)
  (kl kc : IntKind) (n c : Nat) (hnc : n ≤ c) (hbytes : i.bytes * c ≤ 281474976710656) (h63 : c ≤ 9223372036854775807) (w : World) :
  (Instr.makeSlice t (.int kl (n : Int)) (.int kc (c : Int))).run P w = .ok (.slice (some ⟨w.heap.size, 0, none⟩) n c) (w.alloc (.cells (madeCells z.cells (c * i.size)) e)) := by
 have hb : (i.bytes : Int) * (c : Int) ≤ 281474976710656 := by
  have h : ((i.bytes * c : Nat) : Int) ≤ 281474976710656 := by omega
  rwa [Int.natCast_mul] at h
 have hr := run_make (P := P) w t e i z ht hi hz kl kc n c (by omega) (by omega) hb (by omega); simp only [Int.toNat_natCast] at hr; exact hr
theorem madeCells_size (z : Array Value) (n : Nat) : (madeCells z n).size = n := by simp [madeCells]
end Go.Proofs.YtbkhnljaajajiaaGreatDoor
