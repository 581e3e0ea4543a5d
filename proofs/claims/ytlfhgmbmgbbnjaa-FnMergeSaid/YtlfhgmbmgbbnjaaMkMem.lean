/-
  Marks in memory. Conditions: none.
-/
import Derived.Test.YtlfhgmbmgbbnjaaWdSl
import Derived.Test.YtlfhgmbmgbbnjaaOwnG2
import Derived.Test.YtlfhgmbmgbbnjaaMkLaw2
namespace Go.Proofs.Ytlfhgmbmgbbnjaa
open Go.ChangeShapes Go.WideShapes Go.ChangeAt Go.RowKit
set_option maxRecDepth 100000

/-- A mark as a value: its numbers, the slice of its words, the words. -/
structure Mr where
  at_ : Nat
  cut : Nat
  A : Option Addr
  n : Nat
  c : Nat
  put : List Wd
def mkC (x : Mr) : List Value := [.int .i64 (x.at_ : Int), .int .i64 (x.cut : Int), .slice x.A x.n x.c]
theorem mkC_len (x : Mr) : (mkC x).length = 3 := rfl
def Mr.dat (x : Mr) : Mk := ⟨x.at_, x.cut, x.put⟩
def MrIn (w : World) (B : Nat) (x : Mr) : Prop := WdsIn w B x.A x.n x.c x.put
/-- A list of marks. -/
def MrsIn (w : World) (B : Nat) (A : Option Addr) (n c : Nat) (xs : List Mr) : Prop :=
  xs.length = n ∧ n ≤ c ∧ c ≤ maxLen ∧ Row w B A n 3 (xs.flatMap mkC) ∧ ∀ x ∈ xs, MrIn w B x
def mrAt (xs : List Mr) (k : Nat) : Mr := xs.getD k ⟨0, 0, none, 0, 0, []⟩
theorem mrAt_some {xs : List Mr} {k : Nat} (h : k < xs.length) : xs[k]? = some (mrAt xs k) := by simp [mrAt, List.getD_eq_getElem?_getD, h]
theorem mrAt_mem {xs : List Mr} {k : Nat} (h : k < xs.length) : mrAt xs k ∈ xs := List.mem_of_getElem? (mrAt_some h)
theorem mrAt_dat {xs : List Mr} {k : Nat} (h : k < xs.length) : mkAt (xs.map Mr.dat) k = (mrAt xs k).dat := by
  have h1 := mkAt_some (ms := xs.map Mr.dat) (i := k) (by rw [List.length_map]; exact h)
  rw [List.getElem?_map, mrAt_some h] at h1
  injection h1 with h1; exact h1.symm
theorem MrIn.keep {w w' : World} {x : Mr} (h : MrIn w w.heap.size x) (hb : Below w.heap.size w w') : MrIn w' w'.heap.size x := WdsIn.keep h hb
theorem MrsIn.keep {w w' : World} {n c : Nat} {A : Option Addr} {xs : List Mr} (h : MrsIn w w.heap.size A n c xs) (hb : Below w.heap.size w w') : MrsIn w' w'.heap.size A n c xs :=
  ⟨h.1, h.2.1, h.2.2.1, (h.2.2.2.1.below hb).more hb.size, fun x hx => (h.2.2.2.2 x hx).keep hb⟩
theorem MrsIn.zero (w : World) (B : Nat) (A : Option Addr) : MrsIn w B A 0 0 [] := ⟨rfl, Nat.le_refl _, by unfold maxLen; omega, ⟨rfl, fun h => absurd h (by omega)⟩, by simp⟩
theorem MrsIn.at_ {w : World} {B n c k : Nat} {A : Option Addr} {xs : List Mr} (h : MrsIn w B A n c xs) (hk : k < n) :
    ∃ b off, A = some ⟨b, off, none⟩ ∧ b < B ∧ w.cell? ⟨b, off + k * 3, none⟩ = some (.int .i64 ((mrAt xs k).at_ : Int)) ∧ w.cell? ⟨b, off + k * 3 + 1, none⟩ = some (.int .i64 ((mrAt xs k).cut : Int)) ∧ w.cell? ⟨b, off + k * 3 + 2, none⟩ = some (.slice (mrAt xs k).A (mrAt xs k).n (mrAt xs k).c) ∧ MrIn w B (mrAt xs k) := by
  obtain ⟨h1, _, _, h4, h5⟩ := h
  obtain ⟨b, off, eA, hbB, hc⟩ := h4.2 (by omega)
  have hs := mrAt_some (xs := xs) (k := k) (by omega)
  refine ⟨b, off, eA, hbB, ?_, ?_, ?_, h5 _ (mrAt_mem (by omega))⟩
  · have := hc (k * 3 + 0) _ (flat_at mkC_len xs k _ 0 (.int .i64 ((mrAt xs k).at_ : Int)) hs rfl)
    simpa using this
  · have := hc (k * 3 + 1) _ (flat_at mkC_len xs k _ 1 (.int .i64 ((mrAt xs k).cut : Int)) hs rfl)
    rwa [← Nat.add_assoc] at this
  · have := hc (k * 3 + 2) _ (flat_at mkC_len xs k _ 2 (.slice (mrAt xs k).A (mrAt xs k).n (mrAt xs k).c) hs rfl)
    rwa [← Nat.add_assoc] at this
theorem infoMk : (Try.prog.info? 37).map (fun i => (i.zero, i.size, i.bytes)) = some (some (.agg #[.int .i64 0, .int .i64 0, .slice none 0 0]), 3, 40) := by kernel_rfl
theorem rowNewMk (w : World) (u1 u2 u3 : Value) (t : TypeId) : Row (w.alloc (.cells #[u1, u2, u3] t)) (w.heap.size + 1) (some ⟨w.heap.size, 0, none⟩) 1 3 [u1, u2, u3] := by
  refine ⟨rfl, fun _ => ⟨w.heap.size, 0, rfl, by omega, fun j x hj => ?_⟩⟩
  rw [World.cell?_alloc_at _ t w.heap.size (0 + j) rfl]
  simpa using hj
theorem WdsIn.grown {w w' : World} {n c : Nat} {A : Option Addr} {ws : List Wd} {row : Option Nat} (h : WdsIn w w.heap.size A n c ws) (hg : w.grownBy w' row) (hne : 0 < n → ∀ a, A = some a → row ≠ some a.block) : WdsIn w' w'.heap.size A n c ws :=
  WdsIn.more ⟨h.1, h.2.1, h.2.2.1, by
    by_cases hp : 0 < n
    · exact h.2.2.2.grown hg (hne hp)
    · exact ⟨h.2.2.2.1, fun h2 => absurd h2 hp⟩⟩ hg.size
/-- A row of marks of the call's own; their words lie elsewhere. -/
def MrOwn (w : World) (B : Nat) (v : Value) (xs : List Mr) : Prop :=
  w.ownsRow B 37 3 v xs.length (xs.flatMap mkC) ∧ ∀ x ∈ xs, MrIn w w.heap.size x ∧ (0 < x.n → ∀ a, x.A = some a → v.ownBlock ≠ some a.block ∧ a.block < w.heap.size)
theorem only_set1 (w : World) (g j : Nat) (u : Value) : w.grownBy (w.setCell ⟨g, j, none⟩ u) (some g) :=
  ⟨rfl, rfl, rfl, by simp, fun i hi hne => Below.heap_setCell w ⟨g, j, none⟩ u i (fun e => hne (by rw [e]))⟩
section
variable {w w' : World} {B n c : Nat} {A : Option Addr} {v v' : Value} {xs : List Mr} {x : Mr}
theorem MrOwn.keep (h : MrOwn w B v xs) (hb : Below w.heap.size w w') : MrOwn w' B v xs :=
  ⟨ownG_keep h.1 hb, fun x hx => ⟨(h.2 x hx).1.keep hb, fun hp a ha => ⟨((h.2 x hx).2 hp a ha).1, Nat.lt_of_lt_of_le ((h.2 x hx).2 hp a ha).2 hb.size⟩⟩⟩
theorem MrOwn.push (h : MrOwn w B v xs) (hx : MrIn w w.heap.size x) (hn : 0 < x.n → ∀ a, x.A = some a → v.ownBlock ≠ some a.block ∧ a.block < w.heap.size)
    (ho : w'.ownsRow B 37 3 v' (xs.length + 1) (xs.flatMap mkC ++ mkC x)) (hg : w.grownBy w' v.ownBlock) (hv : v'.ownBlock = v.ownBlock ∨ v'.ownBlock = some w.heap.size) : MrOwn w' B v' (xs ++ [x]) := by
  refine ⟨by rw [List.length_append, List.flatMap_append]; simpa using ho, fun y hy => ?_⟩
  have key : MrIn w w.heap.size y ∧ (0 < y.n → ∀ a, y.A = some a → v.ownBlock ≠ some a.block ∧ a.block < w.heap.size) := by
    rcases List.mem_append.1 hy with hy | hy
    · exact h.2 y hy
    · rw [List.mem_singleton] at hy
      subst hy
      exact ⟨hx, hn⟩
  refine ⟨WdsIn.grown key.1 hg (fun hp a ha => (key.2 hp a ha).1), fun hp a ha => ⟨fun e => ?_, Nat.lt_of_lt_of_le (key.2 hp a ha).2 hg.size⟩⟩
  rcases hv with e2 | e2
  · exact (key.2 hp a ha).1 (e2.symm.trans e)
  · have := (key.2 hp a ha).2
    rw [e2] at e
    injection e with e
    omega
theorem MrOwn.reads (h : MrOwn w B (.slice A n c) xs) (hn : xs.length = n) : MrsIn w w.heap.size A n c xs := by
  have h1 := h.1
  rw [hn] at h1
  obtain ⟨A', c', e, h2, h3⟩ := ownG_form h1
  injection e with e1 e2 e3
  subst e1 e3
  exact ⟨hn, h2, h3, Row.of_own h1, fun x hx => (h.2 x hx).1⟩
theorem MrOwn.made (w : World) : MrOwn (w.alloc (.cells #[] 37)) w.heap.size (.slice (some ⟨w.heap.size, 0, none⟩) 0 0) [] :=
  ⟨World.ownsRow_made w #[] 0 (Nat.le_refl _) (by simp) (by simp), by simp⟩
/-- The last mark of a row changes one of its cells. -/
theorem flat_last (xs : List Mr) (x x' : Mr) (j : Nat) (u : Value) (hj : (mkC x).set j u = mkC x') (hj3 : j < 3) : ((xs ++ [x]).flatMap mkC).set (xs.length * 3 + j) u = (xs ++ [x']).flatMap mkC := by
  rw [List.flatMap_append, List.flatMap_append, List.set_append_right _ _ (by rw [flat_len mkC_len]; omega), flat_len mkC_len, Nat.add_sub_cancel_left]
  congr 1
theorem MrOwn.last {gv j : Nat} {u : Value} {x' : Mr} (h : MrOwn w B v (xs ++ [x])) (hv : v.ownBlock = some gv) (hj : (mkC x).set j u = mkC x') (hj3 : j < 3) (hx' : MrIn w w.heap.size x') (hn : 0 < x'.n → ∀ a, x'.A = some a → v.ownBlock ≠ some a.block ∧ a.block < w.heap.size) :
    MrOwn (w.setCell ⟨gv, xs.length * 3 + j, none⟩ u) B v (xs ++ [x']) := by
  have h1 := own_set (j := xs.length * 3 + j) (u := u) h.1 hv
  rw [flat_last xs x x' j u hj hj3] at h1
  have hg : w.grownBy (w.setCell ⟨gv, xs.length * 3 + j, none⟩ u) (some gv) := only_set1 w gv _ u
  refine ⟨by rw [List.length_append] at h1 ⊢; exact h1, fun y hy => ?_⟩
  have key : MrIn w w.heap.size y ∧ (0 < y.n → ∀ a, y.A = some a → v.ownBlock ≠ some a.block ∧ a.block < w.heap.size) := by
    rcases List.mem_append.1 hy with hy | hy
    · exact h.2 y (by simp [hy])
    · rw [List.mem_singleton] at hy
      subst hy
      exact ⟨hx', hn⟩
  refine ⟨WdsIn.grown key.1 hg (fun hp a ha => by rw [← hv]; exact (key.2 hp a ha).1), fun hp a ha => ⟨(key.2 hp a ha).1, by simpa using (key.2 hp a ha).2⟩⟩
end
/-- The answer of making marks. -/
def MkAns (w' : World) (o : Option (List Mk)) (e : Ending) : Prop :=
  (o = none ∧ ∃ A c, e = .returned (.tuple #[.slice A 0 c, .bool false]) ∧ MrsIn w' w'.heap.size A 0 c []) ∨
  ∃ A c xs, o = some (xs.map Mr.dat) ∧ e = .returned (.tuple #[.slice A xs.length c, .bool true]) ∧ MrsIn w' w'.heap.size A xs.length c xs
def makeO (a b : List Wd) : Option (List Mk) := if (spB a && spB b) = true then some (mkAll a b) else none
end Go.Proofs.Ytlfhgmbmgbbnjaa
