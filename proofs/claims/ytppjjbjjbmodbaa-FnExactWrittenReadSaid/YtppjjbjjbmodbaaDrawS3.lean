/-
  The reader draws an outline. Conditions: as for pick.
-/
import Derived.Test.YtppjjbjjbmodbaaDrawS1
import Derived.Test.YtppjjbjjbmodbaaOwnG
import Derived.Test.YtppjjbjjbmodbaaBase
import Derived.Test.YtppjjbjjbmodbaaFrom
import Derived.Test.YtppjjbjjbmodbaaDrawA
namespace Go.Proofs.Ytppjjbjjbmodbaa
open Go.ChangeShapes Go.WideShapes Go.ChangeAt Go.RowKit
set_option maxRecDepth 100000

theorem own_only {w w' : World} {B g : Nat} {v : Value} {ss : List Stroke} (h : StrOwn w B v ss) (hg : w.grownBy w' (some g)) (hB : g < B) : StrOwn w' B v ss :=
  ownG_congr h fun b hb => hg.block b (ownG_lt h hb) (fun e => by injection e with e; have := ownG_base h hb; omega)
theorem own_after' {a w w' : World} {g : Nat} {v : Value} (h : a.grownBy w (some g)) (hg : w.grownBy w' v.ownBlock) (hb : ∀ q, v.ownBlock = some q → a.heap.size ≤ q) : a.grownBy w' (some g) :=
  h.andThen hg (fun j hj => .inl (hb j hj))
theorem RdIn.far {w w' : World} {B g lim : Nat} {row : Option Nat} (h : RdIn w B g lim) (hg : w.grownBy w' row) (h1 : ∀ q, row = some q → q ≠ g ∧ B ≤ q) (hB : B ≤ w.heap.size) : RdIn w' B g lim := by
  obtain ⟨A, n, c, bs, p, e1, e2, e3, e4, e5⟩ := h
  refine ⟨A, n, c, bs, p, ?_, e2, e3, e4.keep (fun q hq => ?_), e5⟩
  · have hlt : g < w.heap.size := by
      rcases Nat.lt_or_ge g w.heap.size with hlt | hge
      · exact hlt
      · rw [Array.getElem?_eq_none hge] at e1; cases e1
    exact (hg.block g hlt (fun e => (h1 g e.symm).1 rfl)).trans e1
  · exact World.cell?_of_block (hg.block q.block (by omega) (fun e => by have := (h1 q.block e.symm).2; omega))
theorem own_set {w : World} {B sz n gb j : Nat} {e : TypeId} {v u : Value} {xs : List Value} (h : w.ownsRow B e sz v n xs) (hb : v.ownBlock = some gb) : (w.setCell ⟨gb, j, none⟩ u).ownsRow B e sz v n (xs.set j u) := by
  obtain ⟨hl, h⟩ := h
  refine ⟨by rw [List.length_set]; exact hl, ?_⟩
  rcases h with ⟨rfl, _⟩ | ⟨g, cap, cur, rfl, hB, hh, hn, hc, hs, ht⟩
  · cases hb
  · injection hb with hb
    subst hb
    refine .inr ⟨g, cap, cur.setIfInBounds j u, rfl, hB, by simp [World.setCell, Array.getElem?_modify, hh], hn, hc, by simpa using hs, ?_⟩
    rw [Array.toList_setIfInBounds, ← ht, List.take_set]
theorem own_cell {w : World} {B sz n gb j : Nat} {e : TypeId} {v u : Value} {xs : List Value} (h : w.ownsRow B e sz v n xs) (hb : v.ownBlock = some gb) (hj : xs[j]? = some u) : w.cell? ⟨gb, j, none⟩ = some u ∧ w.frozen? ⟨gb, j, none⟩ = false := by
  obtain ⟨hl, h⟩ := h
  rcases h with ⟨rfl, _⟩ | ⟨g, cap, cur, rfl, hB, hh, hn, hc, hs, ht⟩
  · cases hb
  · injection hb with hb
    subst hb
    refine ⟨?_, by simp [World.frozen?, hh]⟩
    rw [cell_of_row w g j cur e (0, 0) hh]
    rw [← ht, List.getElem?_take] at hj
    split at hj
    · simpa using hj
    · cases hj
theorem own_some {w : World} {B sz n : Nat} {e : TypeId} {v : Value} {xs : List Value} (h : w.ownsRow B e sz v n xs) (hn : 0 < n) : ∃ gb cap, v = .slice (some ⟨gb, 0, none⟩) n cap ∧ B ≤ gb ∧ n ≤ cap ∧ cap ≤ maxLen ∧ v.ownBlock = some gb := by
  obtain ⟨hl, h⟩ := h
  rcases h with ⟨_, rfl⟩ | ⟨g, cap, cur, rfl, hB, hh, hn, hc, hs, ht⟩
  · omega
  · exact ⟨g, cap, rfl, hB, hn, hc, rfl⟩
theorem flat_at0 : ∀ {ss : List Stroke} {k : Nat}, k < ss.length → (ss.flatMap stC)[k * 2]? = some (.int .i64 (strokeAt ss k).dir) ∧ (ss.flatMap stC)[k * 2 + 1]? = some (.int .i64 (strokeAt ss k).size)
  | [], _, h => by cases h
  | s :: r, 0, _ => ⟨rfl, rfl⟩
  | s :: r, k + 1, h => by
    have ih := flat_at0 (ss := r) (k := k) (by simpa using h)
    rw [strokeAt_cons]
    refine ⟨?_, ?_⟩
    · rw [List.flatMap_cons, show (k + 1) * 2 = (stC s).length + k * 2 by rw [stC_len]; omega, List.getElem?_append_right (by omega)]
      simpa using ih.1
    · rw [List.flatMap_cons, show (k + 1) * 2 + 1 = (stC s).length + (k * 2 + 1) by rw [stC_len]; omega, List.getElem?_append_right (by omega)]
      simpa using ih.2
theorem flat_set0 : ∀ {ss : List Stroke} {k : Nat} (a : Int), k < ss.length → (ss.flatMap stC).set (k * 2) (.int .i64 a) = (ss.set k ⟨a, (strokeAt ss k).size⟩).flatMap stC
  | [], _, _, h => by cases h
  | s :: r, 0, a, _ => rfl
  | s :: r, k + 1, a, h => by
    have ih := flat_set0 (ss := r) (k := k) a (by simpa using h)
    rw [strokeAt_cons, List.set_cons_succ, List.flatMap_cons, List.flatMap_cons, show (k + 1) * 2 = (stC s).length + k * 2 by rw [stC_len]; omega, List.set_append_right _ _ (by omega), ← ih]
    simp
theorem flat_set1 : ∀ {ss : List Stroke} {k : Nat} (a : Int), k < ss.length → (ss.flatMap stC).set (k * 2 + 1) (.int .i64 a) = (ss.set k ⟨(strokeAt ss k).dir, a⟩).flatMap stC
  | [], _, _, h => by cases h
  | s :: r, 0, a, _ => rfl
  | s :: r, k + 1, a, h => by
    have ih := flat_set1 (ss := r) (k := k) a (by simpa using h)
    rw [strokeAt_cons, List.set_cons_succ, List.flatMap_cons, List.flatMap_cons, show (k + 1) * 2 + 1 = (stC s).length + (k * 2 + 1) by rw [stC_len]; omega, List.set_append_right _ _ (by omega), ← ih]
    simp
/-- An outline of small numbers that is owned. -/
def SmOwn (w : World) (B N : Nat) (v : Value) : Prop := ∃ ss : List Stroke, ss.length = N ∧ StrOwn w B v ss ∧ ∀ s ∈ ss, SmallS s
theorem SmOwn.set0 {w : World} {B N gb k : Nat} {v : Value} {a : Int} (h : SmOwn w B N v) (hb : v.ownBlock = some gb) (hk : k < N) (ha : -1 ≤ a ∧ a ≤ 8) : SmOwn (w.setCell ⟨gb, k * 2, none⟩ (.int .i64 a)) B N v := by
  obtain ⟨ss, hl, hO, hS⟩ := h
  have hk' : k < ss.length := by omega
  have h1 := own_set (u := .int .i64 a) hO hb (j := k * 2)
  rw [flat_set0 a hk'] at h1
  refine ⟨ss.set k ⟨a, (strokeAt ss k).size⟩, by rw [List.length_set]; exact hl, by unfold StrOwn; rw [List.length_set]; exact h1, fun s hs => ?_⟩
  rcases List.mem_or_eq_of_mem_set hs with h | rfl
  · exact hS s h
  · have := hS _ (strokeAt_mem hk')
    unfold SmallS at this ⊢
    dsimp
    omega
theorem SmOwn.set1 {w : World} {B N gb k : Nat} {v : Value} {a : Int} (h : SmOwn w B N v) (hb : v.ownBlock = some gb) (hk : k < N) (ha : -1 ≤ a ∧ a ≤ 8) : SmOwn (w.setCell ⟨gb, k * 2 + 1, none⟩ (.int .i64 a)) B N v := by
  obtain ⟨ss, hl, hO, hS⟩ := h
  have hk' : k < ss.length := by omega
  have h1 := own_set (u := .int .i64 a) hO hb (j := k * 2 + 1)
  rw [flat_set1 a hk'] at h1
  refine ⟨ss.set k ⟨(strokeAt ss k).dir, a⟩, by rw [List.length_set]; exact hl, by unfold StrOwn; rw [List.length_set]; exact h1, fun s hs => ?_⟩
  rcases List.mem_or_eq_of_mem_set hs with h | rfl
  · exact hS s h
  · have := hS _ (strokeAt_mem hk')
    unfold SmallS at this ⊢
    dsimp
    omega
theorem SmOwn.cells {w : World} {B N gb k : Nat} {v : Value} (h : SmOwn w B N v) (hb : v.ownBlock = some gb) (hk : k < N) : ∃ d z : Int, w.cell? ⟨gb, k * 2, none⟩ = some (.int .i64 d) ∧ w.cell? ⟨gb, k * 2 + 1, none⟩ = some (.int .i64 z) ∧ w.frozen? ⟨gb, k * 2, none⟩ = false ∧ w.frozen? ⟨gb, k * 2 + 1, none⟩ = false ∧ -1 ≤ d ∧ d ≤ 8 ∧ -1 ≤ z ∧ z ≤ 8 := by
  obtain ⟨ss, hl, hO, hS⟩ := h
  have hk' : k < ss.length := by omega
  obtain ⟨h0, h1⟩ := flat_at0 hk'
  obtain ⟨c0, f0⟩ := own_cell hO hb h0
  obtain ⟨c1, f1⟩ := own_cell hO hb h1
  have := hS _ (strokeAt_mem hk')
  unfold SmallS at this
  exact ⟨_, _, c0, c1, f0, f1, this.1, this.2.1, this.2.2.1, this.2.2.2⟩
theorem SmOwn.only {w w' : World} {B N g : Nat} {v : Value} (h : SmOwn w B N v) (hg : w.grownBy w' (some g)) (hB : g < B) : SmOwn w' B N v := by
  obtain ⟨ss, hl, hO, hS⟩ := h
  exact ⟨ss, hl, own_only hO hg hB, hS⟩
theorem SmOwn.some_ {w : World} {B N : Nat} {v : Value} (h : SmOwn w B N v) (hn : 0 < N) : ∃ gb cap, v = .slice (some ⟨gb, 0, none⟩) N cap ∧ B ≤ gb ∧ N ≤ cap ∧ cap ≤ maxLen := by
  obtain ⟨ss, hl, hO, hS⟩ := h
  obtain ⟨gb, cap, h1, h2, h3, h4, _⟩ := own_some hO (by omega)
  exact ⟨gb, cap, by rw [h1, hl], h2, by omega, h4⟩
end Go.Proofs.Ytppjjbjjbmodbaa
