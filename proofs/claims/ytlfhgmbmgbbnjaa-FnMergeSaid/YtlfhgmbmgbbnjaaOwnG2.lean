/-
  Rows of the call's own: a cell is read and set; a row beside another that grows. Conditions: none.
-/
import Derived.Test.YtlfhgmbmgbbnjaaOwnG
import Derived.Test.YtlfhgmbmgbbnjaaBase
namespace Go.Proofs.Ytlfhgmbmgbbnjaa
open Go.ChangeShapes Go.WideShapes Go.ChangeAt Go.RowKit
set_option maxRecDepth 100000

theorem own_set {w : World} {B sz n gb j : Nat} {e : TypeId} {v u : Value} {xs : List Value} (h : w.ownsRow B e sz v n xs) (hb : v.ownBlock = some gb) : (w.setCell ⟨gb, j, none⟩ u).ownsRow B e sz v n (xs.set j u) := by
  obtain ⟨hl, h⟩ := h
  refine ⟨by rw [List.length_set]; exact hl, ?_⟩
  rcases h with ⟨rfl, _⟩ | ⟨g, cap, cur, rfl, hB, hh, hn, hc, hs, ht⟩
  · cases hb
  · injection hb with hb
    subst hb
    refine .inr ⟨g, cap, cur.setIfInBounds j u, rfl, hB, by simp [World.setCell, Array.getElem?_modify, hh], hn, hc, by simpa using hs, ?_⟩
    rw [Array.toList_setIfInBounds, ← ht, List.take_set]
theorem own_cell {w : World} {B sz n gb j : Nat} {e : TypeId} {v u : Value} {xs : List Value} (h : w.ownsRow B e sz v n xs) (hb : v.ownBlock = some gb) (hj : xs[j]? = some u) : w.cell? ⟨gb, j, none⟩ = some u ∧ w.frozen? ⟨gb, j, none⟩ = false := by
  obtain ⟨hl, h⟩ := h
  rcases h with ⟨rfl, _⟩ | ⟨g, cap, cur, rfl, hB, hh, hn, hc, hs, ht⟩
  · cases hb
  · injection hb with hb
    subst hb
    refine ⟨?_, by simp [World.frozen?, hh]⟩
    rw [cell_of_row w g j cur e (0, 0) hh]
    rw [← ht, List.getElem?_take] at hj
    split at hj
    · simpa using hj
    · cases hj
theorem own_some {w : World} {B sz n : Nat} {e : TypeId} {v : Value} {xs : List Value} (h : w.ownsRow B e sz v n xs) (hn : 0 < n) : ∃ gb cap, v = .slice (some ⟨gb, 0, none⟩) n cap ∧ B ≤ gb ∧ n ≤ cap ∧ cap ≤ maxLen ∧ v.ownBlock = some gb := by
  obtain ⟨hl, h⟩ := h
  rcases h with ⟨_, rfl⟩ | ⟨g, cap, cur, rfl, hB, hh, hn, hc, hs, ht⟩
  · omega
  · exact ⟨g, cap, rfl, hB, hn, hc, rfl⟩
theorem Row.grown {w w' : World} {B n sz : Nat} {A : Option Addr} {xs : List Value} {row : Option Nat} (h : Row w B A n sz xs) (hg : w.grownBy w' row) (hne : ∀ a, A = some a → row ≠ some a.block) : Row w' B A n sz xs := by
  refine ⟨h.1, fun h0 => ?_⟩
  obtain ⟨b, off, e, hb, hc⟩ := h.2 h0
  refine ⟨b, off, e, hb, fun j x hx => ?_⟩
  have h1 := hc j x hx
  have hlt := World.block_lt_of_cell? _ _ h1
  unfold World.cell? at h1 ⊢
  rw [hg.block _ hlt (fun e2 => hne _ e e2.symm)]
  exact h1
theorem gcell {w w' : World} {row : Option Nat} {a : Addr} {v : Value} (h : w.grownBy w' row) (hc : w.cell? a = some v) (hne : row ≠ some a.block) : w'.cell? a = some v := by
  rw [World.cell?_of_block (h.block a.block (World.block_lt_of_cell? _ _ hc) (fun e => hne e.symm))]; exact hc
def appZ (ats : Array TypeId) (ty : TypeId) (args : Array Value) := Builtin.append_ ats ty args
theorem appZ_eq (ats : Array TypeId) (ty : TypeId) (args : Array Value) : Builtin.append_ ats ty args = appZ ats ty args := rfl
theorem grown_below {a w w' : World} {g : Nat} (h : a.grownBy w (some g)) (hb : Below w.heap.size w w') : a.grownBy w' (some g) :=
  ⟨hb.os.trans h.os, hb.tape.trans h.tape, hb.output.trans h.output, Nat.le_trans h.size hb.size, fun i hi hne => (hb.block i (Nat.lt_of_lt_of_le hi h.size)).trans (h.block i hi hne)⟩
theorem ownG_only {w w' : World} {B g sz n : Nat} {t : TypeId} {v : Value} {xs : List Value} (h : w.ownsRow B t sz v n xs) (hg : w.grownBy w' (some g)) (hB : g < B) : w'.ownsRow B t sz v n xs :=
  ownG_congr h fun b hb => hg.block b (ownG_lt h hb) (fun e => by injection e with e; have := ownG_base h hb; omega)
theorem own_after' {a w w' : World} {g : Nat} {v : Value} (h : a.grownBy w (some g)) (hg : w.grownBy w' v.ownBlock) (hb : ∀ q, v.ownBlock = some q → a.heap.size ≤ q) : a.grownBy w' (some g) :=
  h.andThen hg (fun j hj => .inl (hb j hj))
end Go.Proofs.Ytlfhgmbmgbbnjaa
