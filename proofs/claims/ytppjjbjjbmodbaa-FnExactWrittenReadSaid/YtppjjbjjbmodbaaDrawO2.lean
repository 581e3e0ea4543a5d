/-
  DrawOutlineText and DrawOutlineFrom. Conditions: none.
-/
import Derived.Test.YtppjjbjjbmodbaaDrawOut
namespace Go.Proofs.Ytppjjbjjbmodbaa
open Go.ChangeShapes Go.WideShapes Go.ChangeAt Go.RowKit
set_option maxRecDepth 100000

theorem SmOwn.reads {w : World} {B N : Nat} {v : Value} (h : SmOwn w B N v) : ∃ A c ss, ss.length = N ∧ v = .slice A N c ∧ StrokesIn w w.heap.size A N c ss := by
  obtain ⟨ss, hl, hO, hS⟩ := h
  obtain ⟨A, c, rfl, _, _⟩ := ownG_form hO
  subst hl
  exact ⟨A, c, ss, rfl, rfl, hO.reads rfl fun s hs => (hS s hs).good⟩
end Go.Proofs.Ytppjjbjjbmodbaa
