/-
  The reader, furthermore: new cells and stores beside it, a pick with its state, a text of a fresh table. Conditions: as for pick.
-/
import Derived.Test.YtlfhgmbmgbbnjaaDrawA
import Derived.Test.YtlfhgmbmgbbnjaaBase
import Derived.Test.YtlfhgmbmgbbnjaaStr
namespace Go.Proofs.Ytlfhgmbmgbbnjaa
open Go.ChangeShapes Go.WideShapes Go.ChangeAt Go.RowKit
set_option maxRecDepth 100000

theorem RdIn.alloc' {w : World} {B g lim : Nat} (h : RdIn w B g lim) (o : Obj) : RdIn (w.alloc o) B g lim := h.below ((Below.refl _ _).alloc (Nat.le_refl _) o)
theorem RdIn.set' {w : World} {B g lim : Nat} (h : RdIn w B g lim) {p : Addr} (hp : p.block ≠ g) (hB : B ≤ p.block) (u : Value) : RdIn (w.setCell p u) B g lim := by
  obtain ⟨A, n, c, bs, q, h1, h2, h3, h4, h5⟩ := h
  exact ⟨A, n, c, bs, q, (Below.heap_setCell w p u g (Ne.symm hp)).trans h1, h2, h3, h4.keep (fun x hx => World.cell?_setCell_other w _ x _ (fun e => by subst e; omega)), h5⟩
theorem RdIn.drew' {w : World} {B g lim : Nat} (h : RdIn w B g lim) : RdIn w.drew B g lim := h
theorem grown_drew {w w' : World} {g : Nat} (h : w.grownBy w' (some g)) : w.grownBy w'.drew (some g) := only_drewN h 1
/-- pick with the state of the reader first. -/
theorem pickR {n : Int} {g B lim : Nat} {w : World} (hr : RdIn w B g lim) (hl : lim ≤ 1000000000) (hn0 : 0 < n) (hn : n ≤ 1000000) :
    Calls Try.prog 25 #[.pointer (some ⟨g, 0, none⟩), .int .i64 n] w fun e w' => ∃ m : Nat, e = .returned (.int .i64 (m : Int)) ∧ (m : Int) < n ∧ w.grownBy w' (some g) ∧ RdIn w' B g (lim + 1) :=
  (pick n g B lim w (by omega) hn hl hr).mono (by
    rintro e w' ⟨m, rfl, h0, h1, h2, h3⟩
    obtain ⟨k, rfl⟩ := Int.eq_ofNat_of_zero_le h0
    exact ⟨k, rfl, by omega, h2, h3⟩)

/-- A text of a fresh table. -/
theorem ofNew (g B lim n : Nat) (ss : List ByteArray) (cs : Array Value) (t : TypeId) (w : World) (hcs : cs = (ss.map Value.string).toArray) (hn : n = ss.length) (hn0 : 0 < n) (hn1 : n ≤ 1000) (hss : ∀ s ∈ ss, s.size ≤ 40) (hl : lim ≤ 1000000000) (hr : RdIn w B g lim) :
    Calls Try.prog 47 #[.pointer (some ⟨g, 0, none⟩), .slice (some ⟨w.heap.size, 0, none⟩) n n] (w.alloc (.cells cs t)) fun e w' => ∃ l : List UInt8, l.length ≤ 40 ∧ e = .returned (.string (mkStr l)) ∧ w.grownBy w' (some g) ∧ RdIn w' B g (lim + 1) := by
  have hg := hr.lt
  refine (pickOf w.heap.size g B lim n n ss _ hn hn0 hn1 hl (hr.alloc' _) (StrsAt.new w _ _ _ hcs) (by omega)).mono ?_
  rintro e w' ⟨s, hs, rfl, h1, h2⟩
  exact ⟨s.data.toList, by have := hss s hs; simpa using this, by rw [mkStr_self], only_next (World.grownBy_alloc w _ _) h1, h2⟩

theorem RdIn.far {w w' : World} {B g lim : Nat} {row : Option Nat} (h : RdIn w B g lim) (hg : w.grownBy w' row) (h1 : ∀ q, row = some q → q ≠ g ∧ B ≤ q) (hB : B ≤ w.heap.size) : RdIn w' B g lim := by
  obtain ⟨A, n, c, bs, p, e1, e2, e3, e4, e5⟩ := h
  refine ⟨A, n, c, bs, p, ?_, e2, e3, e4.keep (fun q hq => ?_), e5⟩
  · have hlt : g < w.heap.size := by
      rcases Nat.lt_or_ge g w.heap.size with hlt | hge
      · exact hlt
      · rw [Array.getElem?_eq_none hge] at e1; cases e1
    exact (hg.block g hlt (fun e => (h1 g e.symm).1 rfl)).trans e1
  · exact World.cell?_of_block (hg.block q.block (by omega) (fun e => by have := (h1 q.block e.symm).2; omega))
end Go.Proofs.Ytlfhgmbmgbbnjaa
