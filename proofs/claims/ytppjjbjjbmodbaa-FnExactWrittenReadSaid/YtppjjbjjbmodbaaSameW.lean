/-
  The laws' sameWritten at equal forms. Conditions: none.
-/
import Derived.Test.YtppjjbjjbmodbaaSameS
namespace Go.Proofs.Ytppjjbjjbmodbaa
open Go.ChangeShapes Go.WideShapes Go.ChangeAt Go.RowKit
set_option maxRecDepth 100000

theorem sameWritten (A A' : Option Addr) (n c c' : Nat) (ss : List Stroke) (p : Int) (w : World) (h : StrokesIn w w.heap.size A n c ss) (h' : StrokesIn w w.heap.size A' n c' ss) :
    Calls Try.prog 49 #[.agg #[.slice A n c, .int .i64 p], .agg #[.slice A' n c', .int .i64 p]] w fun e w' => e = .returned (.bool true) ∧ Below w.heap.size w w' := by
  have HS := Lib.hid (fun w' (hw : Below w.heap.size w w') => sameStrokes A A' n c c' ss w' (h.keep hw) (h'.keep hw))
  clear h h'
  have hp : (p == p) = true := by simp
  have HB : ∀ o1 o2, Below w.heap.size w ((w.alloc o1).alloc o2) := fun o1 o2 => ((Below.refl _ _).alloc (Nat.le_refl _) _).alloc (by simp) _
  go_enter Try.func49, Try.ntmps49
  go_wp2_with fail
  refine (HS.out _ (HB _ _)).mono ?_
  rintro e w1 ⟨rfl, hb1⟩
  have b1 := below_next (HB _ _) hb1
  go_wp2
  go_returns
  exact ⟨rfl, b1⟩
end Go.Proofs.Ytppjjbjjbmodbaa
