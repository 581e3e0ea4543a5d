/-
  A world in which the library's tables of package utf8 lie as their texts lay them. Conditions: none.
-/
import Derived.Test.YtppjjbjjbmodbaaDoorBase
import Derived.Deep.DeepHandedRow
import Derived.Deep.DeepWitnessRowRef
import Derived.Lib.LaidIn
import Derived.SizedLaws
namespace Go.Proofs.YtppjjbjjbmodbaaDoor
open Go.ChangeShapes Go.WideShapes Go.ChangeAt Go.RowKit
set_option maxRecDepth 100000

def cellOf : DataW Unit → Value
  | .lit (.int k z) => .int k z
  | _ => undef
/-- The cells of a datum of numbers, or of pairs of numbers. -/
def cellsOf : DataW Unit → Array Value
  | .agg l => (l.flatMap fun d => match d with | .agg l2 => l2.map cellOf | d => [cellOf d]).toArray
  | _ => #[]
abbrev laidL : List (String × DataW Unit) := [("unicode/utf8.acceptRanges", Rows.laid_unicode_utf8_acceptRanges), ("unicode/utf8.first", Rows.laid_unicode_utf8_first)]
noncomputable def laidWorld (os : Os) : World :=
  let w0 := World.holding Tryd.prog os ⟨#[], #[], []⟩
  let put (h : Array Obj) (g : Nat) (cs : Array Value) : Array Obj := h.modify g fun
    | .cells _ t frozen => .cells cs t frozen
    | o => o
  { w0 with heap := put (put w0.heap 2 (cellsOf Rows.laid_unicode_utf8_acceptRanges)) 1 (cellsOf Rows.laid_unicode_utf8_first) }
theorem laid_met (os : Os) (args : Array Value) : laidMet Tryd.prog laidL ((laidWorld os).forCall (fun _ _ => 0) ⟨#[], args, []⟩).memory :=
  (LaidIn.of_run (l := laidL) [2, 1] 8 (by kernel_rfl) (by kernel_rfl) (by kernel_rfl) (by kernel_rfl)).met
end Go.Proofs.YtppjjbjjbmodbaaDoor
