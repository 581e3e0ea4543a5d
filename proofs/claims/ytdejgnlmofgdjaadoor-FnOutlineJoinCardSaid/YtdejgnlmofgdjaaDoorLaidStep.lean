/-
  A world in which the program's two tables of steps lie as its text lays them; what a row's condition says of them. Conditions: none.
-/
import Derived.Test.YtdejgnlmofgdjaaDoorTouch
import Derived.Deep.DeepHandedRow
import Derived.Deep.DeepWitnessRowRef
import Derived.Lib.LaidIn
import Derived.Lib.LaidU8
import Derived.OpenShut
import Derived.OpenVars

namespace Go.Proofs.YtdejgnlmofgdjaaDoor
open Go.ChangeShapes Go.WideShapes Go.ChangeAt Go.RowKit
set_option maxRecDepth 100000

/-- The cells of a datum of numbers. -/
def cellsOf : DataW Unit → Array Value
  | .agg l => (l.map fun d => match d with | .lit (.int k z) => Value.int k z | _ => undef).toArray
  | _ => #[]
abbrev laidL : List (String × DataW Unit) := [("loop.example/shorthand/impl.stepsAcross", Rows.laid_loop_example_shorthand_impl_stepsAcross), ("loop.example/shorthand/impl.stepsUp", Rows.laid_loop_example_shorthand_impl_stepsUp)]
noncomputable def laidWorld (os : Os) : World :=
  let w0 := World.holding Tryd.prog os ⟨#[], #[], []⟩
  let put (h : Array Obj) (g : Nat) (cs : Array Value) : Array Obj := h.modify g fun
    | .cells _ t frozen => .cells cs t frozen
    | o => o
  { w0 with heap := put (put w0.heap 0 (cellsOf Rows.laid_loop_example_shorthand_impl_stepsAcross)) 1 (cellsOf Rows.laid_loop_example_shorthand_impl_stepsUp) }
theorem laid_met (os : Os) (args : Array Value) : laidMet Tryd.prog laidL ((laidWorld os).forCall (fun _ _ => 0) ⟨#[], args, []⟩).memory :=
  (LaidIn.of_run (l := laidL) [0, 1] 8 (by kernel_rfl) (by kernel_rfl) (by kernel_rfl) (by kernel_rfl)).met
theorem tabX {W : World} (hL : laidMet Tryd.prog laidL W) {k : Nat} (hk : k < 8) : W.cell? ⟨0, k, none⟩ = some (.int .i64 (stX k)) := by
  obtain ⟨g', t', cs, fuel, p, hg', ht', hvar, hd⟩ := Lib.laidMet.reads hL (.head _)
  obtain rfl := Option.some.inj ((show Tryd.prog.globalNamed "loop.example/shorthand/impl.stepsAcross" = some 0 by kernel_rfl).symm.trans hg')
  obtain rfl := Option.some.inj ((show (Tryd.prog.globals[0]?).map (·.type) = some 95 by kernel_rfl).symm.trans ht')
  have e := Lib.cells_of_tab (n := 8) (e := 3) (k := .i64) (zs := [1, 1, 0, -1, -1, -1, 0, 1]) (by kernel_rfl) (by kernel_rfl) (by kernel_rfl) (by kernel_rfl) hd
  rw [World.var?_cell hg' hvar k, ← Array.getElem?_toList, e]
  match k, hk with
  | 0, _ => rfl
  | 1, _ => rfl
  | 2, _ => rfl
  | 3, _ => rfl
  | 4, _ => rfl
  | 5, _ => rfl
  | 6, _ => rfl
  | 7, _ => rfl
theorem tabY {W : World} (hL : laidMet Tryd.prog laidL W) {k : Nat} (hk : k < 8) : W.cell? ⟨1, k, none⟩ = some (.int .i64 (stY k)) := by
  obtain ⟨g', t', cs, fuel, p, hg', ht', hvar, hd⟩ := Lib.laidMet.reads hL (.tail _ (.head _))
  obtain rfl := Option.some.inj ((show Tryd.prog.globalNamed "loop.example/shorthand/impl.stepsUp" = some 1 by kernel_rfl).symm.trans hg')
  obtain rfl := Option.some.inj ((show (Tryd.prog.globals[1]?).map (·.type) = some 95 by kernel_rfl).symm.trans ht')
  have e := Lib.cells_of_tab (n := 8) (e := 3) (k := .i64) (zs := [0, 1, 1, 1, 0, -1, -1, -1]) (by kernel_rfl) (by kernel_rfl) (by kernel_rfl) (by kernel_rfl) hd
  rw [World.var?_cell hg' hvar k, ← Array.getElem?_toList, e]
  match k, hk with
  | 0, _ => rfl
  | 1, _ => rfl
  | 2, _ => rfl
  | 3, _ => rfl
  | 4, _ => rfl
  | 5, _ => rfl
  | 6, _ => rfl
  | 7, _ => rfl
theorem tabOf {W : World} (hL : laidMet Tryd.prog laidL W) : TabS W := fun _ hk => ⟨tabX hL hk, tabY hL hk⟩
end Go.Proofs.YtdejgnlmofgdjaaDoor
