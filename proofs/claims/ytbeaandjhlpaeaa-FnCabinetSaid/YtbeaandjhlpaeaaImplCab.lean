/-
  What the program's CabinetValid and CabinetCount answer. Conditions: none but Go's own sizes.
-/
import Derived.Test.YtbeaandjhlpaeaaTreeOf
namespace Go.Proofs.Ytbeaandjhlpaeaa
open Go.ChangeShapes Go.WideShapes Go.ChangeAt Go.RowKit
set_option maxRecDepth 100000

theorem implCabinetValid (A : Option Addr) (n c : Nat) (ds : List Drawer) (w : World) (h : DrawersIn w w.heap.size A n c ds) :
    Calls Try.prog 25 #[.slice A n c] w fun e w' => e = .returned (.bool (cabB (ds.map (·.ps)))) ∧ Below w.heap.size w w' := by
  have H := Lib.hid h; clear h
  go_enter Try.func25, Try.ntmps25
  go_wp2_with fail
  refine (treeOf A n c ds w H.out).mono ?_
  rintro e w1 ⟨hT, b1⟩
  rcases hT with ⟨hn, rfl⟩ | ⟨hy, t, v, ls, rfl, _, _⟩
  · have HN := Lib.hid hn; clear hn
    go_wp2
    go_ret
    exact ⟨ret_bool HN.out.symm, b1⟩
  · have HN := Lib.hid hy; clear hy
    go_wp2
    go_ret
    exact ⟨ret_bool HN.out.symm, b1⟩
end Go.Proofs.Ytbeaandjhlpaeaa
