/-
  Contracts and plain laws that the proofs lean on. Conditions: as each says.
-/
import Derived.Test.YtbkhnljaajajiaaGreatDoorPX08
set_option maxRecDepth 100000
set_option linter.unusedSimpArgs false
set_option linter.unusedVariables false
set_option linter.unnecessarySimpa false
namespace Go.Proofs.YtbkhnljaajajiaaGreatDoor
open Go.ChangeShapes Go.WideShapes Go.ChangeAt Go.RowKit
theorem l6DecDigit (n:Int) (w:World) (h0:0≤n) (h9:n≤9):Calls Tryz.prog 55 #[.int .i64 n] w fun e w'=>e = .returned (.string (mkStr [UInt8.ofNat (48+n).toNat]))∧Below w.heap.size w w':=by
 have hu:=u8_digit h0 h9;have hC:=convNew w [UInt8.ofNat (48+n).toNat] #[.int .u8 (48+n)] 1 rfl (fun j hj=>by
  have hj2:j < 1:=hj;obtain rfl:j=0:=(by omega);simp only [List.getElem_cons_zero,hu];rfl)
 clear hu;generalize mkStr [UInt8.ofNat (48+n).toNat]=t at *;go_enter Tryz.func55,Tryz.ntmps55
 go_wp2;go_returns;exact ⟨rfl,by go_grown⟩
end Go.Proofs.YtbkhnljaajajiaaGreatDoor
