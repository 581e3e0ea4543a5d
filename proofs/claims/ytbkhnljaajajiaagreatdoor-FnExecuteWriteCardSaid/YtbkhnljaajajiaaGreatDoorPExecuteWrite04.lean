/-
  Contracts and plain laws that the proofs lean on. Conditions: as each says.
-/
import Derived.Test.YtbkhnljaajajiaaGreatDoorPExecuteWrite00
import Derived.Test.YtbkhnljaajajiaaGreatDoorPX14
set_option maxRecDepth 100000
set_option linter.unusedSimpArgs false
set_option linter.unusedVariables false
set_option linter.unnecessarySimpa false
namespace Go.Proofs.YtbkhnljaajajiaaGreatDoor
open Go.ChangeShapes Go.WideShapes Go.ChangeAt Go.RowKit
theorem RdIn.drew' {w:World} {B g lim:Nat} (h:RdIn w B g lim):RdIn w.drew B g lim:=h
end Go.Proofs.YtbkhnljaajajiaaGreatDoor
