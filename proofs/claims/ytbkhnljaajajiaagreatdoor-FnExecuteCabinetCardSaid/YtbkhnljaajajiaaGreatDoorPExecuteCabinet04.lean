/-
  Contracts and plain laws that the proofs lean on. Conditions: as each says.
-/
import Derived.Test.YtbkhnljaajajiaaGreatDoorPExecuteCabinet00
import Derived.Test.YtbkhnljaajajiaaGreatDoorPX20
set_option maxRecDepth 100000
set_option linter.unusedSimpArgs false
set_option linter.unusedVariables false
set_option linter.unnecessarySimpa false
namespace Go.Proofs.YtbkhnljaajajiaaGreatDoor
open Go.ChangeShapes Go.WideShapes Go.ChangeAt Go.RowKit
def notP (p x:Pad):Bool:=!(x.day == p.day && x.case.toList == p.case.toList)
end Go.Proofs.YtbkhnljaajajiaaGreatDoor
