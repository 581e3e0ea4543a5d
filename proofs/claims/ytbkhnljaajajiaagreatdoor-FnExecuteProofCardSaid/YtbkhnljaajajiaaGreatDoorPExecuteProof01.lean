/-
  Contracts and plain laws that the proofs lean on. Conditions: as each says.
-/
import Derived.Test.YtbkhnljaajajiaaGreatDoorPX02
set_option maxRecDepth 100000
set_option linter.unusedSimpArgs false
set_option linter.unusedVariables false
set_option linter.unnecessarySimpa false
namespace Go.Proofs.YtbkhnljaajajiaaGreatDoor
def doK (ws:List Wd):List Mk→Nat→List Wd
 | [],i=>ws.drop i
 | m::r,i=>(ws.drop i).take (m.at_ - i)++(m.put++doK ws r (m.at_+m.cut))
end Go.Proofs.YtbkhnljaajajiaaGreatDoor
