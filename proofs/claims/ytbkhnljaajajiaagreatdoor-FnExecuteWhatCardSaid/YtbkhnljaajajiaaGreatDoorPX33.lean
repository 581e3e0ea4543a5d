/-
  Contracts and plain laws that the proofs lean on. Conditions: as each says.
-/
import Derived.Test.YtbkhnljaajajiaaGreatDoorPX30
import Derived.Test.YtbkhnljaajajiaaGreatDoorPX32
set_option maxRecDepth 100000
set_option linter.unusedSimpArgs false
set_option linter.unusedVariables false
set_option linter.unnecessarySimpa false
namespace Go.Proofs.YtbkhnljaajajiaaGreatDoor
open Go.ChangeShapes Go.WideShapes Go.ChangeAt Go.RowKit
def hd0 (b:Nat):Hd:=⟨some ⟨b,0,none⟩,0,0,some ⟨b+1,0,none⟩,0,0,some ⟨b+1+1,0,none⟩,0,0,some ⟨b+1+1+1,0,none⟩,0,0,[],[],[],[]⟩
end Go.Proofs.YtbkhnljaajajiaaGreatDoor
