/-
  Contracts and plain laws that the proofs lean on. Conditions: as each says.
-/
import Derived.Test.YtbkhnljaajajiaaGreatDoorPExecuteProof00
import Derived.Test.YtbkhnljaajajiaaGreatDoorPExecuteProof02
import Derived.Test.YtbkhnljaajajiaaGreatDoorPX32
set_option maxRecDepth 100000
set_option linter.unusedSimpArgs false
set_option linter.unusedVariables false
set_option linter.unnecessarySimpa false
namespace Go.Proofs.YtbkhnljaajajiaaGreatDoor
open Go.ChangeShapes Go.WideShapes Go.ChangeAt Go.RowKit
theorem joinedL_snoc (r:List Wd) (x:Wd):joinedL (r++[x])=joinedL r++32::x:=by
 unfold joinedL;rw [List.map_append,List.flatten_append];simp
theorem joinedL_len {ws:List Wd} {k:Nat} (h : ∀ l∈ws,l.length≤k):(joinedL ws).length≤(k+1) * ws.length:=by
 induction ws with
 | nil=>simp [joinedL]
 | cons x r ih =>
  have h1:=ih (fun l hl=>h l (List.mem_cons_of_mem _ hl));have h2:=h x List.mem_cons_self;rw [joinedL_cons,List.length_cons,List.length_append,List.length_cons,Nat.mul_add];omega
end Go.Proofs.YtbkhnljaajajiaaGreatDoor
