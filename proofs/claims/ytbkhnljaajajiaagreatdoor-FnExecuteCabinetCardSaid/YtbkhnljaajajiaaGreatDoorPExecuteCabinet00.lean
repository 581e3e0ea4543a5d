/-
  Contracts and plain laws that the proofs lean on. Conditions: as each says.
-/
import Derived.Test.YtbkhnljaajajiaaGreatDoorPX06
set_option maxRecDepth 100000
set_option linter.unusedSimpArgs false
set_option linter.unusedVariables false
set_option linter.unnecessarySimpa false
namespace Go.Proofs.YtbkhnljaajajiaaGreatDoor
open Go.ChangeShapes Go.WideShapes Go.ChangeAt Go.RowKit

end Go.Proofs.YtbkhnljaajajiaaGreatDoor
namespace Go.Proofs.YtbkhnljaajajiaaGreatDoor
open Go.ChangeShapes Go.WideShapes Go.ChangeAt Go.RowKit Go.Shelf

end Go.Proofs.YtbkhnljaajajiaaGreatDoor
namespace Go.Proofs.YtbkhnljaajajiaaGreatDoor
open Go.ChangeShapes Go.WideShapes Go.ChangeAt Go.RowKit

end Go.Proofs.YtbkhnljaajajiaaGreatDoor
namespace Go.Proofs.YtbkhnljaajajiaaGreatDoor
open Go.ChangeShapes Go.WideShapes Go.ChangeAt Go.RowKit Go.Shelf


end Go.Proofs.YtbkhnljaajajiaaGreatDoor
namespace Go.Proofs.YtbkhnljaajajiaaGreatDoor
open Go.ChangeShapes Go.WideShapes Go.ChangeAt Go.RowKit
theorem okP_size {p:Pad} (h:okP p=true):p.case.size≤12:=by
 unfold okP padB wordB at h;simp only [Bool.and_eq_true,decide_eq_true_eq] at h;have:=h.2.2.2;simpa using this
theorem padsSz_small : ∀ {ps:List Pad},(∀ p∈ps,okP p=true)→padsSz ps≤13 * ps.length
 | [],_=>by simp [padsSz]
 | p::r,h=>by
  have h1:=okP_size (h p (by simp));have h2:=padsSz_small (ps:=r) (fun q hq=>h q (by simp [hq]));simp only [padsSz,List.length_cons];omega
theorem cabSz_small : ∀ {ds:List Drawer},(∀ d∈ds,lenOK d.ps∧∀ p∈d.ps,okP p=true)→cabSz ds≤53 * ds.length
 | [],_=>by simp [cabSz]
 | d::r,h=>by
  obtain ⟨h1,h2⟩:=h d (by simp);have h3:=padsSz_small h2;have h4:=cabSz_small (ds:=r) (fun q hq=>h q (by simp [hq]));unfold lenOK at h1;simp only [cabSz,List.length_cons];omega
theorem cab_small {ds:List Drawer} (h:cabOK (ds.map (·.ps))):cabSz ds≤318:=by
 have h1:=cabSz_small (ds:=ds) (fun d hd=>⟨h.2.1 d.ps (List.mem_map_of_mem hd),fun p hp=>sorted_okP h.2.2 (List.mem_flatten.2 ⟨d.ps,List.mem_map_of_mem hd,hp⟩)⟩);have h2:=h.1;rw [List.length_map] at h2;omega
end Go.Proofs.YtbkhnljaajajiaaGreatDoor
