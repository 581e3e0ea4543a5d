/-
  Contracts and plain laws that the proofs lean on. Conditions: as each says.
-/
import Derived.Test.YtbkhnljaajajiaaGreatDoorPExecuteProof04
set_option maxRecDepth 100000
set_option linter.unusedSimpArgs false
set_option linter.unusedVariables false
set_option linter.unnecessarySimpa false
namespace Go.Proofs.YtbkhnljaajajiaaGreatDoor
open Go.ChangeShapes Go.WideShapes Go.ChangeAt Go.RowKit
theorem exec_proof {a b:List Wd} (ha:spB a=true) (hb:spB b=true) (hl:(joinLn [speechL a,cmdL cProof b]).length≤500) :
  exec (joinLn [speechL a,cmdL cProof b])=sayOk++(marksText a (mkAll a b)++[10])++endS { st0 with sp:=a }:=by
 have hpb : ∀ l∈b,plainW l:=fun l hl=>word_plain ((spB_iff.1 hb).1 l hl);have hno : ∀ l∈[speechL a,cmdL cProof b],(10:UInt8) ∉ l:=fun l hl=>by
  simp only [List.mem_cons,List.not_mem_nil,or_false] at hl;rcases hl with rfl | rfl
  ·exact cmdL_no (by decide) (fun l hl=>word_plain ((spB_iff.1 ha).1 l hl))
  ·exact cmdL_no (by decide) hpb
 have hc:lineS { st0 with sp:=a } (cutB 32 (cmdL cProof b))=({ st0 with sp:=a },marksText a (mkAll a b)++[10]):=by
  rw [cmdL_cut (by decide) hpb,line_proof]
  show (_,saidO ((makeO a b).map (marksText a)))=_
  unfold makeO;rw [ha,hb];rfl
 rw [exec_yes hl,linesOf_join hno,runS,speech_step ha,runS_one,hc]
end Go.Proofs.YtbkhnljaajajiaaGreatDoor
