/-
  Contracts and plain laws that the proofs lean on. Conditions: as each says.
-/
import Derived.Test.YtbkhnljaajajiaaGreatDoorPExecuteCopy01
set_option maxRecDepth 100000
set_option linter.unusedSimpArgs false
set_option linter.unusedVariables false
set_option linter.unnecessarySimpa false
namespace Go.Proofs.YtbkhnljaajajiaaGreatDoor
open Go.ChangeShapes Go.WideShapes Go.ChangeAt Go.RowKit
theorem join_tail (ws:List Wd):(joinedL ws).drop 1=Lib.join ws [32]:=by
 cases ws with
 | nil=>rfl
 | cons x r =>
  rw [joinedL_cons,Lib.join_cons]
  show x++joinedL r=_
  rfl
theorem exec_copy {bs:List Bf} {ws:List Wd} (hb:brsB bs=true) (hs:spB ws=true) (hl:(joinLn (bs.map briefL++[speechL ws,cCopy,cLetters])).length≤500) :
  exec (joinLn (bs.map briefL++[speechL ws,cCopy,cLetters]))=okN (bs.length+1)++(Lib.join (bestT bs ws) [32]++[10])++(Lib.decDigits (costOf bs ws)++[10])++endS { st0 with brs:=bs,sp:=ws }:=by
 have hno : ∀ l∈bs.map briefL++[speechL ws,cCopy,cLetters],(10:UInt8) ∉ l:=fun l hl=>by
  rcases List.mem_append.1 hl with h | h
  ·obtain ⟨b,hb2,rfl⟩:=List.mem_map.1 h;exact cmdL_no (by decide) (brief_plain (brsB_mem hb b hb2))
  ·simp only [List.mem_cons,List.not_mem_nil,or_false] at h;rcases h with rfl | rfl | rfl
   ·exact cmdL_no (by decide) (fun l hl=>word_plain ((spB_iff.1 hs).1 l hl))
   ·decide
   ·decide
 have h1:cutB 32 cCopy=[cCopy]:=rfl;have hc:lineS { st0 with brs:=bs,sp:=ws } (cutB 32 cCopy)=({ st0 with brs:=bs,sp:=ws },Lib.join (bestT bs ws) [32]++[10]):=by
  rw [h1,line_copy (by rfl)]
  show (_,saidO ((bestO bs ws).map fun t=>Lib.join t [32]))=_
  unfold bestO;rw [hb,hs];rfl
 rw [exec_yes hl,linesOf_join hno,runS_app,run_briefs hb];rw [runS,speech_step hs,runS,hc,runS_one,line_letters];simp only [okN_succ,List.append_assoc]
end Go.Proofs.YtbkhnljaajajiaaGreatDoor
