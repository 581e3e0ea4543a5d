/-
  Contracts and plain laws that the proofs lean on. Conditions: as each says.
-/
import Derived.Test.YtbkhnljaajajiaaGreatDoorPY09
set_option maxRecDepth 100000
set_option linter.unusedSimpArgs false
set_option linter.unusedVariables false
set_option linter.unnecessarySimpa false
namespace Go.Proofs.YtbkhnljaajajiaaGreatDoor
open Go.ChangeShapes Go.WideShapes Go.ChangeAt Go.RowKit
theorem linesOf_no {l:List UInt8} (h:(10:UInt8) ∉ l):linesOf l=[]:=by unfold linesOf;rw [cutB_no h];rfl
theorem complL_lines (l:List UInt8):linesOf (complL l)=linesOf l:=by
 obtain ⟨r,h,hr,hw⟩:=complL_parts l;have:=linesOf_whole r hw;rw [← h,linesOf_no hr,List.append_nil] at this;exact this.symm
theorem exec_nil:exec []=[119,111,114,100,115,32,48,32,112,97,100,115,32,48,10]:=by
 rw [exec_yes (by simp),linesOf_no (by simp),runS];unfold endS;rw [show st0.sp.length=0 from rfl,show st0.cab.flatten.length=0 from rfl,Lib.decDigits_one (by omega)];rfl
theorem endS_ne (s:St):endS s≠[]:=by rw [endS_is];simp
theorem exec_ne (l:Wd) (h:l.length≤500):exec l≠[]:=by
 rw [exec_yes h];intro e;exact endS_ne _ (List.append_eq_nil_iff.1 e).2
theorem exec_compl {l:Wd} (h:l.length≤500):exec (complL l)=exec l:=by
 have:=complL_len l;rw [exec_yes h,exec_yes (by omega),complL_lines]
end Go.Proofs.YtbkhnljaajajiaaGreatDoor
