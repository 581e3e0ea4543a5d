/-
  Contracts and plain laws that the proofs lean on. Conditions: as each says.
-/
import Derived.Test.YtbkhnljaajajiaaGreatDoorPY09
set_option maxRecDepth 100000
set_option linter.unusedSimpArgs false
set_option linter.unusedVariables false
set_option linter.unnecessarySimpa false
namespace Go.Proofs.YtbkhnljaajajiaaGreatDoor
open Go.ChangeShapes Go.WideShapes Go.ChangeAt Go.RowKit
theorem line_letters (s:St):lineS s (cutB 32 cLetters)=(s,Lib.decDigits (costOf s.brs s.sp)++[10]):=by
 rw [show cutB 32 cLetters=[cLetters] from rfl];unfold lineS ask;simp only [show wdAt [cLetters] 0=cLetters from rfl,show ([cLetters]:List Wd).length=1 from rfl];rw [if_neg (by decide),if_neg (by decide),if_neg (by decide),if_neg (by decide),if_neg (by decide),if_neg (by decide),if_neg (by decide),if_pos (by decide)]
theorem lines_let1:linesOf (cLetters++[10])=[cLetters]:=linesOf_line (by decide)
theorem lines_let2:linesOf (cLetters++10::(cLetters++[10]))=[cLetters,cLetters]:=by
 rw [linesOf_app,lines_let1];rfl
theorem exec_twice {l:Wd} (hw:whole l) (h:l.length≤480) : ∃ b o last:Wd,exec l=b++last∧lastL (exec l)=last∧exec (l++(cLetters++[10]))=b++o++last∧exec (l++(cLetters++10::(cLetters++[10])))=b++o++o++last:=by
 refine ⟨(runS st0 (linesOf l)).2,Lib.decDigits (costOf (runS st0 (linesOf l)).1.brs (runS st0 (linesOf l)).1.sp)++[10],endS (runS st0 (linesOf l)).1,exec_yes (by omega),exec_last (by omega),?_,?_⟩
 ·rw [exec_more hw (by simp [cLetters];omega),lines_let1,runS_one,line_letters]
 ·rw [exec_more hw (by simp [cLetters];omega),lines_let2,runS,line_letters,runS_one,line_letters];simp only [List.append_assoc]
end Go.Proofs.YtbkhnljaajajiaaGreatDoor
