/-
  Contracts and plain laws that the proofs lean on. Conditions: as each says.
-/
import Derived.Test.YtbkhnljaajajiaaGreatDoorPY09
set_option maxRecDepth 100000
set_option linter.unusedSimpArgs false
set_option linter.unusedVariables false
set_option linter.unnecessarySimpa false
namespace Go.Proofs.YtbkhnljaajajiaaGreatDoor
open Go.ChangeShapes Go.WideShapes Go.ChangeAt Go.RowKit
theorem exec_body {l:Wd} (h:l.length≤500):(exec l).take ((exec l).length - (lastL (exec l)).length)=(runS st0 (linesOf l)).2:=by
 rw [exec_last h,exec_yes h,List.length_append,Nat.add_sub_cancel];exact List.take_left' rfl
def lZzz:Wd:=[122,122,122]
def lFileX:Wd:=[102,105,108,101,32,120,32,97]
theorem line_zzz (s:St):lineS s (cutB 32 lZzz)=(s,sayWhat):=by
 rw [show cutB 32 lZzz=[lZzz] from rfl];unfold lineS ask;simp only [show wdAt [lZzz] 0=lZzz from rfl,show ([lZzz]:List Wd).length=1 from rfl];rw [if_neg (by decide),if_neg (by decide),if_neg (by decide),if_neg (by decide),if_neg (by decide),if_neg (by decide),if_neg (by decide),if_neg (by decide),if_neg (by decide),if_neg (by decide)]
theorem line_fileX (s:St):lineS s (cutB 32 lFileX)=(s,sayNo):=by
 rw [show cutB 32 lFileX=[cFile,[120],[97]] from rfl];unfold lineS;simp only [show wdAt [cFile,[120],[97]] 0=cFile from rfl,show wdAt [cFile,[120],[97]] 1=[120] from rfl,show wdAt [cFile,[120],[97]] 2=[97] from rfl,show ([cFile,[120],[97]]:List Wd).length=3 from rfl];rw [if_neg (by decide),if_neg (by decide),if_neg (by decide),if_pos (by decide)];have h1:numOf [120]=99999:=(by decide);rw [h1,fileO_no (by rintro ⟨_,h,_⟩;revert h;unfold okP padB;simp)];rfl
theorem lines_what:linesOf (lZzz++10::(lFileX++[10]))=[lZzz,lFileX]:=by
 rw [linesOf_app,linesOf_line (by decide),linesOf_line (by decide)];rfl
theorem exec_what {l:Wd} (hw:whole l) (h:l.length≤484):exec (l++(lZzz++10::(lFileX++[10])))=(exec l).take ((exec l).length - (lastL (exec l)).length)++(sayWhat++sayNo)++lastL (exec l):=by
 rw [exec_more hw (by simp [lZzz,lFileX];omega),lines_what,exec_body (by omega),exec_last (by omega)];rw [runS,line_zzz,runS_one,line_fileX]
end Go.Proofs.YtbkhnljaajajiaaGreatDoor
