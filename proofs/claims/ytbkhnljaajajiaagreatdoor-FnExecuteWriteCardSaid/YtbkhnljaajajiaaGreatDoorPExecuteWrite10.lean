/-
  Contracts and plain laws that the proofs lean on. Conditions: as each says.
-/
import Derived.Test.YtbkhnljaajajiaaGreatDoorPExecuteWrite08
set_option maxRecDepth 100000
set_option linter.unusedSimpArgs false
set_option linter.unusedVariables false
set_option linter.unnecessarySimpa false
namespace Go.Proofs.YtbkhnljaajajiaaGreatDoor
open Go.ChangeShapes Go.WideShapes Go.ChangeAt Go.RowKit
def signsT (xs:List Sg):Wd:=joinLn (xs.map signL)
theorem signsT_next {xs:List Sg} {k:Nat} (hk:k < xs.length):signsT (xs.take (k+1))=signsT (xs.take k)++[115,105,103,110,32]++(sgAt xs k).l++[32]++sText (sgAt xs k).st++[10]:=by
 unfold signsT;rw [List.take_succ_eq_append_getElem hk,List.map_append,List.map_cons,List.map_nil,joinLn_snoc];have:xs[k]=sgAt xs k:=(by unfold sgAt;rw [List.getD_eq_getElem?_getD,List.getElem?_eq_getElem hk];rfl);rw [this];unfold signL cmdL joinedL cSign;simp
theorem okL_len {l:Wd} (h:okL l=true):l.length=1:=by
 unfold okL at h;rw [Bool.and_eq_true,decide_eq_true_iff] at h;exact h.1
theorem signsT_len {xs:List Sg} (h : ∀ x∈xs,okSg x=true):(signsT xs).length≤10 * xs.length:=by
 have:=joinLn_len (ls:=xs.map signL) (k:=9) (fun l hl=>by
  obtain ⟨x,hx,rfl⟩:=List.mem_map.1 hl;have h1:=h x hx;unfold okSg at h1;rw [Bool.and_eq_true] at h1;have h2:=okL_len h1.1;unfold signL cmdL joinedL cSign;simp only [List.length_append,List.length_cons,List.length_nil,List.map_cons,List.map_nil,List.flatten_cons,List.flatten_nil,sText_len,h2];omega)
 rw [List.length_map] at this;exact this
theorem exec_writeT {xs:List Sg} {ws:List Wd} {L:List Dat} (h:lineOf xs ws=some L) (hn:ws.length≤6) :
  exec (signsT xs++[115,112,101,101,99,104]++joinedL ws++[10,119,114,105,116,101,10])=okN (xs.length+1)++lineText L++[10]++endN ws.length 0∧xs.length≤21∧(joinedL ws).length≤78:=by
 obtain ⟨hx,hs⟩:=line_parts h;have hl:=signsT_len (fun x hx2=>sys_mem hx hx2);have h21:=(sysB_iff.1 hx).1;have hj:=joinedL_len (ws:=ws) (k:=12) (fun l hl=>by
  have:=(spB_iff.1 hs).1 l hl;unfold wordB at this;rw [Bool.and_eq_true,Bool.and_eq_true] at this;exact of_decide_eq_true this.2.2)
 have e:signsT xs++[115,112,101,101,99,104]++joinedL ws++[10,119,114,105,116,101,10]=joinLn (xs.map signL++[speechL ws,cWrite]):=by
  rw [joinLn_app];unfold signsT speechL cmdL cSpeech cWrite;simp [joinLn]
 have hb:(joinedL ws).length≤78:=by
  refine Nat.le_trans hj ?_;have:=Nat.mul_le_mul_left 13 hn;omega
 rw [e,exec_write h (by rw [← e];simp only [List.length_append,List.length_cons,List.length_nil];omega)];have e2:endS { st0 with sys:=xs,sp:=ws }=endN ws.length 0:=rfl;rw [e2];exact ⟨by simp only [List.append_assoc],h21,hb⟩
theorem allW_count {xs:List Sg} : ∀ {ws:List (List UInt8)} {L:List Dat},allW xs ws=some L→L.length=ws.length
 | [],L,h=>by injection h with h;subst h;rfl
 | l::r,L,h=>by
  obtain ⟨d,_,h⟩:=Option.bind_eq_some_iff.1 h;obtain ⟨L',h2,rfl⟩:=Option.map_eq_some_iff.1 h;rw [List.length_cons,List.length_cons,allW_count h2]
theorem lineOf_count {xs:List Sg} {ws:List Wd} {L:List Dat} (h:lineOf xs ws=some L):L.length=ws.length:=by
 unfold lineOf at h;split at h
 ·exact allW_count h
 ·cases h
end Go.Proofs.YtbkhnljaajajiaaGreatDoor
