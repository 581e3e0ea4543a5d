/-
  Contracts and plain laws that the proofs lean on. Conditions: as each says.
-/
import Derived.Test.YtbkhnljaajajiaaGreatDoorPExecuteCabinet06
import Derived.Test.YtbkhnljaajajiaaGreatDoorPExecuteCabinet09
set_option maxRecDepth 100000
set_option linter.unusedSimpArgs false
set_option linter.unusedVariables false
set_option linter.unnecessarySimpa false
namespace Go.Proofs.YtbkhnljaajajiaaGreatDoor
open Go.ChangeShapes Go.WideShapes Go.ChangeAt Go.RowKit
theorem ofO_okP : ∀ {ps:List Pad} {css c:List (List Pad)},ofO css ps=some c→∀ p∈ps,okP p=true
 | [],_,_,_,_,hp=>nomatch hp
 | q::r,css,c,h,p,hp=>by
  rw [ofO_cons] at h;cases hf:fileO css q with
  | none=>rw [hf] at h;cases h
  | some c1 =>
   rw [hf] at h;rcases List.mem_cons.1 hp with rfl | hp
   ·exact file_some hf
   ·exact ofO_okP (css:=c1) h p hp
theorem fileForm {w:World} {B:Nat} {o:Option (List (List Pad))} {e:Ending} (h:FileAns w B o e) : ∃ A c ds,e = .returned (.tuple #[.slice A ds.length c,.bool o.isSome])∧CabOwn w B (.slice A ds.length c) ds∧ds.map (·.ps)=o.getD []:=by
 rcases h with ⟨rfl,A,c,he,hO⟩ | ⟨A,c,ds,rfl,he,hO⟩
 ·exact ⟨A,c,[],he,hO,rfl⟩
 ·exact ⟨A,c,ds,he,hO,rfl⟩
def filesT (ps:List Pad):Wd:=joinLn (ps.map fileL)
theorem filesT_next {ps:List Pad} {k:Nat} (hk:k < ps.length):filesT (ps.take (k+1))=filesT (ps.take k)++[102,105,108,101,32]++Lib.decDigits (padAt ps k).day.toNat++[32]++(padAt ps k).case.data.toList++[10]:=by
 unfold filesT;rw [List.take_succ_eq_append_getElem hk,List.map_append,List.map_cons,List.map_nil,joinLn_snoc];have:ps[k]=padAt ps k:=(by unfold padAt;rw [List.getD_eq_getElem?_getD,List.getElem?_eq_getElem hk];rfl);rw [this];unfold fileL cmdL joinedL cFile;simp
theorem filesT_len {ps:List Pad} (h : ∀ p∈ps,okP p=true):(filesT ps).length≤23 * ps.length:=by
 have:=joinLn_len (ls:=ps.map fileL) (k:=22) (fun l hl=>by
  obtain ⟨p,hp,rfl⟩:=List.mem_map.1 hl;obtain ⟨h0,h1,h2⟩:=ok_case (h p hp);have h3:=nDigits_le4 (n:=p.day.toNat) (by omega);unfold fileL cmdL joinedL cFile;simp only [List.length_append,List.length_cons,List.length_nil,List.map_cons,List.map_nil,List.flatten_cons,List.flatten_nil,Lib.decDigits_length];omega)
 rw [List.length_map] at this;exact this
theorem exec_files {ps:List Pad} {css:List (List Pad)} (h:ofO [] ps=some css) (hn:ps.length≤15) :
  exec (filesT ps++[99,97,98,105,110,101,116,10])=okN ps.length++cabText css++endN 0 ps.length:=by
 have hok:=ofO_okP h;have hl:=filesT_len hok;have e:filesT ps++[99,97,98,105,110,101,116,10]=joinLn (ps.map fileL++[cCabinet]):=(by rw [joinLn_snoc];rfl);rw [e,exec_cabinet h hok (by rw [← e,List.length_append];simp only [List.length_cons,List.length_nil];omega)];have e2:endS { st0 with cab:=css }=endN 0 ps.length:=by
  unfold endS endN;rw [of_len h];rfl
 rw [e2]
end Go.Proofs.YtbkhnljaajajiaaGreatDoor
