/-
  Contracts and plain laws that the proofs lean on. Conditions: as each says.
-/
import Derived.Test.YtbkhnljaajajiaaGreatDoorPExecuteCopy03
import Derived.Test.YtbkhnljaajajiaaGreatDoorPX34
set_option maxRecDepth 100000
set_option linter.unusedSimpArgs false
set_option linter.unusedVariables false
set_option linter.unnecessarySimpa false
namespace Go.Proofs.YtbkhnljaajajiaaGreatDoor
open Go.ChangeShapes Go.WideShapes Go.ChangeAt Go.RowKit
theorem WdsO.ans {w':World} {B:Nat} {o:Option (List Wd)} {e:Ending} (h:WdsO w' B o e) : ∃ A c,e = .returned (.tuple #[.slice A (o.getD []).length c,.bool o.isSome])∧WdsIn w' w'.heap.size A (o.getD []).length c (o.getD []):=by
 obtain ⟨A,c,he,ho⟩:=h;exact ⟨A,c,he,WdOwn.reads ho rfl⟩
def briefsT (bs:List Bf):Wd:=joinLn (bs.map briefL)
theorem briefsT_next {xs:List Br} {k:Nat} (hk:k < xs.length):briefsT ((xs.take (k+1)).map Br.dat)=briefsT ((xs.take k).map Br.dat)++[98,114,105,101,102,32]++(brAt xs k).mark++joinedL (brAt xs k).words++[10]:=by
 unfold briefsT;rw [List.take_succ_eq_append_getElem hk,List.map_append,List.map_append,List.map_cons,List.map_nil,List.map_cons,List.map_nil,joinLn_snoc];have:xs[k]=brAt xs k:=(by unfold brAt;rw [List.getD_eq_getElem?_getD,List.getElem?_eq_getElem hk];rfl);rw [this];unfold briefL cmdL joinedL cBrief Br.dat;simp
theorem words12 {ws:List Wd} (h : ∀ l∈ws,wordB l=true) : ∀ l∈ws,l.length≤12:=fun l hl=>by
 have:=h l hl;unfold wordB at this;rw [Bool.and_eq_true,Bool.and_eq_true] at this;exact of_decide_eq_true this.2.2
theorem brief_len {b:Bf} (h:bfB b=true):b.mark.length≤3∧(joinedL b.words).length≤39∧(∀ l∈b.words,l.length≤12)∧b.words.length≤3:=by
 have h2:=bfB_iff.1 h;have h3:=markB_len h2.1;have h4:bwB b.words=true:=h2.2;unfold bwB at h4;rw [Bool.and_eq_true,List.all_eq_true,decide_eq_true_iff] at h4;have h5:=words12 h4.1;have h6:=joinedL_len h5;have:=Nat.mul_le_mul_left 13 h4.2.2;exact ⟨h3.2,by omega,h5,h4.2.2⟩
theorem briefsT_len {bs:List Bf} (h : ∀ b∈bs,bfB b=true):(briefsT bs).length≤49 * bs.length:=by
 have:=joinLn_len (ls:=bs.map briefL) (k:=48) (fun l hl=>by
  obtain ⟨b,hb,rfl⟩:=List.mem_map.1 hl;obtain ⟨h1,h2,_⟩:=brief_len (h b hb);unfold briefL cmdL cBrief;rw [joinedL_cons];simp only [List.length_append,List.length_cons,List.length_nil];omega)
 rw [List.length_map] at this;exact this
theorem exec_copyT {bs:List Bf} {ws:List Wd} (hb:brsB bs=true) (hs:spB ws=true) (h5:bs.length≤5) (h8:ws.length≤8) :
  exec (briefsT bs++[115,112,101,101,99,104]++joinedL ws++[10,99,111,112,121,10,108,101,116,116,101,114,115,10])=okN (bs.length+1)++Lib.join (bestT bs ws) [32]++[10]++Lib.decDigits (costOf bs ws)++[10]++endN ws.length 0 ∧
  (briefsT bs).length≤245∧(joinedL ws).length≤104∧costOf bs ws≤240∧(bestT bs ws).length≤20∧∀ l∈bestT bs ws,l.length≤600:=by
 have hl:=briefsT_len (brsB_mem hb);have h20:=(spB_iff.1 hs).2;have hw:=words12 (spB_iff.1 hs).1;have hj:=joinedL_len hw;have hbs:=bestT_sm (valid_one hb) (fun b hb2=>by have:=(markB_len (bfB_iff.1 (brsB_mem hb b hb2)).1).2;omega) ws.length ws (Nat.le_refl _) hw;have e:briefsT bs++[115,112,101,101,99,104]++joinedL ws++[10,99,111,112,121,10,108,101,116,116,101,114,115,10]=joinLn (bs.map briefL++[speechL ws,cCopy,cLetters]):=by
  rw [joinLn_app];unfold briefsT speechL cmdL cSpeech cCopy cLetters;simp [joinLn]
 rw [e,exec_copy hb hs (by rw [← e];simp only [List.length_append,List.length_cons,List.length_nil];omega)];have e2:endS { st0 with brs:=bs,sp:=ws }=endN ws.length 0:=rfl;rw [e2];have hc:=costOf_le (valid_one hb) ws hw;have hb2:=bestT_len (valid_one hb) ws.length ws (Nat.le_refl _);exact ⟨by simp only [List.append_assoc],by omega,by omega,by omega,by omega,fun l hl=>by have:=hbs l hl;omega⟩
end Go.Proofs.YtbkhnljaajajiaaGreatDoor
