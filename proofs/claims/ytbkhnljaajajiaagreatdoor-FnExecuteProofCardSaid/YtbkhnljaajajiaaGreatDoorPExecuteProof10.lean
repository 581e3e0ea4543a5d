/-
  Contracts and plain laws that the proofs lean on. Conditions: as each says.
-/
import Derived.Test.YtbkhnljaajajiaaGreatDoorPExecuteProof06
import Derived.Test.YtbkhnljaajajiaaGreatDoorPExecuteProof09
set_option maxRecDepth 100000
set_option linter.unusedSimpArgs false
set_option linter.unusedVariables false
set_option linter.unnecessarySimpa false
namespace Go.Proofs.YtbkhnljaajajiaaGreatDoor
open Go.ChangeShapes Go.WideShapes Go.ChangeAt Go.RowKit
def DrawnTw (w:World) (e:Ending) (w':World):Prop :=
 ∃ (A0:Option Addr) (n0 c0:Nat) (a:List Wd) (A1:Option Addr) (n1 c1:Nat) (b:List Wd),e = .returned (.tuple #[.slice A0 n0 c0,.slice A1 n1 c1])∧n0≤8 ∧
  WdsIn w' w'.heap.size A0 n0 c0 a∧(∀ l∈a,l.length≤maxLen)∧WdsIn w' w'.heap.size A1 n1 c1 b∧(∀ l∈b,l.length≤maxLen)∧Below w.heap.size w w'
set_option maxHeartbeats 1600000 in
theorem l92Two (W w:World) (hB:Below W.heap.size W w) (hr:RdIn w W.heap.size W.heap.size 0) :
  Calls Tryz.prog 65 #[.pointer (some ⟨W.heap.size,0,none⟩)] w (DrawnTw W):=by
 have hg1:=hr.lt;have HM:=uH (l92Marks W.heap.size W.heap.size 0 w (by omega) hr hB.size);have HB1:=uH hB;clear hr hB;go_enter Tryz.func65,Tryz.ntmps65
 (go_wp2_with fail);refine HM.out.mono ?_;rintro e w2 ⟨A0,n0,c0,ws,A1,n1,c1,D1,neg1,rfl,hn0,hn8,hs0,ho0,hD,hD2,hX,hO,hg2,hr2⟩;have hz2:=hg2.size;have HB2:Hid (Below W.heap.size W w2):=uH (HB1.out.grown hg2 HB1.out.size (fun k hk=>by injection hk with hk;omega));have HSh:Hid (∀ l∈ws,l.length≤maxLen):=uH (fun l hl=>by have:=hs0 l hl;unfold maxLen;omega);have HN:=uH hn0;have HD1:=uH (specMarksDoAny A0 n0 c0 ws A1 n1 c1 D1 neg1 w2 HSh.out (WdOwn.reads ho0 hn0) (MzOwn.reads hO hD) (okShort hX));have HW:=uH ho0;have HR2:=uH hr2;clear hn0 hs0 ho0 hD hD2 hX hO hg2 hr2 HM HB1;(go_wp2_with fail);refine HD1.out.mono ?_;rintro e w3 ⟨A3,n3,c3,x,p,rfl,hl3,ho3,hs3,hb3⟩;have HB3:Hid (Below W.heap.size W w3):=uH (below_next HB2.out hb3);have HW3:=uH (HW.out.keep hb3);have HR3:=uH (HR2.out.below hb3);have HO3:=uH ho3;have HL3:=uH hl3;have HS3:=uH hs3;have hz3:=hb3.size;have HEnd:Hid (∀ w5 A n c l,w3.grownBy w5 (some W.heap.size)→WdsIn w5 w5.heap.size A n c l→(∀ z∈l,z.length≤maxLen)→DrawnTw W (.returned (.tuple #[.slice A0 n0 c0,.slice A n c])) w5):=uH (fun w5 A n c l hg hi hsl =>
  have h0:WdsIn w5 w5.heap.size A0 n0 c0 ws:=WdsIn.grown (WdOwn.reads HW3.out HN.out) hg (fun hp a ha e=>by
   injection e with e;subst ha;have:=ownG_base HW3.out rfl;omega)
  ⟨A0,n0,c0,ws,A,n,c,l,rfl,hn8,h0,HSh.out,hi,hsl,HB3.out.grown hg HB3.out.size (fun k hk=>by injection hk with hk;omega)⟩)
 have HEnd2:Hid (∀ w5,w3.grownBy w5 (some W.heap.size)→DrawnTw W (.returned (.tuple #[.slice A0 n0 c0,.slice A3 n3 c3])) w5):=uH (fun w5 hg =>
  HEnd.out w5 A3 n3 c3 x hg (WdsIn.grown (WdOwn.reads HO3.out HL3.out) hg (fun hp a ha e=>by
   injection e with e;subst ha;have:=ownG_base HO3.out rfl;omega)) HS3.out)
 have HSp:Hid (∀ lim,lim≤20000→∀ w5,w3.grownBy w5 (some W.heap.size)→RdIn w5 W.heap.size W.heap.size lim→Calls Tryz.prog 97 #[.pointer (some ⟨W.heap.size,0,none⟩),.int .i64 ((8:Nat):Int)] w5 fun e w6=>∃ A6 n6 c6,e = .returned (.slice A6 n6 c6)∧DrawnTw W (.returned (.tuple #[.slice A0 n0 c0,.slice A6 n6 c6])) w6):=uH (fun lim hl w5 hg hr=>(l91Speech W.heap.size W.heap.size lim 8 w5 (by omega) (by omega) hr (by have:=hg.size;omega)).mono (by
  rintro e w6 ⟨v6,l6,rfl,hl6,hs6,ho6,hg6,hr6⟩;obtain ⟨A6,c6,rfl,_,_⟩:=ownG_form ho6;exact ⟨A6,l6.length,c6,rfl,HEnd.out w6 _ _ _ _ (only_next hg hg6) (WdOwn.reads ho6 rfl) (fun l hl=>by have:=hs6 l hl;unfold maxLen;omega)⟩))
 clear hb3 ho3 hl3 hs3 HD1 HW3 HO3 HL3 HS3 HB3 HEnd HW HR2 HN HB2 HSh;cases p with
 | false =>
  have HS:=uH (HSp.out 13000 (by omega) w3 (World.grownBy.refl w3 _) (HR3.out.more (by omega)));clear HSp HEnd2 HR3;(go_wp2_with fail);refine HS.out.mono ?_;rintro e w6 ⟨A6,n6,c6,rfl,hF⟩;have HF:=uH hF;clear hF HS;go_wp2;go_returns;exact HF.out
 | true =>
  have HP:=uH (pickR (n:=4) HR3.out (by omega) (by omega) (by omega));(go_wp2_with fail);refine HP.out.mono ?_;rintro e w5 ⟨m,rfl,hm,hg5,hr5⟩;by_cases m0:m=0
  ·subst m0;have HS:=uH (HSp.out 13001 (by omega) w5 hg5 (hr5.more (by omega)));clear HSp HEnd2 HR3 HP hg5 hr5;(go_wp2_with fail);refine HS.out.mono ?_;rintro e w6 ⟨A6,n6,c6,rfl,hF⟩;have HF:=uH hF;clear hF HS;go_wp2;go_returns;exact HF.out
  ·have HF:=uH (HEnd2.out w5 hg5);have z1:(0:Int) < (m:Int):=(by omega);clear HSp HEnd2 HR3 HP hg5 hr5 m0;go_wp2;go_returns;exact HF.out
theorem drawMarksMake (A:Option Addr) (n c:Nat) (bs:List Int) (w:World) (hb:BytesIn w w.heap.size A n c bs) :
  Calls Tryz.prog 26 #[.slice A n c] w (DrawnTw w):=by
 have HO:=uH (l6Open A n c bs w.heap.size w (Nat.le_refl _) hb);clear hb;go_enter Tryz.func26,Tryz.ntmps26
 (go_wp2_with fail);refine HO.out.mono ?_;rintro e w1 ⟨rfl,b1,hr1⟩;have HT:=uH (l92Two w w1 b1 hr1);clear hr1 b1 HO;(go_wp2_with fail);refine HT.out.mono ?_;rintro e w2 ⟨A0,n0,c0,a,A1,n1,c1,b,rfl,hF⟩;have HF:Hid (DrawnTw w (.returned (.tuple #[.slice A0 n0 c0,.slice A1 n1 c1])) w2):=uH ⟨A0,n0,c0,a,A1,n1,c1,b,rfl,hF⟩;clear hF HT;go_wp2;go_returns;exact HF.out
theorem exec_proofT {a b:List Wd} (ha:spB a=true) (hb:spB b=true) (hn:a.length≤8) :
  exec ([115,112,101,101,99,104]++joinedL a++[10,112,114,111,111,102]++joinedL b++[10])=[111,107,10]++marksText a (mkAll a b)++[10]++endN a.length 0∧(joinedL a).length≤104∧(joinedL b).length≤260:=by
 have hj : ∀ ws:List Wd,spB ws=true→(joinedL ws).length≤13 * ws.length:=fun ws hs=>joinedL_len (ws:=ws) (k:=12) (fun l hl=>by
  have:=(spB_iff.1 hs).1 l hl;unfold wordB at this;rw [Bool.and_eq_true,Bool.and_eq_true] at this;exact of_decide_eq_true this.2.2)
 have h1:=hj a ha;have h2:=hj b hb;have h20:=(spB_iff.1 hb).2;have e:[115,112,101,101,99,104]++joinedL a++[10,112,114,111,111,102]++joinedL b++[10]=joinLn [speechL a,cmdL cProof b]:=by
  unfold speechL cmdL cSpeech cProof;simp [joinLn]
 rw [e,exec_proof ha hb (by rw [← e];simp only [List.length_append,List.length_cons,List.length_nil];omega)];have e2:endS { st0 with sp:=a }=endN a.length 0:=rfl;rw [e2];exact ⟨by simp only [sayOk,List.append_assoc],by omega,by omega⟩
end Go.Proofs.YtbkhnljaajajiaaGreatDoor
