/-
  The law FnExecuteCopy returns true for every input, and what was in memory before the call reads as before: the frame round its walk.
  Conditions: none.
-/
import Derived.Test.YtbkhnljaajajiaaGreatDoorPExecuteCopy04
import Derived.Test.YtbkhnljaajajiaaGreatDoorPExecuteCopy05
import Derived.Test.YtbkhnljaajajiaaGreatDoorPExecuteCopy06
import Derived.Test.YtbkhnljaajajiaaGreatDoorPX33
import Derived.Test.YtbkhnljaajajiaaGreatDoorPX37
import Derived.Test.YtbkhnljaajajiaaGreatDoorTie
import Derived.Test.YtbkhnljaajajiaaGreatDoorCards
import Derived.JoinedCond
import Derived.SevenTiedAt
set_option maxRecDepth 100000
set_option linter.unusedSimpArgs false
set_option linter.unusedVariables false
set_option linter.unnecessarySimpa false
namespace Go.Proofs.YtbkhnljaajajiaaGreatDoor.fnExecuteCopy
open Go.ChangeShapes Go.WideShapes Go.ChangeAt Go.RowKit
set_option maxRecDepth 100000 in
set_option maxHeartbeats 6400000 in
theorem walk (A:Option Addr) (n c:Nat) (bs:List Int) (W:World) (hb:BytesIn W W.heap.size A n c bs) (HLd:laidMet Tryz.prog laidL W) :
  Calls Tryz.prog 6 #[.slice A n c] W fun e w'=>e = .returned (.bool true)∧Below W.heap.size W w':=by
 have HT:=uH (tabOf HLd);have hm:=hb.2.2.1;have hnc:=hb.2.1;unfold maxLen at hm;clear HLd;by_cases hn:1048576 < n
 ·clear hb;go_enter Tryz.func6,Tryz.ntmps6
  go_wp2;go_returns;exact ⟨rfl,by go_grown⟩
 have HD:=uH (drawCopyBest A n c bs W hb);clear hb;go_enter Tryz.func6,Tryz.ntmps6
 (go_wp2_with fail);refine HD.out.mono ?_;rintro e w1 ⟨A1,n1,c1,xs,A2,n2,c2,ws,rfl,hn5,hn8,hS,hX,hXn,hDc,hwl,b1⟩;have hsh : ∀ l∈ws,l.length≤maxLen:=(fun l hl=>by have:=hwl l hl;unfold maxLen;omega);have hncD:=hDc.2.1;have hcmD:=hDc.2.2.1;unfold maxLen at hcmD;have hncS:=hS.2.1;have hcmS:=hS.2.2.1;unfold maxLen at hcmS;have HLx:=uH hS.1;have HLw:=uH hDc.1;have HKs:Hid (∀ V,Below w1.heap.size w1 V→BrsIn V V.heap.size A1 n1 c1 xs):=uH (fun V hV=>hS.keep hV);have HKw:Hid (∀ V,Below w1.heap.size w1 V→WdsIn V V.heap.size A2 n2 c2 ws):=uH (fun V hV=>hDc.keep hV);have HIm:=uH (fun V (hV:Below w1.heap.size w1 V)=>(implCopyBest A1 n1 c1 xs A2 n2 c2 ws V hX hsh (hS.keep hV) (hDc.keep hV)).mono (fun e w' h=>(⟨h.1.ans,h.2⟩:(∃ A c,e = .returned (.tuple #[.slice A ((bestO (xs.map Br.dat) ws).getD []).length c,.bool (bestO (xs.map Br.dat) ws).isSome])∧WdsIn w' w'.heap.size A ((bestO (xs.map Br.dat) ws).getD []).length c ((bestO (xs.map Br.dat) ws).getD []))∧Below V.heap.size V w')));have HSp:=uH (fun V (hV:Below w1.heap.size w1 V)=>(specCopyBest A1 n1 c1 xs A2 n2 c2 ws V hX hsh (hS.keep hV) (hDc.keep hV)).mono (fun e w' h=>(⟨h.1.ans,h.2⟩:(∃ A c,e = .returned (.tuple #[.slice A ((bestO (xs.map Br.dat) ws).getD []).length c,.bool (bestO (xs.map Br.dat) ws).isSome])∧WdsIn w' w'.heap.size A ((bestO (xs.map Br.dat) ws).getD []).length c ((bestO (xs.map Br.dat) ws).getD []))∧Below V.heap.size V w')));have HLe:=uH (fun V (hV:Below w1.heap.size w1 V)=>implCopyLeast A1 n1 c1 xs A2 n2 c2 ws V hX hsh (hS.keep hV) (hDc.keep hV));have HWl:=uH hwl;clear hS hDc hwl hsh hX hXn HD;have HSm:Hid (∀ A c A' c' T V,WdsIn V V.heap.size A T.length c T→WdsIn V V.heap.size A' T.length c' T→Calls Tryz.prog 19 #[.slice A T.length c,.slice A' T.length c'] V fun e w'=>e = .returned (.bool true)∧Below V.heap.size V w'):=uH (fun A c A' c' T V h h'=>by
  have:=sameTexts A T.length c A' T.length c' T T V h h'
  rwa [decide_eq_true rfl] at this)
 cases hLO:bestO (xs.map Br.dat) ws with
 | none =>
  rw [hLO] at HIm;rw [hLO] at HSp;clear hLO HKs HKw HLe;simp only [Option.getD_none,Option.isSome_none,List.length_nil] at HIm HSp;have HI1:=uH (HIm.out w1 (Below.refl _ _));have HSm0:Hid (∀ A c A' c' V,WdsIn V V.heap.size A 0 c []→WdsIn V V.heap.size A' 0 c' []→Calls Tryz.prog 19 #[.slice A 0 c,.slice A' 0 c'] V fun e w'=>e = .returned (.bool true)∧Below V.heap.size V w'):=uH (fun A c A' c' V h h'=>HSm.out A c A' c' [] V h h');clear HIm HSm;(go_wp2_with fail);refine HI1.out.mono ?_;rintro e w2 ⟨⟨A3,c3,rfl,hR3⟩,hb2⟩;have HR3:=uH hR3;have HS2:=uH (HSp.out w2 hb2);have b2:=below_next b1 hb2;clear hR3 hb2 HI1 HSp;(go_wp2_with fail);refine HS2.out.mono ?_;rintro e w3 ⟨⟨A4,c4,rfl,hR4⟩,hb3⟩;have HSm1:=uH (fun V (hV:Below w3.heap.size w3 V)=>HSm0.out A3 c3 A4 c4 V ((HR3.out.keep hb3).keep hV) (hR4.keep hV));have b3:=below_next b2 hb3;clear hR4 hb3 HS2 HSm0;(go_wp2_with fail);refine (HSm1.out w3 (Below.refl _ _)).mono ?_;rintro e w4 ⟨rfl,hb4⟩;have b4:=below_next b3 hb4;have HSm2:=uH (HSm1.out w4 hb4);clear hb4 HSm1;(go_wp2_with fail);refine HSm2.out.mono ?_;rintro e w5 ⟨rfl,hb5⟩;have b5:=below_next b4 hb5;go_wp2;go_returns;exact ⟨rfl,b5⟩
 | some T =>
  rw [hLO] at HIm;rw [hLO] at HSp;have hv:brsB (xs.map Br.dat)=true∧spB ws=true∧T=bestT (xs.map Br.dat) ws:=by
   unfold bestO at hLO;split at hLO
   ·rename_i hc
    rw [Bool.and_eq_true] at hc;injection hLO with hLO;exact ⟨hc.1,hc.2,hLO.symm⟩
   ·cases hLO
  simp only [Option.getD_some,Option.isSome_some] at HIm HSp;obtain ⟨hxe,hbl,hjl,hcl,htl,hts⟩:=exec_copyT hv.1 hv.2.1 (by rw [List.length_map,HLx.out];exact hn5) (by rw [HLw.out];exact hn8);rw [← hv.2.2] at hxe htl hts;have hcost:leastI (xs.map Br.dat) ws=(costOf (xs.map Br.dat) ws:Int):=(by unfold leastI;rw [hv.1,hv.2.1];rfl);rw [hcost] at HLe;generalize costOf (xs.map Br.dat) ws=K at *;have hbf : ∀ k,k < n1→bfB (brAt xs k).dat=true:=fun k hk=>by
   have:=brsB_mem hv.1 (brAt xs k).dat (List.mem_map.2 ⟨_,brAt_mem (by rw [HLx.out];exact hk),rfl⟩);exact this
  have HBf:=uH hbf;have hel:=exec_len (briefsT (xs.map Br.dat)++[115,112,101,101,99,104]++joinedL ws++[10,99,111,112,121,10,108,101,116,116,101,114,115,10]);rw [hxe,List.length_map] at hel;rw [List.length_map] at hxe;simp only [List.length_append] at hel;rw [HLx.out,HLw.out] at hel hxe;have HX:Hid (∀ V,Below W.heap.size W V→Calls Tryz.prog 12 #[.string (mkStr (briefsT (xs.map Br.dat)++[115,112,101,101,99,104]++joinedL ws++[10,99,111,112,121,10,108,101,116,116,101,114,115,10]))] V fun e w'=>e = .returned (.string (mkStr (okN (n1+1)++Lib.join T [32]++[10]++Lib.decDigits K++[10]++endN n2 0)))∧Below V.heap.size V w'):=uH (fun V hV=>by
   have:=implExecute (mkStr (briefsT (xs.map Br.dat)++[115,112,101,101,99,104]++joinedL ws++[10,99,111,112,121,10,108,101,116,116,101,114,115,10])) V (by rw [mkStr_size];simp only [List.length_append,List.length_cons,List.length_nil];omega) (HT.out.keep hV)
   rwa [mkStr_data,hxe] at this)
  have HNx:Hid (∀ k,k < n1→briefsT ((xs.take (k+1)).map Br.dat)=briefsT ((xs.take k).map Br.dat)++[98,114,105,101,102,32]++(brAt xs k).mark++joinedL (brAt xs k).words++[10]):=uH (fun k hk=>briefsT_next (by rw [HLx.out];exact hk));have HLn:Hid (∀ k,(briefsT ((xs.take k).map Br.dat)).length≤245):=uH (fun k=>by
   have h1:=briefsT_len (bs:=(xs.take k).map Br.dat) (fun b hb=>by
    obtain ⟨x,hx,rfl⟩:=List.mem_map.1 hb;exact brsB_mem hv.1 _ (List.mem_map.2 ⟨x,List.mem_of_mem_take hx,rfl⟩))
   have h2:((xs.take k).map Br.dat).length≤5:=(by rw [List.length_map,List.length_take,HLx.out];omega);omega)
  obtain ⟨xg,xh,xs1,g1,g2,g3,ex⟩ : ∃ xg xh xs1:ByteArray,(∀ W',(Op.stringOp .add (mkStr (briefsT (xs.map Br.dat))) { data:=#[115,112,101,101,99,104] }).run Tryz.prog W' = .ok (.string xg) W')∧(∀ W',(Op.stringOp .add xg (mkStr (joinedL ws))).run Tryz.prog W' = .ok (.string xh) W')∧(∀ W',(Op.stringOp .add xh { data:=#[10,99,111,112,121,10,108,101,116,116,101,114,115,10] }).run Tryz.prog W' = .ok (.string xs1) W')∧mkStr (briefsT (xs.map Br.dat)++[115,112,101,101,99,104]++joinedL ws++[10,99,111,112,121,10,108,101,116,116,101,114,115,10])=xs1 :=
   ⟨_,_,_,fun W'=>run_add _ [115,112,101,101,99,104] (by simp only [List.length_cons,List.length_nil];omega) W',fun W'=>run_add _ _ (by simp only [List.length_append,List.length_cons,List.length_nil];omega) W',fun W'=>run_add _ [10,99,111,112,121,10,108,101,116,116,101,114,115,10] (by simp only [List.length_append,List.length_cons,List.length_nil];omega) W',rfl⟩
  obtain ⟨xf,xk,xm,xq,xe,a1,a2,a3,a4,a5,ee⟩ : ∃ xf xk xm xq xe:ByteArray,(∀ W',(Op.stringOp .add (mkStr (okN (n1+1))) (mkStr (Lib.join T [32]))).run Tryz.prog W' = .ok (.string xf) W')∧(∀ W',(Op.stringOp .add xf { data:=#[10] }).run Tryz.prog W' = .ok (.string xk) W')∧(∀ W',(Op.stringOp .add xk (mkStr (Lib.decDigits K))).run Tryz.prog W' = .ok (.string xm) W')∧(∀ W',(Op.stringOp .add xm { data:=#[10] }).run Tryz.prog W' = .ok (.string xq) W')∧(∀ W',(Op.stringOp .add xq (mkStr (endN n2 0))).run Tryz.prog W' = .ok (.string xe) W')∧mkStr (okN (n1+1)++Lib.join T [32]++[10]++Lib.decDigits K++[10]++endN n2 0)=xe :=
   ⟨_,_,_,_,_,fun W'=>run_add _ _ (by simp only [List.length_cons,List.length_nil] at hel;omega) W',fun W'=>run_add _ [10] (by simp only [List.length_append,List.length_cons,List.length_nil] at hel ⊢;omega) W',fun W'=>run_add _ _ (by simp only [List.length_append,List.length_cons,List.length_nil] at hel ⊢;omega) W',fun W'=>run_add _ [10] (by simp only [List.length_append,List.length_cons,List.length_nil] at hel ⊢;omega) W',fun W'=>run_add _ _ (by simp only [List.length_append,List.length_cons,List.length_nil] at hel ⊢;omega) W',rfl⟩
  rw [ex,ee] at HX;have HOl:Hid (∀ V,Calls Tryz.prog 21 #[.int .i64 ((n1:Int)+1)] V fun e w'=>e = .returned (.string (mkStr (okN (n1+1))))∧V=w'):=uH (fun V=>by
   have:=okLines (n1+1) V (by omega)
   rwa [show ((n1+1:Nat):Int)=(n1:Int)+1 by omega] at this)
  have jw:IntKind.i64.wrap ((n1:Int)+1)=(n1:Int)+1:=IntWalk.i64_in _ (by omega);have HEl:=uH (fun V=>endLine n2 0 V (by omega) (by omega));have HDg:=uH (fun V=>lawDigits K V (by omega));have HJ:=uH (fun V (hV:Below w1.heap.size w1 V)=>joinedC A2 n2 c2 ws V (by omega) HWl.out (HKw.out V hV));have HJt:Hid (∀ (A:Option Addr) (N c:Nat) (V:World),N=T.length→WdsIn V V.heap.size A N c T→Calls Tryz.prog 20 #[.slice A N c] V fun e w'=>e = .returned (.string (mkStr (joinedL T)))∧V=w'):=uH (fun A N c V hN h=>joinedC A N c T V (by omega) (fun l hl=>by have:=hts l hl;omega) h);have htj:(joinedL T).length≤1000000:=by
   have:=joinedL_len hts;have h2:=Nat.mul_le_mul_left 601 htl;omega
  have HTl:Hid (∀ V,Calls Tryz.prog 22 #[.string (mkStr (joinedL T))] V fun e w'=>e = .returned (.string (mkStr (Lib.join T [32])))∧V=w'):=uH (fun V=>by
   have:=tailC (joinedL T) V htj
   rwa [join_tail] at this)
  clear hLO hv hxe hbl hjl hcl htl hts hcost hbf hel ex ee HKw HWl htj;generalize mkStr (joinedL ws)=xj at *;generalize mkStr (okN (n1+1))=xo at *;generalize mkStr (endN n2 0)=xl at *;generalize mkStr (Lib.decDigits K)=xd0 at *;generalize mkStr (joinedL T)=xt1 at *;generalize mkStr (Lib.join T [32])=xt2 at *;generalize hTN:T.length=N at *;have HTN:=uH hTN.symm;clear hTN;have heq:(xe.toList == xe.toList)=true:=(by simp);have HI1:=uH (HIm.out w1 (Below.refl _ _));clear HIm;(go_wp2_with fail);refine HI1.out.mono ?_;rintro e w2 ⟨⟨A3,c3,rfl,hR3⟩,hb2⟩;have HR3:=uH hR3;have HS2:=uH (HSp.out w2 hb2);have b2:=below_next b1 hb2;have k2:=hb2;clear hR3 hb2 HI1 HSp;(go_wp2_with fail);refine HS2.out.mono ?_;rintro e w3 ⟨⟨A4,c4,rfl,hR4⟩,hb3⟩;have b3:=below_next b2 hb3;have k3:=below_next k2 hb3;have HR33:=uH (HR3.out.keep hb3);have HSm1:Hid (Calls Tryz.prog 19 #[.slice A3 N c3,.slice A4 N c4] w3 fun e w'=>e = .returned (.bool true)∧Below w3.heap.size w3 w'):=uH (by
   have h1:=HR33.out;rw [HTN.out] at h1 hR4 ⊢;exact HSm.out A3 c3 A4 c4 T w3 h1 hR4)
  clear hR4 hb3 HS2 k2 HR3 HSm;(go_wp2_with fail);refine HSm1.out.mono ?_;rintro e w4 ⟨rfl,hb4⟩;have b4:=below_next b3 hb4;have k4:=below_next k3 hb4;have HJ4:Hid (∀ V,Below w4.heap.size w4 V→Calls Tryz.prog 20 #[.slice A3 N c3] V fun e w'=>e = .returned (.string xt1)∧V=w'):=uH (fun V hV=>HJt.out A3 N c3 V rfl ((HR33.out.keep hb4).keep hV));clear hb4 HSm1 HR33 k3 HJt;go_wp2;go_loopw [9,10] (fun x i wr=>∃ q:Nat,q≤n1∧i = .int .i64 q∧x = .string (mkStr (briefsT ((xs.take q).map Br.dat)))∧Below w4.heap.size w4 wr) (fun _ i _=>n1 - (intOf i).toNat)
  case atStart=>exact ⟨0,Nat.zero_le _,rfl,rfl,Below.refl _ _⟩
  case round =>
   obtain ⟨q,hqN,rfl,rfl,hbr⟩:=hrel;have k6:=below_next k4 hbr;by_cases hlt:q < n1
   ·have i4:(q:Int) < (n1:Int):=(by omega);obtain ⟨b,off,eA,hbB,q0,q1,hI⟩:=(HKs.out wr k6).at_ hlt;obtain ⟨hl1,hl2,hl3,hl4⟩:=brief_len (HBf.out q hlt);have hl1:(brAt xs q).mark.length≤3:=hl1;have hl2:(joinedL (brAt xs q).words).length≤39:=hl2;have hq:=HLn.out q;have hwn:(brAt xs q).words.length=(brAt xs q).n:=hI.1;have hl4:(brAt xs q).words.length≤3:=hl4;have HDg2:Hid (∀ V,Below wr.heap.size wr V→Calls Tryz.prog 20 #[.slice (brAt xs q).A (brAt xs q).n (brAt xs q).c] V fun e w'=>e = .returned (.string (mkStr (joinedL (brAt xs q).words)))∧V=w'):=uH (fun V hV=>joinedC _ _ _ (brAt xs q).words V (by omega) (fun l hl=>by have:=hl3 l hl;omega) (BrIn.keep hI hV));obtain ⟨x1,x2,x4,x5,c1',c2',c4',c5',e5⟩ : ∃ x1 x2 x4 x5:ByteArray,(∀ W',(Op.stringOp .add (mkStr (briefsT ((xs.take q).map Br.dat))) { data:=#[98,114,105,101,102,32] }).run Tryz.prog W' = .ok (.string x1) W')∧(∀ W',(Op.stringOp .add x1 (mkStr (brAt xs q).mark)).run Tryz.prog W' = .ok (.string x2) W')∧(∀ W',(Op.stringOp .add x2 (mkStr (joinedL (brAt xs q).words))).run Tryz.prog W' = .ok (.string x4) W')∧(∀ W',(Op.stringOp .add x4 { data:=#[10] }).run Tryz.prog W' = .ok (.string x5) W')∧x5=mkStr (briefsT ((xs.take (q+1)).map Br.dat)) :=
     ⟨_,_,_,_,fun W'=>run_add _ [98,114,105,101,102,32] (by simp only [List.length_cons,List.length_nil];omega) W',fun W'=>run_add _ _ (by simp only [List.length_append,List.length_cons,List.length_nil];omega) W',fun W'=>run_add _ _ (by simp only [List.length_append,List.length_cons,List.length_nil];omega) W',fun W'=>run_add _ [10] (by simp only [List.length_append,List.length_cons,List.length_nil];omega) W',by rw [HNx.out q hlt]⟩
    have HE5:=uH e5;subst eA;clear e5 hI hl1 hl2 hl3 hl4 hq hwn;generalize mkStr (joinedL (brAt xs q).words)=xd at *;generalize mkStr (briefsT ((xs.take q).map Br.dat))=x0 at *;generalize mkStr (brAt xs q).mark=pl at *;generalize (brAt xs q).A=Ab at *;generalize (brAt xs q).n=nb at *;generalize (brAt xs q).c=cb at *;(go_wp2_with fail);go_region_held3 (fun w'=>w'.cell? ⟨b,off+q * 2,none⟩=some (.string pl)∧w'.cell? ⟨b,off+q * 2+1,none⟩=some (.slice Ab nb cb)) (first | exact ⟨by assumption,by assumption⟩ | go_keep) (first
     | (go_at_call 20;refine (HDg2.out _ ((Below.refl _ _).drew)).mono ?_;rintro e w7 ⟨rfl,rfl⟩))
    have b7:Below w4.heap.size w4 wr.drew:=hbr.drew;go_wp2;go_roundw
    case rel=>exact ⟨q+1,by omega,by go_num,by rw [HE5.out],b7⟩
    case measure=>simp [intOf];omega
   ·obtain rfl:n1=q:=(by omega);have i4 : ¬ (n1:Int) < (n1:Int):=(by omega);have b6:=below_next b4 hbr;have HF:Hid (xs.take n1=xs):=uH (List.take_of_length_le (by rw [HLx.out];exact Nat.le_refl _));rw [HF.out];generalize mkStr (briefsT (xs.map Br.dat))=x0 at *;have j6:=hbr;clear hbr HNx HLn HBf HKs;(go_wp2_with fail);refine (HJ.out wr k6).mono ?_;rintro e w5 ⟨rfl,rfl⟩;(go_wp2_with fail);refine (HX.out wr b6).mono ?_;rintro e w5 ⟨rfl,hb5⟩;have b5:=below_next b6 hb5;have j5:=below_next j6 hb5;have k5:=below_next k6 hb5;clear hb5 HJ;(go_wp2_with fail);refine (HOl.out w5).mono ?_;rintro e w6 ⟨rfl,rfl⟩;(go_wp2_with fail);refine (HJ4.out w5 j5).mono ?_;rintro e w6 ⟨rfl,rfl⟩;(go_wp2_with fail);refine (HTl.out w5).mono ?_;rintro e w6 ⟨rfl,rfl⟩;(go_wp2_with fail);refine (HLe.out w5 k5).mono ?_;rintro e w7 ⟨rfl,hb7⟩;have b7:=below_next b5 hb7;(go_wp2_with fail);refine (HDg.out w7).mono ?_;rintro e w8 ⟨rfl,hb8⟩;have b8:=below_next b7 hb8;(go_wp2_with fail);refine (HEl.out w8).mono ?_;rintro e w9 ⟨rfl,hb9⟩;have b9:=below_next b8 hb9;go_wp2;go_returns;exact ⟨rfl,b9⟩
set_option maxRecDepth 100000 in
theorem witness_row (os:Os) {H:Type} (enc:TypeId × Value→H) :
  (OpenSpec.ofChange Rows.fnExecuteCopySpec).preRow enc Tryz.prog Tryz.f6 Rows.fnExecuteCopyRow.domain false Rows.fnExecuteCopyRow.laid ((laidWorld os).forCall (fun _ _=>0) ⟨#[],#[.slice none 0 0],[]⟩).memory #[.slice none 0 0]:=by
 have hw:(DataW.whole enc Tryz.prog ((laidWorld os).forCall (fun _ _=>0) ⟨#[],#[.slice none 0 0],[]⟩).memory Tryz.f6.params.toList (OpenSpec.ofChange Rows.fnExecuteCopySpec).vars false #[.slice none 0 0].toList 8).map (fun x=>(x.1,x.2.1)) =
   some ([.nil],[]):=by kernel_rfl
 obtain ⟨⟨x1,x2,x3⟩,hx,hx1⟩:=Option.map_eq_some_iff.1 hw;simp only [Prod.mk.injEq] at hx1;obtain ⟨rfl,rfl⟩:=hx1;exact OpenSpec.preRow_of_cond 8 hx (by kernel_rfl) (fun k hk=>by cases hk) (by kernel_rfl) (laid_met os _)
set_option maxRecDepth 100000 in
theorem lifted (os:Os) (started:os.Started) (H:Type) (enc:TypeId × Value→H) (F0:Stop.Interp) :
  ReturnsInHanded {} Tryz.checked os 6 .any ((OpenSpec.ofChange Rows.fnExecuteCopySpec).preRow enc Tryz.prog Tryz.f6 Rows.fnExecuteCopyRow.domain false Rows.fnExecuteCopyRow.laid) (((OpenSpec.ofChange Rows.fnExecuteCopySpec).at F0).post enc Tryz.prog Tryz.f6 false true false false):=by
 refine returnsInHanded_of_row (C:=Tryz.checked) (s:=OpenSpec.ofChange Rows.fnExecuteCopySpec) own started (by kernel_rfl) Tryz.func6
  (witness_row_atRef (enc:=enc) (C:=Tryz.checked) false (laidWorld os) #[.slice none 0 0] rfl (by kernel_rfl) (by kernel_rfl) (by kernel_rfl) (witness_row os enc)) ?_
 intro W base args ds gs before hval0 hW _ _ _ hL _ _;have HLd:laidMet Tryz.prog laidL W:=hL;have hval : ∀ (j:Nat) t v,Tryz.f6.params[j]? = some t→args[j]? = some v→Value.okWide Tryz.prog W .any base t v:=hval0;have hW':=hW;obtain ⟨p,q,hA0,hV,rfl,hfz,hnd⟩:=hW;have hA:DataW.TrodAll enc Tryz.prog W 0 (fun _=>true) true Tryz.f6.params.toList args.toList ds p:=hA0;rw [Tryz.params6] at hA hval;obtain ⟨v0,vs0,d0,ds0,p0,q0,hargs,rfl,rfl,h0,r0⟩:=trodAll_cons hA;obtain ⟨rfl,rfl,rfl⟩:=trodAll_nil r0;obtain rfl:args=#[v0]:=(by cases args;simp_all);obtain ⟨rfl,rfl⟩:=trodVars_none hV;have k0:=h0;have lt0 : ∀ x∈p0,x.block < W.heap.size:=(by obtain ⟨m,hm⟩:=k0;exact DataW.trod_lt m _ _ _ hm);obtain ⟨A_0,n_0,c_0,bs_0,rfl,R_0⟩:=openBytes (hval 0 22 v0 rfl rfl) h0;clear hA0 hval0;refine (walk A_0 n_0 c_0 bs_0 W R_0 HLd).mono fun e W' ⟨he,bel⟩=>?_;subst he;exact ⟨_,rfl,_,_,_,[],_,[],hW',trodAll_mk1 (shut_bool Tryz.underlying4 _),(trodAll_cons_mk (Below.trod laidOut (by kernel_rfl) (of_decide_eq_true (by kernel_rfl)) k0 bel lt0) trodAll_mk0),rfl,bel.frame _,fun h=>by cases h⟩
set_option maxHeartbeats 16000000 in
set_option maxRecDepth 100000 in
theorem closed:joinedFacts Tryz.prog 6 Tryz.f6 (OpenSpec.ofChange Rows.fnExecuteCopySpec).bare Rows.fnExecuteCopyRow=true:=by
 unfold joinedFacts;simp only [Bool.and_eq_true]
 repeat' apply And.intro
 all_goals (as_aux_lemma=>kernel_rfl)
theorem over:Rows.fnExecuteCopyRow.holds Tryz.pinned (OpenSpec.ofChange Rows.fnExecuteCopySpec) :=
 OpenClaim.holds_of_cond 6 Tryz.f6 rfl rfl rfl rfl rfl rfl rfl ⟨rfl,rfl,rfl,rfl,rfl⟩ rfl rfl rfl rfl rfl (by kernel_rfl) Tryz.func6 closed
  (of_decide_eq_true (by kernel_rfl)) (by unfold Func.isWrapper;first | (rw [if_pos (by decide +kernel)];kernel_rfl) | (rw [if_neg (by decide +kernel)];exact ⟨rfl,rfl⟩))
  (fun os started H enc _ F0=>by rw [OpenClaim.pre_eq_preRow];exact lifted os started H enc F0)
theorem proved:Rows.FnExecuteCopyCardSaid :=
 Claim7.holds_tied_plain_at .later [] Rows.fnExecuteCopyCard.laidKinds true Rows.fnExecuteCopyCard.stood.harness Rows.fnExecuteCopyCard.stood.looks
  over (fun _ h=>by cases h) (by kernel_rfl) (fun _ h=>by cases h) fnExecuteCopy_row_tie rfl ⟨rfl,rfl⟩ (by kernel_rfl) rfl
  (fun f fn hf hfn=>by
   obtain rfl : f = 6 := Option.some.inj ((show Tryz.prog.funcNamed "loop.example/shorthand/laws.FnExecuteCopy" = some 6 by kernel_rfl).symm.trans hf) |>.symm; obtain rfl : fn = Tryz.f6 := (Option.some.inj (Tryz.func6.symm.trans hfn)).symm; exact ⟨by kernel_rfl, fun j t ht => by
    rw [Tryz.params6] at ht;have h3:t=22:=by
     rcases j with _ | j
     ·simpa using ht.symm
     ·simp at ht
    subst h3;exact (show Tryz.prog.wantsStandIn 22=false by kernel_rfl)⟩)
  (by kernel_rfl)
end Go.Proofs.YtbkhnljaajajiaaGreatDoor.fnExecuteCopy
