/-
  The law FnExecuteWrite returns true for every input, and what was in memory before the call reads as before: the frame round its walk.
  Conditions: none.
-/
import Derived.Test.YtbkhnljaajajiaaGreatDoorPExecuteWrite09
import Derived.Test.YtbkhnljaajajiaaGreatDoorPExecuteWrite10
import Derived.Test.YtbkhnljaajajiaaGreatDoorPX33
import Derived.Test.YtbkhnljaajajiaaGreatDoorPX37
import Derived.Test.YtbkhnljaajajiaaGreatDoorTie
import Derived.Test.YtbkhnljaajajiaaGreatDoorCards
import Derived.JoinedCond
import Derived.SevenTiedAt
set_option maxRecDepth 100000
set_option linter.unusedSimpArgs false
set_option linter.unusedVariables false
set_option linter.unnecessarySimpa false
namespace Go.Proofs.YtbkhnljaajajiaaGreatDoor.fnExecuteWrite
open Go.ChangeShapes Go.WideShapes Go.ChangeAt Go.RowKit
set_option maxRecDepth 100000 in
set_option maxHeartbeats 6400000 in
theorem walk (A:Option Addr) (n c:Nat) (bs:List Int) (W:World) (hb:BytesIn W W.heap.size A n c bs) (HLd:laidMet Tryz.prog laidL W) :
  Calls Tryz.prog 9 #[.slice A n c] W fun e w'=>e = .returned (.bool true)∧Below W.heap.size W w':=by
 have HT:=uH (tabOf HLd);have hm:=hb.2.2.1;have hnc:=hb.2.1;unfold maxLen at hm;clear HLd;by_cases hn:1048576 < n
 ·clear hb;go_enter Tryz.func9,Tryz.ntmps9
  go_wp2;go_returns;exact ⟨rfl,by go_grown⟩
 have HD:=uH (drawLineOf A n c bs W hb);clear hb;go_enter Tryz.func9,Tryz.ntmps9
 (go_wp2_with fail);refine HD.out.mono ?_;rintro e w1 ⟨⟨A1,n1,c1,xs,A2,n2,c2,ws,rfl,hn6,hS,hDc,hwl⟩,b1⟩;have hsh : ∀ l∈ws,l.length≤maxLen:=(fun l hl=>by have:=hwl l hl;unfold maxLen;omega);have hncD:=hDc.2.1;have hcmD:=hDc.2.2.1;unfold maxLen at hcmD;have hncS:=hS.2.1;have hcmS:=hS.2.2.1;unfold maxLen at hcmS;have HLx:=uH hS.1;have HLw:=uH hDc.1;have HKs:Hid (∀ V,Below w1.heap.size w1 V→SgsIn V V.heap.size A1 n1 c1 xs):=uH (fun V hV=>hS.keep hV);have HKw:Hid (∀ V,Below w1.heap.size w1 V→WdsIn V V.heap.size A2 n2 c2 ws):=uH (fun V hV=>hDc.keep hV);have HI1:=uH (implLineOf A1 n1 c1 xs A2 n2 c2 ws w1 hsh hS hDc);have HSp:=uH (fun V (hV:Below w1.heap.size w1 V)=>specLineOf A1 n1 c1 xs A2 n2 c2 ws V hsh (by omega) (hS.keep hV) (hDc.keep hV));have HWl:=uH hwl;clear hS hDc hwl hsh HD;cases hLO:lineOf xs ws with
 | none =>
  have HS1:=uH HSp.out;rw [hLO] at HI1;rw [hLO] at HS1;clear hLO HSp HKs HKw;(go_wp2_with fail);refine HI1.out.mono ?_;rintro e w2 ⟨hA,hb2⟩;rcases hA with ⟨_,A3,c3,rfl,hR3⟩ | ⟨A3,c3,ys,h,_⟩
  rotate_left
  ·cases h
  have HR3:=uH hR3;have HS2:=uH (HS1.out w2 hb2);have b2:=below_next b1 hb2;clear hR3 hb2 HI1 HS1;(go_wp2_with fail);refine HS2.out.mono ?_;rintro e w3 ⟨hA,hb3⟩;rcases hA with ⟨_,A4,c4,rfl,hR4⟩ | ⟨A4,c4,ys,h,_⟩
  rotate_left
  ·cases h
  have HSm:=uH (fun V (hV:Below w3.heap.size w3 V)=>sameLine A3 A4 0 c3 c4 [] [] V ((HR3.out.keep hb3).keep hV) (hR4.keep hV) rfl);have b3:=below_next b2 hb3;clear hR4 hb3 HS2;(go_wp2_with fail);refine (HSm.out w3 (Below.refl _ _)).mono ?_;rintro e w4 ⟨rfl,hb4⟩;have b4:=below_next b3 hb4;have HSm2:=uH (HSm.out w4 hb4);clear hb4 HSm;(go_wp2_with fail);refine HSm2.out.mono ?_;rintro e w5 ⟨rfl,hb5⟩;have b5:=below_next b4 hb5;go_wp2;go_returns;exact ⟨rfl,b5⟩
 | some L =>
  have HS1:=uH HSp.out;rw [hLO] at HI1;rw [hLO] at HS1;obtain ⟨hxe,h21,hjl⟩:=exec_writeT hLO (by rw [HLw.out];exact hn6);have hlL:L.length=n2:=(by rw [lineOf_count hLO,HLw.out]);have hok : ∀ x∈xs,okSg x=true:=fun x hx=>sys_mem (line_parts hLO).1 hx;have HOk:=uH hok;have hsl:=signsT_len hok;have hel:=exec_len (signsT xs++[115,112,101,101,99,104]++joinedL ws++[10,119,114,105,116,101,10]);rw [hxe,List.length_append,List.length_append,List.length_append] at hel;rw [HLx.out] at hsl h21;rw [HLx.out,HLw.out] at hel hxe;have HX:Hid (∀ V,Below W.heap.size W V→Calls Tryz.prog 12 #[.string (mkStr (signsT xs++[115,112,101,101,99,104]++joinedL ws++[10,119,114,105,116,101,10]))] V fun e w'=>e = .returned (.string (mkStr (okN (n1+1)++lineText L++[10]++endN n2 0)))∧Below V.heap.size V w'):=uH (fun V hV=>by
   have:=implExecute (mkStr (signsT xs++[115,112,101,101,99,104]++joinedL ws++[10,119,114,105,116,101,10])) V (by rw [mkStr_size];simp only [List.length_append,List.length_cons,List.length_nil];omega) (HT.out.keep hV)
   rwa [mkStr_data,hxe] at this)
  have HNx:Hid (∀ k,k < n1→signsT (xs.take (k+1))=signsT (xs.take k)++[115,105,103,110,32]++(sgAt xs k).l++[32]++sText (sgAt xs k).st++[10]):=uH (fun k hk=>signsT_next (by rw [HLx.out];exact hk));have HLn:Hid (∀ k,(signsT (xs.take k)).length≤210):=uH (fun k=>by
   have h1:=signsT_len (xs:=xs.take k) (fun p hp=>HOk.out p (List.mem_of_mem_take hp));have h2:(xs.take k).length≤21:=(by rw [List.length_take,HLx.out];omega);omega)
  obtain ⟨xg,xh,xs1,g1,g2,g3,ex⟩ : ∃ xg xh xs1:ByteArray,(∀ W',(Op.stringOp .add (mkStr (signsT xs)) { data:=#[115,112,101,101,99,104] }).run Tryz.prog W' = .ok (.string xg) W')∧(∀ W',(Op.stringOp .add xg (mkStr (joinedL ws))).run Tryz.prog W' = .ok (.string xh) W')∧(∀ W',(Op.stringOp .add xh { data:=#[10,119,114,105,116,101,10] }).run Tryz.prog W' = .ok (.string xs1) W')∧mkStr (signsT xs++[115,112,101,101,99,104]++joinedL ws++[10,119,114,105,116,101,10])=xs1 :=
   ⟨_,_,_,fun W'=>run_add _ [115,112,101,101,99,104] (by simp only [List.length_cons,List.length_nil];omega) W',fun W'=>run_add _ _ (by simp only [List.length_append,List.length_cons,List.length_nil];omega) W',fun W'=>run_add _ [10,119,114,105,116,101,10] (by simp only [List.length_append,List.length_cons,List.length_nil];omega) W',rfl⟩
  obtain ⟨xf,xk,xe,a1,a2,a3,ee⟩ : ∃ xf xk xe:ByteArray,(∀ W',(Op.stringOp .add (mkStr (okN (n1+1))) (mkStr (lineText L))).run Tryz.prog W' = .ok (.string xf) W')∧(∀ W',(Op.stringOp .add xf { data:=#[10] }).run Tryz.prog W' = .ok (.string xk) W')∧(∀ W',(Op.stringOp .add xk (mkStr (endN n2 0))).run Tryz.prog W' = .ok (.string xe) W')∧mkStr (okN (n1+1)++lineText L++[10]++endN n2 0)=xe :=
   ⟨_,_,_,fun W'=>run_add _ _ (by omega) W',fun W'=>run_add _ [10] (by simp only [List.length_append,List.length_cons,List.length_nil];omega) W',fun W'=>run_add _ _ (by simp only [List.length_append,List.length_cons,List.length_nil] at hel ⊢;omega) W',rfl⟩
  rw [ex,ee] at HX;have HOl:Hid (∀ V,Calls Tryz.prog 21 #[.int .i64 ((n1:Int)+1)] V fun e w'=>e = .returned (.string (mkStr (okN (n1+1))))∧V=w'):=uH (fun V=>by
   have:=okLines (n1+1) V (by omega)
   rwa [show ((n1+1:Nat):Int)=(n1:Int)+1 by omega] at this)
  have jw:IntKind.i64.wrap ((n1:Int)+1)=(n1:Int)+1:=IntWalk.i64_in _ (by omega);have HEl:=uH (fun V=>endLine n2 0 V (by omega) (by omega));have HJ:=uH (fun V (hV:Below w1.heap.size w1 V)=>joinedC A2 n2 c2 ws V (by omega) HWl.out (HKw.out V hV));have HlL:=uH hlL;clear hLO HSp hlL hxe hjl hok hsl hel ex ee HKw HWl;generalize mkStr (joinedL ws)=xj at *;generalize mkStr (okN (n1+1))=xo at *;generalize mkStr (endN n2 0)=xl at *;have heq:(xe.toList == xe.toList)=true:=(by simp);(go_wp2_with fail);refine HI1.out.mono ?_;rintro e w2 ⟨hA,hb2⟩;rcases hA with ⟨h,_⟩ | ⟨A3,c3,ys,hL,rfl,hR3⟩
  ·cases h
  injection hL with hL;have hy:ys.length=n2:=(by rw [← HlL.out,hL,List.length_map]);rw [hy] at hR3 ⊢;have HR3:=uH hR3;have HS2:=uH (HS1.out w2 hb2);have b2:=below_next b1 hb2;have k2:=hb2;have HY:=uH hL;clear hR3 hb2 HI1 HS1 hL hy;(go_wp2_with fail);refine HS2.out.mono ?_;rintro e w3 ⟨hA,hb3⟩;rcases hA with ⟨h,_⟩ | ⟨A4,c4,zs,hL,rfl,hR4⟩
  ·cases h
  injection hL with hL;have hz:zs.length=n2:=(by rw [← HlL.out,hL,List.length_map]);rw [hz] at hR4 ⊢;have b3:=below_next b2 hb3;have k3:=below_next k2 hb3;have HR33:=uH (HR3.out.keep hb3);have HSm:=uH (sameLine A3 A4 n2 c3 c4 ys zs w3 HR33.out hR4 (by rw [← HY.out,hL]));clear hR4 hb3 HS2 hL hz k2 HR3;(go_wp2_with fail);refine HSm.out.mono ?_;rintro e w4 ⟨rfl,hb4⟩;have b4:=below_next b3 hb4;have k4:=below_next k3 hb4;have HLt:Hid (∀ V,Below w4.heap.size w4 V→Calls Tryz.prog 41 #[.slice A3 n2 c3] V fun e w'=>e = .returned (.string (mkStr (lineText L)))∧Below V.heap.size V w'):=uH (fun V hV=>by
   have:=implLineText A3 n2 c3 ys V ((HR33.out.keep hb4).keep hV)
   rwa [← HY.out] at this)
  clear hb4 HSm HR33 k3;generalize mkStr (lineText L)=xt at *;go_wp2;go_loopw [9,10] (fun x i wr=>∃ q:Nat,q≤n1∧i = .int .i64 q∧x = .string (mkStr (signsT (xs.take q)))∧Below w4.heap.size w4 wr) (fun _ i _=>n1 - (intOf i).toNat)
  case atStart=>exact ⟨0,Nat.zero_le _,rfl,rfl,Below.refl _ _⟩
  case round =>
   obtain ⟨q,hqN,rfl,rfl,hbr⟩:=hrel;have k6:=below_next k4 hbr;by_cases hlt:q < n1
   ·have i4:(q:Int) < (n1:Int):=(by omega);obtain ⟨b,off,eA,hbB,q0,q1,q2,hg⟩:=(HKs.out wr k6).at_ hlt;have hos:okSg (sgAt xs q)=true:=HOk.out _ (sgAt_mem (by rw [HLx.out];exact hlt));have hq:=HLn.out q;have hok2:okL (sgAt xs q).l=true∧okS (sgAt xs q).st=true:=(by unfold okSg at hos;rwa [Bool.and_eq_true] at hos);have hl1:=okL_len hok2.1;have hl2:=sText_len (sgAt xs q).st;have HDg:Hid (∀ V,Calls Tryz.prog 40 #[.agg #[.int .i64 (sgAt xs q).st.dir,.int .i64 (sgAt xs q).st.size]] V fun e w'=>e = .returned (.string (mkStr (sText (sgAt xs q).st)))∧Below V.heap.size V w'):=uH (fun V=>by
     have:=implStrokeText (sgAt xs q).st V
     rwa [if_pos hok2.2] at this)
    obtain ⟨x1,x2,x3,x4,x5,c1',c2',c3',c4',c5',e5⟩ : ∃ x1 x2 x3 x4 x5:ByteArray,(∀ W',(Op.stringOp .add (mkStr (signsT (xs.take q))) { data:=#[115,105,103,110,32] }).run Tryz.prog W' = .ok (.string x1) W')∧(∀ W',(Op.stringOp .add x1 (mkStr (sgAt xs q).l)).run Tryz.prog W' = .ok (.string x2) W')∧(∀ W',(Op.stringOp .add x2 { data:=#[32] }).run Tryz.prog W' = .ok (.string x3) W')∧(∀ W',(Op.stringOp .add x3 (mkStr (sText (sgAt xs q).st))).run Tryz.prog W' = .ok (.string x4) W')∧(∀ W',(Op.stringOp .add x4 { data:=#[10] }).run Tryz.prog W' = .ok (.string x5) W')∧x5=mkStr (signsT (xs.take (q+1))) :=
     ⟨_,_,_,_,_,fun W'=>run_add _ [115,105,103,110,32] (by simp only [List.length_cons,List.length_nil];omega) W',fun W'=>run_add _ _ (by simp only [List.length_append,List.length_cons,List.length_nil];omega) W',fun W'=>run_add _ [32] (by simp only [List.length_append,List.length_cons,List.length_nil];omega) W',fun W'=>run_add _ _ (by simp only [List.length_append,List.length_cons,List.length_nil];omega) W',fun W'=>run_add _ [10] (by simp only [List.length_append,List.length_cons,List.length_nil];omega) W',by rw [HNx.out q hlt]⟩
    have HE5:=uH e5;subst eA;clear e5 hg hos hok2 hl1 hl2 hq;generalize mkStr (sText (sgAt xs q).st)=xd at *;generalize mkStr (signsT (xs.take q))=x0 at *;generalize mkStr (sgAt xs q).l=pl at *;generalize (sgAt xs q).st=st at *;(go_wp2_with fail);go_region_held3 (fun w'=>w'.cell? ⟨b,off+q * 3,none⟩=some (.string pl)∧w'.cell? ⟨b,off+q * 3+1,none⟩=some (.int .i64 st.dir)∧w'.cell? ⟨b,off+q * 3+2,none⟩=some (.int .i64 st.size)) (first | exact ⟨by assumption,by assumption,by assumption⟩ | go_keep) (first
     | (go_at_call 40;refine (HDg.out _).mono ?_;rintro e w7 ⟨rfl,hb7⟩;have r0:=kcell hb7 (show World.cell? (World.drew _) _=_ from q0);have r1:=kcell hb7 (show World.cell? (World.drew _) _=_ from q1);have r2:=kcell hb7 (show World.cell? (World.drew _) _=_ from q2)))
    have b7:Below w4.heap.size w4 w7:=below_next hbr (((Below.refl _ _).drew).trans hb7);clear hb7;go_wp2;go_roundw
    case rel=>exact ⟨q+1,by omega,by go_num,by rw [HE5.out],b7⟩
    case measure=>simp [intOf];omega
   ·obtain rfl:n1=q:=(by omega);have i4 : ¬ (n1:Int) < (n1:Int):=(by omega);have b6:=below_next b4 hbr;have HF:Hid (xs.take n1=xs):=uH (List.take_of_length_le (by rw [HLx.out];exact Nat.le_refl _));rw [HF.out];generalize mkStr (signsT xs)=x0 at *;have j6:=hbr;clear hbr HNx HLn HOk;(go_wp2_with fail);refine (HJ.out wr k6).mono ?_;rintro e w5 ⟨rfl,rfl⟩;(go_wp2_with fail);refine (HX.out wr b6).mono ?_;rintro e w5 ⟨rfl,hb5⟩;have b5:=below_next b6 hb5;have j5:=below_next j6 hb5;clear hb5;(go_wp2_with fail);refine (HOl.out w5).mono ?_;rintro e w6 ⟨rfl,rfl⟩;(go_wp2_with fail);refine (HLt.out w5 j5).mono ?_;rintro e w7 ⟨rfl,hb7⟩;have b7:=below_next b5 hb7;(go_wp2_with fail);refine (HEl.out w7).mono ?_;rintro e w8 ⟨rfl,hb8⟩;have b8:=below_next b7 hb8;go_wp2;go_returns;exact ⟨rfl,b8⟩
set_option maxRecDepth 100000 in
theorem witness_row (os:Os) {H:Type} (enc:TypeId × Value→H) :
  (OpenSpec.ofChange Rows.fnExecuteWriteSpec).preRow enc Tryz.prog Tryz.f9 Rows.fnExecuteWriteRow.domain false Rows.fnExecuteWriteRow.laid ((laidWorld os).forCall (fun _ _=>0) ⟨#[],#[.slice none 0 0],[]⟩).memory #[.slice none 0 0]:=by
 have hw:(DataW.whole enc Tryz.prog ((laidWorld os).forCall (fun _ _=>0) ⟨#[],#[.slice none 0 0],[]⟩).memory Tryz.f9.params.toList (OpenSpec.ofChange Rows.fnExecuteWriteSpec).vars false #[.slice none 0 0].toList 8).map (fun x=>(x.1,x.2.1)) =
   some ([.nil],[]):=by kernel_rfl
 obtain ⟨⟨x1,x2,x3⟩,hx,hx1⟩:=Option.map_eq_some_iff.1 hw;simp only [Prod.mk.injEq] at hx1;obtain ⟨rfl,rfl⟩:=hx1;exact OpenSpec.preRow_of_cond 8 hx (by kernel_rfl) (fun k hk=>by cases hk) (by kernel_rfl) (laid_met os _)
set_option maxRecDepth 100000 in
theorem lifted (os:Os) (started:os.Started) (H:Type) (enc:TypeId × Value→H) (F0:Stop.Interp) :
  ReturnsInHanded {} Tryz.checked os 9 .any ((OpenSpec.ofChange Rows.fnExecuteWriteSpec).preRow enc Tryz.prog Tryz.f9 Rows.fnExecuteWriteRow.domain false Rows.fnExecuteWriteRow.laid) (((OpenSpec.ofChange Rows.fnExecuteWriteSpec).at F0).post enc Tryz.prog Tryz.f9 false true false false):=by
 refine returnsInHanded_of_row (C:=Tryz.checked) (s:=OpenSpec.ofChange Rows.fnExecuteWriteSpec) own started (by kernel_rfl) Tryz.func9
  (witness_row_atRef (enc:=enc) (C:=Tryz.checked) false (laidWorld os) #[.slice none 0 0] rfl (by kernel_rfl) (by kernel_rfl) (by kernel_rfl) (witness_row os enc)) ?_
 intro W base args ds gs before hval0 hW _ _ _ hL _ _;have HLd:laidMet Tryz.prog laidL W:=hL;have hval : ∀ (j:Nat) t v,Tryz.f9.params[j]? = some t→args[j]? = some v→Value.okWide Tryz.prog W .any base t v:=hval0;have hW':=hW;obtain ⟨p,q,hA0,hV,rfl,hfz,hnd⟩:=hW;have hA:DataW.TrodAll enc Tryz.prog W 0 (fun _=>true) true Tryz.f9.params.toList args.toList ds p:=hA0;rw [Tryz.params9] at hA hval;obtain ⟨v0,vs0,d0,ds0,p0,q0,hargs,rfl,rfl,h0,r0⟩:=trodAll_cons hA;obtain ⟨rfl,rfl,rfl⟩:=trodAll_nil r0;obtain rfl:args=#[v0]:=(by cases args;simp_all);obtain ⟨rfl,rfl⟩:=trodVars_none hV;have k0:=h0;have lt0 : ∀ x∈p0,x.block < W.heap.size:=(by obtain ⟨m,hm⟩:=k0;exact DataW.trod_lt m _ _ _ hm);obtain ⟨A_0,n_0,c_0,bs_0,rfl,R_0⟩:=openBytes (hval 0 22 v0 rfl rfl) h0;clear hA0 hval0;refine (walk A_0 n_0 c_0 bs_0 W R_0 HLd).mono fun e W' ⟨he,bel⟩=>?_;subst he;exact ⟨_,rfl,_,_,_,[],_,[],hW',trodAll_mk1 (shut_bool Tryz.underlying4 _),(trodAll_cons_mk (Below.trod laidOut (by kernel_rfl) (of_decide_eq_true (by kernel_rfl)) k0 bel lt0) trodAll_mk0),rfl,bel.frame _,fun h=>by cases h⟩
set_option maxHeartbeats 16000000 in
set_option maxRecDepth 100000 in
theorem closed:joinedFacts Tryz.prog 9 Tryz.f9 (OpenSpec.ofChange Rows.fnExecuteWriteSpec).bare Rows.fnExecuteWriteRow=true:=by
 unfold joinedFacts;simp only [Bool.and_eq_true]
 repeat' apply And.intro
 all_goals (as_aux_lemma=>kernel_rfl)
theorem over:Rows.fnExecuteWriteRow.holds Tryz.pinned (OpenSpec.ofChange Rows.fnExecuteWriteSpec) :=
 OpenClaim.holds_of_cond 9 Tryz.f9 rfl rfl rfl rfl rfl rfl rfl ⟨rfl,rfl,rfl,rfl,rfl⟩ rfl rfl rfl rfl rfl (by kernel_rfl) Tryz.func9 closed
  (of_decide_eq_true (by kernel_rfl)) (by unfold Func.isWrapper;first | (rw [if_pos (by decide +kernel)];kernel_rfl) | (rw [if_neg (by decide +kernel)];exact ⟨rfl,rfl⟩))
  (fun os started H enc _ F0=>by rw [OpenClaim.pre_eq_preRow];exact lifted os started H enc F0)
theorem proved:Rows.FnExecuteWriteCardSaid :=
 Claim7.holds_tied_plain_at .later [] Rows.fnExecuteWriteCard.laidKinds true Rows.fnExecuteWriteCard.stood.harness Rows.fnExecuteWriteCard.stood.looks
  over (fun _ h=>by cases h) (by kernel_rfl) (fun _ h=>by cases h) fnExecuteWrite_row_tie rfl ⟨rfl,rfl⟩ (by kernel_rfl) rfl
  (fun f fn hf hfn=>by
   obtain rfl : f = 9 := Option.some.inj ((show Tryz.prog.funcNamed "loop.example/shorthand/laws.FnExecuteWrite" = some 9 by kernel_rfl).symm.trans hf) |>.symm; obtain rfl : fn = Tryz.f9 := (Option.some.inj (Tryz.func9.symm.trans hfn)).symm; exact ⟨by kernel_rfl, fun j t ht => by
    rw [Tryz.params9] at ht;have h3:t=22:=by
     rcases j with _ | j
     ·simpa using ht.symm
     ·simp at ht
    subst h3;exact (show Tryz.prog.wantsStandIn 22=false by kernel_rfl)⟩)
  (by kernel_rfl)
end Go.Proofs.YtbkhnljaajajiaaGreatDoor.fnExecuteWrite
