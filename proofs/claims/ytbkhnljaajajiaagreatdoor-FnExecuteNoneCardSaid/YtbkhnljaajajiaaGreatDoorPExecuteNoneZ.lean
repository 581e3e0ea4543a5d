/-
  The law FnExecuteNone returns true for every input, and what was in memory before the call reads as before: the frame round its walk.
  Conditions: none.
-/
import Derived.Test.YtbkhnljaajajiaaGreatDoorPExecuteNone00
import Derived.Test.YtbkhnljaajajiaaGreatDoorPX37
import Derived.Test.YtbkhnljaajajiaaGreatDoorPY11
import Derived.Test.YtbkhnljaajajiaaGreatDoorTie
import Derived.Test.YtbkhnljaajajiaaGreatDoorCards
import Derived.JoinedCond
import Derived.SevenTiedAt
set_option maxRecDepth 100000
set_option linter.unusedSimpArgs false
set_option linter.unusedVariables false
set_option linter.unnecessarySimpa false
namespace Go.Proofs.YtbkhnljaajajiaaGreatDoor.fnExecuteNone
open Go.ChangeShapes Go.WideShapes Go.ChangeAt Go.RowKit
theorem walk (A:Option Addr) (n c:Nat) (bs:List Int) (W:World) (hb:BytesIn W W.heap.size A n c bs) (HLd:laidMet Tryz.prog laidL W) :
  Calls Tryz.prog 3 #[.slice A n c] W fun e w'=>e = .returned (.bool true)∧Below W.heap.size W w':=by
 have HT:=uH (tabOf HLd);have hm:=hb.2.2.1;have hnc:=hb.2.1;unfold maxLen at hm;clear HLd;by_cases hn:1048576 < n
 ·clear hb;go_enter Tryz.func3,Tryz.ntmps3
  go_wp2;go_returns;exact ⟨rfl,by go_grown⟩
 have HD:=uH (drawExecute A n c bs W hb);clear hb;go_enter Tryz.func3,Tryz.ntmps3
 (go_wp2_with fail);refine HD.out.mono ?_;rintro e w1 ⟨⟨l,hl,rfl⟩,b1⟩;have HI:Hid (∀ x:List UInt8,x.length≤300000→∀ V,Below W.heap.size W V→Calls Tryz.prog 12 #[.string (mkStr x)] V fun e w'=>e = .returned (.string (mkStr (exec x)))∧Below V.heap.size V w'):=uH (fun x hx V hV=>by
  have:=implExecute (mkStr x) V (by rw [mkStr_size];omega) (HT.out.keep hV)
  rwa [mkStr_data] at this)
 have HI1:=uH (HI.out l (by omega) w1 b1);have HS:=uH (fun V=>specExecute (mkStr l) V (by rw [mkStr_size];omega));rw [mkStr_data] at HS;clear HD;by_cases h5:500 < l.length
 ·obtain ⟨q0,p0⟩:=eqT (l:=exec l) (c:=[116,111,111,32,108,111,110,103,10]) (exec_no h5);have hz:(mkStr l).size=l.length:=mkStr_size l;have i1:(500:Int) < ((mkStr l).size:Int):=(by omega);generalize mkStr l=s at *;generalize mkStr (exec l)=x at *;have hne:(x.toList != x.toList)=false:=(by simp);have heq:(x.toList == x.toList)=true:=(by simp);clear hz h5;(go_wp2_with fail);refine HI1.out.mono ?_;rintro e w2 ⟨rfl,hb2⟩;have b2:=below_next b1 hb2;clear HI1 hb2;(go_wp2_with fail);refine (HS.out w2).mono ?_;rintro e w3 ⟨rfl,hb3⟩;have b3:=below_next b2 hb3;clear HS hb3;go_wp2;go_returns;exact ⟨rfl,b3⟩
 ·have hx:=exec_ne l (by omega);have he:=mkStr_isEmpty hx;have HC:=uH (fun V=>complete (mkStr l) V (by rw [mkStr_size];omega));rw [mkStr_data] at HC;have HI2:Hid (∀ V,Below W.heap.size W V→Calls Tryz.prog 12 #[.string { data:=#[] }] V fun e w'=>e = .returned (.string (mkStr (exec [])))∧Below V.heap.size V w'):=uH (fun V hV=>HI.out [] (by simp) V hV);have HI3:Hid (∀ V,Below W.heap.size W V→Calls Tryz.prog 12 #[.string (mkStr (complL l))] V fun e w'=>e = .returned (.string (mkStr (exec l)))∧Below V.heap.size V w'):=uH (fun V hV=>by
   have:=HI.out (complL l) (by have:=complL_len l;omega) V hV
   rwa [exec_compl (by omega)] at this)
  obtain ⟨q0,p0⟩:=eqT (l:=exec []) (c:=[119,111,114,100,115,32,48,32,112,97,100,115,32,48,10]) exec_nil;have hz:(mkStr l).size=l.length:=mkStr_size l;have i1 : ¬ (500:Int) < ((mkStr l).size:Int):=(by omega);generalize mkStr (exec [])=x0 at *;generalize mkStr (complL l)=s2 at *;generalize mkStr l=s at *;generalize mkStr (exec l)=x at *;have hne:(x.toList != x.toList)=false:=(by simp);have heq:(x.toList == x.toList)=true:=(by simp);clear hz h5 hx HI;(go_wp2_with fail);refine HI1.out.mono ?_;rintro e w2 ⟨rfl,hb2⟩;have b2:=below_next b1 hb2;clear HI1 hb2;(go_wp2_with fail);refine (HS.out w2).mono ?_;rintro e w3 ⟨rfl,hb3⟩;have b3:=below_next b2 hb3;clear HS hb3;(go_wp2_with fail);refine (HI2.out w3 b3).mono ?_;rintro e w4 ⟨rfl,hb4⟩;have b4:=below_next b3 hb4;clear HI2 hb4;(go_wp2_with fail);refine (HC.out w4).mono ?_;rintro e w5 ⟨rfl,rfl⟩;clear HC;(go_wp2_with fail);refine (HI3.out _ b4).mono ?_;rintro e w5 ⟨rfl,hb5⟩;have b5:=below_next b4 hb5;clear HI3 hb5;go_wp2;go_returns;exact ⟨rfl,b5⟩
set_option maxRecDepth 100000 in
theorem witness_row (os:Os) {H:Type} (enc:TypeId × Value→H) :
  (OpenSpec.ofChange Rows.fnExecuteNoneSpec).preRow enc Tryz.prog Tryz.f3 Rows.fnExecuteNoneRow.domain false Rows.fnExecuteNoneRow.laid ((laidWorld os).forCall (fun _ _=>0) ⟨#[],#[.slice none 0 0],[]⟩).memory #[.slice none 0 0]:=by
 have hw:(DataW.whole enc Tryz.prog ((laidWorld os).forCall (fun _ _=>0) ⟨#[],#[.slice none 0 0],[]⟩).memory Tryz.f3.params.toList (OpenSpec.ofChange Rows.fnExecuteNoneSpec).vars false #[.slice none 0 0].toList 8).map (fun x=>(x.1,x.2.1)) =
   some ([.nil],[]):=by kernel_rfl
 obtain ⟨⟨x1,x2,x3⟩,hx,hx1⟩:=Option.map_eq_some_iff.1 hw;simp only [Prod.mk.injEq] at hx1;obtain ⟨rfl,rfl⟩:=hx1;exact OpenSpec.preRow_of_cond 8 hx (by kernel_rfl) (fun k hk=>by cases hk) (by kernel_rfl) (laid_met os _)
set_option maxRecDepth 100000 in
theorem lifted (os:Os) (started:os.Started) (H:Type) (enc:TypeId × Value→H) (F0:Stop.Interp) :
  ReturnsInHanded {} Tryz.checked os 3 .any ((OpenSpec.ofChange Rows.fnExecuteNoneSpec).preRow enc Tryz.prog Tryz.f3 Rows.fnExecuteNoneRow.domain false Rows.fnExecuteNoneRow.laid) (((OpenSpec.ofChange Rows.fnExecuteNoneSpec).at F0).post enc Tryz.prog Tryz.f3 false true false false):=by
 refine returnsInHanded_of_row (C:=Tryz.checked) (s:=OpenSpec.ofChange Rows.fnExecuteNoneSpec) own started (by kernel_rfl) Tryz.func3
  (witness_row_atRef (enc:=enc) (C:=Tryz.checked) false (laidWorld os) #[.slice none 0 0] rfl (by kernel_rfl) (by kernel_rfl) (by kernel_rfl) (witness_row os enc)) ?_
 intro W base args ds gs before hval0 hW _ _ _ hL _ _;have HLd:laidMet Tryz.prog laidL W:=hL;have hval : ∀ (j:Nat) t v,Tryz.f3.params[j]? = some t→args[j]? = some v→Value.okWide Tryz.prog W .any base t v:=hval0;have hW':=hW;obtain ⟨p,q,hA0,hV,rfl,hfz,hnd⟩:=hW;have hA:DataW.TrodAll enc Tryz.prog W 0 (fun _=>true) true Tryz.f3.params.toList args.toList ds p:=hA0;rw [Tryz.params3] at hA hval;obtain ⟨v0,vs0,d0,ds0,p0,q0,hargs,rfl,rfl,h0,r0⟩:=trodAll_cons hA;obtain ⟨rfl,rfl,rfl⟩:=trodAll_nil r0;obtain rfl:args=#[v0]:=(by cases args;simp_all);obtain ⟨rfl,rfl⟩:=trodVars_none hV;have k0:=h0;have lt0 : ∀ x∈p0,x.block < W.heap.size:=(by obtain ⟨m,hm⟩:=k0;exact DataW.trod_lt m _ _ _ hm);obtain ⟨A_0,n_0,c_0,bs_0,rfl,R_0⟩:=openBytes (hval 0 22 v0 rfl rfl) h0;clear hA0 hval0;refine (walk A_0 n_0 c_0 bs_0 W R_0 HLd).mono fun e W' ⟨he,bel⟩=>?_;subst he;exact ⟨_,rfl,_,_,_,[],_,[],hW',trodAll_mk1 (shut_bool Tryz.underlying4 _),(trodAll_cons_mk (Below.trod laidOut (by kernel_rfl) (of_decide_eq_true (by kernel_rfl)) k0 bel lt0) trodAll_mk0),rfl,bel.frame _,fun h=>by cases h⟩
set_option maxHeartbeats 16000000 in
set_option maxRecDepth 100000 in
theorem closed:joinedFacts Tryz.prog 3 Tryz.f3 (OpenSpec.ofChange Rows.fnExecuteNoneSpec).bare Rows.fnExecuteNoneRow=true:=by
 unfold joinedFacts;simp only [Bool.and_eq_true]
 repeat' apply And.intro
 all_goals (as_aux_lemma=>kernel_rfl)
theorem over:Rows.fnExecuteNoneRow.holds Tryz.pinned (OpenSpec.ofChange Rows.fnExecuteNoneSpec) :=
 OpenClaim.holds_of_cond 3 Tryz.f3 rfl rfl rfl rfl rfl rfl rfl ⟨rfl,rfl,rfl,rfl,rfl⟩ rfl rfl rfl rfl rfl (by kernel_rfl) Tryz.func3 closed
  (of_decide_eq_true (by kernel_rfl)) (by unfold Func.isWrapper;first | (rw [if_pos (by decide +kernel)];kernel_rfl) | (rw [if_neg (by decide +kernel)];exact ⟨rfl,rfl⟩))
  (fun os started H enc _ F0=>by rw [OpenClaim.pre_eq_preRow];exact lifted os started H enc F0)
theorem proved:Rows.FnExecuteNoneCardSaid :=
 Claim7.holds_tied_plain_at .later [] Rows.fnExecuteNoneCard.laidKinds true Rows.fnExecuteNoneCard.stood.harness Rows.fnExecuteNoneCard.stood.looks
  over (fun _ h=>by cases h) (by kernel_rfl) (fun _ h=>by cases h) fnExecuteNone_row_tie rfl ⟨rfl,rfl⟩ (by kernel_rfl) rfl
  (fun f fn hf hfn=>by
   obtain rfl : f = 3 := Option.some.inj ((show Tryz.prog.funcNamed "loop.example/shorthand/laws.FnExecuteNone" = some 3 by kernel_rfl).symm.trans hf) |>.symm; obtain rfl : fn = Tryz.f3 := (Option.some.inj (Tryz.func3.symm.trans hfn)).symm; exact ⟨by kernel_rfl, fun j t ht => by
    rw [Tryz.params3] at ht;have h3:t=22:=by
     rcases j with _ | j
     ·simpa using ht.symm
     ·simp at ht
    subst h3;exact (show Tryz.prog.wantsStandIn 22=false by kernel_rfl)⟩)
  (by kernel_rfl)
end Go.Proofs.YtbkhnljaajajiaaGreatDoor.fnExecuteNone
