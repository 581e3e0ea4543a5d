/-
  The law FnExecuteWhat returns true for every input, and what was in memory before the call reads as before: the frame round its walk.
  Conditions: none.
-/
import Derived.Test.YtbkhnljaajajiaaGreatDoorPExecuteWhat00
import Derived.Test.YtbkhnljaajajiaaGreatDoorPX37
import Derived.Test.YtbkhnljaajajiaaGreatDoorPY11
import Derived.Test.YtbkhnljaajajiaaGreatDoorTie
import Derived.Test.YtbkhnljaajajiaaGreatDoorCards
import Derived.JoinedCond
import Derived.SevenTiedAt
set_option maxRecDepth 100000
set_option linter.unusedSimpArgs false
set_option linter.unusedVariables false
set_option linter.unnecessarySimpa false
namespace Go.Proofs.YtbkhnljaajajiaaGreatDoor.fnExecuteWhat
open Go.ChangeShapes Go.WideShapes Go.ChangeAt Go.RowKit
set_option maxRecDepth 100000 in
set_option maxHeartbeats 6400000 in
theorem walk (A:Option Addr) (n c:Nat) (bs:List Int) (W:World) (hb:BytesIn W W.heap.size A n c bs) (HLd:laidMet Tryz.prog laidL W) :
  Calls Tryz.prog 5 #[.slice A n c] W fun e w'=>e = .returned (.bool true)∧Below W.heap.size W w':=by
 have HT:=uH (tabOf HLd);have hm:=hb.2.2.1;have hnc:=hb.2.1;unfold maxLen at hm;clear HLd;by_cases hn:1048576 < n
 ·clear hb;go_enter Tryz.func5,Tryz.ntmps5
  go_wp2;go_returns;exact ⟨rfl,by go_grown⟩
 have HD:=uH (drawExecute A n c bs W hb);clear hb;go_enter Tryz.func5,Tryz.ntmps5
 (go_wp2_with fail);refine HD.out.mono ?_;rintro e w1 ⟨⟨l,hl,rfl⟩,b1⟩;have HI:Hid (∀ x:List UInt8,x.length≤300000→∀ V,Below W.heap.size W V→Calls Tryz.prog 12 #[.string (mkStr x)] V fun e w'=>e = .returned (.string (mkStr (exec x)))∧Below V.heap.size V w'):=uH (fun x hx V hV=>by
  have:=implExecute (mkStr x) V (by rw [mkStr_size];omega) (HT.out.keep hV)
  rwa [mkStr_data] at this)
 have HI1:=uH (HI.out l (by omega) w1 b1);have HS:=uH (fun V=>specExecute (mkStr l) V (by rw [mkStr_size];omega));rw [mkStr_data] at HS;clear HD;have HC:=uH (fun V=>complete (mkStr l) V (by rw [mkStr_size];omega));rw [mkStr_data] at HC;have hcl:=complL_len l;have hcw:=complL_whole l;have hz2:(mkStr (complL l)).size=(complL l).length:=mkStr_size _;by_cases h5:484 < (complL l).length
 ·have i1:(484:Int) < ((mkStr (complL l)).size:Int):=(by omega);generalize mkStr (complL l)=s2 at *;generalize mkStr l=s at *;generalize mkStr (exec l)=x at *;have hne:(x.toList != x.toList)=false:=(by simp);clear hz2 h5 hcl hcw HI;(go_wp2_with fail);refine HI1.out.mono ?_;rintro e w2 ⟨rfl,hb2⟩;have b2:=below_next b1 hb2;clear HI1 hb2;(go_wp2_with fail);refine (HS.out w2).mono ?_;rintro e w3 ⟨rfl,hb3⟩;have b3:=below_next b2 hb3;clear HS hb3;(go_wp2_with fail);refine (HC.out w3).mono ?_;rintro e w4 ⟨rfl,rfl⟩;go_wp2;go_returns;exact ⟨rfl,b3⟩
 ·have i1 : ¬ (484:Int) < ((mkStr (complL l)).size:Int):=(by omega);have HI2:Hid (∀ V,Below W.heap.size W V→Calls Tryz.prog 12 #[.string (mkStr (complL l))] V fun e w'=>e = .returned (.string (mkStr (exec (complL l))))∧Below V.heap.size V w'):=uH (fun V hV=>HI.out (complL l) (by omega) V hV);have HI3:Hid (∀ V,Below W.heap.size W V→Calls Tryz.prog 12 #[.string (mkStr (complL l++(lZzz++10::(lFileX++[10]))))] V fun e w'=>e = .returned (.string (mkStr (exec (complL l++(lZzz++10::(lFileX++[10]))))))∧Below V.heap.size V w'):=uH (fun V hV=>HI.out _ (by rw [List.length_append];simp [lZzz,lFileX];omega) V hV);have a1 : ∀ W',(Op.stringOp .add (mkStr (complL l)) { data:=#[122,122,122,10,102,105,108,101,32,120,32,97,10] }).run Tryz.prog W' = .ok (.string (mkStr (complL l++(lZzz++10::(lFileX++[10]))))) W':=fun W'=>run_add _ (lZzz++10::(lFileX++[10])) (by simp [lZzz,lFileX];omega) W';have hw:=exec_what hcw (show (complL l).length≤484 by omega);have hel:=exec_len (complL l);have hll:=exec_lastlen (l:=complL l) (by omega);clear hz2 h5 hcl hcw HI;generalize complL l++(lZzz++10::(lFileX++[10]))=tz at *;generalize exec (complL l)=ea at *;generalize hlast:lastL ea=la at *;obtain ⟨nb,hnb⟩ : ∃ nb,ea.length=nb+la.length:=⟨ea.length - la.length,by omega⟩;have hbl:(ea.take nb).length=nb:=(by rw [List.length_take];omega);rw [show ea.length - la.length=nb by omega] at hw;have HX:Hid ((mkStr ea).extract 0 nb=mkStr (ea.take nb)):=uH (by rw [ext_mid (mkStr ea) 0 nb,mkStr_data,List.drop_zero]);have a2 : ∀ W',(Op.stringOp .add (mkStr (ea.take nb)) { data:=#[119,104,97,116,10,110,111,10] }).run Tryz.prog W' = .ok (.string (mkStr (ea.take nb++(sayWhat++sayNo)))) W':=fun W'=>run_add _ (sayWhat++sayNo) (by simp [sayWhat,sayNo];omega) W';have a3 : ∀ W',(Op.stringOp .add (mkStr (ea.take nb++(sayWhat++sayNo))) (mkStr la)).run Tryz.prog W' = .ok (.string (mkStr (exec tz))) W':=fun W'=>by
   rw [hw];exact run_add _ _ (by simp [sayWhat,sayNo];omega) W'
  have HLs:Hid (∀ V,Calls Tryz.prog 15 #[.string (mkStr ea)] V fun e w'=>e = .returned (.string (mkStr la))∧V=w'):=uH (fun V=>by
   have:=lastLine (mkStr ea) V (by rw [mkStr_size];omega) (by rw [mkStr_size];omega)
   rwa [mkStr_data,hlast] at this)
  have z1:((mkStr ea).size:Int)=(nb:Int)+((mkStr la).size:Int):=(by rw [mkStr_size,mkStr_size];omega);have z2:(mkStr ea).size≤1000000000000:=(by rw [mkStr_size];omega);have j1:IntKind.i64.wrap (((mkStr ea).size:Int) - ((mkStr la).size:Int))=(nb:Int):=(by rw [IntWalk.i64_in _ (by omega)];omega);have j2:(nb:Int)≤((mkStr ea).size:Int):=(by omega);have j3:(0:Int)≤(nb:Int):=(by omega);have hHX:=HX.out;clear hw hel hll hnb hbl hlast HX z1 z2;generalize mkStr (complL l)=s2 at *;generalize mkStr tz=s3 at *;generalize mkStr (exec tz)=xd at *;generalize mkStr l=s at *;generalize mkStr (exec l)=x at *;generalize mkStr (ea.take nb++(sayWhat++sayNo))=xc at *;generalize mkStr (ea.take nb)=xb at *;generalize mkStr la=z at *;generalize mkStr ea=xa at *;have hne:(x.toList != x.toList)=false:=(by simp);have heq:(xd.toList == xd.toList)=true:=(by simp);(go_wp2_with fail);refine HI1.out.mono ?_;rintro e w2 ⟨rfl,hb2⟩;have b2:=below_next b1 hb2;clear HI1 hb2;(go_wp2_with fail);refine (HS.out w2).mono ?_;rintro e w3 ⟨rfl,hb3⟩;have b3:=below_next b2 hb3;clear HS hb3;(go_wp2_with fail);refine (HC.out w3).mono ?_;rintro e w4 ⟨rfl,rfl⟩;(go_wp2_with fail);refine (HI2.out w3 b3).mono ?_;rintro e w4 ⟨rfl,hb4⟩;have b4:=below_next b3 hb4;clear HI2 hb4 HC;(go_wp2_with fail);go_region_held3 (fun _=>True) (trivial) (first
   | (go_at_call 12;refine (HI3.out _ (b4.trans ((Below.refl _ _).drew))).mono ?_;rintro e w5 ⟨rfl,hb5⟩)
   | (go_at_call 15;refine (HLs.out _).mono ?_;rintro e w6 ⟨rfl,rfl⟩))
  have b5:=below_next (b4.trans ((Below.refl _ _).drew)) hb5;go_wp2;go_returns;exact ⟨rfl,b5⟩
set_option maxRecDepth 100000 in
theorem witness_row (os:Os) {H:Type} (enc:TypeId × Value→H) :
  (OpenSpec.ofChange Rows.fnExecuteWhatSpec).preRow enc Tryz.prog Tryz.f5 Rows.fnExecuteWhatRow.domain false Rows.fnExecuteWhatRow.laid ((laidWorld os).forCall (fun _ _=>0) ⟨#[],#[.slice none 0 0],[]⟩).memory #[.slice none 0 0]:=by
 have hw:(DataW.whole enc Tryz.prog ((laidWorld os).forCall (fun _ _=>0) ⟨#[],#[.slice none 0 0],[]⟩).memory Tryz.f5.params.toList (OpenSpec.ofChange Rows.fnExecuteWhatSpec).vars false #[.slice none 0 0].toList 8).map (fun x=>(x.1,x.2.1)) =
   some ([.nil],[]):=by kernel_rfl
 obtain ⟨⟨x1,x2,x3⟩,hx,hx1⟩:=Option.map_eq_some_iff.1 hw;simp only [Prod.mk.injEq] at hx1;obtain ⟨rfl,rfl⟩:=hx1;exact OpenSpec.preRow_of_cond 8 hx (by kernel_rfl) (fun k hk=>by cases hk) (by kernel_rfl) (laid_met os _)
set_option maxRecDepth 100000 in
theorem lifted (os:Os) (started:os.Started) (H:Type) (enc:TypeId × Value→H) (F0:Stop.Interp) :
  ReturnsInHanded {} Tryz.checked os 5 .any ((OpenSpec.ofChange Rows.fnExecuteWhatSpec).preRow enc Tryz.prog Tryz.f5 Rows.fnExecuteWhatRow.domain false Rows.fnExecuteWhatRow.laid) (((OpenSpec.ofChange Rows.fnExecuteWhatSpec).at F0).post enc Tryz.prog Tryz.f5 false true false false):=by
 refine returnsInHanded_of_row (C:=Tryz.checked) (s:=OpenSpec.ofChange Rows.fnExecuteWhatSpec) own started (by kernel_rfl) Tryz.func5
  (witness_row_atRef (enc:=enc) (C:=Tryz.checked) false (laidWorld os) #[.slice none 0 0] rfl (by kernel_rfl) (by kernel_rfl) (by kernel_rfl) (witness_row os enc)) ?_
 intro W base args ds gs before hval0 hW _ _ _ hL _ _;have HLd:laidMet Tryz.prog laidL W:=hL;have hval : ∀ (j:Nat) t v,Tryz.f5.params[j]? = some t→args[j]? = some v→Value.okWide Tryz.prog W .any base t v:=hval0;have hW':=hW;obtain ⟨p,q,hA0,hV,rfl,hfz,hnd⟩:=hW;have hA:DataW.TrodAll enc Tryz.prog W 0 (fun _=>true) true Tryz.f5.params.toList args.toList ds p:=hA0;rw [Tryz.params5] at hA hval;obtain ⟨v0,vs0,d0,ds0,p0,q0,hargs,rfl,rfl,h0,r0⟩:=trodAll_cons hA;obtain ⟨rfl,rfl,rfl⟩:=trodAll_nil r0;obtain rfl:args=#[v0]:=(by cases args;simp_all);obtain ⟨rfl,rfl⟩:=trodVars_none hV;have k0:=h0;have lt0 : ∀ x∈p0,x.block < W.heap.size:=(by obtain ⟨m,hm⟩:=k0;exact DataW.trod_lt m _ _ _ hm);obtain ⟨A_0,n_0,c_0,bs_0,rfl,R_0⟩:=openBytes (hval 0 22 v0 rfl rfl) h0;clear hA0 hval0;refine (walk A_0 n_0 c_0 bs_0 W R_0 HLd).mono fun e W' ⟨he,bel⟩=>?_;subst he;exact ⟨_,rfl,_,_,_,[],_,[],hW',trodAll_mk1 (shut_bool Tryz.underlying4 _),(trodAll_cons_mk (Below.trod laidOut (by kernel_rfl) (of_decide_eq_true (by kernel_rfl)) k0 bel lt0) trodAll_mk0),rfl,bel.frame _,fun h=>by cases h⟩
set_option maxHeartbeats 16000000 in
set_option maxRecDepth 100000 in
theorem closed:joinedFacts Tryz.prog 5 Tryz.f5 (OpenSpec.ofChange Rows.fnExecuteWhatSpec).bare Rows.fnExecuteWhatRow=true:=by
 unfold joinedFacts;simp only [Bool.and_eq_true]
 repeat' apply And.intro
 all_goals (as_aux_lemma=>kernel_rfl)
theorem over:Rows.fnExecuteWhatRow.holds Tryz.pinned (OpenSpec.ofChange Rows.fnExecuteWhatSpec) :=
 OpenClaim.holds_of_cond 5 Tryz.f5 rfl rfl rfl rfl rfl rfl rfl ⟨rfl,rfl,rfl,rfl,rfl⟩ rfl rfl rfl rfl rfl (by kernel_rfl) Tryz.func5 closed
  (of_decide_eq_true (by kernel_rfl)) (by unfold Func.isWrapper;first | (rw [if_pos (by decide +kernel)];kernel_rfl) | (rw [if_neg (by decide +kernel)];exact ⟨rfl,rfl⟩))
  (fun os started H enc _ F0=>by rw [OpenClaim.pre_eq_preRow];exact lifted os started H enc F0)
theorem proved:Rows.FnExecuteWhatCardSaid :=
 Claim7.holds_tied_plain_at .later [] Rows.fnExecuteWhatCard.laidKinds true Rows.fnExecuteWhatCard.stood.harness Rows.fnExecuteWhatCard.stood.looks
  over (fun _ h=>by cases h) (by kernel_rfl) (fun _ h=>by cases h) fnExecuteWhat_row_tie rfl ⟨rfl,rfl⟩ (by kernel_rfl) rfl
  (fun f fn hf hfn=>by
   obtain rfl : f = 5 := Option.some.inj ((show Tryz.prog.funcNamed "loop.example/shorthand/laws.FnExecuteWhat" = some 5 by kernel_rfl).symm.trans hf) |>.symm; obtain rfl : fn = Tryz.f5 := (Option.some.inj (Tryz.func5.symm.trans hfn)).symm; exact ⟨by kernel_rfl, fun j t ht => by
    rw [Tryz.params5] at ht;have h3:t=22:=by
     rcases j with _ | j
     ·simpa using ht.symm
     ·simp at ht
    subst h3;exact (show Tryz.prog.wantsStandIn 22=false by kernel_rfl)⟩)
  (by kernel_rfl)
end Go.Proofs.YtbkhnljaajajiaaGreatDoor.fnExecuteWhat
