/-
  The law FnExecuteTwice returns true for every input, and what was in memory before the call reads as before: the frame round its walk.
  Conditions: none.
-/
import Derived.Test.YtbkhnljaajajiaaGreatDoorPExecuteTwice01
import Derived.Test.YtbkhnljaajajiaaGreatDoorPX37
import Derived.Test.YtbkhnljaajajiaaGreatDoorPY11
import Derived.Test.YtbkhnljaajajiaaGreatDoorTie
import Derived.Test.YtbkhnljaajajiaaGreatDoorCards
import Derived.JoinedCond
import Derived.SevenTiedAt
set_option maxRecDepth 100000
set_option linter.unusedSimpArgs false
set_option linter.unusedVariables false
set_option linter.unnecessarySimpa false
namespace Go.Proofs.YtbkhnljaajajiaaGreatDoor.fnExecuteTwice
open Go.ChangeShapes Go.WideShapes Go.ChangeAt Go.RowKit
set_option maxRecDepth 100000 in
set_option maxHeartbeats 6400000 in
theorem walk (A:Option Addr) (n c:Nat) (bs:List Int) (W:World) (hb:BytesIn W W.heap.size A n c bs) (HLd:laidMet Tryz.prog laidL W) :
  Calls Tryz.prog 4 #[.slice A n c] W fun e w'=>e = .returned (.bool true)∧Below W.heap.size W w':=by
 have HT:=uH (tabOf HLd);have hm:=hb.2.2.1;have hnc:=hb.2.1;unfold maxLen at hm;clear HLd;by_cases hn:1048576 < n
 ·clear hb;go_enter Tryz.func4,Tryz.ntmps4
  go_wp2;go_returns;exact ⟨rfl,by go_grown⟩
 have HD:=uH (drawExecute A n c bs W hb);clear hb;go_enter Tryz.func4,Tryz.ntmps4
 (go_wp2_with fail);refine HD.out.mono ?_;rintro e w1 ⟨⟨l,hl,rfl⟩,b1⟩;have HI:Hid (∀ x:List UInt8,x.length≤300000→∀ V,Below W.heap.size W V→Calls Tryz.prog 12 #[.string (mkStr x)] V fun e w'=>e = .returned (.string (mkStr (exec x)))∧Below V.heap.size V w'):=uH (fun x hx V hV=>by
  have:=implExecute (mkStr x) V (by rw [mkStr_size];omega) (HT.out.keep hV)
  rwa [mkStr_data] at this)
 have HI1:=uH (HI.out l (by omega) w1 b1);have HS:=uH (fun V=>specExecute (mkStr l) V (by rw [mkStr_size];omega));rw [mkStr_data] at HS;clear HD;have HC:=uH (fun V=>complete (mkStr l) V (by rw [mkStr_size];omega));rw [mkStr_data] at HC;have hcl:=complL_len l;have hcw:=complL_whole l;have hz2:(mkStr (complL l)).size=(complL l).length:=mkStr_size _;by_cases h5:480 < (complL l).length
 ·have i1:(480:Int) < ((mkStr (complL l)).size:Int):=(by omega);generalize mkStr (complL l)=s2 at *;generalize mkStr l=s at *;generalize mkStr (exec l)=x at *;have hne:(x.toList != x.toList)=false:=(by simp);clear hz2 h5 hcl hcw HI;(go_wp2_with fail);refine HI1.out.mono ?_;rintro e w2 ⟨rfl,hb2⟩;have b2:=below_next b1 hb2;clear HI1 hb2;(go_wp2_with fail);refine (HS.out w2).mono ?_;rintro e w3 ⟨rfl,hb3⟩;have b3:=below_next b2 hb3;clear HS hb3;(go_wp2_with fail);refine (HC.out w3).mono ?_;rintro e w4 ⟨rfl,rfl⟩;go_wp2;go_returns;exact ⟨rfl,b3⟩
 ·have i1 : ¬ (480:Int) < ((mkStr (complL l)).size:Int):=(by omega);have HI2:Hid (∀ V,Below W.heap.size W V→Calls Tryz.prog 12 #[.string (mkStr (complL l))] V fun e w'=>e = .returned (.string (mkStr (exec (complL l))))∧Below V.heap.size V w'):=uH (fun V hV=>HI.out (complL l) (by omega) V hV);have HI3:Hid (∀ V,Below W.heap.size W V→Calls Tryz.prog 12 #[.string (mkStr (complL l++tw1))] V fun e w'=>e = .returned (.string (mkStr (exec (complL l++tw1))))∧Below V.heap.size V w'):=uH (fun V hV=>HI.out _ (by rw [List.length_append];simp [tw1];omega) V hV);have HI4:Hid (∀ V,Below W.heap.size W V→Calls Tryz.prog 12 #[.string (mkStr (complL l++tw2))] V fun e w'=>e = .returned (.string (mkStr (exec (complL l++tw2))))∧Below V.heap.size V w'):=uH (fun V hV=>HI.out _ (by rw [List.length_append];simp [tw2];omega) V hV);have a1 : ∀ W',(Op.stringOp .add (mkStr (complL l)) { data:=#[108,101,116,116,101,114,115,10] }).run Tryz.prog W' = .ok (.string (mkStr (complL l++tw1))) W':=fun W'=>run_add _ [108,101,116,116,101,114,115,10] (by simp;omega) W';have a2 : ∀ W',(Op.stringOp .add (mkStr (complL l)) { data:=#[108,101,116,116,101,114,115,10,108,101,116,116,101,114,115,10] }).run Tryz.prog W' = .ok (.string (mkStr (complL l++tw2))) W':=fun W'=>run_add _ [108,101,116,116,101,114,115,10,108,101,116,116,101,114,115,10] (by simp;omega) W';obtain ⟨bl,ol,la,P⟩:=two_parts hcw (show (complL l).length≤480 by omega);have n1:=P.n1;have n2:=P.n2;have n3:=P.n3;have HX1:=P.x1;have HX2:=P.x2;clear hz2 h5 hcl hcw HI;have HLs:Hid (∀ V,Calls Tryz.prog 15 #[.string (mkStr (bl++la))] V fun e w'=>e = .returned (.string (mkStr la))∧V=w'):=uH (fun V=>by
   have:=lastLine (mkStr (bl++la)) V (by rw [mkStr_size,List.length_append];omega) (by rw [mkStr_size,List.length_append];omega)
   rwa [mkStr_data,P.e2] at this)
  rw [P.e1] at HI2;rw [P.e3] at HI3;rw [P.e4] at HI4;have a3 : ∀ W',(Op.stringOp .add (mkStr bl) (mkStr ol)).run Tryz.prog W' = .ok (.string (mkStr (bl++ol))) W':=fun W'=>run_add _ _ (by omega) W';have a4 : ∀ W',(Op.stringOp .add (mkStr (bl++ol)) (mkStr ol)).run Tryz.prog W' = .ok (.string (mkStr (bl++ol++ol))) W':=fun W'=>run_add _ _ (by rw [List.length_append];omega) W';have a5 : ∀ W',(Op.stringOp .add (mkStr (bl++ol++ol)) (mkStr la)).run Tryz.prog W' = .ok (.string (mkStr (bl++ol++ol++la))) W':=fun W'=>run_add _ _ (by rw [List.length_append,List.length_append];omega) W';obtain ⟨nb,hnb⟩ : ∃ nb,nb=bl.length:=⟨_,rfl⟩;obtain ⟨nk,hnk⟩ : ∃ nk,nk=bl.length+ol.length:=⟨_,rfl⟩;rw [← hnk,← hnb] at HX2;rw [← hnb] at HX1;have z1:(mkStr (bl++la)).size=nb+(mkStr la).size:=(by rw [mkStr_size,mkStr_size,List.length_append];omega);have z2:(mkStr (bl++ol++la)).size=nk+(mkStr la).size:=(by rw [mkStr_size,mkStr_size,List.length_append,List.length_append];omega);have z3:(mkStr la).size≤1000000000:=(by rw [mkStr_size];omega);have z4:nk≤2000000000:=(by omega);have z5:nb≤nk:=(by omega);clear P n1 n2 n3 hnb hnk;generalize mkStr (bl++ol++ol++la)=xd at *;generalize mkStr (bl++ol++ol)=x4 at *;generalize mkStr (bl++ol++la)=xb at *;generalize mkStr (bl++ol)=x3 at *;generalize mkStr (bl++la)=xa at *;generalize mkStr bl=b0 at *;generalize mkStr ol=o0 at *;generalize mkStr la=z at *;generalize mkStr (complL l++tw1)=s3 at *;generalize mkStr (complL l++tw2)=s4 at *;generalize mkStr (complL l)=s2 at *;generalize mkStr l=s at *;generalize mkStr (exec l)=x at *;have j1:IntKind.i64.wrap ((xa.size:Int) - (z.size:Int))=(nb:Int):=(by rw [IntWalk.i64_in _ (by omega)];omega);have j2:IntKind.i64.wrap ((xb.size:Int) - (z.size:Int))=(nk:Int):=(by rw [IntWalk.i64_in _ (by omega)];omega);have j3:(0:Int)≤(nb:Int):=(by omega);have j4:(nb:Int)≤(nk:Int):=(by omega);have j5:(nk:Int)≤(xb.size:Int):=(by omega);have j6:(nb:Int)≤(xa.size:Int):=(by omega);have j7:(0:Int)≤(nk:Int):=(by omega);clear z1 z2 z3 z4 z5;have hne:(x.toList != x.toList)=false:=(by simp);have heq:(xd.toList == xd.toList)=true:=(by simp);(go_wp2_with fail);refine HI1.out.mono ?_;rintro e w2 ⟨rfl,hb2⟩;have b2:=below_next b1 hb2;clear HI1 hb2;(go_wp2_with fail);refine (HS.out w2).mono ?_;rintro e w3 ⟨rfl,hb3⟩;have b3:=below_next b2 hb3;clear HS hb3;(go_wp2_with fail);refine (HC.out w3).mono ?_;rintro e w4 ⟨rfl,rfl⟩;(go_wp2_with fail);refine (HI2.out w3 b3).mono ?_;rintro e w4 ⟨rfl,hb4⟩;have b4:=below_next b3 hb4;clear HI2 hb4 HC;(go_wp2_with fail);refine (HLs.out w4).mono ?_;rintro e w5 ⟨rfl,rfl⟩;(go_wp2_with fail);refine (HI3.out w4 b4).mono ?_;rintro e w5 ⟨rfl,hb5⟩;have b5:=below_next b4 hb5;clear HI3 hb5 HLs;(go_wp2_with fail);go_region_held3 (fun _=>True) (trivial) (first
   | (go_at_call 12;refine (HI4.out _ (b5.trans ((Below.refl _ _).drew))).mono ?_;rintro e w6 ⟨rfl,hb6⟩))
  have b6:=below_next (b5.trans ((Below.refl _ _).drew)) hb6;go_wp2;go_returns;exact ⟨rfl,b6⟩
set_option maxRecDepth 100000 in
theorem witness_row (os:Os) {H:Type} (enc:TypeId × Value→H) :
  (OpenSpec.ofChange Rows.fnExecuteTwiceSpec).preRow enc Tryz.prog Tryz.f4 Rows.fnExecuteTwiceRow.domain false Rows.fnExecuteTwiceRow.laid ((laidWorld os).forCall (fun _ _=>0) ⟨#[],#[.slice none 0 0],[]⟩).memory #[.slice none 0 0]:=by
 have hw:(DataW.whole enc Tryz.prog ((laidWorld os).forCall (fun _ _=>0) ⟨#[],#[.slice none 0 0],[]⟩).memory Tryz.f4.params.toList (OpenSpec.ofChange Rows.fnExecuteTwiceSpec).vars false #[.slice none 0 0].toList 8).map (fun x=>(x.1,x.2.1)) =
   some ([.nil],[]):=by kernel_rfl
 obtain ⟨⟨x1,x2,x3⟩,hx,hx1⟩:=Option.map_eq_some_iff.1 hw;simp only [Prod.mk.injEq] at hx1;obtain ⟨rfl,rfl⟩:=hx1;exact OpenSpec.preRow_of_cond 8 hx (by kernel_rfl) (fun k hk=>by cases hk) (by kernel_rfl) (laid_met os _)
set_option maxRecDepth 100000 in
theorem lifted (os:Os) (started:os.Started) (H:Type) (enc:TypeId × Value→H) (F0:Stop.Interp) :
  ReturnsInHanded {} Tryz.checked os 4 .any ((OpenSpec.ofChange Rows.fnExecuteTwiceSpec).preRow enc Tryz.prog Tryz.f4 Rows.fnExecuteTwiceRow.domain false Rows.fnExecuteTwiceRow.laid) (((OpenSpec.ofChange Rows.fnExecuteTwiceSpec).at F0).post enc Tryz.prog Tryz.f4 false true false false):=by
 refine returnsInHanded_of_row (C:=Tryz.checked) (s:=OpenSpec.ofChange Rows.fnExecuteTwiceSpec) own started (by kernel_rfl) Tryz.func4
  (witness_row_atRef (enc:=enc) (C:=Tryz.checked) false (laidWorld os) #[.slice none 0 0] rfl (by kernel_rfl) (by kernel_rfl) (by kernel_rfl) (witness_row os enc)) ?_
 intro W base args ds gs before hval0 hW _ _ _ hL _ _;have HLd:laidMet Tryz.prog laidL W:=hL;have hval : ∀ (j:Nat) t v,Tryz.f4.params[j]? = some t→args[j]? = some v→Value.okWide Tryz.prog W .any base t v:=hval0;have hW':=hW;obtain ⟨p,q,hA0,hV,rfl,hfz,hnd⟩:=hW;have hA:DataW.TrodAll enc Tryz.prog W 0 (fun _=>true) true Tryz.f4.params.toList args.toList ds p:=hA0;rw [Tryz.params4] at hA hval;obtain ⟨v0,vs0,d0,ds0,p0,q0,hargs,rfl,rfl,h0,r0⟩:=trodAll_cons hA;obtain ⟨rfl,rfl,rfl⟩:=trodAll_nil r0;obtain rfl:args=#[v0]:=(by cases args;simp_all);obtain ⟨rfl,rfl⟩:=trodVars_none hV;have k0:=h0;have lt0 : ∀ x∈p0,x.block < W.heap.size:=(by obtain ⟨m,hm⟩:=k0;exact DataW.trod_lt m _ _ _ hm);obtain ⟨A_0,n_0,c_0,bs_0,rfl,R_0⟩:=openBytes (hval 0 22 v0 rfl rfl) h0;clear hA0 hval0;refine (walk A_0 n_0 c_0 bs_0 W R_0 HLd).mono fun e W' ⟨he,bel⟩=>?_;subst he;exact ⟨_,rfl,_,_,_,[],_,[],hW',trodAll_mk1 (shut_bool Tryz.underlying4 _),(trodAll_cons_mk (Below.trod laidOut (by kernel_rfl) (of_decide_eq_true (by kernel_rfl)) k0 bel lt0) trodAll_mk0),rfl,bel.frame _,fun h=>by cases h⟩
set_option maxHeartbeats 16000000 in
set_option maxRecDepth 100000 in
theorem closed:joinedFacts Tryz.prog 4 Tryz.f4 (OpenSpec.ofChange Rows.fnExecuteTwiceSpec).bare Rows.fnExecuteTwiceRow=true:=by
 unfold joinedFacts;simp only [Bool.and_eq_true]
 repeat' apply And.intro
 all_goals (as_aux_lemma=>kernel_rfl)
theorem over:Rows.fnExecuteTwiceRow.holds Tryz.pinned (OpenSpec.ofChange Rows.fnExecuteTwiceSpec) :=
 OpenClaim.holds_of_cond 4 Tryz.f4 rfl rfl rfl rfl rfl rfl rfl ⟨rfl,rfl,rfl,rfl,rfl⟩ rfl rfl rfl rfl rfl (by kernel_rfl) Tryz.func4 closed
  (of_decide_eq_true (by kernel_rfl)) (by unfold Func.isWrapper;first | (rw [if_pos (by decide +kernel)];kernel_rfl) | (rw [if_neg (by decide +kernel)];exact ⟨rfl,rfl⟩))
  (fun os started H enc _ F0=>by rw [OpenClaim.pre_eq_preRow];exact lifted os started H enc F0)
theorem proved:Rows.FnExecuteTwiceCardSaid :=
 Claim7.holds_tied_plain_at .later [] Rows.fnExecuteTwiceCard.laidKinds true Rows.fnExecuteTwiceCard.stood.harness Rows.fnExecuteTwiceCard.stood.looks
  over (fun _ h=>by cases h) (by kernel_rfl) (fun _ h=>by cases h) fnExecuteTwice_row_tie rfl ⟨rfl,rfl⟩ (by kernel_rfl) rfl
  (fun f fn hf hfn=>by
   obtain rfl : f = 4 := Option.some.inj ((show Tryz.prog.funcNamed "loop.example/shorthand/laws.FnExecuteTwice" = some 4 by kernel_rfl).symm.trans hf) |>.symm; obtain rfl : fn = Tryz.f4 := (Option.some.inj (Tryz.func4.symm.trans hfn)).symm; exact ⟨by kernel_rfl, fun j t ht => by
    rw [Tryz.params4] at ht;have h3:t=22:=by
     rcases j with _ | j
     ·simpa using ht.symm
     ·simp at ht
    subst h3;exact (show Tryz.prog.wantsStandIn 22=false by kernel_rfl)⟩)
  (by kernel_rfl)
end Go.Proofs.YtbkhnljaajajiaaGreatDoor.fnExecuteTwice
