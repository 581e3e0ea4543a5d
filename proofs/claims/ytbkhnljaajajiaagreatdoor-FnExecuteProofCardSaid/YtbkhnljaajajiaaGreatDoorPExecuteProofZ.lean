/-
  The law FnExecuteProof returns true for every input, and what was in memory before the call reads as before: the frame round its walk.
  Conditions: none.
-/
import Derived.Test.YtbkhnljaajajiaaGreatDoorPExecuteProof07
import Derived.Test.YtbkhnljaajajiaaGreatDoorPExecuteProof10
import Derived.Test.YtbkhnljaajajiaaGreatDoorPX33
import Derived.Test.YtbkhnljaajajiaaGreatDoorPX37
import Derived.Test.YtbkhnljaajajiaaGreatDoorTie
import Derived.Test.YtbkhnljaajajiaaGreatDoorCards
import Derived.JoinedCond
import Derived.SevenTiedAt
set_option maxRecDepth 100000
set_option linter.unusedSimpArgs false
set_option linter.unusedVariables false
set_option linter.unnecessarySimpa false
namespace Go.Proofs.YtbkhnljaajajiaaGreatDoor.fnExecuteProof
open Go.ChangeShapes Go.WideShapes Go.ChangeAt Go.RowKit
set_option maxRecDepth 100000 in
set_option maxHeartbeats 6400000 in
theorem walk (A:Option Addr) (n c:Nat) (bs:List Int) (W:World) (hb:BytesIn W W.heap.size A n c bs) (HLd:laidMet Tryz.prog laidL W) :
  Calls Tryz.prog 7 #[.slice A n c] W fun e w'=>e = .returned (.bool true)∧Below W.heap.size W w':=by
 have HT:=uH (tabOf HLd);have hm:=hb.2.2.1;have hnc:=hb.2.1;unfold maxLen at hm;clear HLd;by_cases hn:1048576 < n
 ·clear hb;go_enter Tryz.func7,Tryz.ntmps7
  go_wp2;go_returns;exact ⟨rfl,by go_grown⟩
 have HD:=uH (drawMarksMake A n c bs W hb);clear hb;go_enter Tryz.func7,Tryz.ntmps7
 (go_wp2_with fail);refine HD.out.mono ?_;rintro e w1 ⟨A1,n1,c1,a,A2,n2,c2,b,rfl,hn8,hP,hsa,hQ,hsb,b1⟩;have HKa:Hid (∀ V,Below w1.heap.size w1 V→WdsIn V V.heap.size A1 n1 c1 a):=uH (fun V hV=>hP.keep hV);have HKb:Hid (∀ V,Below w1.heap.size w1 V→WdsIn V V.heap.size A2 n2 c2 b):=uH (fun V hV=>hQ.keep hV);have HLa:=uH hP.1;have HLb:=uH hQ.1;have HSa:=uH hsa;have HSb:=uH hsb;have HI1:=uH (implMarksMake A1 n1 c1 a A2 n2 c2 b w1 hsa hsb hP hQ);have HSp:=uH (fun V (hV:Below w1.heap.size w1 V)=>specMarksMake A1 n1 c1 a A2 n2 c2 b V hsa hsb (hP.keep hV) (hQ.keep hV));clear hP hQ hsa hsb HD;cases hLO:makeO a b with
 | none =>
  have HS1:=uH HSp.out;rw [hLO] at HI1;rw [hLO] at HS1;clear hLO HSp HKa HKb;(go_wp2_with fail);refine HI1.out.mono ?_;rintro e w2 ⟨hA,hb2⟩;rcases hA with ⟨_,A3,c3,rfl,hR3⟩ | ⟨A3,c3,ys,h,_⟩
  rotate_left
  ·cases h
  have HR3:=uH hR3;have HS2:=uH (HS1.out w2 hb2);have b2:=below_next b1 hb2;clear hR3 hb2 HI1 HS1;(go_wp2_with fail);refine HS2.out.mono ?_;rintro e w3 ⟨hA,hb3⟩;rcases hA with ⟨_,A4,c4,rfl,hR4⟩ | ⟨A4,c4,ys,h,_⟩
  rotate_left
  ·cases h
  have HSm:Hid (∀ V,Below w3.heap.size w3 V→Calls Tryz.prog 29 #[.slice A3 0 c3,.slice A4 0 c4] V fun e w'=>e = .returned (.bool true)∧Below V.heap.size V w'):=uH (fun V hV=>by
   have:=sameMarks A3 0 c3 A4 c4 [] [] V ((HR3.out.keep hb3).keep hV) (hR4.keep hV)
   rwa [decide_eq_true rfl] at this)
  have b3:=below_next b2 hb3;clear hR4 hb3 HS2;(go_wp2_with fail);refine (HSm.out w3 (Below.refl _ _)).mono ?_;rintro e w4 ⟨rfl,hb4⟩;have b4:=below_next b3 hb4;have HSm2:=uH (HSm.out w4 hb4);clear hb4 HSm;(go_wp2_with fail);refine HSm2.out.mono ?_;rintro e w5 ⟨rfl,hb5⟩;have b5:=below_next b4 hb5;go_wp2;go_returns;exact ⟨rfl,b5⟩
 | some L =>
  have HS1:=uH HSp.out;rw [hLO] at HI1;rw [hLO] at HS1;have hmk:spB a=true∧spB b=true∧L=mkAll a b:=by
   unfold makeO at hLO;split at hLO
   ·rename_i hc
    rw [Bool.and_eq_true] at hc;injection hLO with hLO;exact ⟨hc.1,hc.2,hLO.symm⟩
   ·cases hLO
  obtain ⟨hxe,hja,hjb⟩:=exec_proofT hmk.1 hmk.2.1 (by rw [HLa.out];exact hn8);rw [← hmk.2.2,HLa.out] at hxe;have hml:=marksText_len9 a L;have hel:=exec_len ([115,112,101,101,99,104]++joinedL a++[10,112,114,111,111,102]++joinedL b++[10]);rw [hxe,List.length_append] at hel;have h20a:n1≤20:=(by have:=(spB_iff.1 hmk.1).2;rw [HLa.out] at this;exact this);have h20b:n2≤20:=(by have:=(spB_iff.1 hmk.2.1).2;rw [HLb.out] at this;exact this);have hwa : ∀ l∈a,l.length≤1000:=fun l hl=>by
   have:=(spB_iff.1 hmk.1).1 l hl;unfold wordB at this;rw [Bool.and_eq_true,Bool.and_eq_true] at this;have:=of_decide_eq_true this.2.2;omega
  have hwb : ∀ l∈b,l.length≤1000:=fun l hl=>by
   have:=(spB_iff.1 hmk.2.1).1 l hl;unfold wordB at this;rw [Bool.and_eq_true,Bool.and_eq_true] at this;have:=of_decide_eq_true this.2.2;omega
  have HX:Hid (∀ V,Below W.heap.size W V→Calls Tryz.prog 12 #[.string (mkStr ([115,112,101,101,99,104]++joinedL a++[10,112,114,111,111,102]++joinedL b++[10]))] V fun e w'=>e = .returned (.string (mkStr ([111,107,10]++marksText a L++[10]++endN n1 0)))∧Below V.heap.size V w'):=uH (fun V hV=>by
   have:=implExecute (mkStr ([115,112,101,101,99,104]++joinedL a++[10,112,114,111,111,102]++joinedL b++[10])) V (by rw [mkStr_size];simp only [List.length_append,List.length_cons,List.length_nil];omega) (HT.out.keep hV)
   rwa [mkStr_data,hxe] at this)
  obtain ⟨xf,xg,xh,xs1,g1,g2,g3,g4,ex⟩ : ∃ xf xg xh xs1:ByteArray,(∀ W',(Op.stringOp .add { data:=#[115,112,101,101,99,104] } (mkStr (joinedL a))).run Tryz.prog W' = .ok (.string xf) W')∧(∀ W',(Op.stringOp .add xf { data:=#[10,112,114,111,111,102] }).run Tryz.prog W' = .ok (.string xg) W')∧(∀ W',(Op.stringOp .add xg (mkStr (joinedL b))).run Tryz.prog W' = .ok (.string xh) W')∧(∀ W',(Op.stringOp .add xh { data:=#[10] }).run Tryz.prog W' = .ok (.string xs1) W')∧mkStr ([115,112,101,101,99,104]++joinedL a++[10,112,114,111,111,102]++joinedL b++[10])=xs1 :=
   ⟨_,_,_,_,fun W'=>run_add [115,112,101,101,99,104] _ (by simp only [List.length_cons,List.length_nil];omega) W',fun W'=>run_add _ [10,112,114,111,111,102] (by simp only [List.length_append,List.length_cons,List.length_nil];omega) W',fun W'=>run_add _ _ (by simp only [List.length_append,List.length_cons,List.length_nil];omega) W',fun W'=>run_add _ [10] (by simp only [List.length_append,List.length_cons,List.length_nil];omega) W',rfl⟩
  obtain ⟨xm,xk,xe,a1,a2,a3,ee⟩ : ∃ xm xk xe:ByteArray,(∀ W',(Op.stringOp .add { data:=#[111,107,10] } (mkStr (marksText a L))).run Tryz.prog W' = .ok (.string xm) W')∧(∀ W',(Op.stringOp .add xm { data:=#[10] }).run Tryz.prog W' = .ok (.string xk) W')∧(∀ W',(Op.stringOp .add xk (mkStr (endN n1 0))).run Tryz.prog W' = .ok (.string xe) W')∧mkStr ([111,107,10]++marksText a L++[10]++endN n1 0)=xe :=
   ⟨_,_,_,fun W'=>run_add [111,107,10] _ (by simp only [List.length_cons,List.length_nil];omega) W',fun W'=>run_add _ [10] (by simp only [List.length_append,List.length_cons,List.length_nil];omega) W',fun W'=>run_add _ _ (by simp only [List.length_append,List.length_cons,List.length_nil] at hel ⊢;omega) W',rfl⟩
  rw [ex,ee] at HX;have HEl:=uH (fun V=>endLine n1 0 V (by omega) (by omega));have HJa:=uH (fun V (hV:Below w1.heap.size w1 V)=>joinedC A1 n1 c1 a V (by omega) hwa (HKa.out V hV));have HJb:=uH (fun V (hV:Below w1.heap.size w1 V)=>joinedC A2 n2 c2 b V (by omega) hwb (HKb.out V hV));have HOkm:Hid (∀ (w:World) (B:Nat) (A:Option Addr) (c:Nat) (M:List Mr),M.map Mr.dat=L→MrsIn w B A M.length c M→OkMs M):=uH (fun w B A c M hM hi=>okMs_make (by rw [HLa.out];omega) (by rw [HLb.out];omega) HSb.out hi (by rw [hM];exact hmk.2.2));clear hLO HSp hmk hxe hja hjb hml hel hwa hwb ex ee HKb;generalize mkStr (joinedL a)=xja at *;generalize mkStr (joinedL b)=xjb at *;generalize mkStr (endN n1 0)=xl at *;have heq:(xe.toList == xe.toList)=true:=(by simp);(go_wp2_with fail);refine HI1.out.mono ?_;rintro e w2 ⟨hA,hb2⟩;rcases hA with ⟨h,_⟩ | ⟨A3,c3,ys,hL,rfl,hR3⟩
  ·cases h
  injection hL with hL;have HR3:=uH hR3;have HS2:=uH (HS1.out w2 hb2);have b2:=below_next b1 hb2;have k2:=hb2;have HY:=uH hL;clear hR3 hb2 HI1 HS1 hL;(go_wp2_with fail);refine HS2.out.mono ?_;rintro e w3 ⟨hA,hb3⟩;rcases hA with ⟨h,_⟩ | ⟨A4,c4,zs,hL,rfl,hR4⟩
  ·cases h
  injection hL with hL;have hz:zs.length=ys.length:=(by rw [← List.length_map (f:=Mr.dat),← hL,HY.out,List.length_map]);rw [hz] at hR4 ⊢;have b3:=below_next b2 hb3;have k3:=below_next k2 hb3;have HR33:=uH (HR3.out.keep hb3);have HSm:Hid (Calls Tryz.prog 29 #[.slice A3 ys.length c3,.slice A4 ys.length c4] w3 fun e w'=>e = .returned (.bool true)∧Below w3.heap.size w3 w'):=uH (by
   have:=sameMarks A3 ys.length c3 A4 c4 ys zs w3 HR33.out hR4
   rwa [decide_eq_true (by rw [← HY.out,hL])] at this)
  clear hR4 hb3 HS2 hL hz k2 HR3;(go_wp2_with fail);refine HSm.out.mono ?_;rintro e w4 ⟨rfl,hb4⟩;have b4:=below_next b3 hb4;have k4:=below_next k3 hb4;have HLt:Hid (∀ V,Below w4.heap.size w4 V→Calls Tryz.prog 30 #[.slice A1 n1 c1,.slice A3 ys.length c3] V fun e w'=>e = .returned (.string (mkStr (marksText a L)))∧Below V.heap.size V w'):=uH (fun V hV=>by
   have h1:=(HR33.out.keep hb4).keep hV;have:=implMarksText A1 n1 c1 a A3 ys.length c3 ys V HSa.out (HOkm.out _ _ _ _ _ HY.out.symm h1) (HKa.out V (below_next k4 hV)) h1
   rwa [← HY.out] at this)
  clear hb4 HSm HR33 k3 HOkm HKa;generalize mkStr (marksText a L)=xt at *;generalize ys.length=N at *;(go_wp2_with fail);refine (HJa.out w4 k4).mono ?_;rintro e w5 ⟨rfl,rfl⟩;(go_wp2_with fail);refine (HJb.out w4 k4).mono ?_;rintro e w5 ⟨rfl,rfl⟩;clear HJa HJb;(go_wp2_with fail);refine (HX.out w4 b4).mono ?_;rintro e w5 ⟨rfl,hb5⟩;have b5:=below_next b4 hb5;have HLt5:=uH (HLt.out w5 hb5);clear hb5 HLt;(go_wp2_with fail);refine HLt5.out.mono ?_;rintro e w7 ⟨rfl,hb7⟩;have b7:=below_next b5 hb7;(go_wp2_with fail);refine (HEl.out w7).mono ?_;rintro e w8 ⟨rfl,hb8⟩;have b8:=below_next b7 hb8;go_wp2;go_returns;exact ⟨rfl,b8⟩
set_option maxRecDepth 100000 in
theorem witness_row (os:Os) {H:Type} (enc:TypeId × Value→H) :
  (OpenSpec.ofChange Rows.fnExecuteProofSpec).preRow enc Tryz.prog Tryz.f7 Rows.fnExecuteProofRow.domain false Rows.fnExecuteProofRow.laid ((laidWorld os).forCall (fun _ _=>0) ⟨#[],#[.slice none 0 0],[]⟩).memory #[.slice none 0 0]:=by
 have hw:(DataW.whole enc Tryz.prog ((laidWorld os).forCall (fun _ _=>0) ⟨#[],#[.slice none 0 0],[]⟩).memory Tryz.f7.params.toList (OpenSpec.ofChange Rows.fnExecuteProofSpec).vars false #[.slice none 0 0].toList 8).map (fun x=>(x.1,x.2.1)) =
   some ([.nil],[]):=by kernel_rfl
 obtain ⟨⟨x1,x2,x3⟩,hx,hx1⟩:=Option.map_eq_some_iff.1 hw;simp only [Prod.mk.injEq] at hx1;obtain ⟨rfl,rfl⟩:=hx1;exact OpenSpec.preRow_of_cond 8 hx (by kernel_rfl) (fun k hk=>by cases hk) (by kernel_rfl) (laid_met os _)
set_option maxRecDepth 100000 in
theorem lifted (os:Os) (started:os.Started) (H:Type) (enc:TypeId × Value→H) (F0:Stop.Interp) :
  ReturnsInHanded {} Tryz.checked os 7 .any ((OpenSpec.ofChange Rows.fnExecuteProofSpec).preRow enc Tryz.prog Tryz.f7 Rows.fnExecuteProofRow.domain false Rows.fnExecuteProofRow.laid) (((OpenSpec.ofChange Rows.fnExecuteProofSpec).at F0).post enc Tryz.prog Tryz.f7 false true false false):=by
 refine returnsInHanded_of_row (C:=Tryz.checked) (s:=OpenSpec.ofChange Rows.fnExecuteProofSpec) own started (by kernel_rfl) Tryz.func7
  (witness_row_atRef (enc:=enc) (C:=Tryz.checked) false (laidWorld os) #[.slice none 0 0] rfl (by kernel_rfl) (by kernel_rfl) (by kernel_rfl) (witness_row os enc)) ?_
 intro W base args ds gs before hval0 hW _ _ _ hL _ _;have HLd:laidMet Tryz.prog laidL W:=hL;have hval : ∀ (j:Nat) t v,Tryz.f7.params[j]? = some t→args[j]? = some v→Value.okWide Tryz.prog W .any base t v:=hval0;have hW':=hW;obtain ⟨p,q,hA0,hV,rfl,hfz,hnd⟩:=hW;have hA:DataW.TrodAll enc Tryz.prog W 0 (fun _=>true) true Tryz.f7.params.toList args.toList ds p:=hA0;rw [Tryz.params7] at hA hval;obtain ⟨v0,vs0,d0,ds0,p0,q0,hargs,rfl,rfl,h0,r0⟩:=trodAll_cons hA;obtain ⟨rfl,rfl,rfl⟩:=trodAll_nil r0;obtain rfl:args=#[v0]:=(by cases args;simp_all);obtain ⟨rfl,rfl⟩:=trodVars_none hV;have k0:=h0;have lt0 : ∀ x∈p0,x.block < W.heap.size:=(by obtain ⟨m,hm⟩:=k0;exact DataW.trod_lt m _ _ _ hm);obtain ⟨A_0,n_0,c_0,bs_0,rfl,R_0⟩:=openBytes (hval 0 22 v0 rfl rfl) h0;clear hA0 hval0;refine (walk A_0 n_0 c_0 bs_0 W R_0 HLd).mono fun e W' ⟨he,bel⟩=>?_;subst he;exact ⟨_,rfl,_,_,_,[],_,[],hW',trodAll_mk1 (shut_bool Tryz.underlying4 _),(trodAll_cons_mk (Below.trod laidOut (by kernel_rfl) (of_decide_eq_true (by kernel_rfl)) k0 bel lt0) trodAll_mk0),rfl,bel.frame _,fun h=>by cases h⟩
set_option maxHeartbeats 16000000 in
set_option maxRecDepth 100000 in
theorem closed:joinedFacts Tryz.prog 7 Tryz.f7 (OpenSpec.ofChange Rows.fnExecuteProofSpec).bare Rows.fnExecuteProofRow=true:=by
 unfold joinedFacts;simp only [Bool.and_eq_true]
 repeat' apply And.intro
 all_goals (as_aux_lemma=>kernel_rfl)
theorem over:Rows.fnExecuteProofRow.holds Tryz.pinned (OpenSpec.ofChange Rows.fnExecuteProofSpec) :=
 OpenClaim.holds_of_cond 7 Tryz.f7 rfl rfl rfl rfl rfl rfl rfl ⟨rfl,rfl,rfl,rfl,rfl⟩ rfl rfl rfl rfl rfl (by kernel_rfl) Tryz.func7 closed
  (of_decide_eq_true (by kernel_rfl)) (by unfold Func.isWrapper;first | (rw [if_pos (by decide +kernel)];kernel_rfl) | (rw [if_neg (by decide +kernel)];exact ⟨rfl,rfl⟩))
  (fun os started H enc _ F0=>by rw [OpenClaim.pre_eq_preRow];exact lifted os started H enc F0)
theorem proved:Rows.FnExecuteProofCardSaid :=
 Claim7.holds_tied_plain_at .later [] Rows.fnExecuteProofCard.laidKinds true Rows.fnExecuteProofCard.stood.harness Rows.fnExecuteProofCard.stood.looks
  over (fun _ h=>by cases h) (by kernel_rfl) (fun _ h=>by cases h) fnExecuteProof_row_tie rfl ⟨rfl,rfl⟩ (by kernel_rfl) rfl
  (fun f fn hf hfn=>by
   obtain rfl : f = 7 := Option.some.inj ((show Tryz.prog.funcNamed "loop.example/shorthand/laws.FnExecuteProof" = some 7 by kernel_rfl).symm.trans hf) |>.symm; obtain rfl : fn = Tryz.f7 := (Option.some.inj (Tryz.func7.symm.trans hfn)).symm; exact ⟨by kernel_rfl, fun j t ht => by
    rw [Tryz.params7] at ht;have h3:t=22:=by
     rcases j with _ | j
     ·simpa using ht.symm
     ·simp at ht
    subst h3;exact (show Tryz.prog.wantsStandIn 22=false by kernel_rfl)⟩)
  (by kernel_rfl)
end Go.Proofs.YtbkhnljaajajiaaGreatDoor.fnExecuteProof
