/-
  The law FnExecuteCabinet returns true for every input, and what was in memory before the call reads as before: the frame round its walk.
  Conditions: none.
-/
import Derived.Test.YtbkhnljaajajiaaGreatDoorPExecuteCabinet07
import Derived.Test.YtbkhnljaajajiaaGreatDoorPExecuteCabinet08
import Derived.Test.YtbkhnljaajajiaaGreatDoorPExecuteCabinet10
import Derived.Test.YtbkhnljaajajiaaGreatDoorPX33
import Derived.Test.YtbkhnljaajajiaaGreatDoorPX37
import Derived.Test.YtbkhnljaajajiaaGreatDoorTie
import Derived.Test.YtbkhnljaajajiaaGreatDoorCards
import Derived.JoinedCond
import Derived.SevenTiedAt
set_option maxRecDepth 100000
set_option linter.unusedSimpArgs false
set_option linter.unusedVariables false
set_option linter.unnecessarySimpa false
namespace Go.Proofs.YtbkhnljaajajiaaGreatDoor.fnExecuteCabinet
open Go.ChangeShapes Go.WideShapes Go.ChangeAt Go.RowKit
set_option maxRecDepth 100000 in
set_option maxHeartbeats 6400000 in
theorem walk (A:Option Addr) (n c:Nat) (bs:List Int) (W:World) (hb:BytesIn W W.heap.size A n c bs) (HLd:laidMet Tryz.prog laidL W) :
  Calls Tryz.prog 8 #[.slice A n c] W fun e w'=>e = .returned (.bool true)∧Below W.heap.size W w':=by
 have HT:=uH (tabOf HLd);have hm:=hb.2.2.1;have hnc:=hb.2.1;unfold maxLen at hm;clear HLd;by_cases hn:1048576 < n
 ·clear hb;go_enter Tryz.func8,Tryz.ntmps8
  go_wp2;go_returns;exact ⟨rfl,by go_grown⟩
 have HD:=uH (drawCabinetOf A n c bs W hb);clear hb;go_enter Tryz.func8,Tryz.ntmps8
 (go_wp2_with fail);refine HD.out.mono ?_;rintro e w1 ⟨A1,c1,ps,rfl,hD,hl,b1⟩;have hcm:=hD.2.2.1;have hcc:=hD.2.1;unfold maxLen at hcm;have HK:Hid (∀ w,Below w1.heap.size w1 w→PadsIn w w.heap.size A1 ps.length c1 ps):=uH (fun w h=>hD.keep h);clear hD HD;generalize hdn:ps.length=N at *;have HN:=uH hdn;clear hdn;have HI:=uH (implCabinetOf A1 N c1 ps w1 (HK.out w1 (Below.refl _ _)));(go_wp2_with fail);refine HI.out.mono ?_;rintro e w2 ⟨hA,hb2⟩;obtain ⟨A2,c2,s2,rfl,hO2,hM2⟩:=fileForm hA;have b2:=below_next b1 hb2;have k2:=hb2;have HO2:=uH hO2;have HM2:=uH hM2;have HS:=uH (specCabinetOf A1 N c1 ps w2 (HK.out w2 k2));clear hO2 hM2 hA hb2 HI;(go_wp2_with fail);refine HS.out.mono ?_;rintro e w3 ⟨hA,hb3⟩;obtain ⟨A3,c3,s3,rfl,hO3,hM3⟩:=fileForm hA;have b3:=below_next b2 hb3;have k3:=below_next k2 hb3;have HM3:=uH hM3;have HD2:=uH ((HO2.out.keep hb3).reads rfl);have hl3:s3.length=s2.length:=(by rw [← List.length_map (f:=(·.ps)),hM3,← HM2.out,List.length_map]);have HD3:=uH (hO3.reads rfl);rw [hl3] at HD3 ⊢;have HSm:Hid (s2.map (·.ps)=s3.map (·.ps)):=uH (by rw [HM2.out,HM3.out]);clear hO3 hM3 hA hb3 hl3 HO2 HS;generalize hM:s2.length=M at *;have HML:=uH hM;clear hM;cases hf:ofO [] ps with
 | none =>
  clear hf HM2 HM3 HML;simp only [Option.isSome_none];(go_wp2_with fail);refine (sameCabinet A2 A3 M c2 c3 s2 s3 w3 HSm.out HD2.out HD3.out).mono ?_;rintro e w4 ⟨rfl,hb4⟩;have b4:=below_next b3 hb4;have HD2':=uH (HD2.out.keep hb4);have HD3':=uH (HD3.out.keep hb4);clear hb4;(go_wp2_with fail);refine (sameCabinet A2 A3 M c2 c3 s2 s3 w4 HSm.out HD2'.out HD3'.out).mono ?_;rintro e w5 ⟨rfl,hb5⟩;have b5:=below_next b4 hb5;go_wp2;go_returns;exact ⟨rfl,b5⟩
 | some css =>
  rw [hf] at HM2;have HTh:Hid (s2.map (·.ps)=css):=uH HM2.out;have hok:=ofO_okP hf;have HOk:=uH hok;have hxe:=exec_files hf (by rw [HN.out];exact hl);have hfl:=filesT_len hok;have hel:=exec_len (filesT ps++[99,97,98,105,110,101,116,10]);rw [hxe,List.length_append,List.length_append] at hel;rw [HN.out] at hfl hxe hel;have HX:Hid (∀ V,Below W.heap.size W V→Calls Tryz.prog 12 #[.string (mkStr (filesT ps++[99,97,98,105,110,101,116,10]))] V fun e w'=>e = .returned (.string (mkStr (okN N++cabText css++endN 0 N)))∧Below V.heap.size V w'):=uH (fun V hV=>by
   have:=implExecute (mkStr (filesT ps++[99,97,98,105,110,101,116,10])) V (by rw [mkStr_size,List.length_append];simp only [List.length_cons,List.length_nil];omega) (HT.out.keep hV)
   rwa [mkStr_data,hxe] at this)
  have HCt:Hid (∀ V,Below w3.heap.size w3 V→Below W.heap.size W V→Calls Tryz.prog 35 #[.slice A2 M c2] V fun e w'=>e = .returned (.string (mkStr (cabText css)))∧Below V.heap.size V w'):=uH (fun V hV hV2=>by
   have:=implCabinetText A2 M c2 s2 V (HD2.out.keep hV) (HT.out.keep hV2)
   rwa [HTh.out] at this)
  have HNx:Hid (∀ k,k < N→filesT (ps.take (k+1))=filesT (ps.take k)++[102,105,108,101,32]++Lib.decDigits (padAt ps k).day.toNat++[32]++(padAt ps k).case.data.toList++[10]):=uH (fun k hk=>filesT_next (by rw [HN.out];exact hk));have HLn:Hid (∀ k,(filesT (ps.take k)).length≤345):=uH (fun k=>by
   have h1:=filesT_len (ps:=ps.take k) (fun p hp=>HOk.out p (List.mem_of_mem_take hp));have h2:(ps.take k).length≤15:=(by rw [List.length_take,HN.out];omega);omega)
  have a1 : ∀ W',(Op.stringOp .add (mkStr (filesT ps)) { data:=#[99,97,98,105,110,101,116,10] }).run Tryz.prog W' = .ok (.string (mkStr (filesT ps++[99,97,98,105,110,101,116,10]))) W':=fun W'=>run_add _ [99,97,98,105,110,101,116,10] (by simp only [List.length_cons,List.length_nil];omega) W';have a2 : ∀ W',(Op.stringOp .add (mkStr (okN N)) (mkStr (cabText css))).run Tryz.prog W' = .ok (.string (mkStr (okN N++cabText css))) W':=fun W'=>run_add _ _ (by omega) W';have a3 : ∀ W',(Op.stringOp .add (mkStr (okN N++cabText css)) (mkStr (endN 0 N))).run Tryz.prog W' = .ok (.string (mkStr (okN N++cabText css++endN 0 N))) W':=fun W'=>run_add _ _ (by rw [List.length_append];omega) W';have HOl:=uH (fun V=>okLines N V (by omega));have HEl:=uH (fun V=>endLine 0 N V (by omega) (by omega));clear hf HM2 HM3 hok hxe hfl hel;generalize mkStr (filesT ps++[99,97,98,105,110,101,116,10])=xs at *;generalize mkStr (okN N++cabText css++endN 0 N)=xe at *;generalize mkStr (okN N++cabText css)=xf at *;generalize mkStr (endN 0 N)=xl at *;generalize mkStr (cabText css)=xc at *;generalize mkStr (okN N)=xo at *;have heq:(xe.toList == xe.toList)=true:=(by simp);simp only [Option.isSome_some];(go_wp2_with fail);refine (sameCabinet A2 A3 M c2 c3 s2 s3 w3 HSm.out HD2.out HD3.out).mono ?_;rintro e w4 ⟨rfl,hb4⟩;have b4:=below_next b3 hb4;have k4:=below_next k3 hb4;have j4:=hb4;clear hb4 HD2 HD3 HSm;go_wp2;go_loopw [8,9] (fun x i wr=>∃ q:Nat,q≤N∧i = .int .i64 q∧x = .string (mkStr (filesT (ps.take q)))∧Below w4.heap.size w4 wr) (fun _ i _=>N - (intOf i).toNat)
  case atStart=>exact ⟨0,Nat.zero_le _,rfl,rfl,Below.refl _ _⟩
  case round =>
   obtain ⟨q,hqN,rfl,rfl,hbr⟩:=hrel;have k6:=below_next k4 hbr;by_cases hlt:q < N
   ·have i4:(q:Int) < (N:Int):=(by omega);obtain ⟨b,off,eA,hbB,q0,q1,hg⟩:=(HK.out wr k6).at_ hlt;obtain ⟨p0,p1,p2⟩:=ok_case (HOk.out (padAt ps q) (padAt_mem (by rw [HN.out];exact hlt)));have hq:=HLn.out q;have hd:=nDigits_le4 (n:=(padAt ps q).day.toNat) (by omega);rw [← Lib.decDigits_length] at hd;have HDg:Hid (∀ V,Calls Tryz.prog 23 #[.int .i64 (padAt ps q).day] V fun e w'=>e = .returned (.string (mkStr (Lib.decDigits (padAt ps q).day.toNat)))∧Below V.heap.size V w'):=uH (fun V=>by
     have:=lawDigits (padAt ps q).day.toNat V (by omega)
     rwa [Int.toNat_of_nonneg p0] at this)
    obtain ⟨x1,x2,x3,x4,x5,c1',c2',c3',c4',c5',e5⟩ : ∃ x1 x2 x3 x4 x5:ByteArray,(∀ W',(Op.stringOp .add (mkStr (filesT (ps.take q))) { data:=#[102,105,108,101,32] }).run Tryz.prog W' = .ok (.string x1) W')∧(∀ W',(Op.stringOp .add x1 (mkStr (Lib.decDigits (padAt ps q).day.toNat))).run Tryz.prog W' = .ok (.string x2) W')∧(∀ W',(Op.stringOp .add x2 { data:=#[32] }).run Tryz.prog W' = .ok (.string x3) W')∧(∀ W',(Op.stringOp .add x3 (padAt ps q).case).run Tryz.prog W' = .ok (.string x4) W')∧(∀ W',(Op.stringOp .add x4 { data:=#[10] }).run Tryz.prog W' = .ok (.string x5) W')∧x5=mkStr (filesT (ps.take (q+1))) :=
     ⟨_,_,_,_,_,fun W'=>run_add _ [102,105,108,101,32] (by simp only [List.length_cons,List.length_nil];omega) W',fun W'=>run_add _ _ (by simp only [List.length_append,List.length_cons,List.length_nil];omega) W',fun W'=>run_add _ [32] (by simp only [List.length_append,List.length_cons,List.length_nil];omega) W',fun W'=>by
      have:=run_add (P:=Tryz.prog) (filesT (ps.take q)++[102,105,108,101,32]++Lib.decDigits (padAt ps q).day.toNat++[32]) (padAt ps q).case.data.toList (by simp only [List.length_append,List.length_cons,List.length_nil];omega) W'
      rwa [mkStr_self] at this,fun W'=>run_add _ [10] (by simp only [List.length_append,List.length_cons,List.length_nil];omega) W',by rw [HNx.out q hlt]⟩
    have HE5:=uH e5;subst eA;clear e5 hg p0 p1 p2 hq hd;generalize mkStr (Lib.decDigits (padAt ps q).day.toNat)=xd at *;generalize mkStr (filesT (ps.take q))=x0 at *;generalize (padAt ps q).day=pd at *;generalize (padAt ps q).case=pc at *;(go_wp2_with fail);go_region_held3 (fun w'=>w'.cell? ⟨b,off+q * 2,none⟩=some (.int .i64 pd)∧w'.cell? ⟨b,off+q * 2+1,none⟩=some (.string pc)) (first | exact ⟨by assumption,by assumption⟩ | go_keep) (first
     | (go_at_call 23;refine (HDg.out _).mono ?_;rintro e w7 ⟨rfl,hb7⟩;have r0:=kcell hb7 (show World.cell? (World.drew _) _=_ from q0);have r1:=kcell hb7 (show World.cell? (World.drew _) _=_ from q1)))
    have b7:Below w4.heap.size w4 w7:=below_next hbr (((Below.refl _ _).drew).trans hb7);clear hb7;go_wp2;go_roundw
    case rel=>exact ⟨q+1,by omega,by go_num,by rw [HE5.out],b7⟩
    case measure=>simp [intOf];omega
   ·obtain rfl:N=q:=(by omega);have i4 : ¬ (N:Int) < (N:Int):=(by omega);have b6:=below_next b4 hbr;have j6:=below_next j4 hbr;have HF:Hid (ps.take N=ps):=uH (List.take_of_length_le (by rw [HN.out];exact Nat.le_refl _));rw [HF.out];generalize mkStr (filesT ps)=x0 at *;clear hbr HNx HLn HOk;(go_wp2_with fail);refine (HX.out wr b6).mono ?_;rintro e w5 ⟨rfl,hb5⟩;have b5:=below_next b6 hb5;have j5:=below_next j6 hb5;clear hb5;(go_wp2_with fail);refine (HOl.out w5).mono ?_;rintro e w6 ⟨rfl,rfl⟩;(go_wp2_with fail);refine (HCt.out w5 j5 b5).mono ?_;rintro e w7 ⟨rfl,hb7⟩;have b7:=below_next b5 hb7;(go_wp2_with fail);refine (HEl.out w7).mono ?_;rintro e w8 ⟨rfl,hb8⟩;have b8:=below_next b7 hb8;go_wp2;go_returns;exact ⟨rfl,b8⟩
set_option maxRecDepth 100000 in
theorem witness_row (os:Os) {H:Type} (enc:TypeId × Value→H) :
  (OpenSpec.ofChange Rows.fnExecuteCabinetSpec).preRow enc Tryz.prog Tryz.f8 Rows.fnExecuteCabinetRow.domain false Rows.fnExecuteCabinetRow.laid ((laidWorld os).forCall (fun _ _=>0) ⟨#[],#[.slice none 0 0],[]⟩).memory #[.slice none 0 0]:=by
 have hw:(DataW.whole enc Tryz.prog ((laidWorld os).forCall (fun _ _=>0) ⟨#[],#[.slice none 0 0],[]⟩).memory Tryz.f8.params.toList (OpenSpec.ofChange Rows.fnExecuteCabinetSpec).vars false #[.slice none 0 0].toList 8).map (fun x=>(x.1,x.2.1)) =
   some ([.nil],[]):=by kernel_rfl
 obtain ⟨⟨x1,x2,x3⟩,hx,hx1⟩:=Option.map_eq_some_iff.1 hw;simp only [Prod.mk.injEq] at hx1;obtain ⟨rfl,rfl⟩:=hx1;exact OpenSpec.preRow_of_cond 8 hx (by kernel_rfl) (fun k hk=>by cases hk) (by kernel_rfl) (laid_met os _)
set_option maxRecDepth 100000 in
theorem lifted (os:Os) (started:os.Started) (H:Type) (enc:TypeId × Value→H) (F0:Stop.Interp) :
  ReturnsInHanded {} Tryz.checked os 8 .any ((OpenSpec.ofChange Rows.fnExecuteCabinetSpec).preRow enc Tryz.prog Tryz.f8 Rows.fnExecuteCabinetRow.domain false Rows.fnExecuteCabinetRow.laid) (((OpenSpec.ofChange Rows.fnExecuteCabinetSpec).at F0).post enc Tryz.prog Tryz.f8 false true false false):=by
 refine returnsInHanded_of_row (C:=Tryz.checked) (s:=OpenSpec.ofChange Rows.fnExecuteCabinetSpec) own started (by kernel_rfl) Tryz.func8
  (witness_row_atRef (enc:=enc) (C:=Tryz.checked) false (laidWorld os) #[.slice none 0 0] rfl (by kernel_rfl) (by kernel_rfl) (by kernel_rfl) (witness_row os enc)) ?_
 intro W base args ds gs before hval0 hW _ _ _ hL _ _;have HLd:laidMet Tryz.prog laidL W:=hL;have hval : ∀ (j:Nat) t v,Tryz.f8.params[j]? = some t→args[j]? = some v→Value.okWide Tryz.prog W .any base t v:=hval0;have hW':=hW;obtain ⟨p,q,hA0,hV,rfl,hfz,hnd⟩:=hW;have hA:DataW.TrodAll enc Tryz.prog W 0 (fun _=>true) true Tryz.f8.params.toList args.toList ds p:=hA0;rw [Tryz.params8] at hA hval;obtain ⟨v0,vs0,d0,ds0,p0,q0,hargs,rfl,rfl,h0,r0⟩:=trodAll_cons hA;obtain ⟨rfl,rfl,rfl⟩:=trodAll_nil r0;obtain rfl:args=#[v0]:=(by cases args;simp_all);obtain ⟨rfl,rfl⟩:=trodVars_none hV;have k0:=h0;have lt0 : ∀ x∈p0,x.block < W.heap.size:=(by obtain ⟨m,hm⟩:=k0;exact DataW.trod_lt m _ _ _ hm);obtain ⟨A_0,n_0,c_0,bs_0,rfl,R_0⟩:=openBytes (hval 0 22 v0 rfl rfl) h0;clear hA0 hval0;refine (walk A_0 n_0 c_0 bs_0 W R_0 HLd).mono fun e W' ⟨he,bel⟩=>?_;subst he;exact ⟨_,rfl,_,_,_,[],_,[],hW',trodAll_mk1 (shut_bool Tryz.underlying4 _),(trodAll_cons_mk (Below.trod laidOut (by kernel_rfl) (of_decide_eq_true (by kernel_rfl)) k0 bel lt0) trodAll_mk0),rfl,bel.frame _,fun h=>by cases h⟩
set_option maxHeartbeats 16000000 in
set_option maxRecDepth 100000 in
theorem closed:joinedFacts Tryz.prog 8 Tryz.f8 (OpenSpec.ofChange Rows.fnExecuteCabinetSpec).bare Rows.fnExecuteCabinetRow=true:=by
 unfold joinedFacts;simp only [Bool.and_eq_true]
 repeat' apply And.intro
 all_goals (as_aux_lemma=>kernel_rfl)
theorem over:Rows.fnExecuteCabinetRow.holds Tryz.pinned (OpenSpec.ofChange Rows.fnExecuteCabinetSpec) :=
 OpenClaim.holds_of_cond 8 Tryz.f8 rfl rfl rfl rfl rfl rfl rfl ⟨rfl,rfl,rfl,rfl,rfl⟩ rfl rfl rfl rfl rfl (by kernel_rfl) Tryz.func8 closed
  (of_decide_eq_true (by kernel_rfl)) (by unfold Func.isWrapper;first | (rw [if_pos (by decide +kernel)];kernel_rfl) | (rw [if_neg (by decide +kernel)];exact ⟨rfl,rfl⟩))
  (fun os started H enc _ F0=>by rw [OpenClaim.pre_eq_preRow];exact lifted os started H enc F0)
theorem proved:Rows.FnExecuteCabinetCardSaid :=
 Claim7.holds_tied_plain_at .later [] Rows.fnExecuteCabinetCard.laidKinds true Rows.fnExecuteCabinetCard.stood.harness Rows.fnExecuteCabinetCard.stood.looks
  over (fun _ h=>by cases h) (by kernel_rfl) (fun _ h=>by cases h) fnExecuteCabinet_row_tie rfl ⟨rfl,rfl⟩ (by kernel_rfl) rfl
  (fun f fn hf hfn=>by
   obtain rfl : f = 8 := Option.some.inj ((show Tryz.prog.funcNamed "loop.example/shorthand/laws.FnExecuteCabinet" = some 8 by kernel_rfl).symm.trans hf) |>.symm; obtain rfl : fn = Tryz.f8 := (Option.some.inj (Tryz.func8.symm.trans hfn)).symm; exact ⟨by kernel_rfl, fun j t ht => by
    rw [Tryz.params8] at ht;have h3:t=22:=by
     rcases j with _ | j
     ·simpa using ht.symm
     ·simp at ht
    subst h3;exact (show Tryz.prog.wantsStandIn 22=false by kernel_rfl)⟩)
  (by kernel_rfl)
end Go.Proofs.YtbkhnljaajajiaaGreatDoor.fnExecuteCabinet
