/-
  Contracts and plain laws that the proofs lean on. Conditions: as each says.
-/
import Derived.Test.YtbkhnljaajajiaaGreatDoorPExecuteCopy03
set_option maxRecDepth 100000
set_option linter.unusedSimpArgs false
set_option linter.unusedVariables false
set_option linter.unnecessarySimpa false
namespace Go.Proofs.YtbkhnljaajajiaaGreatDoor
open Go.ChangeShapes Go.WideShapes Go.ChangeAt Go.RowKit
theorem BrOwn.rd {w w':World} {B g:Nat} {v:Value} {D:List Br} (h:BrOwn w B v D) (hg:w.grownBy w' (some g)) (hB:g < B) (hW : ∀ x∈D,0 < x.n→∀ a,x.A=some a→a.block≠g):BrOwn w' B v D :=
 ⟨ownG_only h.1 hg hB,fun x hx=>⟨WdsIn.grown (h.2 x hx).1 hg (fun hp a ha e=>hW x hx hp a ha (by injection e with e;exact e.symm)),fun hp a ha=>⟨((h.2 x hx).2 hp a ha).1,Nat.lt_of_lt_of_le ((h.2 x hx).2 hp a ha).2 hg.size⟩⟩⟩
theorem BrOwn.mono {w:World} {B B':Nat} {v:Value} {D:List Br} (h:BrOwn w B v D) (hB:B'≤B):BrOwn w B' v D:=⟨ownG_mono h.1 hB,h.2⟩
def ShortB (K:Nat) (x:Br):Prop:=x.mark.length≤40∧(∀ l∈x.words,l.length≤40)∧x.n≤100∧(0 < x.n→∀ a,x.A=some a→K≤a.block)
theorem shortB_of {w:World} {K:Nat} {xs:List Br} (h:brsB (xs.map Br.dat)=true) (hn:BrNew K xs) (hi : ∀ x∈xs,BrIn w w.heap.size x) : ∀ x∈xs,ShortB K x:=fun x hx=>by
 obtain ⟨i,hi2,rfl⟩:=List.mem_iff_getElem.1 hx;have h1:=((brsB_iff.1 h).2 i (by rw [List.length_map];exact hi2)).1;rw [brAt_dat hi2] at h1;have e:brAt xs i=xs[i]:=(by unfold brAt;rw [List.getD_eq_getElem?_getD,List.getElem?_eq_getElem hi2];rfl);rw [e] at h1;have h2:=bfB_iff.1 h1;have h3:=markB_len h2.1;have h4:bwB xs[i].words=true:=h2.2;unfold bwB at h4;rw [Bool.and_eq_true,List.all_eq_true,decide_eq_true_iff] at h4;refine ⟨by have:xs[i].dat.mark.length≤3:=h3.2;show xs[i].mark.length≤40;exact Nat.le_trans this (by omega),fun l hl=>?_,?_,fun _ a ha=>hn _ hx a ha⟩
 ·have:=h4.1 l hl;unfold wordB at this;rw [Bool.and_eq_true,Bool.and_eq_true] at this;have:=of_decide_eq_true this.2.2;omega
 ·have:=(hi _ hx).1;omega
theorem BrOwn.head {w:World} {B gb j:Nat} {v u:Value} {x x':Br} {r:List Br} (h:BrOwn w B v (x::r)) (hv:v.ownBlock=some gb) (hj:((x::r).flatMap brC).set j u=(x'::r).flatMap brC) (hx:BrIn w w.heap.size x'∧(0 < x'.n→∀ a,x'.A=some a→v.ownBlock≠some a.block∧a.block < w.heap.size)):BrOwn (w.setCell ⟨gb,j,none⟩ u) B v (x'::r):=by
 have h1:=own_set (j:=j) (u:=u) h.1 hv;rw [hj] at h1;have hg:=only_set1 w gb j u;have key : ∀ y:Br,BrIn w w.heap.size y∧(0 < y.n→∀ a,y.A=some a→v.ownBlock≠some a.block∧a.block < w.heap.size)→BrIn (w.setCell ⟨gb,j,none⟩ u) (w.setCell ⟨gb,j,none⟩ u).heap.size y∧(0 < y.n→∀ a,y.A=some a→v.ownBlock≠some a.block∧a.block < (w.setCell ⟨gb,j,none⟩ u).heap.size):=fun y hz =>
  ⟨WdsIn.grown hz.1 hg (fun hp p hpA e=>(hz.2 hp p hpA).1 (by rw [hv];exact e)),fun hp p hpA=>⟨(hz.2 hp p hpA).1,Nat.lt_of_lt_of_le (hz.2 hp p hpA).2 hg.size⟩⟩
 refine ⟨h1,fun y hy=>?_⟩;rcases List.mem_cons.1 hy with e | hy
 ·rw [e];exact key _ hx
 ·exact key _ (h.2 y (by simp [hy]))
def DrawnBs (W w:World) (e:Ending) (w':World):Prop :=
 ∃ (A:Option Addr) (L c:Nat) (xs:List Br),e = .returned (.slice A L c)∧xs.length=L∧L≤5∧(∀ x∈xs,ShortB w.heap.size x)∧BrOwn w' w.heap.size (.slice A L c) xs∧Below W.heap.size W w'∧w.heap.size≤w'.heap.size∧RdIn w' W.heap.size W.heap.size 1000
set_option maxHeartbeats 3200000 in
theorem l91Briefs (W w:World) (hB:Below W.heap.size W w) (hr:RdIn w W.heap.size W.heap.size 0) :
  Calls Tryz.prog 121 #[.pointer (some ⟨W.heap.size,0,none⟩)] w (DrawnBs W w):=by
 obtain ⟨j0,hj,hy0,hy1,hy2⟩:=info_parts infoWd;obtain ⟨i0,hi,hq0,hq1,hq2⟩:=info_parts infoBr;have hg:=hr.lt;have HP:=uH (pickR (n:=5) (hr.alloc' (.cells #[] 34)) (by omega) (by omega) (by omega));have hO0:=BrOwn.made w;have hB0:Below W.heap.size W (w.alloc (.cells #[] 34)):=hB.alloc hB.size _;clear hr hB;go_enter Tryz.func121,Tryz.ntmps121
 (go_wp2_with fail);refine HP.out.mono ?_;rintro e w1 ⟨N,rfl,hN,hg1,hr1⟩;have HO1:=uH (hO0.rd hg1 hg (by simp));have HB1:Hid (Below W.heap.size W w1):=uH (hB0.grown hg1 hB0.size (fun k hk=>by injection hk with hk;omega));have HR1:=uH hr1;have hz1w:w.heap.size≤w1.heap.size:=(by have:=hg1.size;simp at this;omega);clear hO0 hB0 hg1 hr1 HP;go_wp2;go_loopw [3,5] (fun s3 s5 wr=>∃ (k L:Nat) (zs:List Br) (A:Option Addr) (c:Nat),k≤N∧L≤k∧s3 = .slice A L c∧s5 = .int .i64 k∧Hid (zs.length=L)∧Hid (brsB (zs.map Br.dat)=true)∧Hid (BrNew w.heap.size zs)∧Hid (BrOwn wr w.heap.size (.slice A L c) zs)∧Hid (Below W.heap.size W wr)∧w.heap.size≤wr.heap.size∧Hid (RdIn wr W.heap.size W.heap.size (1+100 * k))) (fun _ i _=>N - (intOf i).toNat)
 case atStart=>exact ⟨0,0,[],_,0,Nat.zero_le _,Nat.le_refl _,rfl,rfl,uH rfl,uH (brsB_iff.2 ⟨by simp,fun i hi=>by simp at hi⟩),uH (by intro x hx;simp at hx),HO1,HB1,hz1w,HR1⟩
 case round =>
  obtain ⟨k,L,zs,A,c,hk,hLk,rfl,rfl,HL,HV,HN,HO,HB,hzr,HR⟩:=hrel;have k0:(0:Int)≤(k:Int):=(by omega);have HSh:Hid (∀ x∈zs,ShortB w.heap.size x):=uH (shortB_of HV.out HN.out (fun x hx=>(HO.out.2 x hx).1));have HZ:Hid (∀ x∈zs,0 < x.n→∀ a,x.A=some a→a.block≠W.heap.size):=uH (fun x hx _ a ha=>by have:=HN.out x hx a ha;omega);by_cases hlt:k < N
  ·have k1:(k:Int) < (N:Int):=(by omega);have HSp:=uH (l91Speech W.heap.size W.heap.size (1+100 * k) 2 wr (by omega) (by omega) HR.out HB.out.size);(go_wp2_with fail);refine HSp.out.mono ?_;rintro e w3 ⟨v3,ws3,rfl,hl3,hs3,ho3,hg3,hr3⟩;obtain ⟨A3,c3,rfl,hc3,hm3⟩:=ownG_form ho3;have hz3:=hg3.size;have HOf:=uH (fun cs t h=>ofNew W.heap.size W.heap.size (1+100 * k+30) 3 [⟨#[119,101]⟩,⟨#[97,114,101]⟩,⟨#[110,111,116]⟩] cs t w3 h rfl (by omega) (by omega) (by decide) (by omega) hr3);have HG3:=uH hg3;have HW3:=uH ho3;have HS3:=uH hs3;obtain ⟨n3,hn3⟩ : ∃ n3,n3=ws3.length:=⟨_,rfl⟩;rw [← hn3] at hl3 HW3 ⊢;have HN3:=uH hn3.symm;clear hs3 ho3 hg3 hr3 HSp hn3;(go_wp2_with fail);refine (HOf.out _ _ rfl).mono ?_;rintro e w4 ⟨l,hl4,rfl,hg4,hr4⟩;have HO3:Hid (w4.ownsRow wr.heap.size 9 1 (.slice A3 n3 c3) n3 (ws3.map strP)):=uH (by have:=ownG_only HW3.out hg4 (by omega);rwa [HN3.out] at this);have HG4:=uH (only_alloc (only_next HG3.out hg4) (.cells #[.string (mkStr l)] 9));have HR4:=uH (hr4.alloc' (.cells #[.string (mkStr l)] 9));have hbs:wr.heap.size≤(w4.alloc (.cells #[.string (mkStr l)] 9)).heap.size:=HG4.out.size;have hrow:=rowStr1 w4 (.string (mkStr l)) 9;clear hg4 hr4 HOf HG3 HW3 HR;go_wp2_with (at_builtin;refine wpList_append_any _ rfl (.tmp 18) (.tmp 22) _ rfl wr.heap.size 9 j0 _ 1 16 Tryz.underlying27 hj hy0 hy1 hy2 rfl (by omega) _ n3 (ws3.map strP) rfl (World.ownsRow.alloc HO3.out _) (w4.heap.size+1) (some ⟨w4.heap.size,0,none⟩) 1 1 [.string (mkStr l)] rfl hrow (by simp [Value.oneCell']) (by unfold maxLen;omega) (by omega) hbs ?_;intro v5 w5 hown5 hg5 hat5)
   obtain ⟨A5,c5,rfl,_,_⟩:=ownG_form hown5;have HW5:Hid (WdOwn w5 wr.heap.size (.slice A5 (n3+1) c5) (ws3++[l])):=uH (by unfold WdOwn;rw [List.length_append,HN3.out,List.map_append];exact hown5);have hBk : ∀ q,(Value.slice A3 n3 c3).ownBlock=some q→wr.heap.size≤q:=fun q hq=>ownG_base HO3.out hq;have HG5:=uH (own_after' HG4.out hg5 hBk);have hz5:=HG5.out.size;have HR5:Hid (RdIn w5 W.heap.size W.heap.size (1+100 * k+30+1)):=uH (HR4.out.far hg5 (fun q hq=>⟨by have:=hBk q hq;omega,by have:=hBk q hq;omega⟩) (by omega));have HO5:=uH (HO.out.rd HG5.out hg HZ.out);have HB5:Hid (Below W.heap.size W w5):=uH (HB.out.grown HG5.out HB.out.size (fun k hk=>by injection hk with hk;omega));have HL5:Hid ((ws3++[l]).length=n3+1):=uH (by rw [List.length_append,HN3.out];rfl);have HS5:Hid (∀ x∈ws3++[l],x.length≤40):=uH (fun x hx=>by
    rcases List.mem_append.1 hx with h | h
    ·exact HS3.out x h
    ·rw [List.mem_singleton] at h;rw [h];exact hl4)
   have HOf2:=uH (fun cs t h=>ofNew W.heap.size W.heap.size (1+100 * k+30+1) 5 [⟨#[65]⟩,⟨#[66]⟩,⟨#[87,69]⟩,⟨#[78,79,84]⟩,⟨#[81]⟩] cs t w5 h rfl (by omega) (by omega) (by decide) (by omega) HR5.out);clear hown5 hg5 hat5 HO3 HG4 HR4 hrow hbs hBk HO HB HS3 HN3 HG5 HR5;(go_wp2_with fail);refine (HOf2.out _ _ rfl).mono ?_;rintro e w6 ⟨m,hm6,rfl,hg6,hr6⟩;have hz6:=hg6.size;have HO6:=uH (HO5.out.rd hg6 hg HZ.out);have HB6:Hid (Below W.heap.size W w6):=uH (HB5.out.grown hg6 HB5.out.size (fun k hk=>by injection hk with hk;omega));have HW6:Hid (WdsIn w6 w6.heap.size A5 (n3+1) c5 (ws3++[l])):=uH (WdsIn.grown (WdOwn.reads HW5.out HL5.out) hg6 (fun hp a ha e=>by
    injection e with e;subst ha;have:=ownG_base HW5.out rfl;omega))
   have HR6:=uH hr6;have HAd:=uH (specBriefsAdd A L c zs ⟨m,A5,n3+1,c5,ws3++[l]⟩ w6 (by omega) (fun x hx=>by
    rcases List.mem_append.1 hx with h | h
    ·have:=HSh.out x h;exact ⟨by unfold maxLen;have:=this.1;omega,fun l hl=>by have:=this.2.1 l hl;unfold maxLen;omega⟩
    ·rw [List.mem_singleton] at h;rw [h];exact ⟨by show m.length≤maxLen;unfold maxLen;omega,fun y hy=>by have:=HS5.out y hy;unfold maxLen;omega⟩) (fun x hx=>by
    rcases List.mem_append.1 hx with h | h
    ·have:=(HSh.out x h).2.2.1;omega
    ·rw [List.mem_singleton] at h;rw [h];show n3+1≤1000;omega) (HO6.out.reads HL.out) HW6.out)
   clear hg6 hr6 HOf2 HO5 HB5 HW5 HW6 HL5 HS5;(go_wp2_with fail);refine HAd.out.mono ?_;rintro e w7 ⟨hA,hb7⟩;have hz7:=hb7.size;have HB7:Hid (Below W.heap.size W w7):=uH (below_next HB6.out hb7);have HR7:=uH ((HR6.out.below hb7).more (show 1+100 * k+30+1+1≤1+100 * (k+1) by omega));rcases hA with ⟨_,A7,c7,rfl⟩ | ⟨A7,c7,xs7,ho,rfl,hO7,hN7⟩
   ·have HO7:=uH (HO6.out.keep hb7);clear hb7 HO6 HB6 HR6 HAd HZ HSh;go_wp2;go_roundw
    case rel=>exact ⟨k+1,L,zs,A,c,by omega,by omega,rfl,by go_num,HL,HV,HN,HO7,HB7,by omega,HR7⟩
    case measure=>simp [intOf];omega
   ·have hv7:brsB (xs7.map Br.dat)=true∧xs7.length=L+1:=by
     unfold addO at ho;split at ho
     ·rename_i hc
      injection ho with ho;rw [← ho];refine ⟨hc,?_⟩;have:=congrArg List.length ho;rw [List.length_append,List.length_map,List.length_map,HL.out] at this;exact this.symm
     ·cases ho
    obtain ⟨L7,hL7⟩ : ∃ L7,L7=xs7.length:=⟨_,rfl⟩;have hLe:L7≤L+1:=(by omega);rw [← hL7] at hO7 ⊢;have HL7:=uH hL7.symm;have HV7:=uH hv7.1;have HO7:=uH (hO7.mono (show w.heap.size≤w6.heap.size by omega));have HN7:Hid (BrNew w.heap.size xs7):=uH (fun x hx a ha=>by have:=hN7 x hx a ha;omega);clear hb7 HO6 HB6 HR6 HAd HZ HSh ho hO7 hN7 hv7 hL7;go_wp2;go_roundw
    case rel=>exact ⟨k+1,L7,xs7,A7,c7,by omega,by omega,rfl,by go_num,HL7,HV7,HN7,HO7,HB7,by omega,HR7⟩
    case measure=>simp [intOf];omega
  ·obtain rfl:k=N:=(by omega);by_cases h0:L=0
   ·subst h0;have HF:Hid (DrawnBs W w (.returned (.slice A 0 c)) wr):=uH ⟨A,0,c,zs,rfl,HL.out,by omega,HSh.out,HO.out,HB.out,hzr,HR.out.more (by omega)⟩;clear HL HV HN HO HB HR HSh HZ;go_wp2;go_ret;exact HF.out
   ·have z0:(0:Int) < (L:Int):=(by omega);have z1:decide (0 < L)=true:=decide_eq_true (by omega);have HP:=uH (pickR (n:=40) HR.out (by omega) (by omega) (by omega));obtain ⟨gb,cap,hA,hgb,_,_,hob⟩:=own_some (show wr.ownsRow w.heap.size 34 2 (.slice A L c) L (zs.flatMap brC) from HL.out ▸ HO.out.1) (by omega);injection hA with hA hkk hc;clear hkk;subst hA hc;(go_wp2_with fail);refine HP.out.mono ?_;rintro e w2 ⟨m,rfl,hm,hg2,hr2⟩;have hz2:=hg2.size;have HO2:=uH (HO.out.rd hg2 hg HZ.out);have HB2:Hid (Below W.heap.size W w2):=uH (HB.out.grown hg2 HB.out.size (fun k hk=>by injection hk with hk;omega));have HR2:=uH (hr2.more (show 1+100 * k+1≤900 by omega));clear hg2 hr2 HP HO HB HR;cases zs with
    | nil=>exact absurd HL.out (by simp;omega)
    | cons x0 r =>
     have hzr2:w.heap.size≤w2.heap.size:=(by omega);by_cases m0:m=0
     ·subst m0;have HOf:=uH (fun cs t h=>ofNew W.heap.size W.heap.size 900 3 [⟨#[]⟩,⟨#[97]⟩,⟨#[65,66,67,68]⟩] cs t w2 h rfl (by omega) (by omega) (by decide) (by omega) HR2.out);(go_wp2_with fail);refine (HOf.out _ _ rfl).mono ?_;rintro e w3 ⟨l,hl3,rfl,hg3,hr3⟩;have hz3:=hg3.size;have hO3:=HO2.out.rd hg3 hg HZ.out;obtain ⟨d0,f0⟩:=own_cell (j:=0) hO3.1 rfl (show ((x0::r).flatMap brC)[0]? = some (.string (mkStr x0.mark)) from rfl);have hb3:Below W.heap.size W w3:=HB2.out.grown hg3 HB2.out.size (fun k hk=>by injection hk with hk;omega);have HF:Hid (DrawnBs W w (.returned (.slice (some ⟨gb,0,none⟩) L c)) (w3.setCell ⟨gb,0,none⟩ (.string (mkStr l)))):=uH ⟨_,L,c,{ x0 with mark:=l }::r,rfl,HL.out,by omega,fun x hx=>by
       rcases List.mem_cons.1 hx with h | h
       ·have:=HSh.out x0 (by simp);rw [h];exact ⟨hl3,this.2⟩
       ·exact HSh.out x (by simp [h]),hO3.head (x':={ x0 with mark:=l }) hob rfl (hO3.2 x0 (by simp)),hb3.setCell (by simp;omega) _,by simp;omega,(hr3.set' (p:=⟨gb,0,none⟩) (by simp;omega) (by simp;omega) _).more (by omega)⟩
      clear hO3 hb3 hg3 hr3 HOf HO2 HB2 HR2 HZ HSh HL HV HN;go_wp2;go_ret;exact HF.out
     ·by_cases m1:m=1
      ·subst m1;have hal:Below w2.heap.size w2 (w2.alloc (.cells #[] 9)):=(Below.refl _ _).alloc (Nat.le_refl _) _;have hO3:=HO2.out.keep hal;obtain ⟨d0,f0⟩:=own_cell (j:=1) hO3.1 rfl (show ((x0::r).flatMap brC)[1]? = some (.slice x0.A x0.n x0.c) from rfl);have hb3:=HB2.out.alloc HB2.out.size (.cells #[] 9);have hr3:=HR2.out.alloc' (.cells #[] 9);have HF:Hid (DrawnBs W w (.returned (.slice (some ⟨gb,0,none⟩) L c)) ((w2.alloc (.cells #[] 9)).setCell ⟨gb,1,none⟩ (.slice (some ⟨w2.heap.size,0,none⟩) 0 0))):=uH ⟨_,L,c,⟨x0.mark,some ⟨w2.heap.size,0,none⟩,0,0,[]⟩::r,rfl,HL.out,by omega,fun x hx=>by
        rcases List.mem_cons.1 hx with h | h
        ·have:=HSh.out x0 (by simp);rw [h];exact ⟨this.1,by simp,by show 0≤100;omega,fun h=>absurd h (by show ¬ 0 < 0;omega)⟩
        ·exact HSh.out x (by simp [h]),hO3.head (x':=⟨x0.mark,some ⟨w2.heap.size,0,none⟩,0,0,[]⟩) hob rfl ⟨⟨rfl,Nat.le_refl _,by show 0≤maxLen;unfold maxLen;omega,⟨rfl,fun h=>absurd h (by show ¬ 0 < 0;omega)⟩⟩,fun h=>absurd h (by show ¬ 0 < 0;omega)⟩,hb3.setCell (by simp;omega) _,by simp;omega,(hr3.set' (p:=⟨gb,1,none⟩) (by simp;omega) (by simp;omega) _).more (by omega)⟩
       clear hO3 hb3 hr3 HO2 HB2 HR2 HZ HSh HL HV HN hal m0;go_wp2;go_ret;exact HF.out
      ·by_cases m2:m=2
       ·subst m2;obtain ⟨d0,f0⟩:=own_cell (j:=0) HO2.out.1 rfl (show ((x0::r).flatMap brC)[0]? = some (.string (mkStr x0.mark)) from rfl);obtain ⟨d1,f1⟩:=own_cell (j:=1) HO2.out.1 rfl (show ((x0::r).flatMap brC)[1]? = some (.slice x0.A x0.n x0.c) from rfl);have hal:Below w2.heap.size w2 (w2.alloc (.cells #[.string (mkStr x0.mark),.slice x0.A x0.n x0.c] 34)):=(Below.refl _ _).alloc (Nat.le_refl _) _;have HO3:=uH (HO2.out.keep hal);have HB3:=uH (HB2.out.alloc HB2.out.size (.cells #[.string (mkStr x0.mark),.slice x0.A x0.n x0.c] 34));have HR3:=uH (HR2.out.alloc' (.cells #[.string (mkStr x0.mark),.slice x0.A x0.n x0.c] 34));have HX0:=uH (HO3.out.2 x0 (by simp));have hrow:=rowNewBr w2 (.string (mkStr x0.mark)) (.slice x0.A x0.n x0.c) 34;have hbs:w.heap.size≤(w2.alloc (.cells #[.string (mkStr x0.mark),.slice x0.A x0.n x0.c] 34)).heap.size:=(by simp;omega);have hown3:(w2.alloc (.cells #[.string (mkStr x0.mark),.slice x0.A x0.n x0.c] 34)).ownsRow w.heap.size 34 2 (.slice (some ⟨gb,0,none⟩) L c) L ((x0::r).flatMap brC):=(by have:=HO3.out.1;rwa [HL.out] at this);clear hal HO2 HB2 HR2 m0 m1;go_wp2_with (at_builtin;refine wpList_append_any _ rfl (.tmp 57) (.tmp 61) _ rfl w.heap.size 34 i0 _ 2 40 Tryz.underlying26 hi hq0 hq1 hq2 rfl (by omega) _ L ((x0::r).flatMap brC) rfl hown3 (w2.heap.size+1) (some ⟨w2.heap.size,0,none⟩) 1 1 [.string (mkStr x0.mark),.slice x0.A x0.n x0.c] rfl hrow (by simp [Value.oneCell']) (by unfold maxLen;omega) (by omega) hbs ?_;intro v7 w7 hown7 hg7 hat7)
        obtain ⟨A7,c7,rfl,_,_⟩:=ownG_form hown7;have HF:Hid (DrawnBs W w (.returned (.slice A7 (L+1) c7)) w7):=uH ⟨A7,L+1,c7,(x0::r)++[x0],rfl,by rw [List.length_append,HL.out];rfl,by omega,fun x hx=>by
         rcases List.mem_append.1 hx with h | h
         ·exact HSh.out x h
         ·rw [List.mem_singleton] at h;rw [h];exact HSh.out x0 (by simp),BrOwn.push HO3.out HX0.out.1 HX0.out.2 (by rw [HL.out];exact hown7) hg7 hat7,HB3.out.grown hg7 HB3.out.size (fun q hq=>by have:=ownG_base HO3.out.1 hq;omega),by have:=hg7.size;omega,(HR3.out.far hg7 (fun q hq=>by have:=ownG_base HO3.out.1 hq;exact ⟨by omega,by omega⟩) (by simp;omega)).more (by omega)⟩
        clear hown7 hg7 hat7 hrow hbs HO3 HB3 HR3 HX0 HZ HSh HL HV HN;go_wp2;go_ret;exact HF.out
       ·have e0:((m:Int) == 0)=false:=beq_eq_false_iff_ne.2 (by omega);have e1:((m:Int) == 1)=false:=beq_eq_false_iff_ne.2 (by omega);have e2:((m:Int) == 2)=false:=beq_eq_false_iff_ne.2 (by omega);have HF:Hid (DrawnBs W w (.returned (.slice (some ⟨gb,0,none⟩) L c)) w2):=uH ⟨_,L,c,x0::r,rfl,HL.out,by omega,HSh.out,HO2.out,HB2.out,hzr2,HR2.out.more (by omega)⟩;clear HO2 HB2 HR2 HZ HSh HL HV HN m0 m1 m2;go_wp2;go_ret;exact HF.out
def DrawnCp (W:World) (e:Ending) (w':World):Prop :=
 ∃ (A:Option Addr) (n c:Nat) (xs:List Br) (A':Option Addr) (n' c':Nat) (ws:List Wd),e = .returned (.tuple #[.slice A n c,.slice A' n' c'])∧n≤5∧n'≤8 ∧
  BrsIn w' w'.heap.size A n c xs∧OkBs xs∧(∀ x∈xs,x.n≤1000)∧WdsIn w' w'.heap.size A' n' c' ws∧(∀ l∈ws,l.length≤1000)∧Below W.heap.size W w'
theorem l91Talked (W w:World) (hB:Below W.heap.size W w) (hr:RdIn w W.heap.size W.heap.size 0) :
  Calls Tryz.prog 57 #[.pointer (some ⟨W.heap.size,0,none⟩)] w (DrawnCp W):=by
 have hg:=hr.lt;have HT:=uH (l91Briefs W w hB hr);clear hB hr;go_enter Tryz.func57,Tryz.ntmps57
 (go_wp2_with fail);refine HT.out.mono ?_;rintro e w1 ⟨A,L,c,xs,rfl,hL,hL5,hS,hO,hb1,hz1,hr1⟩;have HSp:=uH (l91Speech W.heap.size W.heap.size 1000 8 w1 (by omega) (by omega) hr1 hb1.size);have HEnd:Hid (∀ w2 A' n' c' ws,w1.grownBy w2 (some W.heap.size)→n'≤8→WdsIn w2 w2.heap.size A' n' c' ws→(∀ l∈ws,l.length≤40)→DrawnCp W (.returned (.tuple #[.slice A L c,.slice A' n' c'])) w2):=uH (fun w2 A' n' c' ws hg2 h8 hi hs =>
  ⟨A,L,c,xs,A',n',c',ws,rfl,hL5,h8,(hO.rd hg2 hg (fun x hx hp a ha=>by have:=(hS x hx).2.2.2 hp a ha;omega)).reads hL,fun x hx=>⟨by have:=(hS x hx).1;unfold maxLen;omega,fun l hl=>by have:=(hS x hx).2.1 l hl;unfold maxLen;omega⟩,fun x hx=>by have:=(hS x hx).2.2.1;omega,hi,fun l hl=>by have:=hs l hl;omega,hb1.grown hg2 hb1.size (fun k hk=>by injection hk with hk;omega)⟩)
 clear hL hS hO hb1 hr1 HT;(go_wp2_with fail);refine HSp.out.mono ?_;rintro e w2 ⟨v,ws,rfl,hl2,hs2,ho2,hg2,hr2⟩;obtain ⟨A2,c2,rfl,_,_⟩:=ownG_form ho2;have HF:=uH (HEnd.out w2 A2 ws.length c2 ws hg2 hl2 (WdOwn.reads ho2 rfl) hs2);clear hs2 ho2 hg2 hr2 HSp HEnd;go_wp2;go_returns;exact HF.out
theorem drawCopyBest (A:Option Addr) (n c:Nat) (bs:List Int) (w:World) (hb:BytesIn w w.heap.size A n c bs) :
  Calls Tryz.prog 16 #[.slice A n c] w (DrawnCp w):=by
 have HO:=uH (l6Open A n c bs w.heap.size w (Nat.le_refl _) hb);clear hb;go_enter Tryz.func16,Tryz.ntmps16
 (go_wp2_with fail);refine HO.out.mono ?_;rintro e w1 ⟨rfl,b1,hr1⟩;have HT:=uH (l91Talked w w1 b1 hr1);clear hr1 b1 HO;(go_wp2_with fail);refine HT.out.mono ?_;rintro e w2 ⟨A0,n0,c0,xs,A1,n1,c1,ws,rfl,hF⟩;have HF:Hid (DrawnCp w (.returned (.tuple #[.slice A0 n0 c0,.slice A1 n1 c1])) w2):=uH ⟨A0,n0,c0,xs,A1,n1,c1,ws,rfl,hF⟩;clear hF HT;go_wp2;go_returns;exact HF.out
end Go.Proofs.YtbkhnljaajajiaaGreatDoor
