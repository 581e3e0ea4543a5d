/-
  Contracts and plain laws that the proofs lean on. Conditions: as each says.
-/
import Derived.Test.YtbkhnljaajajiaaGreatDoorPExecuteCabinet03
import Derived.Test.YtbkhnljaajajiaaGreatDoorPExecuteCabinet04
import Derived.Test.YtbkhnljaajajiaaGreatDoorPExecuteCabinet05
set_option maxRecDepth 100000
set_option linter.unusedSimpArgs false
set_option linter.unusedVariables false
set_option linter.unnecessarySimpa false
namespace Go.Proofs.YtbkhnljaajajiaaGreatDoor
open Go.ChangeShapes Go.WideShapes Go.ChangeAt Go.RowKit
def DrawnP (w:World) (e:Ending) (w':World):Prop :=
 ∃ A c ps,e = .returned (.slice A ps.length c)∧PadsIn w' w'.heap.size A ps.length c ps∧ps.length≤15∧Below w.heap.size w w'
theorem DrawnP.of {w w':World} {B m:Nat} {v:Value} {ps:List Pad} {e:Ending} (he:e = .returned v) (hO:PadsOwn w' B v ps) (hg : ∀ p∈ps,p.good) (hn:ps.length≤m) (hm:m≤15) (hb:Below w.heap.size w w'):DrawnP w e w':=by
 obtain ⟨A,c,rfl,_⟩:=own_form hO;exact ⟨A,c,ps,he,hO.reads rfl hg,by omega,hb⟩
set_option maxHeartbeats 1600000 in
theorem drawCabinetOf (A:Option Addr) (n c:Nat) (bs:List Int) (w:World) (hb:BytesIn w w.heap.size A n c bs) :
  Calls Tryz.prog 31 #[.slice A n c] w (DrawnP w):=by
 obtain ⟨i0,hi,hz0,hz1,hz2⟩:=info_parts infoPad;have hg0:Tryz.prog.eqGuardType Tryz.prog.depth 53=false:=(by kernel_rfl);have HO:=uH (l6Open A n c bs w.heap.size w (Nat.le_refl _) hb);clear hb;go_enter Tryz.func31,Tryz.ntmps31
 (go_wp2_with fail);refine HO.out.mono ?_;rintro e w1 ⟨rfl,hb1,hr1⟩;have z1:=hb1.size;have HP:=uH (l92Pads w.heap.size w.heap.size 0 w1 (by omega) hr1 z1);clear hr1 HO;(go_wp2_with fail);refine HP.out.mono ?_;rintro e w2 ⟨A2,c2,ps,rfl,hO2,hl2,hs2,hg2,hr2⟩;have b2:=hb1.grown hg2 z1 (fun k hk=>by injection hk with hk;omega);have z2:=b2.size;have HPk:=uH (pick 8 w.heap.size w.heap.size 100 w2 (by omega) (by omega) (by omega) hr2 );have HR2:=uH hr2;have HO2:=uH hO2;have HG:=uH (fun p (hp:p∈ps)=>small_good (hs2 p hp));clear hr2 hO2 hs2 HP hg2 hb1;(go_wp2_with fail);refine HPk.out.mono ?_;rintro e w3 ⟨m,rfl,hm0,hm1,hg3,hr3⟩;have b3:=b2.grown hg3 z2 (fun k hk=>by injection hk with hk;omega);have hO3:=PadsOwn.only HO2.out hg3 (fun b hb=>HR2.out.ne_own HO2.out (by decide) b hb);have HO3:=uH hO3;clear hO3 hg3 hr3 HR2 HO2 HPk b2 hm1;by_cases hm:m=0
 ·subst hm;go_wp2;go_returns;exact .of rfl HO3.out HG.out (Nat.le_refl _) hl2 b3
 ·have hm1:(m == 0)=false:=beq_eq_false_iff_ne.2 hm;have HP3:=uH (HO3.out.reads rfl HG.out);have hnc:=HP3.out.2.1;have hcm:=HP3.out.2.2.1;unfold maxLen at hcm;clear hm HO3;generalize hN:ps.length=N at *;have HN:=uH hN;clear hN;go_wp2;go_loopw [5,6] (fun v i wr=>∃ (k:Nat) (qs:List Pad),k≤N∧i = .int .i64 k∧qs.length≤k∧Hid (PadsOwn wr w3.heap.size v qs)∧Hid (∀ p∈qs,p.good)∧Below w3.heap.size w3 wr) (fun _ i _=>N - (intOf i).toNat)
  case atStart =>
   refine ⟨0,[],Nat.zero_le _,rfl,Nat.le_refl _,uH ?_,uH (by simp),(Below.refl _ _).alloc (Nat.le_refl _) _⟩;have h0:(w3.alloc (.cells #[] 53)).ownsRow w3.heap.size 53 2 (.slice (some ⟨w3.heap.size,0,none⟩) 0 0) 0 []:=World.ownsRow_made w3 #[] 0 (Nat.le_refl _) (by simp) (by simp);exact h0
  case round =>
   obtain ⟨k,qs,hk,rfl,hql,hO,hQ,hbr⟩:=hrel;by_cases hlt:k < N
   ·obtain ⟨A5,c5,e5,hnc5,hcm5⟩:=own_form hO.out;subst e5;have HR5:=uH (hO.out.reads rfl hQ.out);obtain ⟨b,off,eA,hbB,q0,q1,hg⟩:=(HP3.out.keep hbr).at_ hlt;have HV:=uH (specPadValid (padAt ps k).day (padAt ps k).case wr hg.2);subst eA;generalize padAt ps k=p at *;generalize padB p.day p.case.data.toList=f0 at *;generalize hM:qs.length=M at *;have HM:=uH hM;clear hM;unfold maxLen at hcm5;(go_wp2_with fail);refine HV.out.mono ?_;rintro e w5 ⟨rfl,hb5⟩;have p0:=kcell hb5 q0;have p1:=kcell hb5 q1;have HR6:=uH (HR5.out.keep hb5);have HO6:=uH (hO.out.keep hb5);have b5:=below_next hbr hb5;clear HV q0 q1 hb5 HR5 hO hbr;go_wp2;go_loopw [7,8] (fun f j wr'=>∃ (b:Bool) (q:Nat),q≤M∧f = .bool b∧j = .int .i64 q∧Below w5.heap.size w5 wr') (fun _ j _=>M - (intOf j).toNat)
    case atStart=>exact ⟨f0,0,Nat.zero_le _,rfl,rfl,Below.refl _ _⟩
    case round =>
     obtain ⟨f,q,hq,rfl,rfl,hbq⟩:=hrel;by_cases hlq:q < M
     ·obtain ⟨b6,off6,eA6,hbB6,y0,y1,_⟩:=(HR6.out.keep hbq).at_ hlq;have x0:=kcell hbq p0;have x1:=kcell hbq p1;subst eA6;have hE : ∀ W,(binOp .neq 53 (.agg #[.int .i64 (padAt qs q).day,.string (padAt qs q).case]) (.agg #[.int .i64 p.day,.string p.case])).run Tryz.prog W = .ok (.bool (notP p (padAt qs q))) W:=fun W=>neqPadRun _ _ _ _ W;generalize padAt qs q=r at *;generalize notP p r=f1 at *;have r0:=qcell x0;have r1:=qcell x1;have r2:=qcell y0;have r3:=qcell y1;cases f with
      | true =>
       (go_wp2_with fail);refine region_qb (by kernel_rfl) (by kernel_rfl) ?_;repeat (first | go_big_quiet_step (fail) | quiet_step (fail))
       refine wpQuiet_nil ?_;intro w7 hb7;have b7:=below_next hbq hb7;clear r0 r1 r2 r3 x0 x1 y0 y1 hb7;go_wp2;go_roundw
       case rel=>exact ⟨f1,q+1,by omega,rfl,by go_num,b7⟩
       case measure=>simp [intOf];omega
      | false =>
       (go_wp2_with fail);refine region_qb (by kernel_rfl) (by kernel_rfl) ?_;repeat (first | go_big_quiet_step (fail) | quiet_step (fail))
       refine wpQuiet_nil ?_;intro w7 hb7;have b7:=below_next hbq hb7;clear r0 r1 r2 r3 x0 x1 y0 y1 hb7;go_wp2;go_roundw
       case rel=>exact ⟨false,q+1,by omega,rfl,by go_num,b7⟩
       case measure=>simp [intOf];omega
     ·have b7:=below_next b5 hbq;have HO7:=uH (HO6.out.keep hbq);have x0:=kcell hbq p0;have x1:=kcell hbq p1;have z7:=b7.size;clear hbq HO6 HR6 p0 p1;cases f with
      | false =>
       go_wp2;go_roundw
       case rel=>exact ⟨k+1,qs,by omega,by go_num,by have:=HM.out;omega,HO7,hQ,b7⟩
       case measure=>simp [intOf];omega
      | true =>
       go_wp2_with (at_builtin;refine wpList_append_any _ rfl (.tmp 48) (.tmp 53) _ rfl w3.heap.size 53 i0 _ 2 24 Tryz.underlying46 hi hz0 hz1 hz2 rfl (by omega) _ M (qs.flatMap padC) rfl (by have h:=HO7.out;unfold PadsOwn at h;rw [HM.out] at h;exact h.alloc _) (wr.heap.size+1) (some ⟨wr.heap.size,0,none⟩) 1 1 [.int .i64 p.day,.string p.case] rfl (rowNewPad _ _ _ _) (by simp [Value.oneCell']) (by unfold maxLen;omega) (by omega) (by simp;omega) ?_;intro v8 w8 hown8 hg8 hat8)
       have HO8:Hid (PadsOwn w8 w3.heap.size v8 (qs++[p])):=uH (by unfold PadsOwn;rw [List.length_append,List.flatMap_append,HM.out];exact hown8);have HQ8:Hid (∀ x∈qs++[p],x.good):=uH (fun x hx=>by
        rcases List.mem_append.1 hx with hx | hx
        ·exact hQ.out x hx
        ·rw [List.mem_singleton] at hx;subst hx;exact hg)
       have b8:Below w3.heap.size w3 w8:=(b7.alloc z7 _).grown hg8 (by simp;omega) (fun z hz=>own_base HO7.out hz);clear hown8 hg8 hat8 HO7;go_wp2;go_roundw
       case rel=>exact ⟨k+1,qs++[p],by omega,by go_num,by rw [List.length_append,HM.out];simp;omega,HO8,HQ8,b8⟩
       case measure=>simp [intOf];omega
   ·obtain rfl:k=N:=(by omega);have HO4:=uH (b3.trans (hbr.mono b3.size));go_wp2;go_ret;exact .of rfl hO.out hQ.out hql hl2 HO4.out
end Go.Proofs.YtbkhnljaajajiaaGreatDoor
