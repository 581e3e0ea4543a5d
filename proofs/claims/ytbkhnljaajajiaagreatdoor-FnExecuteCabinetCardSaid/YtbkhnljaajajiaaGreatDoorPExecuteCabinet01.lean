/-
  Contracts and plain laws that the proofs lean on. Conditions: as each says.
-/
import Derived.Test.YtbkhnljaajajiaaGreatDoorPExecuteCabinet00
import Derived.Test.YtbkhnljaajajiaaGreatDoorPX07
set_option maxRecDepth 100000
set_option linter.unusedSimpArgs false
set_option linter.unusedVariables false
set_option linter.unnecessarySimpa false
namespace Go.Proofs.YtbkhnljaajajiaaGreatDoor
open Go.ChangeShapes Go.WideShapes Go.ChangeAt Go.RowKit


def SmallPad (d:Int) (c:ByteArray):Prop:=-1≤d∧d≤10000∧c.size≤4
def DrawnPad (B g lim:Nat) (w:World) (e:Ending) (w':World):Prop :=
 ∃ (d:Int) (c:ByteArray),e = .returned (.agg #[.int .i64 d,.string c])∧SmallPad d c∧w.grownBy w' (some g)∧RdIn w' B g (lim+4)
theorem l92Pad (g B lim:Nat) (w:World) (hl:lim≤900000000) (hr:RdIn w B g lim) (hBw:B≤w.heap.size) :
  Calls Tryz.prog 133 #[.pointer (some ⟨g,0,none⟩)] w (DrawnPad B g lim w):=by
 have hg:=hr.lt;go_enter Tryz.func133,Tryz.ntmps133
 (go_wp2_with fail);refine (pick 9 g B lim _ (by omega) (by omega) (by omega) (hr.alloc _)).mono ?_;rintro e w1 ⟨m1,rfl,hm10,hm11,hg1,hr1⟩;have K1:=(Blk.new w _ _).only hg1 (by omega);have hz1:=K1.lt;have G1:=only_next (only_alloc (World.grownBy.refl w (some g)) _) hg1;clear hg1 hr;(go_wp2_with fail);refine (pickOf w1.heap.size g B (lim+1) 3 3 [⟨#[97]⟩,⟨#[98]⟩,⟨#[99,97,115,101]⟩] _ rfl (by omega) (by omega) (by omega) (hr1.alloc _) (StrsAt.new w1 _ _ _ rfl) (by omega)).mono ?_;rintro e w2 ⟨s,hs,rfl,hg2,hr2⟩;have hs4:s.size≤4:=by
  simp only [List.mem_cons,List.mem_nil_iff,or_false] at hs;rcases hs with rfl | rfl | rfl <;> decide
 have K2:=(K1.alloc _).only hg2 (by omega);have hz2:=K2.lt;have G2:=only_next (only_alloc G1 _) hg2;clear hg2 hr1 hs K1;(go_wp2_with fail);refine (pick 60 g B (lim+1+1) _ (by omega) (by omega) (by omega) (hr2.alloc _)).mono ?_;rintro e w3 ⟨m3,rfl,hm30,hm31,hg3,hr3⟩;have K3:=(K2.alloc _).only hg3 (by omega);have P3:=(Blk.new w2 _ _).only hg3 (by omega);have hz3:=P3.lt;have G3:=only_next (only_alloc G2 _) hg3;clear hg3 hr2 K2 G1 G2;generalize w2.heap.size=b2 at *;by_cases h0:m3=0
 ·subst h0;(go_wp2_with fail);refine (pick 3 g B (lim+1+1+1) _ (by omega) (by omega) (by omega) (hr3.alloc _)).mono ?_;rintro e w4 ⟨m4,rfl,hm40,hm41,hg4,hr4⟩;have K4:=(K3.alloc _).only hg4 (by omega);have P4:=(P3.alloc _).only hg4 (by omega);have Q4:=(Blk.new w3 _ _).only hg4 (by omega);have G4:=only_next (only_alloc G3 _) hg4;obtain ⟨k,rfl⟩:=Int.eq_ofNat_of_zero_le hm40;have hk3:k < 3:=(by omega);obtain ⟨d4,hd4,hd40,hd41⟩ : ∃ d4:Int,w4.cell? ⟨w3.heap.size,k,none⟩=some (.int .i64 d4)∧-1≤d4∧d4≤10000:=by
   rw [Q4.cell];match k,hk3 with
   | 0,_=>exact ⟨-1,rfl,by omega,by omega⟩
   | 1,_=>exact ⟨10000,rfl,by omega,by omega⟩
   | 2,_=>exact ⟨9999,rfl,by omega,by omega⟩
  clear hg4 hr3 G3 K3 P3 Q4 hm30 hm31 hm41;obtain ⟨k0,k1,kf0,kf1⟩:=K4.two;obtain ⟨p0,p1,pf0,pf1⟩:=P4.two;have G5:=only_setCell (only_setCell (only_setCell G4 (p:=⟨b2,0,none⟩) (.inr (by simp;omega)) (.int .i64 d4)) (p:=⟨w.heap.size,0,none⟩) (.inr (by simp)) (.int .i64 d4)) (p:=⟨w.heap.size,1,none⟩) (.inr (by simp)) (.string s);have R5:=((hr4.setCell (p:=⟨b2,0,none⟩) (by simp;omega) (by simp;omega) (.int .i64 d4)).setCell (p:=⟨w.heap.size,0,none⟩) (by simp;omega) (by simp;omega) (.int .i64 d4)).setCell (p:=⟨w.heap.size,1,none⟩) (by simp;omega) (by simp;omega) (.string s);have HG:=uH G5;have HR:=uH R5;clear G4 G5 R5 hr4 K4 P4;go_wp2;refine bodyPost_ret (v:=.agg #[.int .i64 d4,.string s]) (by simp [results,Tryz.results133,go_sem,k0,k1]) rfl ?_;exact ⟨d4,s,rfl,⟨hd40,hd41,hs4⟩,HG.out,HR.out⟩
 ·have h0':(m3 == 0)=false:=(by simpa using h0);by_cases h1:m3=1
  ·subst h1;(go_wp2_with fail);refine (pickOf w3.heap.size g B (lim+1+1+1) 2 2 [⟨#[]⟩,⟨#[65]⟩] _ rfl (by omega) (by omega) (by omega) (hr3.alloc _) (StrsAt.new w3 _ _ _ rfl) (by omega)).mono ?_;rintro e w4 ⟨s',hs',rfl,hg4,hr4⟩;have hs4':s'.size≤4:=by
    simp only [List.mem_cons,List.mem_nil_iff,or_false] at hs';rcases hs' with rfl | rfl <;> decide
   have K4:=(K3.alloc _).only hg4 (by omega);have P4:=(P3.alloc _).only hg4 (by omega);have G4:=only_next (only_alloc G3 _) hg4;clear hg4 hr3 G3 K3 P3 hs';obtain ⟨k0,k1,kf0,kf1⟩:=K4.two;obtain ⟨p0,p1,pf0,pf1⟩:=P4.two;have G5:=only_setCell (only_setCell (only_setCell G4 (p:=⟨b2,1,none⟩) (.inr (by simp;omega)) (.string s')) (p:=⟨w.heap.size,0,none⟩) (.inr (by simp)) (.int .i64 m1)) (p:=⟨w.heap.size,1,none⟩) (.inr (by simp)) (.string s');have R5:=((hr4.setCell (p:=⟨b2,1,none⟩) (by simp;omega) (by simp;omega) (.string s')).setCell (p:=⟨w.heap.size,0,none⟩) (by simp;omega) (by simp;omega) (.int .i64 m1)).setCell (p:=⟨w.heap.size,1,none⟩) (by simp;omega) (by simp;omega) (.string s');have HG:=uH G5;have HR:=uH R5;clear G4 G5 R5 hr4 K4 P4;go_wp2;refine bodyPost_ret (v:=.agg #[.int .i64 m1,.string s']) (by simp [results,Tryz.results133,go_sem,k0,k1]) rfl ?_;exact ⟨m1,s',rfl,⟨by omega,by omega,hs4'⟩,HG.out,HR.out⟩
  ·have h1':(m3 == 1)=false:=(by simpa using h1);obtain ⟨k0,k1,kf0,kf1⟩:=K3.two;obtain ⟨p0,p1,pf0,pf1⟩:=P3.two;have G5:=only_setCell (only_setCell G3 (p:=⟨w.heap.size,0,none⟩) (.inr (by simp)) (.int .i64 m1)) (p:=⟨w.heap.size,1,none⟩) (.inr (by simp)) (.string s);have R5:=((hr3.setCell (p:=⟨w.heap.size,0,none⟩) (by simp;omega) (by simp;omega) (.int .i64 m1)).setCell (p:=⟨w.heap.size,1,none⟩) (by simp;omega) (by simp;omega) (.string s)).more (show lim+1+1+1≤lim+4 by omega);have HG:=uH G5;have HR:=uH R5;clear G3 G5 R5 hr3 K3 P3;go_wp2;refine bodyPost_ret (v:=.agg #[.int .i64 m1,.string s]) (by simp [results,Tryz.results133,go_sem,k0,k1]) rfl ?_;exact ⟨m1,s,rfl,⟨by omega,by omega,hs4⟩,HG.out,HR.out⟩
theorem small_good {d:Int} {c:ByteArray} (h:SmallPad d c):(⟨d,c⟩:Pad).good:=by
 obtain ⟨h1,h2,h3⟩:=h;refine ⟨?_,by show c.size≤maxLen;unfold maxLen;omega⟩
 show (decide (IntKind.i64.min≤d) && decide (d≤IntKind.i64.max))=true
 rw [show IntKind.i64.min = -9223372036854775808 from rfl,show IntKind.i64.max=9223372036854775807 from rfl,decide_eq_true (by omega),decide_eq_true (by omega)];rfl
theorem own_after {a w w':World} {g:Nat} {v:Value} (h:a.grownBy w (some g)) (hg:w.grownBy w' v.ownBlock) (hb : ∀ q,v.ownBlock=some q→a.heap.size≤q):a.grownBy w' (some g) :=
 h.andThen hg (fun j hj=>.inl (hb j hj))
def DrawnPads (B g lim:Nat) (w:World) (e:Ending) (w':World):Prop :=
 ∃ A c ps,e = .returned (.slice A ps.length c)∧PadsOwn w' w.heap.size (.slice A ps.length c) ps∧ps.length≤15∧(∀ p∈ps,SmallPad p.day p.case)∧w.grownBy w' (some g)∧RdIn w' B g (lim+100)
theorem l92Pads (g B lim:Nat) (w:World) (hl:lim≤800000000) (hr:RdIn w B g lim) (hBw:B≤w.heap.size) :
  Calls Tryz.prog 74 #[.pointer (some ⟨g,0,none⟩)] w (DrawnPads B g lim w):=by
 obtain ⟨i0,hi,hz0,hz1,hz2⟩:=info_parts infoPad;have hg0:=hr.lt;go_enter Tryz.func74,Tryz.ntmps74
 (go_wp2_with fail);refine (pick 16 g B lim _ (by omega) (by omega) (by omega) (hr.alloc _)).mono ?_;rintro e w1 ⟨m,rfl,hm0,hm1,hg1,hr1⟩;obtain ⟨N,rfl⟩:=Int.eq_ofNat_of_zero_le hm0;have hN:N≤15:=(by omega);have G1:w.grownBy w1 (some g):=only_next (World.grownBy_alloc w _ _) hg1;have hO1:PadsOwn w1 w.heap.size (.slice (some ⟨w.heap.size,0,none⟩) 0 0) []:=by
  have h0:(w.alloc (.cells #[] 53)).ownsRow w.heap.size 53 2 (.slice (some ⟨w.heap.size,0,none⟩) 0 0) 0 []:=World.ownsRow_made w #[] 0 (Nat.le_refl _) (by simp) (by simp);exact own_only h0 hg1 (fun b hb e=>by injection hb with hb;injection e with e;simp only at hb;omega)
 have HG:=uH G1;have HR:=uH hr1;have HO:=uH hO1;clear G1 hr1 hO1 hg1 hm0 hm1 hr;go_wp2;go_loopw [3,5] (fun v i wr=>∃ (k:Nat) (ps:List Pad),k≤N∧i = .int .i64 k∧ps.length=k∧Hid (PadsOwn wr w.heap.size v ps)∧Hid (∀ p∈ps,SmallPad p.day p.case)∧Hid (w.grownBy wr (some g))∧Hid (RdIn wr B g (lim+1+4 * k))) (fun _ i _=>N - (intOf i).toNat)
 case atStart=>exact ⟨0,[],Nat.zero_le _,rfl,rfl,HO,uH (by simp),HG,HR⟩
 case round =>
  obtain ⟨k,ps,hk,rfl,hpl,hO,hS,hG,hR⟩:=hrel;by_cases hlt:k < N
  ·have HPL:=uH hpl;have hz:=hG.out.size;have HPad:=uH (l92Pad g B (lim+1+4 * k) wr (by omega) hR.out (by omega));(go_wp2_with fail);refine HPad.out.mono ?_;rintro e w2 ⟨d,s,rfl,hs,hg2,hr2⟩;have hO2:=PadsOwn.only hO.out hg2 (fun b hb=>hR.out.ne_own hO.out (by decide) b hb);have hG2:=only_next hG.out hg2;have HO2:=uH hO2;have HG2:=uH hG2;have HR2:=uH hr2;have HS2:=uH hs;have hz2':=hG2.size;clear hO2 hG2 hr2 hs hg2 HPad hpl;go_wp2_with (at_builtin;refine wpList_append_any _ rfl (.tmp 14) (.tmp 17) _ rfl w.heap.size 53 i0 _ 2 24 Tryz.underlying46 hi hz0 hz1 hz2 rfl (by omega) _ ps.length (ps.flatMap padC) rfl (HO2.out.alloc _) (w2.heap.size+1) (some ⟨w2.heap.size,0,none⟩) 1 1 [.int .i64 d,.string s] rfl (rowNewPad _ _ _ _) (by simp [Value.oneCell']) (by have:=HPL.out;unfold maxLen;omega) (by have:=HPL.out;omega) (by simp;omega) ?_;intro v3 w3 hown3 hg3 hat3)
   have HO3:Hid (PadsOwn w3 w.heap.size v3 (ps++[⟨d,s⟩])):=uH (by unfold PadsOwn;rw [List.length_append,List.flatMap_append];exact hown3);have HS3:Hid (∀ p∈ps++[(⟨d,s⟩:Pad)],SmallPad p.day p.case):=uH (fun p hp=>by
    rcases List.mem_append.1 hp with hp | hp
    ·exact hS.out p hp
    ·simp at hp;subst hp;exact HS2.out)
   have HG3:=uH (own_after (only_next HG2.out (World.grownBy_alloc w2 _ _)) hg3 (fun q hq=>own_base HO2.out hq));have HR3:Hid (RdIn w3 B g (lim+1+4 * (k+1))):=uH (by
    have h1:=HR2.out.alloc (.cells #[.int .i64 d,.string s] 53);exact h1.only hg3 (fun q hq=>h1.ne_own (HO2.out.alloc _) (by decide) q hq) (fun q hq=>by have:=own_base HO2.out hq;omega) (by simp;omega))
   clear hown3 hg3 hat3;go_wp2;go_roundw
   case rel=>exact ⟨k+1,_,by omega,by go_num,by rw [List.length_append,HPL.out];rfl,HO3,HS3,HG3,HR3⟩
   case measure=>simp [intOf];omega
  ·obtain rfl:k=N:=(by omega);have HPL:=uH hpl;clear hpl;have HR3:=uH (hR.out.more (show lim+1+4 * k≤lim+100 by omega));have HF:=uH (own_form hO.out);go_wp2;go_ret;obtain ⟨A,c,rfl,_⟩:=HF.out;exact ⟨A,c,ps,rfl,hO.out,by rw [HPL.out];exact hN,hS.out,hG.out,HR3.out⟩


end Go.Proofs.YtbkhnljaajajiaaGreatDoor
