/-
  Contracts and plain laws that the proofs lean on. Conditions: as each says.
-/
import Derived.Test.YtbkhnljaajajiaaGreatDoorPX02
import Derived.Test.YtbkhnljaajajiaaGreatDoorPX03
import Derived.Deep.RegionHeld3
import Derived.Deep.RegionLaw
import Derived.Laws.IdiomStrings
set_option maxRecDepth 100000
set_option linter.unusedSimpArgs false
set_option linter.unusedVariables false
set_option linter.unnecessarySimpa false
namespace Go.Proofs.YtbkhnljaajajiaaGreatDoor
open Go.ChangeShapes Go.WideShapes Go.ChangeAt Go.RowKit
theorem infoLeafP : ∃ i:TypeInfo,Tryz.prog.info? 134=some i∧i.zero=some (.pointer none)∧i.size=1∧i.bytes=8:=⟨_,by rfl,by rfl,by rfl,by rfl⟩
theorem LastIs.isNil {w:World} {B:Nat} {v:Value} (h:LastIs w B v []):v = .pointer none:=by
 rcases h with ⟨_,h⟩ | ⟨l',p,b,o,h,_⟩
 ·exact h
 ·simp at h
theorem LastIs.isLast {w:World} {B:Nat} {v:Value} {l:List Pad} {q:Pad} (h:LastIs w B v l) (hq:l.getLast? = some q) :
  ∃ b o,v = .pointer (some ⟨b,o,none⟩)∧b < B∧w.cell? ⟨b,o,none⟩=some (.int .i64 q.day)∧w.cell? ⟨b,o+1,none⟩=some (.string q.case)∧q.good:=by
 rcases h with ⟨rfl,_⟩ | ⟨l',p,b,o,rfl,h⟩
 ·cases hq
 ·simp at hq;subst hq;exact ⟨b,o,h⟩
theorem take_flat {ds:List Drawer} {k:Nat} (h:k < ds.length):allPads (ds.take (k+1))=allPads (ds.take k)++(drAt ds k).ps:=allPads_step h
theorem allPads_split {ds:List Drawer} {k:Nat} : ∃ r,allPads ds=allPads (ds.take k)++r:=⟨allPads (ds.drop k),by
 unfold allPads;rw [← List.flatMap_append,List.take_append_drop]⟩
theorem padsTake_snoc {ps:List Pad} {j:Nat} (h:j < ps.length):ps.take (j+1)=ps.take j++[padAt ps j]:=by
 rw [List.take_add_one,padAt_some h];rfl
theorem sorted_not {ds:List Drawer} {k j:Nat} (hk:k < ds.length) (h : ¬ sortedOK (allPads (ds.take k)++(drAt ds k).ps.take j)):cabB (ds.map (·.ps))=false:=cabB_no (fun hc=>h (by
 have h1:=hc.2.2;rw [allPads_flat] at h1;obtain ⟨r,hr⟩:=allPads_split (ds:=ds) (k:=k+1);rw [hr,take_flat hk,List.append_assoc] at h1;have h2:(drAt ds k).ps=(drAt ds k).ps.take j++(drAt ds k).ps.drop j:=(List.take_append_drop _ _).symm;rw [h2,List.append_assoc,← List.append_assoc] at h1;exact sorted_left h1))
theorem keepCell {W W':World} {row:Option Nat} {a:Addr} {u:Value} (hg:W.grownBy W' row) (hr:row≠Option.some a.block) (h:W.cell? a=Option.some u∧W.frozen? a=false):W'.cell? a=Option.some u∧W'.frozen? a=false:=by
 have hlt:a.block < W.heap.size:=by
  rcases Nat.lt_or_ge a.block W.heap.size with hlt | hge
  ·exact hlt
  ·have:=h.1;unfold World.cell? at this;rw [Array.getElem?_eq_none hge] at this;cases this
 have hk:=hg.block a.block hlt (fun e=>hr e.symm);exact ⟨by rw [← h.1];exact World.cell?_of_block hk,by rw [← h.2];unfold World.frozen?;rw [hk]⟩
theorem keepBelow {W W':World} {a:Addr} {u:Value} (hb:Below W.heap.size W W') (h:W.cell? a=Option.some u∧W.frozen? a=false):W'.cell? a=Option.some u∧W'.frozen? a=false:=⟨kcell hb h.1,kfree hb h.1 h.2⟩
theorem keepAlloc {W:World} {a:Addr} {u:Value} (h:W.cell? a=Option.some u∧W.frozen? a=false) (o:Obj):(W.alloc o).cell? a=Option.some u∧(W.alloc o).frozen? a=false:=keepBelow ((Below.refl _ _).alloc (Nat.le_refl _) _) h
theorem rowNew (w1:World) (o:Obj) (u:Value) (t:TypeId):Row ((w1.alloc o).alloc (.cells #[u] t)) (w1.heap.size+2) (Option.some ⟨w1.heap.size+1,0,Option.none⟩) 1 1 [u]:=by
 refine ⟨rfl,fun _=>⟨w1.heap.size+1,0,rfl,by omega,fun j x hx=>?_⟩⟩;rcases j with _ | j
 ·simp at hx;subst hx;have:=newcell (w1.alloc o) #[u] t 0 u rfl
  rwa [show (w1.alloc o).heap.size=w1.heap.size+1 by simp] at this
 ·simp at hx
theorem bel2 {w w1:World} (hb:Below w.drew.heap.size w.drew w1) (o o':Obj):Below w.heap.size w ((w1.alloc o).alloc o'):=by
 have h1:Below w.heap.size w w1:=Below.trans (by go_grown) hb;exact (h1.alloc h1.size o).alloc (by simp;have:=h1.size;omega) o'
def TreeAns (w:World) (B:Nat) (css:List (List Pad)) (e:Ending):Prop :=
 (cabB css=false∧e = .returned (.tuple #[.pointer none,.bool false])) ∨
 (cabB css=true∧∃ t v ls,e = .returned (.tuple #[.pointer (some ⟨t,0,none⟩),.bool true])∧TreeIn w B t v ls∧ls.map (·.ps)=css)
theorem TreeAns.no {w:World} {B:Nat} {css:List (List Pad)} {e:Ending} (h:cabB css=false) (he:e = .returned (.tuple #[.pointer none,.bool false])):TreeAns w B css e:=.inl ⟨h,he⟩
theorem TreeAns.yes {w:World} {B t:Nat} {v:Value} {ls:List Leaf} {css:List (List Pad)} {e:Ending} (h:cabB css=true) (he:e = .returned (.tuple #[.pointer (some ⟨t,0,none⟩),.bool true])) (ht:TreeIn w B t v ls) (hm:ls.map (·.ps)=css):TreeAns w B css e:=.inr ⟨h,t,v,ls,he,ht,hm⟩
set_option maxHeartbeats 4000000 in
theorem treeOf (A:Option Addr) (n c:Nat) (ds:List Drawer) (w:World) (h:DrawersIn w w.heap.size A n c ds) :
  Calls Tryz.prog 81 #[.slice A n c] w fun e w'=>TreeAns w' w.heap.size (ds.map (·.ps)) e∧Below w.heap.size w w':=by
 have hm:=h.2.2.1;have hnc:=h.2.1;have HL:Hid (ds.length=n):=uH h.1;unfold maxLen at hm;have H:=uH h;clear h;obtain ⟨i0,hi,hz0,hz1,hz2⟩:=infoLeafP;by_cases hn6:n≤6
 ·go_enter Tryz.func81,Tryz.ntmps81
  go_wp2;go_loopw [5,16] (fun lv i wr=>∃ (k:Nat) (v:Value) (ls:List Leaf),k≤n∧i = .int .i64 k∧Hid (LastIs w w.heap.size lv (allPads (ds.take k)))∧Hid (sortedOK (allPads (ds.take k))∧(∀ d∈ds.take k,lenOK d.ps))∧Hid (TreeIn wr w.heap.size w.heap.size v ls)∧Hid (ls.map (·.ps)=(ds.take k).map (·.ps))∧Below w.heap.size w wr) (fun _ i _=>n - (intOf i).toNat)
  case atStart =>
   refine ⟨0,.slice none 0 0,[],Nat.zero_le _,rfl,uH (.inl ⟨by simp [allPads],rfl⟩),uH ⟨fun i hi=>by simp [allPads] at hi,by simp⟩,uH ⟨Nat.le_refl _,Blk.new _ _ _,⟨World.ownsRow_nil _ _ _ _,by simp,by simp,by simp⟩⟩,uH (by simp),(Below.refl _ _).alloc (Nat.le_refl _) _⟩
  case round =>
   obtain ⟨k,v,ls,hk,rfl,HLa,HS,HT,HM,hb⟩:=hrel;by_cases hlt:k < n
   ·obtain ⟨b,off,eA,hbB,c0,hP⟩:=(H.out.below hb).at_ hlt;have hkl:k < ds.length:=(by have:=HL.out;omega);have hs:=drAt_some hkl;subst eA;have hdl:=hP.1;by_cases hok:1≤(drAt ds k).n∧(drAt ds k).n≤4
    ·obtain ⟨hok1,hok2⟩:=hok;have HNo:Hid (∀ j,¬ sortedOK (allPads (ds.take k)++(drAt ds k).ps.take j)→cabB (ds.map (·.ps))=false):=uH (fun j=>sorted_not hkl);have HNx:Hid (allPads (ds.take (k+1))=allPads (ds.take k)++(drAt ds k).ps):=uH (allPads_step hkl);have HLx:Hid (∀ d∈ds.take (k+1),lenOK d.ps):=uH (by
      rw [take_step hs];intro d hd;rcases List.mem_append.1 hd with h | h
      ·exact HS.out.2 d h
      ·simp at h;subst h;unfold lenOK;omega)
     have HMx:Hid ((ds.take (k+1)).map (·.ps)=(ds.take k).map (·.ps)++[(drAt ds k).ps]):=uH (by rw [take_step hs];simp);have HS1:=uH HS.out.1;have HPd:=uH hP;have HDL:=uH hdl;clear hkl hP hs hdl HS;generalize drAt ds k=d at *;generalize allPads (ds.take k)=pk at *;go_wp2;go_loopw [5,30] (fun lv i wr'=>∃ (j:Nat),j≤d.n∧i = .int .i64 j∧Hid (LastIs w w.heap.size lv (pk++d.ps.take j))∧Hid (sortedOK (pk++d.ps.take j))∧Below wr.heap.size wr wr') (fun _ i _=>d.n - (intOf i).toNat)
     case atStart=>exact ⟨0,Nat.zero_le _,rfl,uH (by simpa using HLa.out),uH (by simpa using HS1.out),Below.refl _ _⟩
     case round =>
      obtain ⟨j,hj,rfl,HLb,HSb,hbq⟩:=hrel;have b2:=hb.trans (hbq.mono hb.size);by_cases hlj:j < d.n
      ·obtain ⟨b',off',eA,hbB',c0',c1',hg⟩:=(HPd.out.below (hbq.mono hb.size)).at_ hlj;have hsn:=padsTake_snoc (ps:=d.ps) (j:=j) (by have:=HDL.out;omega);have HSn:Hid (sortedOK (pk++d.ps.take (j+1)) ↔ sortedOK (pk++d.ps.take j)∧okP (padAt d.ps j)=true∧∀ q,(pk++d.ps.take j).getLast? = some q→ordPad q (padAt d.ps j) < 0):=uH (by
        rw [hsn,← List.append_assoc];exact sorted_snoc)
       have c0w:w.cell? ⟨b',off'+j * 2,none⟩=some (.int .i64 (padAt d.ps j).day):=(by rw [← c0'];exact (b2.cell hbB').symm);have c1w:w.cell? ⟨b',off'+j * 2+1,none⟩=some (.string (padAt d.ps j).case):=(by rw [← c1'];exact (b2.cell hbB').symm);have HLc:Hid (LastIs w w.heap.size (.pointer (some ⟨b',off'+j * 2,none⟩)) (pk++d.ps.take (j+1))):=uH (.inr ⟨pk++d.ps.take j,padAt d.ps j,b',off'+j * 2,by rw [hsn,List.append_assoc],rfl,hbB',c0w,c1w,hg⟩);clear hsn c0w c1w;rw [eA] at HPd ⊢;by_cases hv:okP (padAt d.ps j)=true
       ·have cv : ∀ W,Calls Tryz.prog 76 #[.agg #[.int .i64 (padAt d.ps j).day,.string (padAt d.ps j).case]] W fun e w'=>e = .returned (.bool true)∧Below W.heap.size W w':=fun W=>by
         have:=implPadValid (padAt d.ps j).day (padAt d.ps j).case W hg.2
         rwa [show padB (padAt d.ps j).day (padAt d.ps j).case.data.toList=true from hv] at this
        have CV:=uH cv;clear cv;rcases hq:(pk++d.ps.take j).getLast? with _ | q
        ·have hnil:pk++d.ps.take j=[]:=List.getLast?_eq_none_iff.1 hq;have HSx:Hid (sortedOK (pk++d.ps.take (j+1))):=uH (HSn.out.2 ⟨HSb.out,hv,fun q h=>by rw [hq] at h;cases h⟩);rw [hnil] at HLb;have hlv:=HLb.out.isNil;subst hlv;clear HLb HSn hnil hq hv;generalize padAt d.ps j=p at *;have r0':=qcell c0';have r1':=qcell c1';(go_wp2_with fail);refine region_qb (by kernel_rfl) (by kernel_rfl) ?_;repeat (first | go_big_quiet_step (((go_at_call 76;exact quietB (CV.out _)))) | quiet_step (((go_at_call 76;exact quietB (CV.out _)))))
         refine wpQuiet_nil ?_;intro w3 hb3;have b3:=hbq.trans (hb3.mono hbq.size);clear r0' r1' c0' c1' hb3;go_wp2;go_roundw
         case rel=>exact ⟨j+1,by omega,by go_num,HLc,HSx,b3⟩
         case measure=>simp [intOf];omega
        ·obtain ⟨bq,oq,rfl,hbq',q0,q1,hgq⟩:=HLb.out.isLast hq;rw [← b2.cell hbq'] at q0 q1;by_cases ho:ordPad q (padAt d.ps j) < 0
         ·have HSx:Hid (sortedOK (pk++d.ps.take (j+1))):=uH (HSn.out.2 ⟨HSb.out,hv,fun q' h=>by rw [hq] at h;injection h with h;subst h;exact ho⟩);have co : ∀ W,Calls Tryz.prog 146 #[.agg #[.int .i64 q.day,.string q.case],.agg #[.int .i64 (padAt d.ps j).day,.string (padAt d.ps j).case]] W fun e w'=>e = .returned (.int .i64 (ordPad q (padAt d.ps j)))∧Below W.heap.size W w':=fun W=>comparePads _ _ _ _ W;have CO:=uH co;clear co hv hq HSn HLb;generalize ordPad q (padAt d.ps j)=o at *;generalize padAt d.ps j=p at *;have r0':=qcell c0';have r1':=qcell c1';have r0:=qcell q0;have r1:=qcell q1;(go_wp2_with fail);refine region_qb (by kernel_rfl) (by kernel_rfl) ?_;repeat (first | go_big_quiet_step ((first | (go_at_call 76;exact quietB (CV.out _)) | (go_at_call 146;exact quietB (CO.out _)))) | quiet_step ((first | (go_at_call 76;exact quietB (CV.out _)) | (go_at_call 146;exact quietB (CO.out _)))))
          refine wpQuiet_nil ?_;intro w3 hb3;have b3:=hbq.trans (hb3.mono hbq.size);clear r0' r1' c0' c1' r0 r1 q0 q1 hb3;go_wp2;go_roundw
          case rel=>exact ⟨j+1,by omega,by go_num,HLc,HSx,b3⟩
          case measure=>simp [intOf];omega
         ·have HNo1:=uH (HNo.out (j+1) (fun h=>ho ((HSn.out.1 h).2.2 q hq)));have ho':0≤ordPad q (padAt d.ps j):=(by omega);have co : ∀ W,Calls Tryz.prog 146 #[.agg #[.int .i64 q.day,.string q.case],.agg #[.int .i64 (padAt d.ps j).day,.string (padAt d.ps j).case]] W fun e w'=>e = .returned (.int .i64 (ordPad q (padAt d.ps j)))∧Below W.heap.size W w':=fun W=>comparePads _ _ _ _ W;have CO:=uH co;clear co hv hq HSn HLb ho;generalize ordPad q (padAt d.ps j)=o at *;generalize padAt d.ps j=p at *;have r0':=qcell c0';have r1':=qcell c1';have r0:=qcell q0;have r1:=qcell q1;(go_wp2_with fail);refine region_qb (by kernel_rfl) (by kernel_rfl) ?_;repeat (first | go_big_quiet_step ((first | (go_at_call 76;exact quietB (CV.out _)) | (go_at_call 146;exact quietB (CO.out _)))) | quiet_step ((first | (go_at_call 76;exact quietB (CV.out _)) | (go_at_call 146;exact quietB (CO.out _)))))
          refine wpQuiet_nil ?_;intro w3 hb3;have b3:=b2.trans (hb3.mono b2.size);clear r0' r1' c0' c1' r0 r1 q0 q1 hb3;go_wp2;go_returns;exact ⟨.no HNo1.out rfl,b3⟩
       ·have HNo1:=uH (HNo.out (j+1) (fun h=>hv (HSn.out.1 h).2.1));have cv : ∀ W,Calls Tryz.prog 76 #[.agg #[.int .i64 (padAt d.ps j).day,.string (padAt d.ps j).case]] W fun e w'=>e = .returned (.bool false)∧Below W.heap.size W w':=fun W=>by
         have:=implPadValid (padAt d.ps j).day (padAt d.ps j).case W hg.2
         rwa [show padB (padAt d.ps j).day (padAt d.ps j).case.data.toList=false by simpa [okP] using hv] at this
        have CV:=uH cv;clear cv hv HSn;generalize padAt d.ps j=p at *;have r0':=qcell c0';have r1':=qcell c1';(go_wp2_with fail);refine region_qb (by kernel_rfl) (by kernel_rfl) ?_;repeat (first | go_big_quiet_step (((go_at_call 76;exact quietB (CV.out _)))) | quiet_step (((go_at_call 76;exact quietB (CV.out _)))))
        refine wpQuiet_nil ?_;intro w3 hb3;have b3:=b2.trans (hb3.mono b2.size);clear r0' r1' c0' c1' hb3;go_wp2;go_returns;exact ⟨.no HNo1.out rfl,b3⟩
      ·have hjn:d.ps.take j=d.ps:=List.take_of_length_le (by have:=HDL.out;omega);rw [hjn] at HLb HSb;rw [← HNx.out] at HLb HSb;clear hjn;have hT:=HT.out.below hbq;obtain ⟨htB,hblk,hlv⟩:=hT;have hc:=hblk.cell 0;have hf:=hblk.free 0;have HLV:=uH hlv;have HQ:Hid (TreeIn wr w.heap.size w.heap.size v ls):=uH ⟨htB,hblk,hlv⟩;clear hlv HT;have hPd:=HPd.out.below (hbq.mono hb.size);have HC:Hid (∀ W,Below wr.heap.size wr W→Calls Tryz.prog 141 #[.slice d.A d.n d.c] W fun e w'=>∃ g c',e = .returned (.slice (some ⟨g,0,none⟩) d.n c')∧PadsOwn w' W.heap.size (.slice (some ⟨g,0,none⟩) d.n c') d.ps∧W.heap.size≤g∧Below W.heap.size W w'):=uH (fun W hW =>
        clonePads d.A d.n d.c d.ps W hok1 (by omega) ((hPd.below (hW.mono b2.size)).more (Nat.le_trans b2.size hW.size)))
       have HO:Hid (∀ W,Below wr.heap.size wr W→W.ownsRow w.heap.size 134 1 v ls.length (ls.map Leaf.ptr)):=uH (fun W hW=>own_congr HLV.out.1 (fun _ hv=>hW.block _ (own_lt HLV.out.1 hv)));have HNe:Hid (v.ownBlock≠some w.heap.size):=uH (fun hv=>by
        obtain ⟨cur,h1⟩:=own_obj HLV.out.1 hv;unfold Blk at hblk;rw [h1] at hblk;injection hblk with hblk;injection hblk with _ h2;exact absurd h2 (by decide))
       have hll:ls.length≤6:=by
        have:=congrArg List.length HM.out;simp at this;omega
       have HGo:=uH hPd.2.2.2.2;clear hPd hblk;have hcf:wr.drew.cell? ⟨w.heap.size,0,none⟩=some v∧wr.drew.frozen? ⟨w.heap.size,0,none⟩=false:=⟨hc,hf⟩;(go_wp2_with fail);go_region_law (first | (go_simp;go_at_call 141;refine (HC.out _ (by go_grown)).mono ?_;rintro e w1 ⟨g1,c1,rfl,hO1,hg1,hb1⟩;have hcf1:=keepBelow hb1 hcf;have hcf2:=keepAlloc hcf1 (.cells #[.slice (some ⟨g1,0,none⟩) d.n c1] 192);have hcf3:=keepAlloc hcf2 (.cells #[.pointer (some ⟨w1.heap.size,0,none⟩)] 134);have n1:=hcf1.1;have n2:=hcf2.1;have n3:=hcf3.1;have f3:=hcf3.2;dsimp only) | ((refine step_append_any _ rfl (.tmp 62) (.tmp 67) _ rfl w.heap.size 134 i0 _ 1 8 Tryz.underlying126 hi hz0 hz1 hz2 rfl (by omega) v ls.length (ls.map Leaf.ptr) rfl (HO.out _ (bel2 hb1 _ _)) (w1.heap.size+2) (some ⟨w1.heap.size+1,0,none⟩) 1 1 [.pointer (some ⟨w1.heap.size,0,none⟩)] rfl (rowNew _ _ _ _) (by simp [Value.oneCell']) (by unfold maxLen;omega) (by omega) (Nat.le_trans b2.size (bel2 hb1 _ _).size) ?_;intro v2 w2 hown2 hg2 hat2;obtain ⟨A2,cc2,rfl,hcc2,hcm2⟩:=own_form hown2;have hcf4:=keepCell hg2 HNe.out (keepAlloc hcf2 _);have n4:=hcf4.1;have f4:=hcf4.2)))
       all_goals (
        have hpush:=TreeIn.push (v':=.slice A2 (ls.length+1) cc2) HQ.out b2.size (Below.trans (by go_grown) hb1) hO1 HGo.out hg2 hown2;have HT2:=uH hpush.1;have b4:=b2.trans hpush.2;have HM2:Hid ((ls++[(⟨w1.heap.size,.slice (some ⟨g1,0,none⟩) d.n c1,d.ps⟩:Leaf)]).map (·.ps)=(ds.take (k+1)).map (·.ps)):=uH (by rw [HMx.out,← HM.out];simp);clear hpush hown2 hg2 hat2 hO1 hg1 hb1;go_wp2;go_roundw
        case rel=>exact ⟨k+1,_,_,by omega,by go_num,HLb,uH ⟨HSb.out,HLx.out⟩,HT2,HM2,b4⟩
        case measure=>simp [intOf];omega)
    ·have HNo:Hid (cabB (ds.map (·.ps))=false):=uH (cabB_no (fun h=>by
      have:=h.2.1 (drAt ds k).ps (List.mem_map_of_mem (drAt_mem hkl));unfold lenOK at this;omega))
     clear hkl hP hs HS;generalize drAt ds k=d at *;by_cases h1:d.n < 1
     ·have hd0:d.n=0:=(by omega);go_wp2;go_returns;exact ⟨.no HNo.out rfl,hb⟩
     ·have hd5:4 < d.n:=(by omega);clear hok;go_wp2;go_returns;exact ⟨.no HNo.out rfl,hb⟩
   ·have hkn:ds.take k=ds:=List.take_of_length_le (by have:=HL.out;omega);rw [hkn] at HS HM;have HY:Hid (cabB (ds.map (·.ps))=true):=uH (cabB_yes ⟨by rw [List.length_map,HL.out];exact hn6,fun x hx=>by
     obtain ⟨d,hd,rfl⟩:=List.mem_map.1 hx;exact HS.out.2 d hd,by rw [allPads_flat];exact HS.out.1⟩)
    clear hkn;go_wp2;go_returns;exact ⟨.yes HY.out rfl HT.out HM.out,hb⟩
 ·have HNo:Hid (cabB (ds.map (·.ps))=false):=uH (cabB_no (fun h=>by
   have:=h.1;rw [List.length_map,HL.out] at this;omega))
  go_enter Tryz.func81,Tryz.ntmps81
  go_wp2;go_returns;exact ⟨.no HNo.out rfl,Below.refl _ _⟩
theorem DrawersIn.keep {w w':World} {n c:Nat} {A:Option Addr} {ds:List Drawer} (h:DrawersIn w w.heap.size A n c ds) (hb:Below w.heap.size w w'):DrawersIn w' w'.heap.size A n c ds:=(h.below hb).more hb.size
theorem PadsIn.keep {w w':World} {n c:Nat} {A:Option Addr} {ps:List Pad} (h:PadsIn w w.heap.size A n c ps) (hb:Below w.heap.size w w'):PadsIn w' w'.heap.size A n c ps:=(h.below hb).more hb.size
def leafAt (ls:List Leaf) (k:Nat):Leaf:=ls.getD k ⟨0,.slice none 0 0,[]⟩
theorem leafAt_some {ls:List Leaf} {k:Nat} (h:k < ls.length):ls[k]? = some (leafAt ls k):=by
 unfold leafAt;simp [List.getD,List.getElem?_eq_getElem h]
theorem leafAt_mem {ls:List Leaf} {k:Nat} (h:k < ls.length):leafAt ls k∈ls:=List.mem_of_getElem? (leafAt_some h)
def leafPads (ls:List Leaf):List Pad:=ls.flatMap (·.ps)
theorem leafPads_step {ls:List Leaf} {k:Nat} (h:k < ls.length):leafPads (ls.take (k+1))=leafPads (ls.take k)++(leafAt ls k).ps:=by
 rw [take_step (leafAt_some h)];simp [leafPads]
theorem leafPads_split {ls:List Leaf} {k:Nat}:(leafPads (ls.take k)).length≤(leafPads ls).length:=by
 have h:leafPads ls=leafPads (ls.take k)++leafPads (ls.drop k):=by
  unfold leafPads;rw [← List.flatMap_append,List.take_append_drop]
 rw [h,List.length_append];omega
theorem leafPads_flat (ls:List Leaf):leafPads ls=(ls.map (·.ps)).flatten:=by unfold leafPads;rw [List.flatMap_def]
theorem LeavesIn.at_ {w:World} {B k n c:Nat} {A:Option Addr} {ls:List Leaf} (h:LeavesIn w B (.slice A n c) ls) (hn:ls.length=n) (hk:k < n) :
  ∃ b off,A=some ⟨b,off,none⟩∧b < w.heap.size∧w.cell? ⟨b,off+k,none⟩=some (.pointer (some ⟨(leafAt ls k).g,0,none⟩))∧(leafAt ls k).g < w.heap.size∧w.cell? ⟨(leafAt ls k).g,0,none⟩=some (leafAt ls k).v ∧
   w.frozen? ⟨(leafAt ls k).g,0,none⟩=false∧B≤(leafAt ls k).g∧PadsOwn w B (leafAt ls k).v (leafAt ls k).ps∧∀ p∈(leafAt ls k).ps,p.good:=by
 have h1:=h.1;rw [hn] at h1;obtain ⟨b,off,e,hb,hc⟩:=(Row.of_own h1).2 (by omega);obtain ⟨l1,l2,l3,l4⟩:=h.2.1 _ (leafAt_mem (ls:=ls) (k:=k) (by omega));refine ⟨b,off,e,hb,hc k _ ?_,l2.lt,l2.cell 0,l2.free 0,l1,l3,l4⟩;rw [List.getElem?_map,leafAt_some (by omega)];rfl
theorem treePads (t:Nat) (v:Value) (ls:List Leaf) (B:Nat) (w:World) (hsz:(leafPads ls).length≤1048576) (h:TreeIn w B t v ls) :
  Calls Tryz.prog 113 #[.pointer (some ⟨t,0,none⟩)] w fun e w'=>∃ A' c',e = .returned (.slice A' (leafPads ls).length c')∧PadsOwn w' w.heap.size (.slice A' (leafPads ls).length c') (leafPads ls)∧Below w.heap.size w w':=by
 obtain ⟨A,c,rfl,hnc,hm⟩:=own_form h.2.2.1;have hc0:=h.2.1.cell 0;have H:=uH h.2.2;have htl:=h.2.1.lt;generalize hn:ls.length=n at *;have HL:=uH hn;clear h hn;unfold maxLen at hm;obtain ⟨i0,hi,hz0,hz1,hz2⟩:=info_parts infoPad;go_enter Tryz.func113,Tryz.ntmps113
 go_wp2;go_loopw [3,12] (fun v i wr=>∃ (k:Nat),k≤n∧i = .int .i64 k∧Hid (PadsOwn wr w.heap.size v (leafPads (ls.take k)))∧Below w.heap.size w wr) (fun _ i _=>n - (intOf i).toNat)
 case atStart=>exact ⟨0,Nat.zero_le _,rfl,uH ⟨by simp [leafPads],.inr ⟨w.heap.size,0,#[],rfl,Nat.le_refl _,heap_alloc_new _ _,Nat.le_refl _,Nat.zero_le _,rfl,by simp [leafPads]⟩⟩,(Below.refl _ _).alloc (Nat.le_refl _) _⟩
 case round =>
  obtain ⟨k,hk,rfl,hO,hb⟩:=hrel;by_cases hlt:k < n
  ·obtain ⟨b,off,eA,hbB,c0,hgl,c1,_,_,hP,_⟩:=(H.out.below hb).at_ HL.out hlt;have hkl:k < ls.length:=(by have:=HL.out;omega);have HS:=uH (leafPads_step hkl);have hlen:(leafPads (ls.take k)).length+(leafAt ls k).ps.length≤1048576:=by
    have h1:=leafPads_split (ls:=ls) (k:=k+1);rw [HS.out,List.length_append] at h1;omega
   subst eA;obtain ⟨A2,c2,e2,_,_⟩:=own_form hP;rw [e2] at c1 hP;have HR:=uH (Row.of_own hP);clear hkl hP e2;generalize leafAt ls k=l at *;generalize l.ps.length=m at *;generalize hap:leafPads (ls.take k)=pk at *;clear hap;go_wp2_with (at_builtin;refine wpList_append_any _ rfl (.tmp 16) (.tmp 20) _ rfl w.heap.size 53 i0 _ 2 24 Tryz.underlying46 hi hz0 hz1 hz2 rfl (by omega) _ pk.length (pk.flatMap padC) rfl hO.out wr.heap.size A2 m c2 (l.ps.flatMap padC) rfl HR.out padC_one (by unfold maxLen;omega) (by omega) hb.size ?_;intro v1 w1 hown1 hg1 hat1)
   have b1:=hb.grown hg1 hb.size (fun q hq=>own_base hO.out hq);have HO1:Hid (PadsOwn w1 w.heap.size v1 (leafPads (ls.take (k+1)))):=uH (by
    rw [HS.out];unfold PadsOwn;have hlm:l.ps.length=m:=by
     have:=HR.out.1;rw [flat_len padC_len] at this;omega
    rw [List.length_append,List.flatMap_append,hlm];exact hown1)
   go_roundw
   case rel=>exact ⟨k+1,by omega,by go_num,HO1,b1⟩
   case measure=>simp [intOf];omega
  ·have hkn:ls.take k=ls:=List.take_of_length_le (by have:=HL.out;omega);rw [hkn] at hO;have hF:=uH (own_form hO.out);clear hkn;go_wp2;go_ret;obtain ⟨A',c',rfl,_⟩:=hF.out;exact ⟨A',c',rfl,hO.out,hb⟩
noncomputable def cntI (css:List (List Pad)):Int:=if cabB css=true then (css.flatten.length:Int) else -1
theorem cntI_yes {css:List (List Pad)} (h:cabB css=true):cntI css=css.flatten.length:=by unfold cntI;rw [if_pos h]
theorem cntI_no {css:List (List Pad)} (h:cabB css=false):cntI css = -1:=by unfold cntI;rw [h];rfl
theorem ret_i {a b:Int} (h:a=b):Ending.returned (.int .i64 a) = .returned (.int .i64 b):=by rw [h]
theorem flat_len_le {ds:List Drawer} (hsz:cabSz ds≤1048576):(allPads ds).length≤1048576:=by have:=allPads_len ds;omega
theorem leaf_all {ls:List Leaf} {ds:List Drawer} (h:ls.map (·.ps)=ds.map (·.ps)):leafPads ls=allPads ds:=by
 rw [leafPads_flat,h,allPads_flat]
theorem implCabinetCount (A:Option Addr) (n c:Nat) (ds:List Drawer) (w:World) (hsz:cabSz ds≤1048576) (h:DrawersIn w w.heap.size A n c ds) :
  Calls Tryz.prog 51 #[.slice A n c] w fun e w'=>e = .returned (.int .i64 (cntI (ds.map (·.ps))))∧Below w.heap.size w w':=by
 have H:=uH h;clear h;go_enter Tryz.func51,Tryz.ntmps51
 (go_wp2_with fail);refine (treeOf A n c ds w H.out).mono ?_;rintro e w1 ⟨hT,b1⟩;rcases hT with ⟨hn,rfl⟩ | ⟨hy,t,v,ls,rfl,hT,hM⟩
 ·have HN:=uH (cntI_no hn);clear hn;go_wp2;go_ret;exact ⟨ret_i HN.out.symm,b1⟩
 ·have HN:=uH (cntI_yes hy);clear hy;have HA:=uH (leaf_all hM);clear hM;have HT:=uH hT;clear hT;(go_wp2_with fail);refine (treePads t v ls _ w1 (by rw [HA.out];exact flat_len_le hsz) HT.out).mono ?_;rintro e w2 ⟨A',c',rfl,_,hb2⟩;have b2:=below_next b1 hb2;go_wp2;go_ret;exact ⟨ret_i (by rw [HN.out,allPads_flat,HA.out]),b2⟩
noncomputable def ansP (css:List (List Pad)):List Pad:=if cabB css=true then css.flatten else []
theorem ansP_yes {css:List (List Pad)} (h:cabB css=true):ansP css=css.flatten:=by unfold ansP;rw [if_pos h]
theorem ansP_no {css:List (List Pad)} (h:cabB css=false):ansP css=[]:=by unfold ansP;rw [h];rfl
def PadsAns (w':World) (B:Nat) (css:List (List Pad)) (e:Ending):Prop :=
 ∃ A c,e = .returned (.tuple #[.slice A (ansP css).length c,.bool (cabB css)])∧PadsOwn w' B (.slice A (ansP css).length c) (ansP css)
theorem PadsAns.no {w':World} {B:Nat} {css:List (List Pad)} {e:Ending} (h:cabB css=false) {A:Option Addr} {c:Nat} (he:e = .returned (.tuple #[.slice A 0 c,.bool false])) (ho:PadsOwn w' B (.slice A 0 c) []):PadsAns w' B css e:=by
 refine ⟨A,c,?_,?_⟩
 ·rw [ansP_no h,h];exact he
 ·rw [ansP_no h];exact ho
theorem PadsAns.yes {w':World} {B:Nat} {css:List (List Pad)} {e:Ending} (h:cabB css=true) {A:Option Addr} {c:Nat} (he:e = .returned (.tuple #[.slice A css.flatten.length c,.bool true])) (ho:PadsOwn w' B (.slice A css.flatten.length c) css.flatten):PadsAns w' B css e:=by
 refine ⟨A,c,?_,?_⟩
 ·rw [ansP_yes h,h];exact he
 ·rw [ansP_yes h];exact ho
def mkDig (n:Nat) (s:ByteArray):ByteArray:=if n=0 then s else mkDig (n / 10) ((⟨#[UInt8.ofNat (48+n % 10)]⟩:ByteArray)++s)
termination_by n
decreasing_by omega
def markT (n:Nat):ByteArray:=(⟨#[109]⟩:ByteArray)++mkDig n ByteArray.empty
def markPad (m:Nat):Pad:=⟨m,markT (m+1)⟩
def marked:Nat→Nat→List Pad
 | _,0=>[]
 | m,n+1=>markPad m::marked (m+2) n
theorem Below.only {w w':World} {row:Option Nat} (h:Below w.heap.size w w'):w.grownBy w' row:=⟨h.os,h.tape,h.output,h.size,fun i hi _=>h.block i hi⟩
theorem only_set {a w:World} {p:Addr} {g:Nat} (h:a.grownBy w (some g)) (hp:p.block=g) (u:Value):a.grownBy (w.setCell p u) (some g) :=
 ⟨h.os,h.tape,h.output,by simpa [World.setCell] using h.size,fun i hi hne=>(Below.heap_setCell w p u i (by rintro rfl;exact hne (by rw [hp]))).trans (h.block i hi hne)⟩
theorem marked_snoc : ∀ m n,marked m (n+1)=marked m n++[markPad (m+2 * n)]
 | _,0=>rfl
 | m,n+1=>by
  rw [marked,marked_snoc (m+2) n,marked,List.cons_append];congr 4;omega
def MarkedTo (cur:Array Value) (cap m k:Nat):Prop:=cur.size=cap * 2∧cur.toList.take (k * 2)=(marked m k).flatMap padC
theorem MarkedTo.step {cur:Array Value} {cap m k:Nat} (h:MarkedTo cur cap m k) (hk:k < cap) {x:Int} (hx:x=((m+2 * k:Nat):Int)) :
  MarkedTo ((cur.setIfInBounds (k * 2) (.int .i64 x)).setIfInBounds (k * 2+1) (.string (markT (m+2 * k+1)))) cap m (k+1):=by
 subst hx;refine ⟨by simpa using h.1,?_⟩;have h1:=h.1;rw [marked_snoc,List.flatMap_append,← h.2];apply List.ext_getElem?;intro j;have hl:(cur.toList.take (k * 2)).length=k * 2:=(by simp;omega);rcases Nat.lt_trichotomy j (k * 2) with hj | rfl | hj
 ·rw [List.getElem?_append_left (by omega),List.getElem?_take_of_lt hj,List.getElem?_take_of_lt (by omega)];simp only [Array.getElem?_toList];rw [Array.getElem?_setIfInBounds_ne (by omega),Array.getElem?_setIfInBounds_ne (by omega)]
 ·rw [List.getElem?_append_right (by omega),hl,List.getElem?_take_of_lt (by omega)];simp only [Array.getElem?_toList];rw [Array.getElem?_setIfInBounds_ne (by omega),Array.getElem?_setIfInBounds_self_of_lt (by omega)];simp [padC,markPad]
 ·rcases Nat.lt_or_ge j (k * 2+2) with hj2 | hj2
  ·obtain rfl:j=k * 2+1:=(by omega);rw [List.getElem?_append_right (by omega),hl,List.getElem?_take_of_lt (by omega)];simp only [Array.getElem?_toList];rw [Array.getElem?_setIfInBounds_self_of_lt (by simp;omega)];simp [padC,markPad]
  ·rw [List.getElem?_eq_none (by simp;omega),List.getElem?_eq_none (by rw [List.length_append,hl];simp [padC];omega)]
structure Within (lo hi:Nat) (w w':World):Prop where
 os:w'.os=w.os
 tape:w'.tape=w.tape
 output:w'.output=w.output
 size:w.heap.size≤w'.heap.size
 block : ∀ b,b < w.heap.size→(b < lo∨hi≤b)→w'.heap[b]? = w.heap[b]?
theorem Within.refl (lo hi:Nat) (w:World):Within lo hi w w:=⟨rfl,rfl,rfl,Nat.le_refl _,fun _ _ _=>rfl⟩
theorem Within.trans {lo hi:Nat} {a b c:World} (h:Within lo hi a b) (k:Within lo hi b c):Within lo hi a c :=
 ⟨k.os.trans h.os,k.tape.trans h.tape,k.output.trans h.output,Nat.le_trans h.size k.size,fun i hi' hr=>(k.block i (Nat.lt_of_lt_of_le hi' h.size) hr).trans (h.block i hi' hr)⟩
theorem Within.below {lo hi B:Nat} {a w w':World} (h:Within lo hi w w') (hb:Below B a w) (h1:B≤lo) (h2:B≤w.heap.size):Below B a w' :=
 hb.trans ⟨h.os,h.tape,h.output,h.size,fun b hb'=>h.block b (by omega) (.inl (by omega))⟩
theorem nodup_ne {l:List Nat} (h:l.Nodup) {i j:Nat} {x y:Nat} (hi:l[i]? = some x) (hj:l[j]? = some y) (hij:i < j):x≠y:=by
 obtain ⟨hi1,rfl⟩:=List.getElem?_eq_some_iff.1 hi;obtain ⟨hj1,rfl⟩:=List.getElem?_eq_some_iff.1 hj;exact List.pairwise_iff_getElem.1 h i j hi1 hj1 hij
theorem own_only {w w':World} {row:Option Nat} {B n sz:Nat} {e:TypeId} {v:Value} {xs:List Value} (h:w.ownsRow B e sz v n xs) (hg:w.grownBy w' row) (hr : ∀ b,v.ownBlock=some b→row≠some b):w'.ownsRow B e sz v n xs :=
 own_congr h fun b hb=>hg.block b (own_lt h hb) (fun e=>hr b hb e.symm)
theorem PadsOwn.keep {w w':World} {B:Nat} {v:Value} {ps:List Pad} (h:PadsOwn w B v ps) (hb:Below w.heap.size w w'):PadsOwn w' B v ps:=own_congr h fun b hv=>hb.block b (own_lt h hv)
theorem PadsOwn.only {w w':World} {row:Option Nat} {B:Nat} {v:Value} {ps:List Pad} (h:PadsOwn w B v ps) (hg:w.grownBy w' row) (hr : ∀ b,v.ownBlock=some b→row≠some b):PadsOwn w' B v ps:=own_only h hg hr
theorem set_map_same {α β:Type} (f:α→β) : ∀ (l:List α) (k:Nat) (x y:α),l[k]? = some x→f y=f x→(l.set k y).map f=l.map f
 | [],_,_,_,h,_=>by simp at h
 | a::r,0,x,y,h,e=>by simp at h;subst h;simp [e]
 | a::r,k+1,x,y,h,e=>by simp only [List.set_cons_succ,List.map_cons];rw [set_map_same f r k x y (by simpa using h) e]
theorem set_filterMap_same {α β:Type} (f:α→Option β) (l:List α) (k:Nat) (x y:α) (h:l[k]? = some x) (e:f y=f x):(l.set k y).filterMap f=l.filterMap f:=by
 have h1:=set_map_same f l k x y h e;have h2 : ∀ m:List α,m.filterMap f=(m.map f).filterMap id:=(fun m=>by rw [List.filterMap_map];rfl);rw [h2,h2,h1]
theorem own_apart {ls:List Leaf} (h:(ls.filterMap (·.v.ownBlock)).Nodup) {i j:Nat} {x y:Leaf} (hi:ls[i]? = some x) (hj:ls[j]? = some y) (hij:i≠j) {b:Nat} (hx:x.v.ownBlock=some b) (hy:y.v.ownBlock=some b):False:=by
 have h1:=List.pairwise_filterMap.1 h;obtain ⟨hi1,rfl⟩:=List.getElem?_eq_some_iff.1 hi;obtain ⟨hj1,rfl⟩:=List.getElem?_eq_some_iff.1 hj;rcases Nat.lt_or_gt_of_ne hij with hlt | hgt
 ·exact List.pairwise_iff_getElem.1 h1 i j hi1 hj1 hlt b hx b hy rfl
 ·exact List.pairwise_iff_getElem.1 h1 j i hj1 hi1 hgt b hy b hx rfl
theorem g_apart {ls:List Leaf} (h:(ls.map (·.g)).Nodup) {i j:Nat} {x y:Leaf} (hi:ls[i]? = some x) (hj:ls[j]? = some y) (hij:i≠j):x.g≠y.g:=by
 rcases Nat.lt_or_gt_of_ne hij with hlt | hgt
 ·exact nodup_ne h (by rw [List.getElem?_map,hi];rfl) (by rw [List.getElem?_map,hj];rfl) hlt
 ·exact (nodup_ne h (by rw [List.getElem?_map,hj];rfl) (by rw [List.getElem?_map,hi];rfl) hgt).symm
theorem TreeIn.turn {w w1:World} {B t k:Nat} {v v2:Value} {ls:List Leaf} {l:Leaf} {ps2:List Pad} (h:TreeIn w B t v ls) (hl:ls[k]? = some l) (hg:w.grownBy w1 l.v.ownBlock) (hO:PadsOwn w1 B v2 ps2) (hv:v2.ownBlock=l.v.ownBlock) (hgood : ∀ p∈ps2,p.good) :
  TreeIn (w1.setCell ⟨l.g,0,none⟩ v2) B t v (ls.set k ⟨l.g,v2,ps2⟩):=by
 have hlm:=List.mem_of_getElem? hl;have hlI:=h.2.2.2.1 l hlm;have hkl:k < ls.length:=(List.getElem?_eq_some_iff.1 hl).1;have hty : ∀ {b:Nat} {cs:Array Value} {ty:TypeId},Blk w b ty cs→ty≠53→Blk w1 b ty cs:=fun {b cs ty} hb hne =>
  (hg.block b hb.lt (fun e=>hb.ne_own hlI.2.2.1 (fun e=>hne e.symm) e.symm)).trans hb
 have hleaf1:Blk w1 l.g 192 #[l.v]:=hty hlI.2.1 (by decide);have hrow : ∀ b,v.ownBlock=some b→(w1.setCell ⟨l.g,0,none⟩ v2).heap[b]? = w.heap[b]? := fun b hb=>by
  obtain ⟨cur,h1⟩:=own_obj h.2.2.1 hb;have h2:Blk w1 b 134 cur:=hty h1 (by decide);rw [Below.heap_setCell w1 _ v2 b (h2.ne_blk hleaf1 (by decide))];exact h2.trans h1.symm
 refine ⟨h.1,?_,own_congr ?_ hrow,?_,?_,?_⟩
 ·have h2:=hty h.2.1 (by decide);exact (Below.heap_setCell w1 _ v2 t (h2.ne_blk hleaf1 (by decide))).trans h2
 ·rw [List.length_set,set_map_same Leaf.ptr ls k l ⟨l.g,v2,ps2⟩ hl rfl];exact h.2.2.1
 ·intro m hm;obtain ⟨j,hj⟩:=List.getElem?_of_mem hm;by_cases hjk:j=k
  ·subst hjk;rw [List.getElem?_set_self hkl] at hj;injection hj with hj;subst hj;refine ⟨hlI.1,by simpa using hleaf1.set 0 v2,own_congr hO (fun b hb=>Below.heap_setCell w1 _ v2 b ?_),hgood⟩;rintro rfl;exact hleaf1.ne_own hO (by decide) hb
  ·rw [List.getElem?_set_ne (fun e=>hjk e.symm)] at hj;have hmI:=h.2.2.2.1 m (List.mem_of_getElem? hj);have hm1:=hty hmI.2.1 (by decide);refine hmI.congr ?_ (fun b hb=>?_)
   ·rw [Below.heap_setCell w1 _ v2 m.g (g_apart h.2.2.2.2.1 hj hl hjk)];exact hm1.trans hmI.2.1.symm
   ·obtain ⟨cur,h1⟩:=own_obj hmI.2.2.1 hb;have h2:w1.heap[b]? = w.heap[b]? := hg.block b (own_lt hmI.2.2.1 hb) (fun e=>own_apart h.2.2.2.2.2 hj hl hjk hb e.symm);rw [Below.heap_setCell w1 _ v2 b (by rintro rfl;exact (show Blk w1 l.g 53 cur from h2.trans h1).ne_blk hleaf1 (by decide) rfl)];exact h2
 ·rw [set_map_same (·.g) ls k l ⟨l.g,v2,ps2⟩ hl rfl];exact h.2.2.2.2.1
 ·rw [set_filterMap_same (·.v.ownBlock) ls k l ⟨l.g,v2,ps2⟩ hl hv];exact h.2.2.2.2.2
def RowAns (w':World) (B:Nat) (D:List Pad) (e:Ending):Prop :=
 ∃ A c,e = .returned (.slice A D.length c)∧PadsOwn w' B (.slice A D.length c) D
theorem RowAns.of {w':World} {B:Nat} {D:List Pad} {e:Ending} {v:Value} (he:e = .returned v) (ho:PadsOwn w' B v D):RowAns w' B D e:=by
 obtain ⟨A,c,rfl,_⟩:=own_form ho;exact ⟨A,c,he,ho⟩
theorem rowNewPad (w:World) (u1 u2:Value) (t:TypeId):Row (w.alloc (.cells #[u1,u2] t)) (w.heap.size+1) (some ⟨w.heap.size,0,none⟩) 1 2 [u1,u2]:=by
 refine ⟨rfl,fun _=>⟨w.heap.size,0,rfl,by omega,fun j x hx=>?_⟩⟩;rcases j with _ | _ | j
 ·simp at hx;subst hx;exact newcell w #[u1,u2] t 0 u1 rfl
 ·simp at hx;subst hx;exact newcell w #[u1,u2] t 1 u2 rfl
 ·simp at hx
def Drawer.v (d:Drawer):Value:=.slice d.A d.n d.c
def DrIn (w:World) (B:Nat) (d:Drawer):Prop:=d.ps.length=d.n∧PadsOwn w B d.v d.ps∧∀ p∈d.ps,p.good
theorem DrIn.congr {w w':World} {B:Nat} {d:Drawer} (h:DrIn w B d) (h2 : ∀ b,d.v.ownBlock=some b→w'.heap[b]? = w.heap[b]?):DrIn w' B d:=⟨h.1,own_congr h.2.1 h2,h.2.2⟩
theorem DrIn.keep {w w':World} {B:Nat} {d:Drawer} (h:DrIn w B d) (hb:Below w.heap.size w w'):DrIn w' B d:=h.congr fun b hv=>hb.block b (own_lt h.2.1 hv)
theorem DrIn.pads {w:World} {B:Nat} {d:Drawer} (h:DrIn w B d):PadsIn w w.heap.size d.A d.n d.c d.ps:=by
 have h2:=h.2.1;unfold Drawer.v at h2;exact h2.reads h.1 h.2.2
def CabOwn (w:World) (B:Nat) (v:Value) (ds:List Drawer):Prop :=
 w.ownsRow B 46 1 v ds.length (ds.flatMap drawerC)∧(∀ d∈ds,DrIn w B d)∧(ds.filterMap (·.v.ownBlock)).Nodup
theorem CabOwn.congr {w w':World} {B:Nat} {v:Value} {ds:List Drawer} (h:CabOwn w B v ds) (h0 : ∀ b,v.ownBlock=some b→w'.heap[b]? = w.heap[b]?)
  (h1 : ∀ d∈ds,∀ b,d.v.ownBlock=some b→w'.heap[b]? = w.heap[b]?):CabOwn w' B v ds :=
 ⟨own_congr h.1 h0,fun d hd=>(h.2.1 d hd).congr (h1 d hd),h.2.2⟩
theorem CabOwn.keep {w w':World} {B:Nat} {v:Value} {ds:List Drawer} (h:CabOwn w B v ds) (hb:Below w.heap.size w w'):CabOwn w' B v ds :=
 h.congr (fun _ hv=>hb.block _ (own_lt h.1 hv)) fun d hd _ hv=>hb.block _ (own_lt (h.2.1 d hd).2.1 hv)
theorem CabOwn.mono {w:World} {B B':Nat} {v:Value} {ds:List Drawer} (h:CabOwn w B v ds) (hB:B'≤B):CabOwn w B' v ds :=
 ⟨own_mono h.1 hB,fun d hd=>⟨(h.2.1 d hd).1,own_mono (h.2.1 d hd).2.1 hB,(h.2.1 d hd).2.2⟩,h.2.2⟩
theorem CabOwn.nil (w:World) (B:Nat):CabOwn w B (.slice none 0 0) []:=⟨World.ownsRow_nil _ _ _ _,by simp,by simp⟩
theorem CabOwn.made (w:World):CabOwn (w.alloc (.cells #[] 46)) w.heap.size (.slice (some ⟨w.heap.size,0,none⟩) 0 0) []:=⟨World.ownsRow_made w #[] 0 (Nat.le_refl _) (by simp) (by simp),by simp,by simp⟩
theorem CabOwn.reads {w:World} {B n c:Nat} {A:Option Addr} {ds:List Drawer} (h:CabOwn w B (.slice A n c) ds) (hn:ds.length=n):DrawersIn w w.heap.size A n c ds:=by
 have h1:=h.1;rw [hn] at h1;obtain ⟨A',c',e,q1,q2⟩:=own_form h1;injection e with e1 e2 e3;subst e1 e3;exact ⟨hn,q1,q2,Row.of_own h1,fun d hd=>(h.2.1 d hd).pads⟩
theorem CabOwn.push {w w1 w2:World} {B:Nat} {v v':Value} {ds:List Drawer} {d:Drawer} (h:CabOwn w B v ds) (hb:Below w.heap.size w w1) (hg:w1.grownBy w2 v.ownBlock)
  (hown:w2.ownsRow B 46 1 v' (ds.length+1) (ds.flatMap drawerC++[d.v])) (hl:DrIn w1 B d) (hm : ∀ b,d.v.ownBlock=some b→w.heap.size≤b):CabOwn w2 B v' (ds++[d]):=by
 have hne : ∀ {b:Nat} {cur:Array Value} {e:TypeId},w1.heap[b]? = some (.cells cur e (0,0))→e≠46→w2.heap[b]? = w1.heap[b]? := by
  intro b cur e h1 h2;rcases Nat.lt_or_ge b w1.heap.size with hlt | hge
  ·refine hg.block b hlt (fun hq=>h2 ?_);obtain ⟨cur',h3⟩:=own_obj (h.keep hb).1 hq.symm;rw [h1] at h3;injection h3 with h3;injection h3
  ·rw [Array.getElem?_eq_none hge] at h1;cases h1
 have hold : ∀ m,DrIn w1 B m→DrIn w2 B m:=fun m hm=>hm.congr fun b hv=>by
  obtain ⟨cur,h1⟩:=own_obj hm.2.1 hv;exact hne h1 (by decide)
 refine ⟨?_,fun m hm=>?_,?_⟩
 ·rw [List.length_append,List.flatMap_append];simpa [drawerC,Drawer.v] using hown
 ·rcases List.mem_append.1 hm with hm | hm
  ·exact hold m ((h.keep hb).2.1 m hm)
  ·simp at hm;subst hm;exact hold m hl
 ·rw [List.filterMap_append,List.nodup_append];refine ⟨h.2.2,?_,?_⟩
  ·cases hv:d.v.ownBlock <;> simp [hv]
  ·intro a ha b hb' hab;obtain ⟨m,hm',hma⟩:=List.mem_filterMap.1 ha;have h1:=own_lt (h.2.1 m hm').2.1 hma;obtain ⟨m',hm'',hmb⟩:=List.mem_filterMap.1 hb';simp at hm'';subst hm'';have:=hm b hmb;omega
theorem CabOwn.len {w:World} {B n c:Nat} {A:Option Addr} {ds:List Drawer} (h:CabOwn w B (.slice A n c) ds):ds.length=n:=by
 obtain ⟨A',c',e,_⟩:=own_form h.1;injection e with e1 e2 e3;exact e2.symm
theorem CabOwn.form {w:World} {B:Nat} {v:Value} {ds:List Drawer} (h:CabOwn w B v ds) : ∃ A c,v = .slice A ds.length c∧ds.length≤c∧c≤maxLen:=own_form h.1
def FileAns (w':World) (B:Nat) (o:Option (List (List Pad))) (e:Ending):Prop :=
 (o=none∧∃ A c,e = .returned (.tuple #[.slice A 0 c,.bool false])∧CabOwn w' B (.slice A 0 c) []) ∨
 ∃ A c ds,o=some (ds.map (·.ps))∧e = .returned (.tuple #[.slice A ds.length c,.bool true])∧CabOwn w' B (.slice A ds.length c) ds
theorem FileAns.no {w':World} {B:Nat} {o:Option (List (List Pad))} {e:Ending} {A:Option Addr} {c:Nat} (h:o=none) (he:e = .returned (.tuple #[.slice A 0 c,.bool false])) (hc:CabOwn w' B (.slice A 0 c) []):FileAns w' B o e:=.inl ⟨h,A,c,he,hc⟩
theorem FileAns.yes {w':World} {B n:Nat} {o:Option (List (List Pad))} {e:Ending} {A:Option Addr} {c:Nat} {ds:List Drawer} (h:o=some (ds.map (·.ps))) (he:e = .returned (.tuple #[.slice A n c,.bool true])) (hc:CabOwn w' B (.slice A n c) ds):FileAns w' B o e :=
 .inr ⟨A,c,ds,h,by rw [hc.len];exact he,by rw [hc.len];exact hc⟩
def fromA (a:Option Addr) (k c sz:Nat):Option Addr:=if c=k then a else a.map (·.add (k * sz))
theorem run_from {P:Program} {t:TypeId} {sz:Nat} (ht:P.underlying t=some (.slice (P.elem t))) (hs : ∀ w,(sizeOf (P.elem t)).run P w = .ok sz w) (a:Option Addr) (n c k:Nat) (hk:k≤n) (w:World) :
  (Instr.slice t (.slice a n c) (some (.int .i64 (k:Int))) none none).run P w = .ok (.slice (fromA a k c sz) (n - k) (c - k)) w:=by
 rw [run_slice_l w t a n c ht .i64 (k:Int) (by omega) (by omega),hs];simp [Result.andThen,sliced,fromA]
theorem run_upto {P:Program} {t:TypeId} {sz:Nat} (ht:P.underlying t=some (.slice (P.elem t))) (hs : ∀ w,(sizeOf (P.elem t)).run P w = .ok sz w) (b off n c k:Nat) (hk:k≤c) (w:World) :
  (Instr.slice t (.slice (some ⟨b,off,none⟩) n c) none (some (.int .i64 (k:Int))) none).run P w = .ok (.slice (some ⟨b,off,none⟩) k c) w:=by
 rw [run_slice_h w t (some ⟨b,off,none⟩) n c ht .i64 (k:Int) (by omega) (by omega),hs];simp [Result.andThen,sliced,Addr.add]
theorem Row.from_ {w:World} {B n sz k c:Nat} {A:Option Addr} {xs:List Value} (h:Row w B A n sz xs) (hk:k≤n) (hc:n≤c):Row w B (fromA A k c sz) (n - k) sz (xs.drop (k * sz)):=by
 unfold fromA;by_cases e:c=k
 ·rw [if_pos e];have h0:n - k=0:=(by omega);have h1:xs.drop (k * sz)=[]:=List.drop_of_length_le (by rw [h.1];exact Nat.mul_le_mul_right _ (by omega));rw [h0,h1];exact Row.empty
 ·rw [if_neg e];rcases Nat.eq_zero_or_pos n with hn | hn
  ·have h0:n - k=0:=(by omega);have h1:xs.drop (k * sz)=[]:=List.drop_of_length_le (by rw [h.1,hn];simp);rw [h0,h1];exact Row.empty
  ·obtain ⟨b,off,eA,_⟩:=h.2 hn;subst eA;rw [show Option.map (fun x:Addr=>x.add (k * sz)) (some (⟨b,off,none⟩:Addr))=some ⟨b,off+k * sz,none⟩ from by
    by_cases hz:k * sz=0
    ·simp [Addr.add,hz]
    ·simp [Addr.add,hz]]
   exact h.drop hk
theorem PadsIn.from_ {w:World} {B n c k:Nat} {A:Option Addr} {ps:List Pad} (h:PadsIn w B A n c ps) (hk:k≤n):PadsIn w B (fromA A k c 2) (n - k) (c - k) (ps.drop k) :=
 ⟨by rw [List.length_drop,h.1],by have:=h.2.1;omega,by have:=h.2.2.1;omega,by rw [← flat_drop padC_len];exact h.2.2.2.1.from_ hk h.2.1,fun p hp=>h.2.2.2.2 p (List.mem_of_mem_drop hp)⟩
theorem PadsIn.upto {w:World} {B n c k:Nat} {A:Option Addr} {ps:List Pad} (h:PadsIn w B A n c ps) (hk:k≤n):PadsIn w B A k c (ps.take k) :=
 ⟨by rw [List.length_take,h.1];omega,by have:=h.2.1;omega,h.2.2.1,by rw [← flat_take padC_len];exact h.2.2.2.1.take hk,fun p hp=>h.2.2.2.2 p (List.mem_of_mem_take hp)⟩
theorem DrawersIn.from_ {w:World} {B n c k:Nat} {A:Option Addr} {ds:List Drawer} (h:DrawersIn w B A n c ds) (hk:k≤n):DrawersIn w B (fromA A k c 1) (n - k) (c - k) (ds.drop k) :=
 ⟨by rw [List.length_drop,h.1],by have:=h.2.1;omega,by have:=h.2.2.1;omega,by rw [← flat_drop drawerC_len];exact h.2.2.2.1.from_ hk h.2.1,fun p hp=>h.2.2.2.2 p (List.mem_of_mem_drop hp)⟩
theorem DrawersIn.upto {w:World} {B n c k:Nat} {A:Option Addr} {ds:List Drawer} (h:DrawersIn w B A n c ds) (hk:k≤n):DrawersIn w B A k c (ds.take k) :=
 ⟨by rw [List.length_take,h.1];omega,by have:=h.2.1;omega,h.2.2.1,by rw [← flat_take drawerC_len];exact h.2.2.2.1.take hk,fun p hp=>h.2.2.2.2 p (List.mem_of_mem_take hp)⟩
theorem elemPads:Tryz.prog.underlying 46=some (.slice (Tryz.prog.elem 46)):=by kernel_rfl
theorem elemCab:Tryz.prog.underlying 48=some (.slice (Tryz.prog.elem 48)):=by kernel_rfl
theorem sizePad : ∀ w,(sizeOf (Tryz.prog.elem 46)).run Tryz.prog w = .ok 2 w:=fun w=>by kernel_rfl
theorem sizeSl : ∀ w,(sizeOf (Tryz.prog.elem 48)).run Tryz.prog w = .ok 1 w:=fun w=>by kernel_rfl
end Go.Proofs.YtbkhnljaajajiaaGreatDoor
