/-
  Contracts and plain laws that the proofs lean on. Conditions: as each says.
-/
import Derived.Test.YtbkhnljaajajiaaGreatDoorPX06
import Derived.Test.YtbkhnljaajajiaaGreatDoorPX09
import Derived.Test.YtbkhnljaajajiaaGreatDoorPX13
set_option maxRecDepth 100000
set_option linter.unusedSimpArgs false
set_option linter.unusedVariables false
set_option linter.unnecessarySimpa false
namespace Go.Proofs.YtbkhnljaajajiaaGreatDoor
open Go.ChangeShapes Go.WideShapes Go.ChangeAt Go.RowKit
theorem treeCab (t:Nat) (v:Value) (ls:List Leaf) (B:Nat) (w:World) (hn:ls.length≤1048576) (hne : ∀ l∈ls,1≤l.ps.length∧l.ps.length≤1048576) (h:TreeIn w B t v ls) :
  Calls Tryz.prog 78 #[.pointer (some ⟨t,0,none⟩)] w fun e w'=>CabAns w' w.heap.size (ls.map (·.ps)) e∧Below w.heap.size w w':=by
 obtain ⟨A,c,rfl,hnc,hm⟩:=own_form h.2.2.1;have hc0:=h.2.1.cell 0;have H:=uH h.2.2;have htl:=h.2.1.lt;generalize hl:ls.length=n at *;have HL:=uH hl;clear h hl;have HNe:=uH hne;clear hne;unfold maxLen at hm;obtain ⟨i1,hj,hy0,hy1,hy2⟩:=info_parts infoSl;go_enter Tryz.func78,Tryz.ntmps78
 go_wp2;go_loopw [3,12] (fun v i wr=>∃ (k:Nat) (ds:List Drawer),k≤n∧i = .int .i64 k∧ds.length=k∧Hid (CabOwn wr w.heap.size v ds)∧Hid (ds.map (·.ps)=(ls.take k).map (·.ps))∧Below w.heap.size w wr) (fun _ i _=>n - (intOf i).toNat)
 case atStart=>exact ⟨0,[],Nat.zero_le _,rfl,rfl,uH (CabOwn.made w),uH (by simp),(Below.refl _ _).alloc (Nat.le_refl _) _⟩
 case round =>
  obtain ⟨k,ds,hk,rfl,hdl,hO,hM,hb⟩:=hrel;have HDL:=uH hdl;by_cases hlt:k < n
  ·obtain ⟨b,off,eA,hbB,c0,hgl,c1,_,_,hP,hgd⟩:=(H.out.below hb).at_ HL.out hlt;have hkl:k < ls.length:=(by rw [HL.out];exact hlt);have HT:Hid ((ls.take (k+1)).map (·.ps)=(ls.take k).map (·.ps)++[(leafAt ls k).ps]):=uH (by rw [take_step (leafAt_some hkl)];simp);obtain ⟨h1,h2⟩:=HNe.out _ (leafAt_mem hkl);subst eA;obtain ⟨A2,c2,e2,hnc2,hcm2⟩:=own_form hP;rw [e2] at c1 hP;have HCl:=uH (clonePads A2 (leafAt ls k).ps.length c2 (leafAt ls k).ps wr h1 h2 (hP.reads rfl hgd));have HGd:=uH hgd;have hz:=hb.size;have hdn:ds.length≤n:=(by omega);clear hkl hP e2 hgd hdl;generalize leafAt ls k=l at *;generalize hlm:l.ps.length=m at *;have HLM:=uH hlm;clear hlm;go_wp2_with (first
    | (go_at_call 141;refine HCl.out.mono ?_;rintro e w1 ⟨g1,c3,rfl,hO1,hg1,hb1⟩;have HO1:=uH hO1;have HC1:=uH (hO.out.keep hb1);have z1:=hb1.size;have b1:=hb1;clear hO1 hb1)
    | (at_builtin;refine wpList_append_any _ rfl (.tmp 16) (.tmp 22) _ rfl w.heap.size 46 i1 _ 1 24 Tryz.underlying48 hj hy0 hy1 hy2 rfl (by omega) _ ds.length (ds.flatMap drawerC) rfl (HC1.out.1.alloc _) (w1.heap.size+1) (some ⟨w1.heap.size,0,none⟩) 1 1 [.slice (some ⟨g1,0,none⟩) m c3] rfl cabRow1 (by simp [Value.oneCell']) (by unfold maxLen;omega) (by omega) (by simp;omega) ?_;intro v2 w2 hown2 hg2 hat2;obtain ⟨hcab,hbb⟩:=newPush hz hO.out b1 (by have h:=HO1.out;unfold PadsOwn at h;rw [HLM.out] at h;exact h) HLM.out HGd.out hg2 hown2;have HC2:=uH hcab;have b2:=hb.trans hbb;clear hown2 hg2 hat2 hcab hbb))
   have HM2:Hid ((ds++[(⟨some ⟨g1,0,none⟩,m,c3,l.ps⟩:Drawer)]).map (·.ps)=(ls.take (k+1)).map (·.ps)):=uH (by rw [HT.out,← hM.out,List.map_append];rfl);go_roundw
   case rel=>exact ⟨k+1,_,by omega,by go_num,by rw [List.length_append,HDL.out];rfl,HC2,HM2,b2⟩
   case measure=>simp [intOf];omega
  ·have hkn:ls.take k=ls:=List.take_of_length_le (by have:=HL.out;omega);rw [hkn] at hM;clear hkn hdl;go_wp2;go_ret;exact ⟨.of rfl hO.out hM.out,hb⟩
theorem WdOwn.keep {w w':World} {B:Nat} {v:Value} {ws:List Wd} (h:WdOwn w B v ws) (hb:Below w.heap.size w w'):WdOwn w' B v ws:=ownG_keep h hb
theorem WdOwn.made (w:World):WdOwn (w.alloc (.cells #[] 9)) w.heap.size (.slice (some ⟨w.heap.size,0,none⟩) 0 0) []:=World.ownsRow_made w #[] 0 (Nat.le_refl _) (by simp) (by simp)
end Go.Proofs.YtbkhnljaajajiaaGreatDoor
namespace Go.Proofs.YtbkhnljaajajiaaGreatDoor
open Go.ChangeShapes Go.WideShapes Go.ChangeAt Go.RowKit Go.Shelf Go.Lib
theorem infoInsPad : ∃ i:TypeInfo,Tryz.prog.info? 53=some i∧i.zero=some (.agg #[.int .i64 0,.string ByteArray.empty])∧i.size=2∧i.bytes=24:=⟨_,by rfl,by rfl,by rfl,by rfl⟩
theorem sizeOfPad : ∀ w,(Go.sizeOf 53).run Tryz.prog w = .ok 2 w:=fun w=>by kernel_rfl
theorem apartPad (w:World) (g o vb n c lb cb:Nat) (cur vs:Array Value) (h:Blk w g 53 cur) (hv:Blk w vb 53 vs) (hs:cur.size≠0) (hne:vb≠g) :
  (callFunc 229 #[.slice (some ⟨vb,0,none⟩) n c,.slice (some ⟨g,o,none⟩) lb cb]).run Tryz.prog w = .ok (.value (.bool false)) w:=by
 rw [run_callFunc_extern Tryz.func229 (by kernel_rfl) (by kernel_rfl) (by kernel_rfl) (e:=Extern.SlicesOverlaps.overlaps #[46,46] #[4]) (by kernel_rfl),
  Lib.run_overlaps_apart w 46 4 53 Tryz.underlying46 2 sizeOfPad ⟨vb,0,none⟩ ⟨g,o,none⟩ n c lb cb hne 53 53 vs.size cur.size (by unfold Blk at hv;simp [World.shape?,hv]) (by unfold Blk at h;simp [World.shape?,h]) hs (hv.free _) (hv.free _)]
 rfl
def InsAnsPad (w w':World) (B:Nat) (v:Value) (n i:Nat) (xs vs:List Value) (e:Ending):Prop :=
 ∃ v',e = .returned v'∧w'.ownsRow B 53 2 v' (n+1) (xs.take (i * 2)++vs++xs.drop (i * 2))∧w.grownBy w' v.ownBlock∧(v'.ownBlock=v.ownBlock∨v'.ownBlock=some w.heap.size)
set_option maxHeartbeats 1000000 in
theorem insEndPad (A:Option Addr) (n c vb B:Nat) (xs vs:List Value) (w:World) (hn:n≤1048576) (hB:B≤w.heap.size) (hO:w.ownsRow B 53 2 (.slice A n c) n xs) (hR:Row w w.heap.size (some ⟨vb,0,none⟩) 1 2 vs) (h1v : ∀ u∈vs,u.oneCell'=true) :
  Calls Tryz.prog 192 #[.slice A n c,.int .i64 n,.slice (some ⟨vb,0,none⟩) 1 1] w fun e w'=>InsAnsPad w w' B (.slice A n c) n n xs vs e:=by
 obtain ⟨i0,hi,hz0,hz1,hz2⟩:=infoInsPad;have hsl : ∀ W,(Instr.slice 46 (.slice A n c) (some (.int .i64 (n:Int))) none none).run Tryz.prog W = .ok (.slice (fromA A n c 2) (n - n) (c - n)) W:=fun W=>run_from elemPads sizePad A n c n (Nat.le_refl _) W;have hx:=hO.1;go_enter Tryz.func192,Tryz.ntmps192
 go_wp2_with (at_builtin;refine wpList_append_any _ rfl (.tmp 23) (.tmp 24) _ rfl B 53 i0 _ 2 24 Tryz.underlying46 hi hz0 hz1 hz2 rfl (by omega) _ n xs rfl hO w.heap.size (some ⟨vb,0,none⟩) 1 1 vs rfl hR h1v (by unfold maxLen;omega) (by omega) hB ?_;intro v2 w2 hown2 hg2 hat2)
 go_ret;refine ⟨v2,rfl,?_,hg2,hat2⟩;rw [List.take_of_length_le (by omega),List.drop_of_length_le (by omega),List.append_nil];exact hown2
set_option maxHeartbeats 1000000 in
theorem insShiftPad (g n c i vb B:Nat) (xs vs:List Value) (cur:Array Value) (w:World) (hi:i < n) (hn:n≤1048576) (hc:n+1≤c) (hcm:c≤9223372036854775807) (hB:B≤g) (hne:vb≠g) (hC:Blk w g 53 cur) (hcs:cur.size=c * 2) (ht:cur.toList.take (n * 2)=xs)
  (hV:Blk w vb 53 vs.toArray) (hvl:vs.length=2) (h1 : ∀ u∈xs,u.oneCell'=true) (h1v : ∀ u∈vs,u.oneCell'=true) :
  Calls Tryz.prog 192 #[.slice (some ⟨g,0,none⟩) n c,.int .i64 i,.slice (some ⟨vb,0,none⟩) 1 1] w fun e w'=>InsAnsPad w w' B (.slice (some ⟨g,0,none⟩) n c) n i xs vs e:=by
 obtain ⟨i0,hi0,hz0,hz1,hz2⟩:=infoInsPad;have hxl:xs.length=n * 2:=(by rw [← ht,List.length_take,Array.length_toList];omega);have hsz:(Tryz.prog.info? 53).map (·.size)=some 2:=(by rw [hi0];simp [hz1]);have hdl:(xs.drop (i * 2)).length=(n - i) * 2:=(by rw [List.length_drop,hxl];omega);have hgs : ∀ k,k < n * 2→cur[k]? = xs[k]? := (fun k hk=>by rw [← ht,List.getElem?_take_of_lt hk];simp);have hov : ∀ o lb cb,(callFunc 229 #[.slice (some ⟨vb,0,none⟩) 1 1,.slice (some ⟨g,o,none⟩) lb cb]).run Tryz.prog w = .ok (.value (.bool false)) w:=fun o lb cb=>apartPad w g o vb 1 1 lb cb cur _ hC hV (by omega) hne;obtain ⟨R1,hR1⟩ : ∃ R1,R1=putAt cur ((i+1) * 2) (xs.drop (i * 2)):=⟨_,rfl⟩;obtain ⟨R2,hR2⟩ : ∃ R2,R2=putAt R1 (i * 2) vs:=⟨_,rfl⟩;have hs1:R1.size=c * 2:=(by rw [hR1,putAt_size (by rw [hdl];omega)];exact hcs);have hs2:R2.size=c * 2:=(by rw [hR2,putAt_size (by rw [hvl];omega)];exact hs1);have hcp1 : ∀ ty dc sc,(Builtin.copy_ #[46,46] ty #[.slice (some ⟨g,(i+1) * 2,none⟩) (n - i) dc,.slice (some ⟨g,i * 2,none⟩) (n+1 - i) sc]).run Tryz.prog w.drew = .ok (goInt (n - i:Nat)) (w.drew.setRow g R1):=fun ty dc sc=>by
  rw [hR1];exact run_copy_any 2 w.drew _ _ ty 53 g ((i+1) * 2) (n - i) dc ⟨g,i * 2,none⟩ (n+1 - i) sc cur 53 (xs.drop (i * 2)) Tryz.underlying46 hsz hC (n - i) (by simp only [Nat.min_def];split <;> omega) hdl
   (fun j u hj=>by
    rw [List.getElem?_drop] at hj;have hlt:=(List.getElem?_eq_some_iff.1 hj).1;rw [Addr.add_lit]
    show w.cell? _=_
    rw [hC.cell,hgs _ (by omega)];exact hj)
   (by rw [hdl];omega) (fun u hu=>h1 u (List.mem_of_mem_drop hu))
 have hcp2 : ∀ (W:World),W.heap=(w.setRow g R1).heap→∀ ty dc,(Builtin.copy_ #[46,46] ty #[.slice (some ⟨g,i * 2,none⟩) (n+1 - i) dc,.slice (some ⟨vb,0,none⟩) 1 1]).run Tryz.prog W = .ok (goInt (1:Nat)) (W.setRow g R2):=fun W hW ty dc=>by
  have hV1:Blk W vb 53 vs.toArray:=(by unfold Blk;rw [hW,setRow_other w g vb R1 hne];exact hV);rw [hR2];exact run_copy_any 2 W _ _ ty 53 g (i * 2) (n+1 - i) dc ⟨vb,0,none⟩ 1 1 R1 53 vs Tryz.underlying46 hsz (by rw [hW];exact setRow_heap w g cur R1 53 (0,0) hC) 1 (by simp only [Nat.min_def];split <;> omega) (by omega)
   (fun j u hj=>by rw [Addr.add_lit,hV1.cell];simpa using hj) (by omega) h1v
 have hs0 : ∀ W,(Instr.slice 46 (.slice (some ⟨g,0,none⟩) n c) (some (.int .i64 (i:Int))) none none).run Tryz.prog W = .ok (.slice (fromA (some ⟨g,0,none⟩) i c 2) (n - i) (c - i)) W:=fun W=>run_from elemPads sizePad _ n c i (by omega) W;have hsA : ∀ W,(Instr.slice 46 (.slice (some ⟨g,0,none⟩) n c) none (some (.int .i64 ((n:Int)+1))) none).run Tryz.prog W = .ok (.slice (some ⟨g,0,none⟩) (n+1) c) W:=fun W=>run_upto elemPads sizePad g 0 n c (n+1) hc W;have hsB : ∀ W,(Instr.slice 46 (.slice (some ⟨g,0,none⟩) (n+1) c) (some (.int .i64 ((i:Int)+1))) none none).run Tryz.prog W = .ok (.slice (some ⟨g,(i+1) * 2,none⟩) (n - i) (c - (i+1))) W:=fun W=>by
  rw [← from_at g (i+1) c 2 (by omega),show n - i=n+1 - (i+1) by omega];exact run_from elemPads sizePad _ (n+1) c (i+1) (by omega) W
 have hsC : ∀ W,(Instr.slice 46 (.slice (some ⟨g,0,none⟩) (n+1) c) (some (.int .i64 (i:Int))) none none).run Tryz.prog W = .ok (.slice (some ⟨g,i * 2,none⟩) (n+1 - i) (c - i)) W:=fun W=>by
  rw [← from_at g i c 2 (by omega)];exact run_from elemPads sizePad _ (n+1) c i (by omega) W
 have hw1:IntKind.i64.wrap ((i:Int)+1)=(i:Int)+1:=IntWalk.i64_in _ (by omega);have hw2:IntKind.i64.wrap ((n:Int)+1)=(n:Int)+1:=IntWalk.i64_in _ (by omega);have hin2 : ¬ ((i:Int)=(n:Int)):=(by omega);have HP:=uH (put_shift (i:=i) ht hvl (by omega) (by omega));have HO:Hid (∀ W:World,W.heap=((w.setRow g R1).setRow g R2).heap→W.ownsRow B 53 2 (.slice (some ⟨g,0,none⟩) (n+1) c) (n+1) (xs.take (i * 2)++vs++xs.drop (i * 2))):=uH (fun W hW=>by
  obtain ⟨rest,hr⟩:=HP.out;rw [← hR1,← hR2] at hr;refine own_of_row hB (by rw [hW];exact setRow_heap _ g R1 R2 53 (0,0) (setRow_heap w g cur R1 53 (0,0) hC)) hc (by unfold maxLen;omega) hs2 ?_ hr;rw [List.length_append,List.length_append,List.length_take,List.length_drop,hxl,hvl];omega)
 clear hR1 hR2 HP hs1 hs2 hgs hdl ht hC hV;go_enter Tryz.func192,Tryz.ntmps192
 go_wp2_with (simp only [hov])
 go_region_law (refine step_copy_runI rfl (.tmp 73) (.tmp 76) 46 46 rfl (.slice (some ⟨g,(i+1) * 2,none⟩) (n - i) (c - (i+1))) (.slice (some ⟨g,i * 2,none⟩) (n+1 - i) (c - i)) (by simp [Act.eval,Act.put]) (by simp [Act.eval,Act.put]) (hcp1 _ _ _) ?_)
 have hcp3:=fun ty dc=>hcp2 (w.drew.setRow g R1) rfl ty dc;go_wp2_with (simp only [hcp3])
 go_ret;exact ⟨_,rfl,HO.out _ rfl,only_setRow (only_setRow (Below.only (Below.refl _ _).drew) R1) R2,.inl rfl⟩
set_option maxHeartbeats 1000000 in
theorem insGrowPad (g n c i vb B:Nat) (xs vs:List Value) (cur:Array Value) (w:World) (hi:i < n) (hn:n≤1048576) (hnc:n≤c) (hc:c < n+1) (hB:B≤w.heap.size) (hC:Blk w g 53 cur) (hcs:cur.size=c * 2) (ht:cur.toList.take (n * 2)=xs)
  (hV:Blk w vb 53 vs.toArray) (hvl:vs.length=2) (h1 : ∀ u∈xs,u.oneCell'=true) (h1v : ∀ u∈vs,u.oneCell'=true) :
  Calls Tryz.prog 192 #[.slice (some ⟨g,0,none⟩) n c,.int .i64 i,.slice (some ⟨vb,0,none⟩) 1 1] w fun e w'=>InsAnsPad w w' B (.slice (some ⟨g,0,none⟩) n c) n i xs vs e:=by
 obtain ⟨i0,hi0,hz0,hz1,hz2⟩:=infoInsPad;have hxl:xs.length=n * 2:=(by rw [← ht,List.length_take,Array.length_toList];omega);have hsz:(Tryz.prog.info? 53).map (·.size)=some 2:=(by rw [hi0];simp [hz1]);have hdl:(xs.drop (i * 2)).length=(n - i) * 2:=(by rw [List.length_drop,hxl];omega);have htl:(xs.take (i * 2)).length=i * 2:=(by rw [List.length_take,hxl];omega);have hgs : ∀ k,k < n * 2→cur[k]? = xs[k]? := (fun k hk=>by rw [← ht,List.getElem?_take_of_lt hk];simp);have hgl:=hC.lt;have hvb:=hV.lt;have hold:(Builtin.firstCells i0.size i (.slice (some ⟨g,0,none⟩) i c)).run Tryz.prog w.drew = .ok (xs.take (i * 2)).toArray w.drew:=by
  rw [hz1];exact run_firstCells_some w.drew 2 i ⟨g,0,none⟩ i c (xs.take (i * 2)) htl (fun j u hj=>by
   rw [Addr.add_lit];rw [List.getElem?_take] at hj;split at hj
   ·show w.cell? _=_
    rw [hC.cell,hgs _ (by omega)];simpa using hj
   ·cases hj)
 have hkk:(n:Int)+1 - (i:Int)=((n+1 - i:Nat):Int):=(by omega);have hik:i+(n+1 - i)=n+1:=(by omega);obtain ⟨G,hG⟩ : ∃ G,G=grownCap w (n+1) c 53:=⟨_,rfl⟩;obtain ⟨ROW,hROW⟩ : ∃ ROW:Array Value,ROW=(xs.take (i * 2)).toArray++Builtin.zeroCells (Value.cells (.agg #[.int .i64 0,.string ByteArray.empty])) (n+1 - i)++Builtin.zeroCells (Value.cells (.agg #[.int .i64 0,.string ByteArray.empty])) (G - (n+1)):=⟨_,rfl⟩;have hGn:n+1≤G:=(by rw [hG];exact grownCap_ge w _ _ _);have hGm:G≤maxLen:=(by rw [hG];exact grownCap_le_maxLen w (n+1) c 53 (by unfold maxLen;omega));have hRs:ROW.size=G * 2:=by
  rw [hROW];simp only [Array.size_append,List.size_toArray,htl,size_zeroCells]
  show i * 2+(n+1 - i) * 2+(G - (n+1)) * 2=G * 2
  omega
 obtain ⟨W1,hW1⟩ : ∃ W1,W1=w.drew.alloc (.cells ROW 53):=⟨_,rfl⟩;have hrz : ∀ ty,(Builtin.append_ #[46,3] ty #[.slice (some ⟨g,0,none⟩) i c,.int .i64 ((n:Int)+1 - (i:Int))]).run Tryz.prog w = .ok (.slice (some ⟨w.heap.size,0,none⟩) (n+1) G) W1:=fun ty=>by
  have h:=Lib.run_append_grow_zeros w 46 3 ty 53 i0 _ .i64 .i64 Tryz.underlying46 Tryz.underlying3 hi0 hz0 (some ⟨g,0,none⟩) i c (xs.take (i * 2)) hold (n+1 - i) (by omega) (by omega) (by omega) (by omega) (by rw [hz2];omega) (by rw [hz2,hik];exact growslice_fits hc (by omega));rw [hik,← hG,← hROW,← hW1] at h;rw [hkk];exact h
 have hNB:Blk W1 w.heap.size 53 ROW:=(by rw [hW1];exact Blk.new w.drew _ _);have hbel:Below w.heap.size w W1:=(by rw [hW1];exact (Below.refl _ _).drew.alloc (Nat.le_refl _) _);have hV1:=hV.below hbel;have hC1:=hC.below hbel;obtain ⟨R1,hR1⟩ : ∃ R1,R1=putAt ROW (i * 2) vs:=⟨_,rfl⟩;obtain ⟨R2,hR2⟩ : ∃ R2,R2=putAt R1 ((i+1) * 2) (xs.drop (i * 2)):=⟨_,rfl⟩;have hs1:R1.size=G * 2:=(by rw [hR1,putAt_size (by rw [hvl];omega)];exact hRs);have hs2:R2.size=G * 2:=(by rw [hR2,putAt_size (by rw [hdl];omega)];exact hs1);have hcp1 : ∀ ty dc,(Builtin.copy_ #[46,46] ty #[.slice (some ⟨w.heap.size,i * 2,none⟩) (n+1 - i) dc,.slice (some ⟨vb,0,none⟩) 1 1]).run Tryz.prog W1 = .ok (goInt (1:Nat)) (W1.setRow w.heap.size R1):=fun ty dc=>by
  rw [hR1];exact run_copy_any 2 W1 _ _ ty 53 w.heap.size (i * 2) (n+1 - i) dc ⟨vb,0,none⟩ 1 1 ROW 53 vs Tryz.underlying46 hsz hNB 1 (by simp only [Nat.min_def];split <;> omega) (by omega)
   (fun j u hj=>by rw [Addr.add_lit,hV1.cell];simpa using hj) (by omega) h1v
 have hcp2 : ∀ ty dc sc,(Builtin.copy_ #[46,46] ty #[.slice (some ⟨w.heap.size,(i+1) * 2,none⟩) (n - i) dc,.slice (some ⟨g,i * 2,none⟩) (n - i) sc]).run Tryz.prog (W1.setRow w.heap.size R1).drew = .ok (goInt (n - i:Nat)) ((W1.setRow w.heap.size R1).drew.setRow w.heap.size R2):=fun ty dc sc=>by
  have hC2:Blk (W1.setRow w.heap.size R1) g 53 cur:=(by unfold Blk;rw [setRow_other _ _ _ _ (by omega)];exact hC1);rw [hR2];exact run_copy_any 2 (W1.setRow w.heap.size R1).drew _ _ ty 53 w.heap.size ((i+1) * 2) (n - i) dc ⟨g,i * 2,none⟩ (n - i) sc R1 53 (xs.drop (i * 2)) Tryz.underlying46 hsz (setRow_heap W1 _ ROW R1 53 (0,0) hNB) (n - i) (by simp) hdl
   (fun j u hj=>by
    rw [List.getElem?_drop] at hj;have hlt:=(List.getElem?_eq_some_iff.1 hj).1;rw [Addr.add_lit]
    show (W1.setRow w.heap.size R1).cell? _=_
    rw [hC2.cell,hgs _ (by omega)];exact hj)
   (by rw [hdl];omega) (fun u hu=>h1 u (List.mem_of_mem_drop hu))
 have hsA : ∀ W,(Instr.slice 46 (.slice (some ⟨g,0,none⟩) n c) (some (.int .i64 (i:Int))) none none).run Tryz.prog W = .ok (.slice (some ⟨g,i * 2,none⟩) (n - i) (c - i)) W:=fun W=>by
  rw [← from_at g i c 2 (by omega)];exact run_from elemPads sizePad _ n c i (by omega) W
 have hsB : ∀ W,(Instr.slice 46 (.slice (some ⟨g,0,none⟩) n c) none (some (.int .i64 (i:Int))) none).run Tryz.prog W = .ok (.slice (some ⟨g,0,none⟩) i c) W:=fun W=>run_upto elemPads sizePad g 0 n c i (by omega) W;have hsC : ∀ W,(Instr.slice 46 (.slice (some ⟨w.heap.size,0,none⟩) (n+1) G) (some (.int .i64 ((i:Int)+1))) none none).run Tryz.prog W = .ok (.slice (some ⟨w.heap.size,(i+1) * 2,none⟩) (n - i) (G - (i+1))) W:=fun W=>by
  rw [← from_at w.heap.size (i+1) G 2 (by omega),show n - i=n+1 - (i+1) by omega];exact run_from elemPads sizePad _ (n+1) G (i+1) (by omega) W
 have hsD : ∀ W,(Instr.slice 46 (.slice (some ⟨w.heap.size,0,none⟩) (n+1) G) (some (.int .i64 (i:Int))) none none).run Tryz.prog W = .ok (.slice (some ⟨w.heap.size,i * 2,none⟩) (n+1 - i) (G - i)) W:=fun W=>by
  rw [← from_at w.heap.size i G 2 (by omega)];exact run_from elemPads sizePad _ (n+1) G i (by omega) W
 have hw1:IntKind.i64.wrap ((i:Int)+1)=(i:Int)+1:=IntWalk.i64_in _ (by omega);have hw2:IntKind.i64.wrap ((n:Int)+1)=(n:Int)+1:=IntWalk.i64_in _ (by omega);have hw3:IntKind.i64.wrap ((n:Int)+1 - (i:Int))=(n:Int)+1 - (i:Int):=IntWalk.i64_in _ (by omega);have hin2 : ¬ ((i:Int)=(n:Int)):=(by omega);have hcn:(c:Int) < (n:Int)+1:=(by omega);have HO:Hid (((W1.setRow w.heap.size R1).drew.setRow w.heap.size R2).ownsRow B 53 2 (.slice (some ⟨w.heap.size,0,none⟩) (n+1) G) (n+1) (xs.take (i * 2)++vs++xs.drop (i * 2))):=uH (by
  obtain ⟨rest,hr⟩:=put_grow (R:=ROW) (xs:=xs) (vs:=vs) (n:=n) (i:=i) (sz:=2) (rest:=(Builtin.zeroCells (Value.cells (.agg #[.int .i64 0,.string ByteArray.empty])) (n+1 - i)).toList++(Builtin.zeroCells (Value.cells (.agg #[.int .i64 0,.string ByteArray.empty])) (G - (n+1))).toList) (by rw [hROW];simp) hxl hvl (by omega);rw [← hR1,← hR2] at hr;refine own_of_row hB (setRow_heap _ _ R1 R2 53 (0,0) (setRow_heap W1 _ ROW R1 53 (0,0) hNB)) hGn hGm hs2 ?_ hr;rw [List.length_append,List.length_append,htl,hdl,hvl];omega)
 have HB:Hid (∀ row,w.grownBy ((W1.setRow w.heap.size R1).drew.setRow w.heap.size R2) row):=uH (fun row=>Below.only (below_setRow (below_setRow hbel (Nat.le_refl _) R1).drew (Nat.le_refl _) R2));clear hR1 hR2 hs1 hs2 hgs hdl ht hC hV hROW hG hRs hW1 hNB hbel hV1 hC1 hold hkk hik htl;unfold maxLen at hGm;generalize hNe:w.heap.size=N at *;have HN:=uH hNe;clear hNe;go_enter Tryz.func192,Tryz.ntmps192
 go_wp2_with (first | (at_builtin;refine Lib.wpList_append_run _ rfl _ _ _ _ rfl _ _ rfl rfl _ _ (hrz _) ?_) | (simp only [hcp1]))
 go_region_law (refine step_copy_runI rfl (.tmp 50) (.tmp 53) 46 46 rfl (.slice (some ⟨N,(i+1) * 2,none⟩) (n - i) (G - (i+1))) (.slice (some ⟨g,i * 2,none⟩) (n - i) (c - i)) (by simp [Act.eval,Act.put]) (by simp [Act.eval,Act.put]) (hcp2 _ _ _) ?_)
 go_wp2;go_ret;exact ⟨_,rfl,HO.out,HB.out _,.inr (by rw [HN.out];rfl)⟩
theorem insertPad (v:Value) (n i vb B:Nat) (xs vs:List Value) (w:World) (hi:i≤n) (hn:n≤1048576) (hB:B≤w.heap.size) (hO:w.ownsRow B 53 2 v n xs) (hV:Blk w vb 53 vs.toArray) (hne:v.ownBlock≠some vb) (hvl:vs.length=2) (h1 : ∀ u∈xs,u.oneCell'=true) (h1v : ∀ u∈vs,u.oneCell'=true) :
  Calls Tryz.prog 192 #[v,.int .i64 i,.slice (some ⟨vb,0,none⟩) 1 1] w fun e w'=>InsAnsPad w w' B v n i xs vs e:=by
 by_cases hin:i=n
 ·subst hin;obtain ⟨A,c,rfl,_,_⟩:=own_form hO;exact insEndPad A i c vb B xs vs w hn hB hO ⟨by omega,fun _=>⟨vb,0,rfl,hV.lt,fun j u hu=>by rw [Nat.zero_add,hV.cell];simpa using hu⟩⟩ h1v
 ·rcases hO.2 with ⟨_,h0⟩ | ⟨g,c,cur,rfl,hBg,hg,hnc,hcm,hcs,ht⟩
  ·omega
  ·have hvg:vb≠g:=fun e=>hne (by rw [e];rfl);by_cases hc:n+1≤c
   ·exact insShiftPad g n c i vb B xs vs cur w (by omega) hn hc (by unfold maxLen at hcm;omega) hBg hvg hg hcs ht hV hvl h1 h1v
   ·exact insGrowPad g n c i vb B xs vs cur w (by omega) hn hnc (by omega) hB hg hcs ht hV hvl h1 h1v
end Go.Proofs.YtbkhnljaajajiaaGreatDoor
namespace Go.Proofs.YtbkhnljaajajiaaGreatDoor
open Go.ChangeShapes Go.WideShapes Go.ChangeAt Go.RowKit Go.Shelf
set_option maxHeartbeats 1000000 in
theorem leafPut (t k:Nat) (v:Value) (ls:List Leaf) (l:Leaf) (B:Nat) (p:Pad) (w:World) (hB:B≤w.heap.size) (h:TreeIn w B t v ls) (hl:ls[k]? = some l) (hn:l.ps.length≤1048575) (hs:sortedOK l.ps) (hp:p.good) :
  Calls Tryz.prog 138 #[.pointer (some ⟨l.g,0,none⟩),padVal p] w fun e w'=>e = .returned (.tuple #[])∧Below B w w'∧∃ v2,TreeIn w' B t v (ls.set k ⟨l.g,v2,ins l.ps p (putIdx l.ps p)⟩):=by
 have hlI:=h.2.2.2.1 l (List.mem_of_getElem? hl);obtain ⟨A,c,e1,hnc,hcm⟩:=own_form hlI.2.2.1;have hal:Below w.heap.size w (w.alloc (.cells #[.int .i64 p.day,.string p.case] 53)):=(Below.refl _ _).alloc (Nat.le_refl _) _;have hO:=hlI.2.2.1;have hbk:=hlI.2.1;rw [e1] at hO hbk;have k0:(w.alloc (.cells #[.int .i64 p.day,.string p.case] 53)).cell? ⟨l.g,0,none⟩=some (.slice A l.ps.length c):=Lib.cell?_alloc_some _ (hbk.cell 0);have HB:Hid (∀ W,Below w.heap.size w W→Calls Tryz.prog 191 #[.slice A l.ps.length c,.agg #[.int .i64 p.day,.string p.case],.func (.func 146) #[] #[]] W fun e w'=>e = .returned (.tuple #[.int .i64 (putIdx l.ps p),.bool (bsB l.ps p)])∧Below W.heap.size W w'):=uH (fun W hW=>bsearchV A _ c l.ps p W (by omega) hs ((hO.keep hW).reads rfl hlI.2.2.2));have HT:=uH h;have HL:=uH hl;have HI:=uH hlI;have hpi:=putIdx_le l.ps p;have p0:=newcell w #[.int .i64 p.day,.string p.case] 53 0 _ rfl;have p1:=newcell w #[.int .i64 p.day,.string p.case] 53 1 _ rfl;have r0:=qcell p0;have r1:=qcell p1;have r2:=qcell k0;clear h hl hlI hO hbk;unfold padVal;generalize putIdx l.ps p=q at *;generalize bsB l.ps p=bb at *;go_enter Tryz.func138,Tryz.ntmps138
 (go_wp2_with fail);refine region_qb (by kernel_rfl) (by kernel_rfl) ?_;repeat (first | go_big_quiet_step ((go_at_call 191;exact quietB (HB.out _ (hal.trans ((below_regrown _ _ _).mono (by simp)))))) | quiet_step ((go_at_call 191;exact quietB (HB.out _ (hal.trans ((below_regrown _ _ _).mono (by simp)))))))
 refine wpQuiet_nil ?_;intro w3 hb3;have b3:=hal.trans (hb3.mono (by simp));have s0:=kcell hb3 p0;have s1:=kcell hb3 p1;have s2:=kcell hb3 k0;have hT3:=HT.out.below b3;have hlI3:=hT3.2.2.2.1 l (List.mem_of_getElem? HL.out);have hO3:=hlI3.2.2.1;have hbk3:=hlI3.2.1;have hf3:=hbk3.free 0;rw [e1] at hO3;have ha4:Below w3.heap.size w3 (w3.drew.alloc (.cells #[.int .i64 p.day,.string p.case] 53)):=(Below.refl _ _).drew.alloc (Nat.le_refl _) _;have hc4:w3.drew.cell? ⟨l.g,0,none⟩=some (.slice A l.ps.length c)∧w3.drew.frozen? ⟨l.g,0,none⟩=false:=⟨s2,hf3⟩;have hc5:=keepAlloc hc4 (.cells #[.int .i64 p.day,.string p.case] 53);have hro:(Value.slice A l.ps.length c).ownBlock≠some l.g:=hbk3.ne_own hO3 (by decide);have HIn:=uH (insertPad (.slice A l.ps.length c) l.ps.length q w3.heap.size B (l.ps.flatMap padC) [.int .i64 p.day,.string p.case] (w3.drew.alloc (.cells #[.int .i64 p.day,.string p.case] 53)) hpi (by omega) (Nat.le_trans hB (b3.trans (ha4.mono b3.size)).size) (PadsOwn.keep hO3 ha4) (Blk.new w3.drew _ _) (fun e=>by have:=own_lt hO3 e;omega) rfl padC_one (by simp [Value.oneCell']));have n5:(w3.alloc (.cells #[.int .i64 p.day,.string p.case] 53)).cell? ⟨l.g,0,none⟩=some (.slice A l.ps.length c):=hc5.1;have m5:(w3.alloc (.cells #[.int .i64 p.day,.string p.case] 53)).cell? ⟨w.heap.size,0,none⟩=some (.int .i64 p.day):=Lib.cell?_alloc_some _ s0;have HO3:=uH hO3;have HG4:=uH (b3.trans (ha4.mono b3.size));clear hT3 hlI3 hO3 hbk3 p0 p1 k0 r0 r1 r2 HB hb3;(go_wp2_with fail);go_region_law (go_simp;go_at_call 192;refine HIn.out.mono ?_;rintro e w5 ⟨v5,rfl,hO5,hg5,hv5⟩;obtain ⟨A5,c5,rfl,_,_⟩:=own_form hO5;have hc6:=keepCell hg5 hro hc5;have n6:=hc6.1;have f6:=hc6.2;dsimp only)
 all_goals (
  have hgr:w.grownBy w5 l.v.ownBlock:=(by rw [e1];exact only_next (Below.only HG4.out) hg5);have hpo:PadsOwn w5 B (.slice A5 (l.ps.length+1) c5) (ins l.ps p q):=by
   rw [flat_take padC_len,flat_drop padC_len] at hO5;unfold PadsOwn;rw [ins_len];unfold ins;rw [List.flatMap_append,List.flatMap_cons];simpa [padC,List.append_assoc] using hO5
  have hgd : ∀ x∈ins l.ps p q,x.good:=fun x hx=>by
   unfold ins at hx;rcases List.mem_append.1 hx with hx | hx
   ·exact HI.out.2.2.2 x (List.mem_of_mem_take hx)
   ·rcases List.mem_cons.1 hx with rfl | hx
    ·exact hp
    ·exact HI.out.2.2.2 x (List.mem_of_mem_drop hx)
  have hbl:Below B w (w5.setCell ⟨l.g,0,none⟩ (.slice A5 (l.ps.length+1) c5)):=((HG4.out.mono hB).grown hg5 (Nat.le_trans hB HG4.out.size) (fun z hz=>own_base HO3.out hz)).setCell HI.out.1 _;have hT5:TreeIn (w5.setCell ⟨l.g,0,none⟩ (.slice A5 (l.ps.length+1) c5)) B t v (ls.set k ⟨l.g,.slice A5 (l.ps.length+1) c5,ins l.ps p q⟩):=by
   rcases hv5 with hv5 | hv5
   ·exact TreeIn.turn HT.out HL.out hgr hpo (by rw [e1];exact hv5) hgd
   ·exact TreeIn.turn2 HT.out HL.out hgr hpo (fun b hb=>by rw [hv5] at hb;injection hb with hb;rw [← hb];exact HG4.out.size) hgd
  have HT5:=uH hT5;have HB5:=uH hbl;clear hT5 hbl hgd hpo hgr hO5 hg5 hv5;go_wp2;go_returns;exact ⟨rfl,HB5.out,_,HT5.out⟩)
end Go.Proofs.YtbkhnljaajajiaaGreatDoor
