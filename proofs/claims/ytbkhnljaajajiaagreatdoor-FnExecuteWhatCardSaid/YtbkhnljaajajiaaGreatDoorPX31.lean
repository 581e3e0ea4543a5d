/-
  Contracts and plain laws that the proofs lean on. Conditions: as each says.
-/
import Derived.Test.YtbkhnljaajajiaaGreatDoorPX15
import Derived.Test.YtbkhnljaajajiaaGreatDoorPX16
import Derived.Test.YtbkhnljaajajiaaGreatDoorPX27
set_option maxRecDepth 100000
set_option linter.unusedSimpArgs false
set_option linter.unusedVariables false
set_option linter.unnecessarySimpa false
namespace Go.Proofs.YtbkhnljaajajiaaGreatDoor
open Go.ChangeShapes Go.WideShapes Go.ChangeAt Go.RowKit
set_option maxHeartbeats 800000 in
theorem implSystemAdd (A:Option Addr) (n c:Nat) (xs:List Sg) (l:List UInt8) (d z:Int) (w:World) (hv:sysB xs=true) (hg : ∀ x∈xs++[⟨l,⟨d,z⟩⟩],x.st.good) (h:SgsIn w w.heap.size A n c xs) :
  Calls Tryz.prog 164 #[.slice A n c,.agg #[.string (mkStr l),.int .i64 d,.int .i64 z]] w fun e w'=>SysAns w' w.heap.size (xs++[⟨l,⟨d,z⟩⟩]) e∧Below w.heap.size w w':=by
 obtain ⟨i0,hi,hz0,hz1,hz2⟩:=info_parts infoSg;have HL:=uH h.1;have hn:n≤21:=(by have:=(sysB_iff.1 hv).1;rw [HL.out] at this;exact this);have B1:Below w.heap.size w (w.alloc (.cells #[.string (mkStr l),.int .i64 d,.int .i64 z] 65)):=(Below.refl _ _).alloc (Nat.le_refl _) _;have z1:w.heap.size < (w.alloc (.cells #[.string (mkStr l),.int .i64 d,.int .i64 z] 65)).heap.size:=(by simp);have HK0:=uH (newcell w #[.string (mkStr l),.int .i64 d,.int .i64 z] 65 0 _ rfl);have HK1:=uH (newcell w #[.string (mkStr l),.int .i64 d,.int .i64 z] 65 1 _ rfl);have HK2:=uH (newcell w #[.string (mkStr l),.int .i64 d,.int .i64 z] 65 2 _ rfl);obtain ⟨W,hW⟩ : ∃ W,W=w.alloc (.cells #[.string (mkStr l),.int .i64 d,.int .i64 z] 65):=⟨_,rfl⟩;rw [← hW] at B1 HK0 HK1 HK2 z1;have H2:=uH (h.keep B1);have HV:=uH (implSystemValid A n c xs W H2.out);rw [hv] at HV;have HG:=uH hg;obtain ⟨cs,hcs,hmk⟩ : ∃ cs:Array Value,cs.size=(n+1) * 3∧∀ W,(Instr.makeSlice 55 (.int .i64 0) (.int .i64 ((n:Int)+1))).run Tryz.prog W = .ok (.slice (some ⟨W.heap.size,0,none⟩) 0 (n+1)) (W.alloc (.cells cs 65)):=⟨_,(madeCells_size (Value.agg #[.string { data:=#[] },.int .i64 0,.int .i64 0]).cells ((n+1) * 3)),fun W=>by
  have h:=run_make_rowN (P:=Tryz.prog) 55 65 i0 _ Tryz.underlying55 hi hz0 .i64 .i64 0 (n+1) (by omega) (by rw [hz2];omega) (by omega) W;rw [hz1] at h
  push_cast at h
  exact h⟩
 have hw1:IntKind.i64.wrap ((n:Int)+1)=(n:Int)+1:=IntWalk.i64_in _ (by omega);have HCs:=uH hcs;have HLy:Hid ((xs++[(⟨l,⟨d,z⟩⟩:Sg)]).length=n+1):=uH (by simp [HL.out]);have HFy:Hid ((xs++[(⟨l,⟨d,z⟩⟩:Sg)]).flatMap sgC=xs.flatMap sgC++[.string (mkStr l),.int .i64 d,.int .i64 z]):=uH (by rw [List.flatMap_append];rfl);clear hcs h hv hg;generalize xs++[(⟨l,⟨d,z⟩⟩:Sg)]=ys at *;go_enter Tryz.func164,Tryz.ntmps164
 (go_wp2_with fail);rw [← hW];clear hW;refine HV.out.mono ?_;rintro e w1 ⟨rfl,hb1⟩;have b2:Below W.heap.size W (w1.alloc (.cells cs 65)):=hb1.alloc hb1.size _;have HO2:=uH (World.ownsRow_made (base:=W.heap.size) (e:=65) (size:=3) w1 cs (n+1) hb1.size (by unfold maxLen;omega) HCs.out);have g0:=kcell b2 HK0.out;have g1:=kcell b2 HK1.out;have g2:=kcell b2 HK2.out;clear hb1 HV;go_wp2_with (first
  | (at_builtin;refine wpList_append_any _ rfl (.tmp 14) (.tmp 15) _ rfl W.heap.size 65 i0 _ 3 32 Tryz.underlying55 hi hz0 hz1 hz2 rfl (by omega) _ 0 [] rfl HO2.out _ A n c (xs.flatMap sgC) rfl (H2.out.keep b2).2.2.2.1 sgC_one (by unfold maxLen;omega) (by omega) b2.size ?_;intro v4 w4 hown4 hg4 hat4;have b4:=b2.grown hg4 b2.size (fun q hq=>ownG_base HO2.out hq);simp only [Nat.zero_add,List.nil_append] at hown4;have HO4:=uH hown4;clear hown4 hg4 hat4;obtain ⟨A4,c4,rfl,hc4,hm4⟩:=ownG_form HO4.out;have b4a:=b4.alloc b4.size (.cells #[.string (mkStr l),.int .i64 d,.int .i64 z] 65);have HO4a:=uH (World.ownsRow.alloc HO4.out (.cells #[.string (mkStr l),.int .i64 d,.int .i64 z] 65));have HR4:=uH (rowNewSg w4 (.string (mkStr l)) (.int .i64 d) (.int .i64 z) 65);have k0:=kcell b4 HK0.out;have k1:=kcell b4 HK1.out;have k2:=kcell b4 HK2.out)
  | (at_builtin;refine wpList_append_any _ rfl (.tmp 17) (.tmp 19) _ rfl W.heap.size 65 i0 _ 3 32 Tryz.underlying55 hi hz0 hz1 hz2 rfl (by omega) _ n (xs.flatMap sgC) rfl HO4a.out (w4.heap.size+1) (some ⟨w4.heap.size,0,none⟩) 1 1 [.string (mkStr l),.int .i64 d,.int .i64 z] rfl HR4.out (by simp [Value.oneCell']) (by unfold maxLen;omega) (by omega) b4a.size ?_;intro v5 w5 hown5 hg5 hat5;have b5:=b4a.grown hg5 b4a.size (fun q hq=>ownG_base HO4a.out hq);have HO5:=uH hown5;clear hown5 hg5 hat5;obtain ⟨A5,c5,rfl,hc5,hm5⟩:=ownG_form HO5.out)
  | fail)
 have HO6:Hid (SgOwn w5 W.heap.size (.slice A5 (n+1) c5) ys):=uH (by unfold SgOwn;rw [HLy.out,HFy.out];exact HO5.out);have HN:Hid (∀ V B,SgOwn V B (.slice none 0 0) []):=uH (fun V B=>World.ownsRow_nil _ _ _ _);have HS:=uH (implSystemValid A5 (n+1) c5 ys w5 (SgOwn.reads HO6.out HLy.out HG.out));have b6:=below_next B1 b5;clear HO2 HO4 HO4a HO5 HR4 b5 b4 b4a b2 k0 k1 k2 g0 g1 g2 HG;cases hb:sysB ys with
 | false =>
  rw [hb] at HS;have HB:=uH hb;clear hb;(go_wp2_with fail);refine HS.out.mono ?_;rintro e w7 ⟨rfl,hb7⟩;have b7:=below_next b6 hb7;go_wp2;go_returns;exact ⟨.inl ⟨HB.out,_,_,rfl,HN.out _ _⟩,b7⟩
 | true =>
  rw [hb] at HS;have HB:=uH hb;clear hb;(go_wp2_with fail);refine HS.out.mono ?_;rintro e w7 ⟨rfl,hb7⟩;have b7:=below_next b6 hb7;have HO7:=uH (ownG_mono (ownG_keep HO6.out hb7) (Nat.le_of_lt z1));go_wp2;go_returns;exact ⟨.inr ⟨HB.out,A5,c5,by rw [HLy.out];rfl,by rw [HLy.out];exact HO7.out⟩,b7⟩
end Go.Proofs.YtbkhnljaajajiaaGreatDoor
namespace Go.Proofs.YtbkhnljaajajiaaGreatDoor
open Go.ChangeShapes Go.WideShapes Go.ChangeAt Go.RowKit Go.Shelf Go.Lib
theorem elemLeafs:Tryz.prog.underlying 126=some (.slice (Tryz.prog.elem 126)):=by kernel_rfl
theorem sizeLeafP : ∀ w,(sizeOf (Tryz.prog.elem 126)).run Tryz.prog w = .ok 1 w:=fun w=>by kernel_rfl
theorem infoInsLeaf : ∃ i:TypeInfo,Tryz.prog.info? 134=some i∧i.zero=some (.pointer none)∧i.size=1∧i.bytes=8:=⟨_,by rfl,by rfl,by rfl,by rfl⟩
theorem sizeOfLeaf : ∀ w,(Go.sizeOf 134).run Tryz.prog w = .ok 1 w:=fun w=>by kernel_rfl
theorem apartLeaf (w:World) (g o vb n c lb cb:Nat) (cur vs:Array Value) (h:Blk w g 134 cur) (hv:Blk w vb 134 vs) (hs:cur.size≠0) (hne:vb≠g) :
  (callFunc 193 #[.slice (some ⟨vb,0,none⟩) n c,.slice (some ⟨g,o,none⟩) lb cb]).run Tryz.prog w = .ok (.value (.bool false)) w:=by
 rw [run_callFunc_extern Tryz.func193 (by kernel_rfl) (by kernel_rfl) (by kernel_rfl) (e:=Extern.SlicesOverlaps.overlaps #[126,126] #[4]) (by kernel_rfl),
  Lib.run_overlaps_apart w 126 4 134 Tryz.underlying126 1 sizeOfLeaf ⟨vb,0,none⟩ ⟨g,o,none⟩ n c lb cb hne 134 134 vs.size cur.size (by unfold Blk at hv;simp [World.shape?,hv]) (by unfold Blk at h;simp [World.shape?,h]) hs (hv.free _) (hv.free _)]
 rfl
def InsAnsLeaf (w w':World) (B:Nat) (v:Value) (n i:Nat) (xs vs:List Value) (e:Ending):Prop :=
 ∃ v',e = .returned v'∧w'.ownsRow B 134 1 v' (n+1) (xs.take (i * 1)++vs++xs.drop (i * 1))∧w.grownBy w' v.ownBlock∧(v'.ownBlock=v.ownBlock∨v'.ownBlock=some w.heap.size)
set_option maxHeartbeats 1000000 in
theorem insEndLeaf (A:Option Addr) (n c vb B:Nat) (xs vs:List Value) (w:World) (hn:n≤1048576) (hB:B≤w.heap.size) (hO:w.ownsRow B 134 1 (.slice A n c) n xs) (hR:Row w w.heap.size (some ⟨vb,0,none⟩) 1 1 vs) (h1v : ∀ u∈vs,u.oneCell'=true) :
  Calls Tryz.prog 140 #[.slice A n c,.int .i64 n,.slice (some ⟨vb,0,none⟩) 1 1] w fun e w'=>InsAnsLeaf w w' B (.slice A n c) n n xs vs e:=by
 obtain ⟨i0,hi,hz0,hz1,hz2⟩:=infoInsLeaf;have hsl : ∀ W,(Instr.slice 126 (.slice A n c) (some (.int .i64 (n:Int))) none none).run Tryz.prog W = .ok (.slice (fromA A n c 1) (n - n) (c - n)) W:=fun W=>run_from elemLeafs sizeLeafP A n c n (Nat.le_refl _) W;have hx:=hO.1;go_enter Tryz.func140,Tryz.ntmps140
 go_wp2_with (at_builtin;refine wpList_append_any _ rfl (.tmp 23) (.tmp 24) _ rfl B 134 i0 _ 1 8 Tryz.underlying126 hi hz0 hz1 hz2 rfl (by omega) _ n xs rfl hO w.heap.size (some ⟨vb,0,none⟩) 1 1 vs rfl hR h1v (by unfold maxLen;omega) (by omega) hB ?_;intro v2 w2 hown2 hg2 hat2)
 go_ret;refine ⟨v2,rfl,?_,hg2,hat2⟩;rw [List.take_of_length_le (by omega),List.drop_of_length_le (by omega),List.append_nil];exact hown2
set_option maxHeartbeats 1000000 in
theorem insShiftLeaf (g n c i vb B:Nat) (xs vs:List Value) (cur:Array Value) (w:World) (hi:i < n) (hn:n≤1048576) (hc:n+1≤c) (hcm:c≤9223372036854775807) (hB:B≤g) (hne:vb≠g) (hC:Blk w g 134 cur) (hcs:cur.size=c * 1) (ht:cur.toList.take (n * 1)=xs)
  (hV:Blk w vb 134 vs.toArray) (hvl:vs.length=1) (h1 : ∀ u∈xs,u.oneCell'=true) (h1v : ∀ u∈vs,u.oneCell'=true) :
  Calls Tryz.prog 140 #[.slice (some ⟨g,0,none⟩) n c,.int .i64 i,.slice (some ⟨vb,0,none⟩) 1 1] w fun e w'=>InsAnsLeaf w w' B (.slice (some ⟨g,0,none⟩) n c) n i xs vs e:=by
 obtain ⟨i0,hi0,hz0,hz1,hz2⟩:=infoInsLeaf;have hxl:xs.length=n * 1:=(by rw [← ht,List.length_take,Array.length_toList];omega);have hsz:(Tryz.prog.info? 134).map (·.size)=some 1:=(by rw [hi0];simp [hz1]);have hdl:(xs.drop (i * 1)).length=(n - i) * 1:=(by rw [List.length_drop,hxl];omega);have hgs : ∀ k,k < n * 1→cur[k]? = xs[k]? := (fun k hk=>by rw [← ht,List.getElem?_take_of_lt hk];simp);have hov : ∀ o lb cb,(callFunc 193 #[.slice (some ⟨vb,0,none⟩) 1 1,.slice (some ⟨g,o,none⟩) lb cb]).run Tryz.prog w = .ok (.value (.bool false)) w:=fun o lb cb=>apartLeaf w g o vb 1 1 lb cb cur _ hC hV (by omega) hne;obtain ⟨R1,hR1⟩ : ∃ R1,R1=putAt cur ((i+1) * 1) (xs.drop (i * 1)):=⟨_,rfl⟩;obtain ⟨R2,hR2⟩ : ∃ R2,R2=putAt R1 (i * 1) vs:=⟨_,rfl⟩;have hs1:R1.size=c * 1:=(by rw [hR1,putAt_size (by rw [hdl];omega)];exact hcs);have hs2:R2.size=c * 1:=(by rw [hR2,putAt_size (by rw [hvl];omega)];exact hs1);have hcp1 : ∀ ty dc sc,(Builtin.copy_ #[126,126] ty #[.slice (some ⟨g,(i+1) * 1,none⟩) (n - i) dc,.slice (some ⟨g,i * 1,none⟩) (n+1 - i) sc]).run Tryz.prog w.drew = .ok (goInt (n - i:Nat)) (w.drew.setRow g R1):=fun ty dc sc=>by
  rw [hR1];exact run_copy_any 1 w.drew _ _ ty 134 g ((i+1) * 1) (n - i) dc ⟨g,i * 1,none⟩ (n+1 - i) sc cur 134 (xs.drop (i * 1)) Tryz.underlying126 hsz hC (n - i) (by simp only [Nat.min_def];split <;> omega) hdl
   (fun j u hj=>by
    rw [List.getElem?_drop] at hj;have hlt:=(List.getElem?_eq_some_iff.1 hj).1;rw [Addr.add_lit]
    show w.cell? _=_
    rw [hC.cell,hgs _ (by omega)];exact hj)
   (by rw [hdl];omega) (fun u hu=>h1 u (List.mem_of_mem_drop hu))
 have hcp2 : ∀ (W:World),W.heap=(w.setRow g R1).heap→∀ ty dc,(Builtin.copy_ #[126,126] ty #[.slice (some ⟨g,i * 1,none⟩) (n+1 - i) dc,.slice (some ⟨vb,0,none⟩) 1 1]).run Tryz.prog W = .ok (goInt (1:Nat)) (W.setRow g R2):=fun W hW ty dc=>by
  have hV1:Blk W vb 134 vs.toArray:=(by unfold Blk;rw [hW,setRow_other w g vb R1 hne];exact hV);rw [hR2];exact run_copy_any 1 W _ _ ty 134 g (i * 1) (n+1 - i) dc ⟨vb,0,none⟩ 1 1 R1 134 vs Tryz.underlying126 hsz (by rw [hW];exact setRow_heap w g cur R1 134 (0,0) hC) 1 (by simp only [Nat.min_def];split <;> omega) (by omega)
   (fun j u hj=>by rw [Addr.add_lit,hV1.cell];simpa using hj) (by omega) h1v
 have hs0 : ∀ W,(Instr.slice 126 (.slice (some ⟨g,0,none⟩) n c) (some (.int .i64 (i:Int))) none none).run Tryz.prog W = .ok (.slice (fromA (some ⟨g,0,none⟩) i c 1) (n - i) (c - i)) W:=fun W=>run_from elemLeafs sizeLeafP _ n c i (by omega) W;have hsA : ∀ W,(Instr.slice 126 (.slice (some ⟨g,0,none⟩) n c) none (some (.int .i64 ((n:Int)+1))) none).run Tryz.prog W = .ok (.slice (some ⟨g,0,none⟩) (n+1) c) W:=fun W=>run_upto elemLeafs sizeLeafP g 0 n c (n+1) hc W;have hsB : ∀ W,(Instr.slice 126 (.slice (some ⟨g,0,none⟩) (n+1) c) (some (.int .i64 ((i:Int)+1))) none none).run Tryz.prog W = .ok (.slice (some ⟨g,(i+1) * 1,none⟩) (n - i) (c - (i+1))) W:=fun W=>by
  rw [← from_at g (i+1) c 1 (by omega),show n - i=n+1 - (i+1) by omega];exact run_from elemLeafs sizeLeafP _ (n+1) c (i+1) (by omega) W
 have hsC : ∀ W,(Instr.slice 126 (.slice (some ⟨g,0,none⟩) (n+1) c) (some (.int .i64 (i:Int))) none none).run Tryz.prog W = .ok (.slice (some ⟨g,i * 1,none⟩) (n+1 - i) (c - i)) W:=fun W=>by
  rw [← from_at g i c 1 (by omega)];exact run_from elemLeafs sizeLeafP _ (n+1) c i (by omega) W
 have hw1:IntKind.i64.wrap ((i:Int)+1)=(i:Int)+1:=IntWalk.i64_in _ (by omega);have hw2:IntKind.i64.wrap ((n:Int)+1)=(n:Int)+1:=IntWalk.i64_in _ (by omega);have hin2 : ¬ ((i:Int)=(n:Int)):=(by omega);have HP:=uH (put_shift (i:=i) ht hvl (by omega) (by omega));have HO:Hid (∀ W:World,W.heap=((w.setRow g R1).setRow g R2).heap→W.ownsRow B 134 1 (.slice (some ⟨g,0,none⟩) (n+1) c) (n+1) (xs.take (i * 1)++vs++xs.drop (i * 1))):=uH (fun W hW=>by
  obtain ⟨rest,hr⟩:=HP.out;rw [← hR1,← hR2] at hr;refine own_of_row hB (by rw [hW];exact setRow_heap _ g R1 R2 134 (0,0) (setRow_heap w g cur R1 134 (0,0) hC)) hc (by unfold maxLen;omega) hs2 ?_ hr;rw [List.length_append,List.length_append,List.length_take,List.length_drop,hxl,hvl];omega)
 clear hR1 hR2 HP hs1 hs2 hgs hdl ht hC hV;simp only [Nat.mul_one] at hcp1 hcp2 hs0 hsB hsC;go_enter Tryz.func140,Tryz.ntmps140
 go_wp2_with (simp only [hov])
 go_region_law (refine step_copy_runI rfl (.tmp 73) (.tmp 76) 126 126 rfl (.slice (some ⟨g,(i+1),none⟩) (n - i) (c - (i+1))) (.slice (some ⟨g,i,none⟩) (n+1 - i) (c - i)) (by simp [Act.eval,Act.put]) (by simp [Act.eval,Act.put]) (hcp1 _ _ _) ?_)
 have hcp3:=fun ty dc=>hcp2 (w.drew.setRow g R1) rfl ty dc;go_wp2_with (simp only [hcp3])
 go_ret;exact ⟨_,rfl,HO.out _ rfl,only_setRow (only_setRow (Below.only (Below.refl _ _).drew) R1) R2,.inl rfl⟩
set_option maxHeartbeats 1000000 in
theorem insGrowLeaf (g n c i vb B:Nat) (xs vs:List Value) (cur:Array Value) (w:World) (hi:i < n) (hn:n≤1048576) (hnc:n≤c) (hc:c < n+1) (hB:B≤w.heap.size) (hC:Blk w g 134 cur) (hcs:cur.size=c * 1) (ht:cur.toList.take (n * 1)=xs)
  (hV:Blk w vb 134 vs.toArray) (hvl:vs.length=1) (h1 : ∀ u∈xs,u.oneCell'=true) (h1v : ∀ u∈vs,u.oneCell'=true) :
  Calls Tryz.prog 140 #[.slice (some ⟨g,0,none⟩) n c,.int .i64 i,.slice (some ⟨vb,0,none⟩) 1 1] w fun e w'=>InsAnsLeaf w w' B (.slice (some ⟨g,0,none⟩) n c) n i xs vs e:=by
 obtain ⟨i0,hi0,hz0,hz1,hz2⟩:=infoInsLeaf;have hxl:xs.length=n * 1:=(by rw [← ht,List.length_take,Array.length_toList];omega);have hsz:(Tryz.prog.info? 134).map (·.size)=some 1:=(by rw [hi0];simp [hz1]);have hdl:(xs.drop (i * 1)).length=(n - i) * 1:=(by rw [List.length_drop,hxl];omega);have htl:(xs.take (i * 1)).length=i * 1:=(by rw [List.length_take,hxl];omega);have hgs : ∀ k,k < n * 1→cur[k]? = xs[k]? := (fun k hk=>by rw [← ht,List.getElem?_take_of_lt hk];simp);have hgl:=hC.lt;have hvb:=hV.lt;have hold:(Builtin.firstCells i0.size i (.slice (some ⟨g,0,none⟩) i c)).run Tryz.prog w.drew = .ok (xs.take (i * 1)).toArray w.drew:=by
  rw [hz1];exact run_firstCells_some w.drew 1 i ⟨g,0,none⟩ i c (xs.take (i * 1)) htl (fun j u hj=>by
   rw [Addr.add_lit];rw [List.getElem?_take] at hj;split at hj
   ·show w.cell? _=_
    rw [hC.cell,hgs _ (by omega)];simpa using hj
   ·cases hj)
 have hkk:(n:Int)+1 - (i:Int)=((n+1 - i:Nat):Int):=(by omega);have hik:i+(n+1 - i)=n+1:=(by omega);obtain ⟨G,hG⟩ : ∃ G,G=grownCap w (n+1) c 134:=⟨_,rfl⟩;obtain ⟨ROW,hROW⟩ : ∃ ROW:Array Value,ROW=(xs.take (i * 1)).toArray++Builtin.zeroCells (Value.cells (.pointer none)) (n+1 - i)++Builtin.zeroCells (Value.cells (.pointer none)) (G - (n+1)):=⟨_,rfl⟩;have hGn:n+1≤G:=(by rw [hG];exact grownCap_ge w _ _ _);have hGm:G≤maxLen:=(by rw [hG];exact grownCap_le_maxLen w (n+1) c 134 (by unfold maxLen;omega));have hRs:ROW.size=G * 1:=by
  rw [hROW];simp only [Array.size_append,List.size_toArray,htl,size_zeroCells]
  show i * 1+(n+1 - i) * 1+(G - (n+1)) * 1=G * 1
  omega
 obtain ⟨W1,hW1⟩ : ∃ W1,W1=w.drew.alloc (.cells ROW 134):=⟨_,rfl⟩;have hrz : ∀ ty,(Builtin.append_ #[126,3] ty #[.slice (some ⟨g,0,none⟩) i c,.int .i64 ((n:Int)+1 - (i:Int))]).run Tryz.prog w = .ok (.slice (some ⟨w.heap.size,0,none⟩) (n+1) G) W1:=fun ty=>by
  have h:=Lib.run_append_grow_zeros w 126 3 ty 134 i0 _ .i64 .i64 Tryz.underlying126 Tryz.underlying3 hi0 hz0 (some ⟨g,0,none⟩) i c (xs.take (i * 1)) hold (n+1 - i) (by omega) (by omega) (by omega) (by omega) (by rw [hz2];omega) (by rw [hz2,hik];exact growslice_fits hc (by omega));rw [hik,← hG,← hROW,← hW1] at h;rw [hkk];exact h
 have hNB:Blk W1 w.heap.size 134 ROW:=(by rw [hW1];exact Blk.new w.drew _ _);have hbel:Below w.heap.size w W1:=(by rw [hW1];exact (Below.refl _ _).drew.alloc (Nat.le_refl _) _);have hV1:=hV.below hbel;have hC1:=hC.below hbel;obtain ⟨R1,hR1⟩ : ∃ R1,R1=putAt ROW (i * 1) vs:=⟨_,rfl⟩;obtain ⟨R2,hR2⟩ : ∃ R2,R2=putAt R1 ((i+1) * 1) (xs.drop (i * 1)):=⟨_,rfl⟩;have hs1:R1.size=G * 1:=(by rw [hR1,putAt_size (by rw [hvl];omega)];exact hRs);have hs2:R2.size=G * 1:=(by rw [hR2,putAt_size (by rw [hdl];omega)];exact hs1);have hcp1 : ∀ ty dc,(Builtin.copy_ #[126,126] ty #[.slice (some ⟨w.heap.size,i * 1,none⟩) (n+1 - i) dc,.slice (some ⟨vb,0,none⟩) 1 1]).run Tryz.prog W1 = .ok (goInt (1:Nat)) (W1.setRow w.heap.size R1):=fun ty dc=>by
  rw [hR1];exact run_copy_any 1 W1 _ _ ty 134 w.heap.size (i * 1) (n+1 - i) dc ⟨vb,0,none⟩ 1 1 ROW 134 vs Tryz.underlying126 hsz hNB 1 (by simp only [Nat.min_def];split <;> omega) (by omega)
   (fun j u hj=>by rw [Addr.add_lit,hV1.cell];simpa using hj) (by omega) h1v
 have hcp2 : ∀ ty dc sc,(Builtin.copy_ #[126,126] ty #[.slice (some ⟨w.heap.size,(i+1) * 1,none⟩) (n - i) dc,.slice (some ⟨g,i * 1,none⟩) (n - i) sc]).run Tryz.prog (W1.setRow w.heap.size R1).drew = .ok (goInt (n - i:Nat)) ((W1.setRow w.heap.size R1).drew.setRow w.heap.size R2):=fun ty dc sc=>by
  have hC2:Blk (W1.setRow w.heap.size R1) g 134 cur:=(by unfold Blk;rw [setRow_other _ _ _ _ (by omega)];exact hC1);rw [hR2];exact run_copy_any 1 (W1.setRow w.heap.size R1).drew _ _ ty 134 w.heap.size ((i+1) * 1) (n - i) dc ⟨g,i * 1,none⟩ (n - i) sc R1 134 (xs.drop (i * 1)) Tryz.underlying126 hsz (setRow_heap W1 _ ROW R1 134 (0,0) hNB) (n - i) (by simp) hdl
   (fun j u hj=>by
    rw [List.getElem?_drop] at hj;have hlt:=(List.getElem?_eq_some_iff.1 hj).1;rw [Addr.add_lit]
    show (W1.setRow w.heap.size R1).cell? _=_
    rw [hC2.cell,hgs _ (by omega)];exact hj)
   (by rw [hdl];omega) (fun u hu=>h1 u (List.mem_of_mem_drop hu))
 have hsA : ∀ W,(Instr.slice 126 (.slice (some ⟨g,0,none⟩) n c) (some (.int .i64 (i:Int))) none none).run Tryz.prog W = .ok (.slice (some ⟨g,i * 1,none⟩) (n - i) (c - i)) W:=fun W=>by
  rw [← from_at g i c 1 (by omega)];exact run_from elemLeafs sizeLeafP _ n c i (by omega) W
 have hsB : ∀ W,(Instr.slice 126 (.slice (some ⟨g,0,none⟩) n c) none (some (.int .i64 (i:Int))) none).run Tryz.prog W = .ok (.slice (some ⟨g,0,none⟩) i c) W:=fun W=>run_upto elemLeafs sizeLeafP g 0 n c i (by omega) W;have hsC : ∀ W,(Instr.slice 126 (.slice (some ⟨w.heap.size,0,none⟩) (n+1) G) (some (.int .i64 ((i:Int)+1))) none none).run Tryz.prog W = .ok (.slice (some ⟨w.heap.size,(i+1) * 1,none⟩) (n - i) (G - (i+1))) W:=fun W=>by
  rw [← from_at w.heap.size (i+1) G 1 (by omega),show n - i=n+1 - (i+1) by omega];exact run_from elemLeafs sizeLeafP _ (n+1) G (i+1) (by omega) W
 have hsD : ∀ W,(Instr.slice 126 (.slice (some ⟨w.heap.size,0,none⟩) (n+1) G) (some (.int .i64 (i:Int))) none none).run Tryz.prog W = .ok (.slice (some ⟨w.heap.size,i * 1,none⟩) (n+1 - i) (G - i)) W:=fun W=>by
  rw [← from_at w.heap.size i G 1 (by omega)];exact run_from elemLeafs sizeLeafP _ (n+1) G i (by omega) W
 have hw1:IntKind.i64.wrap ((i:Int)+1)=(i:Int)+1:=IntWalk.i64_in _ (by omega);have hw2:IntKind.i64.wrap ((n:Int)+1)=(n:Int)+1:=IntWalk.i64_in _ (by omega);have hw3:IntKind.i64.wrap ((n:Int)+1 - (i:Int))=(n:Int)+1 - (i:Int):=IntWalk.i64_in _ (by omega);have hin2 : ¬ ((i:Int)=(n:Int)):=(by omega);have hcn:(c:Int) < (n:Int)+1:=(by omega);have HO:Hid (((W1.setRow w.heap.size R1).drew.setRow w.heap.size R2).ownsRow B 134 1 (.slice (some ⟨w.heap.size,0,none⟩) (n+1) G) (n+1) (xs.take (i * 1)++vs++xs.drop (i * 1))):=uH (by
  obtain ⟨rest,hr⟩:=put_grow (R:=ROW) (xs:=xs) (vs:=vs) (n:=n) (i:=i) (sz:=1) (rest:=(Builtin.zeroCells (Value.cells (.pointer none)) (n+1 - i)).toList++(Builtin.zeroCells (Value.cells (.pointer none)) (G - (n+1))).toList) (by rw [hROW];simp) hxl hvl (by omega);rw [← hR1,← hR2] at hr;refine own_of_row hB (setRow_heap _ _ R1 R2 134 (0,0) (setRow_heap W1 _ ROW R1 134 (0,0) hNB)) hGn hGm hs2 ?_ hr;rw [List.length_append,List.length_append,htl,hdl,hvl];omega)
 have HB:Hid (∀ row,w.grownBy ((W1.setRow w.heap.size R1).drew.setRow w.heap.size R2) row):=uH (fun row=>Below.only (below_setRow (below_setRow hbel (Nat.le_refl _) R1).drew (Nat.le_refl _) R2));clear hR1 hR2 hs1 hs2 hgs hdl ht hC hV hROW hG hRs hW1 hNB hbel hV1 hC1 hold hkk hik htl;unfold maxLen at hGm;generalize hNe:w.heap.size=N at *;have HN:=uH hNe;clear hNe;simp only [Nat.mul_one] at hcp1 hcp2 hsA hsC hsD;go_enter Tryz.func140,Tryz.ntmps140
 go_wp2_with (first | (at_builtin;refine Lib.wpList_append_run _ rfl _ _ _ _ rfl _ _ rfl rfl _ _ (hrz _) ?_) | (simp only [hcp1]))
 go_region_law (refine step_copy_runI rfl (.tmp 50) (.tmp 53) 126 126 rfl (.slice (some ⟨N,(i+1),none⟩) (n - i) (G - (i+1))) (.slice (some ⟨g,i,none⟩) (n - i) (c - i)) (by simp [Act.eval,Act.put]) (by simp [Act.eval,Act.put]) (hcp2 _ _ _) ?_)
 go_wp2;go_ret;exact ⟨_,rfl,HO.out,HB.out _,.inr (by rw [HN.out];rfl)⟩
theorem insertLeaf (v:Value) (n i vb B:Nat) (xs vs:List Value) (w:World) (hi:i≤n) (hn:n≤1048576) (hB:B≤w.heap.size) (hO:w.ownsRow B 134 1 v n xs) (hV:Blk w vb 134 vs.toArray) (hne:v.ownBlock≠some vb) (hvl:vs.length=1) (h1 : ∀ u∈xs,u.oneCell'=true) (h1v : ∀ u∈vs,u.oneCell'=true) :
  Calls Tryz.prog 140 #[v,.int .i64 i,.slice (some ⟨vb,0,none⟩) 1 1] w fun e w'=>InsAnsLeaf w w' B v n i xs vs e:=by
 by_cases hin:i=n
 ·subst hin;obtain ⟨A,c,rfl,_,_⟩:=own_form hO;exact insEndLeaf A i c vb B xs vs w hn hB hO ⟨by omega,fun _=>⟨vb,0,rfl,hV.lt,fun j u hu=>by rw [Nat.zero_add,hV.cell];simpa using hu⟩⟩ h1v
 ·rcases hO.2 with ⟨_,h0⟩ | ⟨g,c,cur,rfl,hBg,hg,hnc,hcm,hcs,ht⟩
  ·omega
  ·have hvg:vb≠g:=fun e=>hne (by rw [e];rfl);by_cases hc:n+1≤c
   ·exact insShiftLeaf g n c i vb B xs vs cur w (by omega) hn hc (by unfold maxLen at hcm;omega) hBg hvg hg hcs ht hV hvl h1 h1v
   ·exact insGrowLeaf g n c i vb B xs vs cur w (by omega) hn hnc (by omega) hB hg hcs ht hV hvl h1 h1v
end Go.Proofs.YtbkhnljaajajiaaGreatDoor
namespace Go.Proofs.YtbkhnljaajajiaaGreatDoor
open Go.ChangeShapes Go.WideShapes Go.ChangeAt Go.RowKit Go.Shelf
def insL (ls:List Leaf) (l:Leaf) (d:Nat):List Leaf:=ls.take d++l::ls.drop d
theorem insL_perm (ls:List Leaf) (l:Leaf) (d:Nat):(insL ls l d).Perm (l::ls):=by
 unfold insL;have h:=List.perm_middle (a:=l) (l₁:=ls.take d) (l₂:=ls.drop d)
 rwa [List.take_append_drop] at h
theorem LeavesIn.insert {w w2:World} {B d:Nat} {v v':Value} {ls:List Leaf} {l:Leaf} (h:LeavesIn w B v ls) (hg:w.grownBy w2 v.ownBlock) (hl:LeafIn w B l) (hne : ∀ m∈ls,m.g≠l.g∧∀ b,m.v.ownBlock=some b→l.v.ownBlock≠some b)
  (hown:w2.ownsRow B 134 1 v' (ls.length+1) ((ls.map Leaf.ptr).take d++[l.ptr]++(ls.map Leaf.ptr).drop d)):LeavesIn w2 B v' (insL ls l d):=by
 have hkeep : ∀ {b:Nat} {cur:Array Value} {e:TypeId},w.heap[b]? = some (.cells cur e (0,0))→e≠134→w2.heap[b]? = w.heap[b]? := by
  intro b cur e h1 h2;rcases Nat.lt_or_ge b w.heap.size with hlt | hge
  ·refine hg.block b hlt (fun hq=>h2 ?_);obtain ⟨cur',h3⟩:=own_obj h.1 hq.symm;rw [h1] at h3;injection h3 with h3;injection h3
  ·rw [Array.getElem?_eq_none hge] at h1;cases h1
 have hold : ∀ m,LeafIn w B m→LeafIn w2 B m:=fun m hm=>hm.congr (hkeep hm.2.1 (by decide)) fun b hv=>by
  obtain ⟨cur,h1⟩:=own_obj hm.2.2.1 hv;exact hkeep h1 (by decide)
 have hp:=insL_perm ls l d;refine ⟨?_,fun m hm=>?_,?_,?_⟩
 ·rw [hp.length_eq,List.length_cons];have e:(insL ls l d).map Leaf.ptr=(ls.map Leaf.ptr).take d++[l.ptr]++(ls.map Leaf.ptr).drop d:=by
   unfold insL;rw [List.map_append,List.map_cons,List.map_take,List.map_drop,List.append_assoc];rfl
  rw [e];exact hown
 ·rcases List.mem_cons.1 (hp.mem_iff.1 hm) with rfl | hm
  ·exact hold _ hl
  ·exact hold m (h.2.1 m hm)
 ·refine ((hp.map (·.g)).nodup_iff).2 ?_;rw [List.map_cons,List.nodup_cons];refine ⟨fun hm=>?_,h.2.2.1⟩;obtain ⟨m,hm',e⟩:=List.mem_map.1 hm;exact (hne m hm').1 e
 ·refine ((hp.filterMap (·.v.ownBlock)).nodup_iff).2 ?_;cases hv:l.v.ownBlock with
  | none=>rw [List.filterMap_cons_none (f:=fun x:Leaf=>x.v.ownBlock) hv];exact h.2.2.2
  | some b =>
   rw [List.filterMap_cons_some (f:=fun x:Leaf=>x.v.ownBlock) hv,List.nodup_cons];refine ⟨fun hm=>?_,h.2.2.2⟩;obtain ⟨m,hm',e⟩:=List.mem_filterMap.1 hm;exact (hne m hm').2 b e hv
theorem TreeIn.insert {w wA w5:World} {B t d:Nat} {v v':Value} {ls:List Leaf} {l:Leaf} (h:TreeIn w B t v ls) (hB:B≤w.heap.size) (hA:Below w.heap.size w wA) (hg:wA.grownBy w5 v.ownBlock) (hl:LeafIn w B l) (hne : ∀ m∈ls,m.g≠l.g∧∀ b,m.v.ownBlock=some b→l.v.ownBlock≠some b)
  (hown:w5.ownsRow B 134 1 v' (ls.length+1) ((ls.map Leaf.ptr).take d++[l.ptr]++(ls.map Leaf.ptr).drop d)):TreeIn (w5.setCell ⟨t,0,none⟩ v') B t v' (insL ls l d)∧Below B w (w5.setCell ⟨t,0,none⟩ v'):=by
 have hlA:LeafIn wA B l:=hl.congr (hA.block _ hl.2.1.lt) fun b hb=>hA.block _ (own_lt hl.2.2.1 hb);have hL:=(h.2.2.below hA).insert hg hlA hne hown;have ht:Blk w5 t 128 #[v]:=(h.2.1.below hA |> fun hb:Blk wA t 128 #[v]=>(hg.block t hb.lt (fun e=>h.2.1.ne_own h.2.2.1 (by decide) e.symm)).trans hb)
 exact ⟨⟨h.1,by simpa using ht.set 0 v',hL.root ht v'⟩,((hA.mono hB).grown hg (Nat.le_trans hB hA.size) (fun z hz=>own_base h.2.2.1 hz)).setCell h.1 _⟩
def FTAns (w':World) (B t:Nat) (o:Option (List (List Pad))) (e:Ending):Prop :=
 (o=none∧e = .returned (.bool false))∨∃ v' ls',o=some (ls'.map (·.ps))∧e = .returned (.bool true)∧TreeIn w' B t v' ls'
theorem FTAns.no {w':World} {B t:Nat} {o:Option (List (List Pad))} {e:Ending} (h:o=none) (he:e = .returned (.bool false)):FTAns w' B t o e:=.inl ⟨h,he⟩
theorem FTAns.yes {w':World} {B t:Nat} {o:Option (List (List Pad))} {e:Ending} {v':Value} {ls':List Leaf} (h:o=some (ls'.map (·.ps))) (he:e = .returned (.bool true)) (ht:TreeIn w' B t v' ls'):FTAns w' B t o e:=.inr ⟨v',ls',h,he,ht⟩
theorem turned_whole {ls:List Leaf} {d g:Nat} {l:Leaf} {v2:Value} {f:List Pad} (hl:ls[d]? = some l) (hf:f.length≤4):turned (ls.map (·.ps)) d f=(ls.set d ⟨g,v2,f⟩).map (·.ps):=by
 unfold turned;rw [if_neg (by omega),List.map_set,List.set_eq_take_append_cons_drop,if_pos (by rw [List.length_map];exact (List.getElem?_eq_some_iff.1 hl).1)]
theorem turned_split {ls:List Leaf} {d g G:Nat} {l:Leaf} {v2 sv:Value} {f:List Pad} (hl:ls[d]? = some l) (hf:4 < f.length):turned (ls.map (·.ps)) d f=(insL (ls.set d ⟨g,v2,f.take ((f.length+1) / 2)⟩) ⟨G,sv,f.drop ((f.length+1) / 2)⟩ (d+1)).map (·.ps):=by
 have hd:=(List.getElem?_eq_some_iff.1 hl).1;unfold turned insL;rw [if_pos hf,List.set_eq_take_append_cons_drop,if_pos hd];have h1:(ls.take d++(⟨g,v2,f.take ((f.length+1) / 2)⟩:Leaf)::ls.drop (d+1)).take (d+1)=ls.take d++[⟨g,v2,f.take ((f.length+1) / 2)⟩]:=by
  rw [List.take_append,List.take_of_length_le (by rw [List.length_take];omega),List.length_take,Nat.min_eq_left (by omega),show d+1 - d=0+1 by omega,List.take_succ_cons,List.take_zero]
 have h2:(ls.take d++(⟨g,v2,f.take ((f.length+1) / 2)⟩:Leaf)::ls.drop (d+1)).drop (d+1)=ls.drop (d+1):=by
  rw [List.drop_append,List.drop_eq_nil_of_le (by rw [List.length_take];omega),List.length_take,Nat.min_eq_left (by omega),show d+1 - d=0+1 by omega,List.drop_succ_cons,List.drop_zero,List.nil_append]
 rw [h1,h2];simp [List.map_take,List.map_drop]
theorem insL_len {ls:List Leaf} {l:Leaf} {d:Nat}:(insL ls l d).length=ls.length+1:=by rw [(insL_perm ls l d).length_eq,List.length_cons]
theorem drw_of {ls:List Leaf} {d:Nat} {l:Leaf} (hl:ls[d]? = some l):drw (ls.map (·.ps)) d=l.ps:=by
 unfold drw;rw [List.getD_eq_getElem?_getD,List.getElem?_map,hl];rfl
theorem TreeIn.push2 {w0 w1 w2:World} {B t G:Nat} {v v' sv:Value} {ls:List Leaf} {ps:List Pad} (hG:w1.heap.size=G) (h:TreeIn w0 B t v ls) (hB:B≤w0.heap.size) (hb1:Below w0.heap.size w0 w1) (hO:PadsOwn w1 w0.heap.size sv ps) (hgood : ∀ p∈ps,p.good)
  (hg2:((w1.alloc (.cells #[sv] 192)).alloc (.cells #[.pointer (some ⟨G,0,none⟩)] 134)).grownBy w2 v.ownBlock)
  (hown:w2.ownsRow B 134 1 v' (ls.length+1) (ls.map Leaf.ptr++[.pointer (some ⟨G,0,none⟩)])) :
  TreeIn (w2.setCell ⟨t,0,none⟩ v') B t v' (ls++[⟨G,sv,ps⟩])∧Below B w0 (w2.setCell ⟨t,0,none⟩ v'):=by
 subst hG;exact TreeIn.push h hB hb1 hO hgood hg2 hown
theorem rowNewO3 (w1:World) (o o2:Obj) (u:Value) (t:TypeId):Row (((w1.alloc o).alloc o2).alloc (.cells #[u] t)) (w1.heap.size+3) (some ⟨w1.heap.size+2,0,none⟩) 1 1 [u]:=by
 have h:=rowNew (w1.alloc o) o2 u t
 rwa [show (w1.alloc o).heap.size=w1.heap.size+1 by simp] at h
set_option maxHeartbeats 1000000 in
theorem fileNew (t:Nat) (v:Value) (B:Nat) (p:Pad) (w:World) (hB:B≤w.heap.size) (hp:p.good) (h:TreeIn w B t v []) :
  Calls Tryz.prog 77 #[.pointer (some ⟨t,0,none⟩),padVal p] w fun e w'=>(∃ v' l,e = .returned (.bool true)∧l.ps=[p]∧TreeIn w' B t v' [l])∧Below B w w':=by
 have hal:Below w.heap.size w (w.alloc (.cells #[.int .i64 p.day,.string p.case] 53)):=(Below.refl _ _).alloc (Nat.le_refl _) _;have HF:=uH (treeFind t v [] B p _ cab_nil (h.below hal));have e0:findO ([]:List (List Pad)) p=none:=findO_no (fun i k hf=>by have:=hf.1;simp at this);obtain ⟨i0,hi,hz0,hz1,hz2⟩:=infoLeafP;unfold padVal at HF ⊢;rw [show findO (List.map (·.ps) ([]:List Leaf)) p=none from e0] at HF;unfold FindAns findV at HF;have HT:=uH h;clear h e0;go_enter Tryz.func77,Tryz.ntmps77
 (go_wp2_with fail);refine HF.out.mono ?_;rintro e w1 ⟨rfl,hb1⟩;have b1:=below_next hal hb1;have p0:=kcell hb1 (newcell w #[.int .i64 p.day,.string p.case] 53 0 _ rfl);have p1:=kcell hb1 (newcell w #[.int .i64 p.day,.string p.case] 53 1 _ rfl);have hT1:=HT.out.below b1;obtain ⟨A,c,e1,hnc,hcm⟩:=own_form hT1.2.2.1;have HNe:Hid (v.ownBlock≠some t):=uH (hT1.2.1.ne_own hT1.2.2.1 (by decide));subst e1;have hcf0:w1.cell? ⟨t,0,none⟩=some (.slice A ([]:List Leaf).length c)∧w1.frozen? ⟨t,0,none⟩=false:=⟨hT1.2.1.cell 0,hT1.2.1.free 0⟩;rw [List.length_nil] at hcf0;have hcf1:=keepAlloc hcf0 (.cells #[.int .i64 p.day,.string p.case] 53);have hcf2:=keepAlloc hcf1 (.cells #[.slice (some ⟨w1.heap.size,0,none⟩) 1 1] 192);have hcf3:=keepAlloc hcf2 (.cells #[.pointer (some ⟨w1.heap.size+1,0,none⟩)] 134);have HO:Hid (∀ W,Below w1.heap.size w1 W→W.ownsRow B 134 1 (.slice A 0 c) 0 []):=uH (fun W hW=>own_congr hT1.2.2.1 (fun b hb=>hW.block _ (own_lt hT1.2.2.1 hb)));have HT1:=uH hT1;have hBz:=Nat.le_trans hB b1.size;have n0:=hcf0.1;have n1:=hcf1.1;have n2:=hcf2.1;have n3:=hcf3.1;have f3:=hcf3.2;clear hT1 hb1 HF;have HOp:Hid (PadsOwn (w1.drew.alloc (.cells #[.int .i64 p.day,.string p.case] 53)) w1.heap.size (.slice (some ⟨w1.heap.size,0,none⟩) 1 1) [p]):=uH (World.ownsRow_lit w1.drew #[.int .i64 p.day,.string p.case] 1 (Nat.le_refl _) (by unfold maxLen;omega) rfl);(go_wp2_with fail);go_region_law ((refine step_append_any _ rfl (.tmp 28) (.tmp 33) _ rfl B 134 i0 _ 1 8 Tryz.underlying126 hi hz0 hz1 hz2 rfl (by omega) (.slice A 0 c) 0 [] rfl (HO.out _ (by go_grown)) (w1.heap.size+3) (some ⟨w1.heap.size+2,0,none⟩) 1 1 [.pointer (some ⟨w1.heap.size+1,0,none⟩)] rfl (rowNewO3 _ _ _ _ _) (by simp [Value.oneCell']) (by unfold maxLen;omega) (by omega) (by simp;omega) ?_;intro v2 w2 hown2 hg2 hat2;obtain ⟨A2,cc2,rfl,hcc2,hcm2⟩:=own_form hown2;have hcf4:=keepCell hg2 HNe.out hcf3;have n4:=hcf4.1;have f4:=hcf4.2))
 all_goals (
  have hpush:=TreeIn.push2 (G:=w1.heap.size+1) (by simp) HT1.out hBz (by go_grown) HOp.out (fun x hx=>by rw [List.mem_singleton] at hx;subst hx;exact hp) hg2 hown2;have HT2:=uH hpush.1;have b4:=(b1.mono hB).trans hpush.2;clear hpush hown2 hg2 hat2 HOp HT1 HO;go_wp2;go_returns;exact ⟨⟨_,_,rfl,rfl,HT2.out⟩,b4⟩)
theorem leafAt_set {ls:List Leaf} {d:Nat} {x:Leaf} (h:d < ls.length):leafAt (ls.set d x) d=x:=by
 unfold leafAt;rw [List.getD_eq_getElem?_getD,List.getElem?_set_self h];rfl
theorem set_get {ls:List Leaf} {d:Nat} {l x:Leaf} (h:ls[d]? = some l):(ls.set d x)[d]? = some x:=List.getElem?_set_self (List.getElem?_eq_some_iff.1 h).1
theorem fileHas (t:Nat) (v:Value) (ls:List Leaf) (B:Nat) (p:Pad) (x:Nat × Nat) (w:World) (hc:cabOK (ls.map (·.ps))) (hq:findO (ls.map (·.ps)) p=some x) (h:TreeIn w B t v ls) :
  Calls Tryz.prog 77 #[.pointer (some ⟨t,0,none⟩),padVal p] w fun e w'=>e = .returned (.bool false)∧Below w.heap.size w w':=by
 have hal:Below w.heap.size w (w.alloc (.cells #[.int .i64 p.day,.string p.case] 53)):=(Below.refl _ _).alloc (Nat.le_refl _) _;have HF:=uH (treeFind t v ls B p _ hc (h.below hal));unfold padVal at HF ⊢;rw [hq] at HF;unfold FindAns at HF;clear h hc hq;rcases x with ⟨i,k⟩
 unfold findV at HF;go_enter Tryz.func77,Tryz.ntmps77
 (go_wp2_with fail);refine HF.out.mono ?_;rintro e w1 ⟨rfl,hb1⟩;have b1:=below_next hal hb1;go_wp2;go_returns;exact ⟨rfl,b1⟩
set_option maxHeartbeats 2000000 in
theorem fileIn (t:Nat) (v:Value) (ls:List Leaf) (B:Nat) (p:Pad) (w:World) (hB:B≤w.heap.size) (hg:p.good) (hc:cabOK (ls.map (·.ps))) (hq:findO (ls.map (·.ps)) p=none) (hn:1≤ls.length) (h:TreeIn w B t v ls) :
  Calls Tryz.prog 77 #[.pointer (some ⟨t,0,none⟩),padVal p] w fun e w'=>FTAns w' B t (fileS (ls.map (·.ps)) p) e∧Below B w w':=by
 obtain ⟨A,c,rfl,hnc,hcm⟩:=own_form h.2.2.1;have hal:Below w.heap.size w (w.alloc (.cells #[.int .i64 p.day,.string p.case] 53)):=(Below.refl _ _).alloc (Nat.le_refl _) _;have hlen : ∀ l∈ls,lenOK l.ps:=fun l hl=>hc.2.1 l.ps (List.mem_map_of_mem hl);have h6:ls.length≤6:=(by have:=hc.1;rwa [List.length_map] at this);have HF:=uH (treeFind t _ ls B p _ hc (h.below hal));have HD:Hid (∀ W,Below w.heap.size w W→Calls Tryz.prog 137 #[.pointer (some ⟨t,0,none⟩),padVal p] W fun e w'=>(∃ d:Nat,e = .returned (.int .i64 d)∧DrawerOf (ls.map (·.ps)) p d)∧Below W.heap.size W w'):=uH (fun W hW=>drawerFor t _ ls B p W hn (fun l hl=>(hlen l hl).1) (h.below hW));have hn0:((ls.length:Int) == 0)=false:=beq_eq_false_iff_ne.2 (by omega);have k0:(w.alloc (.cells #[.int .i64 p.day,.string p.case] 53)).cell? ⟨t,0,none⟩=some (.slice A ls.length c):=Lib.cell?_alloc_some _ (h.2.1.cell 0);have HT:=uH h;have HC:=uH hc;have HQ:=uH hq;have HLn:=uH hlen;unfold padVal at HF HD ⊢;rw [hq] at HF;unfold FindAns findV at HF;unfold maxLen at hcm;clear h hc hq hlen;go_enter Tryz.func77,Tryz.ntmps77
 (go_wp2_with fail);refine HF.out.mono ?_;rintro e w1 ⟨rfl,hb1⟩;have b1:=below_next hal hb1;have p0:=kcell hb1 (newcell w #[.int .i64 p.day,.string p.case] 53 0 _ rfl);have p1:=kcell hb1 (newcell w #[.int .i64 p.day,.string p.case] 53 1 _ rfl);have t0:=kcell hb1 k0;clear hb1 HF k0;(go_wp2_with fail);refine (HD.out _ b1).mono ?_;rintro e w2 ⟨⟨d,rfl,hd⟩,hb2⟩;have b2:=below_next b1 hb2;have q0:=kcell hb2 p0;have q1:=kcell hb2 p1;have t1:=kcell hb2 t0;clear hb2 p0 p1 t0 HD hn0;have hdl:d < ls.length:=(by have:=hd.1;rwa [List.length_map] at this);have hT2:=HT.out.below b2;obtain ⟨b,off,eA,hbB,c0,_⟩:=hT2.2.2.at_ rfl hdl;subst eA;have hl:=leafAt_some hdl;have hlm:=leafAt_mem hdl;have hsd:sortedOK (leafAt ls d).ps:=(by rw [← drw_leaf hdl];exact sorted_drw HC.out.2.2 (by rw [List.length_map];exact hdl));have hl4:=HLn.out _ hlm;have HPt:=uH (leafPut t d _ ls (leafAt ls d) B p w2.drew (Nat.le_trans hB b2.size) (hT2.below (Below.refl _ _).drew) hl (by unfold lenOK at hl4;omega) hsd hg);unfold padVal at HPt;have HL:=uH hl;have HS:=uH hsd;have HD2:=uH hd;have hlo:=hl4.2;clear hT2 hl hlm hsd hd hl4;generalize leafAt ls d=l at *;(go_wp2_with fail);refine region_still_tail 8 (by kernel_rfl) (by kernel_rfl) ?_;simp only [List.take_succ_cons,List.take_zero,List.drop_succ_cons,List.drop_zero];repeat still_step
 refine wpStill_nil ?_;(go_wp2_with fail);refine HPt.out.mono ?_;rintro e w3 ⟨rfl,hb3,v3,hT3⟩;have b3:Below B w w3:=(b2.mono hB).drew.trans hb3;have hB3:B≤w3.heap.size:=Nat.le_trans hB b3.size;have hgm : ∀ m∈ls,m.g < w3.heap.size∧∀ b,m.v.ownBlock=some b→b < w3.heap.size:=fun m hm=>by
  have hmI:=HT.out.2.2.2.1 m hm;exact ⟨Nat.lt_of_lt_of_le hmI.2.1.lt b3.size,fun b hb=>Nat.lt_of_lt_of_le (own_lt hmI.2.2.1 hb) b3.size⟩
 have hlg:=(hgm l (List.mem_of_getElem? HL.out)).1;obtain ⟨b',off',eA',hbB',d0,hgl,d1,_,_,_,_⟩:=hT3.2.2.at_ (List.length_set ..) hdl;rw [leafAt_set hdl] at d0 d1 hgl;have t3:=hT3.2.1.cell 0;obtain ⟨rfl,rfl⟩:b=b'∧off=off':=(by simpa using eA');have HP:=uH (putIdx_place (p:=p) HS.out);have hl3:=set_get (x:=(⟨l.g,v3,ins l.ps p (putIdx l.ps p)⟩:Leaf)) HL.out;have HFS:=uH (fileS_turned HC.out HQ.out HD2.out (by rw [drw_of HL.out];exact HP.out));rw [drw_of HL.out] at HFS;have HGM:=uH hgm;clear hgm eA' hb3 c0 t1 q0 q1 HPt hbB;by_cases h4:l.ps.length+1≤4
 ·have HSp:=uH (leafWhole t d _ _ _ B w3 hT3 hl3 (by rw [ins_len];exact h4));have HX:Hid (fileS (ls.map (·.ps)) p=some ((ls.set d ⟨l.g,v3,ins l.ps p (putIdx l.ps p)⟩).map (·.ps))):=uH (by
   rw [HFS.out,turned_whole HL.out (by rw [ins_len];exact h4),if_neg (by rw [List.length_map,List.length_set];omega)])
  have HT3:=uH hT3;clear hT3 hl3 HFS;generalize ins l.ps p (putIdx l.ps p)=f at *;(go_wp2_with fail);refine HSp.out.mono ?_;rintro e w4 ⟨rfl,rfl⟩;have hd6:decide ((ls.length:Int)≤6)=true:=decide_eq_true (by omega);go_wp2;go_returns;exact ⟨.yes HX.out rfl HT3.out,b3⟩
 ·have HSp:=uH (leafSplit t d _ _ _ B w3 hB3 hT3 hl3 (by rw [ins_len];omega) (by rw [ins_len];omega));have HFS:Hid (∀ g G v2 sv,fileS (ls.map (·.ps)) p=if 6 < ls.length+1 then none else some ((insL (ls.set d ⟨g,v2,(ins l.ps p (putIdx l.ps p)).take (((ins l.ps p (putIdx l.ps p)).length+1) / 2)⟩) ⟨G,sv,(ins l.ps p (putIdx l.ps p)).drop (((ins l.ps p (putIdx l.ps p)).length+1) / 2)⟩ (d+1)).map (·.ps))):=uH (fun g G v2 sv=>by
   rw [HFS.out,turned_split (g:=g) (G:=G) (v2:=v2) (sv:=sv) HL.out (by rw [ins_len];omega),List.length_map,insL_len,List.length_set])
  have hfl:4 < (ins l.ps p (putIdx l.ps p)).length:=(by rw [ins_len];omega);have HFl:=uH hfl;clear hT3 hl3 hfl;generalize ins l.ps p (putIdx l.ps p)=f at *;(go_wp2_with fail);refine HSp.out.mono ?_;rintro e w4 ⟨G,sv,v2,rfl,hb4,hG,hsv,hv2,hlI,hT4⟩;rw [List.set_set] at hT4;have b4:=b3.trans hb4;have hB4:B≤w4.heap.size:=Nat.le_trans hB b4.size;have hne : ∀ m∈ls.set d (⟨l.g,v2,f.take ((f.length+1) / 2)⟩:Leaf),m.g≠G∧∀ b,m.v.ownBlock=some b→sv.ownBlock≠some b:=fun m hm=>by
   rcases List.mem_or_eq_of_mem_set hm with hm | rfl
   ·have:=HGM.out m hm;refine ⟨by omega,fun b hb e=>?_⟩;have h1:=this.2 b hb;have h2:=hsv b e;omega
   ·exact ⟨by show l.g≠G;omega,fun b hb=>(hv2 b hb).2⟩
  have hcf4:w4.cell? ⟨t,0,none⟩=some (.slice (some ⟨b,off,none⟩) ls.length c)∧w4.frozen? ⟨t,0,none⟩=false:=⟨hT4.2.1.cell 0,hT4.2.1.free 0⟩;have hcf5:=keepAlloc hcf4 (.cells #[.pointer (some ⟨G,0,none⟩)] 134);have HNe:Hid ((Value.slice (some ⟨b,off,none⟩) ls.length c).ownBlock≠some t):=uH (hT4.2.1.ne_own hT4.2.2.1 (by decide));have hO4:=hT4.2.2.1;rw [List.length_set] at hO4;have HIn:=uH (insertLeaf (.slice (some ⟨b,off,none⟩) ls.length c) ls.length (d+1) w4.heap.size B _ [.pointer (some ⟨G,0,none⟩)] (w4.alloc (.cells #[.pointer (some ⟨G,0,none⟩)] 134)) (by omega) (by omega) (Nat.le_trans hB4 (by simp)) (hO4.alloc _) (Blk.new w4 _ _) (fun e=>by have:=own_lt hO4 e;omega) rfl (fun u hu=>by
   obtain ⟨m,_,rfl⟩:=List.mem_map.1 hu;rfl) (by simp [Value.oneCell']))
  rw [show ((d+1:Nat):Int)=(d:Int)+1 from rfl] at HIn;have HT4:=uH hT4;have HLI:=uH hlI;have HNE:=uH hne;have n4:=hcf4.1;have n5:=hcf5.1;clear hT4 hlI hne hO4 hv2 hsv hb4 HSp HGM t3 d0 d1;(go_wp2_with fail);refine HIn.out.mono ?_;rintro e w5 ⟨v5,rfl,hO5,hg5,_⟩;rw [Nat.mul_one] at hO5;obtain ⟨A5,c5,rfl,hnc5,hcm5⟩:=own_form hO5;have hcf6:=keepCell hg5 HNe.out hcf5;have n6:=hcf6.1;have f6:=hcf6.2;obtain ⟨hT6,hb6⟩:=TreeIn.insert (v':=.slice A5 (ls.length+1) c5) (l:=⟨G,sv,f.drop ((f.length+1) / 2)⟩) (d:=d+1) HT4.out hB4 (by go_grown) hg5 HLI.out HNE.out (by rw [List.length_set];exact hO5);have b6:=b4.trans hb6;have HT6:=uH hT6;have hX:=HFS.out l.g G v2 sv;clear hT6 hb6 hO5 hg5 HIn HT4 HNE HLI n4 n5 hcf4 hcf5 HFS;by_cases h7:ls.length≤5
  ·rw [if_neg (by omega)] at hX;have HX:=uH hX;have hd6:decide ((ls.length:Int)+1≤6)=true:=decide_eq_true (by omega);clear hX;go_wp2;go_returns;exact ⟨.yes HX.out rfl HT6.out,b6⟩
  ·rw [if_pos (by omega)] at hX;have HX:=uH hX;have hd6:decide ((ls.length:Int)+1≤6)=false:=decide_eq_false (by omega);clear hX;go_wp2;go_returns;exact ⟨.no HX.out rfl,b6⟩
theorem treeFile (t:Nat) (v:Value) (ls:List Leaf) (B:Nat) (p:Pad) (w:World) (hB:B≤w.heap.size) (hp:okP p=true) (hg:p.good) (hc:cabOK (ls.map (·.ps))) (h:TreeIn w B t v ls) :
  Calls Tryz.prog 77 #[.pointer (some ⟨t,0,none⟩),padVal p] w fun e w'=>FTAns w' B t (fileO (ls.map (·.ps)) p) e∧Below B w w':=by
 cases hq:findO (ls.map (·.ps)) p with
 | some x =>
  rw [fileO_no (fun h=>by rw [h.2.2] at hq;cases hq)];exact (fileHas t v ls B p x w hc hq h).mono fun _ _ h=>⟨.no rfl h.1,h.2.mono hB⟩
 | none =>
  rw [fileO_yes hc hp hq];cases ls with
  | nil =>
   refine (fileNew t v B p w hB hg h).mono fun e w' ⟨⟨v',l,he,hl,hT⟩,hb⟩=>⟨.yes (ls':=[l]) ?_ he hT,hb⟩;rw [List.map_singleton,hl];exact fileS_nil p
  | cons l ls=>exact fileIn t v (l::ls) B p w hB hg hc hq (by simp) h
theorem TreeIn.mono {w:World} {B B' t:Nat} {v:Value} {ls:List Leaf} (h:TreeIn w B t v ls) (hB:B'≤B):TreeIn w B' t v ls :=
 ⟨Nat.le_trans hB h.1,h.2.1,own_mono h.2.2.1 hB,fun l hl=>have m:=h.2.2.2.1 l hl;⟨Nat.le_trans hB m.1,m.2.1,own_mono m.2.2.1 hB,m.2.2.2⟩,h.2.2.2.2⟩
theorem implPadB (p:Pad) (hp:p.good) {b:Bool} (h:okP p=b) (W:World):Calls Tryz.prog 76 #[.agg #[.int .i64 p.day,.string p.case]] W fun e w'=>e = .returned (.bool b)∧Below W.heap.size W w':=by
 have:=implPadValid p.day p.case W hp.2
 rwa [show padB p.day p.case.data.toList=b from h] at this
set_option maxHeartbeats 1000000 in
theorem implCabinetFile (A:Option Addr) (n c:Nat) (ds:List Drawer) (p:Pad) (w:World) (_:cabSz ds≤1048576) (hp:p.good) (h:DrawersIn w w.heap.size A n c ds) :
  Calls Tryz.prog 166 #[.slice A n c,padVal p] w fun e w'=>FileAns w' w.heap.size (fileO (ds.map (·.ps)) p) e∧Below w.heap.size w w':=by
 have hal:Below w.heap.size w (w.alloc (.cells #[.int .i64 p.day,.string p.case] 53)):=(Below.refl _ _).alloc (Nat.le_refl _) _;have HT:=uH (treeOf A n c ds _ (h.keep hal));clear h;unfold padVal;go_enter Tryz.func166,Tryz.ntmps166
 (go_wp2_with fail);refine HT.out.mono ?_;rintro e w1 ⟨hT,hb1⟩;have b1:=below_next hal hb1;have p0:=kcell hb1 (newcell w #[.int .i64 p.day,.string p.case] _ 0 _ rfl);have p1:=kcell hb1 (newcell w #[.int .i64 p.day,.string p.case] _ 1 _ rfl);rcases hT with ⟨hn,rfl⟩ | ⟨hy,t,v,ls,rfl,hT,hM⟩
 ·have HN:Hid (fileO (ds.map (·.ps)) p=none):=uH (fileO_no (fun hc=>by rw [cabB_yes hc.1] at hn;cases hn));clear hn;go_wp2;go_returns;exact ⟨.no HN.out rfl (CabOwn.nil _ _),b1⟩
 ·have HC:=uH (cabB_iff.1 hy);have hc:cabOK (ls.map (·.ps)):=(by rw [hM];exact HC.out);cases ho:okP p with
  | false =>
   have HN:Hid (fileO (ds.map (·.ps)) p=none):=uH (fileO_no (fun h=>by rw [h.2.1] at ho;cases ho));have HV:=uH (implPadB p hp ho w1);clear hy hT hM hc ho;(go_wp2_with fail);refine HV.out.mono ?_;rintro e w2 ⟨rfl,hb2⟩;have b2:=below_next b1 hb2;go_wp2;go_returns;exact ⟨.no HN.out rfl (CabOwn.nil _ _),b2⟩
  | true =>
   have HV:=uH (implPadB p hp ho w1);have HTr:=uH hT;have HM:=uH hM;have HCc:=uH hc;have HO:=uH ho;have hBB:=hb1.size;clear hy hT hM hc ho hb1;(go_wp2_with fail);refine HV.out.mono ?_;rintro e w2 ⟨rfl,hb2⟩;have b2:=below_next b1 hb2;have q0:=kcell hb2 p0;have q1:=kcell hb2 p1;have HF:=uH (treeFile t v ls w.heap.size p w2 b2.size HO.out hp HCc.out ((TreeIn.mono HTr.out (by simp)).below hb2));unfold padVal at HF;rw [HM.out] at HF;clear hb2 p0 p1;(go_wp2_with fail);refine HF.out.mono ?_;rintro e w3 ⟨hF,hb3⟩;have b3:=b2.trans hb3;rcases hF with ⟨hN,rfl⟩ | ⟨v',ls',hN,rfl,hT3⟩
   ·have HN:=uH hN;clear hN;go_wp2;go_returns;exact ⟨.no HN.out rfl (CabOwn.nil _ _),b3⟩
   ·have HN:=uH hN;have hc':=fileO_ok hN;have h6:ls'.length≤6:=(by have:=hc'.1;rwa [List.length_map] at this);have HP:=uH (treeCab t v' ls' _ w3 (by omega) (fun l hl=>by
     have:=hc'.2.1 l.ps (List.mem_map_of_mem hl);unfold lenOK at this;omega) hT3)
    have hz3:=b3.size;clear hN hc' hT3 h6 hb3;(go_wp2_with fail);refine HP.out.mono ?_;rintro e w4 ⟨⟨A4,c4,d4,rfl,hO4,hM4⟩,hb4⟩;have b4:=below_next b3 hb4;have HO4:=uH (hO4.mono hz3);have HM3:Hid (fileO (ds.map (·.ps)) p=some (d4.map (·.ps))):=uH (by rw [HN.out,hM4]);clear hO4 hM4;go_wp2;go_returns;exact ⟨.yes HM3.out rfl HO4.out,b4⟩
end Go.Proofs.YtbkhnljaajajiaaGreatDoor
