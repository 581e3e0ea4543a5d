/-
  Contracts and plain laws that the proofs lean on. Conditions: as each says.
-/
import Derived.Test.YtbkhnljaajajiaaGreatDoorPX20
import Derived.Lib.SplitLaws
set_option maxRecDepth 100000
set_option linter.unusedSimpArgs false
set_option linter.unusedVariables false
set_option linter.unnecessarySimpa false
namespace Go.Proofs.YtbkhnljaajajiaaGreatDoor
open Go.ChangeShapes Go.WideShapes Go.ChangeAt Go.RowKit
def BrNew (B:Nat) (xs:List Br):Prop:=∀ x∈xs,∀ a,x.A=some a→B≤a.block
theorem addRun {w V:World} {v:Value} {xs:List Br} {x:Br} (hV:Below w.heap.size w V) (hO:BrOwn V w.heap.size v xs) (hx:BrIn V V.heap.size x) (hn:xs.length≤1000) (hm:x.n≤1000) :
  ∃ (A1:Option Addr) (c1:Nat) (w1:World) (A2:Option Addr) (c2:Nat) (w2:World),
   (appZ #[27,27] 27 #[.slice (some ⟨V.heap.size,0,none⟩) 0 0,.slice x.A x.n x.c]).run Tryz.prog (V.alloc (.cells #[] 9)).drew = .ok (.slice A1 x.n c1) w1 ∧
   (appZ #[26,26] 26 #[v,.slice (some ⟨w1.heap.size,0,none⟩) 1 1]).run Tryz.prog (w1.alloc (.cells #[.string (mkStr x.mark),.slice A1 x.n c1] 34)) = .ok (.slice A2 (xs.length+1) c2) w2 ∧
   BrOwn w2 w.heap.size (.slice A2 (xs.length+1) c2) (xs++[⟨x.mark,A1,x.n,c1,x.words⟩])∧Below w.heap.size w w2∧(∀ a,A1=some a→w.heap.size≤a.block)∧Below V.heap.size V w1:=by
 obtain ⟨j0,hj,hy0,hy1,hy2⟩:=info_parts infoWd;obtain ⟨i0,hi,hz0,hz1,hz2⟩:=info_parts infoBr;have hVz:=hV.size;have hb0:Below V.heap.size V (V.alloc (.cells #[] 9)).drew:=((Below.refl _ _).alloc (Nat.le_refl _) _).drew;have hs0:(V.alloc (.cells #[] 9)).drew.ownsRow V.heap.size 9 1 (.slice (some ⟨V.heap.size,0,none⟩) 0 0) 0 []:=World.ownsRow_made V #[] 0 (Nat.le_refl _) (by simp) (by simp);have hz:V.heap.size≤(V.alloc (.cells #[] 9)).drew.heap.size:=hb0.size;have hx0:=BrIn.keep hx hb0;obtain ⟨v1,w1,h1,h2,h3,h4⟩:=run_append_any (P:=Tryz.prog) (w:=(V.alloc (.cells #[] 9)).drew) V.heap.size 27 27 9 j0 _ 1 16 Tryz.underlying27 hj hy0 hy1 hy2 rfl (by omega) _ 0 [] hs0 _ x.A x.n x.c (x.words.map strP) hx0.2.2.2 (strP_one _) (by unfold maxLen;omega) (by omega) hz;rw [Nat.zero_add,List.nil_append] at h2;obtain ⟨A1,c1,rfl,hc1,hcm1⟩:=ownG_form h2;have b1:Below V.heap.size V w1:=hb0.grown h3 hz (fun q hq=>by have e:some V.heap.size=some q:=hq;injection e with e;omega);have hz1':=b1.size;have hxl:=hx.1;have ho1:WdOwn w1 V.heap.size (.slice A1 x.n c1) x.words:=(by unfold WdOwn;rw [hxl];exact h2);have hO1:BrOwn w1 w.heap.size v xs:=hO.keep b1;have hbox:Below w1.heap.size w1 (w1.alloc (.cells #[.string (mkStr x.mark),.slice A1 x.n c1] 34)):=(Below.refl _ _).alloc (Nat.le_refl _) _;have hO2:=hO1.keep hbox;have hnew:=rowNewBr w1 (.string (mkStr x.mark)) (.slice A1 x.n c1) 34;obtain ⟨v2,w2,g1,g2,g3,g4⟩:=run_append_any (P:=Tryz.prog) (w:=w1.alloc (.cells #[.string (mkStr x.mark),.slice A1 x.n c1] 34)) w.heap.size 26 26 34 i0 _ 2 40 Tryz.underlying26 hi hz0 hz1 hz2 rfl (by omega) v xs.length (xs.flatMap brC) hO2.1 _ (some ⟨w1.heap.size,0,none⟩) 1 1 [.string (mkStr x.mark),.slice A1 x.n c1] hnew (by simp [Value.oneCell']) (by unfold maxLen;omega) (by omega) (by simp;omega);obtain ⟨A2,c2,rfl,_,_⟩:=ownG_form g2;have hbs : ∀ q,v.ownBlock=some q→q < V.heap.size:=fun q hq=>ownG_lt hO.1 hq;have hb2 : ∀ q,v.ownBlock=some q→w.heap.size≤q:=fun q hq=>ownG_base hO.1 hq;refine ⟨A1,c1,w1,A2,c2,w2,h1,g1,?_,?_,fun a ha=>?_,b1⟩
 ·refine BrOwn.push hO2 (x:=⟨x.mark,A1,x.n,c1,x.words⟩) ?_ (fun hp a ha=>?_) g2 g3 g4
  ·exact BrIn.keep (WdOwn.reads ho1 hxl:WdsIn w1 w1.heap.size A1 x.n c1 x.words) hbox
  ·have ha:A1=some a:=ha;subst ha;have e1:=ownG_base ho1 rfl;have e2:=ownG_lt ho1 rfl;exact ⟨fun e=>by have:=hbs _ e;omega,by simp;omega⟩
 ·exact ((hV.trans (b1.mono hVz)).alloc (by omega) _).grown g3 (by simp;omega) hb2
 ·subst ha;have:=ownG_base ho1 rfl;omega
attribute [local go_sem ↓] appZ_eq
def AddAns (w':World) (B:Nat) (o:Option (List Bf)) (e:Ending):Prop :=
 (o=none∧∃ A c,e = .returned (.tuple #[.slice A 0 c,.bool false])) ∨
 ∃ A c xs,o=some (xs.map Br.dat)∧e = .returned (.tuple #[.slice A xs.length c,.bool true])∧BrOwn w' B (.slice A xs.length c) xs∧BrNew B xs
set_option maxHeartbeats 3200000 in
theorem specBriefsAdd (A:Option Addr) (n c:Nat) (xs:List Br) (y:Br) (w:World) (hn:n≤500) (hX:OkBs (xs++[y])) (hm : ∀ x∈xs++[y],x.n≤1000) (h:BrsIn w w.heap.size A n c xs) (hy:BrIn w w.heap.size y) :
  Calls Tryz.prog 115 #[.slice A n c,.agg #[.string (mkStr y.mark),.slice y.A y.n y.c]] w fun e w'=>AddAns w' w.heap.size (addO (xs.map Br.dat) y.dat) e∧Below w.heap.size w w':=by
 have HL:=uH h.1;have H:=uH h;have HY:=uH hy;have HX:=uH hX;have HM:=uH hm;clear h hy hX hm;have b0:Below w.heap.size w (w.alloc (.cells #[.string (mkStr y.mark),.slice y.A y.n y.c] 34)):=(Below.refl _ _).alloc (Nat.le_refl _) _;have HK0:=uH (newcell w #[.string (mkStr y.mark),.slice y.A y.n y.c] 34 0 _ rfl);have HK1:=uH (newcell w #[.string (mkStr y.mark),.slice y.A y.n y.c] 34 1 _ rfl);have hz0:=b0.size;obtain ⟨W,hW⟩ : ∃ W,W=w.alloc (.cells #[.string (mkStr y.mark),.slice y.A y.n y.c] 34):=⟨_,rfl⟩;have hW1:W.heap.size=w.heap.size+1:=(by rw [hW];simp);have HO0:Hid (BrOwn (W.alloc (.cells #[] 34)) W.heap.size (.slice (some ⟨w.heap.size+1,0,none⟩) 0 0) []):=uH (by
  rw [← hW1];exact BrOwn.made W)
 rw [← hW] at b0 HK0 HK1 hz0;have H2:=uH (H.out.keep b0);have HY2:=uH (BrIn.keep HY.out b0);have HW1:=uH hW1;have hal:Below W.heap.size W (W.alloc (.cells #[] 34)):=(Below.refl _ _).alloc (Nat.le_refl _) _;clear hW1 H HY;go_enter Tryz.func115,Tryz.ntmps115
 (go_wp2_with fail);rw [← hW];clear hW;go_wp2;go_loopw [6,7] (fun s6 s7 wr=>∃ (k:Nat) (zs:List Br) (A6:Option Addr) (c6:Nat),k≤n∧s6 = .slice A6 k c6∧s7 = .int .i64 k∧Hid (zs.length=k)∧Hid (zs.map Br.dat=(xs.map Br.dat).take k)∧Hid (∀ z∈zs,SmB z∧z.n≤1000)∧Hid (BrOwn wr W.heap.size (.slice A6 k c6) zs)∧Hid (BrNew W.heap.size zs)∧Below W.heap.size W wr) (fun _ s7 _=>n - (intOf s7).toNat)
 case atStart=>exact ⟨0,[],_,0,Nat.zero_le _,rfl,rfl,uH rfl,uH (by simp),uH (by simp),HO0,uH (by intro x hx;simp at hx),hal⟩
 case round =>
  obtain ⟨k,zs,A6,c6,hk,rfl,rfl,HZl,HZd,HZs,HO,HNw,hb⟩:=hrel;have i1:(0:Int)≤(k:Int):=(by omega);by_cases hlt:k < n
  ·have i2:(k:Int) < (n:Int):=(by omega);have hkx:k < xs.length:=(by rw [HL.out];exact hlt);have hxm:brAt xs k∈xs++[y]:=List.mem_append_left _ (brAt_mem hkx);have h9:=(H2.out.keep hb).at_ hlt;obtain ⟨b,off,rfl,hbB,c0,c1,hI⟩:=h9;obtain ⟨A1,c1',w1,A2,c2,w2,r1,r2,o2,b2,n1,b1⟩:=addRun (x:=brAt xs k) hb HO.out hI (by rw [HZl.out];omega) (HM.out _ hxm);rw [HZl.out] at r2 o2;obtain ⟨nz,hnz⟩ : ∃ nz:Br,nz=⟨(brAt xs k).mark,A1,(brAt xs k).n,c1',(brAt xs k).words⟩:=⟨_,rfl⟩;rw [← hnz] at o2;have HF1:Hid ((zs++[nz]).length=k+1):=uH (by rw [List.length_append,HZl.out];rfl);have HF2:Hid ((zs++[nz]).map Br.dat=(xs.map Br.dat).take (k+1)):=uH (by
    rw [List.map_append,HZd.out,List.take_succ_eq_append_getElem (by rw [List.length_map];exact hkx),bfAt_get (bs:=xs.map Br.dat) (k:=k) (by rw [List.length_map];exact hkx),brAt_dat hkx,hnz];rfl)
   have HF3:Hid (∀ z∈zs++[nz],SmB z∧z.n≤1000):=uH (fun z hz=>by
    rcases List.mem_append.1 hz with h | h
    ·exact HZs.out z h
    ·have h1:=HX.out _ hxm;have h2:=HM.out _ hxm;rw [List.mem_singleton] at h;rw [h,hnz];exact ⟨⟨h1.1,h1.2⟩,h2⟩)
   have HF4:Hid (BrNew W.heap.size (zs++[nz])):=uH (fun z hz a ha=>by
    rcases List.mem_append.1 hz with h | h
    ·exact HNw.out z h a ha
    ·rw [List.mem_singleton] at h;rw [h,hnz] at ha;exact n1 a ha)
   have HO2:=uH o2;have ba:Below wr.heap.size wr (wr.alloc (.cells #[] 9)).drew:=((Below.refl _ _).alloc (Nat.le_refl _) _).drew;have m0:=kcell ba c0;have m1:=kcell ba c1;have l0:=kcell b1 c0;have l1:=kcell b1 c1;clear o2 n1 HO HZl HZd HZs HNw hI hxm hkx hnz ba;(go_wp2_with fail);go_region
   all_goals
    go_wp2;go_roundw
    case rel=>exact ⟨k+1,zs++[nz],A2,c2,by omega,rfl,by go_num,HF1,HF2,HF3,HO2,HF4,b2⟩
    case measure=>simp [intOf] <;> omega
  ·obtain rfl:k=n:=(by omega);have k0:=kcell hb HK0.out;have k1:=kcell hb HK1.out;have hym:y∈xs++[y]:=(by simp);obtain ⟨A1,c1',w1,A2,c2,w2,r1,r2,o2,b2,n1,b1⟩:=addRun (x:=y) hb HO.out (BrIn.keep HY2.out hb) (by rw [HZl.out];omega) (HM.out _ hym);rw [HZl.out] at r2 o2;obtain ⟨nz,hnz⟩ : ∃ nz:Br,nz=⟨y.mark,A1,y.n,c1',y.words⟩:=⟨_,rfl⟩;rw [← hnz] at o2;have HF1:Hid ((zs++[nz]).length=k+1):=uH (by rw [List.length_append,HZl.out];rfl);have HF2:Hid ((zs++[nz]).map Br.dat=xs.map Br.dat++[y.dat]):=uH (by
    rw [List.map_append,HZd.out,List.take_of_length_le (by rw [List.length_map,HL.out];exact Nat.le_refl _),hnz];rfl)
   have HF3:Hid (OkBs (zs++[nz])):=uH (fun z hz=>by
    rcases List.mem_append.1 hz with h | h
    ·exact (HZs.out z h).1
    ·have h1:=HX.out _ hym;rw [List.mem_singleton] at h;rw [h,hnz];exact ⟨h1.1,h1.2⟩)
   have HF4:Hid (BrNew w.heap.size (zs++[nz])):=uH (fun z hz a ha=>by
    rcases List.mem_append.1 hz with h | h
    ·have:=HNw.out z h a ha;omega
    ·rw [List.mem_singleton] at h;rw [h,hnz] at ha;have:=n1 a ha;omega)
   have ba:Below wr.heap.size wr (wr.alloc (.cells #[] 9)).drew:=((Below.refl _ _).alloc (Nat.le_refl _) _).drew;have m0:=kcell ba k0;have m1:=kcell ba k1;have l0:=kcell b1 k0;have l1:=kcell b1 k1;have HV:=uH (specBriefsValid A2 (k+1) c2 (zs++[nz]) w2 HF3.out (o2.reads HF1.out));have b3:=below_next b0 b2;rw [HF2.out] at HV;have HO2:Hid (∀ w3,Below w2.heap.size w2 w3→BrOwn w3 w.heap.size (.slice A2 (k+1) c2) (zs++[nz])):=uH (fun w3 h3=>by
    have:=o2.keep h3;exact ⟨ownG_mono this.1 hz0,this.2⟩)
   clear o2 n1 HO HZl HZd HZs HNw hym hnz ba b2;cases hv:brsB (xs.map Br.dat++[y.dat]) with
   | false =>
    have HR:Hid (addO (xs.map Br.dat) y.dat=none):=uH (by unfold addO;rw [hv];rfl);rw [hv] at HV;clear hv;(go_wp2_with fail);go_region
    all_goals
     (go_wp2_with fail);refine HV.out.mono ?_;rintro e w5 ⟨rfl,hb5⟩;have b5:=below_next b3 hb5;have HFin:Hid (AddAns (w5.alloc (.cells #[] 34)) w.heap.size (addO (xs.map Br.dat) y.dat) (.returned (.tuple #[.slice (some ⟨w5.heap.size,0,none⟩) 0 0,.bool false]))):=uH (.inl ⟨HR.out,_,_,rfl⟩);have b6:=b5.alloc b5.size (.cells #[] 34);go_wp2;go_returns;exact ⟨HFin.out,b6⟩
   | true =>
    have HR:Hid (addO (xs.map Br.dat) y.dat=some ((zs++[nz]).map Br.dat)):=uH (by unfold addO;rw [hv,HF2.out];rfl);rw [hv] at HV;clear hv;(go_wp2_with fail);go_region
    all_goals
     (go_wp2_with fail);refine HV.out.mono ?_;rintro e w5 ⟨rfl,hb5⟩;have b5:=below_next b3 hb5;have HFin:Hid (AddAns w5 w.heap.size (addO (xs.map Br.dat) y.dat) (.returned (.tuple #[.slice A2 (k+1) c2,.bool true]))):=uH (.inr ⟨A2,c2,zs++[nz],HR.out,by rw [HF1.out],by rw [HF1.out];exact HO2.out w5 hb5,HF4.out⟩);go_wp2;go_returns;exact ⟨HFin.out,b5⟩
end Go.Proofs.YtbkhnljaajajiaaGreatDoor
namespace Go.Proofs.YtbkhnljaajajiaaGreatDoor
open Go.ChangeShapes Go.WideShapes Go.ChangeAt Go.RowKit Go.Shelf
theorem CabAns.nil {w:World} {B:Nat} {e:Ending} (h:CabAns w B [] e) : ∃ A c,e = .returned (.slice A 0 c)∧CabOwn w B (.slice A 0 c) []:=by
 obtain ⟨A,c,ds,h1,h2,h3⟩:=h;have:ds=[]:=List.map_eq_nil_iff.1 h3;subst this;exact ⟨A,c,h1,h2⟩
end Go.Proofs.YtbkhnljaajajiaaGreatDoor
namespace Go.Proofs.YtbkhnljaajajiaaGreatDoor
open Go.ChangeShapes Go.WideShapes Go.ChangeAt Go.RowKit
theorem splitK_cut (c:UInt8) : ∀ l:List UInt8,∃ (f:List UInt8) (r:List (List UInt8)),Lib.splitK [c] 0 (l.count c) l=f::r∧∀ cur,cutQ c cur l=(cur++f)::r
 | []=>⟨[],[],rfl,fun cur=>by simp [cutQ]⟩
 | x::l=>by
  obtain ⟨f,r,h1,h2⟩:=splitK_cut c l;by_cases hx:x=c
  ·subst hx;refine ⟨[],Lib.splitK [x] 0 (l.count x) l,?_,fun cur=>?_⟩
   ·have hi:Lib.index (x::l) [x]=0:=(by rw [Lib.index_one];simp [Lib.indexByte]);rw [List.count_cons_self,Lib.splitK,hi];simp
   ·rw [cutQ,if_pos rfl,h2 [],h1,List.nil_append,List.append_nil]
  ·have hc:(x::l).count c=l.count c:=(by rw [List.count_cons];simp [hx]);rw [hc];refine ⟨x::f,r,?_,fun cur=>by rw [cutQ,if_neg hx,h2,List.append_assoc];rfl⟩;cases hk:l.count c with
   | zero =>
    rw [hk,Lib.splitK] at h1;injection h1 with h1 h3;rw [Lib.splitK,h1,h3]
   | succ k =>
    rw [hk] at h1;have hm:c∈l:=List.count_pos_iff.1 (by omega);have hb:(x == c)=false:=beq_eq_false_iff_ne.2 hx;have hn:Lib.indexByte l c≠-1:=fun e=>by
     obtain ⟨i,hi,he⟩:=List.mem_iff_getElem.1 hm;exact Lib.indexByte_none e i (by rw [List.getElem?_eq_getElem hi,he])
    have hge:=Lib.indexByte_ge l c;obtain ⟨i,hi⟩ : ∃ i:Nat,Lib.indexByte l c=i:=⟨(Lib.indexByte l c).toNat,by omega⟩;have hj:Lib.index (x::l) [c]=((i+1:Nat):Int):=by
     rw [Lib.index_one];simp [Lib.indexByte,hx,hi]
     try omega
    have hi2:Lib.index l [c]=(i:Int):=(by rw [Lib.index_one,hi]);rw [Lib.splitK,hi2] at h1;rw [Lib.splitK,hj];have e1 : ¬ ((i:Int) == -1)=true:=(fun e=>by have:=beq_iff_eq.1 e;omega);have e2 : ¬ (((i+1:Nat):Int) == -1)=true:=(fun e=>by have:=beq_iff_eq.1 e;omega);rw [if_neg e1] at h1;rw [if_neg e2];simp only [Int.toNat_natCast,Nat.add_zero,List.length_cons,List.length_nil] at h1 ⊢;injection h1 with h1 h3;rw [← h1,← h3];simp only [List.take_succ_cons,List.drop_succ_cons]
theorem splitB_cut (c:UInt8) (s:ByteArray):(Lib.splitB ⟨#[c]⟩ 0 (Lib.countB s ⟨#[c]⟩) s).map (·.data.toList)=cutB c s.data.toList:=by
 have e:Lib.countB s ⟨#[c]⟩=s.data.toList.count c:=Lib.count_one c s.data.toList;rw [Lib.splitB_data,e];obtain ⟨f,r,h1,h2⟩:=splitK_cut c s.data.toList;have h3:=h2 [];unfold cutB;rw [h3,List.nil_append];exact h1
theorem splitB_vals (c:UInt8) (s:ByteArray):(Lib.splitB ⟨#[c]⟩ 0 (Lib.countB s ⟨#[c]⟩) s).map Value.string=(cutB c s.data.toList).map strP:=by
 rw [← splitB_cut,List.map_map];refine List.map_congr_left fun x _=>?_;simp [strP,mkStr]
set_option maxHeartbeats 400000 in
theorem implSplit (c:UInt8) (s:ByteArray) (w:World) (hs:s.size≤4096) :
  Calls Tryz.prog 47 #[.string s,.string ⟨#[c]⟩] w fun e w'=>e = .returned (.slice (some ⟨w.heap.size,0,none⟩) (cutB c s.data.toList).length (cutB c s.data.toList).length)∧w'.ownsRow w.heap.size 9 1 (.slice (some ⟨w.heap.size,0,none⟩) (cutB c s.data.toList).length (cutB c s.data.toList).length) (cutB c s.data.toList).length ((cutB c s.data.toList).map strP)∧Below w.heap.size w w':=by
 have h1:1≤(⟨#[c]⟩:ByteArray).size:=Nat.le_refl 1;have hl:(cutB c s.data.toList).length=Lib.countB s ⟨#[c]⟩+1:=by
  rw [← splitB_cut,List.length_map,Lib.splitB_all ⟨#[c]⟩ h1 0 _ s rfl]
 have hle:=Lib.countB_le ⟨#[c]⟩ h1 s.size s (Nat.le_refl _);have hg:=Any.strings_genSplit_core Tryz.lays221 (by kernel_rfl) s ⟨#[c]⟩ 0 (-1) (Lib.countB s ⟨#[c]⟩+1) w (by omega) h1 (by omega)
  (fun x cc hx=>(Any.strings_Index_one { Tryz.lays221 with } x c _).mono fun e w' h=>⟨by
   rw [h.1]
   show _=Ending.returned (Value.int .i64 (Lib.index x.data.toList [c]))
   rw [Lib.index_one],h.2⟩)
  ((Any.strings_Count_one { Tryz.lays221 with } s c w).mono fun e w' h=>⟨by
   rw [h.1]
   show _=Ending.returned (Value.int .i64 ((Lib.count s.data.toList [c]:Nat):Int))
   rw [Lib.count_one];rfl,h.2⟩) (by decide) (by decide) (by rw [if_pos (by decide)];omega)
 rw [Nat.add_sub_cancel] at hg;have hlen:=Lib.splitB_all ⟨#[c]⟩ h1 0 _ s rfl;have hcells:Lib.cellsOf (Lib.splitB ⟨#[c]⟩ 0 (Lib.countB s ⟨#[c]⟩) s) (Lib.countB s ⟨#[c]⟩+1)=((cutB c s.data.toList).map strP).toArray:=by
  rw [← hlen,Lib.cellsOf_full,splitB_vals]
 rw [hlen,hcells,← hl] at hg;have hL:(cutB c s.data.toList).length≤4097:=(by omega);have HG:=uH hg;clear hg hcells hlen hle hl;generalize cutB c s.data.toList=L at *;go_enter Tryz.func47,Tryz.ntmps47
 go_wp2_with (go_at_call 108;refine HG.out.mono ?_;rintro e w' ⟨rfl,hw⟩;rw [hw])
 go_returns;refine ⟨rfl,?_,(Below.refl _ _).alloc (Nat.le_refl _) _⟩;have hmx:L.length≤maxLen:=(by unfold maxLen;omega);refine ⟨by simp,.inr ⟨w.heap.size,L.length,(L.map strP).toArray,rfl,Nat.le_refl _,?_,Nat.le_refl _,hmx,by simp,by rw [Nat.mul_one];exact List.take_of_length_le (by simp)⟩⟩;exact Blk.new w 9 (L.map strP).toArray
end Go.Proofs.YtbkhnljaajajiaaGreatDoor
