/-
  Contracts and plain laws that the proofs lean on. Conditions: as each says.
-/
import Derived.Test.YtbkhnljaajajiaaGreatDoorPX12
import Derived.Test.YtbkhnljaajajiaaGreatDoorPX17
import Derived.Test.YtbkhnljaajajiaaGreatDoorPX18
import Derived.Test.YtbkhnljaajajiaaGreatDoorPX19
set_option maxRecDepth 100000
set_option linter.unusedSimpArgs false
set_option linter.unusedVariables false
set_option linter.unnecessarySimpa false
namespace Go.Proofs.YtbkhnljaajajiaaGreatDoor
open Go.ChangeShapes Go.WideShapes Go.ChangeAt Go.RowKit
def saidO (o:Option Wd):Wd:=match o with
 | none=>[110,111,10]
 | some l=>l++[10]
def signO (xs:List Sg) (l t:Wd):Option (List Sg) :=
 match fromS t with
 | some [s]=>if sysB (xs++[⟨l,s⟩])=true then some (xs++[⟨l,s⟩]) else none
 | _=>none
def SgAns (w':World) (B:Nat) (o:Option (List Sg)) (e:Ending):Prop :=
 (o=none∧∃ A c,e = .returned (.tuple #[.slice A 0 c,.bool false])) ∨
 ∃ A c xs,o=some xs∧e = .returned (.tuple #[.slice A xs.length c,.bool true])∧SgOwn w' B (.slice A xs.length c) xs∧∀ x∈xs,x.st.good
end Go.Proofs.YtbkhnljaajajiaaGreatDoor
namespace Go.Proofs.YtbkhnljaajajiaaGreatDoor
open Go.ChangeShapes Go.WideShapes Go.ChangeAt Go.RowKit Go.Shelf
def thinned (p:Pad→Bool) (css:List (List Pad)):List (List Pad):=(css.map (·.filter p)).filter full?
noncomputable def thinO (p:Pad→Bool) (css:List (List Pad)):Option (List (List Pad)):=if cabB css=true then some (thinned p css) else none
theorem thinO_yes {p:Pad→Bool} {css:List (List Pad)} (h:cabB css=true):thinO p css=some (thinned p css):=by unfold thinO;rw [if_pos h]
theorem thinO_no {p:Pad→Bool} {css:List (List Pad)} (h:cabB css=false):thinO p css=none:=by unfold thinO;rw [h];rfl
theorem thin_keep {p:Pad→Bool} {ls ls':List Leaf} {css:List (List Pad)} (hM:ls.map (·.ps)=css) (h:ls'.map (·.ps)=(ls.map (·.ps.filter p)).filter (fun ps=>!(ps.length == 0))):ls'.map (·.ps)=thinned p css:=by
 rw [h,← hM];unfold thinned;rw [List.map_map];rfl
theorem thin_lens {p:Pad→Bool} {css:List (List Pad)} {ls':List Leaf} (hc:cabOK css) (h:ls'.map (·.ps)=thinned p css):ls'.length≤6∧∀ l∈ls',1≤l.ps.length∧l.ps.length≤1048576:=by
 constructor
 ·have h1:=congrArg List.length h;rw [List.length_map] at h1;have h2:=List.length_filter_le full? (css.map (·.filter p));rw [List.length_map] at h2;have:=hc.1;unfold thinned at h1;omega
 ·intro l hl;have h1:l.ps∈thinned p css:=(by rw [← h];exact List.mem_map_of_mem hl);obtain ⟨h2,h3⟩:=List.mem_filter.1 h1;obtain ⟨c,hcm,e⟩:=List.mem_map.1 h2;have h4:=(hc.2.1 c hcm).2;have h5:l.ps.length≤c.length:=(by rw [← e];exact List.length_filter_le _ _);exact ⟨full_iff.1 h3,by omega⟩
def fromDay (d:Int) (x:Pad):Bool:=decide (d≤x.day)
theorem clearPred (a:Int) (B b4:Nat) (w:World) (h4:Blk w b4 3 #[.int .i64 a]) (l4:b4 < B) :
  PredB 212 #[.pointer (some ⟨b4,0,none⟩)] (fromDay a) B w:=by
 intro W x hb _;have h4W:Blk W b4 3 #[.int .i64 a]:=(hb.block b4 l4).trans h4;have c4:(W.alloc (.cells #[.int .i64 x.day,.string x.case] 53)).cell? ⟨b4,0,none⟩=some (.int .i64 a):=Lib.cell?_alloc_some _ (h4W.cell 0);clear hb h4W h4;unfold padV
 show Calls Tryz.prog 212 #[.agg #[.int .i64 x.day,.string x.case],.pointer (some ⟨b4,0,none⟩)] W _
 go_enter Tryz.func212,Tryz.ntmps212
 go_wp2;go_ret;exact ⟨ret_bool rfl,(Below.refl _ _).alloc (Nat.le_refl _) _⟩
theorem implCabinetClear (A:Option Addr) (n c:Nat) (ds:List Drawer) (x:Int) (w:World) (hsz:cabSz ds≤1048576) (h:DrawersIn w w.heap.size A n c ds) :
  Calls Tryz.prog 168 #[.slice A n c,.int .i64 x] w fun e w'=>FileAns w' w.heap.size (thinO (fromDay x) (ds.map (·.ps))) e∧Below w.heap.size w w':=by
 have hal:Below w.heap.size w (w.alloc (.cells #[.int .i64 x] 3)):=(Below.refl _ _).alloc (Nat.le_refl _) _;have HT:=uH (treeOf A n c ds _ (h.keep hal));have hln:ds.length≤1048576:=(by have:=cabSz_len ds;omega);have HLn:=uH hln;clear h hln;have H4:Hid (Blk (w.alloc (.cells #[.int .i64 x] 3)) w.heap.size 3 #[.int .i64 x]):=uH (Blk.new _ _ _);have eg : ∀ args w,(callFunc 212 args).run Tryz.prog w = .ok (.enter 212 args) w:=enters_of Tryz.func212 (by kernel_rfl) rfl;have EG:=uH eg;clear eg;go_enter Tryz.func168,Tryz.ntmps168
 (go_wp2_with fail);refine HT.out.mono ?_;rintro e w1 ⟨hT,hb1⟩;have b1:=below_next hal hb1;rcases hT with ⟨hn,rfl⟩ | ⟨hy,t,v,ls,rfl,hT,hM⟩
 ·have HN:Hid (thinO (fromDay x) (ds.map (·.ps))=none):=uH (thinO_no hn);clear hn;go_wp2;go_returns;exact ⟨.no HN.out rfl (CabOwn.nil _ _),b1⟩
 ·have HN:=uH (thinO_yes (p:=fromDay x) hy);have HC:=uH (cabB_iff.1 hy);have hlp:(leafPads ls).length≤1048576:=(by rw [leaf_all hM];exact flat_len_le hsz);have hll:ls.length≤1048576:=by
   have:=congrArg List.length hM;rw [List.length_map,List.length_map] at this;have:=HLn.out;omega
  have hB:(w.alloc (.cells #[.int .i64 x] 3)).heap.size≤w1.heap.size:=hb1.size;have hPr:=clearPred x (w.alloc (.cells #[.int .i64 x] 3)).heap.size w.heap.size w1 (H4.out.below hb1) (by simp);have HK:=uH (keep 212 _ (fromDay x) EG.out _ t v ls w1 hB hll hlp hPr hT);have HM:=uH hM;clear hPr hT hM hy hlp hll;(go_wp2_with fail);refine HK.out.mono ?_;rintro e w2 ⟨rfl,hb2,v',ls',hT2,hM2⟩;have b2:Below w.heap.size w w2:=b1.trans (hb2.mono (by simp));have HMk:=uH (thin_keep HM.out hM2);obtain ⟨hl2,hl3⟩:=thin_lens HC.out HMk.out;have HP:=uH (treeCab t v' ls' _ w2 (by omega) hl3 hT2);have hz2:=b2.size;clear hT2 hM2 hl2 hl3 hb2;(go_wp2_with fail);refine HP.out.mono ?_;rintro e w3 ⟨⟨A3,c3,d3,rfl,hO3,hM3⟩,hb3⟩;have b3:=below_next b2 hb3;have HO:=uH (hO3.mono hz2);have HM3:Hid (thinO (fromDay x) (ds.map (·.ps))=some (d3.map (·.ps))):=uH (by rw [HN.out,hM3,HMk.out]);clear hO3 hM3;go_wp2;go_returns;exact ⟨.yes HM3.out rfl HO.out,b3⟩
end Go.Proofs.YtbkhnljaajajiaaGreatDoor
namespace Go.Proofs.YtbkhnljaajajiaaGreatDoor
open Go.ChangeShapes Go.WideShapes Go.ChangeAt Go.RowKit
theorem thinned_flat (p:Pad→Bool) (css:List (List Pad)):(thinned p css).flatten=css.flatten.filter p:=flat_filter p css
theorem thinned_ok {p:Pad→Bool} {css:List (List Pad)} (hc:cabOK css):cabOK (thinned p css):=by
 refine ⟨?_,fun l hl=>?_,?_⟩
 ·unfold thinned;have:=List.length_filter_le full? (css.map (·.filter p));rw [List.length_map] at this;have:=hc.1;omega
 ·obtain ⟨h2,h3⟩:=List.mem_filter.1 hl;obtain ⟨c,hcm,e⟩:=List.mem_map.1 h2;have:=(hc.2.1 c hcm).2;have h5:l.length≤c.length:=(by rw [← e];exact List.length_filter_le _ _);exact ⟨full_iff.1 h3,by omega⟩
 ·rw [thinned_flat];have h1:=hc.2.2;rw [sorted_iff] at h1 ⊢;exact ⟨fun q hq=>h1.1 q (List.mem_filter.1 hq).1,h1.2.sublist List.filter_sublist⟩

theorem StrsAt.only {w w':World} {b g:Nat} {ss:List ByteArray} (h:StrsAt w b ss) (hg:w.grownBy w' (some g)) (hne:b≠g):StrsAt w' b ss:=fun k s hk=>ocell hg (h k s hk) hne
theorem StrsAt.keep {w w':World} {b:Nat} {ss:List ByteArray} (h:StrsAt w b ss) (hb:Below w.heap.size w w'):StrsAt w' b ss:=fun k s hk=>kcell hb (h k s hk)
def SmSg (x:Sg):Prop:=x.l.length≤40∧SmallS x.st
def SyOwn (w:World) (B:Nat) (v:Value) (xs:List Sg):Prop:=SgOwn w B v xs∧∀ x∈xs,SmSg x
theorem SyOwn.only {w w':World} {B g:Nat} {v:Value} {xs:List Sg} (h:SyOwn w B v xs) (hg:w.grownBy w' (some g)) (hB:g < B):SyOwn w' B v xs:=⟨ownG_only h.1 hg hB,h.2⟩
theorem SyOwn.keep {w w':World} {B:Nat} {v:Value} {xs:List Sg} (h:SyOwn w B v xs) (hb:Below w.heap.size w w'):SyOwn w' B v xs:=⟨ownG_keep h.1 hb,h.2⟩
theorem SyOwn.low {w:World} {B B':Nat} {v:Value} {xs:List Sg} (h:SyOwn w B v xs) (hB:B'≤B):SyOwn w B' v xs:=⟨ownG_mono h.1 hB,h.2⟩
theorem SyOwn.reads {w:World} {B n c:Nat} {A:Option Addr} {xs:List Sg} (h:SyOwn w B (.slice A n c) xs) (hn:xs.length=n):SgsIn w w.heap.size A n c xs :=
 SgOwn.reads h.1 hn (fun x hx=>(h.2 x hx).2.good)
theorem SyOwn.cells {w:World} {B gb c:Nat} {x:Sg} {r:List Sg} (h:SyOwn w B (.slice (some ⟨gb,0,none⟩) (r.length+1) c) (x::r)) :
  (w.cell? ⟨gb,0,none⟩=some (.string (mkStr x.l))∧w.frozen? ⟨gb,0,none⟩=false)∧(w.cell? ⟨gb,1,none⟩=some (.int .i64 x.st.dir)∧w.frozen? ⟨gb,1,none⟩=false)∧(w.cell? ⟨gb,2,none⟩=some (.int .i64 x.st.size)∧w.frozen? ⟨gb,2,none⟩=false) :=
 ⟨own_cell h.1 rfl rfl,own_cell h.1 rfl rfl,own_cell h.1 rfl rfl⟩
def DcOwn (w:World) (B:Nat) (v:Value) (ws:List (List UInt8)):Prop:=WdOwn w B v ws∧∀ l∈ws,wordB l=true
theorem DcOwn.only {w w':World} {B g:Nat} {v:Value} {ws:List (List UInt8)} (h:DcOwn w B v ws) (hg:w.grownBy w' (some g)) (hB:g < B):DcOwn w' B v ws:=⟨ownG_only h.1 hg hB,h.2⟩
theorem DcOwn.keep {w w':World} {B:Nat} {v:Value} {ws:List (List UInt8)} (h:DcOwn w B v ws) (hb:Below w.heap.size w w'):DcOwn w' B v ws:=⟨ownG_keep h.1 hb,h.2⟩
theorem DcOwn.low {w:World} {B B':Nat} {v:Value} {ws:List (List UInt8)} (h:DcOwn w B v ws) (hB:B'≤B):DcOwn w B' v ws:=⟨ownG_mono h.1 hB,h.2⟩
theorem DcOwn.reads {w:World} {B n c:Nat} {A:Option Addr} {ws:List (List UInt8)} (h:DcOwn w B (.slice A n c) ws) (hn:ws.length=n):WdsIn w w.heap.size A n c ws:=WdOwn.reads h.1 hn
theorem SmOwn.alloc {w:World} {B N:Nat} {v:Value} (h:SmOwn w B N v) (o:Obj):SmOwn (w.alloc o) B N v:=by
 obtain ⟨ss,h1,h2,h3⟩:=h;exact ⟨ss,h1,ownG_keep h2 ((Below.refl _ _).alloc (Nat.le_refl _) _),h3⟩
theorem SmOwn.lt {w:World} {B N gb:Nat} {v:Value} (h:SmOwn w B N v) (hb:v.ownBlock=some gb):B≤gb∧gb < w.heap.size:=by
 obtain ⟨ss,h1,h2,h3⟩:=h;exact ⟨ownG_base h2 hb,ownG_lt h2 hb⟩
def LnOwn (w:World) (B:Nat) (v:Value) (xs:List Wr):Prop:=WrOwn w B v xs∧∀ x∈xs,∀ a,x.A=some a→B≤a.block
theorem LnOwn.only {w w':World} {B g:Nat} {v:Value} {xs:List Wr} (h:LnOwn w B v xs) (hg:w.grownBy w' (some g)) (hB:g < B):LnOwn w' B v xs :=
 ⟨⟨ownG_only h.1.1 hg hB,fun x hx=>⟨(h.1.2 x hx).1.grown hg (fun a ha e=>by injection e with e;have:=h.2 x hx a ha;omega),fun a ha=>⟨((h.1.2 x hx).2 a ha).1,Nat.lt_of_lt_of_le ((h.1.2 x hx).2 a ha).2 hg.size⟩⟩⟩,h.2⟩
theorem LnOwn.keep {w w':World} {B:Nat} {v:Value} {xs:List Wr} (h:LnOwn w B v xs) (hb:Below w.heap.size w w'):LnOwn w' B v xs:=⟨h.1.keep hb,h.2⟩
theorem LnOwn.push {w w':World} {B:Nat} {v v':Value} {xs:List Wr} {x:Wr} (h:LnOwn w B v xs) (hx:WrIn w w.heap.size x) (hn : ∀ a,x.A=some a→v.ownBlock≠some a.block∧a.block < w.heap.size∧B≤a.block)
  (ho:w'.ownsRow B 140 2 v' (xs.length+1) (xs.flatMap wrC++wrC x)) (hg:w.grownBy w' v.ownBlock) (hv:v'.ownBlock=v.ownBlock∨v'.ownBlock=some w.heap.size):LnOwn w' B v' (xs++[x]) :=
 ⟨h.1.push hx (fun a ha=>⟨(hn a ha).1,(hn a ha).2.1⟩) ho hg hv,fun y hy=>by
  rcases List.mem_append.1 hy with hy | hy
  ·exact h.2 y hy
  ·rw [List.mem_singleton] at hy;subst hy;exact fun a ha=>(hn a ha).2.2⟩
theorem LnOwn.made (w:World):LnOwn (w.alloc (.cells #[] 140)) w.heap.size (.slice (some ⟨w.heap.size,0,none⟩) 0 0) [] :=
 ⟨⟨World.ownsRow_made (base:=w.heap.size) (e:=140) (size:=2) w #[] 0 (Nat.le_refl _) (by unfold maxLen;omega) rfl,by simp⟩,by simp⟩
def WrAny (w':World) (B:Nat) (e:Ending):Prop:=∃ (x:Wr) (ok:Bool),e = .returned (.tuple #[.agg #[.slice x.A x.n x.c,.int .i64 x.pos],.bool ok])∧WrIn w' w'.heap.size x∧∀ a,x.A=some a→B≤a.block∧a.block < w'.heap.size
theorem WrAns.any {w':World} {B:Nat} {o:Option (List Stroke × Int)} {e:Ending} (h:WrAns w' B o e) (hp : ∀ ss p,o=some (ss,p)→-1≤p∧p≤3):WrAny w' B e:=by
 rcases h with ⟨_,rfl⟩ | ⟨A,c,ss,p,ho,rfl,hS,hg⟩
 ·exact ⟨⟨none,0,0,[],0⟩,false,rfl,⟨⟨rfl,Nat.le_refl _,Nat.zero_le _,⟨rfl,fun h=>absurd h (by simp)⟩,by simp⟩,by decide⟩,nofun⟩
 ·refine ⟨⟨A,ss.length,c,ss,p⟩,true,rfl,⟨hS.reads rfl hg,show (Lit.int .i64 p).wf=true from WalkArith.wf_i64 (by have:=hp ss p ho;omega)⟩,?_⟩;rintro a rfl;exact ⟨ownG_base hS (k:=a.block) rfl,ownG_lt hS (b:=a.block) rfl⟩
theorem LnOwn.reads {w:World} {B n c:Nat} {A:Option Addr} {xs:List Wr} (h:LnOwn w B (.slice A n c) xs) (hn:xs.length=n):WrsIn w w.heap.size A n c xs:=WrOwn.reads h.1 hn
end Go.Proofs.YtbkhnljaajajiaaGreatDoor
namespace Go.Proofs.YtbkhnljaajajiaaGreatDoor
open Go.ChangeShapes Go.WideShapes Go.ChangeAt Go.RowKit Go.Shelf
def NoAny (p:Mr→Bool) (xs:List Mr) (k:Nat):Prop:=∀ i,i < k→p (mrAt xs i)=false
theorem NoAny.succ {p:Mr→Bool} {xs:List Mr} {k:Nat} (h:NoAny p xs k) (h2:p (mrAt xs k)=false):NoAny p xs (k+1):=fun i hi=>by
 rcases Nat.lt_or_ge i k with h3 | h3
 ·exact h i h3
 ·have e:i=k:=(by omega);rw [e];exact h2
end Go.Proofs.YtbkhnljaajajiaaGreatDoor
