/-
  Contracts and plain laws that the proofs lean on. Conditions: as each says.
-/
import Derived.Test.YtbkhnljaajajiaaGreatDoorPX01
import Derived.Laws.MakeOwn
set_option maxRecDepth 100000
set_option linter.unusedSimpArgs false
set_option linter.unusedVariables false
set_option linter.unnecessarySimpa false
namespace Go.Proofs.YtbkhnljaajajiaaGreatDoor
open Go.ChangeShapes Go.WideShapes Go.ChangeAt Go.RowKit
def Filled (arr:Array Value) (xs:List Value) (m:Nat):Prop:=arr.size=xs.length∧∀ j,j < m→arr[j]? = xs[j]?
theorem Filled.zero {arr:Array Value} {xs:List Value} (h:arr.size=xs.length):Filled arr xs 0:=⟨h,fun j hj=>absurd hj (by omega)⟩
theorem Filled.step {arr:Array Value} {xs:List Value} {m:Nat} {u:Value} (h:Filled arr xs m) (hu:xs[m]? = some u):Filled (arr.setIfInBounds m u) xs (m+1):=by
 have hm:m < arr.size:=(by rw [h.1];exact (List.getElem?_eq_some_iff.1 hu).1);refine ⟨by simp [h.1],fun j hj=>?_⟩;by_cases e:j=m
 ·subst e;rw [hu];simp [hm]
 ·rw [Array.getElem?_setIfInBounds,if_neg (by omega)];exact h.2 j (by omega)
theorem run_make_rowN {P:Program} (t e:TypeId) (i:TypeInfo) (z:Value) (ht:P.underlying t=some (.slice e)) (hi:P.info? e=some i) (hz:i.zero=some z)
  (kl kc:IntKind) (n c:Nat) (hnc:n≤c) (hbytes:i.bytes * c≤281474976710656) (h63:c≤9223372036854775807) (w:World) :
  (Instr.makeSlice t (.int kl (n:Int)) (.int kc (c:Int))).run P w = .ok (.slice (some ⟨w.heap.size,0,none⟩) n c) (w.alloc (.cells (madeCells z.cells (c * i.size)) e)):=by
 have hb:(i.bytes:Int) * (c:Int)≤281474976710656:=by
  have h:((i.bytes * c:Nat):Int)≤281474976710656:=by omega
  rwa [Int.natCast_mul] at h
 have hr:=run_make (P:=P) w t e i z ht hi hz kl kc n c (by omega) (by omega) hb (by omega);simp only [Int.toNat_natCast] at hr;exact hr
theorem madeCells_size (z:Array Value) (n:Nat):(madeCells z n).size=n:=by simp [madeCells]
def padAt (ps:List Pad) (k:Nat):Pad:=ps.getD k ⟨0,ByteArray.empty⟩
theorem padAt_some {ps:List Pad} {k:Nat} (h:k < ps.length):ps[k]? = some (padAt ps k):=by
 unfold padAt;simp [List.getD,List.getElem?_eq_getElem h]
theorem padAt_mem {ps:List Pad} {k:Nat} (h:k < ps.length):padAt ps k∈ps:=List.mem_of_getElem? (padAt_some h)
theorem PadsIn.at_ {w:World} {B n c k:Nat} {A:Option Addr} {ps:List Pad} (h:PadsIn w B A n c ps) (hk:k < n) :
  ∃ b off,A=some ⟨b,off,none⟩∧b < B∧w.cell? ⟨b,off+k * 2,none⟩=some (.int .i64 (padAt ps k).day)∧w.cell? ⟨b,off+k * 2+1,none⟩=some (.string (padAt ps k).case)∧(padAt ps k).good:=by
 obtain ⟨h1,h2,h3,h4,h5⟩:=h;obtain ⟨b,off,e,hb,hc⟩:=h4.2 (by omega);have hk':=padAt_some (ps:=ps) (k:=k) (by omega);refine ⟨b,off,e,hb,?_,?_,h5 _ (padAt_mem (by omega))⟩
 ·have:=hc _ _ (flat_at padC_len ps k _ 0 _ hk' rfl);simpa using this
 ·have:=hc _ _ (flat_at padC_len ps k _ 1 _ hk' rfl);rw [Nat.add_assoc];exact this
theorem PadsIn.below {w w':World} {B n c:Nat} {A:Option Addr} {ps:List Pad} (h:PadsIn w B A n c ps) (hb:Below B w w'):PadsIn w' B A n c ps :=
 ⟨h.1,h.2.1,h.2.2.1,h.2.2.2.1.below hb,h.2.2.2.2⟩
theorem PadsIn.more {w:World} {B B' n c:Nat} {A:Option Addr} {ps:List Pad} (h:PadsIn w B A n c ps) (hb:B≤B'):PadsIn w B' A n c ps :=
 ⟨h.1,h.2.1,h.2.2.1,h.2.2.2.1.more hb,h.2.2.2.2⟩
def padsSz:List Pad→Nat
 | []=>0
 | p::r=>p.case.size+1+padsSz r
theorem take_step {α:Type} {l:List α} {k:Nat} {x:α} (h:l[k]? = some x):l.take (k+1)=l.take k++[x]:=by
 rw [List.take_add_one,h];rfl
theorem padsSz_len : ∀ ps:List Pad,ps.length≤padsSz ps
 | []=>by simp [padsSz]
 | p::r=>by have:=padsSz_len r;simp only [padsSz,List.length_cons];omega
def drAt (ds:List Drawer) (k:Nat):Drawer:=ds.getD k ⟨none,0,0,[]⟩
theorem drAt_some {ds:List Drawer} {k:Nat} (h:k < ds.length):ds[k]? = some (drAt ds k):=by
 unfold drAt;simp [List.getD,List.getElem?_eq_getElem h]
theorem drAt_mem {ds:List Drawer} {k:Nat} (h:k < ds.length):drAt ds k∈ds:=List.mem_of_getElem? (drAt_some h)
theorem DrawersIn.below {w w':World} {B n c:Nat} {A:Option Addr} {ds:List Drawer} (h:DrawersIn w B A n c ds) (hb:Below B w w'):DrawersIn w' B A n c ds :=
 ⟨h.1,h.2.1,h.2.2.1,h.2.2.2.1.below hb,fun d hd=>(h.2.2.2.2 d hd).below hb⟩
theorem DrawersIn.more {w:World} {B B' n c:Nat} {A:Option Addr} {ds:List Drawer} (h:DrawersIn w B A n c ds) (hb:B≤B'):DrawersIn w B' A n c ds :=
 ⟨h.1,h.2.1,h.2.2.1,h.2.2.2.1.more hb,fun d hd=>(h.2.2.2.2 d hd).more hb⟩
theorem DrawersIn.at_ {w:World} {B n c k:Nat} {A:Option Addr} {ds:List Drawer} (h:DrawersIn w B A n c ds) (hk:k < n) :
  ∃ b off,A=some ⟨b,off,none⟩∧b < B∧w.cell? ⟨b,off+k,none⟩=some (.slice (drAt ds k).A (drAt ds k).n (drAt ds k).c)∧PadsIn w B (drAt ds k).A (drAt ds k).n (drAt ds k).c (drAt ds k).ps:=by
 obtain ⟨h1,h2,h3,h4,h5⟩:=h;obtain ⟨b,off,e,hb,hc⟩:=h4.2 (by omega);have hk':=drAt_some (ds:=ds) (k:=k) (by omega);refine ⟨b,off,e,hb,?_,h5 _ (drAt_mem (by omega))⟩;have:=hc _ _ (flat_at drawerC_len ds k _ 0 _ hk' rfl);simpa using this
def cabSz:List Drawer→Nat
 | []=>0
 | d::r=>padsSz d.ps+1+cabSz r
theorem cabSz_append : ∀ a b:List Drawer,cabSz (a++b)=cabSz a+cabSz b
 | [],b=>by simp [cabSz]
 | p::a,b=>by simp only [List.cons_append,cabSz,cabSz_append a b];omega
theorem cabSz_len : ∀ ds:List Drawer,ds.length≤cabSz ds
 | []=>by simp [cabSz]
 | p::r=>by have:=cabSz_len r;simp only [cabSz,List.length_cons];omega
theorem infoPad:(Tryz.prog.info? 53).map (fun i=>(i.zero,i.size,i.bytes))=some (some (.agg #[.int .i64 0,.string ByteArray.empty]),2,24):=by kernel_rfl
def DrOwn (w:World) (B:Nat) (d:Drawer):Prop:=∃ g,B≤g∧d.A=some ⟨g,0,none⟩∧d.c=d.n∧d.ps.length=d.n∧Blk w g 53 (d.ps.flatMap padC).toArray∧∀ p∈d.ps,p.good
def drBlock (d:Drawer):Nat:=match d.A with | some a=>a.block | none=>0
theorem DrOwn.below {w w':World} {B:Nat} {d:Drawer} (h:DrOwn w B d) (hb:Below w.heap.size w w'):DrOwn w' B d:=by
 obtain ⟨g,h1,h2,h3,h4,h5,h6⟩:=h;exact ⟨g,h1,h2,h3,h4,h5.below hb,h6⟩
theorem DrOwn.more {w:World} {B B':Nat} {d:Drawer} (h:DrOwn w B d) (hB:B'≤B):DrOwn w B' d:=by
 obtain ⟨g,h1,h2⟩:=h;exact ⟨g,by omega,h2⟩
theorem infoSl:(Tryz.prog.info? 46).map (fun i=>(i.zero,i.size,i.bytes))=some (some (.slice none 0 0),1,24):=by kernel_rfl
def CopyTo (wr:World) (base n k:Nat) (arr:Array Value) (ds':List Drawer) (pss:List (List Pad)):Prop :=
 arr.size=n∧ds'.length=k∧(∀ (j:Nat) (d:Drawer),ds'[j]? = some d→arr[j]? = some (Value.slice d.A d.n d.c))∧ds'.map (·.ps)=pss∧(∀ d∈ds',DrOwn wr base d)∧(ds'.map drBlock).Nodup
theorem drBlock_of {w:World} {B:Nat} {d:Drawer} (h:DrOwn w B d):B≤drBlock d∧drBlock d < w.heap.size∧d.A=some ⟨drBlock d,0,none⟩∧Blk w (drBlock d) 53 (d.ps.flatMap padC).toArray:=by
 obtain ⟨g,h1,h2,h3,h4,h5,h6⟩:=h;have e:drBlock d=g:=(by unfold drBlock;rw [h2]);rw [e];exact ⟨h1,h5.lt,h2,h5⟩
theorem DrOwn.far {w:World} {B:Nat} {d:Drawer} (h:DrOwn w B d) {p:Addr} (hp:p.block < B) (u:Value):DrOwn (w.setCell p u) B d:=by
 obtain ⟨g,h1,h2,h3,h4,h5,h6⟩:=h;exact ⟨g,h1,h2,h3,h4,h5.far (by omega) u,h6⟩
theorem CopyTo.step {wr w1:World} {base n k o:Nat} {arr:Array Value} {ds':List Drawer} {pss:List (List Pad)} {nd:Drawer} (h:CopyTo wr base n k arr ds' pss) (hk:k < n) (hb:Below wr.heap.size wr w1) (hg:drBlock nd=wr.heap.size)
  (hd:DrOwn w1 base nd) (ho:o < base):CopyTo (w1.setCell ⟨o,k,none⟩ (.slice nd.A nd.n nd.c)) base n (k+1) (arr.setIfInBounds k (.slice nd.A nd.n nd.c)) (ds'++[nd]) (pss++[nd.ps]):=by
 obtain ⟨f1,f2,f3,f4,f5,f6⟩:=h;refine ⟨by simp [f1],by simp [f2],fun j d hj=>?_,by simp [f4],fun d hd'=>?_,?_⟩
 ·by_cases hjk:j=k
  ·subst hjk;rw [List.getElem?_append_right (by omega)] at hj;simp [f2] at hj;subst hj;simp [f1,hk]
  ·have hjl:j < ds'.length:=by
    have:=(List.getElem?_eq_some_iff.1 hj).1;simp at this;omega
   rw [List.getElem?_append_left hjl] at hj;rw [Array.getElem?_setIfInBounds,if_neg (by omega)];exact f3 j d hj
 ·rcases List.mem_append.1 hd' with h | h
  ·exact ((f5 d h).below hb).far ho _
  ·simp at h;subst h;exact hd.far ho _
 ·rw [List.map_append,List.nodup_append];refine ⟨f6,by simp,fun a ha b hb'=>?_⟩;simp at hb';subst hb';obtain ⟨d,hd1,rfl⟩:=List.mem_map.1 ha;have:=(drBlock_of (f5 d hd1)).2.1;omega
theorem DrOwn.pads {w:World} {B:Nat} {d:Drawer} (h:DrOwn w B d) (hn:d.n≤maxLen):PadsIn w w.heap.size d.A d.n d.c d.ps:=by
 obtain ⟨g,h1,h2,h3,h4,h5,h6⟩:=h;refine ⟨h4,by omega,by omega,⟨by rw [flat_len padC_len,h4],fun _=>⟨g,0,h2,h5.lt,fun j u hu=>?_⟩⟩,h6⟩;rw [Nat.zero_add,h5.cell];simpa using hu
def allPads (ds:List Drawer):List Pad:=ds.flatMap (·.ps)
theorem allPads_step {ds:List Drawer} {k:Nat} (h:k < ds.length):allPads (ds.take (k+1))=allPads (ds.take k)++(drAt ds k).ps:=by
 rw [take_step (drAt_some h)];simp [allPads]
theorem allPads_len : ∀ ds:List Drawer,(allPads ds).length≤cabSz ds
 | []=>by simp [allPads]
 | d::r=>by
  have h1:=allPads_len r;have h2:=padsSz_len d.ps;simp only [allPads,List.flatMap_cons,List.length_append,cabSz] at h1 ⊢;omega
theorem padC_one {ps:List Pad} : ∀ u∈ps.flatMap padC,u.oneCell'=true:=by
 intro u hu;obtain ⟨p,_,hu⟩:=List.mem_flatMap.1 hu;simp only [padC,List.mem_cons,List.mem_nil_iff,or_false] at hu;rcases hu with rfl | rfl <;> rfl
theorem own_form {w:World} {B n sz:Nat} {e:TypeId} {v:Value} {xs:List Value} (h:w.ownsRow B e sz v n xs) : ∃ A c,v = .slice A n c∧n≤c∧c≤maxLen:=by
 rcases h.2 with ⟨rfl,rfl⟩ | ⟨g,cap,cur,rfl,_,_,h1,h2,_⟩
 ·exact ⟨none,0,rfl,Nat.le_refl _,Nat.zero_le _⟩
 ·exact ⟨_,cap,rfl,h1,h2⟩
theorem own_base {w:World} {B n sz k:Nat} {e:TypeId} {v:Value} {xs:List Value} (h:w.ownsRow B e sz v n xs) (hk:v.ownBlock=some k):B≤k:=by
 rcases h.2 with ⟨rfl,rfl⟩ | ⟨g,cap,cur,rfl,hg,_⟩
 ·cases hk
 ·injection hk with hk;simp at hk;omega
def PadsOwn (w:World) (B:Nat) (v:Value) (ps:List Pad):Prop:=w.ownsRow B 53 2 v ps.length (ps.flatMap padC)
theorem PadsOwn.reads {w:World} {B n c:Nat} {A:Option Addr} {ps:List Pad} (h:PadsOwn w B (.slice A n c) ps) (hn:ps.length=n) (hg : ∀ p∈ps,p.good):PadsIn w w.heap.size A n c ps:=by
 unfold PadsOwn at h;rw [hn] at h;obtain ⟨A',c',e,h1,h2⟩:=own_form h;injection e with e1 e2 e3;subst e1 e3;exact ⟨hn,h1,h2,Row.of_own h,hg⟩
theorem l8Pads (A:Option Addr) (n c:Nat) (ds:List Drawer) (w:World) (hsz:cabSz ds≤1048576) (h:DrawersIn w w.heap.size A n c ds) :
  Calls Tryz.prog 120 #[.slice A n c] w fun e w'=>∃ A' c',e = .returned (.slice A' (allPads ds).length c')∧PadsOwn w' w.heap.size (.slice A' (allPads ds).length c') (allPads ds)∧Below w.heap.size w w':=by
 have hm:=h.2.2.1;have hnc:=h.2.1;have HL:Hid (ds.length=n):=uH h.1;unfold maxLen at hm;have H:=uH h;clear h;obtain ⟨i0,hi,hz0,hz1,hz2⟩:=info_parts infoPad;go_enter Tryz.func120,Tryz.ntmps120
 go_wp2;go_loopw [3,4] (fun v i wr=>∃ (k:Nat),k≤n∧i = .int .i64 k∧Hid (PadsOwn wr w.heap.size v (allPads (ds.take k)))∧Below w.heap.size w wr) (fun _ i _=>n - (intOf i).toNat)
 case atStart=>exact ⟨0,Nat.zero_le _,rfl,uH ⟨by simp [allPads],.inr ⟨w.heap.size,0,#[],rfl,Nat.le_refl _,heap_alloc_new _ _,Nat.le_refl _,Nat.zero_le _,rfl,by simp [allPads]⟩⟩,(Below.refl _ _).alloc (Nat.le_refl _) _⟩
 case round =>
  obtain ⟨k,hk,rfl,hO,hb⟩:=hrel;by_cases hlt:k < n
  ·obtain ⟨b,off,eA,hbB,c0,hP⟩:=(H.out.below hb).at_ hlt;have hkl:k < ds.length:=(by have:=HL.out;omega);have HS:=uH (allPads_step hkl);have hlen:(allPads (ds.take k)).length+(drAt ds k).ps.length≤1048576:=by
    have h1:=allPads_len (ds.take (k+1));rw [HS.out,List.length_append] at h1;have h2:cabSz (ds.take (k+1))≤cabSz ds:=by
     have:=cabSz_append (ds.take (k+1)) (ds.drop (k+1));rw [List.take_append_drop] at this;omega
    omega
   subst eA;have hdl:=hP.1;have HR:=uH hP.2.2.2.1;clear hkl hP;generalize drAt ds k=d at *;rw [hdl] at hlen;have HDL:=uH hdl;clear hdl;generalize hap:allPads (ds.take k)=pk at *;clear hap;go_wp2_with (at_builtin;refine wpList_append_any _ rfl (.tmp 12) (.tmp 16) _ rfl w.heap.size 53 i0 _ 2 24 Tryz.underlying46 hi hz0 hz1 hz2 rfl (by omega) _ pk.length (pk.flatMap padC) rfl hO.out w.heap.size d.A d.n d.c (d.ps.flatMap padC) rfl HR.out padC_one (by unfold maxLen;omega) (by omega) hb.size ?_;intro v1 w1 hown1 hg1 hat1)
   have b1:=hb.grown hg1 hb.size (fun q hq=>own_base hO.out hq);have HO1:Hid (PadsOwn w1 w.heap.size v1 (allPads (ds.take (k+1)))):=uH (by
    rw [HS.out];unfold PadsOwn;rw [List.length_append,List.flatMap_append,HDL.out];exact hown1)
   go_roundw
   case rel=>exact ⟨k+1,by omega,by go_num,HO1,b1⟩
   case measure=>simp [intOf];omega
  ·have hkn:ds.take k=ds:=List.take_of_length_le (by have:=HL.out;omega);rw [hkn] at hO;have hF:=uH (own_form hO.out);clear hkn;go_wp2;go_ret;obtain ⟨A',c',rfl,_⟩:=hF.out;exact ⟨A',c',rfl,hO.out,hb⟩
def okP (p:Pad):Bool:=padB p.day p.case.data.toList
def ordPad (p q:Pad):Int:=ordP p.day p.case.data.toList q.day q.case.data.toList
def goodAt (ps:List Pad) (i:Nat):Prop:=okP (padAt ps i)=true∧(0 < i→ordPad (padAt ps (i - 1)) (padAt ps i) < 0)
def sortedOK (ps:List Pad):Prop:=∀ i,i < ps.length→goodAt ps i
def lenOK (ps:List Pad):Prop:=1≤ps.length∧ps.length≤4
def cabOK (css:List (List Pad)):Prop:=css.length≤6∧(∀ ps∈css,lenOK ps)∧sortedOK css.flatten
noncomputable def cabB (css:List (List Pad)):Bool:=@decide (cabOK css) (Classical.propDecidable _)
theorem cabB_yes {css:List (List Pad)} (h:cabOK css):cabB css=true:=by unfold cabB;exact @decide_eq_true _ (Classical.propDecidable _) h
theorem cabB_no {css:List (List Pad)} (h : ¬ cabOK css):cabB css=false:=by unfold cabB;exact @decide_eq_false _ (Classical.propDecidable _) h
theorem cabB_iff {css:List (List Pad)}:cabB css=true ↔ cabOK css:=by unfold cabB;exact @decide_eq_true_iff _ (Classical.propDecidable _)
theorem padAt_append_left {a b:List Pad} {i:Nat} (h:i < a.length):padAt (a++b) i=padAt a i:=by
 unfold padAt;simp [List.getD,List.getElem?_append_left h]
theorem padAt_append_right {a b:List Pad} {i:Nat} (h:a.length≤i):padAt (a++b) i=padAt b (i - a.length):=by
 unfold padAt;simp [List.getD,List.getElem?_append_right h]
theorem goodAt_append {a b:List Pad} {i:Nat} (h:i < a.length):goodAt (a++b) i ↔ goodAt a i:=by
 unfold goodAt;rw [padAt_append_left h];constructor
 ·rintro ⟨h1,h2⟩;exact ⟨h1,fun hi=>by have:=h2 hi;rwa [padAt_append_left (by omega)] at this⟩
 ·rintro ⟨h1,h2⟩;exact ⟨h1,fun hi=>by rw [padAt_append_left (by omega)];exact h2 hi⟩
theorem sorted_left {a b:List Pad} (h:sortedOK (a++b)):sortedOK a:=fun i hi=>(goodAt_append hi).1 (h i (by rw [List.length_append];omega))
theorem sorted_okP {ps:List Pad} (h:sortedOK ps) {p:Pad} (hp:p∈ps):okP p=true:=by
 obtain ⟨i,hi,rfl⟩:=List.getElem_of_mem hp;have:=(h i hi).1
 rwa [show padAt ps i=ps[i] by unfold padAt;simp [List.getD,List.getElem?_eq_getElem hi]] at this
theorem allPads_flat (ds:List Drawer):(ds.map (·.ps)).flatten=allPads ds:=by unfold allPads;rw [List.flatMap_def]
theorem allPads_good {w:World} {B n c:Nat} {A:Option Addr} {ds:List Drawer} (h:DrawersIn w B A n c ds) : ∀ p∈allPads ds,p.good:=by
 intro p hp;obtain ⟨d,hd,hp⟩:=List.mem_flatMap.1 hp;exact (h.2.2.2.2 d hd).2.2.2.2 p hp
theorem specCabinetValid (A:Option Addr) (n c:Nat) (ds:List Drawer) (w:World) (hsz:cabSz ds≤1048576) (h:DrawersIn w w.heap.size A n c ds) :
  Calls Tryz.prog 119 #[.slice A n c] w fun e w'=>e = .returned (.bool (cabB (ds.map (·.ps))))∧Below w.heap.size w w':=by
 have hm:=h.2.2.1;have hnc:=h.2.1;have HL:Hid (ds.length=n):=uH h.1;unfold maxLen at hm;have H:=uH h;clear h;go_enter Tryz.func119,Tryz.ntmps119
 go_wp2;go_loopw [3] (fun i wr=>∃ (k:Nat),k≤n∧i = .int .i64 k∧Hid (∀ d∈ds.take k,lenOK d.ps)∧Below w.heap.size w wr) (fun i _=>n - (intOf i).toNat)
 case atStart=>exact ⟨0,Nat.zero_le _,rfl,uH (by simp),Below.refl _ _⟩
 case round =>
  obtain ⟨k,hk,rfl,hO,hb⟩:=hrel;by_cases hlt:k < n
  ·obtain ⟨b,off,eA,hbB,c0,hP⟩:=(H.out.below hb).at_ hlt;have hkl:k < ds.length:=(by have:=HL.out;omega);have hs:=drAt_some hkl;subst eA;have hdl:=hP.1;by_cases hok:1≤(drAt ds k).n∧(drAt ds k).n≤4
   ·have HO1:Hid (∀ d∈ds.take (k+1),lenOK d.ps):=uH (by
     rw [take_step hs];intro d hd;rcases List.mem_append.1 hd with h | h
     ·exact hO.out d h
     ·simp at h;subst h;unfold lenOK;omega)
    obtain ⟨hok1,hok2⟩:=hok;have hD:=uH (decide_eq_true (show (1:Int)≤((drAt ds k).n:Int)∧((drAt ds k).n:Int)≤4 by omega));clear hkl hP hs hdl;generalize drAt ds k=d at *;(go_wp2_with fail);refine (l6In_any _ _ _ _).mono ?_;rintro e w' ⟨rfl,rfl⟩;rw [hD.out];go_wp2;go_roundw
    case rel=>exact ⟨k+1,by omega,by go_num,HO1,hb⟩
    case measure=>simp [intOf];omega
   ·have HNo:Hid (cabB (ds.map (·.ps))=false):=uH (cabB_no (fun h=>by
     have:=h.2.1 (drAt ds k).ps (List.mem_map_of_mem (drAt_mem hkl));unfold lenOK at this;omega))
    have hD:=uH (decide_eq_false (show ¬ ((1:Int)≤((drAt ds k).n:Int)∧((drAt ds k).n:Int)≤4) by omega));clear hkl hP hs hdl hok;generalize drAt ds k=d at *;(go_wp2_with fail);refine (l6In_any _ _ _ _).mono ?_;rintro e w' ⟨rfl,rfl⟩;rw [hD.out];go_wp2;go_ret;exact ⟨ret_bool HNo.out.symm,hb⟩
  ·have hkn:ds.take k=ds:=List.take_of_length_le (by have:=HL.out;omega);rw [hkn] at hO;clear hkn;have hLt:(allPads ds).length≤1048576:=(by have:=allPads_len ds;omega);(go_wp2_with fail);refine (l8Pads A n c ds wr hsz ((H.out.below hb).more hb.size)).mono ?_;rintro e w1 ⟨A',c',rfl,hown,hb1⟩;have b1:=hb.trans (hb1.mono hb.size);have HQ:=uH (hown.reads rfl (allPads_good H.out));generalize hap:allPads ds=ps at *;have HAP:=uH hap;clear hap hown hb1;have hc':=HQ.out.2.2.1;have hpc':=HQ.out.2.1;unfold maxLen at hc';go_wp2;go_loopw [5] (fun i wq=>∃ (k:Nat),k≤ps.length∧i = .int .i64 k∧Hid (∀ j,j < k→goodAt ps j)∧Below w1.heap.size w1 wq) (fun i _=>ps.length - (intOf i).toNat)
   case atStart=>exact ⟨0,Nat.zero_le _,rfl,uH (fun j hj=>absurd hj (by omega)),Below.refl _ _⟩
   case round =>
    obtain ⟨q,hq,rfl,hG,hbq⟩:=hrel;have b2:=b1.trans (hbq.mono b1.size);by_cases hlq:q < ps.length
    ·obtain ⟨b,off,eA,hbB,c0,c1,hg⟩:=(HQ.out.below hbq).at_ hlq;subst eA;by_cases hv:okP (padAt ps q)=true
     ·have cv : ∀ W,Calls Tryz.prog 75 #[.agg #[.int .i64 (padAt ps q).day,.string (padAt ps q).case]] W fun e w'=>e = .returned (.bool true)∧Below W.heap.size W w':=fun W=>by
       have:=specPadValid (padAt ps q).day (padAt ps q).case W hg.2
       rwa [show padB (padAt ps q).day (padAt ps q).case.data.toList=true from hv] at this
      have CV:=uH cv;clear cv;rcases q with _ | j
      ·simp only [Nat.zero_mul,Nat.add_zero] at c0 c1;have HG1:Hid (∀ j,j < 0+1→goodAt ps j):=uH (fun j hj=>by
        obtain rfl:j=0:=(by omega);exact ⟨hv,fun h=>absurd h (by omega)⟩)
       clear hv;generalize padAt ps 0=p at *;have r0:=qcell c0;have r1:=qcell c1;(go_wp2_with fail);refine region_qb (by kernel_rfl) (by kernel_rfl) ?_;repeat (first | go_big_quiet_step ((go_at_call 75;exact quietB (CV.out _))) | quiet_step ((go_at_call 75;exact quietB (CV.out _))))
       refine wpQuiet_nil ?_;intro w3 hb3;have b3:=hbq.trans (hb3.mono hbq.size);clear r0 r1 c0 c1 hb3;go_wp2;go_roundw
       case rel=>exact ⟨1,by omega,by go_num,HG1,b3⟩
       case measure=>simp [intOf];omega
      ·obtain ⟨b',off',eA',hbB',c0',c1',hg'⟩:=(HQ.out.below hbq).at_ (show j < ps.length by omega);injection eA' with eA';injection eA' with e1 e2;subst e1 e2;by_cases ho:ordPad (padAt ps j) (padAt ps (j+1)) < 0
       ·have HG1:Hid (∀ i,i < j+1+1→goodAt ps i):=uH (fun i hi=>by
         by_cases hij:i < j+1
         ·exact hG.out i hij
         ·obtain rfl:i=j+1:=(by omega);exact ⟨hv,fun _=>ho⟩)
        have co : ∀ W,Calls Tryz.prog 143 #[.agg #[.int .i64 (padAt ps j).day,.string (padAt ps j).case],.agg #[.int .i64 (padAt ps (j+1)).day,.string (padAt ps (j+1)).case]] W fun e w'=>e = .returned (.int .i64 (ordPad (padAt ps j) (padAt ps (j+1))))∧Below W.heap.size W w':=fun W=>l8Order _ _ _ _ W;have CO:=uH co;clear co hv;generalize ordPad (padAt ps j) (padAt ps (j+1))=o at *;generalize padAt ps j=p at *;generalize padAt ps (j+1)=p' at *;have r0:=qcell c0;have r1:=qcell c1;have r0':=qcell c0';have r1':=qcell c1';(go_wp2_with fail);refine region_qb (by kernel_rfl) (by kernel_rfl) ?_;repeat (first | go_big_quiet_step ((first | (go_at_call 75;exact quietB (CV.out _)) | (go_at_call 143;exact quietB (CO.out _)))) | quiet_step ((first | (go_at_call 75;exact quietB (CV.out _)) | (go_at_call 143;exact quietB (CO.out _)))))
        refine wpQuiet_nil ?_;intro w3 hb3;have b3:=hbq.trans (hb3.mono hbq.size);clear r0 r1 c0 c1 hb3 r0' r1' c0' c1';go_wp2;go_roundw
        case rel=>exact ⟨j+1+1,by omega,by go_num,HG1,b3⟩
        case measure=>simp [intOf];omega
       ·have HNo:Hid (cabB (ds.map (·.ps))=false):=uH (cabB_no (fun h=>by
         have:=(h.2.2 (j+1) (by rw [allPads_flat,HAP.out];exact hlq)).2 (by omega);rw [allPads_flat,HAP.out] at this;exact ho this))
        have ho':0≤ordPad (padAt ps j) (padAt ps (j+1)):=(by omega);have co : ∀ W,Calls Tryz.prog 143 #[.agg #[.int .i64 (padAt ps j).day,.string (padAt ps j).case],.agg #[.int .i64 (padAt ps (j+1)).day,.string (padAt ps (j+1)).case]] W fun e w'=>e = .returned (.int .i64 (ordPad (padAt ps j) (padAt ps (j+1))))∧Below W.heap.size W w':=fun W=>l8Order _ _ _ _ W;have CO:=uH co;clear co hv ho;generalize ordPad (padAt ps j) (padAt ps (j+1))=o at *;generalize padAt ps j=p at *;generalize padAt ps (j+1)=p' at *;have r0:=qcell c0;have r1:=qcell c1;have r0':=qcell c0';have r1':=qcell c1';(go_wp2_with fail);refine region_qb (by kernel_rfl) (by kernel_rfl) ?_;repeat (first | go_big_quiet_step ((first | (go_at_call 75;exact quietB (CV.out _)) | (go_at_call 143;exact quietB (CO.out _)))) | quiet_step ((first | (go_at_call 75;exact quietB (CV.out _)) | (go_at_call 143;exact quietB (CO.out _)))))
        refine wpQuiet_nil ?_;intro w3 hb3;have b3:=b2.trans (hb3.mono b2.size);clear r0 r1 c0 c1 hb3 r0' r1' c0' c1';go_wp2;go_ret;exact ⟨ret_bool HNo.out.symm,b3⟩
     ·have HNo:Hid (cabB (ds.map (·.ps))=false):=uH (cabB_no (fun h=>by
       have:=(h.2.2 q (by rw [allPads_flat,HAP.out];exact hlq)).1;rw [allPads_flat,HAP.out] at this;exact hv this))
      have cv : ∀ W,Calls Tryz.prog 75 #[.agg #[.int .i64 (padAt ps q).day,.string (padAt ps q).case]] W fun e w'=>e = .returned (.bool false)∧Below W.heap.size W w':=fun W=>by
       have:=specPadValid (padAt ps q).day (padAt ps q).case W hg.2
       rwa [show padB (padAt ps q).day (padAt ps q).case.data.toList=false by simpa [okP] using hv] at this
      have CV:=uH cv;clear cv hv;generalize padAt ps q=p at *;have r0:=qcell c0;have r1:=qcell c1;(go_wp2_with fail);refine region_qb (by kernel_rfl) (by kernel_rfl) ?_;repeat (first | go_big_quiet_step ((go_at_call 75;exact quietB (CV.out _))) | quiet_step ((go_at_call 75;exact quietB (CV.out _))))
      refine wpQuiet_nil ?_;intro w3 hb3;have b3:=b2.trans (hb3.mono b2.size);clear r0 r1 c0 c1 hb3;go_wp2;go_ret;exact ⟨ret_bool HNo.out.symm,b3⟩
    ·have hF:Hid (cabB (ds.map (·.ps))=decide ((n:Int)≤6)):=uH (by
      rw [Bool.eq_iff_iff,cabB_iff,decide_eq_true_iff];constructor
      ·intro h;have:=h.1;rw [List.length_map,HL.out] at this;omega
      ·intro h;refine ⟨by rw [List.length_map,HL.out];omega,fun x hx=>?_,?_⟩
       ·obtain ⟨d,hd,rfl⟩:=List.mem_map.1 hx;exact hO.out d hd
       ·rw [allPads_flat,HAP.out];exact fun i hi=>hG.out i (by omega))
     go_wp2;go_ret;exact ⟨ret_bool hF.out.symm,b2⟩
theorem clonePads (A:Option Addr) (n c:Nat) (ps:List Pad) (w:World) (hn1:1≤n) (hn:n≤1048576) (h:PadsIn w w.heap.size A n c ps) :
  Calls Tryz.prog 141 #[.slice A n c] w fun e w'=>∃ g c',e = .returned (.slice (some ⟨g,0,none⟩) n c')∧PadsOwn w' w.heap.size (.slice (some ⟨g,0,none⟩) n c') ps∧w.heap.size≤g∧Below w.heap.size w w':=by
 have HL:=uH h.1;have HR:=uH h.2.2.2.1;obtain ⟨b,off,rfl,hb,_⟩:=h.2.2.2.1.2 hn1;obtain ⟨i0,hi,hz0,hz1,hz2⟩:=info_parts infoPad;clear h;have hE : ∀ W,(binOp .eql 46 (.slice (some ⟨b,off,none⟩) n c) (.slice none 0 0)).run Tryz.prog W = .ok (.bool false) W:=fun W=>Lib.run_eql_slice_nil (P:=Tryz.prog) W _ 53 (some ⟨b,off,none⟩) n c 0 0 Tryz.underlying46;go_enter Tryz.func141,Tryz.ntmps141
 go_wp2_with (at_builtin;refine wpList_append_any _ rfl (.tmp 5) (.tmp 6) _ rfl w.heap.size 53 i0 _ 2 24 Tryz.underlying46 hi hz0 hz1 hz2 rfl (by omega) (.slice (some ⟨w.heap.size,0,none⟩) 0 0) 0 [] rfl (World.ownsRow_made w _ 0 (Nat.le_refl _) (by simp) (by simp)) w.heap.size (some ⟨b,off,none⟩) n c (ps.flatMap padC) rfl (HR.out.below ((Below.refl _ _).alloc (Nat.le_refl _) _)) padC_one (by unfold maxLen;omega) (by omega) (by simp) ?_;intro v1 w1 hown1 hg1 hat1)
 have b0:Below w.heap.size w (w.alloc (Obj.cells #[] 53)):=(Below.refl _ _).alloc (Nat.le_refl _) _;have hg1':(w.alloc (Obj.cells #[] 53)).grownBy w1 (some w.heap.size):=hg1;have b1:Below w.heap.size w w1:=b0.grown hg1' b0.size (fun q hq=>by injection hq with hq;omega);simp only [Nat.zero_add,List.nil_append] at hown1;go_wp2;go_ret;rcases hown1.2 with ⟨_,h⟩ | ⟨g,cap,cur,rfl,hg,_⟩
 ·omega
 ·exact ⟨g,cap,rfl,by unfold PadsOwn;rw [HL.out];exact hown1,hg,b1⟩
section
variable {w w':World} {B n sz:Nat} {e:TypeId} {v:Value} {xs:List Value}
theorem own_congr (h:w.ownsRow B e sz v n xs) (hb : ∀ b,v.ownBlock=some b→w'.heap[b]? = w.heap[b]?):w'.ownsRow B e sz v n xs:=by
 refine ⟨h.1,?_⟩;rcases h.2 with h2 | ⟨g,cap,cur,rfl,h1,h2,h3⟩
 ·exact .inl h2
 ·exact .inr ⟨g,cap,cur,rfl,h1,(hb g rfl).trans h2,h3⟩
theorem own_obj (h:w.ownsRow B e sz v n xs) {b:Nat} (hb:v.ownBlock=some b) : ∃ cur,w.heap[b]? = some (.cells cur e (0,0)):=by
 rcases h.2 with ⟨rfl,_⟩ | ⟨g,cap,cur,rfl,h1,h2,h3⟩
 ·cases hb
 ·injection hb with hb;subst hb;exact ⟨cur,h2⟩
theorem own_lt (h:w.ownsRow B e sz v n xs) {b:Nat} (hb:v.ownBlock=some b):b < w.heap.size:=by
 obtain ⟨cur,h1⟩:=own_obj h hb;rcases Nat.lt_or_ge b w.heap.size with hlt | hge
 ·exact hlt
 ·rw [Array.getElem?_eq_none hge] at h1;cases h1
end
structure Leaf where
 g:Nat
 v:Value
 ps:List Pad
def Leaf.ptr (l:Leaf):Value:=.pointer (some ⟨l.g,0,none⟩)
def LeafIn (w:World) (B:Nat) (l:Leaf):Prop:=B≤l.g∧Blk w l.g 192 #[l.v]∧PadsOwn w B l.v l.ps∧∀ p∈l.ps,p.good
theorem LeafIn.congr {w w':World} {B:Nat} {l:Leaf} (h:LeafIn w B l) (h1:w'.heap[l.g]? = w.heap[l.g]?) (h2 : ∀ b,l.v.ownBlock=some b→w'.heap[b]? = w.heap[b]?):LeafIn w' B l :=
 ⟨h.1,h1.trans h.2.1,own_congr h.2.2.1 h2,h.2.2.2⟩
def LeavesIn (w:World) (B:Nat) (v:Value) (ls:List Leaf):Prop :=
 w.ownsRow B 134 1 v ls.length (ls.map Leaf.ptr)∧(∀ l∈ls,LeafIn w B l)∧(ls.map (·.g)).Nodup∧(ls.filterMap (·.v.ownBlock)).Nodup
def TreeIn (w:World) (B t:Nat) (v:Value) (ls:List Leaf):Prop:=B≤t∧Blk w t 128 #[v]∧LeavesIn w B v ls
theorem LeavesIn.congr {w w':World} {B:Nat} {v:Value} {ls:List Leaf} (h:LeavesIn w B v ls) (h0 : ∀ b,v.ownBlock=some b→w'.heap[b]? = w.heap[b]?)
  (h1 : ∀ l∈ls,w'.heap[l.g]? = w.heap[l.g]? ∧ ∀ b,l.v.ownBlock=some b→w'.heap[b]? = w.heap[b]?):LeavesIn w' B v ls :=
 ⟨own_congr h.1 h0,fun l hl=>(h.2.1 l hl).congr (h1 l hl).1 (h1 l hl).2,h.2.2⟩
theorem LeavesIn.below {w w':World} {B:Nat} {v:Value} {ls:List Leaf} (h:LeavesIn w B v ls) (hb:Below w.heap.size w w'):LeavesIn w' B v ls :=
 h.congr (fun _ hv=>hb.block _ (own_lt h.1 hv)) fun l hl=>⟨hb.block _ (h.2.1 l hl).2.1.lt,fun _ hv=>hb.block _ (own_lt (h.2.1 l hl).2.2.1 hv)⟩
theorem TreeIn.below {w w':World} {B t:Nat} {v:Value} {ls:List Leaf} (h:TreeIn w B t v ls) (hb:Below w.heap.size w w'):TreeIn w' B t v ls :=
 ⟨h.1,h.2.1.below hb,h.2.2.below hb⟩
theorem LeavesIn.push {w w1 w2:World} {B:Nat} {v v':Value} {ls:List Leaf} {l:Leaf} (h:LeavesIn w B v ls) (hb:Below w.heap.size w w1) (hg:w1.grownBy w2 v.ownBlock)
  (hown:w2.ownsRow B 134 1 v' (ls.length+1) (ls.map Leaf.ptr++[l.ptr])) (hl:LeafIn w1 B l) (hn:w.heap.size≤l.g) (hm : ∀ b,l.v.ownBlock=some b→w.heap.size≤b):LeavesIn w2 B v' (ls++[l]):=by
 have hne : ∀ {b:Nat} {cur:Array Value} {e:TypeId},w1.heap[b]? = some (.cells cur e (0,0))→e≠134→w2.heap[b]? = w1.heap[b]? := by
  intro b cur e h1 h2;rcases Nat.lt_or_ge b w1.heap.size with hlt | hge
  ·refine hg.block b hlt (fun hq=>h2 ?_);obtain ⟨cur',h3⟩:=own_obj (h.below hb).1 hq.symm;rw [h1] at h3;injection h3 with h3;injection h3
  ·rw [Array.getElem?_eq_none hge] at h1;cases h1
 have hold : ∀ m,LeafIn w1 B m→LeafIn w2 B m:=fun m hm=>hm.congr (hne hm.2.1 (by decide)) fun b hv=>by
  obtain ⟨cur,h1⟩:=own_obj hm.2.2.1 hv;exact hne h1 (by decide)
 refine ⟨by simpa using hown,fun m hm=>?_,?_,?_⟩
 ·rcases List.mem_append.1 hm with hm | hm
  ·exact hold m ((h.below hb).2.1 m hm)
  ·simp at hm;subst hm;exact hold m hl
 ·rw [List.map_append,List.nodup_append];refine ⟨h.2.2.1,by simp,?_⟩;intro a ha b hb' hab;obtain ⟨m,hm',rfl⟩:=List.mem_map.1 ha;have h1:=(h.2.1 m hm').2.1.lt;simp at hb';omega
 ·rw [List.filterMap_append,List.nodup_append];refine ⟨h.2.2.2,?_,?_⟩
  ·cases hv:l.v.ownBlock <;> simp [hv]
  ·intro a ha b hb' hab;obtain ⟨m,hm',hma⟩:=List.mem_filterMap.1 ha;have h1:=own_lt (h.2.1 m hm').2.2.1 hma;obtain ⟨m',hm'',hmb⟩:=List.mem_filterMap.1 hb';simp at hm'';subst hm'';have:=hm b hmb;omega
theorem own_mono {w:World} {B B' n sz:Nat} {e:TypeId} {v:Value} {xs:List Value} (h:w.ownsRow B e sz v n xs) (hB:B'≤B):w.ownsRow B' e sz v n xs:=by
 refine ⟨h.1,?_⟩;rcases h.2 with h2 | ⟨g,cap,cur,rfl,h1,h2,h3⟩
 ·exact .inl h2
 ·exact .inr ⟨g,cap,cur,rfl,Nat.le_trans hB h1,h2,h3⟩
theorem Blk.ne_own {w:World} {t:Nat} {ty:TypeId} {cs:Array Value} (h:Blk w t ty cs) {B n sz:Nat} {e:TypeId} {v:Value} {xs:List Value} (ho:w.ownsRow B e sz v n xs) (hne:e≠ty):v.ownBlock≠some t:=fun hv=>by
 obtain ⟨cur,h1⟩:=own_obj ho hv;unfold Blk at h;rw [h1] at h;injection h with h;injection h with _ h2;exact hne h2
theorem Blk.ne_blk {w:World} {t t':Nat} {ty ty':TypeId} {cs cs':Array Value} (h:Blk w t ty cs) (h':Blk w t' ty' cs') (hne:ty≠ty'):t≠t':=by
 rintro rfl;unfold Blk at h h';rw [h] at h';injection h' with h';injection h' with _ h2;exact hne h2
theorem LeavesIn.root {w:World} {B t:Nat} {v:Value} {cs:Array Value} {ls:List Leaf} (h:LeavesIn w B v ls) (ht:Blk w t 128 cs) (u:Value):LeavesIn (w.setCell ⟨t,0,none⟩ u) B v ls :=
 h.congr (fun b hb=>Below.heap_setCell w _ u b (by rintro rfl;exact ht.ne_own h.1 (by decide) hb)) fun l hl =>
  ⟨Below.heap_setCell w _ u _ (fun e=>(h.2.1 l hl).2.1.ne_blk ht (by decide) e),fun b hb=>Below.heap_setCell w _ u b (by rintro rfl;exact ht.ne_own (h.2.1 l hl).2.2.1 (by decide) hb)⟩
theorem TreeIn.push {w0 w1 w2:World} {B t:Nat} {v v' sv:Value} {ls:List Leaf} {ps:List Pad} (h:TreeIn w0 B t v ls) (hB:B≤w0.heap.size) (hb1:Below w0.heap.size w0 w1) (hO:PadsOwn w1 w0.heap.size sv ps) (hgood : ∀ p∈ps,p.good)
  (hg2:((w1.alloc (.cells #[sv] 192)).alloc (.cells #[.pointer (some ⟨w1.heap.size,0,none⟩)] 134)).grownBy w2 v.ownBlock)
  (hown:w2.ownsRow B 134 1 v' (ls.length+1) (ls.map Leaf.ptr++[.pointer (some ⟨w1.heap.size,0,none⟩)])) :
  TreeIn (w2.setCell ⟨t,0,none⟩ v') B t v' (ls++[⟨w1.heap.size,sv,ps⟩])∧Below B w0 (w2.setCell ⟨t,0,none⟩ v'):=by
 have hs:=hb1.size;have ha:Below w1.heap.size w1 ((w1.alloc (.cells #[sv] 192)).alloc (.cells #[.pointer (some ⟨w1.heap.size,0,none⟩)] 134)):=((Below.refl _ _).alloc (Nat.le_refl _) _).alloc (by simp) _;have hb:Below w0.heap.size w0 ((w1.alloc (.cells #[sv] 192)).alloc (.cells #[.pointer (some ⟨w1.heap.size,0,none⟩)] 134)):=hb1.trans (ha.mono hs);have hl:LeafIn ((w1.alloc (.cells #[sv] 192)).alloc (.cells #[.pointer (some ⟨w1.heap.size,0,none⟩)] 134)) B ⟨w1.heap.size,sv,ps⟩ :=
  ⟨Nat.le_trans hB hs,(Blk.new _ _ _).alloc _,own_mono (own_congr hO (fun b hv=>ha.block b (own_lt hO hv))) hB,hgood⟩
 have hL:=h.2.2.push hb hg2 (l:=⟨w1.heap.size,sv,ps⟩) hown hl hs (fun b hv=>own_base hO hv);have ht2:Blk w2 t 128 #[v]:=by
  have h1:=h.2.1.below hb;exact (hg2.block t h1.lt (fun e=>h.2.1.ne_own h.2.2.1 (by decide) e.symm)).trans h1
 have hbw:Below B w0 w2:=(hb.mono hB).grown hg2 (Nat.le_trans hB hb.size) (fun k hk=>own_base h.2.2.1 hk);exact ⟨⟨h.1,by simpa using ht2.set 0 v',hL.root ht2 v'⟩,hbw.setCell h.1 _⟩
theorem sorted_snoc {l:List Pad} {p:Pad}:sortedOK (l++[p]) ↔ sortedOK l∧okP p=true∧∀ q,l.getLast? = some q→ordPad q p < 0:=by
 have hp:padAt (l++[p]) l.length=p:=(by rw [padAt_append_right (Nat.le_refl _)];simp [padAt]);constructor
 ·intro h;refine ⟨sorted_left h,?_,?_⟩
  ·have:=(h l.length (by simp)).1;rwa [hp] at this
  ·intro q hq;rcases List.eq_nil_or_concat l with rfl | ⟨l',x,e⟩
   ·cases hq
   ·rw [List.concat_eq_append] at e;subst e;have:=(h (l'++[x]).length (by simp)).2 (by simp);rw [hp,padAt_append_left (by simp)] at this;simp at hq;subst hq
    rwa [show padAt (l'++[x]) ((l'++[x]).length - 1)=x by rw [List.length_append];simp [padAt]] at this
 ·rintro ⟨h1,h2,h3⟩ i hi;by_cases hil:i < l.length
  ·exact (goodAt_append hil).2 (h1 i hil)
  ·simp at hi;obtain rfl:i=l.length:=(by omega);refine ⟨by rw [hp];exact h2,fun hi0=>?_⟩;rw [hp,padAt_append_left (by omega)];refine h3 _ ?_;rw [List.getLast?_eq_getElem?];exact padAt_some (by omega)
def LastIs (w:World) (B:Nat) (v:Value) (l:List Pad):Prop :=
 (l=[]∧v = .pointer none)∨∃ l' p b o,l=l'++[p]∧v = .pointer (some ⟨b,o,none⟩)∧b < B∧w.cell? ⟨b,o,none⟩=some (.int .i64 p.day)∧w.cell? ⟨b,o+1,none⟩=some (.string p.case)∧p.good
end Go.Proofs.YtbkhnljaajajiaaGreatDoor
