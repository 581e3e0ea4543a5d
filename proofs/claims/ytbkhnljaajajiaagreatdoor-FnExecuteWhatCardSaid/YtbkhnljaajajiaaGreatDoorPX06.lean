/-
  Contracts and plain laws that the proofs lean on. Conditions: as each says.
-/
import Derived.Test.YtbkhnljaajajiaaGreatDoorPX05
import Derived.Shelf.Abstract
set_option maxRecDepth 100000
set_option linter.unusedSimpArgs false
set_option linter.unusedVariables false
set_option linter.unnecessarySimpa false
namespace Go.Proofs.YtbkhnljaajajiaaGreatDoor
open Go.ChangeShapes Go.WideShapes Go.ChangeAt Go.RowKit
theorem cbL (a b:List UInt8):Lib.compareBytes a b=if a < b then -1 else if a=b then 0 else 1:=by
 rw [cb_spec,bytesLess_eq];by_cases h:a < b <;> simp [h]
theorem lt_irr (a:List UInt8) : ¬ a < a:=List.lt_irrefl a
theorem cb_neg {a b:List UInt8}:Lib.compareBytes a b < 0 ↔ a < b:=by
 rw [cbL];by_cases h:a < b
 ·simp [h]
 ·rw [if_neg h];constructor
  ·intro h2;split at h2 <;> omega
  ·intro h2;exact absurd h2 h
theorem cb_nil {a b:List UInt8}:Lib.compareBytes a b=0 ↔ a=b:=by
 rw [cbL];by_cases h:a < b
 ·constructor
  ·intro e;rw [if_pos h] at e;cases e
  ·rintro rfl;exact absurd h (lt_irr a)
 ·by_cases e:a=b <;> simp [h,e]
theorem cb_anti (a b:List UInt8):Lib.compareBytes b a = - Lib.compareBytes a b:=by
 rw [cbL,cbL];by_cases h:a < b
 ·have h2 : ¬ b < a:=fun h2=>lt_irr a (List.lt_trans h h2);have h3 : ¬ b=a:=(by rintro rfl;exact lt_irr _ h);simp [h,h2,h3]
 ·by_cases e:a=b
  ·subst e;simp [h]
  ·have h2:b < a:=by
    rcases List.le_iff_lt_or_eq.1 (List.not_lt.1 h) with h2 | h2
    ·exact h2
    ·exact absurd h2.symm e
   simp [h,h2,e]
theorem pad_ext {p q:Pad} (h1:p.day=q.day) (h2:p.case.data.toList=q.case.data.toList):p=q:=by
 rcases p with ⟨d,c⟩;rcases q with ⟨d',c'⟩
 simp only at h1 h2;subst h1;have:c=c':=by
  rcases c with ⟨c⟩;rcases c' with ⟨c'⟩
  simp only at h2;rw [Array.toList_inj.1 h2]
 rw [this]
theorem ordPad_neg {p q:Pad}:ordPad p q < 0 ↔ p.day < q.day∨(p.day=q.day∧p.case.data.toList < q.case.data.toList):=by
 unfold ordPad;rcases Int.lt_trichotomy p.day q.day with h | h | h
 ·rw [ordP_lt h];simp [h]
 ·rw [h,ordP_eq,cb_neg];simp
 ·rw [ordP_gt h];constructor
  ·intro h;omega
  ·rintro (h1 | h1) <;> omega
theorem ordPad_nil {p q:Pad}:ordPad p q=0 ↔ p=q:=by
 unfold ordPad;rcases Int.lt_trichotomy p.day q.day with h | h | h
 ·rw [ordP_lt h];constructor
  ·intro h;omega
  ·rintro rfl;omega
 ·rw [h,ordP_eq,cb_nil];exact ⟨fun e=>pad_ext h e,fun e=>by rw [e]⟩
 ·rw [ordP_gt h];constructor
  ·intro h;omega
  ·rintro rfl;omega
theorem ordPad_anti (p q:Pad):ordPad q p = - ordPad p q:=by
 unfold ordPad;rcases Int.lt_trichotomy p.day q.day with h | h | h
 ·rw [ordP_lt h,ordP_gt h];rfl
 ·rw [h,ordP_eq,ordP_eq,cb_anti]
 ·rw [ordP_lt h,ordP_gt h]
theorem ordPad_trans {p q r:Pad} (h:ordPad p q < 0) (h2:ordPad q r < 0):ordPad p r < 0:=by
 rw [ordPad_neg] at *;rcases h with h | ⟨e,h⟩ <;> rcases h2 with h2 | ⟨e2,h2⟩
 ·left;omega
 ·left;omega
 ·left;omega
 ·right;exact ⟨by omega,List.lt_trans h h2⟩
theorem ordPad_self (p:Pad):ordPad p p=0:=ordPad_nil.2 rfl
theorem sorted_lt {l:List Pad} (h:sortedOK l) {i:Nat} : ∀ {j:Nat},i < j→j < l.length→ordPad (padAt l i) (padAt l j) < 0:=by
 intro j;induction j with
 | zero=>intro h;omega
 | succ j ih =>
  intro hij hj;have h1:=(h (j+1) hj).2 (by omega);simp only [Nat.add_sub_cancel] at h1;by_cases e:i=j
  ·subst e;exact h1
  ·exact ordPad_trans (ih (by omega) (by omega)) h1
def drw (css:List (List Pad)) (i:Nat):List Pad:=css.getD i []
theorem drw_some {css:List (List Pad)} {i:Nat} (h:i < css.length):css[i]? = some (drw css i):=by
 unfold drw;simp [List.getD,List.getElem?_eq_getElem h]
theorem drw_mem {css:List (List Pad)} {i:Nat} (h:i < css.length):drw css i∈css:=List.mem_of_getElem? (drw_some h)
def cpos (css:List (List Pad)) (i k:Nat):Nat:=(css.take i).flatten.length+k
theorem css_split {css:List (List Pad)} {i:Nat} (h:i < css.length):css=css.take i++drw css i::css.drop (i+1):=by
 have h1:css=css.take i++css.drop i:=(List.take_append_drop i css).symm;have h2:css.drop i=css[i]::css.drop (i+1):=List.drop_eq_getElem_cons h;have h3:css[i]=drw css i:=(by unfold drw;simp [List.getD,List.getElem?_eq_getElem h]);rw [h3] at h2;rw [← h2];exact h1
theorem cpos_at {css:List (List Pad)} {i k:Nat} (hi:i < css.length) (hk:k < (drw css i).length):cpos css i k < css.flatten.length∧padAt css.flatten (cpos css i k)=padAt (drw css i) k:=by
 have e:css.flatten=(css.take i).flatten++(drw css i++(css.drop (i+1)).flatten):=by
  have h:=congrArg List.flatten (css_split hi);rw [List.flatten_append,List.flatten_cons] at h;exact h
 unfold cpos;constructor
 ·have h2:=congrArg List.length e;simp only [List.length_append] at h2;omega
 ·rw [e,padAt_append_right (by omega),Nat.add_sub_cancel_left,padAt_append_left hk]
theorem take_flat_mono {css:List (List Pad)} : ∀ {i j:Nat},i≤j→(css.take i).flatten.length≤(css.take j).flatten.length:=by
 intro i j h;have e:css.take j=(css.take j).take i++(css.take j).drop i:=(List.take_append_drop i _).symm;rw [List.take_take,Nat.min_eq_left h] at e;rw [e,List.flatten_append,List.length_append];omega
theorem cpos_lt {css:List (List Pad)} {i j k k':Nat} (hij:i < j) (hj:j < css.length) (hk:k < (drw css i).length):cpos css i k < cpos css j k':=by
 unfold cpos;have h1:=take_flat_mono (css:=css) (show i+1≤j by omega);have h2:(css.take (i+1)).flatten.length=(css.take i).flatten.length+(drw css i).length:=by
  rw [take_step (drw_some (by omega)),List.flatten_append,List.length_append];simp
 omega
def FoundAt (css:List (List Pad)) (p:Pad) (i k:Nat):Prop:=i < css.length∧k < (drw css i).length∧padAt (drw css i) k=p
theorem cab_lt {css:List (List Pad)} (hs:sortedOK css.flatten) {i j k k':Nat} (hi:i < css.length) (hk:k < (drw css i).length) (hj:j < css.length) (hk':k' < (drw css j).length) (h:i < j∨(i=j∧k < k')):ordPad (padAt (drw css i) k) (padAt (drw css j) k') < 0:=by
 obtain ⟨a1,a2⟩:=cpos_at hi hk;obtain ⟨b1,b2⟩:=cpos_at hj hk';rw [← a2,← b2];refine sorted_lt hs ?_ b1;rcases h with h | ⟨rfl,h⟩
 ·exact cpos_lt h hj hk
 ·unfold cpos;omega
theorem FoundAt.uniq {css:List (List Pad)} {p:Pad} {i k i' k':Nat} (hs:sortedOK css.flatten) (h:FoundAt css p i k) (h':FoundAt css p i' k'):i=i'∧k=k':=by
 obtain ⟨h1,h2,h3⟩:=h;obtain ⟨g1,g2,g3⟩:=h';have key : ∀ {a b:Nat × Nat},a.1 < css.length→a.2 < (drw css a.1).length→b.1 < css.length→b.2 < (drw css b.1).length→padAt (drw css a.1) a.2=p→padAt (drw css b.1) b.2=p→¬ (a.1 < b.1∨(a.1=b.1∧a.2 < b.2)):=by
  intro a b q1 q2 q3 q4 q5 q6 q7;have:=cab_lt hs q1 q2 q3 q4 q7;rw [q5,q6,ordPad_self] at this;omega
 have e1:=key (a:=(i,k)) (b:=(i',k')) h1 h2 g1 g2 h3 g3;have e2:=key (a:=(i',k')) (b:=(i,k)) g1 g2 h1 h2 g3 h3;simp only at e1 e2;omega
noncomputable def findO (css:List (List Pad)) (p:Pad):Option (Nat × Nat) :=
 @dite _ (cabOK css∧∃ x:Nat × Nat,FoundAt css p x.1 x.2) (Classical.propDecidable _) (fun h=>some h.2.choose) (fun _=>none)
theorem findO_yes {css:List (List Pad)} {p:Pad} {i k:Nat} (hc:cabOK css) (h:FoundAt css p i k):findO css p=some (i,k):=by
 have hx:cabOK css∧∃ x:Nat × Nat,FoundAt css p x.1 x.2:=⟨hc,(i,k),h⟩;unfold findO;rw [dif_pos hx];obtain ⟨e1,e2⟩:=FoundAt.uniq hc.2.2 hx.2.choose_spec h;rw [← e1,← e2]
theorem findO_no {css:List (List Pad)} {p:Pad} (h : ∀ i k,¬ FoundAt css p i k):findO css p=none:=by
 unfold findO;rw [dif_neg];rintro ⟨_,x,hx⟩;exact h _ _ hx
theorem findO_bad {css:List (List Pad)} {p:Pad} (h : ¬ cabOK css):findO css p=none:=by
 unfold findO;rw [dif_neg];rintro ⟨hc,_⟩;exact h hc
theorem findO_none {css:List (List Pad)} {p:Pad} (hc:cabOK css) (h:findO css p=none) : ∀ i k,¬ FoundAt css p i k:=by
 intro i k hf;rw [findO_yes hc hf] at h;cases h
def DrawerOf (css:List (List Pad)) (p:Pad) (d:Nat):Prop :=
 d < css.length∧(0 < d→ordPad (padAt (drw css d) 0) p≤0)∧∀ i,d < i→i < css.length→0 < ordPad (padAt (drw css i) 0) p
def PlaceOf (l:List Pad) (p:Pad) (a:Nat):Prop:=a≤l.length∧(∀ j,j < a→ordPad (padAt l j) p < 0)∧∀ j,a≤j→j < l.length→0≤ordPad (padAt l j) p
theorem find_law {css:List (List Pad)} {p:Pad} {d a:Nat} (hc:cabOK css) (hd:DrawerOf css p d) (ha:PlaceOf (drw css d) p a) {i k:Nat} (h:FoundAt css p i k):i=d∧k=a:=by
 obtain ⟨h1,h2,h3⟩:=h;obtain ⟨d1,d2,d3⟩:=hd;obtain ⟨a1,a2,a3⟩:=ha;have hpos : ∀ {j},j < css.length→0 < (drw css j).length:=fun hj=>(hc.2.1 _ (drw_mem hj)).1;have hid:i=d:=by
  rcases Nat.lt_trichotomy i d with hlt | he | hgt
  ·have q1:=d2 (by omega);have q2:=cab_lt hc.2.2 h1 h2 d1 (hpos d1) (.inl hlt);rw [h3] at q2;have:=ordPad_anti p (padAt (drw css d) 0);omega
  ·exact he
  ·have q1:=d3 i hgt h1;by_cases hk:k=0
   ·subst hk;rw [h3,ordPad_self] at q1;omega
   ·have q2:=cab_lt hc.2.2 h1 (hpos h1) h1 h2 (.inr ⟨rfl,by omega⟩);rw [h3] at q2;omega
 subst hid;refine ⟨rfl,?_⟩;rcases Nat.lt_trichotomy k a with hlt | he | hgt
 ·have:=a2 k hlt;rw [h3,ordPad_self] at this;omega
 ·exact he
 ·have q1:=cab_lt hc.2.2 h1 (by omega:a < _) h1 h2 (.inr ⟨rfl,hgt⟩);rw [h3] at q1;have:=a3 a (Nat.le_refl _) (by omega);omega
theorem find_yes {css:List (List Pad)} {p:Pad} {d a:Nat} (hc:cabOK css) (hd:DrawerOf css p d) (_:PlaceOf (drw css d) p a) (h:a < (drw css d).length) (h0:ordPad (padAt (drw css d) a) p=0):findO css p=some (d,a) :=
 findO_yes hc ⟨hd.1,h,ordPad_nil.1 h0⟩
theorem find_not {css:List (List Pad)} {p:Pad} {d a:Nat} (hc:cabOK css) (hd:DrawerOf css p d) (ha:PlaceOf (drw css d) p a) (h : ¬ (a < (drw css d).length∧ordPad (padAt (drw css d) a) p=0)):findO css p=none :=
 findO_no fun i k hf=>by
  obtain ⟨rfl,rfl⟩:=find_law hc hd ha hf;exact h ⟨hf.2.1,by rw [hf.2.2];exact ordPad_self p⟩
end Go.Proofs.YtbkhnljaajajiaaGreatDoor
namespace Go.Proofs.YtbkhnljaajajiaaGreatDoor
open Go.ChangeShapes Go.WideShapes Go.ChangeAt Go.RowKit Go.Shelf
def padVal (p:Pad):Value:=.agg #[.int .i64 p.day,.string p.case]
theorem drw_leaf {ls:List Leaf} {i:Nat} (h:i < ls.length):drw (ls.map (·.ps)) i=(leafAt ls i).ps:=by
 unfold drw;rw [List.getD,List.getElem?_map,leafAt_some h];rfl
theorem drw_dr {ds:List Drawer} {i:Nat} (h:i < ds.length):drw (ds.map (·.ps)) i=(drAt ds i).ps:=by
 unfold drw;rw [List.getD,List.getElem?_map,drAt_some h];rfl
theorem PadsOwn.cell {w:World} {B n c k:Nat} {A:Option Addr} {ps:List Pad} (h:PadsOwn w B (.slice A n c) ps) (hn:ps.length=n) (hg : ∀ p∈ps,p.good) (hk:k < n) :
  ∃ g,A=some ⟨g,0,none⟩∧g < w.heap.size∧w.cell? ⟨g,k * 2,none⟩=some (.int .i64 (padAt ps k).day)∧w.cell? ⟨g,k * 2+1,none⟩=some (.string (padAt ps k).case):=by
 obtain ⟨b,off,e,hb,c0,c1,_⟩:=(h.reads hn hg).at_ hk;have h2:=h;unfold PadsOwn at h2;obtain ⟨g,cap,hv,_,_⟩:=h2.form (by omega);injection hv with hv1 hv2 hv3;rw [e] at hv1;injection hv1 with hv1;injection hv1 with e1 e2;subst e1 e2;refine ⟨b,e,hb,?_,?_⟩
 ·rw [← c0];congr 2;omega
 ·rw [← c1];congr 2;omega
theorem drawerFor (t:Nat) (v:Value) (ls:List Leaf) (B:Nat) (p:Pad) (w:World) (hn:1≤ls.length) (hne : ∀ l∈ls,1≤l.ps.length) (h:TreeIn w B t v ls) :
  Calls Tryz.prog 137 #[.pointer (some ⟨t,0,none⟩),padVal p] w fun e w'=>(∃ d:Nat,e = .returned (.int .i64 d)∧DrawerOf (ls.map (·.ps)) p d)∧Below w.heap.size w w':=by
 obtain ⟨A,c,rfl,hnc,hm⟩:=own_form h.2.2.1;have k0:(w.alloc (.cells #[.int .i64 p.day,.string p.case] 53)).cell? ⟨t,0,none⟩=some (.slice A ls.length c):=Lib.cell?_alloc_some _ (h.2.1.cell 0);have HT:=uH h;clear h;have HNe:=uH hne;clear hne;unfold maxLen at hm;unfold padVal;generalize hl:ls.length=n at *;have HL:=uH hl;clear hl;go_enter Tryz.func137,Tryz.ntmps137
 go_wp2;go_loopw [5] (fun i wr=>∃ (k:Nat),k < n∧i = .int .i64 k∧Hid (∀ i,k < i→i < n→0 < ordPad (padAt (leafAt ls i).ps 0) p)∧Below w.heap.size w wr∧wr.cell? ⟨w.heap.size,0,none⟩=some (.int .i64 p.day)∧wr.cell? ⟨w.heap.size,1,none⟩=some (.string p.case)) (fun i _=>(intOf i).toNat)
 case atStart=>exact ⟨n - 1,by omega,by congr 1;omega,uH (fun i h1 h2=>by omega),(Below.refl _ _).alloc (Nat.le_refl _) _,newcell w #[.int .i64 p.day,.string p.case] _ 0 _ rfl,newcell w #[.int .i64 p.day,.string p.case] _ 1 _ rfl⟩
 case round =>
  obtain ⟨k,hk,rfl,hK,hb,p0,p1⟩:=hrel;by_cases hk0:0 < k
  ·have hTr:=HT.out.below hb;have t0:wr.cell? ⟨t,0,none⟩=some (.slice A n c):=hTr.2.1.cell 0;obtain ⟨b,off,eA,hbB,c0,hgl,c1,_,_,hPo,hgd⟩:=hTr.2.2.at_ HL.out hk;obtain ⟨A2,c2,e2,hnc2,hcm2⟩:=own_form hPo;have hl1:=HNe.out _ (leafAt_mem (ls:=ls) (k:=k) (by rw [HL.out];exact hk));rw [e2] at c1 hPo;obtain ⟨g2,eA2,hg2,q0,q1⟩:=hPo.cell rfl hgd hl1;subst eA eA2;have HPA:=uH hl1;unfold maxLen at hcm2;have hlt0:(0:Int) < ((leafAt ls k).ps.length:Int):=(by omega);have HL2:=uH (leafAt_some (ls:=ls) (k:=k) (by rw [HL.out];exact hk));have co : ∀ W,Calls Tryz.prog 146 #[.agg #[.int .i64 (padAt (leafAt ls k).ps 0).day,.string (padAt (leafAt ls k).ps 0).case],.agg #[.int .i64 p.day,.string p.case]] W fun e w'=>e = .returned (.int .i64 (ordPad (padAt (leafAt ls k).ps 0) p))∧Below W.heap.size W w':=fun W=>comparePads _ _ _ _ W;have CO:=uH co;clear co;clear hTr hPo hgd e2 hl1;rw [Nat.zero_mul] at q0;rw [Nat.zero_mul,Nat.zero_add] at q1;generalize hm:(leafAt ls k).ps.length=m at *;have HM:=uH hm;clear hm;generalize (leafAt ls k).g=gl at *;have r0:=qcell t0;have r1:=qcell c0;have r2:=qcell c1;have r3:=qcell q0;have r4:=qcell q1;have r5:=qcell p0;have r6:=qcell p1;by_cases ho:ordPad (padAt (leafAt ls k).ps 0) p≤0
   ·have HD:Hid (DrawerOf (ls.map (·.ps)) p k):=uH ⟨by rw [List.length_map,HL.out];exact hk,fun _=>by rw [drw_leaf (by rw [HL.out];exact hk)];exact ho,fun i h1 h2=>by
     rw [List.length_map,HL.out] at h2;rw [drw_leaf (by rw [HL.out];exact h2)];exact hK.out i h1 h2⟩
    clear hK;generalize ordPad (padAt (leafAt ls k).ps 0) p=o at *;generalize padAt (leafAt ls k).ps 0=q at *;(go_wp2_with fail);refine region_qb (by kernel_rfl) (by kernel_rfl) ?_;repeat (first | go_big_quiet_step ((go_at_call 146;exact quietB (CO.out _))) | quiet_step ((go_at_call 146;exact quietB (CO.out _))))
    refine wpQuiet_nil ?_;intro w3 hb3;have b3:=hb.trans (hb3.mono hb.size);clear r0 r1 r2 r3 r4 r5 r6 t0 c0 c1 q0 q1 p0 p1 hb3;go_wp2;go_ret;exact ⟨⟨k,rfl,HD.out⟩,b3⟩
   ·have HK2:Hid (∀ i,k - 1 < i→i < n→0 < ordPad (padAt (leafAt ls i).ps 0) p):=uH (fun i h1 h2=>by
     by_cases e:i=k
     ·subst e;omega
     ·exact hK.out i (by omega) h2)
    have ho':0 < ordPad (padAt (leafAt ls k).ps 0) p:=(by omega);clear hK ho;generalize ordPad (padAt (leafAt ls k).ps 0) p=o at *;generalize padAt (leafAt ls k).ps 0=q at *;(go_wp2_with fail);refine region_qb (by kernel_rfl) (by kernel_rfl) ?_;repeat (first | go_big_quiet_step ((go_at_call 146;exact quietB (CO.out _))) | quiet_step ((go_at_call 146;exact quietB (CO.out _))))
    refine wpQuiet_nil ?_;intro w3 hb3;have b3:=hb.trans (hb3.mono hb.size);have p0':=kcell hb3 p0;have p1':=kcell hb3 p1;clear r0 r1 r2 r3 r4 r5 r6 t0 c0 c1 q0 q1 p0 p1 hb3;go_wp2;go_roundw
    case rel=>exact ⟨k - 1,by omega,by congr 1;omega,HK2,b3,p0',p1'⟩
    case measure=>simp [intOf];omega
  ·obtain rfl:k=0:=(by omega);have HD:Hid (DrawerOf (ls.map (·.ps)) p 0):=uH ⟨by rw [List.length_map,HL.out];exact hk,fun h=>by omega,fun i h1 h2=>by
    rw [List.length_map,HL.out] at h2;rw [drw_leaf (by rw [HL.out];exact h2)];exact hK.out i h1 h2⟩
   clear hK;go_wp2;go_ret;exact ⟨⟨0,rfl,HD.out⟩,hb⟩
def Srch (ps:List Pad) (p:Pad) (i j:Nat):Prop:=(∀ q,q < i→ordPad (padAt ps q) p < 0)∧∀ q,j≤q→q < ps.length→0≤ordPad (padAt ps q) p
theorem Srch.start (ps:List Pad) (p:Pad):Srch ps p 0 ps.length:=⟨fun q h=>by omega,fun q h1 h2=>by omega⟩
theorem Srch.right {ps:List Pad} {p:Pad} {i j h:Nat} (hs:sortedOK ps) (hp:h < ps.length) (hS:Srch ps p i j) (ho:ordPad (padAt ps h) p < 0):Srch ps p (h+1) j :=
 ⟨fun q hq=>by
  by_cases e:q=h
  ·subst e;exact ho
  ·exact ordPad_trans (sorted_lt hs (by omega) hp) ho,hS.2⟩
theorem Srch.left {ps:List Pad} {p:Pad} {i j h:Nat} (hs:sortedOK ps) (hS:Srch ps p i j) (ho:0≤ordPad (padAt ps h) p):Srch ps p i h :=
 ⟨hS.1,fun q h1 h2=>by
  by_cases e:q=h
  ·subst e;exact ho
  ·have h3:=sorted_lt hs (show h < q by omega) h2;rcases Int.lt_or_le (ordPad (padAt ps q) p) 0 with h4 | h4
   ·have:=ordPad_trans h3 h4;omega
   ·exact h4⟩
def BsAns (ps:List Pad) (p:Pad) (e:Ending):Prop:=∃ (a:Nat) (h:Bool),e = .returned (.tuple #[.int .i64 a,.bool h])∧PlaceOf ps p a∧(h=true ↔ a < ps.length∧ordPad (padAt ps a) p=0)
theorem mid_eq (i j:Nat) (h:i < j):(i+j) / 2 < j∧i≤(i+j) / 2:=by omega
theorem bsearch (A:Option Addr) (n c:Nat) (ps:List Pad) (p:Pad) (w:World) (hn:n≤1048576) (hs:sortedOK ps) (h:PadsIn w w.heap.size A n c ps) :
  Calls Tryz.prog 191 #[.slice A n c,padVal p,.func (.func 146) #[] #[]] w fun e w'=>BsAns ps p e∧Below w.heap.size w w':=by
 have hcm:=h.2.2.1;have hnc:=h.2.1;unfold maxLen at hcm;have HL:=uH h.1;have H:=uH h;clear h;have HS:=uH hs;clear hs;have eg : ∀ args w,(callFunc 146 args).run Tryz.prog w = .ok (.enter 146 args) w:=enters_of Tryz.func146 (by kernel_rfl) rfl;unfold padVal;go_enter Tryz.func191,Tryz.ntmps191
 go_wp2;go_loopw [9,10] (fun a b wr=>∃ (i j:Nat),i≤j∧j≤n∧a = .int .i64 i∧b = .int .i64 j∧Hid (Srch ps p i j)∧Below w.heap.size w wr∧wr.cell? ⟨w.heap.size,0,none⟩=some (.int .i64 p.day)∧wr.cell? ⟨w.heap.size,1,none⟩=some (.string p.case)) (fun a b _=>(intOf b - intOf a).toNat)
 case atStart=>exact ⟨0,n,by omega,Nat.le_refl _,rfl,rfl,uH (by rw [← HL.out];exact Srch.start ps p),(Below.refl _ _).alloc (Nat.le_refl _) _,newcell w #[.int .i64 p.day,.string p.case] _ 0 _ rfl,newcell w #[.int .i64 p.day,.string p.case] _ 1 _ rfl⟩
 case round =>
  obtain ⟨i,j,hij,hj,rfl,rfl,hSr,hb,p0,p1⟩:=hrel;by_cases hlt:i < j
  ·obtain ⟨m1,m2⟩:=mid_eq i j hlt;have HH:=uH (show ((i:Int)+j) / 2=(((i+j) / 2:Nat):Int) by omega);generalize (i+j) / 2=h at *;have hhn:h < n:=(by omega);obtain ⟨b,off,eA,hbB,c0,c1,hg⟩:=(H.out.below hb).at_ hhn;have co : ∀ W,Calls Tryz.prog 146 #[.agg #[.int .i64 (padAt ps h).day,.string (padAt ps h).case],.agg #[.int .i64 p.day,.string p.case]] W fun e w'=>e = .returned (.int .i64 (ordPad (padAt ps h) p))∧Below W.heap.size W w':=fun W=>comparePads _ _ _ _ W;have CO:=uH co;clear co;have r0:=qcell c0;have r1:=qcell c1;have r2:=qcell p0;have r3:=qcell p1;have hhl:h < ps.length:=(by rw [HL.out];exact hhn);by_cases ho:ordPad (padAt ps h) p < 0
   ·have HSr:=uH (hSr.out.right HS.out hhl ho);subst eA;clear hSr hg hhl;generalize ordPad (padAt ps h) p=o at *;generalize padAt ps h=q at *;(go_wp2_with fail);rw [HH.out];refine region_qb (by kernel_rfl) (by kernel_rfl) ?_;repeat (first | go_big_quiet_step ((go_at_fn 146;exact quietB (CO.out _))) | quiet_step ((go_at_fn 146;exact quietB (CO.out _))))
    refine wpQuiet_nil ?_;intro w3 hb3;have b3:=hb.trans (hb3.mono hb.size);have p0':=kcell hb3 p0;have p1':=kcell hb3 p1;clear r0 r1 r2 r3 c0 c1 p0 p1 hb3;go_wp2;go_roundw
    case rel=>exact ⟨h+1,j,by omega,hj,by go_num,rfl,HSr,b3,p0',p1'⟩
    case measure=>simp [intOf];omega
   ·have ho':0≤ordPad (padAt ps h) p:=(by omega);have HSr:=uH (hSr.out.left HS.out ho');subst eA;clear hSr hg hhl ho;generalize ordPad (padAt ps h) p=o at *;generalize padAt ps h=q at *;(go_wp2_with fail);rw [HH.out];refine region_qb (by kernel_rfl) (by kernel_rfl) ?_;repeat (first | go_big_quiet_step ((go_at_fn 146;exact quietB (CO.out _))) | quiet_step ((go_at_fn 146;exact quietB (CO.out _))))
    refine wpQuiet_nil ?_;intro w3 hb3;have b3:=hb.trans (hb3.mono hb.size);have p0':=kcell hb3 p0;have p1':=kcell hb3 p1;clear r0 r1 r2 r3 c0 c1 p0 p1 hb3;go_wp2;go_roundw
    case rel=>exact ⟨i,h,by omega,by omega,rfl,rfl,HSr,b3,p0',p1'⟩
    case measure=>simp [intOf];omega
  ·obtain rfl:i=j:=(by omega);have HP:Hid (PlaceOf ps p i):=uH ⟨by rw [HL.out];exact hj,hSr.out.1,hSr.out.2⟩;clear hSr;by_cases hin:i < n
   ·obtain ⟨b,off,eA,hbB,c0,c1,hg⟩:=(H.out.below hb).at_ hin;have hb0:decide ((i:Int) < n)=true:=decide_eq_true (by omega);have co : ∀ W,Calls Tryz.prog 146 #[.agg #[.int .i64 (padAt ps i).day,.string (padAt ps i).case],.agg #[.int .i64 p.day,.string p.case]] W fun e w'=>e = .returned (.int .i64 (ordPad (padAt ps i) p))∧Below W.heap.size W w':=fun W=>comparePads _ _ _ _ W;have CO:=uH co;clear co;have r0:=qcell c0;have r1:=qcell c1;have r2:=qcell p0;have r3:=qcell p1;have HX:Hid (∀ e,e=Ending.returned (.tuple #[.int .i64 i,.bool (ordPad (padAt ps i) p == 0)])→BsAns ps p e):=uH (fun e he=>⟨i,_,he,HP.out,by rw [HL.out];simp [hin]⟩);subst eA;clear hg;generalize ordPad (padAt ps i) p=o at *;generalize padAt ps i=q at *;(go_wp2_with fail);refine region_qb (by kernel_rfl) (by kernel_rfl) ?_;repeat (first | go_big_quiet_step ((go_at_fn 146;exact quietB (CO.out _))) | quiet_step ((go_at_fn 146;exact quietB (CO.out _))))
    refine wpQuiet_nil ?_;intro w3 hb3;have b3:=hb.trans (hb3.mono hb.size);clear r0 r1 r2 r3 c0 c1 p0 p1 hb3;go_wp2
    go_ret2
    exact ⟨HX.out _ rfl,b3⟩
   ·have hb0:decide ((i:Int) < n)=false:=decide_eq_false (by omega);have HX:Hid (false=true ↔ i < ps.length∧ordPad (padAt ps i) p=0):=uH ⟨(fun h=>by cases h),(fun h=>by have:=h.1;rw [HL.out] at this;omega)⟩;(go_wp2_with fail);refine region_qb (by kernel_rfl) (by kernel_rfl) ?_;repeat (first | go_big_quiet_step (fail) | quiet_step (fail))
    refine wpQuiet_nil ?_;intro w3 hb3;have b3:=hb.trans (hb3.mono hb.size);clear p0 p1 hb3;go_wp2
    go_ret2
    exact ⟨⟨i,_,rfl,HP.out,HX.out⟩,b3⟩
end Go.Proofs.YtbkhnljaajajiaaGreatDoor
namespace Go.Proofs.YtbkhnljaajajiaaGreatDoor
open Go.ChangeShapes Go.WideShapes Go.ChangeAt Go.RowKit
theorem sorted_iff {l:List Pad}:sortedOK l ↔ (∀ p∈l,okP p=true)∧l.Pairwise (fun p q=>ordPad p q < 0):=by
 constructor
 ·intro h;refine ⟨fun p hp=>sorted_okP h hp,List.pairwise_iff_getElem.2 fun i j hi hj hij=>?_⟩;have:=sorted_lt h hij hj
  rwa [show padAt l i=l[i] by unfold padAt;simp [List.getD,List.getElem?_eq_getElem hi],show padAt l j=l[j] by unfold padAt;simp [List.getD,List.getElem?_eq_getElem hj]] at this
 ·rintro ⟨h1,h2⟩ i hi;refine ⟨h1 _ (padAt_mem hi),fun h0=>?_⟩;have:=List.pairwise_iff_getElem.1 h2 (i - 1) i (by omega) hi (by omega)
  rwa [show padAt l (i - 1)=l[i - 1] by unfold padAt;simp [List.getD,List.getElem?_eq_getElem (show i - 1 < l.length by omega)],show padAt l i=l[i] by unfold padAt;simp [List.getD,List.getElem?_eq_getElem hi]]
def ins (l:List Pad) (p:Pad) (a:Nat):List Pad:=l.take a++p::l.drop a
theorem ins_len {l:List Pad} {p:Pad} {a:Nat}:(ins l p a).length=l.length+1:=by
 unfold ins;rw [List.length_append,List.length_cons,List.length_take,List.length_drop];omega
def putIdx:List Pad→Pad→Nat
 | [],_=>0
 | q::r,p=>if ordPad q p < 0 then putIdx r p+1 else 0
theorem putIdx_le : ∀ (l:List Pad) (p:Pad),putIdx l p≤l.length
 | [],_=>Nat.le_refl _
 | q::r,p=>by
  unfold putIdx;split
  ·have:=putIdx_le r p;rw [List.length_cons];omega
  ·exact Nat.zero_le _
theorem padAt_cons_succ (q:Pad) (r:List Pad) (j:Nat):padAt (q::r) (j+1)=padAt r j:=by unfold padAt;simp [List.getD]
theorem padAt_cons_zero (q:Pad) (r:List Pad):padAt (q::r) 0=q:=by unfold padAt;simp [List.getD]
theorem putIdx_of : ∀ {l:List Pad} {p:Pad} {a:Nat},a≤l.length→(∀ j,j < a→ordPad (padAt l j) p < 0)→(a < l.length→¬ ordPad (padAt l a) p < 0)→putIdx l p=a
 | [],p,a,h,_,_=>by simp at h;subst h;rfl
 | q::r,p,0,_,_,h3=>by
  unfold putIdx;rw [if_neg];have:=h3 (by simp)
  rwa [padAt_cons_zero] at this
 | q::r,p,a+1,h1,h2,h3=>by
  unfold putIdx;have h0:=h2 0 (by omega);rw [padAt_cons_zero] at h0;rw [if_pos h0,putIdx_of (a:=a) (by simpa using h1) (fun j hj=>by have:=h2 (j+1) (by omega);rwa [padAt_cons_succ] at this) (fun hj=>by have:=h3 (by simpa using hj);rwa [padAt_cons_succ] at this)]
theorem place_idx {l:List Pad} {p:Pad} {a:Nat} (h:PlaceOf l p a):a=putIdx l p :=
 (putIdx_of h.1 h.2.1 (fun ha=>by have:=h.2.2 a (Nat.le_refl _) ha;omega)).symm
def fileTo (css:List (List Pad)) (p:Pad):Nat→Nat
 | 0=>0
 | k+1=>if ordPad (padAt (drw css k) 0) p < 0 then k else fileTo css p k
theorem fileTo_spec {css:List (List Pad)} {p:Pad} : ∀ {k d:Nat},(d < k∨d=0)→(0 < d→ordPad (padAt (drw css d) 0) p < 0)→(∀ i,d < i→i < k→¬ ordPad (padAt (drw css i) 0) p < 0)→fileTo css p k=d
 | 0,d,h,_,_=>by
   rcases h with h | h
   ·omega
   ·exact h.symm
 | k+1,d,h,h1,h2=>by
  unfold fileTo;by_cases hk:ordPad (padAt (drw css k) 0) p < 0
  ·rw [if_pos hk];rcases Nat.lt_trichotomy d k with hlt | he | hgt
   ·exact absurd hk (h2 k hlt (by omega))
   ·exact he.symm
   ·omega
  ·rw [if_neg hk];refine fileTo_spec (k:=k) ?_ h1 (fun i hi hik=>h2 i hi (by omega));rcases Nat.lt_trichotomy d k with hlt | he | hgt
   ·exact .inl hlt
   ·subst he;by_cases h0:0 < d
    ·exact absurd (h1 h0) hk
    ·right;omega
   ·right;omega
theorem fileTo_le (css:List (List Pad)) (p:Pad) : ∀ k,fileTo css p k≤k - 1
 | 0=>Nat.le_refl _
 | k+1=>by
  unfold fileTo;split
  ·omega
  ·have:=fileTo_le css p k;omega
def halfOf (n:Nat):Nat:=if 4 < n then (n+1) / 2 else n
def partsAt (css:List (List Pad)) (a:Nat) (f:List Pad):List (List Pad):=css.take a++([f.take (halfOf f.length),f.drop (halfOf f.length)]++css.drop (a+1))
def full? (l:List Pad):Bool:=!(l.length == 0)
def filed (css:List (List Pad)) (p:Pad):List (List Pad) :=
 (partsAt css (fileTo css p css.length) (ins (drw css (fileTo css p css.length)) p (putIdx (drw css (fileTo css p css.length)) p))).filter full?
def fileS (css:List (List Pad)) (p:Pad):Option (List (List Pad)) :=
 if css.length=0 then some [[p]] else if 6 < (filed css p).length then none else some (filed css p)
noncomputable def fileO (css:List (List Pad)) (p:Pad):Option (List (List Pad)) :=
 @ite _ (cabOK css∧okP p=true∧findO css p=none) (Classical.propDecidable _) (fileS css p) none
theorem fileO_yes {css:List (List Pad)} {p:Pad} (h1:cabOK css) (h2:okP p=true) (h3:findO css p=none):fileO css p=fileS css p:=by unfold fileO;rw [if_pos ⟨h1,h2,h3⟩]
theorem fileO_no {css:List (List Pad)} {p:Pad} (h : ¬ (cabOK css∧okP p=true∧findO css p=none)):fileO css p=none:=by unfold fileO;rw [if_neg h]
theorem drawer_file {css:List (List Pad)} {p:Pad} {d:Nat} (hc:cabOK css) (hf:findO css p=none) (hd:DrawerOf css p d):fileTo css p css.length=d:=by
 have hno:=findO_none hc hf;refine fileTo_spec (.inl hd.1) (fun h0=>?_) (fun i hi hil=>by have:=hd.2.2 i hi hil;omega);have h1:=hd.2.1 h0;by_cases h2:ordPad (padAt (drw css d) 0) p=0
 ·exact absurd ⟨hd.1,(hc.2.1 _ (drw_mem hd.1)).1,ordPad_nil.1 h2⟩ (hno d 0)
 ·omega
theorem full_iff {l:List Pad}:full? l=true ↔ 1≤l.length:=by
 unfold full?;cases l <;> simp
theorem filter_full {css:List (List Pad)} (h : ∀ ps∈css,lenOK ps):css.filter full? = css:=List.filter_eq_self.2 fun x hx=>full_iff.2 (h x hx).1
theorem halfOf_small {n:Nat} (h:n≤4):halfOf n=n:=by unfold halfOf;rw [if_neg (by omega)]
theorem halfOf_great {n:Nat} (h:4 < n):halfOf n=(n+1) / 2:=by unfold halfOf;rw [if_pos h]
def turned (css:List (List Pad)) (a:Nat) (f:List Pad):List (List Pad):=if 4 < f.length then css.take a++(f.take ((f.length+1) / 2)::f.drop ((f.length+1) / 2)::css.drop (a+1)) else css.take a++(f::css.drop (a+1))
theorem parts_turned {css:List (List Pad)} {a:Nat} {f:List Pad} (h : ∀ ps∈css,lenOK ps) (hf:1≤f.length):(partsAt css a f).filter full? = turned css a f:=by
 have h1:(css.take a).filter full? = css.take a:=filter_full fun x hx=>h x (List.mem_of_mem_take hx);have h2:(css.drop (a+1)).filter full? = css.drop (a+1):=filter_full fun x hx=>h x (List.mem_of_mem_drop hx);unfold partsAt turned;rw [List.filter_append,List.filter_append,h1,h2];by_cases h4:4 < f.length
 ·rw [if_pos h4,halfOf_great h4];have f1:full? (f.take ((f.length+1) / 2))=true:=full_iff.2 (by rw [List.length_take];omega);have f2:full? (f.drop ((f.length+1) / 2))=true:=full_iff.2 (by rw [List.length_drop];omega);simp [f1,f2]
 ·rw [if_neg h4,halfOf_small (by omega)];have f1:full? (f.take f.length)=true:=full_iff.2 (by rw [List.length_take];omega);have f2:full? (f.drop f.length)=false:=by
   cases hx:full? (f.drop f.length) with
   | false=>rfl
   | true=>have:=full_iff.1 hx;rw [List.length_drop] at this;omega
  rw [List.filter_cons,if_pos f1,List.filter_cons,if_neg (by rw [f2];simp),List.take_length];simp
theorem filed_eq {css:List (List Pad)} {p:Pad} {d a:Nat} (hc:cabOK css) (hf:findO css p=none) (hd:DrawerOf css p d) (ha:PlaceOf (drw css d) p a):filed css p=turned css d (ins (drw css d) p a):=by
 unfold filed;rw [drawer_file hc hf hd,← place_idx ha,parts_turned hc.2.1 (by rw [ins_len];omega)]
theorem fileS_nil (p:Pad):fileS [] p=some [[p]]:=rfl
theorem fileS_turned {css:List (List Pad)} {p:Pad} {d a:Nat} (hc:cabOK css) (hf:findO css p=none) (hd:DrawerOf css p d) (ha:PlaceOf (drw css d) p a):fileS css p=if 6 < (turned css d (ins (drw css d) p a)).length then none else some (turned css d (ins (drw css d) p a)):=by
 unfold fileS;rw [if_neg (by have:=hd.1;omega),filed_eq hc hf hd ha]
theorem turned_flat {css:List (List Pad)} {a:Nat} {f:List Pad}:(turned css a f).flatten=(css.take a).flatten++(f++(css.drop (a+1)).flatten):=by
 unfold turned;split
 ·rw [List.flatten_append,List.flatten_cons,List.flatten_cons,← List.append_assoc (f.take _),List.take_append_drop]
 ·rw [List.flatten_append,List.flatten_cons]
theorem css_flat {css:List (List Pad)} {d:Nat} (h:d < css.length):css.flatten=(css.take d).flatten++(drw css d++(css.drop (d+1)).flatten):=by
 have h:=congrArg List.flatten (css_split h);rw [List.flatten_append,List.flatten_cons] at h;exact h
theorem mem_take_flat {css:List (List Pad)} {d:Nat} {q:Pad} (h:q∈(css.take d).flatten) : ∃ i k,i < d∧i < css.length∧k < (drw css i).length∧padAt (drw css i) k=q:=by
 obtain ⟨l,hl,hq⟩:=List.mem_flatten.1 h;obtain ⟨i,hi,rfl⟩:=List.getElem_of_mem hl;rw [List.length_take] at hi;obtain ⟨k,hk,rfl⟩:=List.getElem_of_mem hq;rw [List.getElem_take] at hk;have hi2:i < css.length:=(by omega);have e:drw css i=css[i]:=(by unfold drw;simp [List.getD,List.getElem?_eq_getElem hi2]);refine ⟨i,k,by omega,hi2,by rw [e];exact hk,?_⟩;rw [e];unfold padAt;simp [List.getD,List.getElem?_eq_getElem hk]
theorem mem_drop_flat {css:List (List Pad)} {d:Nat} {q:Pad} (h:q∈(css.drop d).flatten) : ∃ i k,d≤i∧i < css.length∧k < (drw css i).length∧padAt (drw css i) k=q:=by
 obtain ⟨l,hl,hq⟩:=List.mem_flatten.1 h;obtain ⟨i,hi,rfl⟩:=List.getElem_of_mem hl;rw [List.length_drop] at hi;obtain ⟨k,hk,rfl⟩:=List.getElem_of_mem hq;rw [List.getElem_drop] at hk;have hi2:d+i < css.length:=(by omega);have e:drw css (d+i)=css[d+i]:=(by unfold drw;simp [List.getD,List.getElem?_eq_getElem hi2]);refine ⟨d+i,k,by omega,hi2,by rw [e];exact hk,?_⟩;rw [e];unfold padAt;simp [List.getD,List.getElem?_eq_getElem hk]
theorem ins_sorted {A x C:List Pad} {p:Pad} {a:Nat} (h:sortedOK (A++(x++C))) (hp:okP p=true) (h1 : ∀ q∈A++x.take a,ordPad q p < 0) (h2 : ∀ q∈x.drop a++C,ordPad p q < 0):sortedOK (A++(ins x p a++C)):=by
 have e1:A++(x++C)=(A++x.take a)++(x.drop a++C):=by
  rw [List.append_assoc,← List.append_assoc (x.take a),List.take_append_drop]
 have e2:A++(ins x p a++C)=(A++x.take a)++(p::(x.drop a++C)):=(by unfold ins;simp);rw [e2];rw [e1] at h;generalize A++x.take a=L at *;generalize x.drop a++C=R at *;rw [sorted_iff] at *;obtain ⟨g1,g2⟩:=h;rw [List.pairwise_append] at g2;refine ⟨fun q hq=>?_,List.pairwise_append.2 ⟨g2.1,List.pairwise_cons.2 ⟨h2,g2.2.1⟩,fun q hq r hr=>?_⟩⟩
 ·rcases List.mem_append.1 hq with hq | hq
  ·exact g1 q (List.mem_append.2 (.inl hq))
  ·rcases List.mem_cons.1 hq with rfl | hq
   ·exact hp
   ·exact g1 q (List.mem_append.2 (.inr hq))
 ·rcases List.mem_cons.1 hr with rfl | hr
  ·exact h1 q hq
  ·exact g2.2.2 q hq r hr
theorem file_before {css:List (List Pad)} {p:Pad} {d a:Nat} (hc:cabOK css) (hf:findO css p=none) (hd:DrawerOf css p d) (ha:PlaceOf (drw css d) p a):(∀ q∈(css.take d).flatten++(drw css d).take a,ordPad q p < 0)∧∀ q∈(drw css d).drop a++(css.drop (d+1)).flatten,ordPad p q < 0:=by
 have hno:=findO_none hc hf;have hpos : ∀ {j},j < css.length→0 < (drw css j).length:=fun hj=>(hc.2.1 _ (drw_mem hj)).1;constructor
 ·intro q hq;rcases List.mem_append.1 hq with hq | hq
  ·obtain ⟨i,k,h1,h2,h3,rfl⟩:=mem_take_flat hq;have q1:=hd.2.1 (by omega);have q2:=cab_lt hc.2.2 h2 h3 hd.1 (hpos hd.1) (.inl h1);by_cases e:ordPad (padAt (drw css d) 0) p=0
   ·rw [ordPad_nil] at e;rw [e] at q2;exact q2
   ·exact ordPad_trans q2 (by omega)
  ·obtain ⟨j,hj,rfl⟩:=List.getElem_of_mem hq;rw [List.length_take] at hj;have:=ha.2.1 j (by omega)
   rwa [show padAt (drw css d) j=(drw css d)[j]'(by omega) by unfold padAt;simp [List.getD,List.getElem?_eq_getElem (show j < (drw css d).length by omega)],← List.getElem_take (j:=a) (h:=by rw [List.length_take];omega)] at this
 ·intro q hq;rcases List.mem_append.1 hq with hq | hq
  ·obtain ⟨j,hj,rfl⟩:=List.getElem_of_mem hq;rw [List.length_drop] at hj;have h1:=ha.2.2 (a+j) (by omega) (by omega);have h2:ordPad (padAt (drw css d) (a+j)) p≠0:=fun e=>hno d (a+j) ⟨hd.1,by omega,ordPad_nil.1 e⟩;have h3:=ordPad_anti (padAt (drw css d) (a+j)) p;rw [List.getElem_drop];rw [show padAt (drw css d) (a+j)=(drw css d)[a+j]'(by omega) by unfold padAt;simp [List.getD,List.getElem?_eq_getElem (show a+j < (drw css d).length by omega)]] at h1 h2 h3;omega
  ·obtain ⟨i,k,h1,h2,h3,rfl⟩:=mem_drop_flat hq;have q1:=hd.2.2 i (by omega) h2;have q3:=ordPad_anti (padAt (drw css i) 0) p;by_cases hk:k=0
   ·subst hk;omega
   ·have q2:=cab_lt hc.2.2 h2 (hpos h2) h2 h3 (.inr ⟨rfl,by omega⟩);exact ordPad_trans (by omega) q2
theorem turned_ok {css:List (List Pad)} {p:Pad} {d a:Nat} (hc:cabOK css) (hp:okP p=true) (hf:findO css p=none) (hd:DrawerOf css p d) (ha:PlaceOf (drw css d) p a) (h6:(turned css d (ins (drw css d) p a)).length≤6):cabOK (turned css d (ins (drw css d) p a)):=by
 refine ⟨h6,?_,?_⟩
 ·have hl:=ins_len (l:=drw css d) (p:=p) (a:=a);have hdl:=hc.2.1 _ (drw_mem hd.1);have h1 : ∀ ps∈css.take d,lenOK ps:=fun x hx=>hc.2.1 x (List.mem_of_mem_take hx);have h2 : ∀ ps∈css.drop (d+1),lenOK ps:=fun x hx=>hc.2.1 x (List.mem_of_mem_drop hx);generalize ins (drw css d) p a=f at *;unfold lenOK at hdl;unfold turned;split
  ·intro x hx;rcases List.mem_append.1 hx with hx | hx
   ·exact h1 x hx
   ·rcases List.mem_cons.1 hx with rfl | hx
    ·unfold lenOK;rw [List.length_take];omega
    ·rcases List.mem_cons.1 hx with rfl | hx
     ·unfold lenOK;rw [List.length_drop];omega
     ·exact h2 x hx
  ·intro x hx;rcases List.mem_append.1 hx with hx | hx
   ·exact h1 x hx
   ·rcases List.mem_cons.1 hx with rfl | hx
    ·unfold lenOK;omega
    ·exact h2 x hx
 ·rw [turned_flat];have hs:=hc.2.2;rw [css_flat hd.1] at hs;obtain ⟨b1,b2⟩:=file_before hc hf hd ha;exact ins_sorted hs hp b1 b2
theorem single_ok {p:Pad} (hp:okP p=true):cabOK [[p]]:=by
 refine ⟨by simp,fun x hx=>?_,?_⟩
 ·simp at hx;subst hx;exact ⟨by simp,by simp⟩
 ·rw [sorted_iff];simp [hp]
end Go.Proofs.YtbkhnljaajajiaaGreatDoor
namespace Go.Proofs.YtbkhnljaajajiaaGreatDoor
open Go.ChangeShapes Go.WideShapes Go.ChangeAt Go.RowKit Go.Shelf
def findV:Option (Nat × Nat)→Value
 | some (i,k)=>.tuple #[.int .i64 i,.int .i64 k,.bool true]
 | none=>.tuple #[.int .i64 0,.int .i64 0,.bool false]
def FindAns (o:Option (Nat × Nat)) (e:Ending):Prop:=e = .returned (findV o)
theorem FindAns.no {o:Option (Nat × Nat)} {e:Ending} (h:o=none) (he:e = .returned (.tuple #[.int .i64 0,.int .i64 0,.bool false])):FindAns o e:=by subst h;exact he
theorem FindAns.yes {o:Option (Nat × Nat)} {e:Ending} {i k:Nat} (h:o=some (i,k)) (he:e = .returned (.tuple #[.int .i64 i,.int .i64 k,.bool true])):FindAns o e:=by subst h;exact he
theorem findV_cases (o:Option (Nat × Nat)) : ∃ (a b:Int) (h:Bool),findV o = .tuple #[.int .i64 a,.int .i64 b,.bool h]:=by
 rcases o with _ | ⟨i,k⟩
 ·exact ⟨_,_,_,rfl⟩
 ·exact ⟨_,_,_,rfl⟩
theorem sorted_drw {css:List (List Pad)} (hs:sortedOK css.flatten) {i:Nat} (hi:i < css.length):sortedOK (drw css i):=fun k hk=>by
 obtain ⟨a1,a2⟩:=cpos_at hi hk;refine ⟨?_,fun h0=>cab_lt hs hi (by omega) hi hk (.inr ⟨rfl,by omega⟩)⟩;rw [← a2];exact (hs _ a1).1
theorem putIdx_lt : ∀ {l:List Pad} {p:Pad} {j:Nat},j < putIdx l p→ordPad (padAt l j) p < 0
 | [],p,j,h=>by simp [putIdx] at h
 | q::r,p,j,h=>by
  unfold putIdx at h;split at h
  ·rename_i h0
   rcases j with _ | j
   ·rw [padAt_cons_zero];exact h0
   ·rw [padAt_cons_succ];exact putIdx_lt (by omega)
  ·omega
theorem putIdx_ge : ∀ {l:List Pad} {p:Pad},putIdx l p < l.length→0≤ordPad (padAt l (putIdx l p)) p
 | [],p,h=>by simp at h
 | q::r,p,h=>by
  by_cases h0:ordPad q p < 0
  ·have e:putIdx (q::r) p=putIdx r p+1:=(by rw [putIdx,if_pos h0]);rw [e] at h ⊢;rw [padAt_cons_succ];exact putIdx_ge (by simpa using h)
  ·have e:putIdx (q::r) p=0:=(by rw [putIdx,if_neg h0]);rw [e,padAt_cons_zero];omega
theorem putIdx_place {l:List Pad} {p:Pad} (hs:sortedOK l):PlaceOf l p (putIdx l p) :=
 ⟨putIdx_le l p,fun j hj=>putIdx_lt hj,fun j h1 h2=>by
  have h0:=putIdx_ge (l:=l) (p:=p) (by omega);exact (Srch.left (i:=0) (j:=l.length) hs (Srch.start l p) h0).2 j h1 h2⟩
def bsB (ps:List Pad) (p:Pad):Bool:=decide (putIdx ps p < ps.length∧ordPad (padAt ps (putIdx ps p)) p=0)
theorem bsearchV (A:Option Addr) (n c:Nat) (ps:List Pad) (p:Pad) (w:World) (hn:n≤1048576) (hs:sortedOK ps) (h:PadsIn w w.heap.size A n c ps) :
  Calls Tryz.prog 191 #[.slice A n c,padVal p,.func (.func 146) #[] #[]] w fun e w'=>e = .returned (.tuple #[.int .i64 (putIdx ps p),.bool (bsB ps p)])∧Below w.heap.size w w' :=
 (bsearch A n c ps p w hn hs h).mono fun e w' ⟨⟨a,b,he,hP,hb⟩,hw⟩=>by
  refine ⟨?_,hw⟩;have e1:=place_idx hP;subst e1;have hbb:b=bsB ps p:=(by unfold bsB;rw [Bool.eq_iff_iff,hb];simp);rw [he,hbb]
theorem treeFind (t:Nat) (v:Value) (ls:List Leaf) (B:Nat) (p:Pad) (w:World) (hc:cabOK (ls.map (·.ps))) (h:TreeIn w B t v ls) :
  Calls Tryz.prog 136 #[.pointer (some ⟨t,0,none⟩),padVal p] w fun e w'=>FindAns (findO (ls.map (·.ps)) p) e∧Below w.heap.size w w':=by
 obtain ⟨A,c,rfl,hnc,hm⟩:=own_form h.2.2.1;have hal:Below w.heap.size w (w.alloc (.cells #[.int .i64 p.day,.string p.case] 53)):=(Below.refl _ _).alloc (Nat.le_refl _) _;have k0:(w.alloc (.cells #[.int .i64 p.day,.string p.case] 53)).cell? ⟨t,0,none⟩=some (.slice A ls.length c):=Lib.cell?_alloc_some _ (h.2.1.cell 0);have hlen : ∀ l∈ls,lenOK l.ps:=fun l hl=>hc.2.1 l.ps (List.mem_map_of_mem hl);have HT:=uH h;have HC:=uH hc;unfold maxLen at hm;by_cases hn:ls.length=0
 ·have HN:Hid (findO (ls.map (·.ps)) p=none):=uH (findO_no fun i k hf=>by have:=hf.1;rw [List.length_map,hn] at this;omega);clear h hc hlen;rw [hn] at k0 hnc;clear hn;unfold padVal;go_enter Tryz.func136,Tryz.ntmps136
  go_wp2;go_returns;exact ⟨.no HN.out rfl,hal⟩
 ·have hn1:1≤ls.length:=(by omega);have HD:=uH (drawerFor t _ ls B p _ hn1 (fun l hl=>(hlen l hl).1) (h.below hal));have HLn:=uH hlen;have hn0:((ls.length:Int) == 0)=false:=beq_eq_false_iff_ne.2 (by omega);clear h hc hlen hn;unfold padVal at HD ⊢;go_enter Tryz.func136,Tryz.ntmps136
  (go_wp2_with fail);refine HD.out.mono ?_;rintro e w1 ⟨⟨d,rfl,hd⟩,hb1⟩;have b1:Below w.heap.size w w1:=below_next hal hb1;have hdl:d < ls.length:=(by have:=hd.1;rwa [List.length_map] at this);have p0:=kcell hb1 (newcell w #[.int .i64 p.day,.string p.case] 53 0 _ rfl);have p1:=kcell hb1 (newcell w #[.int .i64 p.day,.string p.case] 53 1 _ rfl);have t0:=kcell hb1 k0;have hTr:=HT.out.below b1;obtain ⟨b,off,eA,hbB,c0,hgl,c1,_,_,hPo,hgd⟩:=hTr.2.2.at_ rfl hdl;obtain ⟨A2,c2,e2,hnc2,hcm2⟩:=own_form hPo;rw [e2] at c1 hPo;subst eA;have hml:=HLn.out _ (leafAt_mem hdl);unfold maxLen at hcm2;have HPR:=uH (hPo.reads rfl hgd);have hdw:=drw_leaf (ls:=ls) hdl;have hsd:sortedOK (leafAt ls d).ps:=(by rw [← hdw];exact sorted_drw HC.out.2.2 (by rw [List.length_map];exact hdl));have HBS:Hid (∀ W,Below w1.heap.size w1 W→Calls Tryz.prog 191 #[.slice A2 (leafAt ls d).ps.length c2,.agg #[.int .i64 p.day,.string p.case],.func (.func 146) #[] #[]] W fun e w'=>e = .returned (.tuple #[.int .i64 (putIdx (leafAt ls d).ps p),.bool (bsB (leafAt ls d).ps p)])∧Below W.heap.size W w'):=uH (fun W hW =>
   bsearchV A2 _ c2 (leafAt ls d).ps p W (by have:=hml.2;omega) hsd ((HPR.out.below hW).more hW.size))
  have HPl:=uH (putIdx_place (p:=p) hsd);have HD2:=uH hd;have HDW:=uH hdw;clear hTr hPo hgd e2 hml hsd hd hdw hnc2 hcm2;generalize hps:(leafAt ls d).ps=ps at *;clear hps;generalize (leafAt ls d).g=gl at *;have r0:=qcell t0;have r1:=qcell c0;have r2:=qcell c1;have r3:=qcell p0;have r4:=qcell p1;(go_wp2_with fail);refine region_qb (by kernel_rfl) (by kernel_rfl) ?_;repeat (first | go_big_quiet_step ((go_at_call 191;exact quietB (HBS.out _ (below_regrown w1 _ _)))) | quiet_step ((go_at_call 191;exact quietB (HBS.out _ (below_regrown w1 _ _)))))
  refine wpQuiet_nil ?_;intro w3 hb3;have b3:=below_next b1 hb3;clear r0 r1 r2 r3 r4 t0 c0 c1 p0 p1 hb3;have hdw2:=HDW.out;cases hq:bsB ps p with
  | true =>
   have HY:Hid (findO (ls.map (·.ps)) p=some (d,putIdx ps p)):=uH (by
    have h1:=of_decide_eq_true hq;have h2:=HPl.out;rw [← hdw2] at h1 h2 ⊢;exact find_yes HC.out HD2.out h2 h1.1 h1.2)
   clear hq hdw2;go_wp2;go_returns;exact ⟨.yes HY.out rfl,b3⟩
  | false =>
   have HY:Hid (findO (ls.map (·.ps)) p=none):=uH (by
    have h1:=of_decide_eq_false hq;have h2:=HPl.out;rw [← hdw2] at h1 h2;exact find_not HC.out HD2.out h2 h1)
   clear hq hdw2;go_wp2;go_returns;exact ⟨.no HY.out rfl,b3⟩
theorem pad_same {p q:Pad}:(p.day == q.day && p.case.toList == q.case.toList)=true ↔ p=q:=by
 rw [toL,toL];constructor
 ·intro h;rw [Bool.and_eq_true] at h;exact pad_ext (by simpa using h.1) (by simpa using h.2)
 ·rintro rfl;simp
theorem specCabinetFind (A:Option Addr) (n c:Nat) (ds:List Drawer) (p:Pad) (w:World) (hsz:cabSz ds≤1048576) (h:DrawersIn w w.heap.size A n c ds) :
  Calls Tryz.prog 142 #[.slice A n c,padVal p] w fun e w'=>FindAns (findO (ds.map (·.ps)) p) e∧Below w.heap.size w w':=by
 have hm:=h.2.2.1;have hnc:=h.2.1;have HL:Hid (ds.length=n):=uH h.1;unfold maxLen at hm;have H:=uH h;clear h;have HV:Hid (∀ W,Below w.heap.size w W→Calls Tryz.prog 119 #[.slice A n c] W fun e w'=>e = .returned (.bool (cabB (ds.map (·.ps))))∧Below W.heap.size W w'):=uH (fun W hW=>specCabinetValid A n c ds W hsz ((H.out.below hW).more hW.size));unfold padVal;cases hv:cabB (ds.map (·.ps)) with
 | false =>
  have HN:Hid (findO (ds.map (·.ps)) p=none):=uH (findO_bad (fun hc=>by rw [cabB_yes hc] at hv;cases hv));rw [hv] at HV;clear hv;go_enter Tryz.func142,Tryz.ntmps142
  go_wp2;go_loopw [7] (fun i wr=>i = .int .i64 0∧Below w.heap.size w wr) (fun _ _=>0)
  case atStart=>exact ⟨rfl,(Below.refl _ _).alloc (Nat.le_refl _) _⟩
  case round =>
   obtain ⟨rfl,hb⟩:=hrel;by_cases hlt:0 < n
   ·have hV:=uH (HV.out _ hb);(go_wp2_with fail);refine hV.out.mono ?_;rintro e w1 ⟨rfl,hb1⟩;have b1:=hb.trans (hb1.mono hb.size);clear hb1;go_wp2;go_returns;exact ⟨.no HN.out rfl,b1⟩
   ·obtain rfl:n=0:=(by omega);go_wp2;go_returns;exact ⟨.no HN.out rfl,hb⟩
 | true =>
  have hg0:Tryz.prog.eqGuardType Tryz.prog.depth 53=false:=(by kernel_rfl);have HC:=uH (cabB_iff.1 hv);rw [hv] at HV;clear hv;go_enter Tryz.func142,Tryz.ntmps142
  go_wp2;go_loopw [7] (fun i wr=>∃ k:Nat,k≤n∧i = .int .i64 k∧Hid (∀ i j,i < k→¬ FoundAt (ds.map (·.ps)) p i j)∧Below w.heap.size w wr∧wr.cell? ⟨w.heap.size,0,none⟩=some (.int .i64 p.day)∧wr.cell? ⟨w.heap.size,1,none⟩=some (.string p.case)) (fun i _=>n - (intOf i).toNat)
  case atStart=>exact ⟨0,Nat.zero_le _,rfl,uH (fun i j h=>by omega),(Below.refl _ _).alloc (Nat.le_refl _) _,newcell w #[.int .i64 p.day,.string p.case] _ 0 _ rfl,newcell w #[.int .i64 p.day,.string p.case] _ 1 _ rfl⟩
  case round =>
   obtain ⟨k,hk,rfl,hF,hb,p0,p1⟩:=hrel;by_cases hlt:k < n
   ·have hV:=uH (HV.out _ hb);have hkl:k < ds.length:=(by rw [HL.out];exact hlt);have hdw:=uH (drw_dr (ds:=ds) hkl);(go_wp2_with fail);refine hV.out.mono ?_;rintro e w1 ⟨rfl,hb1⟩;have b1:=hb.trans (hb1.mono hb.size);have q0:=kcell hb1 p0;have q1:=kcell hb1 p1;clear hb1 p0 p1 hV hb;obtain ⟨b,off,eA,hbB,c0w,hP⟩:=H.out.at_ hlt;have c0:w1.cell? ⟨b,off+k,none⟩=some (.slice (drAt ds k).A (drAt ds k).n (drAt ds k).c):=(b1.cell (p:=⟨b,off+k,none⟩) hbB).trans c0w;subst eA;have hdl:=hP.1;have hcm2:=hP.2.2.1;have hnc2:=hP.2.1;unfold maxLen at hcm2;have HP:=uH hP;clear hP;have HDL:=uH hdl;clear hdl;clear hkl;generalize drAt ds k=d at *;go_wp2;go_loopw [8] (fun i wr=>∃ j:Nat,j≤d.n∧i = .int .i64 j∧Hid (∀ q,q < j→padAt d.ps q≠p)∧Below w.heap.size w wr∧wr.cell? ⟨w.heap.size,0,none⟩=some (.int .i64 p.day)∧wr.cell? ⟨w.heap.size,1,none⟩=some (.string p.case)) (fun i _=>d.n - (intOf i).toNat)
    case atStart=>exact ⟨0,Nat.zero_le _,rfl,uH (fun q h=>by omega),b1,q0,q1⟩
    case round =>
     obtain ⟨j,hj,rfl,hG,hb,p0,p1⟩:=hrel;have c0r:wr.cell? ⟨b,off+k,none⟩=some (.slice d.A d.n d.c):=(hb.cell (p:=⟨b,off+k,none⟩) hbB).trans c0w;by_cases hlj:j < d.n
     ·obtain ⟨b2,off2,eA2,hbB2,x0,x1,hg⟩:=(HP.out.below hb).at_ hlj;have hE : ∀ W,(binOp .eql 53 (.agg #[.int .i64 (padAt d.ps j).day,.string (padAt d.ps j).case]) (.agg #[.int .i64 p.day,.string p.case])).run Tryz.prog W = .ok (.bool ((padAt d.ps j).day == p.day && (padAt d.ps j).case.toList == p.case.toList)) W:=fun W=>eqPadRun _ _ _ _ W;cases he:((padAt d.ps j).day == p.day && (padAt d.ps j).case.toList == p.case.toList) with
      | true =>
       have HY:Hid (findO (ds.map (·.ps)) p=some (k,j)):=uH (findO_yes HC.out ⟨by rw [List.length_map,HL.out];exact hlt,by rw [hdw.out,HDL.out];exact hlj,by rw [hdw.out];exact pad_same.1 he⟩);rw [he] at hE;clear he hg hG;generalize padAt d.ps j=q at *;rw [eA2] at c0r;have r0:=qcell c0r;have r1:=qcell x0;have r2:=qcell x1;have r3:=qcell p0;have r4:=qcell p1;clear eA2;(go_wp2_with fail);refine region_qb (by kernel_rfl) (by kernel_rfl) ?_;repeat (first | go_big_quiet_step (fail) | quiet_step (fail))
       refine wpQuiet_nil ?_;intro w3 hb3;have b3:=hb.trans (hb3.mono hb.size);clear r0 r1 r2 r3 r4 x0 x1 p0 p1 c0r hb3;go_wp2;go_returns;exact ⟨.yes HY.out rfl,b3⟩
      | false =>
       have HG2:Hid (∀ q,q < j+1→padAt d.ps q≠p):=uH (fun q hq=>by
        by_cases e:q=j
        ·subst e;exact fun h=>by rw [pad_same.2 h] at he;cases he
        ·exact hG.out q (by omega))
       rw [he] at hE;clear he hg hG;generalize padAt d.ps j=q at *;rw [eA2] at c0r;have r0:=qcell c0r;have r1:=qcell x0;have r2:=qcell x1;have r3:=qcell p0;have r4:=qcell p1;clear eA2;(go_wp2_with fail);refine region_qb (by kernel_rfl) (by kernel_rfl) ?_;repeat (first | go_big_quiet_step (fail) | quiet_step (fail))
       refine wpQuiet_nil ?_;intro w3 hb3;have b3:=hb.trans (hb3.mono hb.size);have p0':=kcell hb3 p0;have p1':=kcell hb3 p1;clear r0 r1 r2 r3 r4 x0 x1 p0 p1 c0r hb3;go_wp2;go_roundw
       case rel=>exact ⟨j+1,by omega,by go_num,HG2,b3,p0',p1'⟩
       case measure=>simp [intOf];omega
     ·obtain rfl:j=d.n:=(by omega);have HF2:Hid (∀ i j,i < k+1→¬ FoundAt (ds.map (·.ps)) p i j):=uH (fun i j hi hf=>by
       by_cases e:i=k
       ·subst e;obtain ⟨_,f2,f3⟩:=hf;rw [hdw.out] at f2 f3;exact hG.out j (by rw [← HDL.out];exact f2) f3
       ·exact hF.out i j (by omega) hf)
      clear hG hF;go_wp2;go_roundw
      case rel=>exact ⟨k+1,by omega,by go_num,HF2,hb,p0,p1⟩
      case measure=>simp [intOf];omega
   ·have HN:Hid (findO (ds.map (·.ps)) p=none):=uH (findO_no (fun i j hf=>hF.out i j (by have:=hf.1;rw [List.length_map,HL.out] at this;omega) hf));go_wp2;go_returns;exact ⟨.no HN.out rfl,hb⟩
end Go.Proofs.YtbkhnljaajajiaaGreatDoor
namespace Go.Proofs.YtbkhnljaajajiaaGreatDoor
open Go.ChangeShapes Go.WideShapes Go.ChangeAt Go.RowKit
theorem fileTo_props (css:List (List Pad)) (p:Pad) : ∀ k,(0 < fileTo css p k→ordPad (padAt (drw css (fileTo css p k)) 0) p < 0)∧∀ i,fileTo css p k < i→i < k→¬ ordPad (padAt (drw css i) 0) p < 0
 | 0=>⟨fun h=>by simp [fileTo] at h,fun i _ h=>by omega⟩
 | k+1=>by
  obtain ⟨h1,h2⟩:=fileTo_props css p k;unfold fileTo;by_cases hk:ordPad (padAt (drw css k) 0) p < 0
  ·rw [if_pos hk];exact ⟨fun _=>hk,fun i a b=>by omega⟩
  ·rw [if_neg hk];refine ⟨h1,fun i a b=>?_⟩;by_cases e:i=k
   ·subst e;exact hk
   ·exact h2 i a (by omega)
theorem drawer_ex {css:List (List Pad)} {p:Pad} (hc:cabOK css) (hf:findO css p=none) (hn:0 < css.length):DrawerOf css p (fileTo css p css.length):=by
 have hno:=findO_none hc hf;obtain ⟨h1,h2⟩:=fileTo_props css p css.length;have hle:=fileTo_le css p css.length;refine ⟨by omega,fun h=>by have:=h1 h;omega,fun i a b=>?_⟩;have h3:=h2 i a b;have h4:ordPad (padAt (drw css i) 0) p≠0:=fun e=>hno i 0 ⟨b,(hc.2.1 _ (drw_mem b)).1,ordPad_nil.1 e⟩;omega
theorem cab_nil:cabOK []:=⟨by simp,by simp,fun i hi=>by simp at hi⟩
theorem fileS_ok {css css':List (List Pad)} {p:Pad} (hc:cabOK css) (hp:okP p=true) (hf:findO css p=none) (h:fileS css p=some css'):cabOK css':=by
 by_cases hn:css.length=0
 ·unfold fileS at h;rw [if_pos hn] at h;injection h with h;subst h;exact single_ok hp
 ·have hd:=drawer_ex hc hf (by omega);have ha:=putIdx_place (p:=p) (sorted_drw hc.2.2 hd.1);rw [fileS_turned hc hf hd ha] at h;by_cases h6:6 < (turned css (fileTo css p css.length) (ins (drw css (fileTo css p css.length)) p (putIdx (drw css (fileTo css p css.length)) p))).length
  ·rw [if_pos h6] at h;cases h
  ·rw [if_neg h6] at h;injection h with h;subst h;exact turned_ok hc hp hf hd ha (by omega)
theorem fileO_ok {css css':List (List Pad)} {p:Pad} (h:fileO css p=some css'):cabOK css':=by
 by_cases hx:cabOK css∧okP p=true∧findO css p=none
 ·rw [fileO_yes hx.1 hx.2.1 hx.2.2] at h;exact fileS_ok hx.1 hx.2.1 hx.2.2 h
 ·rw [fileO_no hx] at h;cases h
theorem put1 {w w3 w4:World} {v1:Value} {k:Nat} {xs:List Value} {x y:Value} (b3:Below w.heap.size w w3) (p0:w3.cell? ⟨w.heap.size,0,none⟩=some x) (p1:w3.cell? ⟨w.heap.size,1,none⟩=some y)
  (hg:(w3.alloc (.cells #[] 53)).grownBy w4 (Value.slice (some ⟨w3.heap.size,0,none⟩) 0 0).ownBlock) (ho:w4.ownsRow w.heap.size 53 2 v1 (0+k) ([]++xs)) :
  Below w.heap.size w w4∧w4.cell? ⟨w.heap.size,0,none⟩=some x∧w4.cell? ⟨w.heap.size,1,none⟩=some y∧Hid (w4.ownsRow w.heap.size 53 2 v1 k xs):=by
 have z:=World.block_lt_of_cell? _ _ p0;simp only at z;have hne:some w.heap.size≠(Value.slice (some ⟨w3.heap.size,0,none⟩) 0 0).ownBlock:=fun e=>by
  have e2:w.heap.size=w3.heap.size:=(by injection e);omega
 refine ⟨(b3.alloc b3.size _).grown hg (by simp;omega) (fun q hq=>by injection hq with hq;rw [← hq];exact b3.size),hg.cell (Lib.cell?_alloc_some _ p0) hne,hg.cell (Lib.cell?_alloc_some _ p1) hne,uH ?_⟩;simpa only [Nat.zero_add,List.nil_append] using ho
theorem put_end {w:World} {B n k:Nat} {v:Value} {ps:List Pad} {p:Pad} (hn:ps.length=n) (hk:k≤n) (h:w.ownsRow B 53 2 v (k+1+(n - k)) ((ps.take k).flatMap padC++[.int .i64 p.day,.string p.case]++(ps.drop k).flatMap padC)):PadsOwn w B v (ins ps p k):=by
 unfold PadsOwn;rw [ins_len,hn,show n+1=k+1+(n - k) by omega];unfold ins;rw [List.flatMap_append,List.flatMap_cons];simpa [padC] using h
theorem l8Put (A:Option Addr) (n c:Nat) (ps:List Pad) (p:Pad) (w:World) (hn1:1≤n) (hn:n≤1048576) (h:PadsIn w w.heap.size A n c ps) :
  Calls Tryz.prog 144 #[.slice A n c,padVal p] w fun e w'=>RowAns w' w.heap.size (ins ps p (putIdx ps p)) e∧Below w.heap.size w w':=by
 have hm:=h.2.2.1;have hnc:=h.2.1;unfold maxLen at hm;have HL:=uH h.1;obtain ⟨b,off,eA,hbB,_⟩:=h.2.2.2.1.2 hn1;subst eA;have H:=uH h;clear h;obtain ⟨i0,hi,hz0,hz1,hz2⟩:=info_parts infoPad;have HT1:Hid (∀ k,k≤n→∀ W,Below w.heap.size w W→Row W w.heap.size (some ⟨b,off,none⟩) k 2 ((ps.take k).flatMap padC)):=uH (fun k hk W hW=>by rw [← flat_take padC_len];exact (H.out.2.2.2.1.below hW).take hk);unfold padVal;go_enter Tryz.func144,Tryz.ntmps144
 go_wp2;go_loopw [5] (fun i wr=>∃ k:Nat,k≤n∧i = .int .i64 k∧Hid (∀ j,j < k→ordPad (padAt ps j) p < 0)∧Below w.heap.size w wr∧wr.cell? ⟨w.heap.size,0,none⟩=some (.int .i64 p.day)∧wr.cell? ⟨w.heap.size,1,none⟩=some (.string p.case)) (fun i _=>n - (intOf i).toNat)
 case atStart=>exact ⟨0,Nat.zero_le _,rfl,uH (fun j h=>by omega),(Below.refl _ _).alloc (Nat.le_refl _) _,newcell w #[.int .i64 p.day,.string p.case] _ 0 _ rfl,newcell w #[.int .i64 p.day,.string p.case] _ 1 _ rfl⟩
 case round =>
  obtain ⟨k,hk,rfl,hF,hb,p0,p1⟩:=hrel;have ways:(k < n∧ordPad (padAt ps k) p < 0)∨(Hid (putIdx ps p=k)∧((k < n∧0≤ordPad (padAt ps k) p)∨k=n)):=by
   by_cases hlt:k < n
   ·by_cases ho:ordPad (padAt ps k) p < 0
    ·exact .inl ⟨hlt,ho⟩
    ·exact .inr ⟨uH (putIdx_of (by rw [HL.out];exact hk) hF.out (fun _=>ho)),.inl ⟨hlt,by omega⟩⟩
   ·exact .inr ⟨uH (putIdx_of (by rw [HL.out];exact hk) hF.out (fun h=>by rw [HL.out] at h;omega)),.inr (by omega)⟩
  rcases ways with ⟨hlt,ho⟩ | ⟨HI,ways⟩
  ·obtain ⟨b',off',eA,hbB',c0,c1,hg⟩:=(H.out.below hb).at_ hlt;injection eA with eA;injection eA with e1 e2;subst e1 e2;have hb0:decide ((k:Int) < n)=true:=decide_eq_true (by omega);have HF2:Hid (∀ j,j < k+1→ordPad (padAt ps j) p < 0):=uH (fun j hj=>by
    by_cases e:j=k
    ·subst e;exact ho
    ·exact hF.out j (by omega))
   have co : ∀ W,Calls Tryz.prog 143 #[.agg #[.int .i64 (padAt ps k).day,.string (padAt ps k).case],.agg #[.int .i64 p.day,.string p.case]] W fun e w'=>e = .returned (.int .i64 (ordPad (padAt ps k) p))∧Below W.heap.size W w':=fun W=>l8Order _ _ _ _ W;have CO:=uH co;clear co hg hF;have r0:=qcell c0;have r1:=qcell c1;have r2:=qcell p0;have r3:=qcell p1;generalize ordPad (padAt ps k) p=o at *;generalize padAt ps k=q at *;(go_wp2_with fail);refine region_qb (by kernel_rfl) (by kernel_rfl) ?_;repeat (first | go_big_quiet_step ((go_at_call 143;exact quietB (CO.out _))) | quiet_step ((go_at_call 143;exact quietB (CO.out _))))
   refine wpQuiet_nil ?_;intro w3 hb3;have b3:=hb.trans (hb3.mono hb.size);have p0':=kcell hb3 p0;have p1':=kcell hb3 p1;clear r0 r1 r2 r3 c0 c1 p0 p1 hb3;go_wp2;go_roundw
   case rel=>exact ⟨k+1,by omega,by go_num,HF2,b3,p0',p1'⟩
   case measure=>simp [intOf];omega
  ·clear hF;have step : ∀ w3,Below wr.heap.size wr w3→Below w.heap.size w w3∧w3.cell? ⟨w.heap.size,0,none⟩=some (.int .i64 p.day)∧w3.cell? ⟨w.heap.size,1,none⟩=some (.string p.case):=fun w3 hb3=>⟨hb.trans (hb3.mono hb.size),kcell hb3 p0,kcell hb3 p1⟩;have STEP:=uH step;clear step;rcases ways with ⟨hlt,ho⟩ | hkn
   ·obtain ⟨b',off',eA,hbB',c0,c1,hg⟩:=(H.out.below hb).at_ hlt;injection eA with eA;injection eA with e1 e2;subst e1 e2;have hb0:decide ((k:Int) < n)=true:=decide_eq_true (by omega);have co : ∀ W,Calls Tryz.prog 143 #[.agg #[.int .i64 (padAt ps k).day,.string (padAt ps k).case],.agg #[.int .i64 p.day,.string p.case]] W fun e w'=>e = .returned (.int .i64 (ordPad (padAt ps k) p))∧Below W.heap.size W w':=fun W=>l8Order _ _ _ _ W;have CO:=uH co;clear co hg;have r0:=qcell c0;have r1:=qcell c1;have r2:=qcell p0;have r3:=qcell p1;generalize ordPad (padAt ps k) p=o at *;generalize padAt ps k=q at *;(go_wp2_with fail);refine region_qb (by kernel_rfl) (by kernel_rfl) ?_;repeat (first | go_big_quiet_step ((go_at_call 143;exact quietB (CO.out _))) | quiet_step ((go_at_call 143;exact quietB (CO.out _))))
    refine wpQuiet_nil ?_;intro w3 hb3;obtain ⟨b3,p0',p1'⟩:=STEP.out w3 hb3;clear r0 r1 r2 r3 c0 c1 p0 p1 hb3 hb STEP hb0;have hkc:k < c:=(by omega);have HT3:Hid (∀ W,Below w.heap.size w W→Row W w.heap.size (some ⟨b,off+k * 2,none⟩) (n - k) 2 ((ps.drop k).flatMap padC)):=uH (fun W hW=>by rw [← flat_drop padC_len];exact (H.out.2.2.2.1.below hW).drop hk);have z3:=b3.size;have z3':=World.block_lt_of_cell? _ _ p0';simp only at z3';go_wp2_with (first
     | (at_builtin;refine wpList_append_any _ rfl (.tmp 22) (.tmp 25) _ rfl w.heap.size 53 i0 _ 2 24 Tryz.underlying46 hi hz0 hz1 hz2 rfl (by omega) (.slice (some ⟨w3.heap.size,0,none⟩) 0 0) 0 [] rfl (World.ownsRow_made w3 _ 0 z3 (by simp) (by simp)) w.heap.size (some ⟨b,off,none⟩) k c ((ps.take k).flatMap padC) rfl (HT1.out k hk _ (b3.alloc z3 _)) padC_one (by unfold maxLen;omega) (by omega) (by simp;omega) ?_;intro v1 w4 hown1 hg1 hat1;obtain ⟨b4,p0a,p1a,HO1⟩:=put1 b3 p0' p1' hg1 hown1;have z4:=b4.size;clear hown1 hg1 hat1)
     | (at_builtin;refine wpList_append_any _ rfl (.tmp 27) (.tmp 29) _ rfl w.heap.size 53 i0 _ 2 24 Tryz.underlying46 hi hz0 hz1 hz2 rfl (by omega) v1 k ((ps.take k).flatMap padC) rfl (HO1.out.alloc _) (w4.heap.size+1) (some ⟨w4.heap.size,0,none⟩) 1 1 [.int .i64 p.day,.string p.case] rfl (rowNewPad _ _ _ _) (by simp [Value.oneCell']) (by unfold maxLen;omega) (by omega) (by simp;omega) ?_;intro v2 w5 hown2 hg2 hat2;have b5:=(b4.alloc z4 _).grown hg2 (by simp;omega) (fun q hq=>own_base HO1.out hq);have HO2:=uH hown2;have z5:=b5.size;clear hown2 hg2 hat2)
     | (at_builtin;refine wpList_append_any _ rfl (.tmp 31) (.tmp 34) _ rfl w.heap.size 53 i0 _ 2 24 Tryz.underlying46 hi hz0 hz1 hz2 rfl (by omega) v2 (k+1) _ rfl HO2.out w.heap.size (some ⟨b,off+k * 2,none⟩) (n - k) (c - k) ((ps.drop k).flatMap padC) rfl (HT3.out _ b5) padC_one (by unfold maxLen;omega) (by omega) (by omega) ?_;intro v3 w6 hown3 hg3 hat3;have b6:=b5.grown hg3 z5 (fun q hq=>own_base HO2.out hq);have HO3:=uH hown3;clear hown3 hg3 hat3))
    go_ret;exact ⟨.of rfl (by rw [HI.out];exact put_end HL.out hk HO3.out),b6⟩
   ·have hb0:decide ((k:Int) < n)=false:=decide_eq_false (by omega);(go_wp2_with fail);refine region_qb (by kernel_rfl) (by kernel_rfl) ?_;repeat (first | go_big_quiet_step (fail) | quiet_step (fail))
    refine wpQuiet_nil ?_;intro w3 hb3;obtain ⟨b3,p0',p1'⟩:=STEP.out w3 hb3;clear p0 p1 hb3 hb STEP hb0;subst hkn;have z3:=b3.size;have z3':=World.block_lt_of_cell? _ _ p0';simp only at z3';have hE:Hid (∀ (w:World) (B:Nat) (v:Value),w.ownsRow B 53 2 v (k+1+0) ((ps.take k).flatMap padC++[.int .i64 p.day,.string p.case]++[])→PadsOwn w B v (ins ps p k)):=uH (fun w B v h=>put_end (n:=k) HL.out (Nat.le_refl _) (by
     rw [Nat.sub_self,List.drop_of_length_le (by rw [HL.out];exact Nat.le_refl _)];exact h))
    by_cases hkc:k < c
    ·skip
     go_wp2_with (first
      | (at_builtin;refine wpList_append_any _ rfl (.tmp 22) (.tmp 25) _ rfl w.heap.size 53 i0 _ 2 24 Tryz.underlying46 hi hz0 hz1 hz2 rfl (by omega) (.slice (some ⟨w3.heap.size,0,none⟩) 0 0) 0 [] rfl (World.ownsRow_made w3 _ 0 z3 (by simp) (by simp)) w.heap.size (some ⟨b,off,none⟩) k c ((ps.take k).flatMap padC) rfl (HT1.out k hk _ (b3.alloc z3 _)) padC_one (by unfold maxLen;omega) (by omega) (by simp;omega) ?_;intro v1 w4 hown1 hg1 hat1;obtain ⟨b4,p0a,p1a,HO1⟩:=put1 b3 p0' p1' hg1 hown1;have z4:=b4.size;clear hown1 hg1 hat1)
      | (at_builtin;refine wpList_append_any _ rfl (.tmp 27) (.tmp 29) _ rfl w.heap.size 53 i0 _ 2 24 Tryz.underlying46 hi hz0 hz1 hz2 rfl (by omega) v1 k ((ps.take k).flatMap padC) rfl (HO1.out.alloc _) (w4.heap.size+1) (some ⟨w4.heap.size,0,none⟩) 1 1 [.int .i64 p.day,.string p.case] rfl (rowNewPad _ _ _ _) (by simp [Value.oneCell']) (by unfold maxLen;omega) (by omega) (by simp;omega) ?_;intro v2 w5 hown2 hg2 hat2;have b5:=(b4.alloc z4 _).grown hg2 (by simp;omega) (fun q hq=>own_base HO1.out hq);have HO2:=uH hown2;have z5:=b5.size;clear hown2 hg2 hat2)
      | (at_builtin;refine wpList_append_any _ rfl (.tmp 31) (.tmp 34) _ rfl w.heap.size 53 i0 _ 2 24 Tryz.underlying46 hi hz0 hz1 hz2 rfl (by omega) v2 (k+1) _ rfl HO2.out w.heap.size (some ⟨b,off+k * 2,none⟩) 0 (c - k) [] rfl Row.empty (by simp) (by unfold maxLen;omega) (by omega) (by omega) ?_;intro v3 w6 hown3 hg3 hat3;have b6:=b5.grown hg3 z5 (fun q hq=>own_base HO2.out hq);have HO3:=uH hown3;clear hown3 hg3 hat3))
     go_ret;exact ⟨.of rfl (by rw [HI.out];exact hE.out _ _ _ HO3.out),b6⟩
    ·obtain rfl:k=c:=(by omega);go_wp2_with (first
      | (at_builtin;refine wpList_append_any _ rfl (.tmp 22) (.tmp 25) _ rfl w.heap.size 53 i0 _ 2 24 Tryz.underlying46 hi hz0 hz1 hz2 rfl (by omega) (.slice (some ⟨w3.heap.size,0,none⟩) 0 0) 0 [] rfl (World.ownsRow_made w3 _ 0 z3 (by simp) (by simp)) w.heap.size (some ⟨b,off,none⟩) k k ((ps.take k).flatMap padC) rfl (HT1.out k hk _ (b3.alloc z3 _)) padC_one (by unfold maxLen;omega) (by omega) (by simp;omega) ?_;intro v1 w4 hown1 hg1 hat1;obtain ⟨b4,p0a,p1a,HO1⟩:=put1 b3 p0' p1' hg1 hown1;have z4:=b4.size;clear hown1 hg1 hat1)
      | (at_builtin;refine wpList_append_any _ rfl (.tmp 27) (.tmp 29) _ rfl w.heap.size 53 i0 _ 2 24 Tryz.underlying46 hi hz0 hz1 hz2 rfl (by omega) v1 k ((ps.take k).flatMap padC) rfl (HO1.out.alloc _) (w4.heap.size+1) (some ⟨w4.heap.size,0,none⟩) 1 1 [.int .i64 p.day,.string p.case] rfl (rowNewPad _ _ _ _) (by simp [Value.oneCell']) (by unfold maxLen;omega) (by omega) (by simp;omega) ?_;intro v2 w5 hown2 hg2 hat2;have b5:=(b4.alloc z4 _).grown hg2 (by simp;omega) (fun q hq=>own_base HO1.out hq);have HO2:=uH hown2;have z5:=b5.size;clear hown2 hg2 hat2)
      | (at_builtin;refine wpList_append_any _ rfl (.tmp 31) (.tmp 34) _ rfl w.heap.size 53 i0 _ 2 24 Tryz.underlying46 hi hz0 hz1 hz2 rfl (by omega) v2 (k+1) _ rfl HO2.out w.heap.size (some ⟨b,off,none⟩) 0 0 [] rfl Row.empty (by simp) (by unfold maxLen;omega) (by omega) (by omega) ?_;intro v3 w6 hown3 hg3 hat3;have b6:=b5.grown hg3 z5 (fun q hq=>own_base HO2.out hq);have HO3:=uH hown3;clear hown3 hg3 hat3))
     go_ret;exact ⟨.of rfl (by rw [HI.out];exact hE.out _ _ _ HO3.out),b6⟩
def CabAns (w':World) (B:Nat) (css:List (List Pad)) (e:Ending):Prop :=
 ∃ A c ds,e = .returned (.slice A ds.length c)∧CabOwn w' B (.slice A ds.length c) ds∧ds.map (·.ps)=css
theorem CabAns.of {w':World} {B:Nat} {css:List (List Pad)} {e:Ending} {v:Value} {ds:List Drawer} (he:e = .returned v) (ho:CabOwn w' B v ds) (hm:ds.map (·.ps)=css):CabAns w' B css e:=by
 obtain ⟨A,c,rfl,_⟩:=ho.form;exact ⟨A,c,ds,he,ho,hm⟩
theorem newPush {wr w1 w2:World} {B n c1:Nat} {v v':Value} {A1:Option Addr} {ds:List Drawer} {ps:List Pad} (hB:B≤wr.heap.size) (h:CabOwn wr B v ds) (hb:Below wr.heap.size wr w1) (hO:w1.ownsRow wr.heap.size 53 2 (.slice A1 n c1) n (ps.flatMap padC)) (hn:ps.length=n) (hgd : ∀ p∈ps,p.good)
  (hg:(w1.alloc (.cells #[.slice A1 n c1] 46)).grownBy w2 v.ownBlock) (hown:w2.ownsRow B 46 1 v' (ds.length+1) (ds.flatMap drawerC++[.slice A1 n c1])) :
  CabOwn w2 B v' (ds++[⟨A1,n,c1,ps⟩])∧Below B wr w2:=by
 have ha:Below wr.heap.size wr (w1.alloc (.cells #[.slice A1 n c1] 46)):=hb.alloc hb.size _;refine ⟨h.push ha hg (d:=⟨A1,n,c1,ps⟩) hown ⟨hn,?_,hgd⟩ (fun b hv=>own_base hO hv),(ha.mono hB).grown hg (Nat.le_trans hB ha.size) (fun k hk=>own_base h.1 hk)⟩
 show PadsOwn _ B (.slice A1 n c1) ps
 unfold PadsOwn;rw [hn];exact own_mono (hO.alloc _) hB
theorem cabRow1 {w:World} {u:Value} {t:TypeId}:Row (w.alloc (.cells #[u] t)) (w.heap.size+1) (some ⟨w.heap.size,0,none⟩) 1 1 [u]:=rowNew1 w u t
theorem l8Copy (A:Option Addr) (n c:Nat) (ds:List Drawer) (w:World) (hn:n≤1048576) (hdn : ∀ d∈ds,d.n≤1048576) (h:DrawersIn w w.heap.size A n c ds) :
  Calls Tryz.prog 145 #[.slice A n c] w fun e w'=>CabAns w' w.heap.size ((ds.map (·.ps)).filter full?) e∧Below w.heap.size w w':=by
 have hm:=h.2.2.1;have hnc:=h.2.1;have HL:=uH h.1;unfold maxLen at hm;have H:=uH h;clear h;have HDN:=uH hdn;clear hdn;obtain ⟨i0,hi,hz0,hz1,hz2⟩:=info_parts infoPad;obtain ⟨i1,hj,hy0,hy1,hy2⟩:=info_parts infoSl;go_enter Tryz.func145,Tryz.ntmps145
 go_wp2;go_loopw [3,4] (fun v i wr=>∃ (k:Nat) (ds':List Drawer),k≤n∧i = .int .i64 k∧Hid (CabOwn wr w.heap.size v ds')∧Hid (ds'.map (·.ps)=((ds.take k).map (·.ps)).filter full?)∧Below w.heap.size w wr) (fun _ i _=>n - (intOf i).toNat)
 case atStart=>exact ⟨0,[],Nat.zero_le _,rfl,uH (CabOwn.made w),uH (by simp),(Below.refl _ _).alloc (Nat.le_refl _) _⟩
 case round =>
  obtain ⟨k,ds',hk,rfl,hO,hM,hb⟩:=hrel;by_cases hlt:k < n
  ·obtain ⟨b,off,eA,hbB,c0,hP⟩:=(H.out.below hb).at_ hlt;have hkl:k < ds.length:=(by rw [HL.out];exact hlt);have hd1:=HDN.out _ (drAt_mem hkl);subst eA;have HT:Hid ((ds.take (k+1)).map (·.ps)=(ds.take k).map (·.ps)++[(drAt ds k).ps]):=uH (by rw [take_step (drAt_some hkl)];simp);have hl':ds'.length≤n:=by
    have h1:=congrArg List.length hM.out;rw [List.length_map] at h1;have h2:=List.length_filter_le full? ((ds.take k).map (·.ps));rw [List.length_map,List.length_take] at h2;omega
   have HPS:=uH hP.1;have HR:=uH hP.2.2.2.1;have HGd:=uH hP.2.2.2.2;have hcm2:=hP.2.2.1;have hnc2:=hP.2.1;unfold maxLen at hcm2;clear hP hkl;generalize drAt ds k=d at *;by_cases hd0:0 < d.n
   ·have hz:=hb.size;have HM2:Hid (((ds'++[(⟨none,d.n,0,d.ps⟩:Drawer)]).map (·.ps))=((ds.take (k+1)).map (·.ps)).filter full?):=uH (by
     rw [HT.out,List.filter_append,← hM.out,List.map_append];have:full? d.ps=true:=full_iff.2 (by rw [HPS.out];exact hd0);simp [this])
    have c0a:(wr.alloc (.cells #[] 53)).cell? ⟨b,off+k,none⟩=some (.slice d.A d.n d.c):=Lib.cell?_alloc_some _ c0;go_wp2_with (first
     | (at_builtin;refine wpList_append_any _ rfl (.tmp 19) (.tmp 23) _ rfl wr.heap.size 53 i0 _ 2 24 Tryz.underlying46 hi hz0 hz1 hz2 rfl (by omega) (.slice (some ⟨wr.heap.size,0,none⟩) 0 0) 0 [] rfl (World.ownsRow_made wr _ 0 (Nat.le_refl _) (by simp) (by simp)) w.heap.size d.A d.n d.c (d.ps.flatMap padC) rfl (HR.out.below ((Below.refl _ _).alloc hz _)) padC_one (by unfold maxLen;omega) (by omega) (by simp) ?_;intro v1 w1 hown1 hg1 hat1;simp only [Nat.zero_add,List.nil_append] at hown1;obtain ⟨A1,c1,rfl,hc1,hm1⟩:=own_form hown1;have b1:Below wr.heap.size wr w1:=((Below.refl _ _).alloc (Nat.le_refl _) _).grown hg1 (by simp) (fun q hq=>by injection hq with hq;rw [← hq];exact Nat.le_refl _);have HO1:=uH hown1;have HC1:=uH (hO.out.keep b1);have z1:=b1.size;clear hown1 hg1 hat1)
     | (at_builtin;refine wpList_append_any _ rfl (.tmp 18) (.tmp 25) _ rfl w.heap.size 46 i1 _ 1 24 Tryz.underlying48 hj hy0 hy1 hy2 rfl (by omega) _ ds'.length (ds'.flatMap drawerC) rfl (HC1.out.1.alloc _) (w1.heap.size+1) (some ⟨w1.heap.size,0,none⟩) 1 1 [.slice A1 d.n c1] rfl cabRow1 (by simp [Value.oneCell']) (by unfold maxLen;omega) (by omega) (by simp;omega) ?_;intro v2 w2 hown2 hg2 hat2;obtain ⟨hcab,hbb⟩:=newPush hz hO.out b1 HO1.out HPS.out HGd.out hg2 hown2;have HC2:=uH hcab;have b2:=hb.trans hbb;clear hown2 hg2 hat2 hcab hbb))
    go_roundw
    case rel=>exact ⟨k+1,_,by omega,by go_num,HC2,uH (by rw [← HM2.out];simp),b2⟩
    case measure=>simp [intOf];omega
   ·have HM2:Hid (ds'.map (·.ps)=((ds.take (k+1)).map (·.ps)).filter full?):=uH (by
     rw [HT.out,List.filter_append,← hM.out];have:full? d.ps=false:=by
      cases hx:full? d.ps with
      | false=>rfl
      | true=>have:=full_iff.1 hx;rw [HPS.out] at this;omega
     simp [this])
    go_wp2;go_roundw
    case rel=>exact ⟨k+1,ds',by omega,by go_num,hO,HM2,hb⟩
    case measure=>simp [intOf];omega
  ·have hkn:ds.take k=ds:=List.take_of_length_le (by have:=HL.out;omega);rw [hkn] at hM;clear hkn;go_wp2;go_ret;exact ⟨.of rfl hO.out hM.out,hb⟩
theorem fileO_cases (css:List (List Pad)) (p:Pad):(¬ cabOK css∧fileO css p=none)∨(cabOK css∧okP p=false∧fileO css p=none)∨(cabOK css∧okP p=true∧(∃ x,findO css p=some x)∧fileO css p=none)∨(cabOK css∧okP p=true∧findO css p=none∧fileO css p=fileS css p):=by
 by_cases h1:cabOK css
 ·cases h2:okP p with
  | false=>exact .inr (.inl ⟨h1,rfl,fileO_no (fun h=>by rw [h2] at h;cases h.2.1)⟩)
  | true =>
   cases h3:findO css p with
   | some x=>exact .inr (.inr (.inl ⟨h1,rfl,⟨x,rfl⟩,fileO_no (fun h=>by rw [h3] at h;cases h.2.2)⟩))
   | none=>exact .inr (.inr (.inr ⟨h1,rfl,rfl,fileO_yes h1 h2 h3⟩))
 ·exact .inl ⟨h1,fileO_no (fun h=>h1 h.1)⟩
theorem rowNew2 (w:World) (u1 u2:Value) (t:TypeId):Row (w.alloc (.cells #[u1,u2] t)) (w.heap.size+1) (some ⟨w.heap.size,0,none⟩) 2 1 [u1,u2]:=by
 refine ⟨rfl,fun _=>⟨w.heap.size,0,rfl,by omega,fun j x hx=>?_⟩⟩;rcases j with _ | _ | j
 ·simp at hx;subst hx;exact newcell w #[u1,u2] t 0 u1 rfl
 ·simp at hx;subst hx;exact newcell w #[u1,u2] t 1 u2 rfl
 ·simp at hx
theorem drC_one {ds:List Drawer} : ∀ u∈ds.flatMap drawerC,u.oneCell'=true:=by
 intro u hu;obtain ⟨d,_,hu⟩:=List.mem_flatMap.1 hu;simp only [drawerC,List.mem_cons,List.mem_nil_iff,or_false] at hu;subst hu;rfl
theorem partsIn {w w5 w8:World} {B n c m m5 c5 h N c8:Nat} {A Af A8:Option Addr} {ds:List Drawer} {f:List Pad} (H:DrawersIn w w.heap.size A n c ds) (hb8:Below w.heap.size w w8) (_:m < n) (hF:PadsIn w5 w5.heap.size Af m5 c5 f) (hb58:Below w5.heap.size w5 w8) (hh:h≤m5)
  (hO:w8.ownsRow B 46 1 (.slice A8 N c8) N ((ds.take m).flatMap drawerC++(.slice Af h c5::.slice (fromA Af h c5 2) (m5 - h) (c5 - h)::(ds.drop (m+1)).flatMap drawerC))) :
  DrawersIn w8 w8.heap.size A8 N c8 (ds.take m++([⟨Af,h,c5,f.take h⟩,⟨fromA Af h c5 2,m5 - h,c5 - h,f.drop h⟩]++ds.drop (m+1))):=by
 have hN:=hO.1;simp only [List.length_append,List.length_cons,flat_len drawerC_len] at hN;obtain ⟨A',c',e,h1,h2⟩:=own_form hO;injection e with e1 e2 e3;subst e1 e3;have hF8:=(hF.below hb58).more hb58.size;refine ⟨?_,h1,h2,?_,fun d hd=>?_⟩
 ·simp only [List.length_append,List.length_cons,List.length_nil];omega
 ·have:=Row.of_own hO;simpa [drawerC] using this
 ·rcases List.mem_append.1 hd with hd | hd
  ·exact ((H.2.2.2.2 d (List.mem_of_mem_take hd)).below hb8).more hb8.size
  ·rcases List.mem_append.1 hd with hd | hd
   ·simp only [List.mem_cons,List.mem_nil_iff,or_false] at hd;rcases hd with rfl | rfl
    ·exact hF8.upto hh
    ·exact hF8.from_ hh
   ·exact ((H.2.2.2.2 d (List.mem_of_mem_drop hd)).below hb8).more hb8.size
theorem parts_small {w:World} {B n c m m5 c5 h:Nat} {A Af:Option Addr} {ds:List Drawer} {f:List Pad} (H:DrawersIn w B A n c ds) (hc:cabOK (ds.map (·.ps))) (hh:h≤m5) (h5:m5≤1048576) :
  ∀ d∈ds.take m++([⟨Af,h,c5,f.take h⟩,⟨fromA Af h c5 2,m5 - h,c5 - h,f.drop h⟩]++ds.drop (m+1)),d.n≤1048576:=by
 have key : ∀ d∈ds,d.n≤1048576:=fun d hd=>by
  have h1:=hc.2.1 d.ps (List.mem_map_of_mem hd);have h2:=(H.2.2.2.2 d hd).1;unfold lenOK at h1;omega
 intro d hd;rcases List.mem_append.1 hd with hd | hd
 ·exact key d (List.mem_of_mem_take hd)
 ·rcases List.mem_append.1 hd with hd | hd
  ·simp only [List.mem_cons,List.mem_nil_iff,or_false] at hd;rcases hd with rfl | rfl
   ·show h≤_;omega
   ·show m5 - h≤_;omega
  ·exact key d (List.mem_of_mem_drop hd)
theorem parts_res {ds:List Drawer} {f:List Pad} {p:Pad} {m m5 c5 h:Nat} {A5:Option Addr} (hF:filed (ds.map (·.ps)) p=(partsAt (ds.map (·.ps)) m f).filter full?) (hh:halfOf f.length=h) :
  ((ds.take m++([(⟨A5,h,c5,f.take h⟩:Drawer),⟨fromA A5 h c5 2,m5 - h,c5 - h,f.drop h⟩]++ds.drop (m+1))).map (·.ps)).filter full? = filed (ds.map (·.ps)) p:=by
 rw [hF,partsAt,hh,List.map_append,List.map_append,List.map_take,List.map_drop];rfl
theorem oneCab (w:World) (p:Pad) (hp:p.good):CabOwn ((w.alloc (.cells #[.int .i64 p.day,.string p.case] 53)).alloc (.cells #[.slice (some ⟨w.heap.size,0,none⟩) 1 1] 46)) w.heap.size (.slice (some ⟨w.heap.size+1,0,none⟩) 1 1) [⟨some ⟨w.heap.size,0,none⟩,1,1,[p]⟩]:=by
 have h1:(w.alloc (.cells #[.int .i64 p.day,.string p.case] 53)).ownsRow w.heap.size 53 2 (.slice (some ⟨w.heap.size,0,none⟩) 1 1) 1 [.int .i64 p.day,.string p.case] :=
  World.ownsRow_lit w #[.int .i64 p.day,.string p.case] 1 (Nat.le_refl _) (by unfold maxLen;omega) rfl
 have h2:((w.alloc (.cells #[.int .i64 p.day,.string p.case] 53)).alloc (.cells #[.slice (some ⟨w.heap.size,0,none⟩) 1 1] 46)).ownsRow w.heap.size 46 1 (.slice (some ⟨(w.alloc (.cells #[.int .i64 p.day,.string p.case] 53)).heap.size,0,none⟩) 1 1) 1 [.slice (some ⟨w.heap.size,0,none⟩) 1 1] :=
  World.ownsRow_lit _ #[.slice (some ⟨w.heap.size,0,none⟩) 1 1] 1 (by simp) (by unfold maxLen;omega) rfl
 rw [show (w.alloc (.cells #[.int .i64 p.day,.string p.case] 53)).heap.size=w.heap.size+1 by simp] at h2;refine ⟨h2,fun d hd=>?_,by simp [Drawer.v,Value.ownBlock]⟩;simp at hd;subst hd;exact ⟨rfl,h1.alloc _,fun x hx=>by simp at hx;subst hx;exact hp⟩
set_option maxHeartbeats 1600000 in
theorem specCabinetFile (A:Option Addr) (n c:Nat) (ds:List Drawer) (p:Pad) (w:World) (hsz:cabSz ds≤1048576) (hp:p.good) (h:DrawersIn w w.heap.size A n c ds) :
  Calls Tryz.prog 79 #[.slice A n c,padVal p] w fun e w'=>FileAns w' w.heap.size (fileO (ds.map (·.ps)) p) e∧Below w.heap.size w w':=by
 have hm:=h.2.2.1;have hnc:=h.2.1;have HL:Hid (ds.length=n):=uH h.1;unfold maxLen at hm;have H:=uH h;clear h;have hln:n≤1048576:=(by have:=cabSz_len ds;have:=HL.out;omega);have hal:Below w.heap.size w (w.alloc (.cells #[.int .i64 p.day,.string p.case] 53)):=(Below.refl _ _).alloc (Nat.le_refl _) _;have HF:=uH (specCabinetFind A n c ds p _ hsz (H.out.keep hal));have HV:Hid (∀ W,Below w.heap.size w W→Calls Tryz.prog 119 #[.slice A n c] W fun e w'=>e = .returned (.bool (cabB (ds.map (·.ps))))∧Below W.heap.size W w'):=uH (fun W hW=>specCabinetValid A n c ds W hsz ((H.out.below hW).more hW.size));have HPv:Hid (∀ W,Calls Tryz.prog 75 #[.agg #[.int .i64 p.day,.string p.case]] W fun e w'=>e = .returned (.bool (okP p))∧Below W.heap.size W w'):=uH (fun W=>specPadValid p.day p.case W hp.2);unfold padVal at HF ⊢;rcases fileO_cases (ds.map (·.ps)) p with ⟨h1,h2⟩ | ⟨h1,h3,h2⟩ | ⟨h1,h3,⟨⟨x1,x2⟩,h4⟩,h2⟩ | ⟨h1,h3,h4,h2⟩
 ·have HN:=uH h2;clear h2;rw [findO_bad h1] at HF;rw [cabB_no h1] at HV;clear h1;go_enter Tryz.func79,Tryz.ntmps79
  (go_wp2_with fail);refine HF.out.mono ?_;rintro e w1 ⟨hA,hb1⟩;unfold FindAns findV at hA;subst hA;have b1:=below_next hal hb1;(go_wp2_with fail);refine (HV.out _ b1).mono ?_;rintro e w2 ⟨rfl,hb2⟩;have b2:=below_next b1 hb2;clear hb1 hb2;go_wp2;go_returns;exact ⟨.no HN.out rfl ((CabOwn.made w2).mono b2.size),b2.alloc b2.size _⟩
 ·have HN:=uH h2;clear h2;have HFr:=uH (findV_cases (findO (ds.map (·.ps)) p));rw [cabB_yes h1] at HV;rw [h3] at HPv;clear h1 h3;go_enter Tryz.func79,Tryz.ntmps79
  (go_wp2_with fail);refine HF.out.mono ?_;rintro e w1 ⟨hA,hb1⟩;unfold FindAns at hA;obtain ⟨va,vb,vh,hv⟩:=HFr.out;rw [hv] at hA;subst hA;have HVV:=uH hv;clear hv;have b1:=below_next hal hb1;have p0:=kcell hb1 (newcell w #[.int .i64 p.day,.string p.case] 53 0 _ rfl);have p1:=kcell hb1 (newcell w #[.int .i64 p.day,.string p.case] 53 1 _ rfl);clear hb1;(go_wp2_with fail);refine (HV.out _ b1).mono ?_;rintro e w2 ⟨rfl,hb2⟩;have b2:=below_next b1 hb2;have q0:=kcell hb2 p0;have q1:=kcell hb2 p1;clear hb2 p0 p1;(go_wp2_with fail);refine (HPv.out _).mono ?_;rintro e w3 ⟨rfl,hb3⟩;have b3:=below_next b2 hb3;clear hb3 q0 q1;go_wp2;go_returns;exact ⟨.no HN.out rfl ((CabOwn.made w3).mono b3.size),b3.alloc b3.size _⟩
 ·have HN:=uH h2;clear h2;rw [h4] at HF;rw [cabB_yes h1] at HV;rw [h3] at HPv;clear h1 h3 h4;go_enter Tryz.func79,Tryz.ntmps79
  (go_wp2_with fail);refine HF.out.mono ?_;rintro e w1 ⟨hA,hb1⟩;unfold FindAns findV at hA;subst hA;have b1:=below_next hal hb1;have p0:=kcell hb1 (newcell w #[.int .i64 p.day,.string p.case] 53 0 _ rfl);have p1:=kcell hb1 (newcell w #[.int .i64 p.day,.string p.case] 53 1 _ rfl);clear hb1;(go_wp2_with fail);refine (HV.out _ b1).mono ?_;rintro e w2 ⟨rfl,hb2⟩;have b2:=below_next b1 hb2;have q0:=kcell hb2 p0;have q1:=kcell hb2 p1;clear hb2 p0 p1;(go_wp2_with fail);refine (HPv.out _).mono ?_;rintro e w3 ⟨rfl,hb3⟩;have b3:=below_next b2 hb3;clear hb3 q0 q1;go_wp2;go_returns;exact ⟨.no HN.out rfl ((CabOwn.made w3).mono b3.size),b3.alloc b3.size _⟩
 ·have HN:=uH h2;clear h2;have HC:=uH h1;rw [h4] at HF;rw [cabB_yes h1] at HV;rw [h3] at HPv;clear h1 h3 h4;go_enter Tryz.func79,Tryz.ntmps79
  (go_wp2_with fail);refine HF.out.mono ?_;rintro e w1 ⟨hA,hb1⟩;unfold FindAns findV at hA;subst hA;have b1:=below_next hal hb1;have p0:=kcell hb1 (newcell w #[.int .i64 p.day,.string p.case] 53 0 _ rfl);have p1:=kcell hb1 (newcell w #[.int .i64 p.day,.string p.case] 53 1 _ rfl);clear hb1;(go_wp2_with fail);refine (HV.out _ b1).mono ?_;rintro e w2 ⟨rfl,hb2⟩;have b2:=below_next b1 hb2;have q0:=kcell hb2 p0;have q1:=kcell hb2 p1;clear hb2 p0 p1;(go_wp2_with fail);refine (HPv.out _).mono ?_;rintro e w3 ⟨rfl,hb3⟩;have b3:=below_next b2 hb3;have p0:=kcell hb3 q0;have p1:=kcell hb3 q1;clear hb3 q0 q1;by_cases hn0:n=0
  ·subst hn0;have HX:Hid (fileO (ds.map (·.ps)) p=some [[p]]):=uH (by
    rw [HN.out,List.eq_nil_of_length_eq_zero HL.out];rfl)
   go_wp2;go_returns;exact ⟨.yes (ds:=[⟨some ⟨w3.heap.size,0,none⟩,1,1,[p]⟩]) HX.out rfl ((oneCab w3 p hp).mono b3.size),(b3.alloc b3.size _).alloc (by simp;have:=b3.size;omega) _⟩
  ·have hn1:1≤n:=(by omega);have hnz:((n:Int) == 0)=false:=beq_eq_false_iff_ne.2 (by omega);clear hn0 HF HV HPv;go_wp2;go_loopw [9,10] (fun a i wr=>∃ (k m:Nat),k≤n∧i = .int .i64 k∧a = .int .i64 m∧Hid (m=fileTo (ds.map (·.ps)) p k)∧Below w.heap.size w wr∧wr.cell? ⟨w.heap.size,0,none⟩=some (.int .i64 p.day)∧wr.cell? ⟨w.heap.size,1,none⟩=some (.string p.case)) (fun _ i _=>n - (intOf i).toNat)
   case atStart=>exact ⟨0,0,Nat.zero_le _,rfl,rfl,uH rfl,b3,p0,p1⟩
   case round =>
    obtain ⟨k,m,hk,rfl,rfl,hM,hb,p0,p1⟩:=hrel;by_cases hlt:k < n
    ·have hkl:k < ds.length:=(by rw [HL.out];exact hlt);obtain ⟨b,off,eA,hbB,c0,hP⟩:=(H.out.below hb).at_ hlt;have hlo:=HC.out.2.1 (drAt ds k).ps (List.mem_map_of_mem (drAt_mem hkl));unfold lenOK at hlo;rw [hP.1] at hlo;obtain ⟨b2,off2,eA2,hbB2,x0,x1,hg⟩:=hP.at_ (k:=0) (by omega);rw [Nat.zero_mul,Nat.add_zero] at x0 x1;have hlt0:(0:Int) < ((drAt ds k).n:Int):=(by omega);have hcm2:=hP.2.2.1;have hnc2:=hP.2.1;unfold maxLen at hcm2;rw [eA2] at c0;have hF2:fileTo (ds.map (·.ps)) p (k+1)=if ordPad (padAt (drAt ds k).ps 0) p < 0 then k else m:=by
      rw [hM.out,fileTo,drw_dr hkl]
     have HF2:=uH hF2;have co : ∀ W,Calls Tryz.prog 143 #[.agg #[.int .i64 (padAt (drAt ds k).ps 0).day,.string (padAt (drAt ds k).ps 0).case],.agg #[.int .i64 p.day,.string p.case]] W fun e w'=>e = .returned (.int .i64 (ordPad (padAt (drAt ds k).ps 0) p))∧Below W.heap.size W w':=fun W=>l8Order _ _ _ _ W;have CO:=uH co;clear co hF2 hP eA2 hg hM hkl;subst eA;generalize ordPad (padAt (drAt ds k).ps 0) p=o at *;generalize padAt (drAt ds k).ps 0=q at *;generalize drAt ds k=d at *;have r0:=qcell c0;have r1:=qcell x0;have r2:=qcell x1;have r3:=qcell p0;have r4:=qcell p1;by_cases ho:o < 0
     ·have HM2:Hid (k=fileTo (ds.map (·.ps)) p (k+1)):=uH (by rw [HF2.out,if_pos ho]);(go_wp2_with fail);refine region_qb (by kernel_rfl) (by kernel_rfl) ?_;repeat (first | go_big_quiet_step ((go_at_call 143;exact quietB (CO.out _))) | quiet_step ((go_at_call 143;exact quietB (CO.out _))))
      refine wpQuiet_nil ?_;intro w4 hb4;have b4:=hb.trans (hb4.mono hb.size);have p0':=kcell hb4 p0;have p1':=kcell hb4 p1;clear r0 r1 r2 r3 r4 c0 x0 x1 p0 p1 hb4;go_wp2;go_roundw
      case rel=>exact ⟨k+1,k,by omega,by go_num,rfl,HM2,b4,p0',p1'⟩
      case measure=>simp [intOf];omega
     ·have HM2:Hid (m=fileTo (ds.map (·.ps)) p (k+1)):=uH (by rw [HF2.out,if_neg ho]);have ho':0≤o:=(by omega);clear ho;(go_wp2_with fail);refine region_qb (by kernel_rfl) (by kernel_rfl) ?_;repeat (first | go_big_quiet_step ((go_at_call 143;exact quietB (CO.out _))) | quiet_step ((go_at_call 143;exact quietB (CO.out _))))
      refine wpQuiet_nil ?_;intro w4 hb4;have b4:=hb.trans (hb4.mono hb.size);have p0':=kcell hb4 p0;have p1':=kcell hb4 p1;clear r0 r1 r2 r3 r4 c0 x0 x1 p0 p1 hb4;go_wp2;go_roundw
      case rel=>exact ⟨k+1,m,by omega,by go_num,rfl,HM2,b4,p0',p1'⟩
      case measure=>simp [intOf];omega
    ·obtain rfl:k=n:=(by omega);have hmk:m < k:=by
      have:=fileTo_le (ds.map (·.ps)) p k;have:=hM.out;omega
     have hml:m < ds.length:=(by rw [HL.out];exact hmk);obtain ⟨b,off,eA,hbB,c0,hP⟩:=(H.out.below hb).at_ hmk;have hlo:=HC.out.2.1 (drAt ds m).ps (List.mem_map_of_mem (drAt_mem hml));unfold lenOK at hlo;rw [hP.1] at hlo;obtain ⟨hlo1,hlo2⟩:=hlo;have HPut:Hid (∀ W,Below wr.heap.size wr W→Calls Tryz.prog 144 #[.slice (drAt ds m).A (drAt ds m).n (drAt ds m).c,.agg #[.int .i64 p.day,.string p.case]] W fun e w'=>RowAns w' W.heap.size (ins (drAt ds m).ps p (putIdx (drAt ds m).ps p)) e∧Below W.heap.size W w'):=uH (fun W hW =>
      l8Put _ _ _ _ p W hlo1 (by omega) ((hP.below (hW.mono hb.size)).more (Nat.le_trans hb.size hW.size)))
     have HIl:Hid ((ins (drAt ds m).ps p (putIdx (drAt ds m).ps p)).length=(drAt ds m).n+1):=uH (by rw [ins_len,hP.1]);have HFi:Hid (filed (ds.map (·.ps)) p=(partsAt (ds.map (·.ps)) m (ins (drAt ds m).ps p (putIdx (drAt ds m).ps p))).filter full?):=uH (by
      unfold filed;rw [List.length_map,HL.out,← hM.out,drw_dr hml])
     have HGf:Hid (∀ x∈ins (drAt ds m).ps p (putIdx (drAt ds m).ps p),x.good):=uH (fun x hx=>by
      unfold ins at hx;rcases List.mem_append.1 hx with hx | hx
      ·exact hP.2.2.2.2 x (List.mem_of_mem_take hx)
      ·rcases List.mem_cons.1 hx with rfl | hx
       ·exact hp
       ·exact hP.2.2.2.2 x (List.mem_of_mem_drop hx))
     subst eA;clear hP hml;generalize ins (drAt ds m).ps p (putIdx (drAt ds m).ps p)=f at *;generalize (drAt ds m).n=nd at *;have d0:wr.drew.cell? ⟨w.heap.size,0,none⟩=some (.int .i64 p.day):=p0;have d1:wr.drew.cell? ⟨w.heap.size,1,none⟩=some (.string p.case):=p1;have d2:wr.drew.cell? ⟨b,off+m,none⟩=some (.slice (drAt ds m).A nd (drAt ds m).c):=c0;clear p0 p1 c0;generalize (drAt ds m).A=Ad at *;generalize (drAt ds m).c=cd at *;have hk6:k≤6:=(by have:=HC.out.1;rw [List.length_map,HL.out] at this;exact this);obtain ⟨i1,hj,hy0,hy1,hy2⟩:=info_parts infoSl;have HT1:Hid (∀ W,Below w.heap.size w W→Row W w.heap.size (some ⟨b,off,none⟩) m 1 ((ds.take m).flatMap drawerC)):=uH (fun W hW=>by
      have:=(H.out.2.2.2.1.below hW).take (k:=m) (by omega)
      rwa [flat_take drawerC_len] at this)
     have HT3:Hid (∀ W,Below w.heap.size w W→Row W w.heap.size (fromA (some ⟨b,off,none⟩) (m+1) c 1) (k - (m+1)) 1 ((ds.drop (m+1)).flatMap drawerC)):=uH (fun W hW=>by
      have:=(H.out.2.2.2.1.below hW).from_ (k:=m+1) (c:=c) (by omega) hnc
      rwa [flat_drop drawerC_len] at this)
     have hsl2 : ∀ W,(Instr.slice 48 (.slice (some ⟨b,off,none⟩) k c) (some (.int .i64 ((m:Int)+1))) none none).run Tryz.prog W = .ok (.slice (fromA (some ⟨b,off,none⟩) (m+1) c 1) (k - (m+1)) (c - (m+1))) W:=fun W=>run_from elemCab sizeSl (some ⟨b,off,none⟩) k c (m+1) (by omega) W;(go_wp2_with fail);go_region_held3 (fun w'=>w'.cell? ⟨w.heap.size,0,none⟩=some (.int .i64 p.day)∧w'.cell? ⟨w.heap.size,1,none⟩=some (.string p.case)∧w'.cell? ⟨b,off+m,none⟩=some (.slice Ad nd cd)) (first | exact ⟨by assumption,by assumption,by assumption⟩ | go_keep)
      (first
       | (go_at_call 144;refine (HPut.out _ (by go_grown)).mono ?_;rintro e w5 ⟨⟨A5,c5,rfl,hO5⟩,hb5⟩;have e0:=kcell hb5 d0;have e1:=kcell hb5 d1;have e2:=kcell hb5 d2))
     have b5:Below w.heap.size w w5:=hb.trans ((Below.trans (by go_grown) hb5).mono hb.size);have hF5:=hO5.reads rfl HGf.out;obtain ⟨g5,q1,q2,q3,q4⟩:=World.ownsRow.form hO5 (by have:=HIl.out;omega);injection q2 with q5 q6 q7;subst q5;have hc5:=hF5.2.1;have hm5:=hF5.2.2.1;have HF5:=uH hF5;unfold maxLen at hm5;have hlen5:f.length≤5∧2≤f.length:=(by have:=HIl.out;omega);clear e0 e1 e2 d0 d1 d2 hb5 hO5 hF5 q3 q4 q7 HPut;generalize hml5:f.length=m5 at *;have HL5:=uH hml5;clear hml5;obtain ⟨l5a,l5b⟩:=hlen5;by_cases h4:4 < m5
     ·have hHH:((m5:Int)+1) / 2=((((m5+1) / 2:Nat)):Int):=(by omega);have HHf:Hid (halfOf f.length=(m5+1) / 2):=uH (by rw [HL5.out,halfOf_great h4]);have hH5:(m5+1) / 2≤m5:=(by omega);generalize (m5+1) / 2=HH at *;have hHm:HH≤m5:=(by omega);have hsl0 : ∀ W,(Instr.slice 46 (.slice (some ⟨g5,0,none⟩) m5 c5) none (some (.int .i64 ((HH:Nat):Int))) none).run Tryz.prog W = .ok (.slice (some ⟨g5,0,none⟩) HH c5) W:=fun W=>run_upto elemPads sizePad g5 0 m5 c5 HH (by omega) W;have hsl1 : ∀ W,(Instr.slice 46 (.slice (some ⟨g5,0,none⟩) m5 c5) (some (.int .i64 ((HH:Nat):Int))) none none).run Tryz.prog W = .ok (.slice (fromA (some ⟨g5,0,none⟩) HH c5 2) (m5 - HH) (c5 - HH)) W:=fun W=>run_from elemPads sizePad (some ⟨g5,0,none⟩) m5 c5 HH hHm W;go_wp2_with (first
       | (at_builtin;refine wpList_append_any _ rfl (.tmp 69) (.tmp 72) _ rfl w5.heap.size 46 i1 _ 1 24 Tryz.underlying48 hj hy0 hy1 hy2 rfl (by omega) (.slice (some ⟨w5.heap.size,0,none⟩) 0 0) 0 [] rfl (World.ownsRow_made w5 _ 0 (Nat.le_refl _) (by simp) (by simp)) w.heap.size (some ⟨b,off,none⟩) m c ((ds.take m).flatMap drawerC) rfl (HT1.out _ (b5.alloc b5.size _)) drC_one (by unfold maxLen;omega) (by omega) (by simp) ?_;intro v6 w6 hown6 hg6 hat6;simp only [Nat.zero_add,List.nil_append] at hown6;have b56:Below w5.heap.size w5 w6:=((Below.refl _ _).alloc (Nat.le_refl _) _).grown hg6 (by simp) (fun q hq=>by injection hq with hq;rw [← hq];exact Nat.le_refl _);have HO6:=uH hown6;have z6:=b56.size;clear hown6 hg6 hat6))
      have HO6d:Hid (w6.drew.ownsRow w5.heap.size 46 1 v6 m ((ds.take m).flatMap drawerC)):=uH HO6.out;have b56d:Below w5.heap.size w5 w6.drew:=b56.drew;go_region_held3 (fun _=>True) (trivial)
       ((refine step_append_any _ (by rfl) (.tmp 74) (.tmp 81) _ (by rfl) w5.heap.size 46 i1 _ 1 24 Tryz.underlying48 hj hy0 hy1 hy2 rfl (by omega) v6 m ((ds.take m).flatMap drawerC) (by rfl) (HO6d.out.alloc _) (w6.drew.heap.size+1) (some ⟨w6.drew.heap.size,0,none⟩) 2 2 [.slice (some ⟨g5,0,none⟩) HH c5,.slice (fromA (some ⟨g5,0,none⟩) HH c5 2) (m5 - HH) (c5 - HH)] (by rfl) (rowNew2 _ _ _ _) (by simp [Value.oneCell']) (by unfold maxLen;omega) (by omega) (by simp;omega) ?_;intro v7 w7 hown7 hg7 hat7;have b57:=(b56d.alloc z6 _).grown hg7 (by simp;omega) (fun q hq=>own_base HO6d.out hq);have HO7:=uH hown7;have z7:=b57.size))
      clear hown7 hg7 hat7 hsl1 hsl0;have hbw7:Below w.heap.size w w7:=b5.trans (b57.mono b5.size);go_wp2_with (first
       | (at_builtin;refine wpList_append_any _ rfl (.tmp 83) (.tmp 87) _ rfl w5.heap.size 46 i1 _ 1 24 Tryz.underlying48 hj hy0 hy1 hy2 rfl (by omega) v7 (m+2) _ rfl HO7.out w.heap.size (fromA (some ⟨b,off,none⟩) (m+1) c 1) (k - (m+1)) (c - (m+1)) ((ds.drop (m+1)).flatMap drawerC) rfl (HT3.out _ hbw7) drC_one (by unfold maxLen;omega) (by omega) z7 ?_;intro v8 w8 hown8 hg8 hat8;have b58:=b57.grown hg8 z7 (fun q hq=>own_base HO7.out hq);obtain ⟨A8,c8,rfl,hc8,hm8⟩:=own_form hown8;have HO8:=uH hown8;have z8:=b58.size;clear hown8 hg8 hat8))
      have hbw8:Below w.heap.size w w8:=b5.trans (b58.mono b5.size);have HPI:=uH (partsIn (h:=HH) H.out hbw8 hmk HF5.out b58 hHm (by have h8:=HO8.out;simpa using h8));have HCp:=uH (l8Copy A8 _ c8 _ w8 (by omega) (parts_small H.out HC.out hHm (by omega)) HPI.out);have HRes:=uH (parts_res (c5:=c5) (A5:=(some ⟨g5,0,none⟩)) (m5:=m5) HFi.out HHf.out);(go_wp2_with fail);refine HCp.out.mono ?_;rintro e w9 ⟨⟨A9,c9,ds9,rfl,hO9,hM9⟩,hb9⟩;have b9:=below_next hbw8 hb9;have HO9:=uH (hO9.mono hbw8.size);rw [HRes.out] at hM9;have hl9:(filed (ds.map (·.ps)) p).length=ds9.length:=(by rw [← hM9,List.length_map]);have HFS:Hid (fileO (ds.map (·.ps)) p=if 6 < ds9.length then none else some (ds9.map (·.ps))):=uH (by
       rw [HN.out,fileS,if_neg (by rw [List.length_map,HL.out];omega),hl9,hM9])
      clear hM9 hl9 hO9 hb9 HCp HPI;by_cases h6:6 < ds9.length
      ·have HQ:Hid (fileO (ds.map (·.ps)) p=none):=uH (by rw [HFS.out,if_pos h6]);go_wp2;go_returns;exact ⟨.no HQ.out rfl ((CabOwn.made w9).mono b9.size),b9.alloc b9.size _⟩
      ·have HQ:Hid (fileO (ds.map (·.ps)) p=some (ds9.map (·.ps))):=uH (by rw [HFS.out,if_neg h6]);have hcm9:=HO9.out.form;clear hcm9;go_wp2;go_returns;exact ⟨.yes HQ.out rfl HO9.out,b9⟩
     ·have HHf:Hid (halfOf f.length=m5):=uH (by rw [HL5.out,halfOf_small (by omega)]);have hHm:m5≤m5:=(by omega);have hsl0 : ∀ W,(Instr.slice 46 (.slice (some ⟨g5,0,none⟩) m5 c5) none (some (.int .i64 ((m5:Nat):Int))) none).run Tryz.prog W = .ok (.slice (some ⟨g5,0,none⟩) m5 c5) W:=fun W=>run_upto elemPads sizePad g5 0 m5 c5 m5 (by omega) W;have hsl1 : ∀ W,(Instr.slice 46 (.slice (some ⟨g5,0,none⟩) m5 c5) (some (.int .i64 ((m5:Nat):Int))) none none).run Tryz.prog W = .ok (.slice (fromA (some ⟨g5,0,none⟩) m5 c5 2) (m5 - m5) (c5 - m5)) W:=fun W=>run_from elemPads sizePad (some ⟨g5,0,none⟩) m5 c5 m5 hHm W;go_wp2_with (first
       | (at_builtin;refine wpList_append_any _ rfl (.tmp 69) (.tmp 72) _ rfl w5.heap.size 46 i1 _ 1 24 Tryz.underlying48 hj hy0 hy1 hy2 rfl (by omega) (.slice (some ⟨w5.heap.size,0,none⟩) 0 0) 0 [] rfl (World.ownsRow_made w5 _ 0 (Nat.le_refl _) (by simp) (by simp)) w.heap.size (some ⟨b,off,none⟩) m c ((ds.take m).flatMap drawerC) rfl (HT1.out _ (b5.alloc b5.size _)) drC_one (by unfold maxLen;omega) (by omega) (by simp) ?_;intro v6 w6 hown6 hg6 hat6;simp only [Nat.zero_add,List.nil_append] at hown6;have b56:Below w5.heap.size w5 w6:=((Below.refl _ _).alloc (Nat.le_refl _) _).grown hg6 (by simp) (fun q hq=>by injection hq with hq;rw [← hq];exact Nat.le_refl _);have HO6:=uH hown6;have z6:=b56.size;clear hown6 hg6 hat6))
      have HO6d:Hid (w6.drew.ownsRow w5.heap.size 46 1 v6 m ((ds.take m).flatMap drawerC)):=uH HO6.out;have b56d:Below w5.heap.size w5 w6.drew:=b56.drew;go_region_held3 (fun _=>True) (trivial)
       ((refine step_append_any _ (by rfl) (.tmp 74) (.tmp 81) _ (by rfl) w5.heap.size 46 i1 _ 1 24 Tryz.underlying48 hj hy0 hy1 hy2 rfl (by omega) v6 m ((ds.take m).flatMap drawerC) (by rfl) (HO6d.out.alloc _) (w6.drew.heap.size+1) (some ⟨w6.drew.heap.size,0,none⟩) 2 2 [.slice (some ⟨g5,0,none⟩) m5 c5,.slice (fromA (some ⟨g5,0,none⟩) m5 c5 2) 0 (c5 - m5)] (by rfl) (rowNew2 _ _ _ _) (by simp [Value.oneCell']) (by unfold maxLen;omega) (by omega) (by simp;omega) ?_;intro v7 w7 hown7 hg7 hat7;have b57:=(b56d.alloc z6 _).grown hg7 (by simp;omega) (fun q hq=>own_base HO6d.out hq);have HO7:=uH hown7;have z7:=b57.size))
      clear hown7 hg7 hat7 hsl1 hsl0;have hbw7:Below w.heap.size w w7:=b5.trans (b57.mono b5.size);go_wp2_with (first
       | (at_builtin;refine wpList_append_any _ rfl (.tmp 83) (.tmp 87) _ rfl w5.heap.size 46 i1 _ 1 24 Tryz.underlying48 hj hy0 hy1 hy2 rfl (by omega) v7 (m+2) _ rfl HO7.out w.heap.size (fromA (some ⟨b,off,none⟩) (m+1) c 1) (k - (m+1)) (c - (m+1)) ((ds.drop (m+1)).flatMap drawerC) rfl (HT3.out _ hbw7) drC_one (by unfold maxLen;omega) (by omega) z7 ?_;intro v8 w8 hown8 hg8 hat8;have b58:=b57.grown hg8 z7 (fun q hq=>own_base HO7.out hq);obtain ⟨A8,c8,rfl,hc8,hm8⟩:=own_form hown8;have HO8:=uH hown8;have z8:=b58.size;clear hown8 hg8 hat8))
      have hbw8:Below w.heap.size w w8:=b5.trans (b58.mono b5.size);have HPI:=uH (partsIn (h:=m5) H.out hbw8 hmk HF5.out b58 hHm (by have h8:=HO8.out;simpa using h8));have HCp:=uH (l8Copy A8 _ c8 _ w8 (by omega) (parts_small H.out HC.out hHm (by omega)) HPI.out);have HRes:=uH (parts_res (c5:=c5) (A5:=(some ⟨g5,0,none⟩)) (m5:=m5) HFi.out HHf.out);(go_wp2_with fail);refine HCp.out.mono ?_;rintro e w9 ⟨⟨A9,c9,ds9,rfl,hO9,hM9⟩,hb9⟩;have b9:=below_next hbw8 hb9;have HO9:=uH (hO9.mono hbw8.size);rw [HRes.out] at hM9;have hl9:(filed (ds.map (·.ps)) p).length=ds9.length:=(by rw [← hM9,List.length_map]);have HFS:Hid (fileO (ds.map (·.ps)) p=if 6 < ds9.length then none else some (ds9.map (·.ps))):=uH (by
       rw [HN.out,fileS,if_neg (by rw [List.length_map,HL.out];omega),hl9,hM9])
      clear hM9 hl9 hO9 hb9 HCp HPI;by_cases h6:6 < ds9.length
      ·have HQ:Hid (fileO (ds.map (·.ps)) p=none):=uH (by rw [HFS.out,if_pos h6]);go_wp2;go_returns;exact ⟨.no HQ.out rfl ((CabOwn.made w9).mono b9.size),b9.alloc b9.size _⟩
      ·have HQ:Hid (fileO (ds.map (·.ps)) p=some (ds9.map (·.ps))):=uH (by rw [HFS.out,if_neg h6]);have hcm9:=HO9.out.form;clear hcm9;go_wp2;go_returns;exact ⟨.yes HQ.out rfl HO9.out,b9⟩
end Go.Proofs.YtbkhnljaajajiaaGreatDoor
