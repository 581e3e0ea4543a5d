/-
  Contracts and plain laws that the proofs lean on. Conditions: as each says.
-/
import Derived.Test.YtbkhnljaajajiaaGreatDoorPX00
import Derived.Test.YtbkhnljaajajiaaGreatDoorPX01
set_option maxRecDepth 100000
set_option linter.unusedSimpArgs false
set_option linter.unusedVariables false
set_option linter.unnecessarySimpa false
namespace Go.Proofs.YtbkhnljaajajiaaGreatDoor
open Go.ChangeShapes Go.WideShapes Go.ChangeAt Go.RowKit
section
variable {w w':World} {B n sz:Nat} {e:TypeId} {v:Value} {xs:List Value}
theorem ownG_form (h:w.ownsRow B e sz v n xs) : ∃ A c,v = .slice A n c∧n≤c∧c≤maxLen:=by
 rcases h.2 with ⟨rfl,rfl⟩ | ⟨g,cap,cur,rfl,_,_,h1,h2,_⟩
 ·exact ⟨none,0,rfl,Nat.le_refl _,Nat.zero_le _⟩
 ·exact ⟨_,cap,rfl,h1,h2⟩
theorem ownG_base {k:Nat} (h:w.ownsRow B e sz v n xs) (hk:v.ownBlock=some k):B≤k:=by
 rcases h.2 with ⟨rfl,rfl⟩ | ⟨g,cap,cur,rfl,hg,_⟩
 ·cases hk
 ·injection hk with hk;simp at hk;omega
theorem ownG_congr (h:w.ownsRow B e sz v n xs) (hb : ∀ b,v.ownBlock=some b→w'.heap[b]? = w.heap[b]?):w'.ownsRow B e sz v n xs:=by
 refine ⟨h.1,?_⟩;rcases h.2 with h2 | ⟨g,cap,cur,rfl,h1,h2,h3⟩
 ·exact .inl h2
 ·exact .inr ⟨g,cap,cur,rfl,h1,(hb g rfl).trans h2,h3⟩
theorem ownG_obj (h:w.ownsRow B e sz v n xs) {b:Nat} (hb:v.ownBlock=some b) : ∃ cur,w.heap[b]? = some (.cells cur e (0,0)):=by
 rcases h.2 with ⟨rfl,_⟩ | ⟨g,cap,cur,rfl,h1,h2,_⟩
 ·cases hb
 ·injection hb with hb;subst hb;exact ⟨cur,h2⟩
theorem ownG_lt (h:w.ownsRow B e sz v n xs) {b:Nat} (hb:v.ownBlock=some b):b < w.heap.size:=by
 obtain ⟨cur,h1⟩:=ownG_obj h hb;exact Blk.lt (w:=w) (t:=e) h1
theorem ownG_keep (h:w.ownsRow B e sz v n xs) (hb:Below w.heap.size w w'):w'.ownsRow B e sz v n xs:=ownG_congr h fun _ hv=>hb.block _ (ownG_lt h hv)
theorem ownG_mono {B':Nat} (h:w.ownsRow B e sz v n xs) (hB:B'≤B):w.ownsRow B' e sz v n xs:=by
 refine ⟨h.1,?_⟩;rcases h.2 with h2 | ⟨g,cap,cur,rfl,h1,h2,h3⟩
 ·exact .inl h2
 ·exact .inr ⟨g,cap,cur,rfl,by omega,h2,h3⟩
end
def strP (p:List UInt8):Value:=.string (mkStr p)
def wdAt (ws:List (List UInt8)) (k:Nat):List UInt8:=ws.getD k []
theorem wdAt_some {ws:List (List UInt8)} {k:Nat} (h:k < ws.length):ws[k]? = some (wdAt ws k):=by simp [wdAt,List.getD_eq_getElem?_getD,h]
theorem wdAt_mem {ws:List (List UInt8)} {k:Nat} (h:k < ws.length):wdAt ws k∈ws:=List.mem_of_getElem? (wdAt_some h)
def WdsIn (w:World) (B:Nat) (A:Option Addr) (n c:Nat) (ws:List (List UInt8)):Prop :=
 ws.length=n∧n≤c∧c≤maxLen∧Row w B A n 1 (ws.map strP)
theorem WdsIn.below {w w':World} {B n c:Nat} {A:Option Addr} {ws:List (List UInt8)} (h:WdsIn w B A n c ws) (hb:Below B w w'):WdsIn w' B A n c ws :=
 ⟨h.1,h.2.1,h.2.2.1,h.2.2.2.below hb⟩
theorem WdsIn.more {w:World} {B B' n c:Nat} {A:Option Addr} {ws:List (List UInt8)} (h:WdsIn w B A n c ws) (hb:B≤B'):WdsIn w B' A n c ws :=
 ⟨h.1,h.2.1,h.2.2.1,h.2.2.2.more hb⟩
theorem WdsIn.keep {w w':World} {n c:Nat} {A:Option Addr} {ws:List (List UInt8)} (h:WdsIn w w.heap.size A n c ws) (hb:Below w.heap.size w w'):WdsIn w' w'.heap.size A n c ws:=(h.below hb).more hb.size
theorem WdsIn.at_ {w:World} {B n c k:Nat} {A:Option Addr} {ws:List (List UInt8)} (h:WdsIn w B A n c ws) (hk:k < n) :
  ∃ b off,A=some ⟨b,off,none⟩∧b < B∧w.cell? ⟨b,off+k,none⟩=some (.string (mkStr (wdAt ws k))):=by
 obtain ⟨h1,_,_,h4⟩:=h;obtain ⟨b,off,eA,hbB,hc⟩:=h4.2 (by omega);have hs:=wdAt_some (ws:=ws) (k:=k) (by omega);refine ⟨b,off,eA,hbB,hc k _ ?_⟩;rw [List.getElem?_map,hs];rfl
def WdOwn (w:World) (B:Nat) (v:Value) (ws:List (List UInt8)):Prop:=w.ownsRow B 9 1 v ws.length (ws.map strP)
theorem WdOwn.reads {w:World} {B n c:Nat} {A:Option Addr} {ws:List (List UInt8)} (h:WdOwn w B (.slice A n c) ws) (hn:ws.length=n):WdsIn w w.heap.size A n c ws:=by
 unfold WdOwn at h;rw [hn] at h;obtain ⟨A',c',e,h2,h3⟩:=ownG_form h;injection e with e1 e2 e3;subst e1 e3;exact ⟨hn,h2,h3,Row.of_own h⟩
theorem infoInt:(Tryz.prog.info? 3).map (fun i=>(i.zero,i.size,i.bytes))=some (some (.int .i64 0),1,8):=by kernel_rfl
theorem rowNew1 (w:World) (u:Value) (t:TypeId):Row (w.alloc (.cells #[u] t)) (w.heap.size+1) (some ⟨w.heap.size,0,none⟩) 1 1 [u]:=by
 refine ⟨rfl,fun _=>⟨w.heap.size,0,rfl,by omega,fun j x hj=>?_⟩⟩;rw [World.cell?_alloc_at _ t w.heap.size (0+j) rfl];simpa using hj
theorem infoWd:(Tryz.prog.info? 9).map (fun i=>(i.zero,i.size,i.bytes))=some (some (.string ByteArray.empty),1,16):=by kernel_rfl
theorem beq_str (s:ByteArray) (l l':List UInt8) (hs:s=mkStr l'):((mkStr l).toList == s.toList)=decide (l=l'):=by
 rw [hs,Lib.toList_data,Lib.toList_data,mkStr_data,mkStr_data];by_cases h:l=l'
 ·rw [h,decide_eq_true rfl];exact beq_self_eq_true _
 ·rw [decide_eq_false h];exact beq_eq_false_iff_ne.2 h
theorem Row.take {w:World} {B n sz k:Nat} {A:Option Addr} {xs:List Value} (h:Row w B A n sz xs) (hk:k≤n):Row w B A k sz (xs.take (k * sz)):=by
 refine ⟨by rw [List.length_take,h.1,Nat.min_eq_left (Nat.mul_le_mul_right _ hk)],fun h0=>?_⟩;obtain ⟨b,off,e,hb,hc⟩:=h.2 (by omega);refine ⟨b,off,e,hb,fun j u hu=>hc j u ?_⟩;have hj:j < (xs.take (k * sz)).length:=(List.getElem?_eq_some_iff.1 hu).1;rw [List.length_take] at hj
 rwa [List.getElem?_take_of_lt (by omega)] at hu
theorem Row.drop {w:World} {B n sz k b off:Nat} {xs:List Value} (h:Row w B (some ⟨b,off,none⟩) n sz xs) (hk:k≤n):Row w B (some ⟨b,off+k * sz,none⟩) (n - k) sz (xs.drop (k * sz)):=by
 refine ⟨by rw [List.length_drop,h.1,Nat.sub_mul],fun h0=>?_⟩;obtain ⟨b',off',e,hb,hc⟩:=h.2 (by omega);injection e with e;injection e with e1 e2;subst e1 e2;refine ⟨b,off+k * sz,rfl,hb,fun j u hu=>?_⟩;rw [List.getElem?_drop] at hu;have:=hc _ u hu
 rwa [← Nat.add_assoc] at this
theorem Row.empty {w:World} {B sz:Nat} {A:Option Addr}:Row w B A 0 sz []:=⟨by simp,fun h=>by omega⟩
theorem flat_take {α:Type} {ea:α→List Value} {sz:Nat} (hl : ∀ a,(ea a).length=sz) (l:List α) (k:Nat):(l.flatMap ea).take (k * sz)=(l.take k).flatMap ea:=by
 rcases Nat.lt_or_ge k l.length with h | h
 ·have e:l.flatMap ea=(l.take k).flatMap ea++(l.drop k).flatMap ea:=(by rw [← List.flatMap_append,List.take_append_drop]);have e2:((l.take k).flatMap ea).length=k * sz:=(by rw [flat_len hl,List.length_take,Nat.min_eq_left (by omega)]);rw [e,List.take_append_of_le_length (by omega),List.take_of_length_le (by omega)]
 ·rw [List.take_of_length_le h,List.take_of_length_le (by rw [flat_len hl];exact Nat.mul_le_mul_right _ h)]
theorem flat_drop {α:Type} {ea:α→List Value} {sz:Nat} (hl : ∀ a,(ea a).length=sz) (l:List α) (k:Nat):(l.flatMap ea).drop (k * sz)=(l.drop k).flatMap ea:=by
 rcases Nat.lt_or_ge k l.length with h | h
 ·have e:l.flatMap ea=(l.take k).flatMap ea++(l.drop k).flatMap ea:=(by rw [← List.flatMap_append,List.take_append_drop]);have e2:((l.take k).flatMap ea).length=k * sz:=(by rw [flat_len hl,List.length_take,Nat.min_eq_left (by omega)]);rw [e,List.drop_append_of_le_length (by omega),List.drop_of_length_le (by omega),List.nil_append]
 ·rw [List.drop_of_length_le h,List.drop_of_length_le (by rw [flat_len hl];exact Nat.mul_le_mul_right _ h)];rfl
def fromB (a:Option Addr) (k c sz:Nat):Option Addr:=if c=k then a else a.map (·.add (k * sz))
theorem run_fromS {P:Program} {t:TypeId} {sz:Nat} (ht:P.underlying t=some (.slice (P.elem t))) (hs : ∀ w,(sizeOf (P.elem t)).run P w = .ok sz w) (a:Option Addr) (n c k:Nat) (hk:k≤n) (w:World) :
  (Instr.slice t (.slice a n c) (some (.int .i64 (k:Int))) none none).run P w = .ok (.slice (fromB a k c sz) (n - k) (c - k)) w:=by
 rw [run_slice_l w t a n c ht .i64 (k:Int) (by omega) (by omega),hs];simp [Result.andThen,sliced,fromB]
theorem Row.fromS {w:World} {B n sz k c:Nat} {A:Option Addr} {xs:List Value} (h:Row w B A n sz xs) (hk:k≤n) (hc:n≤c):Row w B (fromB A k c sz) (n - k) sz (xs.drop (k * sz)):=by
 unfold fromB;by_cases e:c=k
 ·rw [if_pos e];have h0:n - k=0:=(by omega);have h1:xs.drop (k * sz)=[]:=List.drop_of_length_le (by rw [h.1];exact Nat.mul_le_mul_right _ (by omega));rw [h0,h1];exact Row.empty
 ·rw [if_neg e];rcases Nat.eq_zero_or_pos n with hn | hn
  ·have h0:n - k=0:=(by omega);have h1:xs.drop (k * sz)=[]:=List.drop_of_length_le (by rw [h.1,hn];simp);rw [h0,h1];exact Row.empty
  ·obtain ⟨b,off,eA,_⟩:=h.2 hn;subst eA;rw [show Option.map (fun x:Addr=>x.add (k * sz)) (some (⟨b,off,none⟩:Addr))=some ⟨b,off+k * sz,none⟩ from by
    by_cases hz:k * sz=0
    ·simp [Addr.add,hz]
    ·simp [Addr.add,hz]]
   exact h.drop hk
theorem run_uptoA {P:Program} {t:TypeId} {sz:Nat} (ht:P.underlying t=some (.slice (P.elem t))) (hs : ∀ w,(sizeOf (P.elem t)).run P w = .ok sz w) (a:Option Addr) (n c k:Nat) (hk:k≤c) (w:World) :
  (Instr.slice t (.slice a n c) none (some (.int .i64 (k:Int))) none).run P w = .ok (.slice a k c) w:=by
 rw [run_slice_h w t a n c ht .i64 (k:Int) (by omega) (by omega),hs];cases a <;> simp [Result.andThen,sliced,Addr.add]
theorem elemW:Tryz.prog.underlying 27=some (.slice (Tryz.prog.elem 27)):=by kernel_rfl
theorem sizeW : ∀ w,(sizeOf (Tryz.prog.elem 27)).run Tryz.prog w = .ok 1 w:=fun w=>by kernel_rfl
theorem WdsIn.upto {w:World} {B n c k:Nat} {A:Option Addr} {ws:List (List UInt8)} (h:WdsIn w B A n c ws) (hk:k≤n):WdsIn w B A k c (ws.take k) :=
 ⟨by rw [List.length_take,h.1];omega,Nat.le_trans hk h.2.1,h.2.2.1,by have:=h.2.2.2.take hk;rw [Nat.mul_one,← List.map_take] at this;exact this⟩
theorem WdsIn.fromS {w:World} {B n c k:Nat} {A:Option Addr} {ws:List (List UInt8)} (h:WdsIn w B A n c ws) (hk:k≤n):WdsIn w B (fromB A k c 1) (n - k) (c - k) (ws.drop k) :=
 ⟨by rw [List.length_drop,h.1],by have:=h.2.1;omega,by have:=h.2.2.1;omega,by have:=h.2.2.2.fromS hk h.2.1;rw [Nat.mul_one,← List.map_drop] at this;exact this⟩
end Go.Proofs.YtbkhnljaajajiaaGreatDoor
namespace Go.Proofs.YtbkhnljaajajiaaGreatDoor
def spB (ws:List Wd):Bool:=ws.all wordB && decide (ws.length≤20)
theorem spB_iff {ws:List Wd}:spB ws=true ↔ (∀ l∈ws,wordB l=true)∧ws.length≤20:=by
 unfold spB;rw [Bool.and_eq_true,List.all_eq_true,decide_eq_true_iff]
def mkB (n:Nat) (m:Mk):Bool:=decide (m.at_≤n∧m.cut≤n - m.at_) && (spB m.put && decide (0 < m.cut+m.put.length))
theorem mkB_iff {n:Nat} {m:Mk}:mkB n m=true ↔ m.at_+m.cut≤n∧spB m.put=true∧0 < m.cut+m.put.length:=by
 unfold mkB;rw [Bool.and_eq_true,Bool.and_eq_true,decide_eq_true_iff,decide_eq_true_iff];constructor
 ·rintro ⟨⟨h1,h2⟩,h3,h4⟩;exact ⟨by omega,h3,h4⟩
 ·rintro ⟨h1,h3,h4⟩;exact ⟨⟨by omega,by omega⟩,h3,h4⟩
def gapB (n:Nat):Option Mk→List Mk→Bool
 | _,[]=>true
 | p,m::r=>(mkB n m && (match p with | none=>true | some q=>decide (q.at_+q.cut < m.at_))) && gapB n (some m) r
def behind (p:Option Mk) (m:Mk):Bool:=match p with | none=>true | some q=>decide (q.at_+q.cut < m.at_)
theorem gapB_cons (n:Nat) (p:Option Mk) (m:Mk) (r:List Mk):gapB n p (m::r)=((mkB n m && behind p m) && gapB n (some m) r):=by cases p <;> rfl
def lenI (n:Int) (ms:List Mk):Int:=ms.foldl (fun l m=>l - (m.cut:Int)+(m.put.length:Int)) n
def marksB (ws:List Wd) (ms:List Mk):Bool:=(spB ws && decide (ms.length≤20)) && (gapB ws.length none ms && decide (lenI ws.length ms≤20))
theorem marksB_iff {ws:List Wd} {ms:List Mk}:marksB ws ms=true ↔ spB ws=true∧ms.length≤20∧gapB ws.length none ms=true∧lenI ws.length ms≤20:=by
 unfold marksB;rw [Bool.and_eq_true,Bool.and_eq_true,Bool.and_eq_true,decide_eq_true_iff,decide_eq_true_iff,and_assoc]
def Ord (ms:List Mk):Prop:=ms.Pairwise (fun x y=>x.at_+x.cut < y.at_)
theorem gapB_ord {n:Nat} {p:Option Mk} {ms:List Mk} (h:gapB n p ms=true):(∀ m∈ms,mkB n m=true)∧Ord ms∧(∀ q,p=some q→∀ m∈ms,q.at_+q.cut < m.at_):=by
 induction ms generalizing p with
 | nil=>exact ⟨by simp,List.Pairwise.nil,by simp⟩
 | cons x r ih =>
  rw [gapB_cons,Bool.and_eq_true,Bool.and_eq_true] at h;obtain ⟨⟨h1,h2⟩,h3⟩:=h;obtain ⟨i1,i2,i3⟩:=ih h3;refine ⟨fun m hm=>?_,List.Pairwise.cons (fun m hm=>i3 x rfl m hm) i2,fun q hq m hm=>?_⟩
  ·rcases List.mem_cons.1 hm with rfl | hm
   ·exact h1
   ·exact i1 m hm
  ·subst hq;have h2:q.at_+q.cut < x.at_:=of_decide_eq_true h2;rcases List.mem_cons.1 hm with rfl | hm
   ·exact h2
   ·have:=i3 x rfl m hm;omega
theorem ord_gapB {n:Nat} {p:Option Mk} {ms:List Mk} (h1 : ∀ m∈ms,mkB n m=true) (h2:Ord ms) (h3 : ∀ q,p=some q→∀ m∈ms,q.at_+q.cut < m.at_):gapB n p ms=true:=by
 induction ms generalizing p with
 | nil=>rfl
 | cons x r ih =>
  rw [gapB_cons,Bool.and_eq_true,Bool.and_eq_true];rw [Ord,List.pairwise_cons] at h2;refine ⟨⟨h1 x (by simp),?_⟩,ih (fun m hm=>h1 m (by simp [hm])) h2.2 (fun q hq m hm=>by injection hq with hq;subst hq;exact h2.1 m hm)⟩;cases p with
  | none=>rfl
  | some q=>exact decide_eq_true (h3 q rfl x (by simp))
def mkAt (ms:List Mk) (i:Nat):Mk:=ms.getD i ⟨0,0,[]⟩
theorem mkAt_some {ms:List Mk} {i:Nat} (h:i < ms.length):ms[i]? = some (mkAt ms i):=by simp [mkAt,List.getD_eq_getElem?_getD,h]
theorem mkAt_get {ms:List Mk} {i:Nat} (h:i < ms.length):ms[i]=mkAt ms i:=by
 have:=mkAt_some h;rw [List.getElem?_eq_getElem h] at this;injection this
theorem mkAt_mem {ms:List Mk} {i:Nat} (h:i < ms.length):mkAt ms i∈ms:=List.mem_of_getElem? (mkAt_some h)
def gapG (n:Nat) (ms:List Mk) (i:Nat):Prop:=mkB n (mkAt ms i)=true∧(0 < i→(mkAt ms (i - 1)).at_+(mkAt ms (i - 1)).cut < (mkAt ms i).at_)
theorem gapB_iff {n:Nat} {ms:List Mk}:gapB n none ms=true ↔ ∀ i,i < ms.length→gapG n ms i:=by
 constructor
 ·intro h i hi;obtain ⟨h1,h2,_⟩:=gapB_ord h;refine ⟨h1 _ (mkAt_mem hi),fun h0=>?_⟩;have:=List.pairwise_iff_getElem.1 h2 (i - 1) i (by omega) hi (by omega)
  rwa [mkAt_get,mkAt_get] at this
 ·intro h;refine ord_gapB (fun m hm=>?_) (List.pairwise_iff_getElem.2 (fun i j hi hj hij=>?_)) (by simp)
  ·obtain ⟨i,hi,rfl⟩:=List.getElem_of_mem hm;rw [mkAt_get hi];exact (h i hi).1
  ·rw [mkAt_get,mkAt_get];obtain ⟨d,rfl⟩ : ∃ d,j=i+1+d:=⟨j - (i+1),by omega⟩;clear hij;induction d with
   | zero=>exact (h (i+1) hj).2 (by omega)
   | succ d ih =>
    have h1:=ih (by omega);have h2:=(h (i+1+(d+1)) hj).2 (by omega);rw [show i+1+(d+1) - 1=i+1+d by omega] at h2;omega
def dedup (acc:List Mk):List Mk→List Mk
 | []=>acc
 | m::r=>if m∈acc then dedup acc r else dedup (acc++[m]) r
theorem dedup_len (L:List Mk) : ∀ acc:List Mk,(dedup acc L).length≤acc.length+L.length:=by
 induction L with
 | nil=>intro acc;simp [dedup]
 | cons x r ih =>
  intro acc;rw [dedup];split
  ·have:=ih acc;simp only [List.length_cons];omega
  ·have:=ih (acc++[x]);simp only [List.length_append,List.length_cons,List.length_nil] at *;omega
end Go.Proofs.YtbkhnljaajajiaaGreatDoor
