/-
  Contracts and plain laws that the proofs lean on. Conditions: as each says.
-/
import Derived.Test.YtbkhnljaajajiaaGreatDoorPX21
import Derived.Test.YtbkhnljaajajiaaGreatDoorPX24
set_option maxRecDepth 100000
set_option linter.unusedSimpArgs false
set_option linter.unusedVariables false
set_option linter.unnecessarySimpa false
namespace Go.Proofs.YtbkhnljaajajiaaGreatDoor
open Go.ChangeShapes Go.WideShapes Go.ChangeAt Go.RowKit
def blank (b:Nat) (w:World):World:={ w with heap:=w.heap.setIfInBounds b (.cells #[] 0) }
theorem blank_size (b:Nat) (w:World):(blank b w).heap.size=w.heap.size:=by simp [blank]
theorem blank_ne {b g:Nat} (w:World) (h:g≠b):(blank b w).heap[g]? = w.heap[g]? := by
 show (w.heap.setIfInBounds b _)[g]? = _
 exact Array.getElem?_setIfInBounds_ne (Ne.symm h)
theorem blank_cell_ne {b:Nat} (w:World) {p:Addr} (h:p.block≠b):(blank b w).cell? p=w.cell? p:=by
 unfold World.cell?;rw [blank_ne w h]
theorem blank_cell {b:Nat} {w:World} {p:Addr} {u:Value} (h:(blank b w).cell? p=some u):w.cell? p=some u∧p.block≠b:=by
 by_cases hp:p.block=b
 ·exfalso;subst hp;unfold World.cell? blank at h;by_cases hb:p.block < w.heap.size
  ·have e:(w.heap.setIfInBounds p.block (.cells #[] 0))[p.block]? = some (.cells #[] 0):=by
    rw [Array.getElem?_setIfInBounds_self,if_pos hb]
   simp only [e] at h;split at h <;> simp at h
  ·have e:(w.heap.setIfInBounds p.block (.cells #[] 0))[p.block]? = none:=Array.getElem?_eq_none (by simp;omega);simp only [e] at h;cases h
 ·rw [blank_cell_ne w hp] at h;exact ⟨h,hp⟩
theorem below_blank {B b:Nat} {w w':World} (h:Below B w w'):Below B (blank b w) (blank b w') :=
 ⟨h.os,h.tape,h.output,by rw [blank_size,blank_size];exact h.size,fun k hk=>by
  by_cases e:k=b
  ·subst e
   show (w'.heap.setIfInBounds k _)[k]? = (w.heap.setIfInBounds k _)[k]?
   have h1:=h.block k hk;have h2:(k < w'.heap.size) ↔ (k < w.heap.size):=by
    constructor
    ·intro a;rw [Array.getElem?_eq_getElem a] at h1;rcases Nat.lt_or_ge k w.heap.size with c | c
     ·exact c
     ·rw [Array.getElem?_eq_none c] at h1;cases h1
    ·intro a;exact Nat.lt_of_lt_of_le a h.size
   rw [Array.getElem?_setIfInBounds_self,Array.getElem?_setIfInBounds_self];by_cases c:k < w.heap.size
   ·rw [if_pos c,if_pos (h2.2 c)]
   ·rw [if_neg c,if_neg (fun x=>c (h2.1 x))]
  ·rw [blank_ne _ e,blank_ne _ e];exact h.block k hk⟩
section
variable {w:World} {b B:Nat}
theorem ownG_blank {e:TypeId} {sz n:Nat} {v:Value} {xs:List Value} (h:w.ownsRow B e sz v n xs) (hb:b < B):(blank b w).ownsRow B e sz v n xs :=
 ownG_congr h fun g hg=>blank_ne w (by have:=ownG_base h hg;omega)
theorem SgOwn.readsB {n c:Nat} {A:Option Addr} {xs:List Sg} (h:SgOwn w B (.slice A n c) xs) (hb:b < B) (hn:xs.length=n) (hg : ∀ x∈xs,x.st.good):SgsIn (blank b w) (blank b w).heap.size A n c xs :=
 SgOwn.reads (ownG_blank h hb) hn hg
theorem CabOwn.readsB {n c:Nat} {A:Option Addr} {ds:List Drawer} (h:CabOwn w B (.slice A n c) ds) (hb:b < B) (hn:ds.length=n):DrawersIn (blank b w) (blank b w).heap.size A n c ds :=
 CabOwn.reads (h.congr (fun g hg=>blank_ne w (by have:=ownG_base h.1 hg;omega)) fun d hd g hg=>blank_ne w (by have:=ownG_base (h.2.1 d hd).2.1 hg;omega)) hn
theorem WdsIn.reblank {n c:Nat} {A:Option Addr} {ws:List Wd} (h:WdsIn w w.heap.size A n c ws) (ha : ∀ a,A=some a→a.block≠b):WdsIn (blank b w) (blank b w).heap.size A n c ws :=
 ⟨h.1,h.2.1,h.2.2.1,h.2.2.2.1,fun hn=>by
  obtain ⟨g,off,e,hg,hc⟩:=h.2.2.2.2 hn;refine ⟨g,off,e,by rw [blank_size];exact hg,fun j u hu=>?_⟩;rw [blank_cell_ne w (p:=⟨g,off+j,none⟩) (show g≠b from ha ⟨g,off,none⟩ e)];exact hc j u hu⟩
theorem BrOwn.readsB {n c:Nat} {A:Option Addr} {xs:List Br} (h:BrOwn w B (.slice A n c) xs) (hN:BrNew B xs) (hb:b < B) (hn:xs.length=n):BrsIn (blank b w) (blank b w).heap.size A n c xs:=by
 have h1:=BrOwn.reads h hn;have h2:=ownG_blank h.1 hb;rw [hn] at h2;refine ⟨h1.1,h1.2.1,h1.2.2.1,Row.of_own h2,fun x hx=>?_⟩;exact WdsIn.reblank (h1.2.2.2.2 x hx) (fun a ha=>by have:=hN x hx a ha;omega)
theorem SgsIn.keepB {w':World} {n c:Nat} {A:Option Addr} {xs:List Sg} (h:SgsIn (blank b w) (blank b w).heap.size A n c xs) (hb:Below w.heap.size w w'):SgsIn (blank b w') (blank b w').heap.size A n c xs :=
 h.keep (by rw [blank_size];exact (below_blank hb))
theorem StIn.keepB {w':World} {h:Hd} (H:StIn (blank b w) h) (hb:Below w.heap.size w w'):StIn (blank b w') h :=
 H.keep (by rw [blank_size];exact (below_blank hb))
theorem WdsIn.keepB {w':World} {n c:Nat} {A:Option Addr} {ws:List Wd} (h:WdsIn (blank b w) (blank b w).heap.size A n c ws) (hb:Below w.heap.size w w'):WdsIn (blank b w') (blank b w').heap.size A n c ws :=
 h.keep (by rw [blank_size];exact (below_blank hb))
end
def Carry (w w':World) (h h':Hd) (A:Option Addr) (n c:Nat) (ws:List Wd):Prop :=
 ∀ b,b < w.heap.size→StIn (blank b w) h→WdsIn (blank b w) (blank b w).heap.size A n c ws→StIn (blank b w') h'
theorem Carry.same {w w':World} {h:Hd} {A:Option Addr} {n c:Nat} {ws:List Wd} (hb:Below w.heap.size w w'):Carry w w' h h A n c ws:=fun _ _ H _=>H.keepB hb
theorem Carry.sys {w w':World} {h:Hd} {A A':Option Addr} {n c n' c':Nat} {ws:List Wd} {xs:List Sg} (hb:Below w.heap.size w w') (ho:SgOwn w' w.heap.size (.slice A' n' c') xs) (hn:xs.length=n') (hg : ∀ x∈xs,x.st.good) :
  Carry w w' h { h with A1:=A',n1:=n',c1:=c',sys:=xs } A n c ws:=fun _ hlt H _ =>
 let K:=H.keepB hb
 ⟨ho.readsB hlt hn hg,K.br,K.wd,K.dr⟩
theorem Carry.brs {w w':World} {h:Hd} {A A':Option Addr} {n c n' c':Nat} {ws:List Wd} {xs:List Br} (hb:Below w.heap.size w w') (ho:BrOwn w' w.heap.size (.slice A' n' c') xs) (hN:BrNew w.heap.size xs) (hn:xs.length=n') :
  Carry w w' h { h with A2:=A',n2:=n',c2:=c',xs:=xs } A n c ws:=fun _ hlt H _ =>
 let K:=H.keepB hb
 ⟨K.sg,ho.readsB hN hlt hn,K.wd,K.dr⟩
theorem Carry.cab {w w':World} {h:Hd} {A A':Option Addr} {n c n' c':Nat} {ws:List Wd} {ds:List Drawer} (hb:Below w.heap.size w w') (ho:CabOwn w' w.heap.size (.slice A' n' c') ds) (hn:ds.length=n') :
  Carry w w' h { h with A4:=A',n4:=n',c4:=c',ds:=ds } A n c ws:=fun _ hlt H _ =>
 let K:=H.keepB hb
 ⟨K.sg,K.br,K.wd,ho.readsB hlt hn⟩
theorem Carry.sp {w w':World} {h:Hd} {A:Option Addr} {n c k:Nat} {ws:List Wd} (hb:Below w.heap.size w w') (hk:k≤n) :
  Carry w w' h { h with A3:=fromB A k c 1,n3:=n - k,c3:=c - k,sp:=ws.drop k } A n c ws:=fun _ _ H hW =>
 let K:=H.keepB hb
 ⟨K.sg,K.br,(hW.keepB hb).fromS hk,K.dr⟩
def blanks (S:List Nat) (w:World):World:={ w with heap:=w.heap.mapIdx fun k o=>if k∈S then .cells #[] 0 else o }
theorem blanks_size (S:List Nat) (w:World):(blanks S w).heap.size=w.heap.size:=by simp [blanks]
theorem blanks_get (S:List Nat) (w:World) (k:Nat):(blanks S w).heap[k]? = (w.heap[k]?).map fun o=>if k∈S then .cells #[] 0 else o:=by
 simp [blanks,Array.getElem?_mapIdx]
theorem blanks_ne {S:List Nat} {g:Nat} (w:World) (h:g ∉ S):(blanks S w).heap[g]? = w.heap[g]? := by
 rw [blanks_get];simp [h]
theorem blanks_cell_ne {S:List Nat} (w:World) {p:Addr} (h:p.block ∉ S):(blanks S w).cell? p=w.cell? p:=by
 unfold World.cell?;rw [blanks_ne w h]
theorem blanks_cell {S:List Nat} {w:World} {p:Addr} {u:Value} (h:(blanks S w).cell? p=some u):w.cell? p=some u∧p.block ∉ S:=by
 by_cases hp:p.block∈S
 ·exfalso;unfold World.cell? at h;rw [blanks_get] at h;cases hk:w.heap[p.block]? with
  | none=>rw [hk] at h;cases h
  | some o =>
   rw [hk] at h;simp only [Option.map_some,hp,if_true] at h;split at h <;> simp at h
 ·rw [blanks_cell_ne w hp] at h;exact ⟨h,hp⟩
theorem blanks_setCell {S:List Nat} {b:Nat} (hb:b∈S) (w:World) (i:Nat) (u:Value):blanks S (w.setCell ⟨b,i,none⟩ u)=blanks S w:=by
 have e:(blanks S (w.setCell ⟨b,i,none⟩ u)).heap=(blanks S w).heap:=by
  apply Array.ext_getElem?;intro k;rw [blanks_get,blanks_get];by_cases hk:b=k
  ·subst hk;unfold World.setCell;simp only [hb,if_true,Array.getElem?_modify];cases w.heap[b]? <;> simp
  ·have:=Below.heap_setCell w ⟨b,i,none⟩ u k (fun e=>hk e.symm);rw [this]
 show ({ (w.setCell ⟨b,i,none⟩ u) with heap:=(blanks S (w.setCell ⟨b,i,none⟩ u)).heap }:World) = { w with heap:=(blanks S w).heap }
 rw [e];rfl
theorem below_blanks {S:List Nat} {B:Nat} {w w':World} (h:Below B w w'):Below B (blanks S w) (blanks S w') :=
 ⟨h.os,h.tape,h.output,by rw [blanks_size,blanks_size];exact h.size,fun k hk=>by rw [blanks_get,blanks_get,h.block k hk]⟩
def Off (S:List Nat) (w w':World):Prop:=Below w.heap.size (blanks S w) (blanks S w')
theorem Off.of {S:List Nat} {w w':World} (h:Below w.heap.size w w'):Off S w w':=below_blanks h
theorem Off.refl (S:List Nat) (w:World):Off S w w:=Below.refl _ _
theorem Off.below0 {S:List Nat} {w w':World} (h:Off S w w'):Below w.heap.size (blanks S w) (blanks S w'):=h
theorem Off.size {S:List Nat} {w w':World} (h:Off S w w'):w.heap.size≤w'.heap.size:=by
 have:=Below.size h;rwa [blanks_size,blanks_size] at this
theorem Off.trans {S:List Nat} {a b c:World} (h:Off S a b) (k:Off S b c):Off S a c :=
 h.below0.trans (k.below0.mono h.size)
theorem Off.put {S:List Nat} {b:Nat} {w w':World} (h:Off S w w') (hb:b∈S) (i:Nat) (u:Value):Off S w (w'.setCell ⟨b,i,none⟩ u):=by
 unfold Off;rw [blanks_setCell hb];exact h
theorem Off.block {S:List Nat} {w w':World} (h:Off S w w') {k:Nat} (hk:k < w.heap.size) (hs:k ∉ S):w'.heap[k]? = w.heap[k]? := by
 have:=Below.block h k hk
 rwa [blanks_ne _ hs,blanks_ne _ hs] at this
theorem Off.more {S S':List Nat} {w w':World} (h:Off S w w') (hS : ∀ b,b∈S→b∈S'):Off S' w w' :=
 ⟨h.below0.os,h.below0.tape,h.below0.output,by rw [blanks_size,blanks_size];exact h.size,fun k hk=>by
  rw [blanks_get,blanks_get];have hk':k < w'.heap.size:=Nat.lt_of_lt_of_le hk h.size;by_cases hs:k∈S'
  ·rw [Array.getElem?_eq_getElem hk,Array.getElem?_eq_getElem hk'];simp [hs]
  ·rw [h.block hk (fun e=>hs (hS k e))]⟩
theorem Off.below {S:List Nat} {B:Nat} {w w':World} (h:Off S w w') (hB:B≤w.heap.size) (hS : ∀ b∈S,B≤b):Below B w w' :=
 ⟨h.below0.os,h.below0.tape,h.below0.output,h.size,fun k hk=>h.block (by omega) (fun e=>by have:=hS k e;omega)⟩
theorem Row.unblanks {S:List Nat} {w:World} {B n sz:Nat} {A:Option Addr} {xs:List Value} (h:Row (blanks S w) B A n sz xs):Row w B A n sz xs :=
 ⟨h.1,fun hn=>by
  obtain ⟨g,off,e,hb,hc⟩:=h.2 hn;exact ⟨g,off,e,hb,fun j u hu=>(blanks_cell (hc j u hu)).1⟩⟩
theorem WdsIn.unblanks {S:List Nat} {w:World} {B n c:Nat} {A:Option Addr} {ws:List Wd} (h:WdsIn (blanks S w) B A n c ws):WdsIn w B A n c ws:=⟨h.1,h.2.1,h.2.2.1,h.2.2.2.unblanks⟩
theorem SgsIn.unblanks {S:List Nat} {w:World} {B n c:Nat} {A:Option Addr} {xs:List Sg} (h:SgsIn (blanks S w) B A n c xs):SgsIn w B A n c xs:=⟨h.1,h.2.1,h.2.2.1,h.2.2.2.1.unblanks,h.2.2.2.2⟩
theorem BrsIn.unblanks {S:List Nat} {w:World} {B n c:Nat} {A:Option Addr} {xs:List Br} (h:BrsIn (blanks S w) B A n c xs):BrsIn w B A n c xs:=⟨h.1,h.2.1,h.2.2.1,h.2.2.2.1.unblanks,fun x hx=>WdsIn.unblanks (h.2.2.2.2 x hx)⟩
theorem PadsIn.unblanks {S:List Nat} {w:World} {B n c:Nat} {A:Option Addr} {ps:List Pad} (h:PadsIn (blanks S w) B A n c ps):PadsIn w B A n c ps:=⟨h.1,h.2.1,h.2.2.1,h.2.2.2.1.unblanks,h.2.2.2.2⟩
theorem DrawersIn.unblanks {S:List Nat} {w:World} {B n c:Nat} {A:Option Addr} {ds:List Drawer} (h:DrawersIn (blanks S w) B A n c ds):DrawersIn w B A n c ds:=⟨h.1,h.2.1,h.2.2.1,h.2.2.2.1.unblanks,fun d hd=>(h.2.2.2.2 d hd).unblanks⟩
theorem StIn.unblanks {S:List Nat} {w:World} {h:Hd} (H:StIn (blanks S w) h):StIn w h:=by
 obtain ⟨h1,h2,h3,h4⟩:=H;rw [blanks_size] at h1 h2 h3 h4;exact ⟨h1.unblanks,h2.unblanks,h3.unblanks,h4.unblanks⟩
theorem StIn.off {S:List Nat} {w w':World} {h:Hd} (H:StIn (blanks S w) h) (ho:Off S w w'):StIn (blanks S w') h :=
 H.keep (by rw [blanks_size];exact ho)
theorem WdsIn.off {S:List Nat} {w w':World} {n c:Nat} {A:Option Addr} {ws:List Wd} (H:WdsIn (blanks S w) (blanks S w).heap.size A n c ws) (ho:Off S w w'):WdsIn (blanks S w') (blanks S w').heap.size A n c ws :=
 H.keep (by rw [blanks_size];exact ho)
section
variable {S:List Nat} {w:World} {B:Nat}
theorem ownG_blanks {e:TypeId} {sz n:Nat} {v:Value} {xs:List Value} (h:w.ownsRow B e sz v n xs) (hb : ∀ b∈S,b < B):(blanks S w).ownsRow B e sz v n xs :=
 ownG_congr h fun g hg=>blanks_ne w (fun e=>by have:=ownG_base h hg;have:=hb g e;omega)
theorem SgOwn.readsS {n c:Nat} {A:Option Addr} {xs:List Sg} (h:SgOwn w B (.slice A n c) xs) (hb : ∀ b∈S,b < B) (hn:xs.length=n) (hg : ∀ x∈xs,x.st.good):SgsIn (blanks S w) (blanks S w).heap.size A n c xs :=
 SgOwn.reads (ownG_blanks h hb) hn hg
theorem CabOwn.readsS {n c:Nat} {A:Option Addr} {ds:List Drawer} (h:CabOwn w B (.slice A n c) ds) (hb : ∀ b∈S,b < B) (hn:ds.length=n):DrawersIn (blanks S w) (blanks S w).heap.size A n c ds :=
 CabOwn.reads (h.congr (fun g hg=>blanks_ne w (fun e=>by have:=ownG_base h.1 hg;have:=hb g e;omega)) fun d hd g hg=>blanks_ne w (fun e=>by have:=ownG_base (h.2.1 d hd).2.1 hg;have:=hb g e;omega)) hn
theorem WdsIn.reblanks {n c:Nat} {A:Option Addr} {ws:List Wd} (h:WdsIn w w.heap.size A n c ws) (ha : ∀ a,A=some a→a.block ∉ S):WdsIn (blanks S w) (blanks S w).heap.size A n c ws :=
 ⟨h.1,h.2.1,h.2.2.1,h.2.2.2.1,fun hn=>by
  obtain ⟨g,off,e,hg,hc⟩:=h.2.2.2.2 hn;refine ⟨g,off,e,by rw [blanks_size];exact hg,fun j u hu=>?_⟩;rw [blanks_cell_ne w (p:=⟨g,off+j,none⟩) (show g ∉ S from ha ⟨g,off,none⟩ e)];exact hc j u hu⟩
theorem BrOwn.readsS {n c:Nat} {A:Option Addr} {xs:List Br} (h:BrOwn w B (.slice A n c) xs) (hN:BrNew B xs) (hb : ∀ b∈S,b < B) (hn:xs.length=n):BrsIn (blanks S w) (blanks S w).heap.size A n c xs:=by
 have h1:=BrOwn.reads h hn;have h2:=ownG_blanks h.1 hb;rw [hn] at h2;exact ⟨h1.1,h1.2.1,h1.2.2.1,Row.of_own h2,fun x hx=>WdsIn.reblanks (h1.2.2.2.2 x hx) (fun a ha e=>by have:=hN x hx a ha;have:=hb _ e;omega)⟩
end
theorem StIn.more {S S':List Nat} {w w':World} {h:Hd} (H:StIn (blanks S w) h) (ho:Off S' w w') (hS : ∀ b∈S',b < w.heap.size→b∈S) (hS2 : ∀ b∈S,b∈S'):StIn (blanks S' w') h:=by
 refine StIn.off (w:=w) ?_ ho;have hb:Below (blanks S w).heap.size (blanks S w) (blanks S' w):=⟨rfl,rfl,rfl,by rw [blanks_size,blanks_size];exact Nat.le_refl _,fun k hk=>by
  rw [blanks_size] at hk;rw [blanks_get,blanks_get];by_cases hs:k∈S
  ·simp [hs,hS2 k hs]
  ·have:k ∉ S':=fun e=>hs (hS k e hk);simp [hs,this]⟩
 exact H.keep hb
theorem MapHas.off {S:List Nat} {w w':World} {b:Nat} {l:List (Value × Value)} (h:MapHas w b l) (ho:Off S w w') (hs:b ∉ S):MapHas w' b l:=h.same (ho.block h.lt hs)
theorem Blk.off {S:List Nat} {w w':World} {b:Nat} {t:TypeId} {cs:Array Value} (h:Blk w b t cs) (ho:Off S w w') (hs:b ∉ S):Blk w' b t cs:=(ho.block h.lt hs).trans h
theorem Row.blanksOf {S:List Nat} {w:World} {B n sz:Nat} {A:Option Addr} {xs:List Value} (h0:Row w B A n sz xs) (h : ∀ b∈S,Row (blank b w) B A n sz xs):Row (blanks S w) B A n sz xs :=
 ⟨h0.1,fun hn=>by
  obtain ⟨g,off,e,hb,hc⟩:=h0.2 hn;refine ⟨g,off,e,hb,fun j u hu=>?_⟩;by_cases hg:g∈S
  ·obtain ⟨g',off',e',_,hc'⟩:=(h g hg).2 hn;rw [e] at e';injection e' with e';injection e' with e1 e2;subst e1 e2;exact absurd rfl (blank_cell (hc' j u hu)).2
  ·rw [blanks_cell_ne w hg];exact hc j u hu⟩
theorem Row.less {S:List Nat} {b:Nat} (hb:b∈S) {w:World} {B n sz:Nat} {A:Option Addr} {xs:List Value} (h:Row (blanks S w) B A n sz xs):Row (blank b w) B A n sz xs :=
 ⟨h.1,fun hn=>by
  obtain ⟨g,off,e,hg,hc⟩:=h.2 hn;refine ⟨g,off,e,hg,fun j u hu=>?_⟩;obtain ⟨h1,h2⟩:=blanks_cell (hc j u hu);rw [blank_cell_ne w (fun e'=>h2 (by rw [e'];exact hb))];exact h1⟩
section
variable {S:List Nat} {w w':World} {b:Nat}
theorem WdsIn.less (hb:b∈S) {B n c:Nat} {A:Option Addr} {ws:List Wd} (h:WdsIn (blanks S w) B A n c ws):WdsIn (blank b w) B A n c ws:=⟨h.1,h.2.1,h.2.2.1,h.2.2.2.less hb⟩
theorem SgsIn.less (hb:b∈S) {B n c:Nat} {A:Option Addr} {xs:List Sg} (h:SgsIn (blanks S w) B A n c xs):SgsIn (blank b w) B A n c xs:=⟨h.1,h.2.1,h.2.2.1,h.2.2.2.1.less hb,h.2.2.2.2⟩
theorem BrsIn.less (hb:b∈S) {B n c:Nat} {A:Option Addr} {xs:List Br} (h:BrsIn (blanks S w) B A n c xs):BrsIn (blank b w) B A n c xs:=⟨h.1,h.2.1,h.2.2.1,h.2.2.2.1.less hb,fun x hx=>WdsIn.less hb (h.2.2.2.2 x hx)⟩
theorem PadsIn.less (hb:b∈S) {B n c:Nat} {A:Option Addr} {ps:List Pad} (h:PadsIn (blanks S w) B A n c ps):PadsIn (blank b w) B A n c ps:=⟨h.1,h.2.1,h.2.2.1,h.2.2.2.1.less hb,h.2.2.2.2⟩
theorem DrawersIn.less (hb:b∈S) {B n c:Nat} {A:Option Addr} {ds:List Drawer} (h:DrawersIn (blanks S w) B A n c ds):DrawersIn (blank b w) B A n c ds:=⟨h.1,h.2.1,h.2.2.1,h.2.2.2.1.less hb,fun d hd=>(h.2.2.2.2 d hd).less hb⟩
theorem StIn.less (hb:b∈S) {h:Hd} (H:StIn (blanks S w) h):StIn (blank b w) h:=by
 obtain ⟨h1,h2,h3,h4⟩:=H;rw [blanks_size] at h1 h2 h3 h4;refine ⟨?_,?_,?_,?_⟩ <;> rw [blank_size]
 ·exact h1.less hb
 ·exact h2.less hb
 ·exact h3.less hb
 ·exact h4.less hb
theorem WdsIn.blanksOf {B n c:Nat} {A:Option Addr} {ws:List Wd} (h:WdsIn w B A n c ws) (hS : ∀ b∈S,WdsIn (blank b w) B A n c ws):WdsIn (blanks S w) B A n c ws:=⟨h.1,h.2.1,h.2.2.1,h.2.2.2.blanksOf fun b hb=>(hS b hb).2.2.2⟩
theorem SgsIn.blanksOf {B n c:Nat} {A:Option Addr} {xs:List Sg} (h:SgsIn w B A n c xs) (hS : ∀ b∈S,SgsIn (blank b w) B A n c xs):SgsIn (blanks S w) B A n c xs:=⟨h.1,h.2.1,h.2.2.1,h.2.2.2.1.blanksOf fun b hb=>(hS b hb).2.2.2.1,h.2.2.2.2⟩
theorem BrsIn.blanksOf {B n c:Nat} {A:Option Addr} {xs:List Br} (h:BrsIn w B A n c xs) (hS : ∀ b∈S,BrsIn (blank b w) B A n c xs):BrsIn (blanks S w) B A n c xs:=⟨h.1,h.2.1,h.2.2.1,h.2.2.2.1.blanksOf fun b hb=>(hS b hb).2.2.2.1,fun x hx=>WdsIn.blanksOf (h.2.2.2.2 x hx) fun b hb=>(hS b hb).2.2.2.2 x hx⟩
theorem PadsIn.blanksOf {B n c:Nat} {A:Option Addr} {ps:List Pad} (h:PadsIn w B A n c ps) (hS : ∀ b∈S,PadsIn (blank b w) B A n c ps):PadsIn (blanks S w) B A n c ps:=⟨h.1,h.2.1,h.2.2.1,h.2.2.2.1.blanksOf fun b hb=>(hS b hb).2.2.2.1,h.2.2.2.2⟩
theorem DrawersIn.blanksOf {B n c:Nat} {A:Option Addr} {ds:List Drawer} (h:DrawersIn w B A n c ds) (hS : ∀ b∈S,DrawersIn (blank b w) B A n c ds):DrawersIn (blanks S w) B A n c ds:=⟨h.1,h.2.1,h.2.2.1,h.2.2.2.1.blanksOf fun b hb=>(hS b hb).2.2.2.1,fun d hd=>(h.2.2.2.2 d hd).blanksOf fun b hb=>(hS b hb).2.2.2.2 d hd⟩
theorem StIn.blanksOf {h:Hd} (H:StIn w h) (hS : ∀ b∈S,StIn (blank b w) h):StIn (blanks S w) h:=by
 have k : ∀ b∈S,SgsIn (blank b w) w.heap.size h.A1 h.n1 h.c1 h.sys∧BrsIn (blank b w) w.heap.size h.A2 h.n2 h.c2 h.xs∧WdsIn (blank b w) w.heap.size h.A3 h.n3 h.c3 h.sp∧DrawersIn (blank b w) w.heap.size h.A4 h.n4 h.c4 h.ds:=fun b hb=>by
  obtain ⟨h1,h2,h3,h4⟩:=hS b hb;rw [blank_size] at h1 h2 h3 h4;exact ⟨h1,h2,h3,h4⟩
 refine ⟨?_,?_,?_,?_⟩ <;> rw [blanks_size]
 ·exact H.sg.blanksOf fun b hb=>(k b hb).1
 ·exact H.br.blanksOf fun b hb=>(k b hb).2.1
 ·exact H.wd.blanksOf fun b hb=>(k b hb).2.2.1
 ·exact H.dr.blanksOf fun b hb=>(k b hb).2.2.2
end
theorem StIn.fewer {S S':List Nat} {w:World} {h:Hd} (H:StIn (blanks S' w) h) (hS : ∀ b∈S,b∈S'):StIn (blanks S w) h:=StIn.blanksOf H.unblanks (fun b hb=>H.less (hS b hb))
theorem Off.setNew {S:List Nat} {w w':World} {p:Addr} (h:Off S w w') (hp:w.heap.size≤p.block) (u:Value):Off S w (w'.setCell p u) :=
 ⟨h.below0.os,h.below0.tape,h.below0.output,by rw [blanks_size,blanks_size];simpa [World.setCell] using h.size,fun k hk=>by
  rw [← h.below0.block k hk,blanks_get,blanks_get,Below.heap_setCell w' p u k (by omega)]⟩
theorem Off.allocNew {S:List Nat} {w w':World} (h:Off S w w') (o:Obj):Off S w (w'.alloc o):=h.trans (Off.of ((Below.refl _ _).alloc (Nat.le_refl _) _))
theorem Row.nil_ (w:World) (B:Nat) (A:Option Addr) (sz:Nat):Row w B A 0 sz []:=⟨by simp,fun h=>absurd h (by omega)⟩
theorem StIn.none_ (w:World) (A1 A2 A3 A4:Option Addr):StIn w ⟨A1,0,0,A2,0,0,A3,0,0,A4,0,0,[],[],[],[]⟩:=by
 have h0:(0:Nat)≤maxLen:=Nat.zero_le _;have h1:(0:Nat)≤0:=Nat.le_refl _;exact ⟨⟨rfl,h1,h0,Row.nil_ _ _ _ _,nofun⟩,⟨rfl,h1,h0,Row.nil_ _ _ _ _,nofun⟩,⟨rfl,h1,h0,Row.nil_ _ _ _ _⟩,⟨rfl,h1,h0,Row.nil_ _ _ _ _,nofun⟩⟩
theorem WdsIn.moreS {S S':List Nat} {w w':World} {A:Option Addr} {n c:Nat} {ws:List Wd} (H:WdsIn (blanks S w) (blanks S w).heap.size A n c ws) (ho:Off S' w w') (hS : ∀ b∈S',b < w.heap.size→b∈S) (hS2 : ∀ b∈S,b∈S'):WdsIn (blanks S' w') (blanks S' w').heap.size A n c ws:=by
 refine WdsIn.off (w:=w) ?_ ho;have hb:Below (blanks S w).heap.size (blanks S w) (blanks S' w):=⟨rfl,rfl,rfl,by rw [blanks_size,blanks_size];exact Nat.le_refl _,fun k hk=>by
  rw [blanks_size] at hk;rw [blanks_get,blanks_get];by_cases hs:k∈S
  ·simp [hs,hS2 k hs]
  ·have:k ∉ S':=fun e=>hs (hS k e hk);simp [hs,this]⟩
 exact H.keep hb
theorem demandYes (w:World):Calls Tryz.prog 111 #[.bool true] w fun e w'=>e = .returned (.tuple #[])∧w=w':=by
 go_enter Tryz.func111,Tryz.ntmps111
 go_wp2
 go_end0
 exact ⟨rfl,rfl⟩
abbrev malV:Value:=.iface 155 (.agg #[])
abbrev malformed:Ending:=.panicked [{ v:=malV,recovered:=false }]
theorem demandNo (w:World):Calls Tryz.prog 111 #[.bool false] w fun e w'=>e=malformed∧w=w':=by
 go_enter Tryz.func111,Tryz.ntmps111
 go_wp2;exact ⟨rfl,rfl,rfl⟩
def offV (h:Hd):Array Value:=#[.slice h.A1 h.n1 h.c1,.slice h.A2 h.n2 h.c2,.slice h.A3 h.n3 h.c3,.slice h.A4 h.n4 h.c4]
def StepS (w w':World) (o:Nat) (h h':Hd) (A:Option Addr) (n c:Nat) (ws:List Wd):Prop :=
 ∀ S:List Nat,o∈S→(∀ b∈S,b < w.heap.size)→StIn (blanks S w) h→WdsIn (blanks S w) (blanks S w).heap.size A n c ws→StIn (blanks S w') h'
def RunAns (w w':World) (o:Nat) (h:Hd) (A:Option Addr) (n c:Nat) (ws full:List Wd) (e:Ending):Prop :=
 ∃ h':Hd,Blk w' o 76 (offV h')∧Off [o] w w'∧StepS w w' o h h' A n c ws ∧
  ((∃ s,e = .returned (.string (mkStr s))∧lineS h.st full=(h'.st,s))∨(e=malformed∧lineS h.st full=(h'.st,sayWhat)))
section
variable {w w1 w':World} {o:Nat} {h:Hd} {A:Option Addr} {n c:Nat} {ws full:List Wd} {s:Wd}
theorem RunAns.same {e:Ending} (K:Blk w o 76 (offV h)) (hb:Below w.heap.size w w') (he:(∃ s,e = .returned (.string (mkStr s))∧lineS h.st full=(h.st,s))∨(e=malformed∧lineS h.st full=(h.st,sayWhat))):RunAns w w' o h A n c ws full e :=
 ⟨h,K.below hb,Off.of hb,fun _ _ _ H _=>H.off (Off.of hb),he⟩
theorem RunAns.said (K:Blk w o 76 (offV h)) (hb:Below w.heap.size w w') (hl:lineS h.st full=(h.st,s)):RunAns w w' o h A n c ws full (.returned (.string (mkStr s))):=RunAns.same K hb (.inl ⟨s,rfl,hl⟩)
theorem RunAns.bad (K:Blk w o 76 (offV h)) (hl:lineS h.st full=(h.st,sayWhat)):RunAns w w o h A n c ws full malformed:=RunAns.same K (Below.refl _ _) (.inr ⟨rfl,hl⟩)
theorem RunAns.sys {A':Option Addr} {n' c':Nat} {xs:List Sg} (K:Blk w o 76 (offV h)) (hb:Below w.heap.size w w1) (ho:SgOwn w1 w.heap.size (.slice A' n' c') xs) (hn:xs.length=n') (hg : ∀ x∈xs,x.st.good) (hl:lineS h.st full=({ h.st with sys:=xs },sayOk)) :
  RunAns w (w1.setCell ⟨o,0,none⟩ (.slice A' n' c')) o h A n c ws full (.returned (.string (mkStr sayOk))) :=
 ⟨{ h with A1:=A',n1:=n',c1:=c',sys:=xs },by simpa [offV] using (K.below hb).set 0 (.slice A' n' c'),(Off.of hb).put (by simp) 0 _,fun S hS hlt H _=>by
  rw [blanks_setCell hS];have Q:=H.off (Off.of hb);exact ⟨ho.readsS hlt hn hg,Q.br,Q.wd,Q.dr⟩,.inl ⟨sayOk,rfl,hl⟩⟩
theorem RunAns.brs {A':Option Addr} {n' c':Nat} {xs:List Br} (K:Blk w o 76 (offV h)) (hb:Below w.heap.size w w1) (ho:BrOwn w1 w.heap.size (.slice A' n' c') xs) (hN:BrNew w.heap.size xs) (hn:xs.length=n') (hl:lineS h.st full=({ h.st with brs:=xs.map Br.dat },sayOk)) :
  RunAns w (w1.setCell ⟨o,1,none⟩ (.slice A' n' c')) o h A n c ws full (.returned (.string (mkStr sayOk))) :=
 ⟨{ h with A2:=A',n2:=n',c2:=c',xs:=xs },by simpa [offV] using (K.below hb).set 1 (.slice A' n' c'),(Off.of hb).put (by simp) 1 _,fun S hS hlt H _=>by
  rw [blanks_setCell hS];have Q:=H.off (Off.of hb);exact ⟨Q.sg,ho.readsS hN hlt hn,Q.wd,Q.dr⟩,.inl ⟨sayOk,rfl,hl⟩⟩
theorem RunAns.cab {A':Option Addr} {n' c':Nat} {ds:List Drawer} (K:Blk w o 76 (offV h)) (hb:Below w.heap.size w w1) (ho:CabOwn w1 w.heap.size (.slice A' n' c') ds) (hn:ds.length=n') (hl:lineS h.st full=({ h.st with cab:=ds.map (·.ps) },sayOk)) :
  RunAns w (w1.setCell ⟨o,3,none⟩ (.slice A' n' c')) o h A n c ws full (.returned (.string (mkStr sayOk))) :=
 ⟨{ h with A4:=A',n4:=n',c4:=c',ds:=ds },by simpa [offV] using (K.below hb).set 3 (.slice A' n' c'),(Off.of hb).put (by simp) 3 _,fun S hS hlt H _=>by
  rw [blanks_setCell hS];have Q:=H.off (Off.of hb);exact ⟨Q.sg,Q.br,Q.wd,ho.readsS hlt hn⟩,.inl ⟨sayOk,rfl,hl⟩⟩
theorem RunAns.sp (K:Blk w o 76 (offV h)) (hb:Below w.heap.size w w1) (hl:lineS h.st full=({ h.st with sp:=ws },sayOk)) :
  RunAns w (w1.setCell ⟨o,2,none⟩ (.slice A n c)) o h A n c ws full (.returned (.string (mkStr sayOk))) :=
 ⟨{ h with A3:=A,n3:=n,c3:=c,sp:=ws },by simpa [offV] using (K.below hb).set 2 (.slice A n c),(Off.of hb).put (by simp) 2 _,fun S hS hlt H hW=>by
  rw [blanks_setCell hS];have Q:=H.off (Off.of hb);exact ⟨Q.sg,Q.br,hW.off (Off.of hb),Q.dr⟩,.inl ⟨sayOk,rfl,hl⟩⟩
end
section
variable {s:St} {ws:List Wd}
theorem wdAt_head (x:Wd) (ws:List Wd):wdAt (x::ws) 0=x:=rfl
theorem line_sign (h:ws.length=2):lineS s (cSign::ws)=up s (signO s.sys (wdAt ws 0) (wdAt ws 1)) fun x=>{ s with sys:=x }:=by
 unfold lineS;rw [if_pos ⟨rfl,by rw [List.length_cons,h]⟩];rfl
theorem line_brief (h:2≤ws.length):lineS s (cBrief::ws)=up s (addO s.brs ⟨wdAt ws 0,ws.drop 1⟩) fun x=>{ s with brs:=x }:=by
 unfold lineS;rw [if_neg (by rintro ⟨h,_⟩;revert h;rw [wdAt_head];decide),if_pos ⟨rfl,by rw [List.length_cons];omega⟩];rfl
theorem line_speech:lineS s (cSpeech::ws)=up s (if spB ws=true then some ws else none) fun x=>{ s with sp:=x }:=by
 unfold lineS;rw [if_neg (by rintro ⟨h,_⟩;revert h;rw [wdAt_head];decide),if_neg (by rintro ⟨h,_⟩;revert h;rw [wdAt_head];decide),if_pos (show wdAt (cSpeech::ws) 0=cSpeech from rfl)];rfl
theorem line_file (h:ws.length=2):lineS s (cFile::ws)=up s (fileO s.cab ⟨numOf (wdAt ws 0),mkStr (wdAt ws 1)⟩) fun x=>{ s with cab:=x }:=by
 unfold lineS;rw [if_neg (by rintro ⟨h,_⟩;revert h;rw [wdAt_head];decide),if_neg (by rintro ⟨h,_⟩;revert h;rw [wdAt_head];decide),if_neg (by rw [wdAt_head];decide),if_pos ⟨rfl,by rw [List.length_cons,h]⟩];rfl
theorem line_clear (h:ws.length=1):lineS s (cClear::ws)=up s (clearO s.cab (numOf (wdAt ws 0))) fun x=>{ s with cab:=x }:=by
 unfold lineS;rw [if_neg (by rintro ⟨h,_⟩;revert h;rw [wdAt_head];decide),if_neg (by rintro ⟨h,_⟩;revert h;rw [wdAt_head];decide),if_neg (by rw [wdAt_head];decide),if_neg (by rintro ⟨h,_⟩;revert h;rw [wdAt_head];decide),if_pos ⟨rfl,by rw [List.length_cons,h]⟩];rfl
theorem line_ask {x:Wd} (h1 : ¬ (x=cSign∧ws.length=2)) (h2 : ¬ (x=cBrief∧2≤ws.length)) (h3:x≠cSpeech) (h4 : ¬ (x=cFile∧ws.length=2)) (h5 : ¬ (x=cClear∧ws.length=1)):lineS s (x::ws)=(s,ask s (x::ws)):=by
 unfold lineS;rw [wdAt_head,List.length_cons];rw [if_neg (by rintro ⟨h,e⟩;exact h1 ⟨h,by omega⟩),if_neg (by rintro ⟨h,e⟩;exact h2 ⟨h,by omega⟩),if_neg h3,if_neg (by rintro ⟨h,e⟩;exact h4 ⟨h,by omega⟩),if_neg (by rintro ⟨h,e⟩;exact h5 ⟨h,by omega⟩)]
theorem ask_what {x:Wd} (h1 : ¬ (x=cWrite∧ws.length=0)) (h2 : ¬ (x=cCopy∧ws.length=0)) (h3 : ¬ (x=cLetters∧ws.length=0)) (h4:x≠cProof) (h5 : ¬ (x=cCabinet∧ws.length=0)):ask s (x::ws)=sayWhat:=by
 unfold ask;rw [wdAt_head,List.length_cons];rw [if_neg (by rintro ⟨h,e⟩;exact h1 ⟨h,by omega⟩),if_neg (by rintro ⟨h,e⟩;exact h2 ⟨h,by omega⟩),if_neg (by rintro ⟨h,e⟩;exact h3 ⟨h,by omega⟩),if_neg h4,if_neg (by rintro ⟨h,e⟩;exact h5 ⟨h,by omega⟩)]
theorem line_bad {x:Wd} (h1 : ¬ (x=cSign∧ws.length=2)) (h2 : ¬ (x=cBrief∧2≤ws.length)) (h3:x≠cSpeech) (h4 : ¬ (x=cFile∧ws.length=2)) (h5 : ¬ (x=cClear∧ws.length=1))
  (g1 : ¬ (x=cWrite∧ws.length=0)) (g2 : ¬ (x=cCopy∧ws.length=0)) (g3 : ¬ (x=cLetters∧ws.length=0)) (g4:x≠cProof) (g5 : ¬ (x=cCabinet∧ws.length=0)):lineS s (x::ws)=(s,sayWhat):=by
 rw [line_ask h1 h2 h3 h4 h5,ask_what g1 g2 g3 g4 g5]
theorem ne_cmd {x y:Wd} {p:Prop} (h:x≠y) : ¬ (x=y∧p):=fun e=>h e.1
theorem bad_sign (h:ws.length≠2):lineS s (cSign::ws)=(s,sayWhat):=line_bad (fun e=>h e.2) (ne_cmd (by decide)) (by decide) (ne_cmd (by decide)) (ne_cmd (by decide)) (ne_cmd (by decide)) (ne_cmd (by decide)) (ne_cmd (by decide)) (by decide) (ne_cmd (by decide))
theorem bad_brief (h : ¬ 2≤ws.length):lineS s (cBrief::ws)=(s,sayWhat):=line_bad (ne_cmd (by decide)) (fun e=>h e.2) (by decide) (ne_cmd (by decide)) (ne_cmd (by decide)) (ne_cmd (by decide)) (ne_cmd (by decide)) (ne_cmd (by decide)) (by decide) (ne_cmd (by decide))
theorem bad_file (h:ws.length≠2):lineS s (cFile::ws)=(s,sayWhat):=line_bad (ne_cmd (by decide)) (ne_cmd (by decide)) (by decide) (fun e=>h e.2) (ne_cmd (by decide)) (ne_cmd (by decide)) (ne_cmd (by decide)) (ne_cmd (by decide)) (by decide) (ne_cmd (by decide))
theorem bad_clear (h:ws.length≠1):lineS s (cClear::ws)=(s,sayWhat):=line_bad (ne_cmd (by decide)) (ne_cmd (by decide)) (by decide) (ne_cmd (by decide)) (fun e=>h e.2) (ne_cmd (by decide)) (ne_cmd (by decide)) (ne_cmd (by decide)) (by decide) (ne_cmd (by decide))
theorem bad_write (h:ws.length≠0):lineS s (cWrite::ws)=(s,sayWhat):=line_bad (ne_cmd (by decide)) (ne_cmd (by decide)) (by decide) (ne_cmd (by decide)) (ne_cmd (by decide)) (fun e=>h e.2) (ne_cmd (by decide)) (ne_cmd (by decide)) (by decide) (ne_cmd (by decide))
theorem bad_copy (h:ws.length≠0):lineS s (cCopy::ws)=(s,sayWhat):=line_bad (ne_cmd (by decide)) (ne_cmd (by decide)) (by decide) (ne_cmd (by decide)) (ne_cmd (by decide)) (ne_cmd (by decide)) (fun e=>h e.2) (ne_cmd (by decide)) (by decide) (ne_cmd (by decide))
theorem bad_letters (h:ws.length≠0):lineS s (cLetters::ws)=(s,sayWhat):=line_bad (ne_cmd (by decide)) (ne_cmd (by decide)) (by decide) (ne_cmd (by decide)) (ne_cmd (by decide)) (ne_cmd (by decide)) (ne_cmd (by decide)) (fun e=>h e.2) (by decide) (ne_cmd (by decide))
theorem bad_cabinet (h:ws.length≠0):lineS s (cCabinet::ws)=(s,sayWhat):=line_bad (ne_cmd (by decide)) (ne_cmd (by decide)) (by decide) (ne_cmd (by decide)) (ne_cmd (by decide)) (ne_cmd (by decide)) (ne_cmd (by decide)) (ne_cmd (by decide)) (by decide) (fun e=>h e.2)
theorem line_write (h:ws.length=0):lineS s (cWrite::ws)=(s,saidO ((lineOf s.sys s.sp).map lineText)):=by
 rw [line_ask (ne_cmd (by decide)) (ne_cmd (by decide)) (by decide) (ne_cmd (by decide)) (ne_cmd (by decide))];unfold ask;rw [if_pos ⟨rfl,by rw [List.length_cons,h]⟩]
theorem line_copy (h:ws.length=0):lineS s (cCopy::ws)=(s,saidO ((bestO s.brs s.sp).map fun t=>Lib.join t [32])):=by
 rw [line_ask (ne_cmd (by decide)) (ne_cmd (by decide)) (by decide) (ne_cmd (by decide)) (ne_cmd (by decide))];unfold ask;rw [if_neg (by rintro ⟨h,_⟩;revert h;rw [wdAt_head];decide),if_pos ⟨rfl,by rw [List.length_cons,h]⟩]
theorem line_letters' (h:ws.length=0):lineS s (cLetters::ws)=(s,Lib.decDigits (costOf s.brs s.sp)++[10]):=by
 rw [line_ask (ne_cmd (by decide)) (ne_cmd (by decide)) (by decide) (ne_cmd (by decide)) (ne_cmd (by decide))];unfold ask;rw [if_neg (by rintro ⟨h,_⟩;revert h;rw [wdAt_head];decide),if_neg (by rintro ⟨h,_⟩;revert h;rw [wdAt_head];decide),if_pos ⟨rfl,by rw [List.length_cons,h]⟩]
theorem line_proof:lineS s (cProof::ws)=(s,saidO ((makeO s.sp ws).map (marksText s.sp))):=by
 rw [line_ask (ne_cmd (by decide)) (ne_cmd (by decide)) (by decide) (ne_cmd (by decide)) (ne_cmd (by decide))];unfold ask;rw [if_neg (by rintro ⟨h,_⟩;revert h;rw [wdAt_head];decide),if_neg (by rintro ⟨h,_⟩;revert h;rw [wdAt_head];decide),if_neg (by rintro ⟨h,_⟩;revert h;rw [wdAt_head];decide),if_pos (show wdAt (cProof::ws) 0=cProof from rfl)];rfl
theorem line_cabinet (h:ws.length=0):lineS s (cCabinet::ws)=(s,cabText s.cab):=by
 rw [line_ask (ne_cmd (by decide)) (ne_cmd (by decide)) (by decide) (ne_cmd (by decide)) (ne_cmd (by decide))];unfold ask;rw [if_neg (by rintro ⟨h,_⟩;revert h;rw [wdAt_head];decide),if_neg (by rintro ⟨h,_⟩;revert h;rw [wdAt_head];decide),if_neg (by rintro ⟨h,_⟩;revert h;rw [wdAt_head];decide),if_neg (by rw [wdAt_head];decide),if_pos ⟨rfl,by rw [List.length_cons,h]⟩]
end
end Go.Proofs.YtbkhnljaajajiaaGreatDoor
