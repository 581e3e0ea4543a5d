/-
  Contracts and plain laws that the proofs lean on. Conditions: as each says.
-/
import Derived.Test.YtbkhnljaajajiaaGreatDoorPX02
set_option maxRecDepth 100000
set_option linter.unusedSimpArgs false
set_option linter.unusedVariables false
set_option linter.unnecessarySimpa false
namespace Go.Proofs.YtbkhnljaajajiaaGreatDoor
open Go.ChangeShapes Go.WideShapes Go.ChangeAt Go.RowKit
theorem own_set {w:World} {B sz n gb j:Nat} {e:TypeId} {v u:Value} {xs:List Value} (h:w.ownsRow B e sz v n xs) (hb:v.ownBlock=some gb):(w.setCell ⟨gb,j,none⟩ u).ownsRow B e sz v n (xs.set j u):=by
 obtain ⟨hl,h⟩:=h;refine ⟨by rw [List.length_set];exact hl,?_⟩;rcases h with ⟨rfl,_⟩ | ⟨g,cap,cur,rfl,hB,hh,hn,hc,hs,ht⟩
 ·cases hb
 ·injection hb with hb;subst hb;refine .inr ⟨g,cap,cur.setIfInBounds j u,rfl,hB,by simp [World.setCell,Array.getElem?_modify,hh],hn,hc,by simpa using hs,?_⟩;rw [Array.toList_setIfInBounds,← ht,List.take_set]
theorem own_cell {w:World} {B sz n gb j:Nat} {e:TypeId} {v u:Value} {xs:List Value} (h:w.ownsRow B e sz v n xs) (hb:v.ownBlock=some gb) (hj:xs[j]? = some u):w.cell? ⟨gb,j,none⟩=some u∧w.frozen? ⟨gb,j,none⟩=false:=by
 obtain ⟨hl,h⟩:=h;rcases h with ⟨rfl,_⟩ | ⟨g,cap,cur,rfl,hB,hh,hn,hc,hs,ht⟩
 ·cases hb
 ·injection hb with hb;subst hb;refine ⟨?_,by simp [World.frozen?,hh]⟩;rw [cell_of_row w g j cur e (0,0) hh];rw [← ht,List.getElem?_take] at hj;split at hj
  ·simpa using hj
  ·cases hj
theorem own_some {w:World} {B sz n:Nat} {e:TypeId} {v:Value} {xs:List Value} (h:w.ownsRow B e sz v n xs) (hn:0 < n) : ∃ gb cap,v = .slice (some ⟨gb,0,none⟩) n cap∧B≤gb∧n≤cap∧cap≤maxLen∧v.ownBlock=some gb:=by
 obtain ⟨hl,h⟩:=h;rcases h with ⟨_,rfl⟩ | ⟨g,cap,cur,rfl,hB,hh,hn,hc,hs,ht⟩
 ·omega
 ·exact ⟨g,cap,rfl,hB,hn,hc,rfl⟩
theorem Row.grown {w w':World} {B n sz:Nat} {A:Option Addr} {xs:List Value} {row:Option Nat} (h:Row w B A n sz xs) (hg:w.grownBy w' row) (hne : ∀ a,A=some a→row≠some a.block):Row w' B A n sz xs:=by
 refine ⟨h.1,fun h0=>?_⟩;obtain ⟨b,off,e,hb,hc⟩:=h.2 h0;refine ⟨b,off,e,hb,fun j x hx=>?_⟩;have h1:=hc j x hx;have hlt:=World.block_lt_of_cell? _ _ h1;unfold World.cell? at h1 ⊢;rw [hg.block _ hlt (fun e2=>hne _ e e2.symm)];exact h1
theorem gcell {w w':World} {row:Option Nat} {a:Addr} {v:Value} (h:w.grownBy w' row) (hc:w.cell? a=some v) (hne:row≠some a.block):w'.cell? a=some v:=by
 rw [World.cell?_of_block (h.block a.block (World.block_lt_of_cell? _ _ hc) (fun e=>hne e.symm))];exact hc
def appZ (ats:Array TypeId) (ty:TypeId) (args:Array Value):=Builtin.append_ ats ty args
theorem appZ_eq (ats:Array TypeId) (ty:TypeId) (args:Array Value):Builtin.append_ ats ty args=appZ ats ty args:=rfl
theorem grown_below {a w w':World} {g:Nat} (h:a.grownBy w (some g)) (hb:Below w.heap.size w w'):a.grownBy w' (some g) :=
 ⟨hb.os.trans h.os,hb.tape.trans h.tape,hb.output.trans h.output,Nat.le_trans h.size hb.size,fun i hi hne=>(hb.block i (Nat.lt_of_lt_of_le hi h.size)).trans (h.block i hi hne)⟩
theorem ownG_only {w w':World} {B g sz n:Nat} {t:TypeId} {v:Value} {xs:List Value} (h:w.ownsRow B t sz v n xs) (hg:w.grownBy w' (some g)) (hB:g < B):w'.ownsRow B t sz v n xs :=
 ownG_congr h fun b hb=>hg.block b (ownG_lt h hb) (fun e=>by injection e with e;have:=ownG_base h hb;omega)
theorem own_after' {a w w':World} {g:Nat} {v:Value} (h:a.grownBy w (some g)) (hg:w.grownBy w' v.ownBlock) (hb : ∀ q,v.ownBlock=some q→a.heap.size≤q):a.grownBy w' (some g) :=
 h.andThen hg (fun j hj=>.inl (hb j hj))
structure Mr where
 at_:Nat
 cut:Nat
 A:Option Addr
 n:Nat
 c:Nat
 put:List Wd
def mkC (x:Mr):List Value:=[.int .i64 (x.at_:Int),.int .i64 (x.cut:Int),.slice x.A x.n x.c]
theorem mkC_len (x:Mr):(mkC x).length=3:=rfl
def Mr.dat (x:Mr):Mk:=⟨x.at_,x.cut,x.put⟩
def MrIn (w:World) (B:Nat) (x:Mr):Prop:=WdsIn w B x.A x.n x.c x.put
def MrsIn (w:World) (B:Nat) (A:Option Addr) (n c:Nat) (xs:List Mr):Prop :=
 xs.length=n∧n≤c∧c≤maxLen∧Row w B A n 3 (xs.flatMap mkC)∧∀ x∈xs,MrIn w B x
def mrAt (xs:List Mr) (k:Nat):Mr:=xs.getD k ⟨0,0,none,0,0,[]⟩
theorem mrAt_some {xs:List Mr} {k:Nat} (h:k < xs.length):xs[k]? = some (mrAt xs k):=by simp [mrAt,List.getD_eq_getElem?_getD,h]
theorem mrAt_mem {xs:List Mr} {k:Nat} (h:k < xs.length):mrAt xs k∈xs:=List.mem_of_getElem? (mrAt_some h)
theorem mrAt_dat {xs:List Mr} {k:Nat} (h:k < xs.length):mkAt (xs.map Mr.dat) k=(mrAt xs k).dat:=by
 have h1:=mkAt_some (ms:=xs.map Mr.dat) (i:=k) (by rw [List.length_map];exact h);rw [List.getElem?_map,mrAt_some h] at h1;injection h1 with h1;exact h1.symm
theorem MrIn.keep {w w':World} {x:Mr} (h:MrIn w w.heap.size x) (hb:Below w.heap.size w w'):MrIn w' w'.heap.size x:=WdsIn.keep h hb
theorem MrsIn.keep {w w':World} {n c:Nat} {A:Option Addr} {xs:List Mr} (h:MrsIn w w.heap.size A n c xs) (hb:Below w.heap.size w w'):MrsIn w' w'.heap.size A n c xs :=
 ⟨h.1,h.2.1,h.2.2.1,(h.2.2.2.1.below hb).more hb.size,fun x hx=>(h.2.2.2.2 x hx).keep hb⟩
theorem MrsIn.zero (w:World) (B:Nat) (A:Option Addr):MrsIn w B A 0 0 []:=⟨rfl,Nat.le_refl _,by unfold maxLen;omega,⟨rfl,fun h=>absurd h (by omega)⟩,by simp⟩
theorem MrsIn.at_ {w:World} {B n c k:Nat} {A:Option Addr} {xs:List Mr} (h:MrsIn w B A n c xs) (hk:k < n) :
  ∃ b off,A=some ⟨b,off,none⟩∧b < B∧w.cell? ⟨b,off+k * 3,none⟩=some (.int .i64 ((mrAt xs k).at_:Int))∧w.cell? ⟨b,off+k * 3+1,none⟩=some (.int .i64 ((mrAt xs k).cut:Int))∧w.cell? ⟨b,off+k * 3+2,none⟩=some (.slice (mrAt xs k).A (mrAt xs k).n (mrAt xs k).c)∧MrIn w B (mrAt xs k):=by
 obtain ⟨h1,_,_,h4,h5⟩:=h;obtain ⟨b,off,eA,hbB,hc⟩:=h4.2 (by omega);have hs:=mrAt_some (xs:=xs) (k:=k) (by omega);refine ⟨b,off,eA,hbB,?_,?_,?_,h5 _ (mrAt_mem (by omega))⟩
 ·have:=hc (k * 3+0) _ (flat_at mkC_len xs k _ 0 (.int .i64 ((mrAt xs k).at_:Int)) hs rfl);simpa using this
 ·have:=hc (k * 3+1) _ (flat_at mkC_len xs k _ 1 (.int .i64 ((mrAt xs k).cut:Int)) hs rfl)
  rwa [← Nat.add_assoc] at this
 ·have:=hc (k * 3+2) _ (flat_at mkC_len xs k _ 2 (.slice (mrAt xs k).A (mrAt xs k).n (mrAt xs k).c) hs rfl)
  rwa [← Nat.add_assoc] at this
theorem infoMk:(Tryz.prog.info? 116).map (fun i=>(i.zero,i.size,i.bytes))=some (some (.agg #[.int .i64 0,.int .i64 0,.slice none 0 0]),3,40):=by kernel_rfl
theorem rowNewMk (w:World) (u1 u2 u3:Value) (t:TypeId):Row (w.alloc (.cells #[u1,u2,u3] t)) (w.heap.size+1) (some ⟨w.heap.size,0,none⟩) 1 3 [u1,u2,u3]:=by
 refine ⟨rfl,fun _=>⟨w.heap.size,0,rfl,by omega,fun j x hj=>?_⟩⟩;rw [World.cell?_alloc_at _ t w.heap.size (0+j) rfl];simpa using hj
theorem WdsIn.grown {w w':World} {n c:Nat} {A:Option Addr} {ws:List Wd} {row:Option Nat} (h:WdsIn w w.heap.size A n c ws) (hg:w.grownBy w' row) (hne:0 < n→∀ a,A=some a→row≠some a.block):WdsIn w' w'.heap.size A n c ws :=
 WdsIn.more ⟨h.1,h.2.1,h.2.2.1,by
  by_cases hp:0 < n
  ·exact h.2.2.2.grown hg (hne hp)
  ·exact ⟨h.2.2.2.1,fun h2=>absurd h2 hp⟩⟩ hg.size
def MrOwn (w:World) (B:Nat) (v:Value) (xs:List Mr):Prop :=
 w.ownsRow B 116 3 v xs.length (xs.flatMap mkC)∧∀ x∈xs,MrIn w w.heap.size x∧(0 < x.n→∀ a,x.A=some a→v.ownBlock≠some a.block∧a.block < w.heap.size)
theorem only_set1 (w:World) (g j:Nat) (u:Value):w.grownBy (w.setCell ⟨g,j,none⟩ u) (some g) :=
 ⟨rfl,rfl,rfl,by simp,fun i hi hne=>Below.heap_setCell w ⟨g,j,none⟩ u i (fun e=>hne (by rw [e]))⟩
section
variable {w w':World} {B n c:Nat} {A:Option Addr} {v v':Value} {xs:List Mr} {x:Mr}
theorem MrOwn.keep (h:MrOwn w B v xs) (hb:Below w.heap.size w w'):MrOwn w' B v xs :=
 ⟨ownG_keep h.1 hb,fun x hx=>⟨(h.2 x hx).1.keep hb,fun hp a ha=>⟨((h.2 x hx).2 hp a ha).1,Nat.lt_of_lt_of_le ((h.2 x hx).2 hp a ha).2 hb.size⟩⟩⟩
theorem MrOwn.push (h:MrOwn w B v xs) (hx:MrIn w w.heap.size x) (hn:0 < x.n→∀ a,x.A=some a→v.ownBlock≠some a.block∧a.block < w.heap.size)
  (ho:w'.ownsRow B 116 3 v' (xs.length+1) (xs.flatMap mkC++mkC x)) (hg:w.grownBy w' v.ownBlock) (hv:v'.ownBlock=v.ownBlock∨v'.ownBlock=some w.heap.size):MrOwn w' B v' (xs++[x]):=by
 refine ⟨by rw [List.length_append,List.flatMap_append];simpa using ho,fun y hy=>?_⟩;have key:MrIn w w.heap.size y∧(0 < y.n→∀ a,y.A=some a→v.ownBlock≠some a.block∧a.block < w.heap.size):=by
  rcases List.mem_append.1 hy with hy | hy
  ·exact h.2 y hy
  ·rw [List.mem_singleton] at hy;subst hy;exact ⟨hx,hn⟩
 refine ⟨WdsIn.grown key.1 hg (fun hp a ha=>(key.2 hp a ha).1),fun hp a ha=>⟨fun e=>?_,Nat.lt_of_lt_of_le (key.2 hp a ha).2 hg.size⟩⟩;rcases hv with e2 | e2
 ·exact (key.2 hp a ha).1 (e2.symm.trans e)
 ·have:=(key.2 hp a ha).2;rw [e2] at e;injection e with e;omega
theorem MrOwn.reads (h:MrOwn w B (.slice A n c) xs) (hn:xs.length=n):MrsIn w w.heap.size A n c xs:=by
 have h1:=h.1;rw [hn] at h1;obtain ⟨A',c',e,h2,h3⟩:=ownG_form h1;injection e with e1 e2 e3;subst e1 e3;exact ⟨hn,h2,h3,Row.of_own h1,fun x hx=>(h.2 x hx).1⟩
theorem MrOwn.made (w:World):MrOwn (w.alloc (.cells #[] 116)) w.heap.size (.slice (some ⟨w.heap.size,0,none⟩) 0 0) [] :=
 ⟨World.ownsRow_made w #[] 0 (Nat.le_refl _) (by simp) (by simp),by simp⟩
theorem flat_last (xs:List Mr) (x x':Mr) (j:Nat) (u:Value) (hj:(mkC x).set j u=mkC x') (hj3:j < 3):((xs++[x]).flatMap mkC).set (xs.length * 3+j) u=(xs++[x']).flatMap mkC:=by
 rw [List.flatMap_append,List.flatMap_append,List.set_append_right _ _ (by rw [flat_len mkC_len];omega),flat_len mkC_len,Nat.add_sub_cancel_left];congr 1
theorem MrOwn.last {gv j:Nat} {u:Value} {x':Mr} (h:MrOwn w B v (xs++[x])) (hv:v.ownBlock=some gv) (hj:(mkC x).set j u=mkC x') (hj3:j < 3) (hx':MrIn w w.heap.size x') (hn:0 < x'.n→∀ a,x'.A=some a→v.ownBlock≠some a.block∧a.block < w.heap.size) :
  MrOwn (w.setCell ⟨gv,xs.length * 3+j,none⟩ u) B v (xs++[x']):=by
 have h1:=own_set (j:=xs.length * 3+j) (u:=u) h.1 hv;rw [flat_last xs x x' j u hj hj3] at h1;have hg:w.grownBy (w.setCell ⟨gv,xs.length * 3+j,none⟩ u) (some gv):=only_set1 w gv _ u;refine ⟨by rw [List.length_append] at h1 ⊢;exact h1,fun y hy=>?_⟩;have key:MrIn w w.heap.size y∧(0 < y.n→∀ a,y.A=some a→v.ownBlock≠some a.block∧a.block < w.heap.size):=by
  rcases List.mem_append.1 hy with hy | hy
  ·exact h.2 y (by simp [hy])
  ·rw [List.mem_singleton] at hy;subst hy;exact ⟨hx',hn⟩
 refine ⟨WdsIn.grown key.1 hg (fun hp a ha=>by rw [← hv];exact (key.2 hp a ha).1),fun hp a ha=>⟨(key.2 hp a ha).1,by simpa using (key.2 hp a ha).2⟩⟩
end
def MkAns (w':World) (o:Option (List Mk)) (e:Ending):Prop :=
 (o=none∧∃ A c,e = .returned (.tuple #[.slice A 0 c,.bool false])∧MrsIn w' w'.heap.size A 0 c []) ∨
 ∃ A c xs,o=some (xs.map Mr.dat)∧e = .returned (.tuple #[.slice A xs.length c,.bool true])∧MrsIn w' w'.heap.size A xs.length c xs
def makeO (a b:List Wd):Option (List Mk):=if (spB a && spB b)=true then some (mkAll a b) else none
end Go.Proofs.YtbkhnljaajajiaaGreatDoor
namespace Go.Proofs.YtbkhnljaajajiaaGreatDoor
structure Bf where
 mark:Wd
 words:List Wd
def bfAt (bs:List Bf) (k:Nat):Bf:=bs.getD k ⟨[],[]⟩
theorem bfAt_some {bs:List Bf} {k:Nat} (h:k < bs.length):bs[k]? = some (bfAt bs k):=by simp [bfAt,List.getD_eq_getElem?_getD,h]
theorem bfAt_get {bs:List Bf} {k:Nat} (h:k < bs.length):bs[k]=bfAt bs k:=by simp [bfAt,List.getD_eq_getElem?_getD,h]
theorem bfAt_mem {bs:List Bf} {k:Nat} (h:k < bs.length):bfAt bs k∈bs:=List.mem_of_getElem? (bfAt_some h)
def capB (c:UInt8):Bool:=decide (65≤c.toNat∧c.toNat≤90)
def markB (l:Wd):Bool:=l.all capB && decide (1≤l.length∧l.length≤3)
def bwB (ws:List Wd):Bool:=ws.all wordB && decide (1≤ws.length∧ws.length≤3)
def bfB (b:Bf):Bool:=markB b.mark && bwB b.words
theorem bfB_iff {b:Bf}:bfB b=true ↔ markB b.mark=true∧bwB b.words=true:=by unfold bfB;rw [Bool.and_eq_true]
theorem markB_len {l:Wd} (h:markB l=true):1≤l.length∧l.length≤3:=by
 unfold markB at h;rw [Bool.and_eq_true,decide_eq_true_iff] at h;exact h.2
theorem bwB_len {ws:List Wd} (h:bwB ws=true):1≤ws.length∧ws.length≤3:=by
 unfold bwB at h;rw [Bool.and_eq_true,decide_eq_true_iff] at h;exact h.2
theorem bwB_all {ws:List Wd} (h:bwB ws=true) : ∀ l∈ws,wordB l=true:=by
 unfold bwB at h;rw [Bool.and_eq_true] at h;exact List.all_eq_true.1 h.1
def brGood (bs:List Bf) (i:Nat):Prop:=bfB (bfAt bs i)=true∧∀ j,j < i→(bfAt bs j).mark≠(bfAt bs i).mark∧(bfAt bs j).words≠(bfAt bs i).words
instance (bs:List Bf) (i:Nat):Decidable (brGood bs i):=by unfold brGood;infer_instance
def brsB (bs:List Bf):Bool:=decide (bs.length≤8∧∀ i,i < bs.length→brGood bs i)
theorem brsB_iff {bs:List Bf}:brsB bs=true ↔ bs.length≤8∧∀ i,i < bs.length→brGood bs i:=by unfold brsB;rw [decide_eq_true_iff]
theorem brsB_no {bs:List Bf} {i:Nat} (hi:i < bs.length) (h : ¬ brGood bs i):brsB bs=false:=by
 rw [Bool.eq_false_iff];intro h2;exact h ((brsB_iff.1 h2).2 i hi)
theorem brsB_all {bs:List Bf} (h : ∀ i,i < bs.length→brGood bs i):brsB bs=decide (bs.length≤8):=by
 unfold brsB;congr 1;exact propext ⟨fun h=>h.1,fun h2=>⟨h2,h⟩⟩
theorem brsB_long {bs:List Bf} (h:8 < bs.length):brsB bs=false:=by
 rw [Bool.eq_false_iff];intro h2;have:=(brsB_iff.1 h2).1;omega
theorem brsB_mem {bs:List Bf} (h:brsB bs=true) : ∀ b∈bs,bfB b=true:=by
 intro b hb;obtain ⟨i,hi,rfl⟩:=List.getElem_of_mem hb;rw [bfAt_get hi];exact ((brsB_iff.1 h).2 i hi).1
def brK (bs:List Bf) (k:Nat):Prop:=∀ i,i < k→brGood bs i
theorem brK_succ {bs:List Bf} {k:Nat} (h:brK bs k) (h2:brGood bs k):brK bs (k+1):=fun i hi=>by
 rcases Nat.lt_succ_iff_lt_or_eq.1 hi with h3 | rfl
 ·exact h i h3
 ·exact h2
def brJ (bs:List Bf) (k j:Nat):Prop:=∀ i,i < j→(bfAt bs i).mark≠(bfAt bs k).mark∧(bfAt bs i).words≠(bfAt bs k).words
theorem brJ_succ {bs:List Bf} {k j:Nat} (h:brJ bs k j) (h2:(bfAt bs j).mark≠(bfAt bs k).mark∧(bfAt bs j).words≠(bfAt bs k).words):brJ bs k (j+1):=fun i hi=>by
 rcases Nat.lt_succ_iff_lt_or_eq.1 hi with h3 | rfl
 ·exact h i h3
 ·exact h2
def addO (bs:List Bf) (b:Bf):Option (List Bf):=if brsB (bs++[b])=true then some (bs++[b]) else none
theorem bfAt_pre {bs r:List Bf} {i:Nat} (h:i < bs.length):bfAt (bs++r) i=bfAt bs i:=by
 unfold bfAt;rw [List.getD_eq_getElem?_getD,List.getD_eq_getElem?_getD,List.getElem?_append_left h]
theorem brsB_pre {bs:List Bf} {b:Bf} (h:brsB (bs++[b])=true):brsB bs=true:=by
 obtain ⟨h1,h2⟩:=brsB_iff.1 h;rw [List.length_append] at h1 h2;refine brsB_iff.2 ⟨by omega,fun i hi=>?_⟩;have:=h2 i (by omega);unfold brGood at *;rw [bfAt_pre hi] at this;exact ⟨this.1,fun j hj=>by have:=this.2 j hj;rwa [bfAt_pre (by omega)] at this⟩
theorem addO_no {bs:List Bf} {b:Bf} (h:brsB bs=false):addO bs b=none:=by
 unfold addO;rw [if_neg];intro e;rw [brsB_pre e] at h;cases h
def hitB (ws:List Wd) (b:Bf):Bool:=decide (b.words.length≤ws.length∧ws.take b.words.length=b.words)
def wayC (t:List Nat) (b:Bf):Nat:=t.getD (b.words.length - 1) 0+b.mark.length
def optC (ws:List Wd) (t:List Nat) (c:Nat) (b:Bf):Nat:=if hitB ws b=true then min c (wayC t b) else c
def costs (bs:List Bf):List Wd→List Nat
 | []=>[0]
 | x::r=>bs.foldl (optC (x::r) (costs bs r)) ((costs bs r).headD 0+x.length)::costs bs r
def costOf (bs:List Bf) (ws:List Wd):Nat:=(costs bs ws).headD 0
theorem costs_get (bs:List Bf) : ∀ (ws:List Wd) (k:Nat),k≤ws.length→(costs bs ws).getD k 0=costOf bs (ws.drop k)
 | ws,0,_=>by unfold costOf;cases h:costs bs ws <;> simp [h]
 | [],k+1,h=>by simp at h
 | x::r,k+1,h=>by
  rw [costs,List.getD_cons_succ,List.drop_succ_cons];exact costs_get bs r k (by simpa using h)
theorem costOf_nil (bs:List Bf):costOf bs []=0:=rfl
def wayD (bs:List Bf) (ws:List Wd) (b:Bf):Nat:=costOf bs (ws.drop b.words.length)+b.mark.length
def optD (bs:List Bf) (ws:List Wd) (c:Nat) (b:Bf):Nat:=if hitB ws b=true then min c (wayD bs ws b) else c
theorem wayC_D {bs:List Bf} {x:Wd} {r:List Wd} {b:Bf} (h:hitB (x::r) b=true) (h1:1≤b.words.length):wayC (costs bs r) b=wayD bs (x::r) b:=by
 unfold hitB at h;rw [decide_eq_true_iff] at h;have hl:=h.1;rw [List.length_cons] at hl;unfold wayC wayD;rw [costs_get bs r _ (by omega)];obtain ⟨m,hm⟩ : ∃ m,b.words.length=m+1:=⟨b.words.length - 1,by omega⟩;rw [hm,Nat.add_sub_cancel,List.drop_succ_cons]
theorem costOf_cons {bs:List Bf} (h : ∀ b∈bs,1≤b.words.length) (x:Wd) (r:List Wd):costOf bs (x::r)=bs.foldl (optD bs (x::r)) (costOf bs r+x.length):=by
 show ((costs bs (x::r)).headD 0)=_
 rw [costs,List.headD_cons];have key : ∀ (l:List Bf) (c:Nat),(∀ b∈l,1≤b.words.length)→l.foldl (optC (x::r) (costs bs r)) c=l.foldl (optD bs (x::r)) c:=by
  intro l;induction l with
  | nil=>intro c _;rfl
  | cons b l ih =>
   intro c hl;rw [List.foldl_cons,List.foldl_cons];have e:optC (x::r) (costs bs r) c b=optD bs (x::r) c b:=by
    unfold optC optD;split
    ·rename_i hh;rw [wayC_D hh (hl b (by simp))]
    ·rfl
   rw [e];exact ih _ (fun y hy=>hl y (by simp [hy]))
 exact key bs _ h
def costK (bs:List Bf) (ws:List Wd) (k:Nat):Nat:=(bs.take k).foldl (optD bs ws) (costOf bs (ws.drop 1)+(ws.headD []).length)
theorem costK_zero (bs:List Bf) (ws:List Wd):costK bs ws 0=costOf bs (ws.drop 1)+(ws.headD []).length:=rfl
theorem costK_succ {bs:List Bf} {ws:List Wd} {k:Nat} (h:k < bs.length):costK bs ws (k+1)=optD bs ws (costK bs ws k) (bfAt bs k):=by
 unfold costK;rw [List.take_succ_eq_append_getElem h,List.foldl_append,bfAt_get h];rfl
theorem costK_all {bs:List Bf} (h : ∀ b∈bs,1≤b.words.length) {ws:List Wd} (hn:0 < ws.length):costK bs ws bs.length=costOf bs ws:=by
 cases ws with
 | nil=>simp at hn
 | cons x r=>rw [costOf_cons h];unfold costK;rw [List.take_length];rfl
theorem foldl_le (bs:List Bf) (ws:List Wd) : ∀ (l:List Bf) (c:Nat),l.foldl (optD bs ws) c≤c∧∀ b∈l,hitB ws b=true→l.foldl (optD bs ws) c≤wayD bs ws b:=by
 intro l;induction l with
 | nil=>intro c;exact ⟨Nat.le_refl _,by simp⟩
 | cons b l ih =>
  intro c;rw [List.foldl_cons];obtain ⟨h1,h2⟩:=ih (optD bs ws c b);have h3:optD bs ws c b≤c:=by unfold optD;split <;> omega
  refine ⟨Nat.le_trans h1 h3,fun y hy hh=>?_⟩;rcases List.mem_cons.1 hy with e | hy
  ·subst e;have:optD bs ws c y≤wayD bs ws y:=(by unfold optD;rw [if_pos hh];omega);omega
  ·exact h2 y hy hh
theorem costK_le (bs:List Bf) (ws:List Wd) (k:Nat):costK bs ws k≤costOf bs (ws.drop 1)+(ws.headD []).length:=(foldl_le bs ws _ _).1
theorem costOf_le {bs:List Bf} (h : ∀ b∈bs,1≤b.words.length) (ws:List Wd) (hw : ∀ l∈ws,l.length≤12):costOf bs ws≤12 * ws.length:=by
 induction ws with
 | nil=>exact Nat.le_refl _
 | cons x r ih =>
  have h1:=ih (fun l hl=>hw l (by simp [hl]));have h2:=hw x (by simp);rw [costOf_cons h,List.length_cons];have:=(foldl_le bs (x::r) bs (costOf bs r+x.length)).1;omega
def pickB (bs:List Bf) (ws:List Wd):Option Bf:=bs.find? fun b=>hitB ws b && decide (wayD bs ws b=costOf bs ws)
def stepT (bs:List Bf) (ws:List Wd):Wd × Nat:=match pickB bs ws with
 | some b=>(b.mark,b.words.length)
 | none=>(ws.headD [],1)
def bestT (bs:List Bf):List Wd→List Wd
 | []=>[]
 | x::r=>(stepT bs (x::r)).1::bestT bs (r.drop ((stepT bs (x::r)).2 - 1))
termination_by ws=>ws.length
decreasing_by rw [List.length_cons,List.length_drop];omega
theorem bestT_nil (bs:List Bf):bestT bs []=[]:=by rw [bestT]
theorem pickB_mem {bs:List Bf} {ws:List Wd} {b:Bf} (h:pickB bs ws=some b):b∈bs∧hitB ws b=true∧wayD bs ws b=costOf bs ws:=by
 unfold pickB at h;have h2:=List.find?_some h;rw [Bool.and_eq_true,decide_eq_true_iff] at h2;exact ⟨List.mem_of_find?_eq_some h,h2⟩
theorem hitB_len {ws:List Wd} {b:Bf} (h:hitB ws b=true):b.words.length≤ws.length:=by unfold hitB at h;rw [decide_eq_true_iff] at h;exact h.1
theorem stepT_bd {bs:List Bf} (h : ∀ b∈bs,1≤b.words.length) {ws:List Wd} (hn:0 < ws.length):1≤(stepT bs ws).2∧(stepT bs ws).2≤ws.length:=by
 unfold stepT;cases hp:pickB bs ws with
 | none=>exact ⟨Nat.le_refl _,hn⟩
 | some b =>
  have:=pickB_mem hp;exact ⟨h b this.1,hitB_len this.2.1⟩
theorem bestT_step {bs:List Bf} (h : ∀ b∈bs,1≤b.words.length) {ws:List Wd} (hn:0 < ws.length):bestT bs ws=(stepT bs ws).1::bestT bs (ws.drop (stepT bs ws).2):=by
 cases ws with
 | nil=>simp at hn
 | cons x r =>
  have hb:=stepT_bd h (ws:=x::r) hn;rw [bestT];congr 2
  obtain ⟨m,hm⟩ : ∃ m,(stepT bs (x::r)).2=m+1:=⟨_,(Nat.sub_add_cancel hb.1).symm⟩;rw [hm,Nat.add_sub_cancel,List.drop_succ_cons]
def pickFrom (bs:List Bf) (ws:List Wd) (k:Nat):Option Bf:=(bs.drop k).find? fun b=>hitB ws b && decide (wayD bs ws b=costOf bs ws)
theorem pickFrom_end (bs:List Bf) (ws:List Wd):pickFrom bs ws bs.length=none:=by unfold pickFrom;rw [List.drop_length];rfl
theorem pickFrom_at {bs:List Bf} {ws:List Wd} {k:Nat} (h:k < bs.length):pickFrom bs ws k=if (hitB ws (bfAt bs k) && decide (wayD bs ws (bfAt bs k)=costOf bs ws))=true then some (bfAt bs k) else pickFrom bs ws (k+1):=by
 unfold pickFrom;rw [List.drop_eq_getElem_cons h,List.find?_cons,bfAt_get h];split <;> rename_i e <;> rw [e] <;> simp
def leastI (bs:List Bf) (ws:List Wd):Int:=if (brsB bs && spB ws)=true then (costOf bs ws:Int) else -1
def bestO (bs:List Bf) (ws:List Wd):Option (List Wd):=if (brsB bs && spB ws)=true then some (bestT bs ws) else none
theorem valid_one {bs:List Bf} (h:brsB bs=true) : ∀ b∈bs,1≤b.words.length:=fun b hb=>(bwB_len (bfB_iff.1 (brsB_mem h b hb)).2).1
theorem bestT_len {bs:List Bf} (h : ∀ b∈bs,1≤b.words.length) : ∀ (n:Nat) (ws:List Wd),ws.length≤n→(bestT bs ws).length≤ws.length:=by
 intro n;induction n with
 | zero=>intro ws hl;have:ws=[]:=List.length_eq_zero_iff.1 (by omega);subst this;rw [bestT_nil];exact Nat.le_refl _
 | succ n ih =>
  intro ws hl;by_cases h0:0 < ws.length
  ·rw [bestT_step h h0,List.length_cons];have hb:=stepT_bd h h0;have:=ih (ws.drop (stepT bs ws).2) (by rw [List.length_drop];omega);rw [List.length_drop] at this;omega
  ·have:ws=[]:=List.length_eq_zero_iff.1 (by omega);subst this;rw [bestT_nil];exact Nat.le_refl _
structure Tk where
 brief:Int
 width:Nat
 cost:Nat
def toksG (ws:List Wd):Nat→List Bf→List Tk
 | _,[]=>[]
 | k,b::r=>(if hitB ws b=true then [⟨(k:Int),b.words.length,b.mark.length⟩] else [])++toksG ws (k+1) r
def toksAt (bs:List Bf) (ws:List Wd):List Tk:=toksG ws 0 bs++[⟨-1,1,(ws.headD []).length⟩]
theorem toksG_snoc (ws:List Wd) (b:Bf) : ∀ (l:List Bf) (k:Nat),toksG ws k (l++[b])=toksG ws k l++(if hitB ws b=true then [⟨((k+l.length:Nat):Int),b.words.length,b.mark.length⟩] else []):=by
 intro l;induction l with
 | nil=>intro k;simp [toksG]
 | cons x l ih =>
  intro k;rw [List.cons_append,toksG,toksG,ih,List.append_assoc,List.length_cons,show k+1+l.length=k+(l.length+1) by omega]
theorem toksG_len (ws:List Wd) : ∀ (l:List Bf) (k:Nat),(toksG ws k l).length≤l.length:=by
 intro l;induction l with
 | nil=>intro k;simp [toksG]
 | cons x l ih =>
  intro k;have:=ih (k+1);rw [toksG,List.length_append,List.length_cons];split <;> simp <;> omega
def wholeT (bs:List Bf) (ws:List Wd) (t:Tk):Nat:=t.cost+costOf bs (ws.drop t.width)
def keepT (bs:List Bf) (ws:List Wd) (a:Tk × Nat) (t:Tk):Tk × Nat:=if a.1.width=0∨wholeT bs ws t < a.2 then (t,wholeT bs ws t) else a
def emptyT:Tk × Nat:=(⟨0,0,0⟩,0)
def firstT (bs:List Bf) (ws:List Wd):Tk × Nat:=(toksAt bs ws).foldl (keepT bs ws) emptyT
def Kept (bs:List Bf) (ws:List Wd) (L:List Tk) (a:Tk × Nat):Prop :=
 (L=[]∧a=emptyT)∨(∃ i:Nat,i < L.length∧L[i]? = some a.1∧a.2=wholeT bs ws a.1∧1≤a.1.width∧(∀ (j:Nat) (t:Tk),L[j]? = some t→a.2≤wholeT bs ws t)∧(∀ (j:Nat) (t:Tk),j < i→L[j]? = some t→a.2 < wholeT bs ws t))
theorem kept_snoc {bs:List Bf} {ws:List Wd} {L:List Tk} {a:Tk × Nat} {t:Tk} (ht:1≤t.width) (h:Kept bs ws L a):Kept bs ws (L++[t]) (keepT bs ws a t):=by
 right
 rcases h with ⟨rfl,rfl⟩ | ⟨i,hi,h1,h2,h3,h4,h5⟩
 ·have e:keepT bs ws emptyT t=(t,wholeT bs ws t):=(by unfold keepT;rw [if_pos (.inl rfl)]);rw [e];refine ⟨0,by simp,by simp,rfl,ht,fun j t' hj=>?_,fun j t' hj=>by omega⟩;rw [List.nil_append] at hj;have:=List.mem_of_getElem? hj;rw [List.mem_singleton] at this;rw [this];exact Nat.le_refl _
 ·unfold keepT;split
  ·rename_i hc
   have hlt:wholeT bs ws t < a.2:=by
    rcases hc with hc | hc
    ·omega
    ·exact hc
   refine ⟨L.length,by simp,by rw [List.getElem?_append_right (Nat.le_refl _),Nat.sub_self];rfl,rfl,ht,fun j t' hj=>?_,fun j t' hj hj2=>?_⟩
   ·have:=List.mem_of_getElem? hj;rcases List.mem_append.1 this with hm | hm
    ·obtain ⟨k,hk,e⟩:=List.getElem_of_mem hm;have:=h4 k t' (by rw [List.getElem?_eq_getElem hk,e])
     show wholeT bs ws t≤_
     omega
    ·rw [List.mem_singleton] at hm;rw [hm];exact Nat.le_refl _
   ·rw [List.getElem?_append_left hj] at hj2;have:=h4 j t' hj2
    show wholeT bs ws t < _
    omega
  ·rename_i hc
   refine ⟨i,by rw [List.length_append];omega,by rw [List.getElem?_append_left hi];exact h1,h2,h3,fun j t' hj=>?_,fun j t' hj hj2=>?_⟩
   ·have:=List.mem_of_getElem? hj;rcases List.mem_append.1 this with hm | hm
    ·obtain ⟨k,hk,e⟩:=List.getElem_of_mem hm;exact h4 k t' (by rw [List.getElem?_eq_getElem hk,e])
    ·rw [List.mem_singleton] at hm;rw [hm];exact Nat.le_of_not_lt (fun h=>hc (.inr h))
   ·rw [List.getElem?_append_left (by omega)] at hj2;exact h5 j t' hj hj2
theorem kept_all {bs:List Bf} {ws:List Wd} : ∀ (R L:List Tk) (a:Tk × Nat),(∀ t∈R,1≤t.width)→Kept bs ws L a→Kept bs ws (L++R) (R.foldl (keepT bs ws) a):=by
 intro R;induction R with
 | nil=>intro L a _ h;rw [List.append_nil];exact h
 | cons t R ih =>
  intro L a hR h;have:=ih (L++[t]) (keepT bs ws a t) (fun x hx=>hR x (by simp [hx])) (kept_snoc (hR t (by simp)) h);rw [List.append_assoc] at this;exact this
theorem toksG_mem {ws:List Wd} {t:Tk} : ∀ (l:List Bf) (k:Nat),t∈toksG ws k l ↔ ∃ i b,l[i]? = some b∧hitB ws b=true∧t=⟨((k+i:Nat):Int),b.words.length,b.mark.length⟩:=by
 intro l;induction l with
 | nil=>intro k;simp [toksG]
 | cons x l ih =>
  intro k;rw [toksG,List.mem_append,ih];constructor
  ·rintro (h | ⟨i,b,h1,h2,h3⟩)
   ·split at h
    ·rename_i hh
     rw [List.mem_singleton] at h;exact ⟨0,x,rfl,hh,h⟩
    ·simp at h
   ·exact ⟨i+1,b,h1,h2,by rw [h3,show k+1+i=k+(i+1) by omega]⟩
  ·rintro ⟨i,b,h1,h2,h3⟩;cases i with
   | zero =>
    have e:x=b:=(by simpa using h1);subst e
    left;rw [if_pos h2,List.mem_singleton];exact h3
   | succ i=>exact .inr ⟨i,b,by simpa using h1,h2,by rw [h3,show k+1+i=k+(i+1) by omega]⟩
theorem costOf_min {bs:List Bf} (h : ∀ b∈bs,1≤b.words.length) {ws:List Wd} (hn:0 < ws.length) :
  (∀ b∈bs,hitB ws b=true→costOf bs ws≤wayD bs ws b)∧costOf bs ws≤costOf bs (ws.drop 1)+(ws.headD []).length ∧
  ((∃ b∈bs,hitB ws b=true∧wayD bs ws b=costOf bs ws)∨costOf bs ws=costOf bs (ws.drop 1)+(ws.headD []).length):=by
 rw [← costK_all h hn];unfold costK;rw [List.take_length];refine ⟨(foldl_le bs ws bs _).2,(foldl_le bs ws bs _).1,?_⟩;have key : ∀ (l:List Bf) (c:Nat),(∃ b∈l,hitB ws b=true∧wayD bs ws b=l.foldl (optD bs ws) c)∨l.foldl (optD bs ws) c=c:=by
  intro l;induction l with
  | nil=>intro c;exact .inr rfl
  | cons b l ih =>
   intro c;rw [List.foldl_cons];rcases ih (optD bs ws c b) with ⟨y,hy,h1,h2⟩ | h1
   ·exact .inl ⟨y,by simp [hy],h1,h2⟩
   ·rw [h1];unfold optD;split
    ·rename_i hh
     by_cases hc:c≤wayD bs ws b
     ·right;omega
     ·left;exact ⟨b,by simp,hh,by omega⟩
    ·exact .inr rfl
 exact key bs _
theorem firstT_is {bs:List Bf} (h : ∀ b∈bs,1≤b.words.length) {ws:List Wd} (hn:0 < ws.length) :
  (firstT bs ws).2=costOf bs ws∧(firstT bs ws).1.width=(stepT bs ws).2 ∧
  (((firstT bs ws).1.brief = -1∧(stepT bs ws).1=ws.headD [])∨∃ i:Nat,i < bs.length∧(firstT bs ws).1.brief=(i:Int)∧(stepT bs ws).1=(bfAt bs i).mark):=by
 have hw : ∀ t∈toksAt bs ws,1≤t.width:=by
  intro t ht;rcases List.mem_append.1 ht with hm | hm
  ·obtain ⟨i,b,h1,_,rfl⟩:=(toksG_mem bs 0).1 hm;exact h b (List.mem_of_getElem? h1)
  ·rw [List.mem_singleton] at hm;rw [hm];exact Nat.le_refl _
 have hk:=kept_all (bs:=bs) (ws:=ws) (toksAt bs ws) [] emptyT hw (.inl ⟨rfl,rfl⟩);rw [List.nil_append] at hk;obtain ⟨m1,m2,m3⟩:=costOf_min h hn;have hword:(⟨-1,1,(ws.headD []).length⟩:Tk)∈toksAt bs ws:=(by unfold toksAt;simp);have hbrief : ∀ (i:Nat) (b:Bf),bs[i]? = some b→hitB ws b=true→(⟨(i:Int),b.words.length,b.mark.length⟩:Tk)∈toksAt bs ws:=fun i b h1 h2=>by
  unfold toksAt;exact List.mem_append_left _ ((toksG_mem bs 0).2 ⟨i,b,h1,h2,by rw [Nat.zero_add]⟩)
 have wW:wholeT bs ws ⟨-1,1,(ws.headD []).length⟩=costOf bs (ws.drop 1)+(ws.headD []).length:=Nat.add_comm _ _;have wB : ∀ (i:Nat) b,wholeT bs ws ⟨(i:Int),b.words.length,b.mark.length⟩=wayD bs ws b:=fun i b=>Nat.add_comm _ _;rcases hk with ⟨h0,_⟩ | ⟨p,hp,h1,h2,h3,h4,h5⟩
 ·rw [h0] at hword;simp at hword
 ·have h4' : ∀ t∈toksAt bs ws,(firstT bs ws).2≤wholeT bs ws t:=fun t ht=>by
   obtain ⟨j,hj,e⟩:=List.getElem_of_mem ht;exact h4 j t (by rw [List.getElem?_eq_getElem hj,e])
  have hmem:=List.mem_of_getElem? h1;have hle:(firstT bs ws).2≤costOf bs ws:=by
   rcases m3 with ⟨b,hb,hh,hc⟩ | hc
   ·obtain ⟨i,hi,e⟩:=List.getElem_of_mem hb;have:=h4' _ (hbrief i b (by rw [List.getElem?_eq_getElem hi,e]) hh);rw [wB] at this;omega
   ·have:=h4' _ hword;rw [wW] at this;omega
  have hge:costOf bs ws≤(firstT bs ws).2:=by
   show costOf bs ws≤((toksAt bs ws).foldl (keepT bs ws) emptyT).2
   rw [h2];rcases List.mem_append.1 hmem with hm | hm
   ·obtain ⟨i,b,e1,e2,e3⟩:=(toksG_mem bs 0).1 hm;rw [e3,wB];exact m1 b (List.mem_of_getElem? e1) e2
   ·rw [List.mem_singleton] at hm;rw [hm,wW];exact m2
  have heq:(firstT bs ws).2=costOf bs ws:=Nat.le_antisymm hle hge;refine ⟨heq,?_⟩;have hlt : ∀ j,j < p→∀ t,(toksAt bs ws)[j]? = some t→costOf bs ws < wholeT bs ws t:=fun j hj t ht=>by
   have:=h5 j t hj ht;rw [← heq];exact this
  have hwh:wholeT bs ws (firstT bs ws).1=costOf bs ws:=(by rw [← heq];exact h2.symm);have h1:(toksAt bs ws)[p]? = some (firstT bs ws).1:=h1;by_cases hpl:p < (toksG ws 0 bs).length
  ·have hm:(firstT bs ws).1∈toksG ws 0 bs:=by
    unfold toksAt at h1;rw [List.getElem?_append_left hpl] at h1;exact List.mem_of_getElem? h1
   obtain ⟨i,b,e1,e2,e3⟩:=(toksG_mem bs 0).1 hm;have hi:i < bs.length:=by
    rcases Nat.lt_or_ge i bs.length with h | h
    ·exact h
    ·rw [List.getElem?_eq_none h] at e1;cases e1
   have eb:bfAt bs i=b:=(by have:=bfAt_some hi;rw [e1] at this;injection this with this;exact this.symm);have hfree : ∀ j,j < i→∀ b',bs[j]? = some b'→¬ (hitB ws b'=true∧wayD bs ws b'=costOf bs ws):=by
    intro j hj b' hb' ⟨g1,g2⟩;have hsplit:toksG ws 0 bs=toksG ws 0 (bs.take i)++toksG ws i (bs.drop i):=by
     have : ∀ (l1 l2:List Bf) (k:Nat),toksG ws k (l1++l2)=toksG ws k l1++toksG ws (k+l1.length) l2:=by
      intro l1;induction l1 with
      | nil=>intro l2 k;simp [toksG]
      | cons x l1 ih=>intro l2 k;rw [List.cons_append,toksG,toksG,ih,List.append_assoc,List.length_cons,show k+1+l1.length=k+(l1.length+1) by omega]
     have h9:=this (bs.take i) (bs.drop i) 0;rw [List.take_append_drop,List.length_take,Nat.zero_add,Nat.min_eq_left (by omega)] at h9;exact h9
    have hjm:(⟨(j:Int),b'.words.length,b'.mark.length⟩:Tk)∈toksG ws 0 (bs.take i):=(toksG_mem _ 0).2 ⟨j,b',by rw [List.getElem?_take_of_lt hj];exact hb',g1,by rw [Nat.zero_add]⟩;obtain ⟨q,hq,eq⟩:=List.getElem_of_mem hjm;have hq2:q < p:=by
     rcases Nat.lt_or_ge q p with h | h
     ·exact h
     ·exfalso;have hp1:p < (toksG ws 0 (bs.take i)).length:=(by omega);have:(firstT bs ws).1∈toksG ws 0 (bs.take i):=by
       unfold toksAt at h1;rw [List.getElem?_append_left hpl,hsplit,List.getElem?_append_left hp1] at h1;exact List.mem_of_getElem? h1
      obtain ⟨i2,b2,f1,f2,f3⟩:=(toksG_mem _ 0).1 this;have hi2:i2 < i:=by
       rcases Nat.lt_or_ge i2 (bs.take i).length with h | h
       ·rw [List.length_take] at h;omega
       ·rw [List.getElem?_eq_none h] at f1;cases f1
      rw [e3] at f3;injection f3 with f3 _ _;omega
    have:=hlt q hq2 ⟨(j:Int),b'.words.length,b'.mark.length⟩ (by
     unfold toksAt;rw [List.getElem?_append_left (by omega),hsplit,List.getElem?_append_left hq,List.getElem?_eq_getElem hq,eq])
    rw [wB] at this;omega
   have hpick:pickB bs ws=some b:=by
    unfold pickB;rw [e3,Nat.zero_add,wB] at hwh;have hfound : ∀ (l:List Bf) (n:Nat),l[n]? = some b→(∀ j,j < n→∀ b',l[j]? = some b'→¬ (hitB ws b'=true∧wayD bs ws b'=costOf bs ws))→(l.find? fun b=>hitB ws b && decide (wayD bs ws b=costOf bs ws))=some b:=by
     intro l;induction l with
     | nil=>intro n hn;simp at hn
     | cons x l ih =>
      intro n hn hj;cases n with
      | zero =>
       have e:x=b:=(by simpa using hn);rw [List.find?_cons,e,e2,hwh,decide_eq_true rfl];rfl
      | succ n =>
       have hx:=hj 0 (by omega) x rfl;have e:(hitB ws x && decide (wayD bs ws x=costOf bs ws))=false:=by
        rw [Bool.eq_false_iff];intro e;rw [Bool.and_eq_true,decide_eq_true_iff] at e;exact hx e
       rw [List.find?_cons,e];exact ih n (by simpa using hn) (fun j hj2 b' hb'=>hj (j+1) (by omega) b' (by simpa using hb'))
    exact hfound bs i e1 hfree
   have es:stepT bs ws=(b.mark,b.words.length):=(by unfold stepT;rw [hpick]);rw [es,e3];exact ⟨rfl,.inr ⟨i,hi,by rw [Nat.zero_add],by rw [eb]⟩⟩
  ·have hpe:p=(toksG ws 0 bs).length:=by
    have:p < (toksG ws 0 bs).length+1:=(by have:=hp;unfold toksAt at this;rw [List.length_append] at this;exact this);omega
   have ht:(firstT bs ws).1=⟨-1,1,(ws.headD []).length⟩:=by
    unfold toksAt at h1;rw [hpe,List.getElem?_append_right (Nat.le_refl _),Nat.sub_self] at h1;injection h1 with h1;exact h1.symm
   have hpick:pickB bs ws=none:=by
    unfold pickB;rw [List.find?_eq_none];intro b hb e;rw [Bool.and_eq_true,decide_eq_true_iff] at e;obtain ⟨i,hi,eb⟩:=List.getElem_of_mem hb;have hm:(⟨((0+i:Nat):Int),b.words.length,b.mark.length⟩:Tk)∈toksG ws 0 bs:=(toksG_mem bs 0).2 ⟨i,b,by rw [List.getElem?_eq_getElem hi,eb],e.1,rfl⟩;obtain ⟨q,hq,eq⟩:=List.getElem_of_mem hm;have:=hlt q (by omega) _ (by unfold toksAt;rw [List.getElem?_append_left hq,List.getElem?_eq_getElem hq]);rw [eq,wB] at this;omega
   have es:stepT bs ws=(ws.headD [],1):=(by unfold stepT;rw [hpick]);rw [es,ht];exact ⟨rfl,.inl ⟨rfl,rfl⟩⟩
end Go.Proofs.YtbkhnljaajajiaaGreatDoor
namespace Go.Proofs.YtbkhnljaajajiaaGreatDoor
open Go.ChangeShapes Go.WideShapes Go.ChangeAt Go.RowKit
structure Br where
 mark:Wd
 A:Option Addr
 n:Nat
 c:Nat
 words:List Wd
def brC (x:Br):List Value:=[.string (mkStr x.mark),.slice x.A x.n x.c]
theorem brC_len (x:Br):(brC x).length=2:=rfl
def Br.dat (x:Br):Bf:=⟨x.mark,x.words⟩
def BrIn (w:World) (B:Nat) (x:Br):Prop:=WdsIn w B x.A x.n x.c x.words
def SmB (x:Br):Prop:=x.mark.length≤maxLen∧∀ l∈x.words,l.length≤maxLen
def BrsIn (w:World) (B:Nat) (A:Option Addr) (n c:Nat) (xs:List Br):Prop :=
 xs.length=n∧n≤c∧c≤maxLen∧Row w B A n 2 (xs.flatMap brC)∧∀ x∈xs,BrIn w B x
def brAt (xs:List Br) (k:Nat):Br:=xs.getD k ⟨[],none,0,0,[]⟩
theorem brAt_some {xs:List Br} {k:Nat} (h:k < xs.length):xs[k]? = some (brAt xs k):=by simp [brAt,List.getD_eq_getElem?_getD,h]
theorem brAt_mem {xs:List Br} {k:Nat} (h:k < xs.length):brAt xs k∈xs:=List.mem_of_getElem? (brAt_some h)
theorem brAt_dat {xs:List Br} {k:Nat} (h:k < xs.length):bfAt (xs.map Br.dat) k=(brAt xs k).dat:=by
 have h1:=bfAt_some (bs:=xs.map Br.dat) (k:=k) (by rw [List.length_map];exact h);rw [List.getElem?_map,brAt_some h] at h1;injection h1 with h1;exact h1.symm
theorem BrIn.keep {w w':World} {x:Br} (h:BrIn w w.heap.size x) (hb:Below w.heap.size w w'):BrIn w' w'.heap.size x:=WdsIn.keep h hb
theorem BrsIn.keep {w w':World} {n c:Nat} {A:Option Addr} {xs:List Br} (h:BrsIn w w.heap.size A n c xs) (hb:Below w.heap.size w w'):BrsIn w' w'.heap.size A n c xs :=
 ⟨h.1,h.2.1,h.2.2.1,(h.2.2.2.1.below hb).more hb.size,fun x hx=>(h.2.2.2.2 x hx).keep hb⟩
theorem BrsIn.zero (w:World) (B:Nat) (A:Option Addr):BrsIn w B A 0 0 []:=⟨rfl,Nat.le_refl _,by unfold maxLen;omega,⟨rfl,fun h=>absurd h (by omega)⟩,by simp⟩
theorem BrsIn.at_ {w:World} {B n c k:Nat} {A:Option Addr} {xs:List Br} (h:BrsIn w B A n c xs) (hk:k < n) :
  ∃ b off,A=some ⟨b,off,none⟩∧b < B∧w.cell? ⟨b,off+k * 2,none⟩=some (.string (mkStr (brAt xs k).mark))∧w.cell? ⟨b,off+k * 2+1,none⟩=some (.slice (brAt xs k).A (brAt xs k).n (brAt xs k).c)∧BrIn w B (brAt xs k):=by
 obtain ⟨h1,_,_,h4,h5⟩:=h;obtain ⟨b,off,eA,hbB,hc⟩:=h4.2 (by omega);have hs:=brAt_some (xs:=xs) (k:=k) (by omega);refine ⟨b,off,eA,hbB,?_,?_,h5 _ (brAt_mem (by omega))⟩
 ·have:=hc (k * 2+0) _ (flat_at brC_len xs k _ 0 (.string (mkStr (brAt xs k).mark)) hs rfl);simpa using this
 ·have:=hc (k * 2+1) _ (flat_at brC_len xs k _ 1 (.slice (brAt xs k).A (brAt xs k).n (brAt xs k).c) hs rfl)
  rwa [← Nat.add_assoc] at this
theorem infoBr:(Tryz.prog.info? 34).map (fun i=>(i.zero,i.size,i.bytes))=some (some (.agg #[.string { data:=#[] },.slice none 0 0]),2,40):=by kernel_rfl
theorem rowNewBr (w:World) (u1 u2:Value) (t:TypeId):Row (w.alloc (.cells #[u1,u2] t)) (w.heap.size+1) (some ⟨w.heap.size,0,none⟩) 1 2 [u1,u2]:=by
 refine ⟨rfl,fun _=>⟨w.heap.size,0,rfl,by omega,fun j x hj=>?_⟩⟩;rw [World.cell?_alloc_at _ t w.heap.size (0+j) rfl];simpa using hj
def BrOwn (w:World) (B:Nat) (v:Value) (xs:List Br):Prop :=
 w.ownsRow B 34 2 v xs.length (xs.flatMap brC)∧∀ x∈xs,BrIn w w.heap.size x∧(0 < x.n→∀ a,x.A=some a→v.ownBlock≠some a.block∧a.block < w.heap.size)
section
variable {w w':World} {B n c:Nat} {A:Option Addr} {v v':Value} {xs:List Br} {x:Br}
theorem BrOwn.keep (h:BrOwn w B v xs) (hb:Below w.heap.size w w'):BrOwn w' B v xs :=
 ⟨ownG_keep h.1 hb,fun x hx=>⟨(h.2 x hx).1.keep hb,fun hp a ha=>⟨((h.2 x hx).2 hp a ha).1,Nat.lt_of_lt_of_le ((h.2 x hx).2 hp a ha).2 hb.size⟩⟩⟩
theorem BrOwn.push (h:BrOwn w B v xs) (hx:BrIn w w.heap.size x) (hn:0 < x.n→∀ a,x.A=some a→v.ownBlock≠some a.block∧a.block < w.heap.size)
  (ho:w'.ownsRow B 34 2 v' (xs.length+1) (xs.flatMap brC++brC x)) (hg:w.grownBy w' v.ownBlock) (hv:v'.ownBlock=v.ownBlock∨v'.ownBlock=some w.heap.size):BrOwn w' B v' (xs++[x]):=by
 refine ⟨by rw [List.length_append,List.flatMap_append];simpa using ho,fun y hy=>?_⟩;have key:BrIn w w.heap.size y∧(0 < y.n→∀ a,y.A=some a→v.ownBlock≠some a.block∧a.block < w.heap.size):=by
  rcases List.mem_append.1 hy with hy | hy
  ·exact h.2 y hy
  ·rw [List.mem_singleton] at hy;subst hy;exact ⟨hx,hn⟩
 refine ⟨WdsIn.grown key.1 hg (fun hp a ha=>(key.2 hp a ha).1),fun hp a ha=>⟨fun e=>?_,Nat.lt_of_lt_of_le (key.2 hp a ha).2 hg.size⟩⟩;rcases hv with e2 | e2
 ·exact (key.2 hp a ha).1 (e2.symm.trans e)
 ·have:=(key.2 hp a ha).2;rw [e2] at e;injection e with e;omega
theorem BrOwn.reads (h:BrOwn w B (.slice A n c) xs) (hn:xs.length=n):BrsIn w w.heap.size A n c xs:=by
 have h1:=h.1;rw [hn] at h1;obtain ⟨A',c',e,h2,h3⟩:=ownG_form h1;injection e with e1 e2 e3;subst e1 e3;exact ⟨hn,h2,h3,Row.of_own h1,fun x hx=>(h.2 x hx).1⟩
theorem BrOwn.made (w:World):BrOwn (w.alloc (.cells #[] 34)) w.heap.size (.slice (some ⟨w.heap.size,0,none⟩) 0 0) [] :=
 ⟨World.ownsRow_made w #[] 0 (Nat.le_refl _) (by simp) (by simp),by simp⟩
end
end Go.Proofs.YtbkhnljaajajiaaGreatDoor
