/-
  Contracts and plain laws that the proofs lean on. Conditions: as each says.
-/
import Derived.Test.YtbkhnljaajajiaaGreatDoorPX07
import Derived.Test.YtbkhnljaajajiaaGreatDoorPX11
import Derived.Test.YtbkhnljaajajiaaGreatDoorPX13
set_option maxRecDepth 100000
set_option linter.unusedSimpArgs false
set_option linter.unusedVariables false
set_option linter.unnecessarySimpa false
namespace Go.Proofs.YtbkhnljaajajiaaGreatDoor
open Go.ChangeShapes Go.WideShapes Go.ChangeAt Go.RowKit
theorem RdIn.alloc' {w:World} {B g lim:Nat} (h:RdIn w B g lim) (o:Obj):RdIn (w.alloc o) B g lim:=h.below ((Below.refl _ _).alloc (Nat.le_refl _) o)
theorem RdIn.set' {w:World} {B g lim:Nat} (h:RdIn w B g lim) {p:Addr} (hp:p.block≠g) (hB:B≤p.block) (u:Value):RdIn (w.setCell p u) B g lim:=by
 obtain ⟨A,n,c,bs,q,h1,h2,h3,h4,h5⟩:=h;exact ⟨A,n,c,bs,q,(Below.heap_setCell w p u g (Ne.symm hp)).trans h1,h2,h3,h4.keep (fun x hx=>World.cell?_setCell_other w _ x _ (fun e=>by subst e;omega)),h5⟩
theorem grown_drew {w w':World} {g:Nat} (h:w.grownBy w' (some g)):w.grownBy w'.drew (some g):=only_drewN h 1
theorem pickR {n:Int} {g B lim:Nat} {w:World} (hr:RdIn w B g lim) (hl:lim≤1000000000) (hn0:0 < n) (hn:n≤1000000) :
  Calls Tryz.prog 43 #[.pointer (some ⟨g,0,none⟩),.int .i64 n] w fun e w'=>∃ m:Nat,e = .returned (.int .i64 (m:Int))∧(m:Int) < n∧w.grownBy w' (some g)∧RdIn w' B g (lim+1) :=
 (pick n g B lim w (by omega) hn hl hr).mono (by
  rintro e w' ⟨m,rfl,h0,h1,h2,h3⟩;obtain ⟨k,rfl⟩:=Int.eq_ofNat_of_zero_le h0;exact ⟨k,rfl,by omega,h2,h3⟩)
theorem ofNew (g B lim n:Nat) (ss:List ByteArray) (cs:Array Value) (t:TypeId) (w:World) (hcs:cs=(ss.map Value.string).toArray) (hn:n=ss.length) (hn0:0 < n) (hn1:n≤1000) (hss : ∀ s∈ss,s.size≤40) (hl:lim≤1000000000) (hr:RdIn w B g lim) :
  Calls Tryz.prog 96 #[.pointer (some ⟨g,0,none⟩),.slice (some ⟨w.heap.size,0,none⟩) n n] (w.alloc (.cells cs t)) fun e w'=>∃ l:List UInt8,l.length≤40∧e = .returned (.string (mkStr l))∧w.grownBy w' (some g)∧RdIn w' B g (lim+1):=by
 have hg:=hr.lt;refine (pickOf w.heap.size g B lim n n ss _ hn hn0 hn1 hl (hr.alloc' _) (StrsAt.new w _ _ _ hcs) (by omega)).mono ?_;rintro e w' ⟨s,hs,rfl,h1,h2⟩;exact ⟨s.data.toList,by have:=hss s hs;simpa using this,by rw [mkStr_self],only_next (World.grownBy_alloc w _ _) h1,h2⟩
theorem RdIn.far {w w':World} {B g lim:Nat} {row:Option Nat} (h:RdIn w B g lim) (hg:w.grownBy w' row) (h1 : ∀ q,row=some q→q≠g∧B≤q) (hB:B≤w.heap.size):RdIn w' B g lim:=by
 obtain ⟨A,n,c,bs,p,e1,e2,e3,e4,e5⟩:=h;refine ⟨A,n,c,bs,p,?_,e2,e3,e4.keep (fun q hq=>?_),e5⟩
 ·have hlt:g < w.heap.size:=by
   rcases Nat.lt_or_ge g w.heap.size with hlt | hge
   ·exact hlt
   ·rw [Array.getElem?_eq_none hge] at e1;cases e1
  exact (hg.block g hlt (fun e=>(h1 g e.symm).1 rfl)).trans e1
 ·exact World.cell?_of_block (hg.block q.block (by omega) (fun e=>by have:=(h1 q.block e.symm).2;omega))
def SmallS (s:Stroke):Prop:=-1≤s.dir∧s.dir≤8∧-1≤s.size∧s.size≤8
theorem SmallS.good {s:Stroke} (h:SmallS s):s.good:=by
 obtain ⟨h1,h2,h3,h4⟩:=h;constructor <;> (show (decide (IntKind.i64.min≤_) && decide (_≤IntKind.i64.max))=true;rw [show IntKind.i64.min = -9223372036854775808 from rfl,show IntKind.i64.max=9223372036854775807 from rfl,decide_eq_true (by omega),decide_eq_true (by omega)];rfl)
def TabB (w:World) (b:Nat):Prop:=b < w.heap.size∧∀ m,m < 3→∃ v:Int,w.cell? ⟨b,m,none⟩=some (.int .i64 v)∧-1≤v∧v≤8
theorem TabB.alloc {w:World} {b:Nat} (h:TabB w b) (o:Obj):TabB (w.alloc o) b:=⟨by have:=h.1;simp;omega,fun m hm=>by obtain ⟨v,h2⟩:=h.2 m hm;exact ⟨v,by rw [World.cell?_alloc_lt _ _ _ h.1];exact h2⟩⟩
theorem TabB.drew {w:World} {b:Nat} (h:TabB w b):TabB w.drew b:=h
theorem TabB.only {w w':World} {b g:Nat} (h:TabB w b) (hg:w.grownBy w' (some g)) (hne:b≠g):TabB w' b:=⟨Nat.lt_of_lt_of_le h.1 hg.size,fun m hm=>by obtain ⟨v,h2,h3⟩:=h.2 m hm;exact ⟨v,ocell hg h2 hne,h3⟩⟩
def DrS (w w':World) (B g lim:Nat):Prop:=RdIn w' B g lim∧Blk w' w.heap.size 63 #[.int .i64 0,.int .i64 0]∧w.grownBy w' (some g)∧g < w.heap.size
theorem DrS.alloc {w w':World} {B g lim:Nat} (h:DrS w w' B g lim) (o:Obj):DrS w (w'.alloc o) B g lim:=⟨h.1.alloc' o,h.2.1.alloc o,only_alloc h.2.2.1 o,h.2.2.2⟩
theorem DrS.drew {w w':World} {B g lim:Nat} (h:DrS w w' B g lim):DrS w w'.drew B g lim:=⟨h.1,h.2.1,grown_drew h.2.2.1,h.2.2.2⟩
theorem DrS.cells {w w':World} {B g lim:Nat} (h:DrS w w' B g lim):w'.cell? ⟨w.heap.size,0,none⟩=some (.int .i64 0)∧w'.cell? ⟨w.heap.size,1,none⟩=some (.int .i64 0)∧w'.frozen? ⟨w.heap.size,0,none⟩=false∧w'.frozen? ⟨w.heap.size,1,none⟩=false:=h.2.1.two
def IsTab (w:World) (g:Nat) (v:Value):Prop:=∃ b,v = .slice (some ⟨b,0,none⟩) 3 3∧TabB w b∧b≠g
def IsAt (w:World) (g:Nat) (v:Value):Prop:=∃ b m,v = .pointer (some ⟨b,m,none⟩)∧m < 3∧TabB w b∧b≠g
theorem IsTab.turn {w w':World} {g:Nat} {v:Value} (h:IsTab w g v) (hw : ∀ b,b≠g→TabB w b→TabB w' b):IsTab w' g v:=by
 obtain ⟨b,e,h1,h2⟩:=h;exact ⟨b,e,hw b h2 h1,h2⟩
theorem IsAt.turn {w w':World} {g:Nat} {v:Value} (h:IsAt w g v) (hw : ∀ b,b≠g→TabB w b→TabB w' b):IsAt w' g v:=by
 obtain ⟨b,m,e,h0,h1,h2⟩:=h;exact ⟨b,m,e,h0,hw b h2 h1,h2⟩
theorem strOwn_only {w w':World} {B g:Nat} {v:Value} {ss:List Stroke} (h:StrOwn w B v ss) (hg:w.grownBy w' (some g)) (hB:g < B):StrOwn w' B v ss :=
 ownG_congr h fun b hb=>hg.block b (ownG_lt h hb) (fun e=>by injection e with e;have:=ownG_base h hb;omega)
theorem flat_at0 : ∀ {ss:List Stroke} {k:Nat},k < ss.length→(ss.flatMap stC)[k * 2]? = some (.int .i64 (strokeAt ss k).dir)∧(ss.flatMap stC)[k * 2+1]? = some (.int .i64 (strokeAt ss k).size)
 | [],_,h=>by cases h
 | s::r,0,_=>⟨rfl,rfl⟩
 | s::r,k+1,h=>by
  have ih:=flat_at0 (ss:=r) (k:=k) (by simpa using h);rw [strokeAt_cons];refine ⟨?_,?_⟩
  ·rw [List.flatMap_cons,show (k+1) * 2=(stC s).length+k * 2 by rw [stC_len];omega,List.getElem?_append_right (by omega)];simpa using ih.1
  ·rw [List.flatMap_cons,show (k+1) * 2+1=(stC s).length+(k * 2+1) by rw [stC_len];omega,List.getElem?_append_right (by omega)];simpa using ih.2
def SmOwn (w:World) (B N:Nat) (v:Value):Prop:=∃ ss:List Stroke,ss.length=N∧StrOwn w B v ss∧∀ s∈ss,SmallS s
theorem SmOwn.cells {w:World} {B N gb k:Nat} {v:Value} (h:SmOwn w B N v) (hb:v.ownBlock=some gb) (hk:k < N) : ∃ d z:Int,w.cell? ⟨gb,k * 2,none⟩=some (.int .i64 d)∧w.cell? ⟨gb,k * 2+1,none⟩=some (.int .i64 z)∧w.frozen? ⟨gb,k * 2,none⟩=false∧w.frozen? ⟨gb,k * 2+1,none⟩=false∧-1≤d∧d≤8∧-1≤z∧z≤8:=by
 obtain ⟨ss,hl,hO,hS⟩:=h;have hk':k < ss.length:=(by omega);obtain ⟨h0,h1⟩:=flat_at0 hk';obtain ⟨c0,f0⟩:=own_cell hO hb h0;obtain ⟨c1,f1⟩:=own_cell hO hb h1;have:=hS _ (strokeAt_mem hk');unfold SmallS at this;exact ⟨_,_,c0,c1,f0,f1,this.1,this.2.1,this.2.2.1,this.2.2.2⟩
theorem SmOwn.only {w w':World} {B N g:Nat} {v:Value} (h:SmOwn w B N v) (hg:w.grownBy w' (some g)) (hB:g < B):SmOwn w' B N v:=by
 obtain ⟨ss,hl,hO,hS⟩:=h;exact ⟨ss,hl,strOwn_only hO hg hB,hS⟩
end Go.Proofs.YtbkhnljaajajiaaGreatDoor
