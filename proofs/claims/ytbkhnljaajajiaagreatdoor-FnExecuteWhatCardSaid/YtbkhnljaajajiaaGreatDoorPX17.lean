/-
  Contracts and plain laws that the proofs lean on. Conditions: as each says.
-/
import Derived.Test.YtbkhnljaajajiaaGreatDoorPX13
import Derived.Shelf.Abstract
set_option maxRecDepth 100000
set_option linter.unusedSimpArgs false
set_option linter.unusedVariables false
set_option linter.unnecessarySimpa false
namespace Go.Proofs.YtbkhnljaajajiaaGreatDoor
open Go.ChangeShapes Go.WideShapes Go.ChangeAt Go.RowKit
theorem MrsIn.cells {w W:World} {n c k b off:Nat} {xs:List Mr} (h:MrsIn w w.heap.size (some ⟨b,off,none⟩) n c xs) (hk:k < n) (hW:Below w.heap.size w W) :
  W.cell? ⟨b,off+k * 3,none⟩=some (.int .i64 ((mrAt xs k).at_:Int))∧W.cell? ⟨b,off+k * 3+1,none⟩=some (.int .i64 ((mrAt xs k).cut:Int))∧W.cell? ⟨b,off+k * 3+2,none⟩=some (.slice (mrAt xs k).A (mrAt xs k).n (mrAt xs k).c)∧MrIn W W.heap.size (mrAt xs k):=by
 obtain ⟨b',off',e',_,p0,p1,p2,p3⟩:=(h.keep hW).at_ hk;obtain ⟨rfl,rfl⟩:b'=b∧off'=off:=(by injection e' with e';injection e' with e1 e2;exact ⟨e1.symm,e2.symm⟩);exact ⟨p0,p1,p2,p3⟩
end Go.Proofs.YtbkhnljaajajiaaGreatDoor
namespace Go.Proofs.YtbkhnljaajajiaaGreatDoor
open Go.ChangeShapes Go.WideShapes Go.ChangeAt Go.RowKit Go.Shelf
def FirstMk (p:Mr→Bool) (ys:List Mr) (r:Int):Prop :=
 (r = -1∧∀ j,j < ys.length→p (mrAt ys j)=false)∨∃ k:Nat,r=k∧k < ys.length∧p (mrAt ys k)=true
theorem FirstMk.any {p:Mr→Bool} {ys:List Mr} {r:Int} (h:FirstMk p ys r):decide (0≤r)=ys.any p:=by
 rcases h with ⟨rfl,h⟩ | ⟨k,rfl,hk,h⟩
 ·symm
  rw [decide_eq_false (by omega),List.any_eq_false];intro x hx;obtain ⟨j,hj,rfl⟩:=List.getElem_of_mem hx;have:=mrAt_some (xs:=ys) hj;rw [List.getElem?_eq_getElem hj] at this;injection this with this;rw [this,h j hj];simp
 ·symm
  rw [decide_eq_true (by omega),List.any_eq_true];exact ⟨_,mrAt_mem hk,h⟩
end Go.Proofs.YtbkhnljaajajiaaGreatDoor
namespace Go.Proofs.YtbkhnljaajajiaaGreatDoor
open Go.ChangeShapes Go.WideShapes Go.ChangeAt Go.RowKit
def swp (D:List Mr) (j:Nat):List Mr:=(D.set (j+1) (mrAt D j)).set j (mrAt D (j+1))
theorem mrAt_get {xs:List Mr} {i:Nat} (h:i < xs.length):xs[i]=mrAt xs i:=by
 have:=mrAt_some h;rw [List.getElem?_eq_getElem h] at this;injection this
theorem mrAt_set {xs:List Mr} {i j:Nat} {x:Mr} (hi:i < xs.length):mrAt (xs.set i x) j=if j=i then x else mrAt xs j:=by
 unfold mrAt;rw [List.getD_eq_getElem?_getD,List.getElem?_set];by_cases h:i=j
 ·subst h;rw [if_pos rfl,if_pos hi,if_pos rfl];rfl
 ·rw [if_neg h,if_neg (Ne.symm h),List.getD_eq_getElem?_getD]
theorem swp_at {D:List Mr} {j:Nat} (hj:j+1 < D.length) (k:Nat):mrAt (swp D j) k=if k=j then mrAt D (j+1) else if k=j+1 then mrAt D j else mrAt D k:=by
 unfold swp;rw [mrAt_set (by rw [List.length_set];omega),mrAt_set hj]
def Inn (D:List Mr) (i j:Nat):Prop :=
 (∀ p q,p < q→q≤i→p≠j→q≠j→(mrAt D p).at_≤(mrAt D q).at_)∧(∀ q,j < q→q≤i→(mrAt D j).at_≤(mrAt D q).at_)
def Outr (D:List Mr) (i:Nat):Prop:=∀ p q,p < q→q < i→(mrAt D p).at_≤(mrAt D q).at_
theorem Inn.start {D:List Mr} {i:Nat} (h:Outr D i):Inn D i i:=⟨fun p q hpq hq hp hq2=>h p q hpq (by omega),fun q h1 h2=>by omega⟩
theorem Inn.step {D:List Mr} {i j:Nat} (hD:i < D.length) (hji:j+1≤i) (h:Inn D i (j+1)) (hlt:(mrAt D (j+1)).at_ < (mrAt D j).at_):Inn (swp D j) i j:=by
 have hj:j+1 < D.length:=(by omega);constructor
 ·intro p q hpq hq hp hq2;rw [swp_at hj,swp_at hj,if_neg hp,if_neg hq2];by_cases e1:p=j+1
  ·rw [if_pos e1,if_neg (by omega)];exact h.1 j q (by omega) hq (by omega) (by omega)
  ·rw [if_neg e1];by_cases e2:q=j+1
   ·rw [if_pos e2];exact h.1 p j (by omega) (by omega) (by omega) (by omega)
   ·rw [if_neg e2];exact h.1 p q hpq hq e1 e2
 ·intro q h1 h2;rw [swp_at hj,swp_at hj,if_pos rfl,if_neg (by omega)];by_cases e2:q=j+1
  ·rw [if_pos e2];omega
  ·rw [if_neg e2];exact h.2 q (by omega) h2
end Go.Proofs.YtbkhnljaajajiaaGreatDoor
