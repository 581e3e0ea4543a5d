/-
  Contracts and plain laws that the proofs lean on. Conditions: as each says.
-/
import Derived.Test.YtbkhnljaajajiaaGreatDoorPX02
set_option maxRecDepth 100000
set_option linter.unusedSimpArgs false
set_option linter.unusedVariables false
set_option linter.unnecessarySimpa false
namespace Go.Proofs.YtbkhnljaajajiaaGreatDoor
open Go.ChangeShapes Go.WideShapes Go.ChangeAt Go.RowKit
def natP (i:Nat):Value:=.int .i64 (i:Int)
def NatOwn (w:World) (B:Nat) (v:Value) (is:List Nat):Prop:=w.ownsRow B 3 1 v is.length (is.map natP)
theorem natOwn_at {w:World} {B n c k:Nat} {A:Option Addr} {is:List Nat} (h:NatOwn w B (.slice A n c) is) (hn:is.length=n) (hk:k < n) :
  ∃ g,A=some ⟨g,0,none⟩∧w.cell? ⟨g,k,none⟩=some (natP (is.getD k 0))∧B≤g∧g < w.heap.size:=by
 unfold NatOwn at h;rw [hn] at h;rcases h.2 with ⟨_,h0⟩ | ⟨g,cap,cur,e,hB,hg,h1,h2,h3,h4⟩
 ·omega
 ·injection e with e1 e2 e3;subst e1;refine ⟨g,rfl,?_,hB,Blk.lt (w:=w) (t:=3) hg⟩;rw [Blk.cell (w:=w) (t:=3) hg k];have hu:(is.map natP)[k]? = some (natP (is.getD k 0)):=(by rw [List.getElem?_map,List.getD_eq_getElem?_getD,List.getElem?_eq_getElem (by omega)];rfl);rw [← h4,List.getElem?_take_of_lt (by omega)] at hu;simpa using hu
def IdxAns (w':World) (B:Nat) (is:List Nat) (e:Ending):Prop:=∃ A c,e = .returned (.slice A is.length c)∧NatOwn w' B (.slice A is.length c) is
end Go.Proofs.YtbkhnljaajajiaaGreatDoor
