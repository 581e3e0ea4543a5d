/-
  Contracts and plain laws that the proofs lean on. Conditions: as each says.
-/
import Derived.Test.YtbkhnljaajajiaaGreatDoorPExecuteTwice00
set_option maxRecDepth 100000
set_option linter.unusedSimpArgs false
set_option linter.unusedVariables false
set_option linter.unnecessarySimpa false
namespace Go.Proofs.YtbkhnljaajajiaaGreatDoor
open Go.ChangeShapes Go.WideShapes Go.ChangeAt Go.RowKit
def tw1:Wd:=[108,101,116,116,101,114,115,10]
def tw2:Wd:=[108,101,116,116,101,114,115,10,108,101,116,116,101,114,115,10]
structure TwoIn (l bl ol la:Wd):Prop where
 e1:exec l=bl++la
 e2:lastL (bl++la)=la
 e3:exec (l++tw1)=bl++ol++la
 e4:exec (l++tw2)=bl++ol++ol++la
 n1:bl.length+la.length≤1000000000
 n2:bl.length+ol.length+la.length≤1000000000
 n3:15≤la.length
 x1:(mkStr (bl++la)).extract 0 bl.length=mkStr bl
 x2:(mkStr (bl++ol++la)).extract bl.length (bl.length+ol.length)=mkStr ol
theorem two_parts {l:Wd} (hw:whole l) (h:l.length≤480) : ∃ bl ol la:Wd,TwoIn l bl ol la:=by
 obtain ⟨bl,ol,la,h1,h2,h3,h4⟩:=exec_twice hw h;have hel:=exec_len l;have hel2:=exec_len (l++(cLetters++[10]));have hll:=exec_lastlen (l:=l) (by omega);rw [h2] at hll;rw [h1,List.length_append] at hel;rw [h3,List.length_append,List.length_append] at hel2;refine ⟨bl,ol,la,h1,by rw [← h1];exact h2,h3,h4,hel,hel2,hll.1,?_,?_⟩
 ·rw [ext_mid (mkStr (bl++la)) 0 bl.length,mkStr_data,List.drop_zero,List.take_left' rfl]
 ·rw [ext_mid (mkStr (bl++ol++la)) bl.length (bl.length+ol.length),mkStr_data,List.take_left' (by rw [List.length_append]),List.drop_left' rfl]
end Go.Proofs.YtbkhnljaajajiaaGreatDoor
