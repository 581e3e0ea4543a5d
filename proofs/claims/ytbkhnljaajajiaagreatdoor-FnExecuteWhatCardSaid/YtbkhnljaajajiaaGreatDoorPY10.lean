/-
  Contracts and plain laws that the proofs lean on. Conditions: as each says.
-/
import Derived.Test.YtbkhnljaajajiaaGreatDoorPY04
import Derived.Test.YtbkhnljaajajiaaGreatDoorPY05
import Derived.Test.YtbkhnljaajajiaaGreatDoorPY06
import Derived.Test.YtbkhnljaajajiaaGreatDoorPY07
import Derived.Test.YtbkhnljaajajiaaGreatDoorPY08
import Derived.Test.YtbkhnljaajajiaaGreatDoorPY09
set_option maxRecDepth 100000
set_option linter.unusedSimpArgs false
set_option linter.unusedVariables false
set_option linter.unnecessarySimpa false
namespace Go.Proofs.YtbkhnljaajajiaaGreatDoor
open Go.ChangeShapes Go.WideShapes Go.ChangeAt Go.RowKit
def stVal9 (h:Hd):Array Value:=#[.slice h.A1 h.n1 h.c1,.slice h.A2 h.n2 h.c2,.slice h.A3 h.n3 h.c3,.slice h.A4 h.n4 h.c4]
theorem specLine (h:Hd) (A:Option Addr) (n c:Nat) (ws:List Wd) (w:World) (h1:1≤n) (h6:n≤600) (ok:h.st.ok) (hWl : ∀ l∈ws,l.length≤600) (H:StIn w h) (hw:WdsIn w w.heap.size A n c ws) :
  Calls Tryz.prog 54 #[.agg (stVal9 h),.slice A n c] w fun e w'=>LineAns w w' h A n c ws (lineS h.st ws) e∧Below w.heap.size w w':=by
 obtain ⟨A1,n1,c1,A2,n2,c2,A3,n3,c3,A4,n4,c4,sys,xs,sp,ds⟩:=h;by_cases g0:wdAt ws 0=cSign
 ·by_cases e:n=3
  ·subst e;exact l9LineSign A1 A2 A3 A4 n1 c1 n2 c2 n3 c3 n4 c4 sys xs sp ds A c ws w g0 ok hWl H hw
  ·exact l9LineAskSign A1 A2 A3 A4 n1 c1 n2 c2 n3 c3 n4 c4 sys xs sp ds A n c ws w g0 e h1 ok hWl H hw
 by_cases g1:wdAt ws 0=cBrief
 ·by_cases e:3≤n
  ·exact l9LineBrief A1 A2 A3 A4 n1 c1 n2 c2 n3 c3 n4 c4 sys xs sp ds A n c ws w g1 e h6 ok hWl H hw
  ·exact l9LineAskBrief A1 A2 A3 A4 n1 c1 n2 c2 n3 c3 n4 c4 sys xs sp ds A n c ws w g1 (by omega) h1 ok hWl H hw
 by_cases g2:wdAt ws 0=cSpeech
 ·exact l9LineSpeech A1 A2 A3 A4 n1 c1 n2 c2 n3 c3 n4 c4 sys xs sp ds A n c ws w g2 h1 hWl hw
 by_cases g3:wdAt ws 0=cFile
 ·by_cases e:n=3
  ·subst e;exact l9LineFile A1 A2 A3 A4 n1 c1 n2 c2 n3 c3 n4 c4 sys xs sp ds A c ws w g3 ok hWl H hw
  ·exact l9LineAskFile A1 A2 A3 A4 n1 c1 n2 c2 n3 c3 n4 c4 sys xs sp ds A n c ws w g3 e h1 ok hWl H hw
 by_cases g4:wdAt ws 0=cClear
 ·by_cases e:n=2
  ·subst e;exact l9LineClear A1 A2 A3 A4 n1 c1 n2 c2 n3 c3 n4 c4 sys xs sp ds A c ws w g4 ok hWl H hw
  ·exact l9LineAskClear A1 A2 A3 A4 n1 c1 n2 c2 n3 c3 n4 c4 sys xs sp ds A n c ws w g4 e h1 ok hWl H hw
 ·exact l9LineAskNone A1 A2 A3 A4 n1 c1 n2 c2 n3 c3 n4 c4 sys xs sp ds A n c ws w g0 g1 g2 g3 g4 h1 ok hWl H hw
end Go.Proofs.YtbkhnljaajajiaaGreatDoor
