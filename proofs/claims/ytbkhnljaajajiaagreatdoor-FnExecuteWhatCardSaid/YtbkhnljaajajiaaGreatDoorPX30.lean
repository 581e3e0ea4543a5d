/-
  Contracts and plain laws that the proofs lean on. Conditions: as each says.
-/
import Derived.Test.YtbkhnljaajajiaaGreatDoorPX25
import Derived.Test.YtbkhnljaajajiaaGreatDoorPX28
import Derived.Test.YtbkhnljaajajiaaGreatDoorPX29
set_option maxRecDepth 100000
set_option linter.unusedSimpArgs false
set_option linter.unusedVariables false
set_option linter.unnecessarySimpa false
namespace Go.Proofs.YtbkhnljaajajiaaGreatDoor
open Go.ChangeShapes Go.WideShapes Go.ChangeAt Go.RowKit
theorem SgAns.one {w':World} {B:Nat} {o:Option (List Sg)} {e:Ending} (h:SgAns w' B o e) : ∃ A n c t,e = .returned (.tuple #[.slice A n c,.bool t])∧Hid ((t=false∧o=none)∨(t=true∧∃ xs,o=some xs∧xs.length=n∧SgOwn w' B (.slice A n c) xs∧∀ x∈xs,x.st.good)):=by
 rcases h with ⟨ho,A,c,rfl⟩ | ⟨A,c,xs,ho,rfl,hO,hg⟩
 ·exact ⟨A,0,c,false,rfl,uH (.inl ⟨rfl,ho⟩)⟩
 ·exact ⟨A,xs.length,c,true,rfl,uH (.inr ⟨rfl,xs,ho,rfl,hO,hg⟩)⟩
theorem BrOwn.congr {w w':World} {B:Nat} {v:Value} {xs:List Br} (h:BrOwn w B v xs) (hN:BrNew B xs) (hs:w'.heap.size=w.heap.size) (hh : ∀ g,B≤g→w'.heap[g]? = w.heap[g]?):BrOwn w' B v xs :=
 ⟨ownG_congr h.1 (fun g hg=>hh g (ownG_base h.1 hg)),fun x hx=>by
  obtain ⟨h1,h2⟩:=h.2 x hx;refine ⟨⟨h1.1,h1.2.1,h1.2.2.1,h1.2.2.2.1,fun hn=>?_⟩,fun hp a ha=>⟨(h2 hp a ha).1,by rw [hs];exact (h2 hp a ha).2⟩⟩;obtain ⟨g,off,e,hg,hc⟩:=h1.2.2.2.2 hn;refine ⟨g,off,e,by rw [hs];exact hg,fun j u hu=>?_⟩;have h3:=hc j u hu;unfold World.cell? at h3 ⊢;rw [show w'.heap[(⟨g,off+j,none⟩:Addr).block]? = w.heap[(⟨g,off+j,none⟩:Addr).block]? from hh g (hN x hx ⟨g,off,none⟩ e)];exact h3⟩
theorem BrOwn.low {w:World} {B B':Nat} {v:Value} {xs:List Br} (hB:B'≤B) (h:BrOwn w B v xs):BrOwn w B' v xs:=⟨ownG_mono h.1 hB,h.2⟩
theorem AddAns.one {w':World} {B:Nat} {o:Option (List Bf)} {e:Ending} (h:AddAns w' B o e) : ∃ A n c t,e = .returned (.tuple #[.slice A n c,.bool t])∧Hid ((t=false∧o=none)∨(t=true∧∃ xs:List Br,o=some (xs.map Br.dat)∧xs.length=n∧BrOwn w' B (.slice A n c) xs∧BrNew B xs)):=by
 rcases h with ⟨ho,A,c,rfl⟩ | ⟨A,c,xs,ho,rfl,hO,hN⟩
 ·exact ⟨A,0,c,false,rfl,uH (.inl ⟨rfl,ho⟩)⟩
 ·exact ⟨A,xs.length,c,true,rfl,uH (.inr ⟨rfl,xs,ho,rfl,hO,hN⟩)⟩
theorem num_wf {d:Int} (h:0≤d∧d≤99999):(Lit.int .i64 d).wf=true:=by
 have m1:IntKind.i64.min = -9223372036854775808:=(by decide);have m2:IntKind.i64.max=9223372036854775807:=by decide
 show (decide (IntKind.i64.min≤d) && decide (d≤IntKind.i64.max))=true
 rw [Bool.and_eq_true,decide_eq_true_iff,decide_eq_true_iff,m1,m2];omega
theorem FileAns.one {w':World} {B:Nat} {o:Option (List (List Pad))} {e:Ending} (h:FileAns w' B o e) : ∃ A n c t,e = .returned (.tuple #[.slice A n c,.bool t])∧Hid ((t=false∧o=none)∨(t=true∧∃ ds:List Drawer,o=some (ds.map (·.ps))∧ds.length=n∧CabOwn w' B (.slice A n c) ds)):=by
 rcases h with ⟨ho,A,c,rfl,_⟩ | ⟨A,c,xs,ho,rfl,hO⟩
 ·exact ⟨A,0,c,false,rfl,uH (.inl ⟨rfl,ho⟩)⟩
 ·exact ⟨A,xs.length,c,true,rfl,uH (.inr ⟨rfl,xs,ho,rfl,hO⟩)⟩
end Go.Proofs.YtbkhnljaajajiaaGreatDoor
