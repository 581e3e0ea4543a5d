/-
  Contracts and plain laws that the proofs lean on. Conditions: as each says.
-/
import Derived.Test.YtbkhnljaajajiaaGreatDoorPExecuteCabinet03
import Derived.Test.YtbkhnljaajajiaaGreatDoorPExecuteCabinet04
import Derived.Test.YtbkhnljaajajiaaGreatDoorPExecuteCabinet05
set_option maxRecDepth 100000
set_option linter.unusedSimpArgs false
set_option linter.unusedVariables false
set_option linter.unnecessarySimpa false
namespace Go.Proofs.YtbkhnljaajajiaaGreatDoor
open Go.ChangeShapes Go.WideShapes Go.ChangeAt Go.RowKit
theorem ins_perm (l:List Pad) (p:Pad) (a:Nat):(ins l p a).Perm (p::l):=by
 unfold ins;have h:=List.perm_middle (a:=p) (l₁:=l.take a) (l₂:=l.drop a)
 rwa [List.take_append_drop] at h
theorem turned_perm {css:List (List Pad)} {d a:Nat} {p:Pad} (hd:d < css.length):(turned css d (ins (drw css d) p a)).flatten.Perm (p::css.flatten):=by
 rw [turned_flat,css_flat hd];have h1:=(ins_perm (drw css d) p a).append_right (css.drop (d+1)).flatten;have h2:=h1.append_left (css.take d).flatten;refine h2.trans ?_;rw [List.cons_append];exact List.perm_middle
theorem turned_len {css:List (List Pad)} {d:Nat} {f:List Pad} (hd:d < css.length):(turned css d f).length=css.length∨(turned css d f).length=css.length+1:=by
 unfold turned;split
 ·right;simp;omega
 ·left;simp;omega
theorem file_cases {css css':List (List Pad)} {p:Pad} (h:fileO css p=some css'):cabOK css∧okP p=true∧findO css p=none∧cabOK css'∧css'.flatten.Perm (p::css.flatten)∧(css'.length=css.length∨css'.length=css.length+1):=by
 have hok:=fileO_ok h;rcases fileO_cases css p with ⟨_,h1⟩ | ⟨_,_,h1⟩ | ⟨_,_,_,h1⟩ | ⟨hc,hp,hf,h1⟩
 ·rw [h1] at h;cases h
 ·rw [h1] at h;cases h
 ·rw [h1] at h;cases h
 ·refine ⟨hc,hp,hf,hok,?_⟩;rw [h1] at h;cases css with
  | nil=>rw [fileS_nil] at h;injection h with h;subst h;exact ⟨List.Perm.refl _,.inr rfl⟩
  | cons x r =>
   have hd:=drawer_ex hc hf (by simp);have hs:=putIdx_place (p:=p) (sorted_drw hc.2.2 hd.1);rw [fileS_turned hc hf hd hs] at h;split at h
   ·cases h
   ·injection h with h;subst h;exact ⟨turned_perm hd.1,turned_len hd.1⟩
theorem of_perm : ∀ {l:List Pad} {css css':List (List Pad)},ofO css l=some css'→css'.flatten.Perm (l++css.flatten)
 | [],css,css',e=>by injection e with e;subst e;exact List.Perm.refl _
 | p::r,css,css',e=>by
  unfold ofO at e;cases hf:fileO css p with
  | none=>rw [hf] at e;cases e
  | some c =>
   rw [hf] at e;have h1:=of_perm (l:=r) e;have h2:=(file_cases hf).2.2.2.2.1;exact (h1.trans (h2.append_left r)).trans List.perm_middle
theorem of_len {l:List Pad} {css:List (List Pad)} (h:ofO [] l=some css):css.flatten.length=l.length:=by
 have:=(of_perm h).length_eq;simpa using this
end Go.Proofs.YtbkhnljaajajiaaGreatDoor
