/-
  Contracts and plain laws that the proofs lean on. Conditions: as each says.
-/
import Derived.Test.YtbkhnljaajajiaaGreatDoorPX20
import Derived.Test.YtbkhnljaajajiaaGreatDoorPX22
set_option maxRecDepth 100000
set_option linter.unusedSimpArgs false
set_option linter.unusedVariables false
set_option linter.unnecessarySimpa false
namespace Go.Proofs.YtbkhnljaajajiaaGreatDoor
open Go.ChangeShapes Go.WideShapes Go.ChangeAt Go.RowKit Go.Shelf
theorem dedup_snoc (L:List Mk) (m:Mk) : ∀ acc,dedup acc (L++[m])=if m∈dedup acc L then dedup acc L else dedup acc L++[m]:=by
 induction L with
 | nil=>intro acc;rfl
 | cons x r ih =>
  intro acc;rw [List.cons_append,dedup,dedup];by_cases h:x∈acc
  ·rw [if_pos h,if_pos h,ih]
  ·rw [if_neg h,if_neg h,ih]
theorem take_mr {xs:List Mr} {k:Nat} (hk:k < xs.length):(xs.take (k+1)).map Mr.dat=(xs.take k).map Mr.dat++[(mrAt xs k).dat]:=by
 rw [List.take_succ_eq_append_getElem hk,List.map_append,mrAt_get hk];rfl
def Ded (zs:List Mr) (k:Nat) (D:List Mr):Prop:=D.map Mr.dat=dedup [] ((zs.take k).map Mr.dat)
theorem Ded.zero (zs:List Mr):Ded zs 0 []:=rfl
theorem any_dat {D:List Mr} {x:Mr}:(D.any fun y=>decide (x.dat=y.dat))=true ↔ x.dat∈D.map Mr.dat:=by
 rw [List.any_eq_true,List.mem_map];constructor
 ·rintro ⟨y,hy,h⟩;exact ⟨y,hy,(of_decide_eq_true h).symm⟩
 ·rintro ⟨y,hy,h⟩;exact ⟨y,hy,decide_eq_true h.symm⟩
theorem Ded.new {zs D:List Mr} {y:Mr} {k:Nat} (h:Ded zs k D) (hk:k < zs.length) (ha:(D.any fun y=>decide ((mrAt zs k).dat=y.dat))=false) (hy:y.dat=(mrAt zs k).dat):Ded zs (k+1) (D++[y]):=by
 unfold Ded at *;rw [take_mr hk,dedup_snoc,← h,if_neg (fun e=>by rw [any_dat.2 e] at ha;cases ha),List.map_append];simp [hy]
theorem Ded.len {zs D:List Mr} {k:Nat} (h:Ded zs k D) (hk:k≤zs.length):D.length≤k:=by
 have h1:=dedup_len ((zs.take k).map Mr.dat) [];unfold Ded at h;rw [← h,List.length_map,List.length_map,List.length_take] at h1;simp at h1;omega
end Go.Proofs.YtbkhnljaajajiaaGreatDoor
