/-
  Contracts and plain laws that the proofs lean on. Conditions: as each says.
-/
import Derived.Test.YtbkhnljaajajiaaGreatDoorPX11
set_option maxRecDepth 100000
set_option linter.unusedSimpArgs false
set_option linter.unusedVariables false
set_option linter.unnecessarySimpa false
namespace Go.Proofs.YtbkhnljaajajiaaGreatDoor
theorem dec_bytes : ∀ (n:Nat),∀ b∈Lib.decDigits n,48≤b.toNat∧b.toNat≤57:=by
 intro n;induction n using Nat.strongRecOn with
 | _ n ih =>
  intro b hb;rw [Lib.decDigits] at hb;split at hb
  ·have hb:=List.mem_singleton.1 hb;rw [hb,UInt8.toNat_ofNat'];omega
  ·rcases List.mem_append.1 hb with hb | hb
   ·exact ih (n / 10) (by omega) b hb
   ·have hb:=List.mem_singleton.1 hb;rw [hb,UInt8.toNat_ofNat'];omega
end Go.Proofs.YtbkhnljaajajiaaGreatDoor
