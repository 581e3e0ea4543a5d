/-
  DERIVED. GIVEN WITH THE SEED: THE CARDS: each row of YtlphefpgnfogfaaDoorRows.lean that lists a variable, with what it lists TIED to the program's text (the seventh form; the later family's looks); each row that meets fmt, with fmt's text TOLD by the authors' own Lean function (tested against real Go, not proved from fmt's source: count such statements apart). THE CARD IS WHAT COUNTS. Prove the row's statement (the work); the ties are given (YtlphefpgnfogfaaDoorTie.lean); close each card by the builder's one call (the guide's Derived/Test/ToyasCard.lean, 'card_holds'). Laid BY PROGRAM, IN A SANDBOX (cutbox-door.mjs). By AI agents, Wed Nov 11 2026. No macro, syntax, notation, axiom, sorry.
-/
import Derived.Test.YtlphefpgnfogfaaDoorRows
import GoSem.ClaimSeven
namespace Go.Proofs.YtlphefpgnfogfaaDoor
namespace Rows

/-- THE TIED CARD OF 'laws.FnExactCabinetText'. -/
def fnExactCabinetTextCard : Claim7 := { stood := { row := fnExactCabinetTextRow, standIns := [], harness := (true, "99b32249c1bb64c59cda8d3eef52d45d44b905d9b9f12185ea57dbe886aa4b99"), looks := false }, kinds := [], alts := [], laidByText := true, laidKinds := [.data, .data, .data], laidTests := true, laidLooks := .later }
def FnExactCabinetTextCardSaid : Prop := Claim7.holds Tryd.pinned (.plain (OpenSpec.ofChange fnExactCabinetTextSpec)) fnExactCabinetTextCard

/-- THE TIED CARD OF 'laws.FnCabinetText'. -/
def fnCabinetTextCard : Claim7 := { stood := { row := fnCabinetTextRow, standIns := [], harness := (true, "99b32249c1bb64c59cda8d3eef52d45d44b905d9b9f12185ea57dbe886aa4b99"), looks := false }, kinds := [], alts := [], laidByText := true, laidKinds := [.data, .data, .data], laidTests := true, laidLooks := .later }
def FnCabinetTextCardSaid : Prop := Claim7.holds Tryd.pinned (.plain (OpenSpec.ofChange fnCabinetTextSpec)) fnCabinetTextCard

/-- THE SECOND FORM's CARD OF 'laws.FnExactCabinetText'. -/
def fnExactCabinetTextUptoCard : Claim7 := { stood := { row := fnExactCabinetTextUptoRow, standIns := [], harness := (true, "99b32249c1bb64c59cda8d3eef52d45d44b905d9b9f12185ea57dbe886aa4b99"), looks := false }, kinds := [], alts := [], laidByText := true, laidKinds := [.data, .data, .data], laidTests := true, laidLooks := .later }
def FnExactCabinetTextUptoCardSaid : Prop := Claim7.holds Tryd.pinned (.plain (OpenSpec.upto fnExactCabinetTextSpec)) fnExactCabinetTextUptoCard

/-- THE SECOND FORM's CARD OF 'laws.FnCabinetText'. -/
def fnCabinetTextUptoCard : Claim7 := { stood := { row := fnCabinetTextUptoRow, standIns := [], harness := (true, "99b32249c1bb64c59cda8d3eef52d45d44b905d9b9f12185ea57dbe886aa4b99"), looks := false }, kinds := [], alts := [], laidByText := true, laidKinds := [.data, .data, .data], laidTests := true, laidLooks := .later }
def FnCabinetTextUptoCardSaid : Prop := Claim7.holds Tryd.pinned (.plain (OpenSpec.upto fnCabinetTextSpec)) fnCabinetTextUptoCard
end Rows
end Go.Proofs.YtlphefpgnfogfaaDoor
