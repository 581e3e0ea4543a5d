/-
  DERIVED. GIVEN WITH THE SEED: THE CARDS: each row of YtbkhnljaajajiaaGreatDoorRows.lean that lists a variable, with what it lists TIED to the program's text (the seventh form; the later family's looks); each row that meets fmt, with fmt's text TOLD by the authors' own Lean function (tested against real Go, not proved from fmt's source: count such statements apart). THE CARD IS WHAT COUNTS. Prove the row's statement (the work); the ties are given (YtbkhnljaajajiaaGreatDoorTie.lean); close each card by the builder's one call (the guide's Derived/Test/ToyasCard.lean, 'card_holds'). Laid BY PROGRAM, IN A SANDBOX (cutbox-door.mjs). By AI agents, Wed Nov 11 2026. No macro, syntax, notation, axiom, sorry.
-/
import Derived.Test.YtbkhnljaajajiaaGreatDoorRows
import GoSem.ClaimSeven
namespace Go.Proofs.YtbkhnljaajajiaaGreatDoor
namespace Rows

/-- THE TIED CARD OF 'laws.FnExecuteNone'. -/
def fnExecuteNoneCard : Claim7 := { stood := { row := fnExecuteNoneRow, standIns := [], harness := (true, "57c7296c0251d314f1469b5ec7acc0bece7b4c5d870d1e8faa0416733494901d"), looks := true }, kinds := [], alts := [], laidByText := true, laidKinds := [.data, .data, .data, .data, .pinned], laidTests := true, laidLooks := .later }
def FnExecuteNoneCardSaid : Prop := Claim7.holds Tryz.pinned (.plain (OpenSpec.ofChange fnExecuteNoneSpec)) fnExecuteNoneCard

/-- THE TIED CARD OF 'laws.FnExecuteTwice'. -/
def fnExecuteTwiceCard : Claim7 := { stood := { row := fnExecuteTwiceRow, standIns := [], harness := (true, "57c7296c0251d314f1469b5ec7acc0bece7b4c5d870d1e8faa0416733494901d"), looks := true }, kinds := [], alts := [], laidByText := true, laidKinds := [.data, .data, .data, .data, .pinned], laidTests := true, laidLooks := .later }
def FnExecuteTwiceCardSaid : Prop := Claim7.holds Tryz.pinned (.plain (OpenSpec.ofChange fnExecuteTwiceSpec)) fnExecuteTwiceCard

/-- THE TIED CARD OF 'laws.FnExecuteWhat'. -/
def fnExecuteWhatCard : Claim7 := { stood := { row := fnExecuteWhatRow, standIns := [], harness := (true, "57c7296c0251d314f1469b5ec7acc0bece7b4c5d870d1e8faa0416733494901d"), looks := true }, kinds := [], alts := [], laidByText := true, laidKinds := [.data, .data, .data, .data, .pinned], laidTests := true, laidLooks := .later }
def FnExecuteWhatCardSaid : Prop := Claim7.holds Tryz.pinned (.plain (OpenSpec.ofChange fnExecuteWhatSpec)) fnExecuteWhatCard

/-- THE TIED CARD OF 'laws.FnExecuteCopy'. -/
def fnExecuteCopyCard : Claim7 := { stood := { row := fnExecuteCopyRow, standIns := [], harness := (true, "57c7296c0251d314f1469b5ec7acc0bece7b4c5d870d1e8faa0416733494901d"), looks := true }, kinds := [], alts := [], laidByText := true, laidKinds := [.data, .data, .data, .data, .pinned], laidTests := true, laidLooks := .later }
def FnExecuteCopyCardSaid : Prop := Claim7.holds Tryz.pinned (.plain (OpenSpec.ofChange fnExecuteCopySpec)) fnExecuteCopyCard

/-- THE TIED CARD OF 'laws.FnExecuteProof'. -/
def fnExecuteProofCard : Claim7 := { stood := { row := fnExecuteProofRow, standIns := [], harness := (true, "57c7296c0251d314f1469b5ec7acc0bece7b4c5d870d1e8faa0416733494901d"), looks := true }, kinds := [], alts := [], laidByText := true, laidKinds := [.data, .data, .data, .data, .pinned], laidTests := true, laidLooks := .later }
def FnExecuteProofCardSaid : Prop := Claim7.holds Tryz.pinned (.plain (OpenSpec.ofChange fnExecuteProofSpec)) fnExecuteProofCard

/-- THE TIED CARD OF 'laws.FnExecuteCabinet'. -/
def fnExecuteCabinetCard : Claim7 := { stood := { row := fnExecuteCabinetRow, standIns := [], harness := (true, "57c7296c0251d314f1469b5ec7acc0bece7b4c5d870d1e8faa0416733494901d"), looks := true }, kinds := [], alts := [], laidByText := true, laidKinds := [.data, .data, .data, .data, .pinned], laidTests := true, laidLooks := .later }
def FnExecuteCabinetCardSaid : Prop := Claim7.holds Tryz.pinned (.plain (OpenSpec.ofChange fnExecuteCabinetSpec)) fnExecuteCabinetCard

/-- THE TIED CARD OF 'laws.FnExecuteWrite'. -/
def fnExecuteWriteCard : Claim7 := { stood := { row := fnExecuteWriteRow, standIns := [], harness := (true, "57c7296c0251d314f1469b5ec7acc0bece7b4c5d870d1e8faa0416733494901d"), looks := true }, kinds := [], alts := [], laidByText := true, laidKinds := [.data, .data, .data, .data, .pinned], laidTests := true, laidLooks := .later }
def FnExecuteWriteCardSaid : Prop := Claim7.holds Tryz.pinned (.plain (OpenSpec.ofChange fnExecuteWriteSpec)) fnExecuteWriteCard

/-- THE TIED CARD OF 'laws.FnExactExecute'. -/
def fnExactExecuteCard : Claim7 := { stood := { row := fnExactExecuteRow, standIns := [], harness := (true, "57c7296c0251d314f1469b5ec7acc0bece7b4c5d870d1e8faa0416733494901d"), looks := true }, kinds := [], alts := [], laidByText := true, laidKinds := [.data, .data, .data, .data, .pinned], laidTests := true, laidLooks := .later }
def FnExactExecuteCardSaid : Prop := Claim7.holds Tryz.pinned (.plain (OpenSpec.ofChange fnExactExecuteSpec)) fnExactExecuteCard

/-- THE SECOND FORM's CARD OF 'laws.FnExecuteNone'. -/
def fnExecuteNoneUptoCard : Claim7 := { stood := { row := fnExecuteNoneUptoRow, standIns := [], harness := (true, "57c7296c0251d314f1469b5ec7acc0bece7b4c5d870d1e8faa0416733494901d"), looks := true }, kinds := [], alts := [], laidByText := true, laidKinds := [.data, .data, .data, .data, .pinned], laidTests := true, laidLooks := .later }
def FnExecuteNoneUptoCardSaid : Prop := Claim7.holds Tryz.pinned (.plain (OpenSpec.upto fnExecuteNoneSpec)) fnExecuteNoneUptoCard

/-- THE SECOND FORM's CARD OF 'laws.FnExecuteTwice'. -/
def fnExecuteTwiceUptoCard : Claim7 := { stood := { row := fnExecuteTwiceUptoRow, standIns := [], harness := (true, "57c7296c0251d314f1469b5ec7acc0bece7b4c5d870d1e8faa0416733494901d"), looks := true }, kinds := [], alts := [], laidByText := true, laidKinds := [.data, .data, .data, .data, .pinned], laidTests := true, laidLooks := .later }
def FnExecuteTwiceUptoCardSaid : Prop := Claim7.holds Tryz.pinned (.plain (OpenSpec.upto fnExecuteTwiceSpec)) fnExecuteTwiceUptoCard

/-- THE SECOND FORM's CARD OF 'laws.FnExecuteWhat'. -/
def fnExecuteWhatUptoCard : Claim7 := { stood := { row := fnExecuteWhatUptoRow, standIns := [], harness := (true, "57c7296c0251d314f1469b5ec7acc0bece7b4c5d870d1e8faa0416733494901d"), looks := true }, kinds := [], alts := [], laidByText := true, laidKinds := [.data, .data, .data, .data, .pinned], laidTests := true, laidLooks := .later }
def FnExecuteWhatUptoCardSaid : Prop := Claim7.holds Tryz.pinned (.plain (OpenSpec.upto fnExecuteWhatSpec)) fnExecuteWhatUptoCard

/-- THE SECOND FORM's CARD OF 'laws.FnExecuteCopy'. -/
def fnExecuteCopyUptoCard : Claim7 := { stood := { row := fnExecuteCopyUptoRow, standIns := [], harness := (true, "57c7296c0251d314f1469b5ec7acc0bece7b4c5d870d1e8faa0416733494901d"), looks := true }, kinds := [], alts := [], laidByText := true, laidKinds := [.data, .data, .data, .data, .pinned], laidTests := true, laidLooks := .later }
def FnExecuteCopyUptoCardSaid : Prop := Claim7.holds Tryz.pinned (.plain (OpenSpec.upto fnExecuteCopySpec)) fnExecuteCopyUptoCard

/-- THE SECOND FORM's CARD OF 'laws.FnExecuteProof'. -/
def fnExecuteProofUptoCard : Claim7 := { stood := { row := fnExecuteProofUptoRow, standIns := [], harness := (true, "57c7296c0251d314f1469b5ec7acc0bece7b4c5d870d1e8faa0416733494901d"), looks := true }, kinds := [], alts := [], laidByText := true, laidKinds := [.data, .data, .data, .data, .pinned], laidTests := true, laidLooks := .later }
def FnExecuteProofUptoCardSaid : Prop := Claim7.holds Tryz.pinned (.plain (OpenSpec.upto fnExecuteProofSpec)) fnExecuteProofUptoCard

/-- THE SECOND FORM's CARD OF 'laws.FnExecuteCabinet'. -/
def fnExecuteCabinetUptoCard : Claim7 := { stood := { row := fnExecuteCabinetUptoRow, standIns := [], harness := (true, "57c7296c0251d314f1469b5ec7acc0bece7b4c5d870d1e8faa0416733494901d"), looks := true }, kinds := [], alts := [], laidByText := true, laidKinds := [.data, .data, .data, .data, .pinned], laidTests := true, laidLooks := .later }
def FnExecuteCabinetUptoCardSaid : Prop := Claim7.holds Tryz.pinned (.plain (OpenSpec.upto fnExecuteCabinetSpec)) fnExecuteCabinetUptoCard

/-- THE SECOND FORM's CARD OF 'laws.FnExecuteWrite'. -/
def fnExecuteWriteUptoCard : Claim7 := { stood := { row := fnExecuteWriteUptoRow, standIns := [], harness := (true, "57c7296c0251d314f1469b5ec7acc0bece7b4c5d870d1e8faa0416733494901d"), looks := true }, kinds := [], alts := [], laidByText := true, laidKinds := [.data, .data, .data, .data, .pinned], laidTests := true, laidLooks := .later }
def FnExecuteWriteUptoCardSaid : Prop := Claim7.holds Tryz.pinned (.plain (OpenSpec.upto fnExecuteWriteSpec)) fnExecuteWriteUptoCard

/-- THE SECOND FORM's CARD OF 'laws.FnExactExecute'. -/
def fnExactExecuteUptoCard : Claim7 := { stood := { row := fnExactExecuteUptoRow, standIns := [], harness := (true, "57c7296c0251d314f1469b5ec7acc0bece7b4c5d870d1e8faa0416733494901d"), looks := true }, kinds := [], alts := [], laidByText := true, laidKinds := [.data, .data, .data, .data, .pinned], laidTests := true, laidLooks := .later }
def FnExactExecuteUptoCardSaid : Prop := Claim7.holds Tryz.pinned (.plain (OpenSpec.upto fnExactExecuteSpec)) fnExactExecuteUptoCard
end Rows
end Go.Proofs.YtbkhnljaajajiaaGreatDoor
