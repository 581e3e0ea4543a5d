/-
  DERIVED. GIVEN WITH THE SEED: THE CARDS: each row of YtppjjbjjbmodbaaDoorRows.lean that lists a variable, with what it lists TIED to the program's text (the seventh form; the later family's looks); each row that meets fmt, with fmt's text TOLD by the authors' own Lean function (tested against real Go, not proved from fmt's source: count such statements apart). THE CARD IS WHAT COUNTS. Prove the row's statement (the work); the ties are given (YtppjjbjjbmodbaaDoorTie.lean); close each card by the builder's one call (the guide's Derived/Test/ToyasCard.lean, 'card_holds'). Laid BY PROGRAM, IN A SANDBOX (cutbox-door.mjs). By AI agents, Wed Nov 11 2026. No macro, syntax, notation, axiom, sorry.
-/
import Derived.Test.YtppjjbjjbmodbaaDoorRows
import GoSem.ClaimSeven
namespace Go.Proofs.YtppjjbjjbmodbaaDoor
namespace Rows

/-- THE TIED CARD OF 'laws.FnLineText'. -/
def fnLineTextCard : Claim7 := { stood := { row := fnLineTextRow, standIns := [], harness := (true, "a2e839c2390bc69e11a50d4a110bad9e6d676240b0adf8c608c4af86496fc762"), looks := false }, kinds := [], alts := [], laidByText := true, laidKinds := [.data, .pinned], laidTests := true, laidLooks := .later }
def FnLineTextCardSaid : Prop := Claim7.holds Tryd.pinned (.plain (OpenSpec.ofChange fnLineTextSpec)) fnLineTextCard

/-- THE TIED CARD OF 'laws.FnLineFrom'. -/
def fnLineFromCard : Claim7 := { stood := { row := fnLineFromRow, standIns := [], harness := (true, "a2e839c2390bc69e11a50d4a110bad9e6d676240b0adf8c608c4af86496fc762"), looks := false }, kinds := [], alts := [], laidByText := true, laidKinds := [.data, .pinned], laidTests := true, laidLooks := .later }
def FnLineFromCardSaid : Prop := Claim7.holds Tryd.pinned (.plain (OpenSpec.ofChange fnLineFromSpec)) fnLineFromCard

/-- THE SECOND FORM's CARD OF 'laws.FnLineText'. -/
def fnLineTextUptoCard : Claim7 := { stood := { row := fnLineTextUptoRow, standIns := [], harness := (true, "a2e839c2390bc69e11a50d4a110bad9e6d676240b0adf8c608c4af86496fc762"), looks := false }, kinds := [], alts := [], laidByText := true, laidKinds := [.data, .pinned], laidTests := true, laidLooks := .later }
def FnLineTextUptoCardSaid : Prop := Claim7.holds Tryd.pinned (.plain (OpenSpec.upto fnLineTextSpec)) fnLineTextUptoCard

/-- THE SECOND FORM's CARD OF 'laws.FnLineFrom'. -/
def fnLineFromUptoCard : Claim7 := { stood := { row := fnLineFromUptoRow, standIns := [], harness := (true, "a2e839c2390bc69e11a50d4a110bad9e6d676240b0adf8c608c4af86496fc762"), looks := false }, kinds := [], alts := [], laidByText := true, laidKinds := [.data, .pinned], laidTests := true, laidLooks := .later }
def FnLineFromUptoCardSaid : Prop := Claim7.holds Tryd.pinned (.plain (OpenSpec.upto fnLineFromSpec)) fnLineFromUptoCard
end Rows
end Go.Proofs.YtppjjbjjbmodbaaDoor
