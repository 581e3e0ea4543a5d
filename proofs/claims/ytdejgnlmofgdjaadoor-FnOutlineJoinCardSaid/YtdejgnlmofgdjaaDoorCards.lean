/-
  DERIVED. GIVEN WITH THE SEED: THE CARDS: each row of YtdejgnlmofgdjaaDoorRows.lean that lists a variable, with what it lists TIED to the program's text (the seventh form; the later family's looks); each row that meets fmt, with fmt's text TOLD by the authors' own Lean function (tested against real Go, not proved from fmt's source: count such statements apart). THE CARD IS WHAT COUNTS. Prove the row's statement (the work); the ties are given (YtdejgnlmofgdjaaDoorTie.lean); close each card by the builder's one call (the guide's Derived/Test/ToyasCard.lean, 'card_holds'). Laid BY PROGRAM, IN A SANDBOX (cutbox-door.mjs). By AI agents, Wed Nov 11 2026. No macro, syntax, notation, axiom, sorry.
-/
import Derived.Test.YtdejgnlmofgdjaaDoorRows
import GoSem.ClaimSeven
namespace Go.Proofs.YtdejgnlmofgdjaaDoor
namespace Rows

/-- THE TIED CARD OF 'laws.FnOutlineJoin'. -/
def fnOutlineJoinCard : Claim7 := { stood := { row := fnOutlineJoinRow, standIns := [], harness := (true, "fe837218b44abbaa2b842330bb83764d84bb868abc22879cb0eeb1f1847ebce6"), looks := false }, kinds := [], alts := [], laidByText := true, laidKinds := [.data, .data], laidTests := true, laidLooks := .later }
def FnOutlineJoinCardSaid : Prop := Claim7.holds Tryd.pinned (.plain (OpenSpec.ofChange fnOutlineJoinSpec)) fnOutlineJoinCard

/-- THE TIED CARD OF 'laws.FnLineText'. -/
def fnLineTextCard : Claim7 := { stood := { row := fnLineTextRow, standIns := [], harness := (true, "fe837218b44abbaa2b842330bb83764d84bb868abc22879cb0eeb1f1847ebce6"), looks := false }, kinds := [], alts := [], laidByText := true, laidKinds := [.data, .pinned], laidTests := true, laidLooks := .later }
def FnLineTextCardSaid : Prop := Claim7.holds Tryd.pinned (.plain (OpenSpec.ofChange fnLineTextSpec)) fnLineTextCard

/-- THE TIED CARD OF 'laws.FnLineFrom'. -/
def fnLineFromCard : Claim7 := { stood := { row := fnLineFromRow, standIns := [], harness := (true, "fe837218b44abbaa2b842330bb83764d84bb868abc22879cb0eeb1f1847ebce6"), looks := false }, kinds := [], alts := [], laidByText := true, laidKinds := [.data, .pinned], laidTests := true, laidLooks := .later }
def FnLineFromCardSaid : Prop := Claim7.holds Tryd.pinned (.plain (OpenSpec.ofChange fnLineFromSpec)) fnLineFromCard

/-- THE SECOND FORM's CARD OF 'laws.FnOutlineJoin'. -/
def fnOutlineJoinUptoCard : Claim7 := { stood := { row := fnOutlineJoinUptoRow, standIns := [], harness := (true, "fe837218b44abbaa2b842330bb83764d84bb868abc22879cb0eeb1f1847ebce6"), looks := false }, kinds := [], alts := [], laidByText := true, laidKinds := [.data, .data], laidTests := true, laidLooks := .later }
def FnOutlineJoinUptoCardSaid : Prop := Claim7.holds Tryd.pinned (.plain (OpenSpec.upto fnOutlineJoinSpec)) fnOutlineJoinUptoCard

/-- THE SECOND FORM's CARD OF 'laws.FnLineText'. -/
def fnLineTextUptoCard : Claim7 := { stood := { row := fnLineTextUptoRow, standIns := [], harness := (true, "fe837218b44abbaa2b842330bb83764d84bb868abc22879cb0eeb1f1847ebce6"), looks := false }, kinds := [], alts := [], laidByText := true, laidKinds := [.data, .pinned], laidTests := true, laidLooks := .later }
def FnLineTextUptoCardSaid : Prop := Claim7.holds Tryd.pinned (.plain (OpenSpec.upto fnLineTextSpec)) fnLineTextUptoCard

/-- THE SECOND FORM's CARD OF 'laws.FnLineFrom'. -/
def fnLineFromUptoCard : Claim7 := { stood := { row := fnLineFromUptoRow, standIns := [], harness := (true, "fe837218b44abbaa2b842330bb83764d84bb868abc22879cb0eeb1f1847ebce6"), looks := false }, kinds := [], alts := [], laidByText := true, laidKinds := [.data, .pinned], laidTests := true, laidLooks := .later }
def FnLineFromUptoCardSaid : Prop := Claim7.holds Tryd.pinned (.plain (OpenSpec.upto fnLineFromSpec)) fnLineFromUptoCard
end Rows
end Go.Proofs.YtdejgnlmofgdjaaDoor
