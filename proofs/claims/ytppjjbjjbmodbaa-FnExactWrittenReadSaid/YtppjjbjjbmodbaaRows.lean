/-
  No cell of these rows narrows 'for every input' (looked for: loops, veiled, ifaces, maps, wideKeys, modest, calm, conditions, laid).
  DERIVED. THE GIVEN ROWS OF THIS SEAT. 5 by the template 'for every input the law returns true; each argument reads behind the call as it read before'; 0 by the template 'total and deterministic' (their statements: YtppjjbjjbmodbaaTotals.lean).
  GIVEN WITH THE SEED: the statements are not yours to turn. If you find one false, say at which input.
  Laid BY PROGRAM, IN A SANDBOX (cutbox-rows.mjs): the forced cells as the released guide's own fill.sh prints them over the translation e6a2707bfb11b7b3… (all of the seat's roots in one cut). By AI agents, Wed Nov 11 2026. No macro, syntax, notation, axiom, sorry.
-/
import Derived.Test.YtppjjbjjbmodbaaChecked
import GoSem.Claim
import GoSem.ClaimJoined
import GoSem.ClaimMapViews
import Derived.JoinedTies
import Derived.KernelRfl
namespace Go.Proofs.Ytppjjbjjbmodbaa
/- THE CELL 'sum', in the pinned program and in every row, IS THE sha256 OF THE DUMP (.gsa) THAT YtppjjbjjbmodbaaProg.lean LOADS. Nothing in Lean hashes anything: it is a label: what it is worth is what the hold of that sum in a sandbox is worth. -/
noncomputable def Try.pinned : Pinned := { name := "ytppjjbjjbmodbaa", sum := "e6a2707bfb11b7b3a18c5c1a14bb5c5a231d8d72e3600aece4bc2a57bb1d7f76", checked := Try.checked }
namespace Rows
def none {H : Type} : Left H := { results := [], args := [] }

/-- 'laws.FnLineOf': WHATEVER THE INPUT: true; the input reads as it did. -/
def fnLineOfSpec : ChangeSpec := { name := "fnLineOf", fn := fun _ => fun
  | [d1, d2] => { results := [.lit (.bool true)], args := [d1, d2] }
  | _ => none }
def fnLineOfRow : OpenClaim := { program := "ytppjjbjjbmodbaa", sum := "e6a2707bfb11b7b3a18c5c1a14bb5c5a231d8d72e3600aece4bc2a57bb1d7f76", func := "loop.example/shorthand/laws.FnLineOf", spec := "fnLineOf", inPlace := ["internal/bytealg.IndexByteString"], plainKeys := false, apart := false }
def FnLineOfSaid : Prop := fnLineOfRow.holds Try.pinned (OpenSpec.ofChange fnLineOfSpec)

/-- ITS FALSE NEIGHBOUR: 'it returns false'. Refute it at one input. -/
def fnLineOfWrong : ChangeSpec := { name := "fnLineOf", fn := fun _ => fun
  | [d1, d2] => { results := [.lit (.bool false)], args := [d1, d2] }
  | _ => none }
def FnLineOfWrongFalsely : Prop := fnLineOfRow.holds Try.pinned (OpenSpec.ofChange fnLineOfWrong)

/-- 'laws.FnWrittenRead': WHATEVER THE INPUT: true; the input reads as it did. -/
def fnWrittenReadSpec : ChangeSpec := { name := "fnWrittenRead", fn := fun _ => fun
  | [d] => { results := [.lit (.bool true)], args := [d] }
  | _ => none }
def fnWrittenReadRow : OpenClaim := { program := "ytppjjbjjbmodbaa", sum := "e6a2707bfb11b7b3a18c5c1a14bb5c5a231d8d72e3600aece4bc2a57bb1d7f76", func := "loop.example/shorthand/laws.FnWrittenRead", spec := "fnWrittenRead", inPlace := ["internal/bytealg.IndexByteString"], recurses := true, plainKeys := false, apart := false }
def FnWrittenReadSaid : Prop := fnWrittenReadRow.holds Try.pinned (OpenSpec.ofChange fnWrittenReadSpec)

/-- ITS FALSE NEIGHBOUR: 'it returns false'. Refute it at one input. -/
def fnWrittenReadWrong : ChangeSpec := { name := "fnWrittenRead", fn := fun _ => fun
  | [d] => { results := [.lit (.bool false)], args := [d] }
  | _ => none }
def FnWrittenReadWrongFalsely : Prop := fnWrittenReadRow.holds Try.pinned (OpenSpec.ofChange fnWrittenReadWrong)

/-- 'laws.FnWays': WHATEVER THE INPUT: true; the input reads as it did. -/
def fnWaysSpec : ChangeSpec := { name := "fnWays", fn := fun _ => fun
  | [d1, d2] => { results := [.lit (.bool true)], args := [d1, d2] }
  | _ => none }
def fnWaysRow : OpenClaim := { program := "ytppjjbjjbmodbaa", sum := "e6a2707bfb11b7b3a18c5c1a14bb5c5a231d8d72e3600aece4bc2a57bb1d7f76", func := "loop.example/shorthand/laws.FnWays", spec := "fnWays", inPlace := ["internal/bytealg.IndexByteString"], recurses := true, plainKeys := false, apart := false }
def FnWaysSaid : Prop := fnWaysRow.holds Try.pinned (OpenSpec.ofChange fnWaysSpec)

/-- ITS FALSE NEIGHBOUR: 'it returns false'. Refute it at one input. -/
def fnWaysWrong : ChangeSpec := { name := "fnWays", fn := fun _ => fun
  | [d1, d2] => { results := [.lit (.bool false)], args := [d1, d2] }
  | _ => none }
def FnWaysWrongFalsely : Prop := fnWaysRow.holds Try.pinned (OpenSpec.ofChange fnWaysWrong)

/-- 'laws.FnExactWrittenRead': WHATEVER THE INPUT: true; the input reads as it did. -/
def fnExactWrittenReadSpec : ChangeSpec := { name := "fnExactWrittenRead", fn := fun _ => fun
  | [d1, d2, d3] => { results := [.lit (.bool true)], args := [d1, d2, d3] }
  | _ => none }
def fnExactWrittenReadRow : OpenClaim := { program := "ytppjjbjjbmodbaa", sum := "e6a2707bfb11b7b3a18c5c1a14bb5c5a231d8d72e3600aece4bc2a57bb1d7f76", func := "loop.example/shorthand/laws.FnExactWrittenRead", spec := "fnExactWrittenRead", inPlace := ["internal/bytealg.IndexByteString"], recurses := true, plainKeys := false, apart := false }
def FnExactWrittenReadSaid : Prop := fnExactWrittenReadRow.holds Try.pinned (OpenSpec.ofChange fnExactWrittenReadSpec)

/-- ITS FALSE NEIGHBOUR: 'it returns false'. Refute it at one input. -/
def fnExactWrittenReadWrong : ChangeSpec := { name := "fnExactWrittenRead", fn := fun _ => fun
  | [d1, d2, d3] => { results := [.lit (.bool false)], args := [d1, d2, d3] }
  | _ => none }
def FnExactWrittenReadWrongFalsely : Prop := fnExactWrittenReadRow.holds Try.pinned (OpenSpec.ofChange fnExactWrittenReadWrong)

/-- 'laws.FnExactWrittenWays': WHATEVER THE INPUT: true; the input reads as it did. -/
def fnExactWrittenWaysSpec : ChangeSpec := { name := "fnExactWrittenWays", fn := fun _ => fun
  | [d1, d2, d3] => { results := [.lit (.bool true)], args := [d1, d2, d3] }
  | _ => none }
def fnExactWrittenWaysRow : OpenClaim := { program := "ytppjjbjjbmodbaa", sum := "e6a2707bfb11b7b3a18c5c1a14bb5c5a231d8d72e3600aece4bc2a57bb1d7f76", func := "loop.example/shorthand/laws.FnExactWrittenWays", spec := "fnExactWrittenWays", inPlace := ["internal/bytealg.IndexByteString"], recurses := true, plainKeys := false, apart := false }
def FnExactWrittenWaysSaid : Prop := fnExactWrittenWaysRow.holds Try.pinned (OpenSpec.ofChange fnExactWrittenWaysSpec)

/-- ITS FALSE NEIGHBOUR: 'it returns false'. Refute it at one input. -/
def fnExactWrittenWaysWrong : ChangeSpec := { name := "fnExactWrittenWays", fn := fun _ => fun
  | [d1, d2, d3] => { results := [.lit (.bool false)], args := [d1, d2, d3] }
  | _ => none }
def FnExactWrittenWaysWrongFalsely : Prop := fnExactWrittenWaysRow.holds Try.pinned (OpenSpec.ofChange fnExactWrittenWaysWrong)

/- THE SECOND FORM. 'bulk': how many values and letters a reading holds, each counted each time it is reached (what is shared counts as often as it is met; a slice's spare places count too). A statement '..UptoSaid' is the law's where the arguments, and the package variables that the reading takes, are together of bulk at most 1048576: NARROWER than '..Said'. Prove '..Said' where nothing that the law and all that it calls make is longer than what came in: it says more and counts as full. Else prove '..UptoSaid'. A law counts once. -/
mutual
def uptoBulk {H : Type} : DataW H → Nat
  | .lit (.string bytes) => bytes.length + 1
  | .lit _ => 1
  | .nil => 1
  | .ptr d => uptoBulk d + 1
  | .slice elems spare => uptoBulkAll elems + uptoBulkAll spare + 1
  | .agg parts => uptoBulkAll parts + 1
  | .iface _ d => uptoBulk d + 1
  | .map entries => uptoBulkEntries entries + 1
  | .held _ => 1
def uptoBulkAll {H : Type} : List (DataW H) → Nat
  | [] => 0
  | d :: r => uptoBulk d + uptoBulkAll r
def uptoBulkEntries {H : Type} : List (Lit × DataW H) → Nat
  | [] => 0
  | x :: r => uptoBulkEntry x + uptoBulkEntries r
def uptoBulkEntry {H : Type} : Lit × DataW H → Nat
  | (.string bytes, d) => bytes.length + uptoBulk d + 1
  | (_, d) => uptoBulk d + 1
 end
def uptoSmall : (H : Type) → List (DataW H) → Bool := fun _ ds => decide (uptoBulkAll ds ≤ 1048576)
def OpenSpec.upto (s : _root_.Go.ChangeSpec) : _root_.Go.OpenSpec := { _root_.Go.OpenSpec.ofChange s with cond := some uptoSmall }

/-- 'laws.FnLineOf', WHERE WHAT IT READS IS OF BULK AT MOST 1048576: true; the input reads as it did. -/
def fnLineOfUptoRow : OpenClaim := { program := "ytppjjbjjbmodbaa", sum := "e6a2707bfb11b7b3a18c5c1a14bb5c5a231d8d72e3600aece4bc2a57bb1d7f76", func := "loop.example/shorthand/laws.FnLineOf", spec := "fnLineOf", inPlace := ["internal/bytealg.IndexByteString"], plainKeys := false, apart := false, narrowed := true }
def FnLineOfUptoSaid : Prop := fnLineOfUptoRow.holds Try.pinned (OpenSpec.upto fnLineOfSpec)

/-- 'laws.FnWrittenRead', WHERE WHAT IT READS IS OF BULK AT MOST 1048576: true; the input reads as it did. -/
def fnWrittenReadUptoRow : OpenClaim := { program := "ytppjjbjjbmodbaa", sum := "e6a2707bfb11b7b3a18c5c1a14bb5c5a231d8d72e3600aece4bc2a57bb1d7f76", func := "loop.example/shorthand/laws.FnWrittenRead", spec := "fnWrittenRead", inPlace := ["internal/bytealg.IndexByteString"], recurses := true, plainKeys := false, apart := false, narrowed := true }
def FnWrittenReadUptoSaid : Prop := fnWrittenReadUptoRow.holds Try.pinned (OpenSpec.upto fnWrittenReadSpec)

/-- 'laws.FnWays', WHERE WHAT IT READS IS OF BULK AT MOST 1048576: true; the input reads as it did. -/
def fnWaysUptoRow : OpenClaim := { program := "ytppjjbjjbmodbaa", sum := "e6a2707bfb11b7b3a18c5c1a14bb5c5a231d8d72e3600aece4bc2a57bb1d7f76", func := "loop.example/shorthand/laws.FnWays", spec := "fnWays", inPlace := ["internal/bytealg.IndexByteString"], recurses := true, plainKeys := false, apart := false, narrowed := true }
def FnWaysUptoSaid : Prop := fnWaysUptoRow.holds Try.pinned (OpenSpec.upto fnWaysSpec)

/-- 'laws.FnExactWrittenRead', WHERE WHAT IT READS IS OF BULK AT MOST 1048576: true; the input reads as it did. -/
def fnExactWrittenReadUptoRow : OpenClaim := { program := "ytppjjbjjbmodbaa", sum := "e6a2707bfb11b7b3a18c5c1a14bb5c5a231d8d72e3600aece4bc2a57bb1d7f76", func := "loop.example/shorthand/laws.FnExactWrittenRead", spec := "fnExactWrittenRead", inPlace := ["internal/bytealg.IndexByteString"], recurses := true, plainKeys := false, apart := false, narrowed := true }
def FnExactWrittenReadUptoSaid : Prop := fnExactWrittenReadUptoRow.holds Try.pinned (OpenSpec.upto fnExactWrittenReadSpec)

/-- 'laws.FnExactWrittenWays', WHERE WHAT IT READS IS OF BULK AT MOST 1048576: true; the input reads as it did. -/
def fnExactWrittenWaysUptoRow : OpenClaim := { program := "ytppjjbjjbmodbaa", sum := "e6a2707bfb11b7b3a18c5c1a14bb5c5a231d8d72e3600aece4bc2a57bb1d7f76", func := "loop.example/shorthand/laws.FnExactWrittenWays", spec := "fnExactWrittenWays", inPlace := ["internal/bytealg.IndexByteString"], recurses := true, plainKeys := false, apart := false, narrowed := true }
def FnExactWrittenWaysUptoSaid : Prop := fnExactWrittenWaysUptoRow.holds Try.pinned (OpenSpec.upto fnExactWrittenWaysSpec)

end Rows
end Go.Proofs.Ytppjjbjjbmodbaa
