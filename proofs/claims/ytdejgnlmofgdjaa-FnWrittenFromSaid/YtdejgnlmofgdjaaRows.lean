/-
  No cell of these rows narrows 'for every input' (looked for: loops, veiled, ifaces, maps, wideKeys, modest, calm, conditions, laid).
  DERIVED. THE GIVEN ROWS OF THIS SEAT. 9 by the template 'for every input the law returns true; each argument reads behind the call as it read before'; 0 by the template 'total and deterministic' (their statements: YtdejgnlmofgdjaaTotals.lean).
  GIVEN WITH THE SEED: the statements are not yours to turn. If you find one false, say at which input.
  Laid BY PROGRAM, IN A SANDBOX (cutbox-rows.mjs): the forced cells as the released guide's own fill.sh prints them over the translation ee2d6ee5a6d43ee5… (all of the seat's roots in one cut). By AI agents, Wed Nov 11 2026. No macro, syntax, notation, axiom, sorry.
-/
import Derived.Test.YtdejgnlmofgdjaaChecked
import GoSem.Claim
import GoSem.ClaimJoined
import GoSem.ClaimMapViews
import Derived.JoinedTies
import Derived.KernelRfl
namespace Go.Proofs.Ytdejgnlmofgdjaa
/- THE CELL 'sum', in the pinned program and in every row, IS THE sha256 OF THE DUMP (.gsa) THAT YtdejgnlmofgdjaaProg.lean LOADS. Nothing in Lean hashes anything: it is a label: what it is worth is what the hold of that sum in a sandbox is worth. -/
noncomputable def Try.pinned : Pinned := { name := "ytdejgnlmofgdjaa", sum := "ee2d6ee5a6d43ee5d539e12e26538272d5dc1a16fa73346ed96308a64eecdc1c", checked := Try.checked }
namespace Rows
def none {H : Type} : Left H := { results := [], args := [] }

/-- 'laws.FnExactStrokeText': WHATEVER THE INPUT: true; the input reads as it did. -/
def fnExactStrokeTextSpec : ChangeSpec := { name := "fnExactStrokeText", fn := fun _ => fun
  | [d] => { results := [.lit (.bool true)], args := [d] }
  | _ => none }
def fnExactStrokeTextRow : OpenClaim := { program := "ytdejgnlmofgdjaa", sum := "ee2d6ee5a6d43ee5d539e12e26538272d5dc1a16fa73346ed96308a64eecdc1c", func := "loop.example/shorthand/laws.FnExactStrokeText", spec := "fnExactStrokeText", recurses := true, apart := false }
def FnExactStrokeTextSaid : Prop := fnExactStrokeTextRow.holds Try.pinned (OpenSpec.ofChange fnExactStrokeTextSpec)

/-- ITS FALSE NEIGHBOUR: 'it returns false'. Refute it at one input. -/
def fnExactStrokeTextWrong : ChangeSpec := { name := "fnExactStrokeText", fn := fun _ => fun
  | [d] => { results := [.lit (.bool false)], args := [d] }
  | _ => none }
def FnExactStrokeTextWrongFalsely : Prop := fnExactStrokeTextRow.holds Try.pinned (OpenSpec.ofChange fnExactStrokeTextWrong)

/-- 'laws.FnStrokeText': WHATEVER THE INPUT: true; the input reads as it did. -/
def fnStrokeTextSpec : ChangeSpec := { name := "fnStrokeText", fn := fun _ => fun
  | [d] => { results := [.lit (.bool true)], args := [d] }
  | _ => none }
def fnStrokeTextRow : OpenClaim := { program := "ytdejgnlmofgdjaa", sum := "ee2d6ee5a6d43ee5d539e12e26538272d5dc1a16fa73346ed96308a64eecdc1c", func := "loop.example/shorthand/laws.FnStrokeText", spec := "fnStrokeText", inPlace := ["internal/bytealg.IndexByteString"], recurses := true, apart := false }
def FnStrokeTextSaid : Prop := fnStrokeTextRow.holds Try.pinned (OpenSpec.ofChange fnStrokeTextSpec)

/-- ITS FALSE NEIGHBOUR: 'it returns false'. Refute it at one input. -/
def fnStrokeTextWrong : ChangeSpec := { name := "fnStrokeText", fn := fun _ => fun
  | [d] => { results := [.lit (.bool false)], args := [d] }
  | _ => none }
def FnStrokeTextWrongFalsely : Prop := fnStrokeTextRow.holds Try.pinned (OpenSpec.ofChange fnStrokeTextWrong)

/-- 'laws.FnExactOutlineText': WHATEVER THE INPUT: true; the input reads as it did. -/
def fnExactOutlineTextSpec : ChangeSpec := { name := "fnExactOutlineText", fn := fun _ => fun
  | [d] => { results := [.lit (.bool true)], args := [d] }
  | _ => none }
def fnExactOutlineTextRow : OpenClaim := { program := "ytdejgnlmofgdjaa", sum := "ee2d6ee5a6d43ee5d539e12e26538272d5dc1a16fa73346ed96308a64eecdc1c", func := "loop.example/shorthand/laws.FnExactOutlineText", spec := "fnExactOutlineText", inPlace := ["internal/abi.NoEscape"], recurses := true, apart := false }
def FnExactOutlineTextSaid : Prop := fnExactOutlineTextRow.holds Try.pinned (OpenSpec.ofChange fnExactOutlineTextSpec)

/-- ITS FALSE NEIGHBOUR: 'it returns false'. Refute it at one input. -/
def fnExactOutlineTextWrong : ChangeSpec := { name := "fnExactOutlineText", fn := fun _ => fun
  | [d] => { results := [.lit (.bool false)], args := [d] }
  | _ => none }
def FnExactOutlineTextWrongFalsely : Prop := fnExactOutlineTextRow.holds Try.pinned (OpenSpec.ofChange fnExactOutlineTextWrong)

/-- 'laws.FnOutlineText': WHATEVER THE INPUT: true; the input reads as it did. -/
def fnOutlineTextSpec : ChangeSpec := { name := "fnOutlineText", fn := fun _ => fun
  | [d1, d2] => { results := [.lit (.bool true)], args := [d1, d2] }
  | _ => none }
def fnOutlineTextRow : OpenClaim := { program := "ytdejgnlmofgdjaa", sum := "ee2d6ee5a6d43ee5d539e12e26538272d5dc1a16fa73346ed96308a64eecdc1c", func := "loop.example/shorthand/laws.FnOutlineText", spec := "fnOutlineText", inPlace := ["internal/abi.NoEscape", "internal/bytealg.IndexByteString"], recurses := true, apart := false }
def FnOutlineTextSaid : Prop := fnOutlineTextRow.holds Try.pinned (OpenSpec.ofChange fnOutlineTextSpec)

/-- ITS FALSE NEIGHBOUR: 'it returns false'. Refute it at one input. -/
def fnOutlineTextWrong : ChangeSpec := { name := "fnOutlineText", fn := fun _ => fun
  | [d1, d2] => { results := [.lit (.bool false)], args := [d1, d2] }
  | _ => none }
def FnOutlineTextWrongFalsely : Prop := fnOutlineTextRow.holds Try.pinned (OpenSpec.ofChange fnOutlineTextWrong)

/-- 'laws.FnOutlineFrom': WHATEVER THE INPUT: true; the input reads as it did. -/
def fnOutlineFromSpec : ChangeSpec := { name := "fnOutlineFrom", fn := fun _ => fun
  | [d] => { results := [.lit (.bool true)], args := [d] }
  | _ => none }
def fnOutlineFromRow : OpenClaim := { program := "ytdejgnlmofgdjaa", sum := "ee2d6ee5a6d43ee5d539e12e26538272d5dc1a16fa73346ed96308a64eecdc1c", func := "loop.example/shorthand/laws.FnOutlineFrom", spec := "fnOutlineFrom", inPlace := ["internal/bytealg.IndexByteString", "internal/abi.NoEscape"], recurses := true, apart := false }
def FnOutlineFromSaid : Prop := fnOutlineFromRow.holds Try.pinned (OpenSpec.ofChange fnOutlineFromSpec)

/-- ITS FALSE NEIGHBOUR: 'it returns false'. Refute it at one input. -/
def fnOutlineFromWrong : ChangeSpec := { name := "fnOutlineFrom", fn := fun _ => fun
  | [d] => { results := [.lit (.bool false)], args := [d] }
  | _ => none }
def FnOutlineFromWrongFalsely : Prop := fnOutlineFromRow.holds Try.pinned (OpenSpec.ofChange fnOutlineFromWrong)

/-- 'laws.FnExactWrittenText': WHATEVER THE INPUT: true; the input reads as it did. -/
def fnExactWrittenTextSpec : ChangeSpec := { name := "fnExactWrittenText", fn := fun _ => fun
  | [d] => { results := [.lit (.bool true)], args := [d] }
  | _ => none }
def fnExactWrittenTextRow : OpenClaim := { program := "ytdejgnlmofgdjaa", sum := "ee2d6ee5a6d43ee5d539e12e26538272d5dc1a16fa73346ed96308a64eecdc1c", func := "loop.example/shorthand/laws.FnExactWrittenText", spec := "fnExactWrittenText", inPlace := ["internal/abi.NoEscape"], recurses := true, apart := false }
def FnExactWrittenTextSaid : Prop := fnExactWrittenTextRow.holds Try.pinned (OpenSpec.ofChange fnExactWrittenTextSpec)

/-- ITS FALSE NEIGHBOUR: 'it returns false'. Refute it at one input. -/
def fnExactWrittenTextWrong : ChangeSpec := { name := "fnExactWrittenText", fn := fun _ => fun
  | [d] => { results := [.lit (.bool false)], args := [d] }
  | _ => none }
def FnExactWrittenTextWrongFalsely : Prop := fnExactWrittenTextRow.holds Try.pinned (OpenSpec.ofChange fnExactWrittenTextWrong)

/-- 'laws.FnWrittenText': WHATEVER THE INPUT: true; the input reads as it did. -/
def fnWrittenTextSpec : ChangeSpec := { name := "fnWrittenText", fn := fun _ => fun
  | [d] => { results := [.lit (.bool true)], args := [d] }
  | _ => none }
def fnWrittenTextRow : OpenClaim := { program := "ytdejgnlmofgdjaa", sum := "ee2d6ee5a6d43ee5d539e12e26538272d5dc1a16fa73346ed96308a64eecdc1c", func := "loop.example/shorthand/laws.FnWrittenText", spec := "fnWrittenText", inPlace := ["internal/abi.NoEscape", "internal/bytealg.IndexByteString"], recurses := true, apart := false }
def FnWrittenTextSaid : Prop := fnWrittenTextRow.holds Try.pinned (OpenSpec.ofChange fnWrittenTextSpec)

/-- ITS FALSE NEIGHBOUR: 'it returns false'. Refute it at one input. -/
def fnWrittenTextWrong : ChangeSpec := { name := "fnWrittenText", fn := fun _ => fun
  | [d] => { results := [.lit (.bool false)], args := [d] }
  | _ => none }
def FnWrittenTextWrongFalsely : Prop := fnWrittenTextRow.holds Try.pinned (OpenSpec.ofChange fnWrittenTextWrong)

/-- 'laws.FnWrittenFrom': WHATEVER THE INPUT: true; the input reads as it did. -/
def fnWrittenFromSpec : ChangeSpec := { name := "fnWrittenFrom", fn := fun _ => fun
  | [d] => { results := [.lit (.bool true)], args := [d] }
  | _ => none }
def fnWrittenFromRow : OpenClaim := { program := "ytdejgnlmofgdjaa", sum := "ee2d6ee5a6d43ee5d539e12e26538272d5dc1a16fa73346ed96308a64eecdc1c", func := "loop.example/shorthand/laws.FnWrittenFrom", spec := "fnWrittenFrom", inPlace := ["internal/bytealg.IndexByteString", "internal/abi.NoEscape"], recurses := true, apart := false }
def FnWrittenFromSaid : Prop := fnWrittenFromRow.holds Try.pinned (OpenSpec.ofChange fnWrittenFromSpec)

/-- ITS FALSE NEIGHBOUR: 'it returns false'. Refute it at one input. -/
def fnWrittenFromWrong : ChangeSpec := { name := "fnWrittenFrom", fn := fun _ => fun
  | [d] => { results := [.lit (.bool false)], args := [d] }
  | _ => none }
def FnWrittenFromWrongFalsely : Prop := fnWrittenFromRow.holds Try.pinned (OpenSpec.ofChange fnWrittenFromWrong)

/-- 'laws.FnExactLineText': WHATEVER THE INPUT: true; the input reads as it did. -/
def fnExactLineTextSpec : ChangeSpec := { name := "fnExactLineText", fn := fun _ => fun
  | [d] => { results := [.lit (.bool true)], args := [d] }
  | _ => none }
def fnExactLineTextRow : OpenClaim := { program := "ytdejgnlmofgdjaa", sum := "ee2d6ee5a6d43ee5d539e12e26538272d5dc1a16fa73346ed96308a64eecdc1c", func := "loop.example/shorthand/laws.FnExactLineText", spec := "fnExactLineText", inPlace := ["internal/abi.NoEscape", "internal/bytealg.MakeNoZero"], recurses := true, apart := false }
def FnExactLineTextSaid : Prop := fnExactLineTextRow.holds Try.pinned (OpenSpec.ofChange fnExactLineTextSpec)

/-- ITS FALSE NEIGHBOUR: 'it returns false'. Refute it at one input. -/
def fnExactLineTextWrong : ChangeSpec := { name := "fnExactLineText", fn := fun _ => fun
  | [d] => { results := [.lit (.bool false)], args := [d] }
  | _ => none }
def FnExactLineTextWrongFalsely : Prop := fnExactLineTextRow.holds Try.pinned (OpenSpec.ofChange fnExactLineTextWrong)

/- THE SECOND FORM. 'bulk': how many values and letters a reading holds, each counted each time it is reached (what is shared counts as often as it is met; a slice's spare places count too). A statement '..UptoSaid' is the law's where the arguments, and the package variables that the reading takes, are together of bulk at most 1048576: NARROWER than '..Said'. Prove '..Said' where nothing that the law and all that it calls make is longer than what came in: it says more and counts as full. Else prove '..UptoSaid'. A law counts once. -/
mutual
def uptoBulk {H : Type} : DataW H → Nat
  | .lit (.string bytes) => bytes.length + 1
  | .lit _ => 1
  | .nil => 1
  | .ptr d => uptoBulk d + 1
  | .slice elems spare => uptoBulkAll elems + uptoBulkAll spare + 1
  | .agg parts => uptoBulkAll parts + 1
  | .iface _ d => uptoBulk d + 1
  | .map entries => uptoBulkEntries entries + 1
  | .held _ => 1
def uptoBulkAll {H : Type} : List (DataW H) → Nat
  | [] => 0
  | d :: r => uptoBulk d + uptoBulkAll r
def uptoBulkEntries {H : Type} : List (Lit × DataW H) → Nat
  | [] => 0
  | x :: r => uptoBulkEntry x + uptoBulkEntries r
def uptoBulkEntry {H : Type} : Lit × DataW H → Nat
  | (.string bytes, d) => bytes.length + uptoBulk d + 1
  | (_, d) => uptoBulk d + 1
 end
def uptoSmall : (H : Type) → List (DataW H) → Bool := fun _ ds => decide (uptoBulkAll ds ≤ 1048576)
def OpenSpec.upto (s : _root_.Go.ChangeSpec) : _root_.Go.OpenSpec := { _root_.Go.OpenSpec.ofChange s with cond := some uptoSmall }

/-- 'laws.FnExactStrokeText', WHERE WHAT IT READS IS OF BULK AT MOST 1048576: true; the input reads as it did. -/
def fnExactStrokeTextUptoRow : OpenClaim := { program := "ytdejgnlmofgdjaa", sum := "ee2d6ee5a6d43ee5d539e12e26538272d5dc1a16fa73346ed96308a64eecdc1c", func := "loop.example/shorthand/laws.FnExactStrokeText", spec := "fnExactStrokeText", recurses := true, apart := false, narrowed := true }
def FnExactStrokeTextUptoSaid : Prop := fnExactStrokeTextUptoRow.holds Try.pinned (OpenSpec.upto fnExactStrokeTextSpec)

/-- 'laws.FnStrokeText', WHERE WHAT IT READS IS OF BULK AT MOST 1048576: true; the input reads as it did. -/
def fnStrokeTextUptoRow : OpenClaim := { program := "ytdejgnlmofgdjaa", sum := "ee2d6ee5a6d43ee5d539e12e26538272d5dc1a16fa73346ed96308a64eecdc1c", func := "loop.example/shorthand/laws.FnStrokeText", spec := "fnStrokeText", inPlace := ["internal/bytealg.IndexByteString"], recurses := true, apart := false, narrowed := true }
def FnStrokeTextUptoSaid : Prop := fnStrokeTextUptoRow.holds Try.pinned (OpenSpec.upto fnStrokeTextSpec)

/-- 'laws.FnExactOutlineText', WHERE WHAT IT READS IS OF BULK AT MOST 1048576: true; the input reads as it did. -/
def fnExactOutlineTextUptoRow : OpenClaim := { program := "ytdejgnlmofgdjaa", sum := "ee2d6ee5a6d43ee5d539e12e26538272d5dc1a16fa73346ed96308a64eecdc1c", func := "loop.example/shorthand/laws.FnExactOutlineText", spec := "fnExactOutlineText", inPlace := ["internal/abi.NoEscape"], recurses := true, apart := false, narrowed := true }
def FnExactOutlineTextUptoSaid : Prop := fnExactOutlineTextUptoRow.holds Try.pinned (OpenSpec.upto fnExactOutlineTextSpec)

/-- 'laws.FnOutlineText', WHERE WHAT IT READS IS OF BULK AT MOST 1048576: true; the input reads as it did. -/
def fnOutlineTextUptoRow : OpenClaim := { program := "ytdejgnlmofgdjaa", sum := "ee2d6ee5a6d43ee5d539e12e26538272d5dc1a16fa73346ed96308a64eecdc1c", func := "loop.example/shorthand/laws.FnOutlineText", spec := "fnOutlineText", inPlace := ["internal/abi.NoEscape", "internal/bytealg.IndexByteString"], recurses := true, apart := false, narrowed := true }
def FnOutlineTextUptoSaid : Prop := fnOutlineTextUptoRow.holds Try.pinned (OpenSpec.upto fnOutlineTextSpec)

/-- 'laws.FnOutlineFrom', WHERE WHAT IT READS IS OF BULK AT MOST 1048576: true; the input reads as it did. -/
def fnOutlineFromUptoRow : OpenClaim := { program := "ytdejgnlmofgdjaa", sum := "ee2d6ee5a6d43ee5d539e12e26538272d5dc1a16fa73346ed96308a64eecdc1c", func := "loop.example/shorthand/laws.FnOutlineFrom", spec := "fnOutlineFrom", inPlace := ["internal/bytealg.IndexByteString", "internal/abi.NoEscape"], recurses := true, apart := false, narrowed := true }
def FnOutlineFromUptoSaid : Prop := fnOutlineFromUptoRow.holds Try.pinned (OpenSpec.upto fnOutlineFromSpec)

/-- 'laws.FnExactWrittenText', WHERE WHAT IT READS IS OF BULK AT MOST 1048576: true; the input reads as it did. -/
def fnExactWrittenTextUptoRow : OpenClaim := { program := "ytdejgnlmofgdjaa", sum := "ee2d6ee5a6d43ee5d539e12e26538272d5dc1a16fa73346ed96308a64eecdc1c", func := "loop.example/shorthand/laws.FnExactWrittenText", spec := "fnExactWrittenText", inPlace := ["internal/abi.NoEscape"], recurses := true, apart := false, narrowed := true }
def FnExactWrittenTextUptoSaid : Prop := fnExactWrittenTextUptoRow.holds Try.pinned (OpenSpec.upto fnExactWrittenTextSpec)

/-- 'laws.FnWrittenText', WHERE WHAT IT READS IS OF BULK AT MOST 1048576: true; the input reads as it did. -/
def fnWrittenTextUptoRow : OpenClaim := { program := "ytdejgnlmofgdjaa", sum := "ee2d6ee5a6d43ee5d539e12e26538272d5dc1a16fa73346ed96308a64eecdc1c", func := "loop.example/shorthand/laws.FnWrittenText", spec := "fnWrittenText", inPlace := ["internal/abi.NoEscape", "internal/bytealg.IndexByteString"], recurses := true, apart := false, narrowed := true }
def FnWrittenTextUptoSaid : Prop := fnWrittenTextUptoRow.holds Try.pinned (OpenSpec.upto fnWrittenTextSpec)

/-- 'laws.FnWrittenFrom', WHERE WHAT IT READS IS OF BULK AT MOST 1048576: true; the input reads as it did. -/
def fnWrittenFromUptoRow : OpenClaim := { program := "ytdejgnlmofgdjaa", sum := "ee2d6ee5a6d43ee5d539e12e26538272d5dc1a16fa73346ed96308a64eecdc1c", func := "loop.example/shorthand/laws.FnWrittenFrom", spec := "fnWrittenFrom", inPlace := ["internal/bytealg.IndexByteString", "internal/abi.NoEscape"], recurses := true, apart := false, narrowed := true }
def FnWrittenFromUptoSaid : Prop := fnWrittenFromUptoRow.holds Try.pinned (OpenSpec.upto fnWrittenFromSpec)

/-- 'laws.FnExactLineText', WHERE WHAT IT READS IS OF BULK AT MOST 1048576: true; the input reads as it did. -/
def fnExactLineTextUptoRow : OpenClaim := { program := "ytdejgnlmofgdjaa", sum := "ee2d6ee5a6d43ee5d539e12e26538272d5dc1a16fa73346ed96308a64eecdc1c", func := "loop.example/shorthand/laws.FnExactLineText", spec := "fnExactLineText", inPlace := ["internal/abi.NoEscape", "internal/bytealg.MakeNoZero"], recurses := true, apart := false, narrowed := true }
def FnExactLineTextUptoSaid : Prop := fnExactLineTextUptoRow.holds Try.pinned (OpenSpec.upto fnExactLineTextSpec)

end Rows
end Go.Proofs.Ytdejgnlmofgdjaa
