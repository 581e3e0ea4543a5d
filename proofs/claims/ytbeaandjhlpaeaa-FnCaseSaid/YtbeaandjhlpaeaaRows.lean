/-
  No cell of these rows narrows 'for every input' (looked for: loops, veiled, ifaces, maps, wideKeys, modest, calm, conditions, laid).
  DERIVED. THE GIVEN ROWS OF THIS SEAT. 12 by the template 'for every input the law returns true; each argument reads behind the call as it read before'; 0 by the template 'total and deterministic' (their statements: YtbeaandjhlpaeaaTotals.lean).
  GIVEN WITH THE SEED: the statements are not yours to turn. If you find one false, say at which input.
  Laid BY PROGRAM, IN A SANDBOX (cutbox-rows.mjs): the forced cells as the released guide's own fill.sh prints them over the translation de649778f61b33e9… (all of the seat's roots in one cut). By AI agents, Wed Nov 11 2026. No macro, syntax, notation, axiom, sorry.
-/
import Derived.Test.YtbeaandjhlpaeaaChecked
import GoSem.Claim
import GoSem.ClaimJoined
import GoSem.ClaimMapViews
import Derived.JoinedTies
import Derived.KernelRfl
namespace Go.Proofs.Ytbeaandjhlpaeaa
/- THE CELL 'sum', in the pinned program and in every row, IS THE sha256 OF THE DUMP (.gsa) THAT YtbeaandjhlpaeaaProg.lean LOADS. Nothing in Lean hashes anything: it is a label: what it is worth is what the hold of that sum in a sandbox is worth. -/
noncomputable def Try.pinned : Pinned := { name := "ytbeaandjhlpaeaa", sum := "de649778f61b33e91febca327e8cb6ff6edd3e6f8c445f75776d5284a4ec379a", checked := Try.checked }
namespace Rows
def none {H : Type} : Left H := { results := [], args := [] }

/-- 'laws.FnExactPadValid': WHATEVER THE INPUT: true; the input reads as it did. -/
def fnExactPadValidSpec : ChangeSpec := { name := "fnExactPadValid", fn := fun _ => fun
  | [d] => { results := [.lit (.bool true)], args := [d] }
  | _ => none }
def fnExactPadValidRow : OpenClaim := { program := "ytbeaandjhlpaeaa", sum := "de649778f61b33e91febca327e8cb6ff6edd3e6f8c445f75776d5284a4ec379a", func := "loop.example/shorthand/laws.FnExactPadValid", spec := "fnExactPadValid", apart := false }
def FnExactPadValidSaid : Prop := fnExactPadValidRow.holds Try.pinned (OpenSpec.ofChange fnExactPadValidSpec)

/-- ITS FALSE NEIGHBOUR: 'it returns false'. Refute it at one input. -/
def fnExactPadValidWrong : ChangeSpec := { name := "fnExactPadValid", fn := fun _ => fun
  | [d] => { results := [.lit (.bool false)], args := [d] }
  | _ => none }
def FnExactPadValidWrongFalsely : Prop := fnExactPadValidRow.holds Try.pinned (OpenSpec.ofChange fnExactPadValidWrong)

/-- 'laws.FnExactPadOrder': WHATEVER THE INPUT: true; the input reads as it did. -/
def fnExactPadOrderSpec : ChangeSpec := { name := "fnExactPadOrder", fn := fun _ => fun
  | [d1, d2] => { results := [.lit (.bool true)], args := [d1, d2] }
  | _ => none }
def fnExactPadOrderRow : OpenClaim := { program := "ytbeaandjhlpaeaa", sum := "de649778f61b33e91febca327e8cb6ff6edd3e6f8c445f75776d5284a4ec379a", func := "loop.example/shorthand/laws.FnExactPadOrder", spec := "fnExactPadOrder", inPlace := ["internal/bytealg.abigen_runtime_cmpstring"], apart := false }
def FnExactPadOrderSaid : Prop := fnExactPadOrderRow.holds Try.pinned (OpenSpec.ofChange fnExactPadOrderSpec)

/-- ITS FALSE NEIGHBOUR: 'it returns false'. Refute it at one input. -/
def fnExactPadOrderWrong : ChangeSpec := { name := "fnExactPadOrder", fn := fun _ => fun
  | [d1, d2] => { results := [.lit (.bool false)], args := [d1, d2] }
  | _ => none }
def FnExactPadOrderWrongFalsely : Prop := fnExactPadOrderRow.holds Try.pinned (OpenSpec.ofChange fnExactPadOrderWrong)

/-- 'laws.FnPadOrder': WHATEVER THE INPUT: true; the input reads as it did. -/
def fnPadOrderSpec : ChangeSpec := { name := "fnPadOrder", fn := fun _ => fun
  | [d] => { results := [.lit (.bool true)], args := [d] }
  | _ => none }
def fnPadOrderRow : OpenClaim := { program := "ytbeaandjhlpaeaa", sum := "de649778f61b33e91febca327e8cb6ff6edd3e6f8c445f75776d5284a4ec379a", func := "loop.example/shorthand/laws.FnPadOrder", spec := "fnPadOrder", inPlace := ["internal/bytealg.abigen_runtime_cmpstring"], apart := false }
def FnPadOrderSaid : Prop := fnPadOrderRow.holds Try.pinned (OpenSpec.ofChange fnPadOrderSpec)

/-- ITS FALSE NEIGHBOUR: 'it returns false'. Refute it at one input. -/
def fnPadOrderWrong : ChangeSpec := { name := "fnPadOrder", fn := fun _ => fun
  | [d] => { results := [.lit (.bool false)], args := [d] }
  | _ => none }
def FnPadOrderWrongFalsely : Prop := fnPadOrderRow.holds Try.pinned (OpenSpec.ofChange fnPadOrderWrong)

/-- 'laws.FnExactCabinetValid': WHATEVER THE INPUT: true; the input reads as it did. -/
def fnExactCabinetValidSpec : ChangeSpec := { name := "fnExactCabinetValid", fn := fun _ => fun
  | [d] => { results := [.lit (.bool true)], args := [d] }
  | _ => none }
def fnExactCabinetValidRow : OpenClaim := { program := "ytbeaandjhlpaeaa", sum := "de649778f61b33e91febca327e8cb6ff6edd3e6f8c445f75776d5284a4ec379a", func := "loop.example/shorthand/laws.FnExactCabinetValid", spec := "fnExactCabinetValid", inPlace := ["internal/bytealg.abigen_runtime_cmpstring"], apart := false }
def FnExactCabinetValidSaid : Prop := fnExactCabinetValidRow.holds Try.pinned (OpenSpec.ofChange fnExactCabinetValidSpec)

/-- ITS FALSE NEIGHBOUR: 'it returns false'. Refute it at one input. -/
def fnExactCabinetValidWrong : ChangeSpec := { name := "fnExactCabinetValid", fn := fun _ => fun
  | [d] => { results := [.lit (.bool false)], args := [d] }
  | _ => none }
def FnExactCabinetValidWrongFalsely : Prop := fnExactCabinetValidRow.holds Try.pinned (OpenSpec.ofChange fnExactCabinetValidWrong)

/-- 'laws.FnExactCabinetCount': WHATEVER THE INPUT: true; the input reads as it did. -/
def fnExactCabinetCountSpec : ChangeSpec := { name := "fnExactCabinetCount", fn := fun _ => fun
  | [d] => { results := [.lit (.bool true)], args := [d] }
  | _ => none }
def fnExactCabinetCountRow : OpenClaim := { program := "ytbeaandjhlpaeaa", sum := "de649778f61b33e91febca327e8cb6ff6edd3e6f8c445f75776d5284a4ec379a", func := "loop.example/shorthand/laws.FnExactCabinetCount", spec := "fnExactCabinetCount", inPlace := ["internal/bytealg.abigen_runtime_cmpstring"], apart := false }
def FnExactCabinetCountSaid : Prop := fnExactCabinetCountRow.holds Try.pinned (OpenSpec.ofChange fnExactCabinetCountSpec)

/-- ITS FALSE NEIGHBOUR: 'it returns false'. Refute it at one input. -/
def fnExactCabinetCountWrong : ChangeSpec := { name := "fnExactCabinetCount", fn := fun _ => fun
  | [d] => { results := [.lit (.bool false)], args := [d] }
  | _ => none }
def FnExactCabinetCountWrongFalsely : Prop := fnExactCabinetCountRow.holds Try.pinned (OpenSpec.ofChange fnExactCabinetCountWrong)

/-- 'laws.FnExactCabinetFind': WHATEVER THE INPUT: true; the input reads as it did. -/
def fnExactCabinetFindSpec : ChangeSpec := { name := "fnExactCabinetFind", fn := fun _ => fun
  | [d1, d2] => { results := [.lit (.bool true)], args := [d1, d2] }
  | _ => none }
def fnExactCabinetFindRow : OpenClaim := { program := "ytbeaandjhlpaeaa", sum := "de649778f61b33e91febca327e8cb6ff6edd3e6f8c445f75776d5284a4ec379a", func := "loop.example/shorthand/laws.FnExactCabinetFind", spec := "fnExactCabinetFind", inPlace := ["internal/bytealg.abigen_runtime_cmpstring"], unfollowed := true, recurses := true, apart := false }
def FnExactCabinetFindSaid : Prop := fnExactCabinetFindRow.holds Try.pinned (OpenSpec.ofChange fnExactCabinetFindSpec)

/-- ITS FALSE NEIGHBOUR: 'it returns false'. Refute it at one input. -/
def fnExactCabinetFindWrong : ChangeSpec := { name := "fnExactCabinetFind", fn := fun _ => fun
  | [d1, d2] => { results := [.lit (.bool false)], args := [d1, d2] }
  | _ => none }
def FnExactCabinetFindWrongFalsely : Prop := fnExactCabinetFindRow.holds Try.pinned (OpenSpec.ofChange fnExactCabinetFindWrong)

/-- 'laws.FnCabinet': WHATEVER THE INPUT: true; the input reads as it did. -/
def fnCabinetSpec : ChangeSpec := { name := "fnCabinet", fn := fun _ => fun
  | [d1, d2] => { results := [.lit (.bool true)], args := [d1, d2] }
  | _ => none }
def fnCabinetRow : OpenClaim := { program := "ytbeaandjhlpaeaa", sum := "de649778f61b33e91febca327e8cb6ff6edd3e6f8c445f75776d5284a4ec379a", func := "loop.example/shorthand/laws.FnCabinet", spec := "fnCabinet", inPlace := ["internal/bytealg.abigen_runtime_cmpstring"], apart := false }
def FnCabinetSaid : Prop := fnCabinetRow.holds Try.pinned (OpenSpec.ofChange fnCabinetSpec)

/-- ITS FALSE NEIGHBOUR: 'it returns false'. Refute it at one input. -/
def fnCabinetWrong : ChangeSpec := { name := "fnCabinet", fn := fun _ => fun
  | [d1, d2] => { results := [.lit (.bool false)], args := [d1, d2] }
  | _ => none }
def FnCabinetWrongFalsely : Prop := fnCabinetRow.holds Try.pinned (OpenSpec.ofChange fnCabinetWrong)

/-- 'laws.FnExactCabinetPads': WHATEVER THE INPUT: true; the input reads as it did. -/
def fnExactCabinetPadsSpec : ChangeSpec := { name := "fnExactCabinetPads", fn := fun _ => fun
  | [d] => { results := [.lit (.bool true)], args := [d] }
  | _ => none }
def fnExactCabinetPadsRow : OpenClaim := { program := "ytbeaandjhlpaeaa", sum := "de649778f61b33e91febca327e8cb6ff6edd3e6f8c445f75776d5284a4ec379a", func := "loop.example/shorthand/laws.FnExactCabinetPads", spec := "fnExactCabinetPads", inPlace := ["internal/bytealg.abigen_runtime_cmpstring"], apart := false }
def FnExactCabinetPadsSaid : Prop := fnExactCabinetPadsRow.holds Try.pinned (OpenSpec.ofChange fnExactCabinetPadsSpec)

/-- ITS FALSE NEIGHBOUR: 'it returns false'. Refute it at one input. -/
def fnExactCabinetPadsWrong : ChangeSpec := { name := "fnExactCabinetPads", fn := fun _ => fun
  | [d] => { results := [.lit (.bool false)], args := [d] }
  | _ => none }
def FnExactCabinetPadsWrongFalsely : Prop := fnExactCabinetPadsRow.holds Try.pinned (OpenSpec.ofChange fnExactCabinetPadsWrong)

/-- 'laws.FnExactCabinetCase': WHATEVER THE INPUT: true; the input reads as it did. -/
def fnExactCabinetCaseSpec : ChangeSpec := { name := "fnExactCabinetCase", fn := fun _ => fun
  | [d1, d2] => { results := [.lit (.bool true)], args := [d1, d2] }
  | _ => none }
def fnExactCabinetCaseRow : OpenClaim := { program := "ytbeaandjhlpaeaa", sum := "de649778f61b33e91febca327e8cb6ff6edd3e6f8c445f75776d5284a4ec379a", func := "loop.example/shorthand/laws.FnExactCabinetCase", spec := "fnExactCabinetCase", inPlace := ["internal/bytealg.abigen_runtime_cmpstring"], apart := false }
def FnExactCabinetCaseSaid : Prop := fnExactCabinetCaseRow.holds Try.pinned (OpenSpec.ofChange fnExactCabinetCaseSpec)

/-- ITS FALSE NEIGHBOUR: 'it returns false'. Refute it at one input. -/
def fnExactCabinetCaseWrong : ChangeSpec := { name := "fnExactCabinetCase", fn := fun _ => fun
  | [d1, d2] => { results := [.lit (.bool false)], args := [d1, d2] }
  | _ => none }
def FnExactCabinetCaseWrongFalsely : Prop := fnExactCabinetCaseRow.holds Try.pinned (OpenSpec.ofChange fnExactCabinetCaseWrong)

/-- 'laws.FnExactCabinetBetween': WHATEVER THE INPUT: true; the input reads as it did. -/
def fnExactCabinetBetweenSpec : ChangeSpec := { name := "fnExactCabinetBetween", fn := fun _ => fun
  | [d1, d2, d3] => { results := [.lit (.bool true)], args := [d1, d2, d3] }
  | _ => none }
def fnExactCabinetBetweenRow : OpenClaim := { program := "ytbeaandjhlpaeaa", sum := "de649778f61b33e91febca327e8cb6ff6edd3e6f8c445f75776d5284a4ec379a", func := "loop.example/shorthand/laws.FnExactCabinetBetween", spec := "fnExactCabinetBetween", inPlace := ["internal/bytealg.abigen_runtime_cmpstring"], unfollowed := true, recurses := true, apart := false }
def FnExactCabinetBetweenSaid : Prop := fnExactCabinetBetweenRow.holds Try.pinned (OpenSpec.ofChange fnExactCabinetBetweenSpec)

/-- ITS FALSE NEIGHBOUR: 'it returns false'. Refute it at one input. -/
def fnExactCabinetBetweenWrong : ChangeSpec := { name := "fnExactCabinetBetween", fn := fun _ => fun
  | [d1, d2, d3] => { results := [.lit (.bool false)], args := [d1, d2, d3] }
  | _ => none }
def FnExactCabinetBetweenWrongFalsely : Prop := fnExactCabinetBetweenRow.holds Try.pinned (OpenSpec.ofChange fnExactCabinetBetweenWrong)

/-- 'laws.FnBetween': WHATEVER THE INPUT: true; the input reads as it did. -/
def fnBetweenSpec : ChangeSpec := { name := "fnBetween", fn := fun _ => fun
  | [d1, d2] => { results := [.lit (.bool true)], args := [d1, d2] }
  | _ => none }
def fnBetweenRow : OpenClaim := { program := "ytbeaandjhlpaeaa", sum := "de649778f61b33e91febca327e8cb6ff6edd3e6f8c445f75776d5284a4ec379a", func := "loop.example/shorthand/laws.FnBetween", spec := "fnBetween", inPlace := ["internal/bytealg.abigen_runtime_cmpstring"], unfollowed := true, recurses := true, apart := false }
def FnBetweenSaid : Prop := fnBetweenRow.holds Try.pinned (OpenSpec.ofChange fnBetweenSpec)

/-- ITS FALSE NEIGHBOUR: 'it returns false'. Refute it at one input. -/
def fnBetweenWrong : ChangeSpec := { name := "fnBetween", fn := fun _ => fun
  | [d1, d2] => { results := [.lit (.bool false)], args := [d1, d2] }
  | _ => none }
def FnBetweenWrongFalsely : Prop := fnBetweenRow.holds Try.pinned (OpenSpec.ofChange fnBetweenWrong)

/-- 'laws.FnCase': WHATEVER THE INPUT: true; the input reads as it did. -/
def fnCaseSpec : ChangeSpec := { name := "fnCase", fn := fun _ => fun
  | [d] => { results := [.lit (.bool true)], args := [d] }
  | _ => none }
def fnCaseRow : OpenClaim := { program := "ytbeaandjhlpaeaa", sum := "de649778f61b33e91febca327e8cb6ff6edd3e6f8c445f75776d5284a4ec379a", func := "loop.example/shorthand/laws.FnCase", spec := "fnCase", inPlace := ["internal/bytealg.abigen_runtime_cmpstring"], unfollowed := true, recurses := true, apart := false }
def FnCaseSaid : Prop := fnCaseRow.holds Try.pinned (OpenSpec.ofChange fnCaseSpec)

/-- ITS FALSE NEIGHBOUR: 'it returns false'. Refute it at one input. -/
def fnCaseWrong : ChangeSpec := { name := "fnCase", fn := fun _ => fun
  | [d] => { results := [.lit (.bool false)], args := [d] }
  | _ => none }
def FnCaseWrongFalsely : Prop := fnCaseRow.holds Try.pinned (OpenSpec.ofChange fnCaseWrong)

/- THE SECOND FORM. 'bulk': how many values and letters a reading holds, each counted each time it is reached (what is shared counts as often as it is met; a slice's spare places count too). A statement '..UptoSaid' is the law's where the arguments, and the package variables that the reading takes, are together of bulk at most 1048576: NARROWER than '..Said'. Prove '..Said' where nothing that the law and all that it calls make is longer than what came in: it says more and counts as full. Else prove '..UptoSaid'. A law counts once. -/
mutual
def uptoBulk {H : Type} : DataW H → Nat
  | .lit (.string bytes) => bytes.length + 1
  | .lit _ => 1
  | .nil => 1
  | .ptr d => uptoBulk d + 1
  | .slice elems spare => uptoBulkAll elems + uptoBulkAll spare + 1
  | .agg parts => uptoBulkAll parts + 1
  | .iface _ d => uptoBulk d + 1
  | .map entries => uptoBulkEntries entries + 1
  | .held _ => 1
def uptoBulkAll {H : Type} : List (DataW H) → Nat
  | [] => 0
  | d :: r => uptoBulk d + uptoBulkAll r
def uptoBulkEntries {H : Type} : List (Lit × DataW H) → Nat
  | [] => 0
  | x :: r => uptoBulkEntry x + uptoBulkEntries r
def uptoBulkEntry {H : Type} : Lit × DataW H → Nat
  | (.string bytes, d) => bytes.length + uptoBulk d + 1
  | (_, d) => uptoBulk d + 1
 end
def uptoSmall : (H : Type) → List (DataW H) → Bool := fun _ ds => decide (uptoBulkAll ds ≤ 1048576)
def OpenSpec.upto (s : _root_.Go.ChangeSpec) : _root_.Go.OpenSpec := { _root_.Go.OpenSpec.ofChange s with cond := some uptoSmall }

/-- 'laws.FnExactPadValid', WHERE WHAT IT READS IS OF BULK AT MOST 1048576: true; the input reads as it did. -/
def fnExactPadValidUptoRow : OpenClaim := { program := "ytbeaandjhlpaeaa", sum := "de649778f61b33e91febca327e8cb6ff6edd3e6f8c445f75776d5284a4ec379a", func := "loop.example/shorthand/laws.FnExactPadValid", spec := "fnExactPadValid", apart := false, narrowed := true }
def FnExactPadValidUptoSaid : Prop := fnExactPadValidUptoRow.holds Try.pinned (OpenSpec.upto fnExactPadValidSpec)

/-- 'laws.FnExactPadOrder', WHERE WHAT IT READS IS OF BULK AT MOST 1048576: true; the input reads as it did. -/
def fnExactPadOrderUptoRow : OpenClaim := { program := "ytbeaandjhlpaeaa", sum := "de649778f61b33e91febca327e8cb6ff6edd3e6f8c445f75776d5284a4ec379a", func := "loop.example/shorthand/laws.FnExactPadOrder", spec := "fnExactPadOrder", inPlace := ["internal/bytealg.abigen_runtime_cmpstring"], apart := false, narrowed := true }
def FnExactPadOrderUptoSaid : Prop := fnExactPadOrderUptoRow.holds Try.pinned (OpenSpec.upto fnExactPadOrderSpec)

/-- 'laws.FnPadOrder', WHERE WHAT IT READS IS OF BULK AT MOST 1048576: true; the input reads as it did. -/
def fnPadOrderUptoRow : OpenClaim := { program := "ytbeaandjhlpaeaa", sum := "de649778f61b33e91febca327e8cb6ff6edd3e6f8c445f75776d5284a4ec379a", func := "loop.example/shorthand/laws.FnPadOrder", spec := "fnPadOrder", inPlace := ["internal/bytealg.abigen_runtime_cmpstring"], apart := false, narrowed := true }
def FnPadOrderUptoSaid : Prop := fnPadOrderUptoRow.holds Try.pinned (OpenSpec.upto fnPadOrderSpec)

/-- 'laws.FnExactCabinetValid', WHERE WHAT IT READS IS OF BULK AT MOST 1048576: true; the input reads as it did. -/
def fnExactCabinetValidUptoRow : OpenClaim := { program := "ytbeaandjhlpaeaa", sum := "de649778f61b33e91febca327e8cb6ff6edd3e6f8c445f75776d5284a4ec379a", func := "loop.example/shorthand/laws.FnExactCabinetValid", spec := "fnExactCabinetValid", inPlace := ["internal/bytealg.abigen_runtime_cmpstring"], apart := false, narrowed := true }
def FnExactCabinetValidUptoSaid : Prop := fnExactCabinetValidUptoRow.holds Try.pinned (OpenSpec.upto fnExactCabinetValidSpec)

/-- 'laws.FnExactCabinetCount', WHERE WHAT IT READS IS OF BULK AT MOST 1048576: true; the input reads as it did. -/
def fnExactCabinetCountUptoRow : OpenClaim := { program := "ytbeaandjhlpaeaa", sum := "de649778f61b33e91febca327e8cb6ff6edd3e6f8c445f75776d5284a4ec379a", func := "loop.example/shorthand/laws.FnExactCabinetCount", spec := "fnExactCabinetCount", inPlace := ["internal/bytealg.abigen_runtime_cmpstring"], apart := false, narrowed := true }
def FnExactCabinetCountUptoSaid : Prop := fnExactCabinetCountUptoRow.holds Try.pinned (OpenSpec.upto fnExactCabinetCountSpec)

/-- 'laws.FnExactCabinetFind', WHERE WHAT IT READS IS OF BULK AT MOST 1048576: true; the input reads as it did. -/
def fnExactCabinetFindUptoRow : OpenClaim := { program := "ytbeaandjhlpaeaa", sum := "de649778f61b33e91febca327e8cb6ff6edd3e6f8c445f75776d5284a4ec379a", func := "loop.example/shorthand/laws.FnExactCabinetFind", spec := "fnExactCabinetFind", inPlace := ["internal/bytealg.abigen_runtime_cmpstring"], unfollowed := true, recurses := true, apart := false, narrowed := true }
def FnExactCabinetFindUptoSaid : Prop := fnExactCabinetFindUptoRow.holds Try.pinned (OpenSpec.upto fnExactCabinetFindSpec)

/-- 'laws.FnCabinet', WHERE WHAT IT READS IS OF BULK AT MOST 1048576: true; the input reads as it did. -/
def fnCabinetUptoRow : OpenClaim := { program := "ytbeaandjhlpaeaa", sum := "de649778f61b33e91febca327e8cb6ff6edd3e6f8c445f75776d5284a4ec379a", func := "loop.example/shorthand/laws.FnCabinet", spec := "fnCabinet", inPlace := ["internal/bytealg.abigen_runtime_cmpstring"], apart := false, narrowed := true }
def FnCabinetUptoSaid : Prop := fnCabinetUptoRow.holds Try.pinned (OpenSpec.upto fnCabinetSpec)

/-- 'laws.FnExactCabinetPads', WHERE WHAT IT READS IS OF BULK AT MOST 1048576: true; the input reads as it did. -/
def fnExactCabinetPadsUptoRow : OpenClaim := { program := "ytbeaandjhlpaeaa", sum := "de649778f61b33e91febca327e8cb6ff6edd3e6f8c445f75776d5284a4ec379a", func := "loop.example/shorthand/laws.FnExactCabinetPads", spec := "fnExactCabinetPads", inPlace := ["internal/bytealg.abigen_runtime_cmpstring"], apart := false, narrowed := true }
def FnExactCabinetPadsUptoSaid : Prop := fnExactCabinetPadsUptoRow.holds Try.pinned (OpenSpec.upto fnExactCabinetPadsSpec)

/-- 'laws.FnExactCabinetCase', WHERE WHAT IT READS IS OF BULK AT MOST 1048576: true; the input reads as it did. -/
def fnExactCabinetCaseUptoRow : OpenClaim := { program := "ytbeaandjhlpaeaa", sum := "de649778f61b33e91febca327e8cb6ff6edd3e6f8c445f75776d5284a4ec379a", func := "loop.example/shorthand/laws.FnExactCabinetCase", spec := "fnExactCabinetCase", inPlace := ["internal/bytealg.abigen_runtime_cmpstring"], apart := false, narrowed := true }
def FnExactCabinetCaseUptoSaid : Prop := fnExactCabinetCaseUptoRow.holds Try.pinned (OpenSpec.upto fnExactCabinetCaseSpec)

/-- 'laws.FnExactCabinetBetween', WHERE WHAT IT READS IS OF BULK AT MOST 1048576: true; the input reads as it did. -/
def fnExactCabinetBetweenUptoRow : OpenClaim := { program := "ytbeaandjhlpaeaa", sum := "de649778f61b33e91febca327e8cb6ff6edd3e6f8c445f75776d5284a4ec379a", func := "loop.example/shorthand/laws.FnExactCabinetBetween", spec := "fnExactCabinetBetween", inPlace := ["internal/bytealg.abigen_runtime_cmpstring"], unfollowed := true, recurses := true, apart := false, narrowed := true }
def FnExactCabinetBetweenUptoSaid : Prop := fnExactCabinetBetweenUptoRow.holds Try.pinned (OpenSpec.upto fnExactCabinetBetweenSpec)

/-- 'laws.FnBetween', WHERE WHAT IT READS IS OF BULK AT MOST 1048576: true; the input reads as it did. -/
def fnBetweenUptoRow : OpenClaim := { program := "ytbeaandjhlpaeaa", sum := "de649778f61b33e91febca327e8cb6ff6edd3e6f8c445f75776d5284a4ec379a", func := "loop.example/shorthand/laws.FnBetween", spec := "fnBetween", inPlace := ["internal/bytealg.abigen_runtime_cmpstring"], unfollowed := true, recurses := true, apart := false, narrowed := true }
def FnBetweenUptoSaid : Prop := fnBetweenUptoRow.holds Try.pinned (OpenSpec.upto fnBetweenSpec)

/-- 'laws.FnCase', WHERE WHAT IT READS IS OF BULK AT MOST 1048576: true; the input reads as it did. -/
def fnCaseUptoRow : OpenClaim := { program := "ytbeaandjhlpaeaa", sum := "de649778f61b33e91febca327e8cb6ff6edd3e6f8c445f75776d5284a4ec379a", func := "loop.example/shorthand/laws.FnCase", spec := "fnCase", inPlace := ["internal/bytealg.abigen_runtime_cmpstring"], unfollowed := true, recurses := true, apart := false, narrowed := true }
def FnCaseUptoSaid : Prop := fnCaseUptoRow.holds Try.pinned (OpenSpec.upto fnCaseSpec)

end Rows
end Go.Proofs.Ytbeaandjhlpaeaa
