/-
  No cell of these rows narrows 'for every input' (looked for: loops, veiled, ifaces, maps, wideKeys, modest, calm, conditions, laid).
  DERIVED. THE GIVEN ROWS OF THIS SEAT. 12 by the template 'for every input the law returns true; each argument reads behind the call as it read before'; 0 by the template 'total and deterministic' (their statements: YtfbfapobmhfenaaTotals.lean).
  GIVEN WITH THE SEED: the statements are not yours to turn. If you find one false, say at which input.
  Laid BY PROGRAM, IN A SANDBOX (cutbox-rows.mjs): the forced cells as the released guide's own fill.sh prints them over the translation ef2d617285edeb48… (all of the seat's roots in one cut). By AI agents, Wed Nov 11 2026. No macro, syntax, notation, axiom, sorry.
-/
import Derived.Test.YtfbfapobmhfenaaChecked
import GoSem.Claim
import GoSem.ClaimJoined
import GoSem.ClaimMapViews
import Derived.JoinedTies
import Derived.KernelRfl
namespace Go.Proofs.Ytfbfapobmhfenaa
/- THE CELL 'sum', in the pinned program and in every row, IS THE sha256 OF THE DUMP (.gsa) THAT YtfbfapobmhfenaaProg.lean LOADS. Nothing in Lean hashes anything: it is a label: what it is worth is what the hold of that sum in a sandbox is worth. -/
noncomputable def Try.pinned : Pinned := { name := "ytfbfapobmhfenaa", sum := "ef2d617285edeb48f4fd4beea6cf9110637ddad2383a24cae9fbc96984bc4761", checked := Try.checked }
namespace Rows
def none {H : Type} : Left H := { results := [], args := [] }

/-- 'laws.FnExactCabinetPack': WHATEVER THE INPUT: true; the input reads as it did. -/
def fnExactCabinetPackSpec : ChangeSpec := { name := "fnExactCabinetPack", fn := fun _ => fun
  | [d] => { results := [.lit (.bool true)], args := [d] }
  | _ => none }
def fnExactCabinetPackRow : OpenClaim := { program := "ytfbfapobmhfenaa", sum := "ef2d617285edeb48f4fd4beea6cf9110637ddad2383a24cae9fbc96984bc4761", func := "loop.example/shorthand/laws.FnExactCabinetPack", spec := "fnExactCabinetPack", inPlace := ["internal/bytealg.abigen_runtime_cmpstring"], unfollowed := true, recurses := true, apart := false }
def FnExactCabinetPackSaid : Prop := fnExactCabinetPackRow.holds Try.pinned (OpenSpec.ofChange fnExactCabinetPackSpec)

/-- ITS FALSE NEIGHBOUR: 'it returns false'. Refute it at one input. -/
def fnExactCabinetPackWrong : ChangeSpec := { name := "fnExactCabinetPack", fn := fun _ => fun
  | [d] => { results := [.lit (.bool false)], args := [d] }
  | _ => none }
def FnExactCabinetPackWrongFalsely : Prop := fnExactCabinetPackRow.holds Try.pinned (OpenSpec.ofChange fnExactCabinetPackWrong)

/-- 'laws.FnExactCabinetClear': WHATEVER THE INPUT: true; the input reads as it did. -/
def fnExactCabinetClearSpec : ChangeSpec := { name := "fnExactCabinetClear", fn := fun _ => fun
  | [d1, d2] => { results := [.lit (.bool true)], args := [d1, d2] }
  | _ => none }
def fnExactCabinetClearRow : OpenClaim := { program := "ytfbfapobmhfenaa", sum := "ef2d617285edeb48f4fd4beea6cf9110637ddad2383a24cae9fbc96984bc4761", func := "loop.example/shorthand/laws.FnExactCabinetClear", spec := "fnExactCabinetClear", inPlace := ["internal/bytealg.abigen_runtime_cmpstring"], unfollowed := true, recurses := true, apart := false }
def FnExactCabinetClearSaid : Prop := fnExactCabinetClearRow.holds Try.pinned (OpenSpec.ofChange fnExactCabinetClearSpec)

/-- ITS FALSE NEIGHBOUR: 'it returns false'. Refute it at one input. -/
def fnExactCabinetClearWrong : ChangeSpec := { name := "fnExactCabinetClear", fn := fun _ => fun
  | [d1, d2] => { results := [.lit (.bool false)], args := [d1, d2] }
  | _ => none }
def FnExactCabinetClearWrongFalsely : Prop := fnExactCabinetClearRow.holds Try.pinned (OpenSpec.ofChange fnExactCabinetClearWrong)

/-- 'laws.FnPack': WHATEVER THE INPUT: true; the input reads as it did. -/
def fnPackSpec : ChangeSpec := { name := "fnPack", fn := fun _ => fun
  | [d] => { results := [.lit (.bool true)], args := [d] }
  | _ => none }
def fnPackRow : OpenClaim := { program := "ytfbfapobmhfenaa", sum := "ef2d617285edeb48f4fd4beea6cf9110637ddad2383a24cae9fbc96984bc4761", func := "loop.example/shorthand/laws.FnPack", spec := "fnPack", inPlace := ["internal/bytealg.abigen_runtime_cmpstring"], unfollowed := true, recurses := true, apart := false }
def FnPackSaid : Prop := fnPackRow.holds Try.pinned (OpenSpec.ofChange fnPackSpec)

/-- ITS FALSE NEIGHBOUR: 'it returns false'. Refute it at one input. -/
def fnPackWrong : ChangeSpec := { name := "fnPack", fn := fun _ => fun
  | [d] => { results := [.lit (.bool false)], args := [d] }
  | _ => none }
def FnPackWrongFalsely : Prop := fnPackRow.holds Try.pinned (OpenSpec.ofChange fnPackWrong)

/-- 'laws.FnClear': WHATEVER THE INPUT: true; the input reads as it did. -/
def fnClearSpec : ChangeSpec := { name := "fnClear", fn := fun _ => fun
  | [d] => { results := [.lit (.bool true)], args := [d] }
  | _ => none }
def fnClearRow : OpenClaim := { program := "ytfbfapobmhfenaa", sum := "ef2d617285edeb48f4fd4beea6cf9110637ddad2383a24cae9fbc96984bc4761", func := "loop.example/shorthand/laws.FnClear", spec := "fnClear", inPlace := ["internal/bytealg.abigen_runtime_cmpstring"], unfollowed := true, recurses := true, apart := false }
def FnClearSaid : Prop := fnClearRow.holds Try.pinned (OpenSpec.ofChange fnClearSpec)

/-- ITS FALSE NEIGHBOUR: 'it returns false'. Refute it at one input. -/
def fnClearWrong : ChangeSpec := { name := "fnClear", fn := fun _ => fun
  | [d] => { results := [.lit (.bool false)], args := [d] }
  | _ => none }
def FnClearWrongFalsely : Prop := fnClearRow.holds Try.pinned (OpenSpec.ofChange fnClearWrong)

/-- 'laws.FnExactCabinetTake': WHATEVER THE INPUT: true; the input reads as it did. -/
def fnExactCabinetTakeSpec : ChangeSpec := { name := "fnExactCabinetTake", fn := fun _ => fun
  | [d1, d2] => { results := [.lit (.bool true)], args := [d1, d2] }
  | _ => none }
def fnExactCabinetTakeRow : OpenClaim := { program := "ytfbfapobmhfenaa", sum := "ef2d617285edeb48f4fd4beea6cf9110637ddad2383a24cae9fbc96984bc4761", func := "loop.example/shorthand/laws.FnExactCabinetTake", spec := "fnExactCabinetTake", inPlace := ["internal/bytealg.abigen_runtime_cmpstring"], unfollowed := true, recurses := true, apart := false }
def FnExactCabinetTakeSaid : Prop := fnExactCabinetTakeRow.holds Try.pinned (OpenSpec.ofChange fnExactCabinetTakeSpec)

/-- ITS FALSE NEIGHBOUR: 'it returns false'. Refute it at one input. -/
def fnExactCabinetTakeWrong : ChangeSpec := { name := "fnExactCabinetTake", fn := fun _ => fun
  | [d1, d2] => { results := [.lit (.bool false)], args := [d1, d2] }
  | _ => none }
def FnExactCabinetTakeWrongFalsely : Prop := fnExactCabinetTakeRow.holds Try.pinned (OpenSpec.ofChange fnExactCabinetTakeWrong)

/-- 'laws.FnTake': WHATEVER THE INPUT: true; the input reads as it did. -/
def fnTakeSpec : ChangeSpec := { name := "fnTake", fn := fun _ => fun
  | [d] => { results := [.lit (.bool true)], args := [d] }
  | _ => none }
def fnTakeRow : OpenClaim := { program := "ytfbfapobmhfenaa", sum := "ef2d617285edeb48f4fd4beea6cf9110637ddad2383a24cae9fbc96984bc4761", func := "loop.example/shorthand/laws.FnTake", spec := "fnTake", inPlace := ["internal/bytealg.abigen_runtime_cmpstring"], unfollowed := true, recurses := true, apart := false }
def FnTakeSaid : Prop := fnTakeRow.holds Try.pinned (OpenSpec.ofChange fnTakeSpec)

/-- ITS FALSE NEIGHBOUR: 'it returns false'. Refute it at one input. -/
def fnTakeWrong : ChangeSpec := { name := "fnTake", fn := fun _ => fun
  | [d] => { results := [.lit (.bool false)], args := [d] }
  | _ => none }
def FnTakeWrongFalsely : Prop := fnTakeRow.holds Try.pinned (OpenSpec.ofChange fnTakeWrong)

/-- 'laws.FnExactCabinetOf': WHATEVER THE INPUT: true; the input reads as it did. -/
def fnExactCabinetOfSpec : ChangeSpec := { name := "fnExactCabinetOf", fn := fun _ => fun
  | [d] => { results := [.lit (.bool true)], args := [d] }
  | _ => none }
def fnExactCabinetOfRow : OpenClaim := { program := "ytfbfapobmhfenaa", sum := "ef2d617285edeb48f4fd4beea6cf9110637ddad2383a24cae9fbc96984bc4761", func := "loop.example/shorthand/laws.FnExactCabinetOf", spec := "fnExactCabinetOf", inPlace := ["internal/bytealg.abigen_runtime_cmpstring", "slices.overlaps[loop.example/shorthand/impl.Pad]", "slices.overlaps[*loop.example/shorthand/impl.drawerLeaf]"], unfollowed := true, recurses := true, apart := false }
def FnExactCabinetOfSaid : Prop := fnExactCabinetOfRow.holds Try.pinned (OpenSpec.ofChange fnExactCabinetOfSpec)

/-- ITS FALSE NEIGHBOUR: 'it returns false'. Refute it at one input. -/
def fnExactCabinetOfWrong : ChangeSpec := { name := "fnExactCabinetOf", fn := fun _ => fun
  | [d] => { results := [.lit (.bool false)], args := [d] }
  | _ => none }
def FnExactCabinetOfWrongFalsely : Prop := fnExactCabinetOfRow.holds Try.pinned (OpenSpec.ofChange fnExactCabinetOfWrong)

/-- 'laws.FnPads': WHATEVER THE INPUT: true; the input reads as it did. -/
def fnPadsSpec : ChangeSpec := { name := "fnPads", fn := fun _ => fun
  | [d] => { results := [.lit (.bool true)], args := [d] }
  | _ => none }
def fnPadsRow : OpenClaim := { program := "ytfbfapobmhfenaa", sum := "ef2d617285edeb48f4fd4beea6cf9110637ddad2383a24cae9fbc96984bc4761", func := "loop.example/shorthand/laws.FnPads", spec := "fnPads", inPlace := ["internal/bytealg.abigen_runtime_cmpstring", "slices.overlaps[loop.example/shorthand/impl.Pad]", "slices.overlaps[*loop.example/shorthand/impl.drawerLeaf]"], unfollowed := true, recurses := true, apart := false }
def FnPadsSaid : Prop := fnPadsRow.holds Try.pinned (OpenSpec.ofChange fnPadsSpec)

/-- ITS FALSE NEIGHBOUR: 'it returns false'. Refute it at one input. -/
def fnPadsWrong : ChangeSpec := { name := "fnPads", fn := fun _ => fun
  | [d] => { results := [.lit (.bool false)], args := [d] }
  | _ => none }
def FnPadsWrongFalsely : Prop := fnPadsRow.holds Try.pinned (OpenSpec.ofChange fnPadsWrong)

/-- 'laws.FnCabinetOf': WHATEVER THE INPUT: true; the input reads as it did. -/
def fnCabinetOfSpec : ChangeSpec := { name := "fnCabinetOf", fn := fun _ => fun
  | [d1, d2] => { results := [.lit (.bool true)], args := [d1, d2] }
  | _ => none }
def fnCabinetOfRow : OpenClaim := { program := "ytfbfapobmhfenaa", sum := "ef2d617285edeb48f4fd4beea6cf9110637ddad2383a24cae9fbc96984bc4761", func := "loop.example/shorthand/laws.FnCabinetOf", spec := "fnCabinetOf", inPlace := ["internal/bytealg.abigen_runtime_cmpstring", "slices.overlaps[loop.example/shorthand/impl.Pad]", "slices.overlaps[*loop.example/shorthand/impl.drawerLeaf]"], unfollowed := true, recurses := true, apart := false }
def FnCabinetOfSaid : Prop := fnCabinetOfRow.holds Try.pinned (OpenSpec.ofChange fnCabinetOfSpec)

/-- ITS FALSE NEIGHBOUR: 'it returns false'. Refute it at one input. -/
def fnCabinetOfWrong : ChangeSpec := { name := "fnCabinetOf", fn := fun _ => fun
  | [d1, d2] => { results := [.lit (.bool false)], args := [d1, d2] }
  | _ => none }
def FnCabinetOfWrongFalsely : Prop := fnCabinetOfRow.holds Try.pinned (OpenSpec.ofChange fnCabinetOfWrong)

/-- 'laws.FnExactCabinetFile': WHATEVER THE INPUT: true; the input reads as it did. -/
def fnExactCabinetFileSpec : ChangeSpec := { name := "fnExactCabinetFile", fn := fun _ => fun
  | [d1, d2] => { results := [.lit (.bool true)], args := [d1, d2] }
  | _ => none }
def fnExactCabinetFileRow : OpenClaim := { program := "ytfbfapobmhfenaa", sum := "ef2d617285edeb48f4fd4beea6cf9110637ddad2383a24cae9fbc96984bc4761", func := "loop.example/shorthand/laws.FnExactCabinetFile", spec := "fnExactCabinetFile", inPlace := ["internal/bytealg.abigen_runtime_cmpstring", "slices.overlaps[loop.example/shorthand/impl.Pad]", "slices.overlaps[*loop.example/shorthand/impl.drawerLeaf]"], unfollowed := true, recurses := true, apart := false }
def FnExactCabinetFileSaid : Prop := fnExactCabinetFileRow.holds Try.pinned (OpenSpec.ofChange fnExactCabinetFileSpec)

/-- ITS FALSE NEIGHBOUR: 'it returns false'. Refute it at one input. -/
def fnExactCabinetFileWrong : ChangeSpec := { name := "fnExactCabinetFile", fn := fun _ => fun
  | [d1, d2] => { results := [.lit (.bool false)], args := [d1, d2] }
  | _ => none }
def FnExactCabinetFileWrongFalsely : Prop := fnExactCabinetFileRow.holds Try.pinned (OpenSpec.ofChange fnExactCabinetFileWrong)

/-- 'laws.FnFind': WHATEVER THE INPUT: true; the input reads as it did. -/
def fnFindSpec : ChangeSpec := { name := "fnFind", fn := fun _ => fun
  | [d] => { results := [.lit (.bool true)], args := [d] }
  | _ => none }
def fnFindRow : OpenClaim := { program := "ytfbfapobmhfenaa", sum := "ef2d617285edeb48f4fd4beea6cf9110637ddad2383a24cae9fbc96984bc4761", func := "loop.example/shorthand/laws.FnFind", spec := "fnFind", inPlace := ["internal/bytealg.abigen_runtime_cmpstring", "slices.overlaps[loop.example/shorthand/impl.Pad]", "slices.overlaps[*loop.example/shorthand/impl.drawerLeaf]"], unfollowed := true, recurses := true, apart := false }
def FnFindSaid : Prop := fnFindRow.holds Try.pinned (OpenSpec.ofChange fnFindSpec)

/-- ITS FALSE NEIGHBOUR: 'it returns false'. Refute it at one input. -/
def fnFindWrong : ChangeSpec := { name := "fnFind", fn := fun _ => fun
  | [d] => { results := [.lit (.bool false)], args := [d] }
  | _ => none }
def FnFindWrongFalsely : Prop := fnFindRow.holds Try.pinned (OpenSpec.ofChange fnFindWrong)

/-- 'laws.FnFile': WHATEVER THE INPUT: true; the input reads as it did. -/
def fnFileSpec : ChangeSpec := { name := "fnFile", fn := fun _ => fun
  | [d] => { results := [.lit (.bool true)], args := [d] }
  | _ => none }
def fnFileRow : OpenClaim := { program := "ytfbfapobmhfenaa", sum := "ef2d617285edeb48f4fd4beea6cf9110637ddad2383a24cae9fbc96984bc4761", func := "loop.example/shorthand/laws.FnFile", spec := "fnFile", inPlace := ["internal/bytealg.abigen_runtime_cmpstring", "slices.overlaps[loop.example/shorthand/impl.Pad]", "slices.overlaps[*loop.example/shorthand/impl.drawerLeaf]"], unfollowed := true, recurses := true, apart := false }
def FnFileSaid : Prop := fnFileRow.holds Try.pinned (OpenSpec.ofChange fnFileSpec)

/-- ITS FALSE NEIGHBOUR: 'it returns false'. Refute it at one input. -/
def fnFileWrong : ChangeSpec := { name := "fnFile", fn := fun _ => fun
  | [d] => { results := [.lit (.bool false)], args := [d] }
  | _ => none }
def FnFileWrongFalsely : Prop := fnFileRow.holds Try.pinned (OpenSpec.ofChange fnFileWrong)

/- THE SECOND FORM. 'bulk': how many values and letters a reading holds, each counted each time it is reached (what is shared counts as often as it is met; a slice's spare places count too). A statement '..UptoSaid' is the law's where the arguments, and the package variables that the reading takes, are together of bulk at most 1048576: NARROWER than '..Said'. Prove '..Said' where nothing that the law and all that it calls make is longer than what came in: it says more and counts as full. Else prove '..UptoSaid'. A law counts once. -/
mutual
def uptoBulk {H : Type} : DataW H → Nat
  | .lit (.string bytes) => bytes.length + 1
  | .lit _ => 1
  | .nil => 1
  | .ptr d => uptoBulk d + 1
  | .slice elems spare => uptoBulkAll elems + uptoBulkAll spare + 1
  | .agg parts => uptoBulkAll parts + 1
  | .iface _ d => uptoBulk d + 1
  | .map entries => uptoBulkEntries entries + 1
  | .held _ => 1
def uptoBulkAll {H : Type} : List (DataW H) → Nat
  | [] => 0
  | d :: r => uptoBulk d + uptoBulkAll r
def uptoBulkEntries {H : Type} : List (Lit × DataW H) → Nat
  | [] => 0
  | x :: r => uptoBulkEntry x + uptoBulkEntries r
def uptoBulkEntry {H : Type} : Lit × DataW H → Nat
  | (.string bytes, d) => bytes.length + uptoBulk d + 1
  | (_, d) => uptoBulk d + 1
 end
def uptoSmall : (H : Type) → List (DataW H) → Bool := fun _ ds => decide (uptoBulkAll ds ≤ 1048576)
def OpenSpec.upto (s : _root_.Go.ChangeSpec) : _root_.Go.OpenSpec := { _root_.Go.OpenSpec.ofChange s with cond := some uptoSmall }

/-- 'laws.FnExactCabinetPack', WHERE WHAT IT READS IS OF BULK AT MOST 1048576: true; the input reads as it did. -/
def fnExactCabinetPackUptoRow : OpenClaim := { program := "ytfbfapobmhfenaa", sum := "ef2d617285edeb48f4fd4beea6cf9110637ddad2383a24cae9fbc96984bc4761", func := "loop.example/shorthand/laws.FnExactCabinetPack", spec := "fnExactCabinetPack", inPlace := ["internal/bytealg.abigen_runtime_cmpstring"], unfollowed := true, recurses := true, apart := false, narrowed := true }
def FnExactCabinetPackUptoSaid : Prop := fnExactCabinetPackUptoRow.holds Try.pinned (OpenSpec.upto fnExactCabinetPackSpec)

/-- 'laws.FnExactCabinetClear', WHERE WHAT IT READS IS OF BULK AT MOST 1048576: true; the input reads as it did. -/
def fnExactCabinetClearUptoRow : OpenClaim := { program := "ytfbfapobmhfenaa", sum := "ef2d617285edeb48f4fd4beea6cf9110637ddad2383a24cae9fbc96984bc4761", func := "loop.example/shorthand/laws.FnExactCabinetClear", spec := "fnExactCabinetClear", inPlace := ["internal/bytealg.abigen_runtime_cmpstring"], unfollowed := true, recurses := true, apart := false, narrowed := true }
def FnExactCabinetClearUptoSaid : Prop := fnExactCabinetClearUptoRow.holds Try.pinned (OpenSpec.upto fnExactCabinetClearSpec)

/-- 'laws.FnPack', WHERE WHAT IT READS IS OF BULK AT MOST 1048576: true; the input reads as it did. -/
def fnPackUptoRow : OpenClaim := { program := "ytfbfapobmhfenaa", sum := "ef2d617285edeb48f4fd4beea6cf9110637ddad2383a24cae9fbc96984bc4761", func := "loop.example/shorthand/laws.FnPack", spec := "fnPack", inPlace := ["internal/bytealg.abigen_runtime_cmpstring"], unfollowed := true, recurses := true, apart := false, narrowed := true }
def FnPackUptoSaid : Prop := fnPackUptoRow.holds Try.pinned (OpenSpec.upto fnPackSpec)

/-- 'laws.FnClear', WHERE WHAT IT READS IS OF BULK AT MOST 1048576: true; the input reads as it did. -/
def fnClearUptoRow : OpenClaim := { program := "ytfbfapobmhfenaa", sum := "ef2d617285edeb48f4fd4beea6cf9110637ddad2383a24cae9fbc96984bc4761", func := "loop.example/shorthand/laws.FnClear", spec := "fnClear", inPlace := ["internal/bytealg.abigen_runtime_cmpstring"], unfollowed := true, recurses := true, apart := false, narrowed := true }
def FnClearUptoSaid : Prop := fnClearUptoRow.holds Try.pinned (OpenSpec.upto fnClearSpec)

/-- 'laws.FnExactCabinetTake', WHERE WHAT IT READS IS OF BULK AT MOST 1048576: true; the input reads as it did. -/
def fnExactCabinetTakeUptoRow : OpenClaim := { program := "ytfbfapobmhfenaa", sum := "ef2d617285edeb48f4fd4beea6cf9110637ddad2383a24cae9fbc96984bc4761", func := "loop.example/shorthand/laws.FnExactCabinetTake", spec := "fnExactCabinetTake", inPlace := ["internal/bytealg.abigen_runtime_cmpstring"], unfollowed := true, recurses := true, apart := false, narrowed := true }
def FnExactCabinetTakeUptoSaid : Prop := fnExactCabinetTakeUptoRow.holds Try.pinned (OpenSpec.upto fnExactCabinetTakeSpec)

/-- 'laws.FnTake', WHERE WHAT IT READS IS OF BULK AT MOST 1048576: true; the input reads as it did. -/
def fnTakeUptoRow : OpenClaim := { program := "ytfbfapobmhfenaa", sum := "ef2d617285edeb48f4fd4beea6cf9110637ddad2383a24cae9fbc96984bc4761", func := "loop.example/shorthand/laws.FnTake", spec := "fnTake", inPlace := ["internal/bytealg.abigen_runtime_cmpstring"], unfollowed := true, recurses := true, apart := false, narrowed := true }
def FnTakeUptoSaid : Prop := fnTakeUptoRow.holds Try.pinned (OpenSpec.upto fnTakeSpec)

/-- 'laws.FnExactCabinetOf', WHERE WHAT IT READS IS OF BULK AT MOST 1048576: true; the input reads as it did. -/
def fnExactCabinetOfUptoRow : OpenClaim := { program := "ytfbfapobmhfenaa", sum := "ef2d617285edeb48f4fd4beea6cf9110637ddad2383a24cae9fbc96984bc4761", func := "loop.example/shorthand/laws.FnExactCabinetOf", spec := "fnExactCabinetOf", inPlace := ["internal/bytealg.abigen_runtime_cmpstring", "slices.overlaps[loop.example/shorthand/impl.Pad]", "slices.overlaps[*loop.example/shorthand/impl.drawerLeaf]"], unfollowed := true, recurses := true, apart := false, narrowed := true }
def FnExactCabinetOfUptoSaid : Prop := fnExactCabinetOfUptoRow.holds Try.pinned (OpenSpec.upto fnExactCabinetOfSpec)

/-- 'laws.FnPads', WHERE WHAT IT READS IS OF BULK AT MOST 1048576: true; the input reads as it did. -/
def fnPadsUptoRow : OpenClaim := { program := "ytfbfapobmhfenaa", sum := "ef2d617285edeb48f4fd4beea6cf9110637ddad2383a24cae9fbc96984bc4761", func := "loop.example/shorthand/laws.FnPads", spec := "fnPads", inPlace := ["internal/bytealg.abigen_runtime_cmpstring", "slices.overlaps[loop.example/shorthand/impl.Pad]", "slices.overlaps[*loop.example/shorthand/impl.drawerLeaf]"], unfollowed := true, recurses := true, apart := false, narrowed := true }
def FnPadsUptoSaid : Prop := fnPadsUptoRow.holds Try.pinned (OpenSpec.upto fnPadsSpec)

/-- 'laws.FnCabinetOf', WHERE WHAT IT READS IS OF BULK AT MOST 1048576: true; the input reads as it did. -/
def fnCabinetOfUptoRow : OpenClaim := { program := "ytfbfapobmhfenaa", sum := "ef2d617285edeb48f4fd4beea6cf9110637ddad2383a24cae9fbc96984bc4761", func := "loop.example/shorthand/laws.FnCabinetOf", spec := "fnCabinetOf", inPlace := ["internal/bytealg.abigen_runtime_cmpstring", "slices.overlaps[loop.example/shorthand/impl.Pad]", "slices.overlaps[*loop.example/shorthand/impl.drawerLeaf]"], unfollowed := true, recurses := true, apart := false, narrowed := true }
def FnCabinetOfUptoSaid : Prop := fnCabinetOfUptoRow.holds Try.pinned (OpenSpec.upto fnCabinetOfSpec)

/-- 'laws.FnExactCabinetFile', WHERE WHAT IT READS IS OF BULK AT MOST 1048576: true; the input reads as it did. -/
def fnExactCabinetFileUptoRow : OpenClaim := { program := "ytfbfapobmhfenaa", sum := "ef2d617285edeb48f4fd4beea6cf9110637ddad2383a24cae9fbc96984bc4761", func := "loop.example/shorthand/laws.FnExactCabinetFile", spec := "fnExactCabinetFile", inPlace := ["internal/bytealg.abigen_runtime_cmpstring", "slices.overlaps[loop.example/shorthand/impl.Pad]", "slices.overlaps[*loop.example/shorthand/impl.drawerLeaf]"], unfollowed := true, recurses := true, apart := false, narrowed := true }
def FnExactCabinetFileUptoSaid : Prop := fnExactCabinetFileUptoRow.holds Try.pinned (OpenSpec.upto fnExactCabinetFileSpec)

/-- 'laws.FnFind', WHERE WHAT IT READS IS OF BULK AT MOST 1048576: true; the input reads as it did. -/
def fnFindUptoRow : OpenClaim := { program := "ytfbfapobmhfenaa", sum := "ef2d617285edeb48f4fd4beea6cf9110637ddad2383a24cae9fbc96984bc4761", func := "loop.example/shorthand/laws.FnFind", spec := "fnFind", inPlace := ["internal/bytealg.abigen_runtime_cmpstring", "slices.overlaps[loop.example/shorthand/impl.Pad]", "slices.overlaps[*loop.example/shorthand/impl.drawerLeaf]"], unfollowed := true, recurses := true, apart := false, narrowed := true }
def FnFindUptoSaid : Prop := fnFindUptoRow.holds Try.pinned (OpenSpec.upto fnFindSpec)

/-- 'laws.FnFile', WHERE WHAT IT READS IS OF BULK AT MOST 1048576: true; the input reads as it did. -/
def fnFileUptoRow : OpenClaim := { program := "ytfbfapobmhfenaa", sum := "ef2d617285edeb48f4fd4beea6cf9110637ddad2383a24cae9fbc96984bc4761", func := "loop.example/shorthand/laws.FnFile", spec := "fnFile", inPlace := ["internal/bytealg.abigen_runtime_cmpstring", "slices.overlaps[loop.example/shorthand/impl.Pad]", "slices.overlaps[*loop.example/shorthand/impl.drawerLeaf]"], unfollowed := true, recurses := true, apart := false, narrowed := true }
def FnFileUptoSaid : Prop := fnFileUptoRow.holds Try.pinned (OpenSpec.upto fnFileSpec)

end Rows
end Go.Proofs.Ytfbfapobmhfenaa
