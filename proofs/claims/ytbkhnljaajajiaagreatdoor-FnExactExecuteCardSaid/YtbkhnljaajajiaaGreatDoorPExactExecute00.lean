/-
  Contracts and plain laws that the proof of the law ExactExecute leans on. Conditions: as each says.
-/
import Derived.Shelf.Strings.Builder1
import Derived.Shelf.Strings.Builder2
import Derived.Shelf.Strings.OnBuilder
import Derived.Shelf.Small.Strs
import Derived.Shelf.Strings.BuilderF
import Derived.Shelf.Strings.BuilderK
import Derived.Shelf.Strings.Builder2Cap
import Derived.Shelf.Strconv.Itoa0
import Derived.Shelf.Strconv.Itoa1
import Derived.Shelf.LaysM
import Derived.Shelf.Strconv.Itoa2
import Derived.Shelf.Strconv.Itoa3
import Derived.Shelf.Strings.Search1
import Derived.Shelf.Strings.Search2
import Derived.Shelf.Strings.Search3
import Derived.Shelf.Strings.Count
import Derived.Shelf.Strings.Shaped
import Derived.Shelf.Strings.Split
import Derived.Shelf.Unicode.DecodeSlow
import Derived.Shelf.Strings.BuilderCap
import Derived.Shelf.Slices.Equal
import Derived.Test.YtbkhnljaajajiaaGreatDoorProg
import Derived.Test.YtbkhnljaajajiaaGreatDoorRows
import Derived.WalkKit
import Derived.ProofKit
import Derived.OpenShut
import Derived.ShutString
import Derived.Outline
import Derived.WalkLawsBesides
import Derived.WalkSpells
import Derived.BigQuiet
import Derived.Deep.QuietTactic
import Derived.Lib.Hide
import Derived.Deep.DeepMust
import Derived.Deep.LoopGhost
import Derived.Deep.RegionWith
import Derived.Handy
import Derived.Lib.QuietBelow
import Derived.Deep.Slices
import Derived.Lib.SmallJoins
import Derived.ChangeOld
import Derived.Laws.OwnMore
import Derived.Deep.AppendLies
import Derived.Deep.Draws
import Derived.Laws.Rows
import Derived.StillTailTactics
import Derived.Lib.Bytealg
import Derived.Sort.Walk0
import Derived.Laws.StructEq
import Derived.Maps.AppendAt
import Derived.RegionTactic
import Derived.OwnWalk
import Derived.Laws.Concat
namespace Go.Proofs
theorem uH {p : Prop} (h : p) : RowKit.Hid p := Lib.hid h
open Go.Shelf
set_option maxRecDepth 100000
set_option linter.unusedSimpArgs false
set_option linter.unusedVariables false
def Tryz.lays169_ren : Go.Shelf.Ren := ⟨fun | 169 => 52 | n => n, fun | 70 => 80 | 9 => 9 | 0 => 0 | 72 => 82 | 37 => 22 | 127 => 161 | 3 => 3 | 5 => 5 | n => n, fun | n => n⟩
theorem Tryz.lays169 : Go.Proofs.Lays.n169 Tryz.prog Tryz.lays169_ren := {
 mixed := by kernel_rfl
 f169 := Tryz.func52.trans (congrArg some (by kernel_rfl))
 t0 := Tryz.underlying0
 a0 := Tryz.isAgg0
 z0 := Tryz.sizeOf0
 v0 := Tryz.zeroValue0
 t3 := Tryz.underlying3
 a3 := Tryz.isAgg3
 z3 := Tryz.sizeOf3
 v3 := Tryz.zeroValue3
 t9 := Tryz.underlying9
 a9 := Tryz.isAgg9
 z9 := Tryz.sizeOf9
 v9 := Tryz.zeroValue9
 t37 := Tryz.underlying22
 a37 := Tryz.isAgg22
 z37 := Tryz.sizeOf22
 v37 := Tryz.zeroValue22
 t70 := Tryz.underlying80
 a70 := Tryz.isAgg80
 z70 := Tryz.sizeOf80
 v70 := Tryz.zeroValue80
 t72 := Tryz.underlying82
 a72 := Tryz.isAgg82
 z72 := Tryz.sizeOf82
 v72 := Tryz.zeroValue82
 t127 := Tryz.underlying161
 a127 := Tryz.isAgg161
 z127 := Tryz.sizeOf161
 v127 := Tryz.zeroValue161 }
theorem Tryz.Builder_Extra_169 : Builder.Extra Tryz.prog Tryz.lays169_ren := {
 sizeBuilder := by kernel_rfl
 liesBuilder := by kernel_rfl
 t5 := Tryz.underlying5
 a5 := Tryz.isAgg5
 z5 := Tryz.sizeOf5
 v5 := Tryz.zeroValue5
 infoByte := by kernel_rfl
 cellsByte := by kernel_rfl
 sizeByte := by kernel_rfl
 neB5 := by decide }
open Go.RowKit in
theorem Tryz.Builder_String_any (B b : Nat) (l : List UInt8) (w : World) (h : Lib.IsBuilder 82 5 B b (Lib.byteCells l) w) (hBw : B ≤ w.heap.size) :
  Calls Tryz.prog 52 #[.pointer (some ⟨b, 0, none⟩)] w fun e w' => e = .returned (.string ⟨l.toArray⟩) ∧ Below B w w' := Any.Builder_String_any Tryz.lays169 Tryz.Builder_Extra_169 B b l w h hBw
def Tryz.lays156_ren : Go.Shelf.Ren := ⟨fun | 156 => 73 | 165 => 132 | 166 => 48 | 169 => 52 | 240 => 109 | 241 => 190 | 276 => 172 | 277 => 228 | n => n, fun | 31 => 27 | 9 => 9 | 3 => 3 | 4 => 4 | 0 => 0 | 20 => 20 | 72 => 82 | 76 => 85 | 70 => 80 | 37 => 22 | 75 => 84 | 127 => 161 | 164 => 224 | 5 => 5 | 80 => 89 | n => n, fun | n => n⟩
theorem Tryz.lays156 : Go.Proofs.Lays.n156 Tryz.prog Tryz.lays156_ren := {
 mixed := by kernel_rfl
 f156 := Tryz.func73.trans (congrArg some (by kernel_rfl))
 f165 := Tryz.func132.trans (congrArg some (by kernel_rfl))
 f166 := Tryz.func48.trans (congrArg some (by kernel_rfl))
 f169 := Tryz.func52.trans (congrArg some (by kernel_rfl))
 f240 := Tryz.func109.trans (congrArg some (by kernel_rfl))
 f241 := Tryz.func190.trans (congrArg some (by kernel_rfl))
 f276 := Tryz.func172.trans (congrArg some (by kernel_rfl))
 f277 := Tryz.func228.trans (congrArg some (by kernel_rfl))
 t0 := Tryz.underlying0
 a0 := Tryz.isAgg0
 z0 := Tryz.sizeOf0
 v0 := Tryz.zeroValue0
 t3 := Tryz.underlying3
 a3 := Tryz.isAgg3
 z3 := Tryz.sizeOf3
 v3 := Tryz.zeroValue3
 t4 := Tryz.underlying4
 a4 := Tryz.isAgg4
 z4 := Tryz.sizeOf4
 v4 := Tryz.zeroValue4
 t9 := Tryz.underlying9
 a9 := Tryz.isAgg9
 z9 := Tryz.sizeOf9
 v9 := Tryz.zeroValue9
 t20 := Tryz.underlying20
 a20 := Tryz.isAgg20
 z20 := Tryz.sizeOf20
 v20 := Tryz.zeroValue20
 t31 := Tryz.underlying27
 a31 := Tryz.isAgg27
 z31 := Tryz.sizeOf27
 v31 := Tryz.zeroValue27
 t37 := Tryz.underlying22
 a37 := Tryz.isAgg22
 z37 := Tryz.sizeOf22
 v37 := Tryz.zeroValue22
 t70 := Tryz.underlying80
 a70 := Tryz.isAgg80
 z70 := Tryz.sizeOf80
 v70 := Tryz.zeroValue80
 t72 := Tryz.underlying82
 a72 := Tryz.isAgg82
 z72 := Tryz.sizeOf82
 v72 := Tryz.zeroValue82
 t75 := Tryz.underlying84
 a75 := Tryz.isAgg84
 z75 := Tryz.sizeOf84
 v75 := Tryz.zeroValue84
 t76 := Tryz.underlying85
 a76 := Tryz.isAgg85
 z76 := Tryz.sizeOf85
 v76 := Tryz.zeroValue85
 t127 := Tryz.underlying161
 a127 := Tryz.isAgg161
 z127 := Tryz.sizeOf161
 v127 := Tryz.zeroValue161
 t164 := Tryz.underlying224
 a164 := Tryz.isAgg224
 z164 := Tryz.sizeOf224
 v164 := Tryz.zeroValue224 }
theorem Tryz.Builder_Extra_156 : Builder.Extra Tryz.prog Tryz.lays156_ren := {
 sizeBuilder := by kernel_rfl
 liesBuilder := by kernel_rfl
 t5 := Tryz.underlying5
 a5 := Tryz.isAgg5
 z5 := Tryz.sizeOf5
 v5 := Tryz.zeroValue5
 infoByte := by kernel_rfl
 cellsByte := by kernel_rfl
 sizeByte := by kernel_rfl
 neB5 := by decide }
open Go.RowKit in
theorem Tryz.strings_Join_none (a : Option Addr) (c : Nat) (sep : ByteArray) (w : World) :
  Calls Tryz.prog 73 #[.slice a 0 c, .string sep] w fun e w' => e = .returned (.string ⟨#[]⟩) ∧ w' = w := Any.strings_Join_none Tryz.lays156 Tryz.Builder_Extra_156 a c sep w
open Go.RowKit in
theorem Tryz.strings_Join (bk o c : Nat) (xs : List ByteArray) (sep : ByteArray) (w : World) (hcells : ∀ (j : Nat) x, xs[j]? = some x → w.cell? ⟨bk, o + j, none⟩ = some (.string x)) (hbk : bk < w.heap.size) (hN : xs.length ≤ 140737488355328) (hcap : xs.length ≤ c) (hlen : (Lib.join (xs.map (·.data.toList)) sep.data.toList).length ≤ 140737488355328) :
  Calls Tryz.prog 73 #[.slice (some ⟨bk, o, none⟩) xs.length c, .string sep] w fun e w' => e = .returned (.string ⟨(Lib.join (xs.map (·.data.toList)) sep.data.toList).toArray⟩) ∧ Below w.heap.size w w' := Any.strings_Join Tryz.lays156 Tryz.Builder_Extra_156 bk o c xs sep w hcells hbk hN hcap hlen
def Tryz.lays137_ren : Go.Shelf.Ren := ⟨fun | 137 => 209 | 217 => 238 | 266 => 258 | n => n, fun | 9 => 9 | 5 => 5 | 3 => 3 | n => n, fun | n => n⟩
theorem Tryz.lays137 : Go.Proofs.Lays.n137 Tryz.prog Tryz.lays137_ren := {
 mixed := by kernel_rfl
 f137 := Tryz.func209.trans (congrArg some (by kernel_rfl))
 f217 := Tryz.func238.trans (congrArg some (by kernel_rfl))
 f266 := Tryz.func258.trans (congrArg some (by kernel_rfl))
 t3 := Tryz.underlying3
 a3 := Tryz.isAgg3
 z3 := Tryz.sizeOf3
 v3 := Tryz.zeroValue3
 t5 := Tryz.underlying5
 a5 := Tryz.isAgg5
 z5 := Tryz.sizeOf5
 v5 := Tryz.zeroValue5
 t9 := Tryz.underlying9
 a9 := Tryz.isAgg9
 z9 := Tryz.sizeOf9
 v9 := Tryz.zeroValue9 }
open Go.RowKit in
theorem Tryz.strings_IndexByte (s : ByteArray) (c : Int) (w : World) :
  Calls Tryz.prog 209 #[.string s, .int .u8 c] w fun e w' => e = .returned (.int .i64 (Lib.indexByte s.data.toList c.toNat.toUInt8)) ∧ w' = w := Any.strings_IndexByte Tryz.lays137 s c w
def Tryz.laysM246_ren : Go.Shelf.Ren := ⟨fun | 246 => 173 | 283 => 217 | 284 => 218 | 285 => 219 | 286 => 220 | 129 => 248 | 317 => 247 | 318 => 249 | 319 => 250 | 320 => 251 | 337 => 262 | 338 => 263 | n => n, fun | 2 => 2 | 3 => 3 | 9 => 9 | 4 => 4 | 171 => 251 | 0 => 0 | 53 => 252 | 37 => 22 | 5 => 5 | 173 => 255 | 212 => 273 | 51 => 274 | 20 => 20 | 213 => 275 | 46 => 262 | 232 => 292 | 233 => 293 | n => n, fun | 17 => 1 | 18 => 4 | 19 => 5 | n => n⟩
def Tryz.laysM243_ren : Go.Shelf.Ren := ⟨fun | 243 => 112 | 246 => 173 | 283 => 217 | 284 => 218 | 285 => 219 | 286 => 220 | 129 => 248 | 317 => 247 | 318 => 249 | 319 => 250 | 320 => 251 | 337 => 262 | 338 => 263 | n => n, fun | 3 => 3 | 9 => 9 | 2 => 2 | 4 => 4 | 171 => 251 | 0 => 0 | 53 => 252 | 37 => 22 | 5 => 5 | 173 => 255 | 212 => 273 | 51 => 274 | 20 => 20 | 213 => 275 | 46 => 262 | 232 => 292 | 233 => 293 | n => n, fun | 17 => 1 | 18 => 4 | 19 => 5 | n => n⟩
def Tryz.laysM171_ren : Go.Shelf.Ren := ⟨fun | 171 => 50 | 243 => 112 | 246 => 173 | 283 => 217 | 284 => 218 | 285 => 219 | 286 => 220 | 129 => 248 | 317 => 247 | 318 => 249 | 319 => 250 | 320 => 251 | 337 => 262 | 338 => 263 | n => n, fun | 3 => 3 | 9 => 9 | 2 => 2 | 4 => 4 | 171 => 251 | 0 => 0 | 53 => 252 | 37 => 22 | 5 => 5 | 173 => 255 | 212 => 273 | 51 => 274 | 20 => 20 | 213 => 275 | 46 => 262 | 232 => 292 | 233 => 293 | n => n, fun | 17 => 1 | 18 => 4 | 19 => 5 | n => n⟩
theorem Tryz.laysM171 : Go.Proofs.LaysM.n171 Tryz.prog Tryz.laysM171_ren := {
 mixed := by kernel_rfl
 f129 := Tryz.func248.trans (congrArg some (by kernel_rfl))
 f171 := Tryz.func50.trans (congrArg some (by kernel_rfl))
 f243 := Tryz.func112.trans (congrArg some (by kernel_rfl))
 f246 := Tryz.func173.trans (congrArg some (by kernel_rfl))
 f283 := Tryz.func217.trans (congrArg some (by kernel_rfl))
 f284 := Tryz.func218.trans (congrArg some (by kernel_rfl))
 f285 := Tryz.func219.trans (congrArg some (by kernel_rfl))
 f286 := Tryz.func220.trans (congrArg some (by kernel_rfl))
 f317 := Tryz.func247.trans (congrArg some (by kernel_rfl))
 f318 := Tryz.func249.trans (congrArg some (by kernel_rfl))
 f319 := Tryz.func250.trans (congrArg some (by kernel_rfl))
 f320 := Tryz.func251.trans (congrArg some (by kernel_rfl))
 f337 := Tryz.func262.trans (congrArg some (by kernel_rfl))
 f338 := Tryz.func263.trans (congrArg some (by kernel_rfl))
 t0 := Tryz.underlying0
 a0 := Tryz.isAgg0
 z0 := Tryz.sizeOf0
 v0 := Tryz.zeroValue0
 t2 := Tryz.underlying2
 a2 := Tryz.isAgg2
 z2 := Tryz.sizeOf2
 v2 := Tryz.zeroValue2
 t3 := Tryz.underlying3
 a3 := Tryz.isAgg3
 z3 := Tryz.sizeOf3
 v3 := Tryz.zeroValue3
 t4 := Tryz.underlying4
 a4 := Tryz.isAgg4
 z4 := Tryz.sizeOf4
 v4 := Tryz.zeroValue4
 t5 := Tryz.underlying5
 a5 := Tryz.isAgg5
 z5 := Tryz.sizeOf5
 v5 := Tryz.zeroValue5
 t9 := Tryz.underlying9
 a9 := Tryz.isAgg9
 z9 := Tryz.sizeOf9
 v9 := Tryz.zeroValue9
 t20 := Tryz.underlying20
 a20 := Tryz.isAgg20
 z20 := Tryz.sizeOf20
 v20 := Tryz.zeroValue20
 t37 := Tryz.underlying22
 a37 := Tryz.isAgg22
 z37 := Tryz.sizeOf22
 v37 := Tryz.zeroValue22
 t46 := Tryz.underlying262
 a46 := Tryz.isAgg262
 z46 := Tryz.sizeOf262
 v46 := Tryz.zeroValue262
 t51 := Tryz.underlying274
 a51 := Tryz.isAgg274
 z51 := Tryz.sizeOf274
 v51 := Tryz.zeroValue274
 t53 := Tryz.underlying252
 a53 := Tryz.isAgg252
 z53 := Tryz.sizeOf252
 v53 := Tryz.zeroValue252
 t171 := Tryz.underlying251
 a171 := Tryz.isAgg251
 z171 := Tryz.sizeOf251
 v171 := Tryz.zeroValue251
 t173 := Tryz.underlying255
 a173 := Tryz.isAgg255
 z173 := Tryz.sizeOf255
 v173 := Tryz.zeroValue255
 t212 := Tryz.underlying273
 a212 := Tryz.isAgg273
 z212 := Tryz.sizeOf273
 v212 := Tryz.zeroValue273
 t213 := Tryz.underlying275
 a213 := Tryz.isAgg275
 z213 := Tryz.sizeOf275
 t232 := Tryz.underlying292
 a232 := Tryz.isAgg292
 z232 := Tryz.sizeOf292
 v232 := Tryz.zeroValue292
 t233 := Tryz.underlying293
 a233 := Tryz.isAgg293
 z233 := Tryz.sizeOf293
 v233 := Tryz.zeroValue293
 g17 := by kernel_rfl
 g18 := by kernel_rfl
 g19 := by kernel_rfl
 i0 := by kernel_rfl
 i2 := by kernel_rfl
 i3 := by kernel_rfl
 i4 := by kernel_rfl
 i5 := by kernel_rfl
 i9 := by kernel_rfl
 i20 := by kernel_rfl
 i37 := by kernel_rfl
 i46 := by kernel_rfl
 i51 := by kernel_rfl
 i53 := by kernel_rfl
 i171 := by kernel_rfl
 i173 := by kernel_rfl
 i212 := by kernel_rfl
 i232 := by kernel_rfl
 i233 := by kernel_rfl
 m17 := by kernel_rfl
 m18 := by kernel_rfl
 m19 := by kernel_rfl }
open Go.RowKit Go.Sort Go.Lib in
theorem Tryz.strconv_Itoa (n : Int) (h0 : -9223372036854775808 ≤ n) (h1 : n ≤ 9223372036854775807) (w : World) (htab : Lib.TabIs Tryz.prog w "internal/strconv.uint64pow10" .u64 Lib.pow10Tab) :
  Calls Tryz.prog 50 #[.int .i64 n] w fun e w' => e = .returned (.string ⟨(Lib.itoa n).toArray⟩) ∧ ∃ k os, w' = grow (w.drewN k) os := Any.strconv_Itoa Tryz.laysM171 n h0 h1 w htab
def Tryz.lays171_ren : Go.Shelf.Ren := ⟨fun | 171 => 50 | 243 => 112 | 246 => 173 | 283 => 217 | 284 => 218 | 285 => 219 | 286 => 220 | 129 => 248 | 317 => 247 | 318 => 249 | 319 => 250 | 320 => 251 | 337 => 262 | 338 => 263 | n => n, fun | 3 => 3 | 9 => 9 | 2 => 2 | 4 => 4 | 171 => 251 | 0 => 0 | 53 => 252 | 37 => 22 | 5 => 5 | 173 => 255 | 212 => 273 | 51 => 274 | 20 => 20 | 213 => 275 | 46 => 262 | 232 => 292 | 233 => 293 | n => n, fun | 17 => 1 | 18 => 4 | 19 => 5 | n => n⟩
theorem Tryz.lays171 : Go.Proofs.Lays.n171 Tryz.prog Tryz.lays171_ren := {
 mixed := by kernel_rfl
 f129 := Tryz.func248.trans (congrArg some (by kernel_rfl))
 f171 := Tryz.func50.trans (congrArg some (by kernel_rfl))
 f243 := Tryz.func112.trans (congrArg some (by kernel_rfl))
 f246 := Tryz.func173.trans (congrArg some (by kernel_rfl))
 f283 := Tryz.func217.trans (congrArg some (by kernel_rfl))
 f284 := Tryz.func218.trans (congrArg some (by kernel_rfl))
 f285 := Tryz.func219.trans (congrArg some (by kernel_rfl))
 f286 := Tryz.func220.trans (congrArg some (by kernel_rfl))
 f317 := Tryz.func247.trans (congrArg some (by kernel_rfl))
 f318 := Tryz.func249.trans (congrArg some (by kernel_rfl))
 f319 := Tryz.func250.trans (congrArg some (by kernel_rfl))
 f320 := Tryz.func251.trans (congrArg some (by kernel_rfl))
 f337 := Tryz.func262.trans (congrArg some (by kernel_rfl))
 f338 := Tryz.func263.trans (congrArg some (by kernel_rfl))
 t0 := Tryz.underlying0
 a0 := Tryz.isAgg0
 z0 := Tryz.sizeOf0
 v0 := Tryz.zeroValue0
 t2 := Tryz.underlying2
 a2 := Tryz.isAgg2
 z2 := Tryz.sizeOf2
 v2 := Tryz.zeroValue2
 t3 := Tryz.underlying3
 a3 := Tryz.isAgg3
 z3 := Tryz.sizeOf3
 v3 := Tryz.zeroValue3
 t4 := Tryz.underlying4
 a4 := Tryz.isAgg4
 z4 := Tryz.sizeOf4
 v4 := Tryz.zeroValue4
 t5 := Tryz.underlying5
 a5 := Tryz.isAgg5
 z5 := Tryz.sizeOf5
 v5 := Tryz.zeroValue5
 t9 := Tryz.underlying9
 a9 := Tryz.isAgg9
 z9 := Tryz.sizeOf9
 v9 := Tryz.zeroValue9
 t20 := Tryz.underlying20
 a20 := Tryz.isAgg20
 z20 := Tryz.sizeOf20
 v20 := Tryz.zeroValue20
 t37 := Tryz.underlying22
 a37 := Tryz.isAgg22
 z37 := Tryz.sizeOf22
 v37 := Tryz.zeroValue22
 t46 := Tryz.underlying262
 a46 := Tryz.isAgg262
 z46 := Tryz.sizeOf262
 v46 := Tryz.zeroValue262
 t51 := Tryz.underlying274
 a51 := Tryz.isAgg274
 z51 := Tryz.sizeOf274
 v51 := Tryz.zeroValue274
 t53 := Tryz.underlying252
 a53 := Tryz.isAgg252
 z53 := Tryz.sizeOf252
 v53 := Tryz.zeroValue252
 t171 := Tryz.underlying251
 a171 := Tryz.isAgg251
 z171 := Tryz.sizeOf251
 v171 := Tryz.zeroValue251
 t173 := Tryz.underlying255
 a173 := Tryz.isAgg255
 z173 := Tryz.sizeOf255
 v173 := Tryz.zeroValue255
 t212 := Tryz.underlying273
 a212 := Tryz.isAgg273
 z212 := Tryz.sizeOf273
 v212 := Tryz.zeroValue273
 t213 := Tryz.underlying275
 a213 := Tryz.isAgg275
 z213 := Tryz.sizeOf275
 t232 := Tryz.underlying292
 a232 := Tryz.isAgg292
 z232 := Tryz.sizeOf292
 v232 := Tryz.zeroValue292
 t233 := Tryz.underlying293
 a233 := Tryz.isAgg293
 z233 := Tryz.sizeOf293
 v233 := Tryz.zeroValue293
 g17 := by kernel_rfl
 g18 := by kernel_rfl
 g19 := by kernel_rfl }
open Go.RowKit Go.Sort Go.Lib in
theorem Tryz.strconv_Itoa_small (i : Nat) (hi : i < 100) (w : World) :
  Calls Tryz.prog 50 #[.int .i64 i] w fun e w' => e = .returned (.string ⟨(Lib.decDigits i).toArray⟩) ∧ w' = w := Any.strconv_Itoa_small Tryz.lays171 i hi w
def Tryz.lays221_ren : Go.Shelf.Ren := ⟨fun | 221 => 108 | 268 => 169 | 138 => 170 | 143 => 171 | 195 => 213 | 197 => 214 | 218 => 215 | 219 => 216 | 260 => 243 | 217 => 238 | 225 => 244 | 224 => 245 | 267 => 246 | 266 => 258 | 314 => 261 | n => n, fun | 9 => 9 | 3 => 3 | 31 => 27 | 4 => 4 | 0 => 0 | 105 => 249 | 21 => 21 | 5 => 5 | 46 => 262 | 119 => 283 | 139 => 286 | 138 => 285 | 146 => 287 | 51 => 274 | n => n, fun | 1 => 0 | 3 => 2 | 4 => 3 | n => n⟩
theorem Tryz.lays221 : Go.Proofs.Lays.n221 Tryz.prog Tryz.lays221_ren := {
 mixed := by kernel_rfl
 f138 := Tryz.func170.trans (congrArg some (by kernel_rfl))
 f143 := Tryz.func171.trans (congrArg some (by kernel_rfl))
 f195 := Tryz.func213.trans (congrArg some (by kernel_rfl))
 f197 := Tryz.func214.trans (congrArg some (by kernel_rfl))
 f217 := Tryz.func238.trans (congrArg some (by kernel_rfl))
 f218 := Tryz.func215.trans (congrArg some (by kernel_rfl))
 f219 := Tryz.func216.trans (congrArg some (by kernel_rfl))
 f221 := Tryz.func108.trans (congrArg some (by kernel_rfl))
 f224 := Tryz.func245.trans (congrArg some (by kernel_rfl))
 f225 := Tryz.func244.trans (congrArg some (by kernel_rfl))
 f260 := Tryz.func243.trans (congrArg some (by kernel_rfl))
 f266 := Tryz.func258.trans (congrArg some (by kernel_rfl))
 f267 := Tryz.func246.trans (congrArg some (by kernel_rfl))
 f268 := Tryz.func169.trans (congrArg some (by kernel_rfl))
 f314 := Tryz.func261.trans (congrArg some (by kernel_rfl))
 t0 := Tryz.underlying0
 a0 := Tryz.isAgg0
 z0 := Tryz.sizeOf0
 v0 := Tryz.zeroValue0
 t3 := Tryz.underlying3
 a3 := Tryz.isAgg3
 z3 := Tryz.sizeOf3
 v3 := Tryz.zeroValue3
 t4 := Tryz.underlying4
 a4 := Tryz.isAgg4
 z4 := Tryz.sizeOf4
 v4 := Tryz.zeroValue4
 t5 := Tryz.underlying5
 a5 := Tryz.isAgg5
 z5 := Tryz.sizeOf5
 v5 := Tryz.zeroValue5
 t9 := Tryz.underlying9
 a9 := Tryz.isAgg9
 z9 := Tryz.sizeOf9
 v9 := Tryz.zeroValue9
 t21 := Tryz.underlying21
 a21 := Tryz.isAgg21
 z21 := Tryz.sizeOf21
 v21 := Tryz.zeroValue21
 t31 := Tryz.underlying27
 a31 := Tryz.isAgg27
 z31 := Tryz.sizeOf27
 v31 := Tryz.zeroValue27
 t46 := Tryz.underlying262
 a46 := Tryz.isAgg262
 z46 := Tryz.sizeOf262
 v46 := Tryz.zeroValue262
 t51 := Tryz.underlying274
 a51 := Tryz.isAgg274
 z51 := Tryz.sizeOf274
 v51 := Tryz.zeroValue274
 t105 := Tryz.underlying249
 a105 := Tryz.isAgg249
 z105 := Tryz.sizeOf249
 v105 := Tryz.zeroValue249
 t119 := Tryz.underlying283
 a119 := Tryz.isAgg283
 z119 := Tryz.sizeOf283
 t138 := Tryz.underlying285
 a138 := Tryz.isAgg285
 z138 := Tryz.sizeOf285
 v138 := Tryz.zeroValue285
 t139 := Tryz.underlying286
 a139 := Tryz.isAgg286
 z139 := Tryz.sizeOf286
 v139 := Tryz.zeroValue286
 t146 := Tryz.underlying287
 a146 := Tryz.isAgg287
 z146 := Tryz.sizeOf287
 v146 := Tryz.zeroValue287
 g1 := by kernel_rfl
 g3 := by kernel_rfl
 g4 := by kernel_rfl }
end Go.Proofs
namespace Go.Proofs.YtbkhnljaajajiaaGreatDoor
open Go.ChangeShapes Go.WideShapes Go.ChangeAt Go.RowKit
set_option maxRecDepth 100000
set_option linter.unusedSimpArgs false
set_option linter.unusedVariables false
def isLetter (c : UInt8) : Bool := 97 ≤ c.toNat && c.toNat ≤ 122
def wordB (l : List UInt8) : Bool := l.all isLetter && (1 ≤ l.length && l.length ≤ 12)
theorem take_snoc (s : ByteArray) (k : Nat) (h : k < s.size) : s.data.toList.take (k + 1) = s.data.toList.take k ++ [s[k]] := by
 rw [List.take_succ_eq_append_getElem (by simpa using h)]; rfl
theorem all_step (s : ByteArray) (k : Nat) (h : k < s.size) (ha : (s.data.toList.take k).all isLetter = true) (h1 : 97 ≤ (s[k].toNat : Int)) (h2 : (s[k].toNat : Int) ≤ 122) :
  (s.data.toList.take (k + 1)).all isLetter = true := by
 rw [take_snoc s k h, List.all_append, ha]; simp [isLetter]; omega
theorem all_bad (s : ByteArray) (k : Nat) (h : k < s.size) (h1 : (s[k].toNat : Int) < 97 ∨ 122 < (s[k].toNat : Int)) : wordB s.data.toList = false := by
 have hm : s[k] ∈ s.data.toList := by
  have : s[k] = s.data.toList[k]'(by simpa using h) := rfl; rw [this]; exact List.getElem_mem _
 have hb : isLetter s[k] = false := (by simp [isLetter]; omega); have : s.data.toList.all isLetter = false := by
  rw [List.all_eq_false]; exact ⟨_, hm, by simp [hb]⟩
 simp [wordB, this]
theorem all_done (s : ByteArray) (k : Nat) (hk : ¬ k < s.size) (ha : (s.data.toList.take k).all isLetter = true) : wordB s.data.toList = decide ((1 : Int) ≤ s.size ∧ (s.size : Int) ≤ 12) := by
 have e : s.data.toList.take k = s.data.toList := List.take_of_length_le (by simp; omega); have l : s.data.toList.length = s.size := (by simp); rw [e] at ha; unfold wordB; rw [ha, l]; rw [Bool.eq_iff_iff]; simp; omega
theorem kcell {w w' : World} {a : Addr} {v : Value} (hb : Below w.heap.size w w') (h : w.cell? a = some v) : w'.cell? a = some v := (hb.cell (World.block_lt_of_cell? _ _ h)).trans h
theorem kfree {w w' : World} {a : Addr} {v : Value} (hb : Below w.heap.size w w') (h : w.cell? a = some v) (hf : w.frozen? a = false) : w'.frozen? a = false := (hb.frozen (World.block_lt_of_cell? _ _ h)).trans hf
theorem newcell (w : World) (cs : Array Value) (t : TypeId) (i : Nat) (v : Value) (h : cs[i]? = some v) : (w.alloc (.cells cs t)).cell? ⟨w.heap.size, i, none⟩ = some v := by
 rw [World.cell?_alloc_at cs t w.heap.size i rfl]; exact h
theorem below_next {W w1 w2 : World} (h : Below W.heap.size W w1) (h2 : Below w1.heap.size w1 w2) : Below W.heap.size W w2 := h.trans (h2.mono h.size)
theorem below_step {B : Nat} {w w1 w2 : World} (h : Below B w w1) (hB : B ≤ w1.heap.size) (h2 : Below w1.heap.size w1 w2) : Below B w w2 := h.trans (h2.mono hB)
theorem ret_bool {a b : Bool} (h : a = b) : Ending.returned (.bool a) = .returned (.bool b) := by rw [h]
theorem ret_int {k : IntKind} {a b : Int} (h : a = b) : Ending.returned (.int k a) = .returned (.int k b) := by rw [h]
theorem l6In_any (n a b : Int) (w : World) : Calls Tryz.prog 134 #[.int .i64 n, .int .i64 a, .int .i64 b] w fun e w' => e = .returned (.bool (decide (a ≤ n ∧ n ≤ b))) ∧ w = w' := by
 by_cases h1 : a ≤ n
 ·by_cases h2 : n ≤ b
  ·go_enter Tryz.func134, Tryz.ntmps134
   go_wp2; go_ret; exact ⟨by simp; omega, rfl⟩
  ·go_enter Tryz.func134, Tryz.ntmps134
   go_wp2; go_ret; exact ⟨by simp; omega, rfl⟩
 ·go_enter Tryz.func134, Tryz.ntmps134
  go_wp2; go_ret; exact ⟨by simp; omega, rfl⟩
theorem specWordValid (s : ByteArray) (w : World) (hs : s.size ≤ maxLen) : Calls Tryz.prog 135 #[.string s] w fun e w' => e = .returned (.bool (wordB s.data.toList)) ∧ w = w' := by
 unfold maxLen at hs; go_enter Tryz.func135, Tryz.ntmps135
 go_wp2
 go_loop [3] (fun i => ∃ k : Nat, k ≤ s.size ∧ i = .int .i64 k ∧ Hid ((s.data.toList.take k).all isLetter = true)) (fun i => s.size - (intOf i).toNat)
 case atStart => exact ⟨0, Nat.zero_le _, rfl, uH rfl⟩
 case round =>
  obtain ⟨k, hk, rfl, hall⟩ := hrel; by_cases hlt : k < s.size
  ·go_wp2
   ·go_ret; exact ⟨ret_bool (by rw [all_bad s k hlt (by omega)]), rfl⟩
   ·go_round
    case rel => exact ⟨k + 1, by omega, by go_num, uH (all_step s k hlt hall.out (by omega) (by omega))⟩
    case measure => simp [intOf]; omega
   ·go_ret; exact ⟨ret_bool (by rw [all_bad s k hlt (by omega)]), rfl⟩
  ·go_wp2_with (go_at_call 134; refine (l6In_any _ _ _ _).mono ?_; rintro e w' ⟨rfl, rfl⟩)
   go_ret; exact ⟨ret_bool (by rw [all_done s k hlt hall.out]; simp), rfl⟩
theorem implWordValid (s : ByteArray) (w : World) (hs : s.size ≤ maxLen) : Calls Tryz.prog 129 #[.string s] w fun e w' => e = .returned (.bool (wordB s.data.toList)) ∧ w = w' := by
 unfold maxLen at hs; by_cases hb : 1 ≤ s.size ∧ s.size ≤ 12
 ·obtain ⟨hb1, hb2⟩ := hb; go_enter Tryz.func129, Tryz.ntmps129
  go_wp2
  go_loop [14] (fun i => ∃ k : Nat, k ≤ s.size ∧ i = .int .i64 k ∧ Hid ((s.data.toList.take k).all isLetter = true)) (fun i => s.size - (intOf i).toNat)
  case atStart => exact ⟨0, Nat.zero_le _, rfl, uH rfl⟩
  case round =>
   obtain ⟨k, hk, rfl, hall⟩ := hrel; by_cases hlt : k < s.size
   ·go_wp2
    ·go_ret; exact ⟨ret_bool (by rw [all_bad s k hlt (by omega)]), rfl⟩
    ·go_round
     case rel => exact ⟨k + 1, by omega, by go_num, uH (all_step s k hlt hall.out (by omega) (by omega))⟩
     case measure => simp [intOf]; omega
    ·go_ret; exact ⟨ret_bool (by rw [all_bad s k hlt (by omega)]), rfl⟩
   ·go_wp2; go_ret; exact ⟨ret_bool (by rw [all_done s k hlt hall.out]; simp; omega), rfl⟩
 ·have hf : wordB s.data.toList = false := by
   have l : s.data.toList.length = s.size := (by simp); rw [Bool.eq_false_iff]; intro h; simp [wordB] at h; omega
  have HF := uH hf; clear hf; go_enter Tryz.func129, Tryz.ntmps129
  go_wp2; all_goals (go_ret; exact ⟨ret_bool (by rw [HF.out]), rfl⟩)
end Go.Proofs.YtbkhnljaajajiaaGreatDoor
namespace Go.Proofs.YtbkhnljaajajiaaGreatDoor
open Go.ChangeShapes Go.WideShapes Go.ChangeAt Go.RowKit
theorem region_qb {P : Program} {id : Nat} {Q : Exit → Act → World → Prop} {a : Act} {w : World} {l : List Oper} (hm : P.follows .mixedOrders = true) (hB : Region.lexB .any l.toArray = true)
  (h : wpQuiet P l.toArray (fun w' => ∃ p : Regrown, w' = Go.Sort.grow (redrawn w p.d) p.os) (fun a' => ∀ w', Below w.heap.size w w' → Q .normal a' w') l a) : (Code.region id l.toArray true).wp P Q a w := by
 refine wp_region_quiet_below hm hB ?_; have e : (fun a' : Act => ∀ w', (∃ p : Regrown, w' = Go.Sort.grow (redrawn w p.d) p.os) → Q .normal a' w') = (fun a' => ∀ w', Below w.heap.size w w' → Q .normal a' w') := by
  funext a'
  apply propext; constructor
  ·intro h w' hb; exact h w' (regrown_of_below hb)
  ·rintro h w' ⟨p, rfl⟩; exact h _ (below_regrown w p.d p.os)
 rw [e]; exact h
theorem quietB {P : Program} {f : FuncId} {args : Array Value} {w : World} {d : Nat} {os : Array Obj} {v : Value}
  (h : Calls P f args (Go.Sort.grow (redrawn w d) os) fun e w' => e = .returned v ∧ Below (Go.Sort.grow (redrawn w d) os).heap.size (Go.Sort.grow (redrawn w d) os) w') : Calls P f args (Go.Sort.grow (redrawn w d) os) fun e w'' => e = .returned v ∧ ∃ p : Regrown, w'' = Go.Sort.grow (redrawn w p.d) p.os := Calls.regrown_of h
theorem qcell {w : World} {a : Addr} {v : Value} (h : w.cell? a = some v) (d : Nat) (os : Array Obj) : (Go.Sort.grow (redrawn w d) os).cell? a = some v := cell_regrown h d os
end Go.Proofs.YtbkhnljaajajiaaGreatDoor
namespace Go.Proofs.YtbkhnljaajajiaaGreatDoor
open Go.ChangeShapes Go.WideShapes Go.ChangeAt Go.RowKit Go.Joins
set_option maxRecDepth 100000
theorem own : ownKnob Tryz.prog.godebug = none := by kernel_rfl
theorem laidOut : laidOutB Tryz.prog = true := by kernel_rfl
def Row (w : World) (B : Nat) (A : Option Addr) (n sz : Nat) (xs : List Value) : Prop :=
 xs.length = n * sz ∧ (0 < n → ∃ b off, A = some ⟨b, off, none⟩ ∧ b < B ∧ ∀ (j : Nat) u, xs[j]? = some u → w.cell? ⟨b, off + j, none⟩ = some u)
section
variable {w w' : World} {B B' n sz : Nat} {A : Option Addr} {xs : List Value}
theorem Row.keep (h : Row w B A n sz xs) (hk : ∀ p : Addr, p.block < B → w'.cell? p = w.cell? p) : Row w' B A n sz xs :=
 ⟨h.1, fun hn => by
  obtain ⟨b, off, e, hb, hc⟩ := h.2 hn; exact ⟨b, off, e, hb, fun j u hu => (hk ⟨b, off + j, none⟩ hb).trans (hc j u hu)⟩⟩
theorem Row.more (h : Row w B A n sz xs) (hB : B ≤ B') : Row w B' A n sz xs :=
 ⟨h.1, fun hn => by
  obtain ⟨b, off, e, hb, hc⟩ := h.2 hn; exact ⟨b, off, e, by omega, hc⟩⟩
theorem Row.below (h : Row w B A n sz xs) (hb : Below B w w') : Row w' B A n sz xs := h.keep fun _ hp => hb.cell hp
theorem Row.of_own {base : Nat} {e : TypeId} {c : Nat} (h : w.ownsRow base e sz (.slice A n c) n xs) : Row w w.heap.size A n sz xs := by
 refine ⟨h.1, fun hn => ?_⟩; obtain ⟨g, cap, hv, _, hlt⟩ := h.form hn; have hA : A = some ⟨g, 0, none⟩ := (by injection hv); subst hA; refine ⟨g, 0, rfl, hlt, fun j u hu => ?_⟩; have := h.cells (g := g) rfl j u hu; by_cases hj : j = 0
 ·subst hj; simpa [Addr.add] using this
 ·simpa [Addr.add, hj] using this
end
section
variable {α : Type} {ea : α → List Value} {sz : Nat}
theorem flat_len (hl : ∀ a, (ea a).length = sz) : ∀ l : List α, (l.flatMap ea).length = l.length * sz
 | [] => by simp
 | y :: l => by simp only [List.flatMap_cons, List.length_append, flat_len hl l, hl, List.length_cons, Nat.add_mul]; omega
theorem flat_at (hl : ∀ a, (ea a).length = sz) : ∀ (l : List α) (i : Nat) (q : α) (k : Nat) (u : Value), l[i]? = some q → (ea q)[k]? = some u → (l.flatMap ea)[i * sz + k]? = some u
 | [], i, q, k, u, h, _ => by simp at h
 | y :: l, 0, q, k, u, h, hk => by
  simp at h; subst h; rw [List.flatMap_cons, List.getElem?_append_left (by have := (List.getElem?_eq_some_iff.1 hk).1; omega)]; simpa using hk
 | y :: l, i + 1, q, k, u, h, hk => by
  rw [List.flatMap_cons, List.getElem?_append_right (by rw [hl, Nat.add_mul]; omega)]; have := flat_at hl l i q k u (by simpa using h) hk; rw [hl, show (i + 1) * sz + k - sz = i * sz + k by rw [Nat.add_mul]; omega]; exact this
end
section
variable {H : Type} {enc : TypeId × Value → H} {W : World} {base : Nat} {v : Value} {d : DataW H} {p : List MemPlace}
structure Pad where
 day : Int
 case : ByteArray
def Pad.good (p : Pad) : Prop := (Lit.int .i64 p.day).wf = true ∧ p.case.size ≤ maxLen
def padC (p : Pad) : List Value := [.int .i64 p.day, .string p.case]
theorem padC_len (p : Pad) : (padC p).length = 2 := rfl
def PadsIn (w : World) (B : Nat) (A : Option Addr) (n c : Nat) (ps : List Pad) : Prop :=
 ps.length = n ∧ n ≤ c ∧ c ≤ maxLen ∧ Row w B A n 2 (ps.flatMap padC) ∧ ∀ p ∈ ps, p.good
structure Drawer where
 A : Option Addr
 n : Nat
 c : Nat
 ps : List Pad
def drawerC (d : Drawer) : List Value := [.slice d.A d.n d.c]
theorem drawerC_len (d : Drawer) : (drawerC d).length = 1 := rfl
def DrawersIn (w : World) (B : Nat) (A : Option Addr) (n c : Nat) (ds : List Drawer) : Prop :=
 ds.length = n ∧ n ≤ c ∧ c ≤ maxLen ∧ Row w B A n 1 (ds.flatMap drawerC) ∧ ∀ d ∈ ds, PadsIn w B d.A d.n d.c d.ps
theorem openStr (hv : Value.okWide Tryz.prog W .any base 9 v) (h : DataW.Trod enc Tryz.prog W 0 (fun _ => true) true 9 v d p) : ∃ s : ByteArray, v = .string s ∧ s.size ≤ maxLen := by
 obtain ⟨s, rfl, _, _, hs⟩ := Go.ChangeMaps.open_string Tryz.underlying9 hv h; exact ⟨s, rfl, hs⟩
end
end Go.Proofs.YtbkhnljaajajiaaGreatDoor
namespace Go.Proofs.YtbkhnljaajajiaaGreatDoor
open Go.ChangeShapes Go.WideShapes Go.ChangeAt Go.RowKit
theorem only_next {w w1 w2 : World} {row : Option Nat} (h : w.grownBy w1 row) (h2 : w1.grownBy w2 row) : w.grownBy w2 row :=
 ⟨h2.os.trans h.os, h2.tape.trans h.tape, h2.output.trans h.output, Nat.le_trans h.size h2.size, fun i hi hne => (h2.block i (Nat.lt_of_lt_of_le hi h.size) hne).trans (h.block i hi hne)⟩
def Blk (w : World) (b : Nat) (t : TypeId) (cs : Array Value) : Prop := w.heap[b]? = some (.cells cs t (0, 0))
theorem Blk.lt {w : World} {b : Nat} {t : TypeId} {cs : Array Value} (h : Blk w b t cs) : b < w.heap.size := by
 rcases Nat.lt_or_ge b w.heap.size with hlt | hge
 ·exact hlt
 ·unfold Blk at h; rw [Array.getElem?_eq_none hge] at h; cases h
theorem Blk.cell {w : World} {b : Nat} {t : TypeId} {cs : Array Value} (h : Blk w b t cs) (i : Nat) : w.cell? ⟨b, i, none⟩ = cs[i]? := cell_of_row w b i cs t (0, 0) h
theorem Blk.free {w : World} {b : Nat} {t : TypeId} {cs : Array Value} (h : Blk w b t cs) (i : Nat) : w.frozen? ⟨b, i, none⟩ = false := by
 unfold Blk at h; simp [World.frozen?, h]
theorem Blk.new (w : World) (t : TypeId) (cs : Array Value) : Blk (w.alloc (.cells cs t)) w.heap.size t cs := heap_alloc_new w _
theorem Blk.alloc {w : World} {b : Nat} {t : TypeId} {cs : Array Value} (h : Blk w b t cs) (o : Obj) : Blk (w.alloc o) b t cs := (Below.heap_alloc w o b h.lt).trans h
theorem Blk.only {w w' : World} {b g : Nat} {t : TypeId} {cs : Array Value} (h : Blk w b t cs) (hg : w.grownBy w' (some g)) (hne : b ≠ g) : Blk w' b t cs := (hg.block b h.lt (fun e => hne (by injection e))).trans h
theorem Blk.below {w w' : World} {b : Nat} {t : TypeId} {cs : Array Value} (h : Blk w b t cs) (hb : Below w.heap.size w w') : Blk w' b t cs := (hb.block b h.lt).trans h
theorem Blk.far {w : World} {b : Nat} {t : TypeId} {cs : Array Value} (h : Blk w b t cs) {p : Addr} (hp : b ≠ p.block) (u : Value) : Blk (w.setCell p u) b t cs := (Below.heap_setCell w p u b hp).trans h
theorem Blk.set {w : World} {b : Nat} {t : TypeId} {cs : Array Value} (h : Blk w b t cs) (i : Nat) (u : Value) : Blk (w.setCell ⟨b, i, none⟩ u) b t (cs.setIfInBounds i u) := by
 unfold Blk at h ⊢; simp [World.setCell, Array.getElem?_modify, h]
theorem Blk.two {w : World} {b : Nat} {t : TypeId} {x y : Value} (h : Blk w b t #[x, y]) :
  w.cell? ⟨b, 0, none⟩ = some x ∧ w.cell? ⟨b, 1, none⟩ = some y ∧ w.frozen? ⟨b, 0, none⟩ = false ∧ w.frozen? ⟨b, 1, none⟩ = false :=
 ⟨h.cell 0, h.cell 1, h.free 0, h.free 1⟩
end Go.Proofs.YtbkhnljaajajiaaGreatDoor
namespace Go.Proofs.YtbkhnljaajajiaaGreatDoor
open Go.ChangeShapes Go.WideShapes Go.ChangeAt Go.RowKit
def padB (d : Int) (c : List UInt8) : Bool := decide (0 ≤ d ∧ d ≤ 9999) && wordB c
theorem specPadValid (d : Int) (c : ByteArray) (w : World) (hc : c.size ≤ maxLen) : Calls Tryz.prog 75 #[.agg #[.int .i64 d, .string c]] w fun e w' => e = .returned (.bool (padB d c.data.toList)) ∧ Below w.heap.size w w' := by
 by_cases hd : 0 ≤ d ∧ d ≤ 9999
 ·have hr : padB d c.data.toList = wordB c.data.toList := (by unfold padB; rw [decide_eq_true hd]; rfl); have HR := uH hr; clear hr; obtain ⟨hd1, hd2⟩ := hd; go_enter Tryz.func75, Tryz.ntmps75
  go_wp2_with (first | (go_at_call 134; refine (l6In_any _ _ _ _).mono ?_; rintro e w' ⟨rfl, rfl⟩) | (go_at_call 135; refine (specWordValid _ _ hc).mono ?_; rintro e w' ⟨rfl, rfl⟩))
  go_returns; exact ⟨ret_bool (by rw [HR.out]), by go_grown⟩
 ·have hr : padB d c.data.toList = false := (by unfold padB; rw [decide_eq_false hd]; rfl); have HR := uH hr; clear hr; have hdd : decide (0 ≤ d ∧ d ≤ 9999) = false := decide_eq_false hd; go_enter Tryz.func75, Tryz.ntmps75
  go_wp2_with (first | (go_at_call 134; refine (l6In_any _ _ _ _).mono ?_; rintro e w' ⟨rfl, rfl⟩) | (go_at_call 135; refine (specWordValid _ _ hc).mono ?_; rintro e w' ⟨rfl, rfl⟩))
  go_returns; exact ⟨ret_bool (by rw [HR.out]), by go_grown⟩
theorem implPadValid (d : Int) (c : ByteArray) (w : World) (hc : c.size ≤ maxLen) : Calls Tryz.prog 76 #[.agg #[.int .i64 d, .string c]] w fun e w' => e = .returned (.bool (padB d c.data.toList)) ∧ Below w.heap.size w w' := by
 by_cases hd1 : 0 ≤ d
 ·by_cases hd2 : d ≤ 9999
  ·have hr : padB d c.data.toList = wordB c.data.toList := (by unfold padB; rw [decide_eq_true ⟨hd1, hd2⟩]; rfl); have HR := uH hr; clear hr; go_enter Tryz.func76, Tryz.ntmps76
   go_wp2_with (go_at_call 129; refine (implWordValid _ _ hc).mono ?_; rintro e w' ⟨rfl, rfl⟩)
   go_returns; exact ⟨ret_bool (by rw [HR.out]), by go_grown⟩
  ·have hr : padB d c.data.toList = false := (by unfold padB; rw [decide_eq_false (by omega)]; rfl); have HR := uH hr; clear hr; go_enter Tryz.func76, Tryz.ntmps76
   go_wp2; go_returns; exact ⟨ret_bool (by rw [HR.out]), by go_grown⟩
 ·have hr : padB d c.data.toList = false := (by unfold padB; rw [decide_eq_false (by omega)]; rfl); have HR := uH hr; clear hr; go_enter Tryz.func76, Tryz.ntmps76
  go_wp2; go_returns; exact ⟨ret_bool (by rw [HR.out]), by go_grown⟩
end Go.Proofs.YtbkhnljaajajiaaGreatDoor
namespace Go.Proofs.YtbkhnljaajajiaaGreatDoor
open Go.ChangeShapes Go.WideShapes Go.ChangeAt Go.RowKit
set_option maxRecDepth 100000
theorem bytealgCompare (a b : ByteArray) (w : World) : Calls Tryz.prog 233 #[.string a, .string b] w fun e w' => e = .returned (.int .i64 (Lib.compareBytes a.data.toList b.data.toList)) ∧ w = w' := by
 go_enter Tryz.func233, Tryz.ntmps233
 go_wp2; rw [run_callFunc_extern Tryz.func256 (by kernel_rfl) (by kernel_rfl) (by kernel_rfl) (e := Extern.BytealgCompare.compare) (by kernel_rfl), Lib.run_compareString]; simp only [Result.andThen]; rw [Oper.upon_value]; go_wp2; go_ret; exact ⟨rfl, rfl⟩
theorem stringsCompare (a b : ByteArray) (w : World) : Calls Tryz.prog 197 #[.string a, .string b] w fun e w' => e = .returned (.int .i64 (Lib.compareBytes a.data.toList b.data.toList)) ∧ w = w' := by
 go_enter Tryz.func197, Tryz.ntmps197
 go_wp2_with (go_at_call 233; refine (bytealgCompare _ _ _).mono ?_; rintro e w' ⟨rfl, rfl⟩)
 go_ret; exact ⟨rfl, rfl⟩
def cmpI (x y : Int) : Int := if x < y then -1 else if y < x then 1 else 0
theorem cmpCompare (x y : Int) (w : World) : Calls Tryz.prog 196 #[.int .i64 x, .int .i64 y] w fun e w' => e = .returned (.int .i64 (cmpI x y)) ∧ w = w' := by
 rcases Int.lt_trichotomy x y with h | h | h
 ·have HR : Hid (cmpI x y = -1) := uH (by unfold cmpI; rw [if_pos h]); go_enter Tryz.func196, Tryz.ntmps196
  go_wp2; go_ret; exact ⟨ret_int HR.out.symm, rfl⟩
 ·subst h; have HR : Hid (cmpI x x = 0) := uH (by unfold cmpI; rw [if_neg (by omega), if_neg (by omega)]); go_enter Tryz.func196, Tryz.ntmps196
  go_wp2; go_ret; exact ⟨ret_int HR.out.symm, rfl⟩
 ·have HR : Hid (cmpI x y = 1) := uH (by unfold cmpI; rw [if_neg (by omega), if_pos h]); go_enter Tryz.func196, Tryz.ntmps196
  go_wp2; go_ret; exact ⟨ret_int HR.out.symm, rfl⟩
def orI (x y : Int) : Int := if x = 0 then y else x
theorem cmpOr (b : Nat) (x y : Int) (w : World) (h0 : w.cell? ⟨b, 0, none⟩ = some (.int .i64 x)) (h1 : w.cell? ⟨b, 1, none⟩ = some (.int .i64 y)) :
  Calls Tryz.prog 195 #[.slice (some ⟨b, 0, none⟩) 2 2] w fun e w' => e = .returned (.int .i64 (orI x y)) ∧ w = w' := by
 by_cases hx : x = 0
 ·subst hx; have HR : Hid (orI 0 y = y) := uH (by unfold orI; rw [if_pos rfl]); by_cases hy : y = 0
  ·subst hy; go_enter Tryz.func195, Tryz.ntmps195
   go_wp2
   go_rounds 3
   go_ret; exact ⟨ret_int HR.out.symm, rfl⟩
  ·have hy1 : (y != 0) = true := (by rw [bne_iff_ne]; exact hy); go_enter Tryz.func195, Tryz.ntmps195
   go_wp2
   go_rounds 3
   go_ret; exact ⟨ret_int HR.out.symm, rfl⟩
 ·have HR : Hid (orI x y = x) := uH (by unfold orI; rw [if_neg hx]); have hx1 : (x != 0) = true := (by rw [bne_iff_ne]; exact hx); go_enter Tryz.func195, Tryz.ntmps195
  go_wp2
  go_rounds 3
  go_ret; exact ⟨ret_int HR.out.symm, rfl⟩
theorem region_still_tail {P : Program} {id : Nat} {Q : Exit → Act → World → Prop} {a : Act} {w : World} {l : List Oper} (n : Nat) (hm : P.follows .mixedOrders = true) (hB : Region.lexTailB .any l.toArray n = true)
  (h : wpStill P l.toArray w.drew (fun a' => wpList P l.toArray Q (l.drop n) a' w.drew) (l.take n) a) : (Code.region id l.toArray true).wp P Q a w := wp_region_still_tail n hm hB h
def ordP (d : Int) (c : List UInt8) (d' : Int) (c' : List UInt8) : Int := orI (cmpI d d') (Lib.compareBytes c c')
theorem comparePads (d : Int) (c : ByteArray) (d' : Int) (c' : ByteArray) (w : World) :
  Calls Tryz.prog 146 #[.agg #[.int .i64 d, .string c], .agg #[.int .i64 d', .string c']] w fun e w' => e = .returned (.int .i64 (ordP d c.data.toList d' c'.data.toList)) ∧ Below w.heap.size w w' := by
 go_enter Tryz.func146, Tryz.ntmps146
 go_wp2; refine region_still_tail 10 (by kernel_rfl) (by kernel_rfl) ?_; simp only [List.take_succ_cons, List.take_zero, List.drop_succ_cons, List.drop_zero]; repeat still_step
 still_call ((cmpCompare _ _ _).mono fun _ _ h => ⟨h.1, h.2.symm⟩)
 repeat still_step
 still_call ((stringsCompare _ _ _).mono fun _ _ h => ⟨h.1, h.2.symm⟩)
 refine wpStill_nil ?_; (go_wp2_with fail); refine (cmpOr _ (cmpI d d') (Lib.compareBytes c.data.toList c'.data.toList) _ (by go_simp) (by go_simp)).mono ?_; rintro e w1 ⟨rfl, rfl⟩; go_wp2; go_ret; exact ⟨rfl, by go_grown⟩
theorem cb_spec : ∀ a b : List UInt8, Lib.compareBytes a b = if Op.bytesLess a b = true then -1 else if a = b then 0 else 1
 | [], [] => rfl
 | [], _ :: _ => by simp [Lib.compareBytes, Op.bytesLess]
 | _ :: _, [] => by simp [Lib.compareBytes, Op.bytesLess]
 | x :: a, y :: b => by
  have ih := cb_spec a b; unfold Lib.compareBytes Op.bytesLess; rw [ih]; by_cases h1 : x < y
  ·simp [h1]
  ·by_cases h2 : y < x
   ·have hne : x ≠ y := (by rintro rfl; exact h1 h2); simp [h1, h2, hne]
   ·have he : x = y := by
     apply UInt8.toNat_inj.1; have a1 : ¬ x.toNat < y.toNat := fun h => h1 (UInt8.lt_iff_toNat_lt.2 h); have a2 : ¬ y.toNat < x.toNat := fun h => h2 (UInt8.lt_iff_toNat_lt.2 h); omega
    subst he; simp [h1]
theorem cmpI_lt {d d' : Int} (h : d < d') : cmpI d d' = -1 := by unfold cmpI; rw [if_pos h]
theorem cmpI_gt {d d' : Int} (h : d' < d) : cmpI d d' = 1 := by unfold cmpI; rw [if_neg (by omega), if_pos h]
theorem cmpI_eq (d : Int) : cmpI d d = 0 := by unfold cmpI; rw [if_neg (by omega), if_neg (by omega)]
theorem ordP_lt {d d' : Int} {c c' : List UInt8} (h : d < d') : ordP d c d' c' = -1 := by unfold ordP; rw [cmpI_lt h]; rfl
theorem ordP_gt {d d' : Int} {c c' : List UInt8} (h : d' < d) : ordP d c d' c' = 1 := by unfold ordP; rw [cmpI_gt h]; rfl
theorem ordP_eq {d : Int} {c c' : List UInt8} : ordP d c d c' = Lib.compareBytes c c' := by unfold ordP; rw [cmpI_eq]; rfl
theorem toL (s : ByteArray) : s.toList = s.data.toList := Lib.toList_data s
theorem eqPadRun (d : Int) (c : ByteArray) (d' : Int) (c' : ByteArray) (w : World) :
  (binOp .eql 53 (.agg #[.int .i64 d, .string c]) (.agg #[.int .i64 d', .string c'])).run Tryz.prog w = .ok (.bool (d == d' && c.toList == c'.toList)) w := by
 have u3 := Tryz.underlying3; have a3 := Tryz.isAgg3; have z3 := Tryz.sizeOf3; have u9 := Tryz.underlying9; have a9 := Tryz.isAgg9; have z9 := Tryz.sizeOf9; have hS : Tryz.prog.underlying 53 = some (.struct (Tryz.prog.fieldsOf 53)) := (by kernel_rfl); have hp : Tryz.prog.stoodInHeld 53 = false := (by kernel_rfl); rw [run_eql_struct, show (10000 : Nat) = 9999 + 1 from rfl, run_equalIn_agg w 9999 53 _ _ hS hp]; simp only [Program.fieldsOf, Tryz.underlying53]; go_simp; by_cases h1 : d = d' <;> by_cases h2 : c.toList = c'.toList <;> simp [h1, h2]
theorem l8Order (d : Int) (c : ByteArray) (d' : Int) (c' : ByteArray) (w : World) :
  Calls Tryz.prog 143 #[.agg #[.int .i64 d, .string c], .agg #[.int .i64 d', .string c']] w fun e w' => e = .returned (.int .i64 (ordP d c.data.toList d' c'.data.toList)) ∧ Below w.heap.size w w' := by
 have hg : Tryz.prog.eqGuardType Tryz.prog.depth 53 = false := (by kernel_rfl); rcases Int.lt_trichotomy d d' with h | h | h
 ·have HR := uH (ordP_lt (c := c.data.toList) (c' := c'.data.toList) h); go_enter Tryz.func143, Tryz.ntmps143
  go_wp2; go_ret; exact ⟨ret_int HR.out.symm, by go_grown⟩
 ·subst h; have hE := fun w => eqPadRun d c d c' w; have HR := uH ((ordP_eq (d := d) (c := c.data.toList) (c' := c'.data.toList)).trans (cb_spec _ _)); by_cases hl : Op.bytesLess c.toList c'.toList = true
  ·go_enter Tryz.func143, Tryz.ntmps143
   go_wp2; go_ret; exact ⟨ret_int (by rw [HR.out, ← toL, ← toL, if_pos hl]), by go_grown⟩
  ·have hl' : Op.bytesLess c.toList c'.toList = false := (by simpa using hl); by_cases he : c.toList = c'.toList
   ·have HL := uH hl'; have HE := uH he; have hb : (c.toList == c'.toList) = true := (by simpa using he); clear hl he; go_enter Tryz.func143, Tryz.ntmps143
    go_wp2; go_ret; exact ⟨ret_int (by rw [HR.out, ← toL, ← toL, if_neg (by rw [HL.out]; simp), if_pos HE.out]), by go_grown⟩
   ·have hb : (c.toList == c'.toList) = false := (by simpa using he); have HL := uH hl'; have HE := uH he; clear hl he; go_enter Tryz.func143, Tryz.ntmps143
    go_wp2; go_ret; exact ⟨ret_int (by rw [HR.out, ← toL, ← toL, if_neg (by rw [HL.out]; simp), if_neg HE.out]), by go_grown⟩
 ·have HR := uH (ordP_gt (c := c.data.toList) (c' := c'.data.toList) h); have hE := fun w => eqPadRun d c d' c' w; have hd : (d == d') = false := (by simp; omega); go_enter Tryz.func143, Tryz.ntmps143
  go_wp2; go_ret; exact ⟨ret_int HR.out.symm, by go_grown⟩
end Go.Proofs.YtbkhnljaajajiaaGreatDoor
namespace Go.Proofs.YtbkhnljaajajiaaGreatDoor
open Go.ChangeShapes Go.WideShapes Go.ChangeAt Go.RowKit
set_option maxRecDepth 100000
end Go.Proofs.YtbkhnljaajajiaaGreatDoor
namespace Go.Proofs.YtbkhnljaajajiaaGreatDoor
open Go.ChangeShapes Go.WideShapes Go.ChangeAt Go.RowKit
section
variable {P : Program} (w : World)
theorem run_append_of_nil (base : Nat) (t ty e : TypeId) (i : TypeInfo) (size : Nat) (ht : P.underlying t = some (.slice e)) (hi : P.info? e = some i)
  (v : Value) (n : Nat) (xs : List Value) (hown : w.ownsRow base e size v n xs) (c : Nat) : (Builtin.append_ #[t, t] ty #[v, .slice none 0 c]).run P w = .ok v w := by
 rcases hown.2 with ⟨rfl, rfl⟩ | ⟨g, cap, cur, rfl, _, _, hnc, _⟩
 ·simp [Builtin.append_, run_underlying ht, sizeOf, typeInfo, hi, Builtin.lenOf, Builtin.firstCells]
 ·simp [Builtin.append_, run_underlying ht, sizeOf, typeInfo, hi, Builtin.lenOf, Builtin.firstCells, hnc, storeCells]
theorem run_append_any (base : Nat) (t ty e : TypeId) (i : TypeInfo) (z : Value) (size bytes : Nat) (ht : P.underlying t = some (.slice e)) (hi : P.info? e = some i) (hz : i.zero = some z)
  (hsize : i.size = size) (hby : i.bytes = bytes) (hzs : z.cells.size = size) (hsz : 0 < size)
  (v : Value) (n : Nat) (xs : List Value) (hown : w.ownsRow base e size v n xs)
  (B : Nat) (A : Option Addr) (m c : Nat) (news : List Value) (hr : Row w B A m size news) (h1 : ∀ u ∈ news, u.oneCell' = true)
  (h63 : n + m ≤ maxLen) (hbytes : (n + m) * bytes ≤ 140737488355328) (hbase : base ≤ w.heap.size) :
  ∃ v' w', (Builtin.append_ #[t, t] ty #[v, .slice A m c]).run P w = .ok v' w' ∧ w'.ownsRow base e size v' (n + m) (xs ++ news) ∧ w.grownBy w' v.ownBlock ∧
   (v'.ownBlock = v.ownBlock ∨ v'.ownBlock = some w.heap.size) := by
 rcases A with _ | ad
 ·have hm : m = 0 := by
   rcases Nat.eq_zero_or_pos m with h0 | h0
   ·exact h0
   ·obtain ⟨_, _, h, _⟩ := hr.2 h0; cases h
  subst hm; have hn : news = [] := List.eq_nil_of_length_eq_zero (by simpa using hr.1); subst hn; exact ⟨v, w, run_append_of_nil w base t ty e i size ht hi v n xs hown c, by simpa using hown, World.grownBy.refl w _, .inl rfl⟩
 ·have hcells : ∀ j u, news[j]? = some u → w.cell? (ad.add j) = some u := by
   intro j u hu; rcases Nat.eq_zero_or_pos m with h0 | h0
   ·subst h0; have hn : news = [] := List.eq_nil_of_length_eq_zero (by simpa using hr.1); subst hn; simp at hu
   ·obtain ⟨b, off, h, _, hc⟩ := hr.2 h0; injection h with h; subst h; have := hc j u hu; by_cases hj : j = 0
    ·subst hj; simpa [Addr.add] using this
    ·simpa [Addr.add, hj] using this
  obtain ⟨v', w', hrun, h2, h3, _, h5⟩ := run_append_own_at (P := P) w base t ty e i z size bytes ht hi hz hsize hby hzs hsz v n xs hown ad m c news hr.1 hcells h1 h63 hbytes hbase; exact ⟨v', w', hrun, h2, h3, h5⟩
theorem wp_append_any {o : Oper} {a : Act} {K : Act → World → Prop} {Q : Exit → Act → World → Prop} (s x : Operand) (t : TypeId)
  (ho : o.op = .call { callee := .builtin .append, args := #[s, x], argTypes := #[t, t] })
  (base : Nat) (e : TypeId) (i : TypeInfo) (z : Value) (size bytes : Nat) (ht : P.underlying t = some (.slice e)) (hi : P.info? e = some i) (hz : i.zero = some z)
  (hsize : i.size = size) (hby : i.bytes = bytes) (hzs : z.cells.size = size) (hsz : 0 < size)
  (v : Value) (n : Nat) (xs : List Value) (hs : a.eval s = v) (hown : w.ownsRow base e size v n xs)
  (B : Nat) (A : Option Addr) (m c : Nat) (news : List Value) (hx : a.eval x = .slice A m c) (hr : Row w B A m size news) (h1 : ∀ u ∈ news, u.oneCell' = true)
  (h63 : n + m ≤ maxLen) (hbytes : (n + m) * bytes ≤ 140737488355328) (hbase : base ≤ w.heap.size)
  (h : ∀ v' w', w'.ownsRow base e size v' (n + m) (xs ++ news) → w.grownBy w' v.ownBlock → (v'.ownBlock = v.ownBlock ∨ v'.ownBlock = some w.heap.size) → K (a.put o.dst v') w') : o.wp P a w K Q := by
 obtain ⟨v', w', hrun, h2, h3, h4⟩ := run_append_any (P := P) w base t o.type e i z size bytes ht hi hz hsize hby hzs hsz v n xs hown B A m c news hr h1 h63 hbytes hbase; unfold Oper.wp execOp; simp only [ho, resolve, invoke, builtin, Sem.run_bind, Sem.run_pure, Result.andThen_ok, List.map_toArray, List.map_cons, List.map_nil, hs, hx, hrun]; exact h v' w' h2 h3 h4
theorem wpList_append_any {ops : Array Oper} {rest : List Oper} {o : Oper} {a : Act} {Q : Exit → Act → World → Prop} (hgd : o.guard = none) (s x : Operand) (t : TypeId)
  (ho : o.op = .call { callee := .builtin .append, args := #[s, x], argTypes := #[t, t] })
  (base : Nat) (e : TypeId) (i : TypeInfo) (z : Value) (size bytes : Nat) (ht : P.underlying t = some (.slice e)) (hi : P.info? e = some i) (hz : i.zero = some z)
  (hsize : i.size = size) (hby : i.bytes = bytes) (hzs : z.cells.size = size) (hsz : 0 < size)
  (v : Value) (n : Nat) (xs : List Value) (hs : a.eval s = v) (hown : w.ownsRow base e size v n xs)
  (B : Nat) (A : Option Addr) (m c : Nat) (news : List Value) (hx : a.eval x = .slice A m c) (hr : Row w B A m size news) (h1 : ∀ u ∈ news, u.oneCell' = true)
  (h63 : n + m ≤ maxLen) (hbytes : (n + m) * bytes ≤ 140737488355328) (hbase : base ≤ w.heap.size)
  (h : ∀ v' w', w'.ownsRow base e size v' (n + m) (xs ++ news) → w.grownBy w' v.ownBlock → (v'.ownBlock = v.ownBlock ∨ v'.ownBlock = some w.heap.size) → wpList P ops Q rest (a.put o.dst v') w') : wpList P ops Q (o :: rest) a w :=
 wpList_plain hgd fun _ hK => wp_append_any w s x t ho base e i z size bytes ht hi hz hsize hby hzs hsz v n xs hs hown B A m c news hx hr h1 h63 hbytes hbase fun v' w' h2 h3 h4 => hK _ _ (h v' w' h2 h3 h4)
theorem step_append_any {ops : Array Oper} {o : Oper} {a : Act} {K : Act → World → Prop} {Q : Exit → Act → World → Prop} {E : Prop} (hgd : o.guard = none) (s x : Operand) (t : TypeId)
  (ho : o.op = .call { callee := .builtin .append, args := #[s, x], argTypes := #[t, t] })
  (base : Nat) (e : TypeId) (i : TypeInfo) (z : Value) (size bytes : Nat) (ht : P.underlying t = some (.slice e)) (hi : P.info? e = some i) (hz : i.zero = some z)
  (hsize : i.size = size) (hby : i.bytes = bytes) (hzs : z.cells.size = size) (hsz : 0 < size)
  (v : Value) (n : Nat) (xs : List Value) (hs : a.eval s = v) (hown : w.ownsRow base e size v n xs)
  (B : Nat) (A : Option Addr) (m c : Nat) (news : List Value) (hx : a.eval x = .slice A m c) (hr : Row w B A m size news) (h1 : ∀ u ∈ news, u.oneCell' = true)
  (h63 : n + m ≤ maxLen) (hbytes : (n + m) * bytes ≤ 140737488355328) (hbase : base ≤ w.heap.size)
  (h : ∀ v' w', w'.ownsRow base e size v' (n + m) (xs ++ news) → w.grownBy w' v.ownBlock → (v'.ownBlock = v.ownBlock ∨ v'.ownBlock = some w.heap.size) → K (a.put o.dst v') w') :
  if Region.wanted o (yielded ops a.tmps) = true then Oper.wp P o a w K Q else E := by
 have hw : Region.wanted o (yielded ops a.tmps) = true := (by simp [Region.wanted, hgd]); rw [if_pos hw]; exact wp_append_any w s x t ho base e i z size bytes ht hi hz hsize hby hzs hsz v n xs hs hown B A m c news hx hr h1 h63 hbytes hbase h
end
section
variable {w w' : World} {B n sz : Nat} {e : TypeId} {v : Value} {xs : List Value}
theorem ownG_form (h : w.ownsRow B e sz v n xs) : ∃ A c, v = .slice A n c ∧ n ≤ c ∧ c ≤ maxLen := by
 rcases h.2 with ⟨rfl, rfl⟩ | ⟨g, cap, cur, rfl, _, _, h1, h2, _⟩
 ·exact ⟨none, 0, rfl, Nat.le_refl _, Nat.zero_le _⟩
 ·exact ⟨_, cap, rfl, h1, h2⟩
theorem ownG_base {k : Nat} (h : w.ownsRow B e sz v n xs) (hk : v.ownBlock = some k) : B ≤ k := by
 rcases h.2 with ⟨rfl, rfl⟩ | ⟨g, cap, cur, rfl, hg, _⟩
 ·cases hk
 ·injection hk with hk; simp at hk; omega
theorem ownG_congr (h : w.ownsRow B e sz v n xs) (hb : ∀ b, v.ownBlock = some b → w'.heap[b]? = w.heap[b]?) : w'.ownsRow B e sz v n xs := by
 refine ⟨h.1, ?_⟩; rcases h.2 with h2 | ⟨g, cap, cur, rfl, h1, h2, h3⟩
 ·exact .inl h2
 ·exact .inr ⟨g, cap, cur, rfl, h1, (hb g rfl).trans h2, h3⟩
theorem ownG_obj (h : w.ownsRow B e sz v n xs) {b : Nat} (hb : v.ownBlock = some b) : ∃ cur, w.heap[b]? = some (.cells cur e (0, 0)) := by
 rcases h.2 with ⟨rfl, _⟩ | ⟨g, cap, cur, rfl, h1, h2, _⟩
 ·cases hb
 ·injection hb with hb; subst hb; exact ⟨cur, h2⟩
theorem ownG_lt (h : w.ownsRow B e sz v n xs) {b : Nat} (hb : v.ownBlock = some b) : b < w.heap.size := by
 obtain ⟨cur, h1⟩ := ownG_obj h hb; exact Blk.lt (w := w) (t := e) h1
theorem ownG_keep (h : w.ownsRow B e sz v n xs) (hb : Below w.heap.size w w') : w'.ownsRow B e sz v n xs := ownG_congr h fun _ hv => hb.block _ (ownG_lt h hv)
theorem ownG_mono {B' : Nat} (h : w.ownsRow B e sz v n xs) (hB : B' ≤ B) : w.ownsRow B' e sz v n xs := by
 refine ⟨h.1, ?_⟩; rcases h.2 with h2 | ⟨g, cap, cur, rfl, h1, h2, h3⟩
 ·exact .inl h2
 ·exact .inr ⟨g, cap, cur, rfl, by omega, h2, h3⟩
end
end Go.Proofs.YtbkhnljaajajiaaGreatDoor
namespace Go.Proofs.YtbkhnljaajajiaaGreatDoor
open Go.RowKit
set_option maxRecDepth 100000
set_option linter.unusedSimpArgs false
set_option linter.unusedVariables false
def mkStr (l : List UInt8) : ByteArray := ⟨l.toArray⟩
theorem mkStr_data (l : List UInt8) : (mkStr l).data.toList = l := rfl
theorem mkStr_size (l : List UInt8) : (mkStr l).size = l.length := rfl
theorem mkStr_self (s : ByteArray) : mkStr s.data.toList = s := by cases s; rfl
theorem mkStr_append (a b : List UInt8) : mkStr a ++ mkStr b = mkStr (a ++ b) := by
 apply ByteArray.ext; apply Array.toList_inj.1; simp [mkStr]
theorem run_add {P : Program} (a b : List UInt8) (h : a.length + b.length ≤ 9223372036854775807) (w : World) : (Op.stringOp .add (mkStr a) (mkStr b)).run P w = .ok (.string (mkStr (a ++ b))) w := by
 rw [run_string_add_sum w (mkStr a) (mkStr b) (by rw [mkStr_size, mkStr_size]; exact h), mkStr_append]
end Go.Proofs.YtbkhnljaajajiaaGreatDoor
namespace Go.Proofs.YtbkhnljaajajiaaGreatDoor
open Go.ChangeShapes Go.WideShapes Go.ChangeAt Go.RowKit
set_option maxRecDepth 100000
set_option linter.unusedSimpArgs false
set_option linter.unusedVariables false
def strP (p : List UInt8) : Value := .string (mkStr p)
def wdAt (ws : List (List UInt8)) (k : Nat) : List UInt8 := ws.getD k []
theorem wdAt_some {ws : List (List UInt8)} {k : Nat} (h : k < ws.length) : ws[k]? = some (wdAt ws k) := by simp [wdAt, List.getD_eq_getElem?_getD, h]
theorem wdAt_mem {ws : List (List UInt8)} {k : Nat} (h : k < ws.length) : wdAt ws k ∈ ws := List.mem_of_getElem? (wdAt_some h)
def WdsIn (w : World) (B : Nat) (A : Option Addr) (n c : Nat) (ws : List (List UInt8)) : Prop :=
 ws.length = n ∧ n ≤ c ∧ c ≤ maxLen ∧ Row w B A n 1 (ws.map strP)
theorem WdsIn.below {w w' : World} {B n c : Nat} {A : Option Addr} {ws : List (List UInt8)} (h : WdsIn w B A n c ws) (hb : Below B w w') : WdsIn w' B A n c ws :=
 ⟨h.1, h.2.1, h.2.2.1, h.2.2.2.below hb⟩
theorem WdsIn.more {w : World} {B B' n c : Nat} {A : Option Addr} {ws : List (List UInt8)} (h : WdsIn w B A n c ws) (hb : B ≤ B') : WdsIn w B' A n c ws :=
 ⟨h.1, h.2.1, h.2.2.1, h.2.2.2.more hb⟩
theorem WdsIn.keep {w w' : World} {n c : Nat} {A : Option Addr} {ws : List (List UInt8)} (h : WdsIn w w.heap.size A n c ws) (hb : Below w.heap.size w w') : WdsIn w' w'.heap.size A n c ws := (h.below hb).more hb.size
theorem WdsIn.at_ {w : World} {B n c k : Nat} {A : Option Addr} {ws : List (List UInt8)} (h : WdsIn w B A n c ws) (hk : k < n) :
  ∃ b off, A = some ⟨b, off, none⟩ ∧ b < B ∧ w.cell? ⟨b, off + k, none⟩ = some (.string (mkStr (wdAt ws k))) := by
 obtain ⟨h1, _, _, h4⟩ := h; obtain ⟨b, off, eA, hbB, hc⟩ := h4.2 (by omega); have hs := wdAt_some (ws := ws) (k := k) (by omega); refine ⟨b, off, eA, hbB, hc k _ ?_⟩; rw [List.getElem?_map, hs]; rfl
def WdOwn (w : World) (B : Nat) (v : Value) (ws : List (List UInt8)) : Prop := w.ownsRow B 9 1 v ws.length (ws.map strP)
theorem WdOwn.reads {w : World} {B n c : Nat} {A : Option Addr} {ws : List (List UInt8)} (h : WdOwn w B (.slice A n c) ws) (hn : ws.length = n) : WdsIn w w.heap.size A n c ws := by
 unfold WdOwn at h; rw [hn] at h; obtain ⟨A', c', e, h2, h3⟩ := ownG_form h; injection e with e1 e2 e3; subst e1 e3; exact ⟨hn, h2, h3, Row.of_own h⟩
theorem infoInt : (Tryz.prog.info? 3).map (fun i => (i.zero, i.size, i.bytes)) = some (some (.int .i64 0), 1, 8) := by kernel_rfl
theorem rowNew1 (w : World) (u : Value) (t : TypeId) : Row (w.alloc (.cells #[u] t)) (w.heap.size + 1) (some ⟨w.heap.size, 0, none⟩) 1 1 [u] := by
 refine ⟨rfl, fun _ => ⟨w.heap.size, 0, rfl, by omega, fun j x hj => ?_⟩⟩; rw [World.cell?_alloc_at _ t w.heap.size (0 + j) rfl]; simpa using hj
theorem infoWd : (Tryz.prog.info? 9).map (fun i => (i.zero, i.size, i.bytes)) = some (some (.string ByteArray.empty), 1, 16) := by kernel_rfl
theorem beq_str (s : ByteArray) (l l' : List UInt8) (hs : s = mkStr l') : ((mkStr l).toList == s.toList) = decide (l = l') := by
 rw [hs, Lib.toList_data, Lib.toList_data, mkStr_data, mkStr_data]; by_cases h : l = l'
 ·rw [h, decide_eq_true rfl]; exact beq_self_eq_true _
 ·rw [decide_eq_false h]; exact beq_eq_false_iff_ne.2 h
end Go.Proofs.YtbkhnljaajajiaaGreatDoor
