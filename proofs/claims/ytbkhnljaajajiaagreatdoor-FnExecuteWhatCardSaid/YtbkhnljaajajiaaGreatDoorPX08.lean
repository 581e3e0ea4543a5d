/-
  Contracts and plain laws that the proofs lean on. Conditions: as each says.
-/
import Derived.Test.YtbkhnljaajajiaaGreatDoorPX00
import Derived.Test.YtbkhnljaajajiaaGreatDoorPX01
import Derived.Shelf.Strings.Builder1
import Derived.Shelf.Strings.Builder2
import Derived.Shelf.Strings.OnBuilder
import Derived.Shelf.Small.Strs
import Derived.Shelf.Strings.BuilderF
import Derived.Shelf.Strings.BuilderK
import Derived.Shelf.Strconv.Itoa0
import Derived.Shelf.Strconv.Itoa1
import Derived.Shelf.LaysM
import Derived.Shelf.Strconv.Itoa2
import Derived.Shelf.Strconv.Itoa3
import Derived.Shelf.Strings.Search1
import Derived.Shelf.Strings.Search2
import Derived.Shelf.Strings.Search3
import Derived.Shelf.Strings.Count
import Derived.Shelf.Strings.Shaped
import Derived.Shelf.Strings.Split
import Derived.Shelf.Unicode.DecodeSlow
import Derived.Shelf.Slices.Equal
import Derived.Test.YtbkhnljaajajiaaGreatDoorProg
import Derived.Lib.Builder
import Derived.Lib.AppendStr
import Derived.Lib.UnsafeStr
import Derived.Lib.MakeNoZero
import Derived.Laws.Externs
import Derived.Lib.Join
set_option maxRecDepth 100000
set_option linter.unusedSimpArgs false
set_option linter.unusedVariables false
set_option linter.unnecessarySimpa false
namespace Go.Proofs
open Go.Shelf
def Tryz.lays169_ren:Go.Shelf.Ren:=⟨fun | 169=>52 | n=>n,fun | 70=>80 | 9=>9 | 0=>0 | 72=>82 | 37=>22 | 127=>161 | 3=>3 | 5=>5 | n=>n,fun | n=>n⟩
theorem Tryz.lays169:Go.Proofs.Lays.n169 Tryz.prog Tryz.lays169_ren:={
 mixed:=by kernel_rfl
 f169:=Tryz.func52.trans (congrArg some (by kernel_rfl))
 t0:=Tryz.underlying0
 a0:=Tryz.isAgg0
 z0:=Tryz.sizeOf0
 v0:=Tryz.zeroValue0
 t3:=Tryz.underlying3
 a3:=Tryz.isAgg3
 z3:=Tryz.sizeOf3
 v3:=Tryz.zeroValue3
 t9:=Tryz.underlying9
 a9:=Tryz.isAgg9
 z9:=Tryz.sizeOf9
 v9:=Tryz.zeroValue9
 t37:=Tryz.underlying22
 a37:=Tryz.isAgg22
 z37:=Tryz.sizeOf22
 v37:=Tryz.zeroValue22
 t70:=Tryz.underlying80
 a70:=Tryz.isAgg80
 z70:=Tryz.sizeOf80
 v70:=Tryz.zeroValue80
 t72:=Tryz.underlying82
 a72:=Tryz.isAgg82
 z72:=Tryz.sizeOf82
 v72:=Tryz.zeroValue82
 t127:=Tryz.underlying161
 a127:=Tryz.isAgg161
 z127:=Tryz.sizeOf161
 v127:=Tryz.zeroValue161 }
theorem Tryz.Builder_Extra_169:Builder.Extra Tryz.prog Tryz.lays169_ren:={
 sizeBuilder:=by kernel_rfl
 liesBuilder:=by kernel_rfl
 t5:=Tryz.underlying5
 a5:=Tryz.isAgg5
 z5:=Tryz.sizeOf5
 v5:=Tryz.zeroValue5
 infoByte:=by kernel_rfl
 cellsByte:=by kernel_rfl
 sizeByte:=by kernel_rfl
 neB5:=by decide }
open Go.RowKit in
theorem Tryz.Builder_String_any (B b:Nat) (l:List UInt8) (w:World) (h:Lib.IsBuilder 82 5 B b (Lib.byteCells l) w) (hBw:B≤w.heap.size) :
 Calls Tryz.prog 52 #[.pointer (some ⟨b,0,none⟩)] w fun e w'=>e = .returned (.string ⟨l.toArray⟩)∧Below B w w':=Any.Builder_String_any Tryz.lays169 Tryz.Builder_Extra_169 B b l w h hBw
def Tryz.lays156_ren:Go.Shelf.Ren:=⟨fun | 156=>73 | 165=>132 | 166=>48 | 169=>52 | 240=>109 | 241=>190 | 276=>172 | 277=>228 | n=>n,fun | 31=>27 | 9=>9 | 3=>3 | 4=>4 | 0=>0 | 20=>20 | 72=>82 | 76=>85 | 70=>80 | 37=>22 | 75=>84 | 127=>161 | 164=>224 | 5=>5 | 80=>89 | n=>n,fun | n=>n⟩
theorem Tryz.lays156:Go.Proofs.Lays.n156 Tryz.prog Tryz.lays156_ren:={
 mixed:=by kernel_rfl
 f156:=Tryz.func73.trans (congrArg some (by kernel_rfl))
 f165:=Tryz.func132.trans (congrArg some (by kernel_rfl))
 f166:=Tryz.func48.trans (congrArg some (by kernel_rfl))
 f169:=Tryz.func52.trans (congrArg some (by kernel_rfl))
 f240:=Tryz.func109.trans (congrArg some (by kernel_rfl))
 f241:=Tryz.func190.trans (congrArg some (by kernel_rfl))
 f276:=Tryz.func172.trans (congrArg some (by kernel_rfl))
 f277:=Tryz.func228.trans (congrArg some (by kernel_rfl))
 t0:=Tryz.underlying0
 a0:=Tryz.isAgg0
 z0:=Tryz.sizeOf0
 v0:=Tryz.zeroValue0
 t3:=Tryz.underlying3
 a3:=Tryz.isAgg3
 z3:=Tryz.sizeOf3
 v3:=Tryz.zeroValue3
 t4:=Tryz.underlying4
 a4:=Tryz.isAgg4
 z4:=Tryz.sizeOf4
 v4:=Tryz.zeroValue4
 t9:=Tryz.underlying9
 a9:=Tryz.isAgg9
 z9:=Tryz.sizeOf9
 v9:=Tryz.zeroValue9
 t20:=Tryz.underlying20
 a20:=Tryz.isAgg20
 z20:=Tryz.sizeOf20
 v20:=Tryz.zeroValue20
 t31:=Tryz.underlying27
 a31:=Tryz.isAgg27
 z31:=Tryz.sizeOf27
 v31:=Tryz.zeroValue27
 t37:=Tryz.underlying22
 a37:=Tryz.isAgg22
 z37:=Tryz.sizeOf22
 v37:=Tryz.zeroValue22
 t70:=Tryz.underlying80
 a70:=Tryz.isAgg80
 z70:=Tryz.sizeOf80
 v70:=Tryz.zeroValue80
 t72:=Tryz.underlying82
 a72:=Tryz.isAgg82
 z72:=Tryz.sizeOf82
 v72:=Tryz.zeroValue82
 t75:=Tryz.underlying84
 a75:=Tryz.isAgg84
 z75:=Tryz.sizeOf84
 v75:=Tryz.zeroValue84
 t76:=Tryz.underlying85
 a76:=Tryz.isAgg85
 z76:=Tryz.sizeOf85
 v76:=Tryz.zeroValue85
 t127:=Tryz.underlying161
 a127:=Tryz.isAgg161
 z127:=Tryz.sizeOf161
 v127:=Tryz.zeroValue161
 t164:=Tryz.underlying224
 a164:=Tryz.isAgg224
 z164:=Tryz.sizeOf224
 v164:=Tryz.zeroValue224 }
theorem Tryz.Builder_Extra_156:Builder.Extra Tryz.prog Tryz.lays156_ren:={
 sizeBuilder:=by kernel_rfl
 liesBuilder:=by kernel_rfl
 t5:=Tryz.underlying5
 a5:=Tryz.isAgg5
 z5:=Tryz.sizeOf5
 v5:=Tryz.zeroValue5
 infoByte:=by kernel_rfl
 cellsByte:=by kernel_rfl
 sizeByte:=by kernel_rfl
 neB5:=by decide }
open Go.RowKit in
theorem Tryz.strings_Join_none (a:Option Addr) (c:Nat) (sep:ByteArray) (w:World) :
 Calls Tryz.prog 73 #[.slice a 0 c,.string sep] w fun e w'=>e = .returned (.string ⟨#[]⟩)∧w'=w:=Any.strings_Join_none Tryz.lays156 Tryz.Builder_Extra_156 a c sep w
open Go.RowKit in
theorem Tryz.strings_Join (bk o c:Nat) (xs:List ByteArray) (sep:ByteArray) (w:World) (hcells : ∀ (j:Nat) x,xs[j]? = some x→w.cell? ⟨bk,o+j,none⟩=some (.string x)) (hbk:bk < w.heap.size) (hN:xs.length≤140737488355328) (hcap:xs.length≤c) (hlen:(Lib.join (xs.map (·.data.toList)) sep.data.toList).length≤140737488355328) :
 Calls Tryz.prog 73 #[.slice (some ⟨bk,o,none⟩) xs.length c,.string sep] w fun e w'=>e = .returned (.string ⟨(Lib.join (xs.map (·.data.toList)) sep.data.toList).toArray⟩)∧Below w.heap.size w w':=Any.strings_Join Tryz.lays156 Tryz.Builder_Extra_156 bk o c xs sep w hcells hbk hN hcap hlen
def Tryz.lays137_ren:Go.Shelf.Ren:=⟨fun | 137=>209 | 217=>238 | 266=>258 | n=>n,fun | 9=>9 | 5=>5 | 3=>3 | n=>n,fun | n=>n⟩
theorem Tryz.lays137:Go.Proofs.Lays.n137 Tryz.prog Tryz.lays137_ren:={
 mixed:=by kernel_rfl
 f137:=Tryz.func209.trans (congrArg some (by kernel_rfl))
 f217:=Tryz.func238.trans (congrArg some (by kernel_rfl))
 f266:=Tryz.func258.trans (congrArg some (by kernel_rfl))
 t3:=Tryz.underlying3
 a3:=Tryz.isAgg3
 z3:=Tryz.sizeOf3
 v3:=Tryz.zeroValue3
 t5:=Tryz.underlying5
 a5:=Tryz.isAgg5
 z5:=Tryz.sizeOf5
 v5:=Tryz.zeroValue5
 t9:=Tryz.underlying9
 a9:=Tryz.isAgg9
 z9:=Tryz.sizeOf9
 v9:=Tryz.zeroValue9 }
open Go.RowKit in
theorem Tryz.strings_IndexByte (s:ByteArray) (c:Int) (w:World) :
 Calls Tryz.prog 209 #[.string s,.int .u8 c] w fun e w'=>e = .returned (.int .i64 (Lib.indexByte s.data.toList c.toNat.toUInt8))∧w'=w:=Any.strings_IndexByte Tryz.lays137 s c w
def Tryz.laysM171_ren:Go.Shelf.Ren:=⟨fun | 171=>50 | 243=>112 | 246=>173 | 283=>217 | 284=>218 | 285=>219 | 286=>220 | 129=>248 | 317=>247 | 318=>249 | 319=>250 | 320=>251 | 337=>262 | 338=>263 | n=>n,fun | 3=>3 | 9=>9 | 2=>2 | 4=>4 | 171=>251 | 0=>0 | 53=>252 | 37=>22 | 5=>5 | 173=>255 | 212=>273 | 51=>274 | 20=>20 | 213=>275 | 46=>262 | 232=>292 | 233=>293 | n=>n,fun | 17=>1 | 18=>4 | 19=>5 | n=>n⟩
theorem Tryz.laysM171:Go.Proofs.LaysM.n171 Tryz.prog Tryz.laysM171_ren:={
 mixed:=by kernel_rfl
 f129:=Tryz.func248.trans (congrArg some (by kernel_rfl))
 f171:=Tryz.func50.trans (congrArg some (by kernel_rfl))
 f243:=Tryz.func112.trans (congrArg some (by kernel_rfl))
 f246:=Tryz.func173.trans (congrArg some (by kernel_rfl))
 f283:=Tryz.func217.trans (congrArg some (by kernel_rfl))
 f284:=Tryz.func218.trans (congrArg some (by kernel_rfl))
 f285:=Tryz.func219.trans (congrArg some (by kernel_rfl))
 f286:=Tryz.func220.trans (congrArg some (by kernel_rfl))
 f317:=Tryz.func247.trans (congrArg some (by kernel_rfl))
 f318:=Tryz.func249.trans (congrArg some (by kernel_rfl))
 f319:=Tryz.func250.trans (congrArg some (by kernel_rfl))
 f320:=Tryz.func251.trans (congrArg some (by kernel_rfl))
 f337:=Tryz.func262.trans (congrArg some (by kernel_rfl))
 f338:=Tryz.func263.trans (congrArg some (by kernel_rfl))
 t0:=Tryz.underlying0
 a0:=Tryz.isAgg0
 z0:=Tryz.sizeOf0
 v0:=Tryz.zeroValue0
 t2:=Tryz.underlying2
 a2:=Tryz.isAgg2
 z2:=Tryz.sizeOf2
 v2:=Tryz.zeroValue2
 t3:=Tryz.underlying3
 a3:=Tryz.isAgg3
 z3:=Tryz.sizeOf3
 v3:=Tryz.zeroValue3
 t4:=Tryz.underlying4
 a4:=Tryz.isAgg4
 z4:=Tryz.sizeOf4
 v4:=Tryz.zeroValue4
 t5:=Tryz.underlying5
 a5:=Tryz.isAgg5
 z5:=Tryz.sizeOf5
 v5:=Tryz.zeroValue5
 t9:=Tryz.underlying9
 a9:=Tryz.isAgg9
 z9:=Tryz.sizeOf9
 v9:=Tryz.zeroValue9
 t20:=Tryz.underlying20
 a20:=Tryz.isAgg20
 z20:=Tryz.sizeOf20
 v20:=Tryz.zeroValue20
 t37:=Tryz.underlying22
 a37:=Tryz.isAgg22
 z37:=Tryz.sizeOf22
 v37:=Tryz.zeroValue22
 t46:=Tryz.underlying262
 a46:=Tryz.isAgg262
 z46:=Tryz.sizeOf262
 v46:=Tryz.zeroValue262
 t51:=Tryz.underlying274
 a51:=Tryz.isAgg274
 z51:=Tryz.sizeOf274
 v51:=Tryz.zeroValue274
 t53:=Tryz.underlying252
 a53:=Tryz.isAgg252
 z53:=Tryz.sizeOf252
 v53:=Tryz.zeroValue252
 t171:=Tryz.underlying251
 a171:=Tryz.isAgg251
 z171:=Tryz.sizeOf251
 v171:=Tryz.zeroValue251
 t173:=Tryz.underlying255
 a173:=Tryz.isAgg255
 z173:=Tryz.sizeOf255
 v173:=Tryz.zeroValue255
 t212:=Tryz.underlying273
 a212:=Tryz.isAgg273
 z212:=Tryz.sizeOf273
 v212:=Tryz.zeroValue273
 t213:=Tryz.underlying275
 a213:=Tryz.isAgg275
 z213:=Tryz.sizeOf275
 t232:=Tryz.underlying292
 a232:=Tryz.isAgg292
 z232:=Tryz.sizeOf292
 v232:=Tryz.zeroValue292
 t233:=Tryz.underlying293
 a233:=Tryz.isAgg293
 z233:=Tryz.sizeOf293
 v233:=Tryz.zeroValue293
 g17:=by kernel_rfl
 g18:=by kernel_rfl
 g19:=by kernel_rfl
 i0:=by kernel_rfl
 i2:=by kernel_rfl
 i3:=by kernel_rfl
 i4:=by kernel_rfl
 i5:=by kernel_rfl
 i9:=by kernel_rfl
 i20:=by kernel_rfl
 i37:=by kernel_rfl
 i46:=by kernel_rfl
 i51:=by kernel_rfl
 i53:=by kernel_rfl
 i171:=by kernel_rfl
 i173:=by kernel_rfl
 i212:=by kernel_rfl
 i232:=by kernel_rfl
 i233:=by kernel_rfl
 m17:=by kernel_rfl
 m18:=by kernel_rfl
 m19:=by kernel_rfl }
open Go.RowKit Go.Sort Go.Lib in
theorem Tryz.strconv_Itoa (n : Int) (h0 : -9223372036854775808 ≤ n) (h1 : n ≤ 9223372036854775807) (w : World) (htab : Lib.TabIs Tryz.prog w "internal/strconv.uint64pow10" .u64 Lib.pow10Tab) :
 Calls Tryz.prog 50 #[.int .i64 n] w fun e w'=>e = .returned (.string ⟨(Lib.itoa n).toArray⟩)∧∃ k os,w'=grow (w.drewN k) os:=Any.strconv_Itoa Tryz.laysM171 n h0 h1 w htab
def Tryz.lays171_ren:Go.Shelf.Ren:=⟨fun | 171=>50 | 243=>112 | 246=>173 | 283=>217 | 284=>218 | 285=>219 | 286=>220 | 129=>248 | 317=>247 | 318=>249 | 319=>250 | 320=>251 | 337=>262 | 338=>263 | n=>n,fun | 3=>3 | 9=>9 | 2=>2 | 4=>4 | 171=>251 | 0=>0 | 53=>252 | 37=>22 | 5=>5 | 173=>255 | 212=>273 | 51=>274 | 20=>20 | 213=>275 | 46=>262 | 232=>292 | 233=>293 | n=>n,fun | 17=>1 | 18=>4 | 19=>5 | n=>n⟩
theorem Tryz.lays171:Go.Proofs.Lays.n171 Tryz.prog Tryz.lays171_ren:={
 mixed:=by kernel_rfl
 f129:=Tryz.func248.trans (congrArg some (by kernel_rfl))
 f171:=Tryz.func50.trans (congrArg some (by kernel_rfl))
 f243:=Tryz.func112.trans (congrArg some (by kernel_rfl))
 f246:=Tryz.func173.trans (congrArg some (by kernel_rfl))
 f283:=Tryz.func217.trans (congrArg some (by kernel_rfl))
 f284:=Tryz.func218.trans (congrArg some (by kernel_rfl))
 f285:=Tryz.func219.trans (congrArg some (by kernel_rfl))
 f286:=Tryz.func220.trans (congrArg some (by kernel_rfl))
 f317:=Tryz.func247.trans (congrArg some (by kernel_rfl))
 f318:=Tryz.func249.trans (congrArg some (by kernel_rfl))
 f319:=Tryz.func250.trans (congrArg some (by kernel_rfl))
 f320:=Tryz.func251.trans (congrArg some (by kernel_rfl))
 f337:=Tryz.func262.trans (congrArg some (by kernel_rfl))
 f338:=Tryz.func263.trans (congrArg some (by kernel_rfl))
 t0:=Tryz.underlying0
 a0:=Tryz.isAgg0
 z0:=Tryz.sizeOf0
 v0:=Tryz.zeroValue0
 t2:=Tryz.underlying2
 a2:=Tryz.isAgg2
 z2:=Tryz.sizeOf2
 v2:=Tryz.zeroValue2
 t3:=Tryz.underlying3
 a3:=Tryz.isAgg3
 z3:=Tryz.sizeOf3
 v3:=Tryz.zeroValue3
 t4:=Tryz.underlying4
 a4:=Tryz.isAgg4
 z4:=Tryz.sizeOf4
 v4:=Tryz.zeroValue4
 t5:=Tryz.underlying5
 a5:=Tryz.isAgg5
 z5:=Tryz.sizeOf5
 v5:=Tryz.zeroValue5
 t9:=Tryz.underlying9
 a9:=Tryz.isAgg9
 z9:=Tryz.sizeOf9
 v9:=Tryz.zeroValue9
 t20:=Tryz.underlying20
 a20:=Tryz.isAgg20
 z20:=Tryz.sizeOf20
 v20:=Tryz.zeroValue20
 t37:=Tryz.underlying22
 a37:=Tryz.isAgg22
 z37:=Tryz.sizeOf22
 v37:=Tryz.zeroValue22
 t46:=Tryz.underlying262
 a46:=Tryz.isAgg262
 z46:=Tryz.sizeOf262
 v46:=Tryz.zeroValue262
 t51:=Tryz.underlying274
 a51:=Tryz.isAgg274
 z51:=Tryz.sizeOf274
 v51:=Tryz.zeroValue274
 t53:=Tryz.underlying252
 a53:=Tryz.isAgg252
 z53:=Tryz.sizeOf252
 v53:=Tryz.zeroValue252
 t171:=Tryz.underlying251
 a171:=Tryz.isAgg251
 z171:=Tryz.sizeOf251
 v171:=Tryz.zeroValue251
 t173:=Tryz.underlying255
 a173:=Tryz.isAgg255
 z173:=Tryz.sizeOf255
 v173:=Tryz.zeroValue255
 t212:=Tryz.underlying273
 a212:=Tryz.isAgg273
 z212:=Tryz.sizeOf273
 v212:=Tryz.zeroValue273
 t213:=Tryz.underlying275
 a213:=Tryz.isAgg275
 z213:=Tryz.sizeOf275
 t232:=Tryz.underlying292
 a232:=Tryz.isAgg292
 z232:=Tryz.sizeOf292
 v232:=Tryz.zeroValue292
 t233:=Tryz.underlying293
 a233:=Tryz.isAgg293
 z233:=Tryz.sizeOf293
 v233:=Tryz.zeroValue293
 g17:=by kernel_rfl
 g18:=by kernel_rfl
 g19:=by kernel_rfl }
open Go.RowKit Go.Sort Go.Lib in
theorem Tryz.strconv_Itoa_small (i:Nat) (hi:i < 100) (w:World) :
 Calls Tryz.prog 50 #[.int .i64 i] w fun e w'=>e = .returned (.string ⟨(Lib.decDigits i).toArray⟩)∧w'=w:=Any.strconv_Itoa_small Tryz.lays171 i hi w
def Tryz.lays221_ren:Go.Shelf.Ren:=⟨fun | 221=>108 | 268=>169 | 138=>170 | 143=>171 | 195=>213 | 197=>214 | 218=>215 | 219=>216 | 260=>243 | 217=>238 | 225=>244 | 224=>245 | 267=>246 | 266=>258 | 314=>261 | n=>n,fun | 9=>9 | 3=>3 | 31=>27 | 4=>4 | 0=>0 | 105=>249 | 21=>21 | 5=>5 | 46=>262 | 119=>283 | 139=>286 | 138=>285 | 146=>287 | 51=>274 | n=>n,fun | 1=>0 | 3=>2 | 4=>3 | n=>n⟩
theorem Tryz.lays221:Go.Proofs.Lays.n221 Tryz.prog Tryz.lays221_ren:={
 mixed:=by kernel_rfl
 f138:=Tryz.func170.trans (congrArg some (by kernel_rfl))
 f143:=Tryz.func171.trans (congrArg some (by kernel_rfl))
 f195:=Tryz.func213.trans (congrArg some (by kernel_rfl))
 f197:=Tryz.func214.trans (congrArg some (by kernel_rfl))
 f217:=Tryz.func238.trans (congrArg some (by kernel_rfl))
 f218:=Tryz.func215.trans (congrArg some (by kernel_rfl))
 f219:=Tryz.func216.trans (congrArg some (by kernel_rfl))
 f221:=Tryz.func108.trans (congrArg some (by kernel_rfl))
 f224:=Tryz.func245.trans (congrArg some (by kernel_rfl))
 f225:=Tryz.func244.trans (congrArg some (by kernel_rfl))
 f260:=Tryz.func243.trans (congrArg some (by kernel_rfl))
 f266:=Tryz.func258.trans (congrArg some (by kernel_rfl))
 f267:=Tryz.func246.trans (congrArg some (by kernel_rfl))
 f268:=Tryz.func169.trans (congrArg some (by kernel_rfl))
 f314:=Tryz.func261.trans (congrArg some (by kernel_rfl))
 t0:=Tryz.underlying0
 a0:=Tryz.isAgg0
 z0:=Tryz.sizeOf0
 v0:=Tryz.zeroValue0
 t3:=Tryz.underlying3
 a3:=Tryz.isAgg3
 z3:=Tryz.sizeOf3
 v3:=Tryz.zeroValue3
 t4:=Tryz.underlying4
 a4:=Tryz.isAgg4
 z4:=Tryz.sizeOf4
 v4:=Tryz.zeroValue4
 t5:=Tryz.underlying5
 a5:=Tryz.isAgg5
 z5:=Tryz.sizeOf5
 v5:=Tryz.zeroValue5
 t9:=Tryz.underlying9
 a9:=Tryz.isAgg9
 z9:=Tryz.sizeOf9
 v9:=Tryz.zeroValue9
 t21:=Tryz.underlying21
 a21:=Tryz.isAgg21
 z21:=Tryz.sizeOf21
 v21:=Tryz.zeroValue21
 t31:=Tryz.underlying27
 a31:=Tryz.isAgg27
 z31:=Tryz.sizeOf27
 v31:=Tryz.zeroValue27
 t46:=Tryz.underlying262
 a46:=Tryz.isAgg262
 z46:=Tryz.sizeOf262
 v46:=Tryz.zeroValue262
 t51:=Tryz.underlying274
 a51:=Tryz.isAgg274
 z51:=Tryz.sizeOf274
 v51:=Tryz.zeroValue274
 t105:=Tryz.underlying249
 a105:=Tryz.isAgg249
 z105:=Tryz.sizeOf249
 v105:=Tryz.zeroValue249
 t119:=Tryz.underlying283
 a119:=Tryz.isAgg283
 z119:=Tryz.sizeOf283
 t138:=Tryz.underlying285
 a138:=Tryz.isAgg285
 z138:=Tryz.sizeOf285
 v138:=Tryz.zeroValue285
 t139:=Tryz.underlying286
 a139:=Tryz.isAgg286
 z139:=Tryz.sizeOf286
 v139:=Tryz.zeroValue286
 t146:=Tryz.underlying287
 a146:=Tryz.isAgg287
 z146:=Tryz.sizeOf287
 v146:=Tryz.zeroValue287
 g1:=by kernel_rfl
 g3:=by kernel_rfl
 g4:=by kernel_rfl }
end Go.Proofs
namespace Go.Proofs.YtbkhnljaajajiaaGreatDoor
open Go.ChangeShapes Go.WideShapes Go.ChangeAt Go.RowKit
theorem convNew (w:World) (l:List UInt8) (cs:Array Value) (n:Nat) (hn:l.length=n) (h : ∀ j (hj:j < l.length),cs[j]? = some (.int .u8 (l[j].toNat:Int))) :
  (convert 22 9 (.slice (some ⟨w.heap.size,0,none⟩) n n)).run Tryz.prog (w.alloc (.cells cs 5)) = .ok (.string (mkStr l)) (w.alloc (.cells cs 5)):=by
 subst hn;refine run_convert_bytes_back (P:=Tryz.prog) (w.alloc (.cells cs 5)) 22 9 5 ⟨w.heap.size,0,none⟩ l.length l Tryz.underlying22 Tryz.underlying5 Tryz.underlying9 (fun j hj=>?_);have h1:=newcell w cs 5 j _ (h j hj);by_cases h0:j=0
 ·subst h0;simpa [Addr.add] using h1
 ·simpa [Addr.add,h0] using h1
theorem u8_digit {d:Int} (h1:0≤d) (h2:d≤9):((UInt8.ofNat (48+d).toNat).toNat:Int)=48+d:=by rw [UInt8.toNat_ofNat'];omega
end Go.Proofs.YtbkhnljaajajiaaGreatDoor
namespace Go.Proofs.YtbkhnljaajajiaaGreatDoor
open Go.ChangeShapes Go.WideShapes Go.ChangeAt Go.RowKit Go.Joins
def Stroke.good (s:Stroke):Prop:=(Lit.int .i64 s.dir).wf=true∧(Lit.int .i64 s.size).wf=true
def stC (s:Stroke):List Value:=[.int .i64 s.dir,.int .i64 s.size]
theorem stC_len (s:Stroke):(stC s).length=2:=rfl
def stVal (s:Stroke):Value:=.agg #[.int .i64 s.dir,.int .i64 s.size]
def StrokesIn (w:World) (B:Nat) (A:Option Addr) (n c:Nat) (ss:List Stroke):Prop :=
 ss.length=n∧n≤c∧c≤maxLen∧Row w B A n 2 (ss.flatMap stC)∧∀ s∈ss,s.good
structure Wr where
 A:Option Addr
 n:Nat
 c:Nat
 ss:List Stroke
 pos:Int
def wrC (x:Wr):List Value:=[.slice x.A x.n x.c,.int .i64 x.pos]
theorem wrC_len (x:Wr):(wrC x).length=2:=rfl
def WrIn (w:World) (B:Nat) (x:Wr):Prop:=StrokesIn w B x.A x.n x.c x.ss∧(Lit.int .i64 x.pos).wf=true
def WrsIn (w:World) (B:Nat) (A:Option Addr) (n c:Nat) (xs:List Wr):Prop :=
 xs.length=n∧n≤c∧c≤maxLen∧Row w B A n 2 (xs.flatMap wrC)∧∀ x∈xs,WrIn w B x
theorem StrokesIn.below {w w':World} {B n c:Nat} {A:Option Addr} {ss:List Stroke} (h:StrokesIn w B A n c ss) (hb:Below B w w'):StrokesIn w' B A n c ss :=
 ⟨h.1,h.2.1,h.2.2.1,h.2.2.2.1.below hb,h.2.2.2.2⟩
theorem StrokesIn.more {w:World} {B B' n c:Nat} {A:Option Addr} {ss:List Stroke} (h:StrokesIn w B A n c ss) (hb:B≤B'):StrokesIn w B' A n c ss :=
 ⟨h.1,h.2.1,h.2.2.1,h.2.2.2.1.more hb,h.2.2.2.2⟩
theorem StrokesIn.keep {w w':World} {n c:Nat} {A:Option Addr} {ss:List Stroke} (h:StrokesIn w w.heap.size A n c ss) (hb:Below w.heap.size w w'):StrokesIn w' w'.heap.size A n c ss:=(h.below hb).more hb.size
theorem strokeAt_some {ss:List Stroke} {k:Nat} (h:k < ss.length):ss[k]? = some (strokeAt ss k):=by
 unfold strokeAt;simp [List.getD,List.getElem?_eq_getElem h]
theorem strokeAt_mem {ss:List Stroke} {k:Nat} (h:k < ss.length):strokeAt ss k∈ss:=List.mem_of_getElem? (strokeAt_some h)
theorem StrokesIn.at_ {w:World} {B n c k:Nat} {A:Option Addr} {ss:List Stroke} (h:StrokesIn w B A n c ss) (hk:k < n) :
  ∃ b off,A=some ⟨b,off,none⟩∧b < B∧w.cell? ⟨b,off+k * 2,none⟩=some (.int .i64 (strokeAt ss k).dir)∧w.cell? ⟨b,off+k * 2+1,none⟩=some (.int .i64 (strokeAt ss k).size)∧(strokeAt ss k).good:=by
 obtain ⟨h1,_,_,h4,h5⟩:=h;obtain ⟨b,off,eA,hbB,hc⟩:=h4.2 (by omega);have hs:=strokeAt_some (ss:=ss) (k:=k) (by omega);have hm:=strokeAt_mem (ss:=ss) (k:=k) (by omega);refine ⟨b,off,eA,hbB,?_,?_,h5 _ hm⟩
 ·have:=hc (k * 2+0) _ (flat_at stC_len ss k _ 0 (.int .i64 (strokeAt ss k).dir) hs rfl);simpa using this
 ·have:=hc (k * 2+1) _ (flat_at stC_len ss k _ 1 (.int .i64 (strokeAt ss k).size) hs rfl)
  rwa [← Nat.add_assoc] at this
def WrsIn.wr0:Wr:=⟨none,0,0,[],0⟩
def wrAt (xs:List Wr) (k:Nat):Wr:=xs.getD k WrsIn.wr0
theorem wrAt_some {xs:List Wr} {k:Nat} (h:k < xs.length):xs[k]? = some (wrAt xs k):=by
 unfold wrAt;simp [List.getD,List.getElem?_eq_getElem h]
theorem wrAt_mem {xs:List Wr} {k:Nat} (h:k < xs.length):wrAt xs k∈xs:=List.mem_of_getElem? (wrAt_some h)
theorem WrIn.below {w w':World} {B:Nat} {x:Wr} (h:WrIn w B x) (hb:Below B w w'):WrIn w' B x:=⟨h.1.below hb,h.2⟩
theorem WrIn.more {w:World} {B B':Nat} {x:Wr} (h:WrIn w B x) (hb:B≤B'):WrIn w B' x:=⟨h.1.more hb,h.2⟩
theorem WrIn.keep {w w':World} {x:Wr} (h:WrIn w w.heap.size x) (hb:Below w.heap.size w w'):WrIn w' w'.heap.size x:=(h.below hb).more hb.size
theorem WrsIn.below {w w':World} {B n c:Nat} {A:Option Addr} {xs:List Wr} (h:WrsIn w B A n c xs) (hb:Below B w w'):WrsIn w' B A n c xs :=
 ⟨h.1,h.2.1,h.2.2.1,h.2.2.2.1.below hb,fun x hx=>(h.2.2.2.2 x hx).below hb⟩
theorem WrsIn.more {w:World} {B B' n c:Nat} {A:Option Addr} {xs:List Wr} (h:WrsIn w B A n c xs) (hb:B≤B'):WrsIn w B' A n c xs :=
 ⟨h.1,h.2.1,h.2.2.1,h.2.2.2.1.more hb,fun x hx=>(h.2.2.2.2 x hx).more hb⟩
theorem WrsIn.keep {w w':World} {n c:Nat} {A:Option Addr} {xs:List Wr} (h:WrsIn w w.heap.size A n c xs) (hb:Below w.heap.size w w'):WrsIn w' w'.heap.size A n c xs:=(h.below hb).more hb.size
theorem WrsIn.at_ {w:World} {B n c k:Nat} {A:Option Addr} {xs:List Wr} (h:WrsIn w B A n c xs) (hk:k < n) :
  ∃ b off,A=some ⟨b,off,none⟩∧b < B∧w.cell? ⟨b,off+k * 2,none⟩=some (.slice (wrAt xs k).A (wrAt xs k).n (wrAt xs k).c)∧w.cell? ⟨b,off+k * 2+1,none⟩=some (.int .i64 (wrAt xs k).pos)∧WrIn w B (wrAt xs k):=by
 obtain ⟨h1,_,_,h4,h5⟩:=h;obtain ⟨b,off,eA,hbB,hc⟩:=h4.2 (by omega);have hs:=wrAt_some (xs:=xs) (k:=k) (by omega);have hm:=wrAt_mem (xs:=xs) (k:=k) (by omega);refine ⟨b,off,eA,hbB,?_,?_,h5 _ hm⟩
 ·have:=hc (k * 2+0) _ (flat_at wrC_len xs k _ 0 (.slice (wrAt xs k).A (wrAt xs k).n (wrAt xs k).c) hs rfl);simpa using this
 ·have:=hc (k * 2+1) _ (flat_at wrC_len xs k _ 1 (.int .i64 (wrAt xs k).pos) hs rfl)
  rwa [← Nat.add_assoc] at this
def StrOwn (w:World) (B:Nat) (v:Value) (ss:List Stroke):Prop:=w.ownsRow B 63 2 v ss.length (ss.flatMap stC)
end Go.Proofs.YtbkhnljaajajiaaGreatDoor
namespace Go.Proofs.YtbkhnljaajajiaaGreatDoor
open Go.ChangeShapes Go.WideShapes Go.ChangeAt Go.RowKit
theorem specStrokeValid (d z:Int) (w:World):Calls Tryz.prog 156 #[.agg #[.int .i64 d,.int .i64 z]] w fun e w'=>e = .returned (.bool (okS ⟨d,z⟩))∧Below w.heap.size w w':=by
 by_cases hd:0≤d∧d≤7
 ·have hr:okS ⟨d,z⟩=decide (1≤z∧z≤3):=(by unfold okS;rw [decide_eq_true hd];rfl);have HR:=uH hr;clear hr;obtain ⟨hd1,hd2⟩:=hd;go_enter Tryz.func156,Tryz.ntmps156
  go_wp2_with (go_at_call 134;refine (l6In_any _ _ _ _).mono ?_;rintro e w' ⟨rfl,rfl⟩)
  go_returns;exact ⟨ret_bool (by rw [HR.out,Bool.decide_and]),by go_grown⟩
 ·have hr:okS ⟨d,z⟩=false:=(by unfold okS;rw [decide_eq_false hd];rfl);have HR:=uH hr;clear hr;have hdd:decide (0≤d∧d≤7)=false:=decide_eq_false hd;go_enter Tryz.func156,Tryz.ntmps156
  go_wp2_with (go_at_call 134;refine (l6In_any _ _ _ _).mono ?_;rintro e w' ⟨rfl,rfl⟩)
  go_returns;exact ⟨ret_bool (by rw [HR.out]),by go_grown⟩
theorem implStrokeValid (d z:Int) (w:World):Calls Tryz.prog 91 #[.agg #[.int .i64 d,.int .i64 z]] w fun e w'=>e = .returned (.bool (okS ⟨d,z⟩))∧Below w.heap.size w w':=by
 by_cases h:0≤d∧d≤7∧1≤z∧z≤3
 ·have HR:=uH ((okS_iff (s:=⟨d,z⟩)).2 h);obtain ⟨h1,h2,h3,h4⟩:=h;go_enter Tryz.func91,Tryz.ntmps91
  go_wp2;go_returns;exact ⟨ret_bool (by rw [HR.out]),by go_grown⟩
 ·have HR:=uH ((okS_not (s:=⟨d,z⟩)).2 h);by_cases h1:0≤d
  ·by_cases h2:d≤7
   ·by_cases h3:1≤z
    ·have h4 : ¬ z≤3:=(by omega);clear h;go_enter Tryz.func91,Tryz.ntmps91
     go_wp2;go_returns;exact ⟨ret_bool (by rw [HR.out]),by go_grown⟩
    ·clear h;go_enter Tryz.func91,Tryz.ntmps91
     go_wp2;go_returns;exact ⟨ret_bool (by rw [HR.out]),by go_grown⟩
   ·clear h;go_enter Tryz.func91,Tryz.ntmps91
    go_wp2;go_returns;exact ⟨ret_bool (by rw [HR.out]),by go_grown⟩
  ·clear h;go_enter Tryz.func91,Tryz.ntmps91
   go_wp2;go_returns;exact ⟨ret_bool (by rw [HR.out]),by go_grown⟩
def penN (s:Stroke):Int:=s.dir * 3+s.size - 1
theorem penN_bd {s:Stroke} (h:okS s=true):0≤penN s∧penN s≤23:=by have:=okS_iff.1 h;unfold penN;omega
theorem penN_dir {s:Stroke} (h:okS s=true):penN s / 3=s.dir:=by have:=okS_iff.1 h;unfold penN;omega
theorem penN_size {s:Stroke} (h:okS s=true):penN s % 3+1=s.size:=by have:=okS_iff.1 h;unfold penN;omega
theorem penOf (s:Stroke) (h:okS s=true) (w:World):Calls Tryz.prog 92 #[.agg #[.int .i64 s.dir,.int .i64 s.size]] w fun e w'=>e = .returned (.int .i64 (penN s))∧Below w.heap.size w w':=by
 obtain ⟨h1,h2,h3,h4⟩:=okS_iff.1 h;have HR:Hid (penN s=s.dir * 3+s.size - 1):=uH rfl;clear h;go_enter Tryz.func92,Tryz.ntmps92
 go_wp2;go_returns;exact ⟨ret_int (by rw [HR.out]),by go_grown⟩
theorem penDir (s:Stroke) (h:okS s=true) (w:World):Calls Tryz.prog 158 #[.int .i64 (penN s)] w fun e w'=>e = .returned (.int .i64 s.dir)∧w=w':=by
 obtain ⟨h1,h2⟩:=penN_bd h;have HR:=uH (penN_dir h);clear h;generalize penN s=p at *;go_enter Tryz.func158,Tryz.ntmps158
 go_wp2;go_ret;exact ⟨ret_int HR.out,rfl⟩
theorem penSize (s:Stroke) (h:okS s=true) (w:World):Calls Tryz.prog 159 #[.int .i64 (penN s)] w fun e w'=>e = .returned (.int .i64 s.size)∧w=w':=by
 obtain ⟨h1,h2⟩:=penN_bd h;have HR:=uH (penN_size h);clear h;generalize penN s=p at *;go_enter Tryz.func159,Tryz.ntmps159
 go_wp2;go_ret;exact ⟨ret_int HR.out,rfl⟩
theorem penText (s:Stroke) (h:okS s=true) (w:World):Calls Tryz.prog 93 #[.int .i64 (penN s)] w fun e w'=>e = .returned (.string (mkStr (sText s)))∧Below w.heap.size w w':=by
 obtain ⟨h1,h2,h3,h4⟩:=okS_iff.1 h;have HD:=uH (fun w=>penDir s h w);have HZ:=uH (fun w=>penSize s h w);have hu:=u8_digit h1 (by omega);have hC:=convNew w (sText s) #[.int .u8 (48+s.dir),.int .u8 ((sizeL s.size).toNat:Int)] 2 rfl (fun j hj=>by
  have hj2:j < 2:=hj;rcases j with _ | _ | j
  ·simp only [sText,List.getElem_cons_zero,hu];rfl
  ·rfl
  ·omega)
 clear hu h;have hz:s.size=1∨s.size=2∨s.size=3:=(by omega);generalize penN s=p at *;generalize sText s=t at *;obtain ⟨d,z⟩:=s;simp only at h1 h2 h3 h4 hz hC HD HZ;rcases hz with rfl | rfl | rfl
 all_goals (
  first | rw [show ((sizeL 1).toNat:Int)=115 from rfl] at hC | rw [show ((sizeL 2).toNat:Int)=109 from rfl] at hC | rw [show ((sizeL 3).toNat:Int)=108 from rfl] at hC
  go_enter Tryz.func93,Tryz.ntmps93
  (go_wp2_with fail);refine (HD.out _).mono ?_;rintro e w1 ⟨rfl,rfl⟩;(go_wp2_with fail);refine (HZ.out _).mono ?_;rintro e w1 ⟨rfl,rfl⟩;go_wp2;first | rw [show (((⟨#[115,109,108]⟩:ByteArray)[0]'(by decide)).toNat:Int)=115 from rfl] | rw [show (((⟨#[115,109,108]⟩:ByteArray)[1]'(by decide)).toNat:Int)=109 from rfl] | rw [show (((⟨#[115,109,108]⟩:ByteArray)[2]'(by decide)).toNat:Int)=108 from rfl]
  rw [hC];simp only [Result.andThen];rw [Oper.upon_value];go_wp2;go_returns;exact ⟨rfl,by go_grown⟩)
def turnN (a b:Stroke):Int:=(b.dir - a.dir+8) % 8
def cornN (a b:Stroke):Int:=min (turnN a b) (8 - turnN a b)
theorem penCorner (a b:Stroke) (ha:okS a=true) (hb:okS b=true) (w:World):Calls Tryz.prog 267 #[.int .i64 (penN a),.int .i64 (penN b)] w fun e w'=>e = .returned (.int .i64 (cornN a b))∧w=w':=by
 have HA:=uH (fun w=>penDir a ha w);have HB:=uH (fun w=>penDir b hb w);obtain ⟨a1,a2,_,_⟩:=okS_iff.1 ha;obtain ⟨b1,b2,_,_⟩:=okS_iff.1 hb;have HR:Hid (cornN a b=min ((b.dir - a.dir+8) % 8) (8 - (b.dir - a.dir+8) % 8)):=uH rfl;generalize penN a=pa at *;generalize penN b=pb at *;clear ha hb;go_enter Tryz.func267,Tryz.ntmps267
 (go_wp2_with fail);refine (HB.out _).mono ?_;rintro e w1 ⟨rfl,rfl⟩;(go_wp2_with fail);refine (HA.out _).mono ?_;rintro e w1 ⟨rfl,rfl⟩;go_wp2;all_goals (go_ret;exact ⟨ret_int (by rw [HR.out];omega),rfl⟩)
theorem lead_corn {a b:Stroke}:leadB a b=(cornN a b != 0 && cornN a b != 4):=by
 rw [Bool.eq_iff_iff];unfold leadB cornN turnN;simp only [decide_eq_true_eq,Bool.and_eq_true,bne_iff_ne,ne_eq];omega
theorem penLead (a b:Stroke) (ha:okS a=true) (hb:okS b=true) (w:World):Calls Tryz.prog 257 #[.int .i64 (penN a),.int .i64 (penN b)] w fun e w'=>e = .returned (.bool (leadB a b))∧w=w':=by
 have HC:=uH (fun w=>penCorner a b ha hb w);have HR:=uH (lead_corn (a:=a) (b:=b));generalize penN a=pa at *;generalize penN b=pb at *;generalize cornN a b=c at *;clear ha hb;by_cases h0:c=0
 ·subst h0;go_enter Tryz.func257,Tryz.ntmps257
  (go_wp2_with fail);refine (HC.out _).mono ?_;rintro e w1 ⟨rfl,rfl⟩;go_wp2;go_ret;exact ⟨ret_bool (by rw [HR.out];rfl),rfl⟩
 ·have f0:(c != 0)=true:=bne_iff_ne.2 h0;clear h0;go_enter Tryz.func257,Tryz.ntmps257
  (go_wp2_with fail);refine (HC.out _).mono ?_;rintro e w1 ⟨rfl,rfl⟩;go_wp2;go_ret;exact ⟨ret_bool (by rw [HR.out,f0,Bool.true_and]),rfl⟩
def ChainIn (w:World):Value→List Stroke→Prop
 | v,[]=>v = .pointer none
 | v,s::r=>∃ b nv,v = .pointer (some ⟨b,0,none⟩)∧Blk w b 280 #[.int .i64 (penN s),nv]∧ChainIn w nv r
theorem ChainIn.keep {w w':World} (hb:Below w.heap.size w w') : ∀ {l:List Stroke} {v:Value},ChainIn w v l→ChainIn w' v l
 | [],_,h=>h
 | _::_,_,⟨b,nv,e,hB,h⟩=>⟨b,nv,e,hB.below hb,ChainIn.keep hb h⟩
theorem ChainIn.push {w:World} {v:Value} {l:List Stroke} (s:Stroke) (h:ChainIn w v l):ChainIn (w.alloc (.cells #[.int .i64 (penN s),v] 280)) (.pointer (some ⟨w.heap.size,0,none⟩)) (s::l) :=
 ⟨w.heap.size,v,rfl,Blk.new w _ _,h.keep ((Below.refl _ _).alloc (Nat.le_refl _) _)⟩
def ChainAns (w':World) (ss:List Stroke) (e:Ending):Prop :=
 (outB ss=false∧e = .returned (.tuple #[.pointer none,.bool false]))∨(outB ss=true∧∃ v,e = .returned (.tuple #[v,.bool true])∧ChainIn w' v ss)
theorem ChainAns.no {w':World} {ss:List Stroke} {e:Ending} (h:outB ss=false) (he:e = .returned (.tuple #[.pointer none,.bool false])):ChainAns w' ss e:=.inl ⟨h,he⟩
theorem ChainAns.yes {w':World} {ss:List Stroke} {e:Ending} {v:Value} (h:outB ss=true) (he:e = .returned (.tuple #[v,.bool true])) (hc:ChainIn w' v ss):ChainAns w' ss e:=.inr ⟨h,v,he,hc⟩
theorem drop_step {ss:List Stroke} {k:Nat} (h:k < ss.length):ss.drop k=strokeAt ss k::ss.drop (k+1):=by
 rw [List.drop_eq_getElem_cons h];congr 1
 unfold strokeAt;rw [List.getD_eq_getElem?_getD,List.getElem?_eq_getElem h];rfl
theorem link_no {ss:List Stroke} {k:Nat} (h:linkB (ss.drop k)=false):outB ss=false:=by
 rw [Bool.eq_false_iff];intro h2;have:=linkB_append (a:=ss.take k) (b:=ss.drop k) (by rw [List.take_append_drop];exact outB_link h2);rw [this.2] at h;cases h
theorem link_step {ss:List Stroke} {k:Nat} (h:k < ss.length):linkB (ss.drop k)=(okS (strokeAt ss k) && (if k+1 < ss.length then leadB (strokeAt ss k) (strokeAt ss (k+1)) else true) && linkB (ss.drop (k+1))):=by
 rw [drop_step h];by_cases h1:k+1 < ss.length
 ·rw [drop_step h1,if_pos h1];rfl
 ·rw [List.drop_eq_nil_of_le (by omega),if_neg h1];simp [linkB]
set_option maxHeartbeats 1000000 in
theorem chainOf (A:Option Addr) (n c:Nat) (ss:List Stroke) (w:World) (h:StrokesIn w w.heap.size A n c ss) :
  Calls Tryz.prog 236 #[.slice A n c] w fun e w'=>ChainAns w' ss e∧Below w.heap.size w w':=by
 have hnc:=h.2.1;have hm:=h.2.2.1;unfold maxLen at hm;have HL:=uH h.1;have H:=uH h;clear h;by_cases h8:8 < n
 ·have HN:Hid (outB ss=false):=uH (outB_long (by rw [HL.out];exact h8));go_enter Tryz.func236,Tryz.ntmps236
  go_wp2;go_returns;exact ⟨.no HN.out rfl,Below.refl _ _⟩
 go_enter Tryz.func236,Tryz.ntmps236
 go_wp2;go_loopw [4,5] (fun v i wr=>∃ k:Nat,k≤n∧i = .int .i64 ((k:Int) - 1)∧Hid (ChainIn wr v (ss.drop k))∧Hid (linkB (ss.drop k)=true)∧Below w.heap.size w wr) (fun _ i _=>(intOf i+1).toNat)
 case atStart =>
  have e:ss.drop n=[]:=(by rw [← HL.out];simp);exact ⟨n,Nat.le_refl _,rfl,uH (by rw [e];rfl),uH (by rw [e];rfl),Below.refl _ _⟩
 case round =>
  obtain ⟨k,hk,rfl,HC,HK,hb⟩:=hrel;by_cases hk0:k=0
  ·subst hk0;have HY:Hid (outB ss=true):=uH (by
    have:=HK.out;rw [List.drop_zero] at this;unfold outB;rw [this,Bool.and_true,decide_eq_true_iff,HL.out];omega)
   rw [List.drop_zero] at HC;rw [show ((0:Nat):Int) - 1 = -1 from rfl];go_wp2;go_returns;exact ⟨.yes HY.out rfl HC.out,hb⟩
  ·obtain ⟨r,rfl⟩ : ∃ r,k=r+1:=⟨k - 1,by omega⟩;have hr:r < n:=(by omega);have hrl:r < ss.length:=(by rw [HL.out];exact hr);obtain ⟨b,off,eA,hbB,q0,q1,hg⟩:=(H.out.keep hb).at_ hr;have HSt:=uH (link_step hrl);have HDr:=uH (drop_step hrl);rw [show ((r+1:Nat):Int) - 1=(r:Int) by omega];subst eA;clear hk0 hk hg;have HV:=uH (implStrokeValid (strokeAt ss r).dir (strokeAt ss r).size wr);cases ho:okS (strokeAt ss r) with
   | false =>
    have HN:Hid (outB ss=false):=uH (link_no (k:=r) (by rw [HSt.out,ho];rfl));have HO:Hid (okS ⟨(strokeAt ss r).dir,(strokeAt ss r).size⟩=false):=uH ho;clear ho;generalize strokeAt ss r=s at *;(go_wp2_with fail);refine HV.out.mono ?_;rw [HO.out];rintro e w2 ⟨rfl,hb2⟩;have b2:=below_next hb hb2;go_wp2;go_returns;exact ⟨.no HN.out rfl,b2⟩
   | true =>
    have HO:Hid (okS ⟨(strokeAt ss r).dir,(strokeAt ss r).size⟩=true):=uH ho;have HPn:=uH (fun w=>penOf (strokeAt ss r) ho w);by_cases hl:r+1 < n
    ·have hrl1:r+1 < ss.length:=(by rw [HL.out];exact hl);have hC:=HC.out;rw [drop_step hrl1] at hC;obtain ⟨g,nv,rfl,hB,hC2⟩:=hC;have ho1:okS (strokeAt ss (r+1))=true:=linkB_ok HK.out (by rw [drop_step hrl1];simp);have HLd:=uH (fun w=>penLead (strokeAt ss r) (strokeAt ss (r+1)) ho ho1 w);have HB:=uH hB;have hst:=HSt.out;rw [ho,if_pos hrl1,HK.out,Bool.true_and,Bool.and_true] at hst;have HSt2:=uH hst;clear hC2 hB ho ho1 hst HSt hrl hrl1;generalize strokeAt ss r=s at *;generalize strokeAt ss (r+1)=s1 at *;cases hld:leadB s s1 with
     | false =>
      have HN:Hid (outB ss=false):=uH (link_no (k:=r) (by rw [HSt2.out];exact hld));rw [hld] at HLd;clear hld HSt2;(go_wp2_with fail);refine HV.out.mono ?_;rw [HO.out];rintro e w2 ⟨rfl,hb2⟩;have b2:=below_next hb hb2;have x0:=kcell hb2 q0;have x1:=kcell hb2 q1;have hB2:=HB.out.below hb2;clear hb2 q0 q1;(go_wp2_with fail);refine (HPn.out _).mono ?_;rintro e w3 ⟨rfl,hb3⟩;have b3:=below_next b2 hb3;obtain ⟨y0,y1,_,_⟩:=(hB2.below hb3).two;clear hb3 x0 x1 hB2;(go_wp2_with fail);refine (HLd.out _).mono ?_;rintro e w4 ⟨rfl,rfl⟩;go_wp2;go_returns;exact ⟨.no HN.out rfl,b3⟩
     | true =>
      have HK2:Hid (linkB (ss.drop r)=true):=uH (by rw [HSt2.out];exact hld);rw [hld] at HLd;clear hld HSt2;(go_wp2_with fail);refine HV.out.mono ?_;rw [HO.out];rintro e w2 ⟨rfl,hb2⟩;have b2:=below_next hb hb2;have x0:=kcell hb2 q0;have x1:=kcell hb2 q1;have hB2:=HB.out.below hb2;have HC2:=uH (HC.out.keep hb2);clear hb2 q0 q1;(go_wp2_with fail);refine (HPn.out _).mono ?_;rintro e w3 ⟨rfl,hb3⟩;have b3:=below_next b2 hb3;have HC3:=uH (HC2.out.keep hb3);obtain ⟨y0,y1,_,_⟩:=(hB2.below hb3).two;have HC4:Hid (ChainIn (w3.alloc (.cells #[.int .i64 (penN s),.pointer (some ⟨g,0,none⟩)] 280)) (.pointer (some ⟨w3.heap.size,0,none⟩)) (ss.drop r)):=uH (by rw [HDr.out];exact HC3.out.push s);have b4:=b3.alloc b3.size (.cells #[.int .i64 (penN s),.pointer (some ⟨g,0,none⟩)] 280);clear hb3 x0 x1 hB2 HC HC2 HC3;(go_wp2_with fail);refine (HLd.out _).mono ?_;rintro e w4 ⟨rfl,rfl⟩;go_wp2;go_roundw
      case rel=>exact ⟨r,by omega,rfl,HC4,HK2,b4⟩
      case measure=>simp [intOf]
    ·have e:ss.drop (r+1)=[]:=List.drop_eq_nil_of_le (by rw [HL.out];omega);rw [e] at HC;have hC:=HC.out;subst hC;have HK2:Hid (linkB (ss.drop r)=true):=uH (by rw [HSt.out,ho,if_neg (by rw [HL.out];exact hl),e];rfl);rw [e] at HDr;clear ho e HSt;generalize strokeAt ss r=s at *;(go_wp2_with fail);refine HV.out.mono ?_;rw [HO.out];rintro e w2 ⟨rfl,hb2⟩;have b2:=below_next hb hb2;have x0:=kcell hb2 q0;have x1:=kcell hb2 q1;clear hb2 q0 q1;(go_wp2_with fail);refine (HPn.out _).mono ?_;rintro e w3 ⟨rfl,hb3⟩;have b3:=below_next b2 hb3;have HC4:Hid (ChainIn (w3.alloc (.cells #[.int .i64 (penN s),.pointer none] 280)) (.pointer (some ⟨w3.heap.size,0,none⟩)) (ss.drop r)):=uH (by rw [HDr.out];exact ChainIn.push (w:=w3) (v:=.pointer none) (l:=[]) s rfl);have b4:=b3.alloc b3.size (.cells #[.int .i64 (penN s),.pointer none] 280);clear hb3 x0 x1 HC;go_wp2;go_roundw
     case rel=>exact ⟨r,by omega,rfl,HC4,HK2,b4⟩
     case measure=>simp [intOf]
theorem implOutlineValid (A:Option Addr) (n c:Nat) (ss:List Stroke) (w:World) (h:StrokesIn w w.heap.size A n c ss) :
  Calls Tryz.prog 207 #[.slice A n c] w fun e w'=>e = .returned (.bool (outB ss))∧Below w.heap.size w w':=by
 have HC:=uH (chainOf A n c ss w h);clear h;go_enter Tryz.func207,Tryz.ntmps207
 (go_wp2_with fail);refine HC.out.mono ?_;rintro e w1 ⟨hA,b1⟩;rcases hA with ⟨ho,rfl⟩ | ⟨ho,v,rfl,_⟩
 ·have HO:=uH ho;clear ho;go_wp2;go_returns;exact ⟨ret_bool HO.out.symm,b1⟩
 ·have HO:=uH ho;clear ho;go_wp2;go_returns;exact ⟨ret_bool HO.out.symm,b1⟩
theorem tmod4 {x:Int} (h1 : -7≤x) (h2:x≤7):(x.tmod 4 == 0) = !decide (x % 4≠0):=by
 have:x = -7∨x = -6∨x = -5∨x = -4∨x = -3∨x = -2∨x = -1∨x=0∨x=1∨x=2∨x=3∨x=4∨x=5∨x=6∨x=7:=(by omega);rcases this with rfl | rfl | rfl | rfl | rfl | rfl | rfl | rfl | rfl | rfl | rfl | rfl | rfl | rfl | rfl <;> decide
theorem tmod4_bd (x:Int):IntKind.i64.wrap (x.tmod 4)=x.tmod 4:=by
 have h1:=Int.tmod_lt_of_pos x (b:=4) (by omega);have h2:=Int.lt_tmod_of_pos x (b:=4) (by omega);exact IntWalk.i64_in _ (by omega)
set_option maxHeartbeats 1000000 in
theorem specOutlineValid (A:Option Addr) (n c:Nat) (ss:List Stroke) (w:World) (h:StrokesIn w w.heap.size A n c ss) :
  Calls Tryz.prog 202 #[.slice A n c] w fun e w'=>e = .returned (.bool (outB ss))∧Below w.heap.size w w':=by
 have hnc:=h.2.1;have hm:=h.2.2.1;unfold maxLen at hm;have HL:=uH h.1;have H:=uH h;clear h;go_enter Tryz.func202,Tryz.ntmps202
 go_wp2;go_loopw [3] (fun i wr=>∃ k:Nat,k≤n∧i = .int .i64 k∧Hid (∀ j,j < k→goodS ss j)∧Below w.heap.size w wr) (fun i _=>n - (intOf i).toNat)
 case atStart=>exact ⟨0,Nat.zero_le _,rfl,uH (fun j hj=>by omega),Below.refl _ _⟩
 case round =>
  obtain ⟨k,hk,rfl,HG,hb⟩:=hrel;by_cases hlt:k < n
  ·have hkl:k < ss.length:=(by rw [HL.out];exact hlt);obtain ⟨b,off,eA,hbB,q0,q1,hg⟩:=(H.out.keep hb).at_ hlt;have HNo:=uH (fun (h : ¬ goodS ss k)=>outB_no hkl h);have HNx:=uH (fun (h:goodS ss k) j (hj:j < k+1)=>if e:j=k then e ▸ h else HG.out j (by omega));have HV:=uH (fun W=>specStrokeValid (strokeAt ss k).dir (strokeAt ss k).size W);have hi1:(0:Int)≤(k:Int):=(by omega);have hi2:(k:Int) < (n:Int):=(by omega);subst eA;have r0:=qcell q0;have r1:=qcell q1;cases ho:okS (strokeAt ss k) with
   | false =>
    have HN:=uH (HNo.out (fun h=>by rw [h.1] at ho;cases ho));have HO:Hid (okS ⟨(strokeAt ss k).dir,(strokeAt ss k).size⟩=false):=uH ho;rw [HO.out] at HV;clear ho hg HNo HNx HG hkl;generalize strokeAt ss k=s at *;(go_wp2_with fail);refine region_qb (by kernel_rfl) (by kernel_rfl) ?_;repeat (first | go_big_quiet_step ((go_at_call 156;exact quietB (HV.out _))) | quiet_step ((go_at_call 156;exact quietB (HV.out _))))
    refine wpQuiet_nil ?_;intro w3 hb3;have b3:=below_next hb hb3;clear r0 r1 q0 q1 hb3;go_wp2;go_returns;exact ⟨ret_bool HN.out.symm,b3⟩
   | true =>
    have HO:Hid (okS ⟨(strokeAt ss k).dir,(strokeAt ss k).size⟩=true):=uH ho;rw [HO.out] at HV;by_cases hk0:0 < k
    ·obtain ⟨j,hj⟩ : ∃ j,k=j+1:=⟨k - 1,by omega⟩;have hj1:j < n:=(by omega);obtain ⟨b',off',eA',_,x0,x1,_⟩:=(H.out.keep hb).at_ hj1;obtain ⟨rfl,rfl⟩:b=b'∧off=off':=(by simpa using eA');have hgj:=HG.out j (by omega);obtain ⟨d1,d2,_,_⟩:=okS_iff.1 ho;obtain ⟨e1,e2,_,_⟩:=okS_iff.1 hgj.1;have hl:leadB (strokeAt ss j) (strokeAt ss k)=decide (((strokeAt ss k).dir - (strokeAt ss j).dir) % 4≠0):=rfl;have ht:=tmod4 (x:=(strokeAt ss k).dir - (strokeAt ss j).dir) (by omega) (by omega);rw [← hl] at ht;have hw1:IntKind.i64.wrap ((k:Int) - 1)=(j:Int):=(by rw [hj];exact (IntWalk.i64_in _ (by omega)).trans (by omega));have hw2:IntKind.i64.wrap ((strokeAt ss k).dir - (strokeAt ss j).dir)=(strokeAt ss k).dir - (strokeAt ss j).dir:=IntWalk.i64_in _ (by omega);have hw3:=tmod4_bd ((strokeAt ss k).dir - (strokeAt ss j).dir);have HGd:Hid (goodS ss k ↔ leadB (strokeAt ss j) (strokeAt ss k)=true):=uH ⟨fun h=>by have:=h.2 hk0;rwa [show k - 1=j by omega] at this,fun h=>⟨ho,fun _=>by rw [show k - 1=j by omega];exact h⟩⟩;have s0:=qcell x0;have HJ:=uH hj;have hj2:(j:Int) < (n:Int):=(by omega);have hj3:(0:Int)≤(j:Int):=(by omega);clear ho hg hgj hl hj eA' HG hkl;generalize strokeAt ss k=s at *;generalize strokeAt ss j=t at *;cases hld:leadB t s with
     | false =>
      have HN:=uH (HNo.out (fun h=>by rw [HGd.out.1 h] at hld;cases hld));rw [hld] at ht;clear hld HNo HNx HGd;(go_wp2_with fail);refine region_qb (by kernel_rfl) (by kernel_rfl) ?_;repeat (first | go_big_quiet_step ((go_at_call 156;exact quietB (HV.out _))) | quiet_step ((go_at_call 156;exact quietB (HV.out _))))
      refine wpQuiet_nil ?_;intro w3 hb3;have b3:=below_next hb hb3;clear r0 r1 q0 q1 s0 x0 x1 hb3 hw1 hw2 hw3 ht;go_wp2;go_returns;exact ⟨ret_bool HN.out.symm,b3⟩
     | true =>
      have HN:=uH (HNx.out (HGd.out.2 hld));rw [hld] at ht;clear hld HNo HNx HGd;(go_wp2_with fail);refine region_qb (by kernel_rfl) (by kernel_rfl) ?_;repeat (first | go_big_quiet_step ((go_at_call 156;exact quietB (HV.out _))) | quiet_step ((go_at_call 156;exact quietB (HV.out _))))
      refine wpQuiet_nil ?_;intro w3 hb3;have b3:=below_next hb hb3;clear r0 r1 q0 q1 s0 x0 x1 hb3 hw1 hw2 hw3 ht;go_wp2;go_roundw
      case rel=>exact ⟨k+1,by omega,by go_num,HN,b3⟩
      case measure=>simp [intOf];omega
    ·have HN:=uH (HNx.out ⟨ho,fun h=>absurd h hk0⟩);have hd0:decide ((0:Int) < (k:Int))=false:=decide_eq_false (by omega);clear ho hg HNo HNx HG hkl;generalize strokeAt ss k=s at *;(go_wp2_with fail);refine region_qb (by kernel_rfl) (by kernel_rfl) ?_;repeat (first | go_big_quiet_step ((go_at_call 156;exact quietB (HV.out _))) | quiet_step ((go_at_call 156;exact quietB (HV.out _))))
     refine wpQuiet_nil ?_;intro w3 hb3;have b3:=below_next hb hb3;clear r0 r1 q0 q1 hb3 hd0;go_wp2;go_roundw
     case rel=>exact ⟨k+1,by omega,by go_num,HN,b3⟩
     case measure=>simp [intOf];omega
  ·obtain rfl:n=k:=(by omega);have HR:Hid (outB ss=decide ((n:Int)≤8)):=uH (by
    rw [Bool.eq_iff_iff,outB_iff,decide_eq_true_iff,HL.out];exact ⟨fun h=>by omega,fun h=>⟨by omega,HG.out⟩⟩)
   go_wp2;go_returns;exact ⟨ret_bool (by rw [HR.out]),hb⟩
theorem sizeBuilder:(Tryz.prog.info? 82).map (·.size)=some 2:=by kernel_rfl
theorem infoByte:(Tryz.prog.info? 5).map (fun i=>(i.zero,i.size,i.bytes))=some (some (.int .u8 0),1,1):=by kernel_rfl
theorem copyCheckUsed (b:Nat) (w:World) (h0:w.cell? ⟨b,0,none⟩=some (.pointer (some ⟨b,0,none⟩))) :
  Calls Tryz.prog 109 #[.pointer (some ⟨b,0,none⟩)] w fun e w'=>e = .returned (.tuple #[])∧w'=w:=by
 obtain ⟨j,hj,_⟩:=Option.map_eq_some_iff.1 sizeBuilder;go_enter Tryz.func109,Tryz.ntmps109
 go_wp2;rw [Lib.run_neq_ptr_same w _ Tryz.underlying80 hj];go_wp2
 go_end0
 exact ⟨rfl,rfl⟩
theorem copyCheckFresh (b:Nat) (w:World) (h0:w.cell? ⟨b,0,none⟩=some (.pointer none)) (hsh:w.shape? b=some (82,2)) (hfz:w.frozen? ⟨b,0,none⟩=false) :
  Calls Tryz.prog 109 #[.pointer (some ⟨b,0,none⟩)] w fun e w'=>e = .returned (.tuple #[])∧w'=w.setCell ⟨b,0,none⟩ (.pointer (some ⟨b,0,none⟩)):=by
 obtain ⟨j,hj,hjs⟩:=Option.map_eq_some_iff.1 sizeBuilder;go_enter Tryz.func109,Tryz.ntmps109
 go_wp2;rw [Lib.run_to_unsafe w ⟨b,0,none⟩ Tryz.underlying80 Tryz.underlying224 hj (by rw [hjs];decide) hsh (Nat.zero_lt_succ 1)];simp only [Result.andThen];rw [Oper.upon_value];go_wp2;rw [run_callFunc_extern Tryz.func172 (by kernel_rfl) (by kernel_rfl) (by kernel_rfl) (e:=Extern.AbiNoEscape.same) (by kernel_rfl)];rw [Lib.run_noEscape];simp only [Result.andThen];rw [Oper.upon_value];go_wp2;rw [Lib.run_from_unsafe w ⟨b,0,none⟩ Tryz.underlying224 Tryz.underlying80 hj hsh (by kernel_rfl)];simp only [Result.andThen];rw [Oper.upon_value];go_wp2
 go_end0
 exact ⟨rfl,rfl⟩
theorem copyCheck (B b:Nat) (bs:List Value) (w:World) (h:Lib.IsBuilder 82 5 B b bs w) :
  Calls Tryz.prog 109 #[.pointer (some ⟨b,0,none⟩)] w fun e w'=>e = .returned (.tuple #[])∧Lib.BuilderAt 82 5 B b (.pointer (some ⟨b,0,none⟩)) bs w'∧Below B w w':=by
 rcases h with h | h
 ·refine (copyCheckFresh b w h.cell0 h.shape h.frozen0).mono ?_;rintro e w' ⟨rfl,rfl⟩;exact ⟨rfl,h.used _,(Below.refl B w).setCell (p:=⟨b,0,none⟩) h.1 _⟩
 ·refine (copyCheckUsed b w h.cell0).mono ?_;rintro e w' ⟨rfl,rfl⟩;exact ⟨rfl,h,Below.refl B _⟩
set_option maxHeartbeats 1000000 in
theorem writeString (B b:Nat) (bs:List Value) (s:ByteArray) (w:World) (h:Lib.IsBuilder 82 5 B b bs w) (hlen:bs.length+s.size≤140737488355328) (hBw:B≤w.heap.size) :
  Calls Tryz.prog 48 #[.pointer (some ⟨b,0,none⟩),.string s] w fun e w'=>e = .returned (.tuple #[.int .i64 s.size,.nilIface])∧Lib.BuilderAt 82 5 B b (.pointer (some ⟨b,0,none⟩)) (bs++Lib.strCells s) w'∧Below B w w':=by
 obtain ⟨i0,hi,hz0,hz1,hz2⟩:=info_parts infoByte;have HC:=uH (copyCheck B b bs w h);clear h;go_enter Tryz.func48,Tryz.ntmps48
 (go_wp2_with fail);refine HC.out.mono ?_;rintro e w1 ⟨rfl,h1,hb1⟩;obtain ⟨hB,v,hbk,hown,hne⟩:=h1;have c0:w1.cell? ⟨b,0,none⟩=some (.pointer (some ⟨b,0,none⟩)):=(by rw [Lib.cell_of_heap hbk];rfl);have c1:w1.cell? ⟨b,1,none⟩=some v:=(by rw [Lib.cell_of_heap hbk];rfl);go_wp2_with (at_builtin;refine Lib.wpList_append_own_string _ rfl _ _ 22 9 rfl B 5 i0 Tryz.underlying22 Tryz.underlying9 hi hz0 hz1 hz2 _ _ _ rfl hown s rfl ?c3 ?c4 ?c5 ?_)
 case c3=>unfold maxLen;omega
 case c4=>omega
 case c5=>have:=hb1.size;omega
 intro v' w2 hown' hgrow _;have hlt:b < w1.heap.size:=Blk.lt (w:=w1) (t:=82) hbk;have hb2:w2.heap[b]? = some (.cells #[.pointer (some ⟨b,0,none⟩),v] 82 (0,0)):=by
  rw [hgrow.block b hlt (fun e=>hne e.symm)];exact hbk
 have d0:w2.cell? ⟨b,0,none⟩=some (.pointer (some ⟨b,0,none⟩)):=(by rw [Lib.cell_of_heap hb2];rfl);have d1:w2.cell? ⟨b,1,none⟩=some v:=(by rw [Lib.cell_of_heap hb2];rfl);have f1:w2.frozen? ⟨b,1,none⟩=false:=Lib.frozen_of_heap hb2 1;obtain ⟨ao,n',cap,rfl⟩ : ∃ ao n' cap,v' = .slice ao n' cap:=by
  rcases hown'.2 with ⟨hv,_⟩ | ⟨g,cap,cur,hv,_⟩
  ·exact ⟨_,_,_,hv⟩
  ·exact ⟨_,_,_,hv⟩
 have HO:=uH hown';clear hown';go_wp2
 go_ret2
 refine ⟨rfl,?_,?_⟩
 ·exact Lib.BuilderAt.put (T:=82) (e:=5) hB hb2 (bs':=bs++Lib.strCells s) (by simpa [Lib.strCells_length] using HO.out) (by decide)
 ·exact (hb1.grown hgrow (by have:=hb1.size;omega) (fun k hk=>(hown.lt k hk).1)).setCell (p:=⟨b,1,none⟩) hB _
theorem IsBuilder.keep {T e:TypeId} {B b:Nat} {bs:List Value} {w w':World} (h:Lib.IsBuilder T e B b bs w) (hb:Below w.heap.size w w'):Lib.IsBuilder T e B b bs w':=by
 have key : ∀ p,Lib.BuilderAt T e B b p bs w→Lib.BuilderAt T e B b p bs w':=fun p ⟨hB,v,hk,ho,hne⟩=>by
  refine ⟨hB,v,?_,⟨ho.1,?_⟩,hne⟩
  ·exact (hb.block b (Blk.lt (w:=w) (t:=T) hk)).trans hk
  ·rcases ho.2 with h2 | ⟨g,cap,cur,rfl,h1,h2,h3⟩
   ·exact .inl h2
   ·exact .inr ⟨g,cap,cur,rfl,h1,(hb.block g (Blk.lt (w:=w) (t:=e) h2)).trans h2,h3⟩
 rcases h with h | h
 ·exact .inl (key _ h)
 ·exact .inr (key _ h)
theorem IsBuilder.new (w:World):Lib.IsBuilder 82 5 w.heap.size w.heap.size (Lib.byteCells []) (w.alloc (.cells #[.pointer none,.slice none 0 0] 82)) :=
 .inl ⟨Nat.le_refl _,.slice none 0 0,Blk.new w _ _,World.ownsRow_nil _ _ _ _,by simp [Value.ownBlock]⟩
theorem strCells_mk (l:List UInt8):Lib.strCells (mkStr l)=Lib.byteCells l:=rfl
theorem ret_str {a b:List UInt8} (h:a=b):Ending.returned (.string (mkStr a)) = .returned (.string (mkStr b)):=by rw [h]
theorem text_step {ss:List Stroke} {k:Nat} (h:k < ss.length):textS (ss.take (k+1))=textS (ss.take k)++sText (strokeAt ss k):=by
 unfold textS;rw [List.take_succ_eq_append_getElem h,List.flatMap_append];have e:ss[k]=strokeAt ss k:=(by unfold strokeAt;rw [List.getD_eq_getElem?_getD,List.getElem?_eq_getElem h];rfl);rw [e];simp
set_option maxHeartbeats 1000000 in
theorem implOutlineText (A:Option Addr) (n c:Nat) (ss:List Stroke) (w:World) (h:StrokesIn w w.heap.size A n c ss) :
  Calls Tryz.prog 237 #[.slice A n c] w fun e w'=>e = .returned (.string (mkStr (outText ss)))∧Below w.heap.size w w':=by
 have hnc:=h.2.1;have hm:=h.2.2.1;unfold maxLen at hm;have HL:=uH h.1;have HC:=uH (chainOf A n c ss w h);clear h;go_enter Tryz.func237,Tryz.ntmps237
 (go_wp2_with fail);refine HC.out.mono ?_;rintro e w1 ⟨hA,b1⟩;rcases hA with ⟨ho,rfl⟩ | ⟨ho,v,rfl,hCh⟩
 ·have HR:=uH (outText_no ho);clear ho;go_wp2;go_returns;exact ⟨ret_str (a:=[]) HR.out.symm,b1⟩
 ·have HR:=uH (outText_yes ho);have HO:=uH ho;have h8:=outB_len ho;rw [HL.out] at h8;have HCh:=uH hCh;have HBu:=uH (IsBuilder.new w1);clear ho hCh;go_wp2
  go_loopg [6] n (fun g v wr=>∃ k:Nat,k≤n∧g=n - k∧Hid (ChainIn w1 v (ss.drop k))∧Hid (Lib.IsBuilder 82 5 w1.heap.size w1.heap.size (Lib.byteCells (textS (ss.take k))) wr)∧Below w1.heap.size w1 wr)
  case atStart=>exact ⟨0,Nat.zero_le _,rfl,HCh,HBu,(Below.refl _ _).alloc (Nat.le_refl _) _⟩
  case round =>
   obtain ⟨k,hk,rfl,HC,HB,hb⟩:=hrel;have b2:=below_next b1 hb;have hz:=hb.size;by_cases hlt:k < n
   ·have hkl:k < ss.length:=(by rw [HL.out];exact hlt);have hC:=HC.out;rw [drop_step hkl] at hC;obtain ⟨b,nv,rfl,hBk,hC2⟩:=hC;have hok:=outB_ok HO.out (strokeAt_mem hkl);have HT:=uH (fun w=>penText (strokeAt ss k) hok w);have HTx:=uH (text_step hkl);have hbw:=hBk.lt;obtain ⟨y0,y1,_,_⟩:=(show Blk wr b 280 _ from (hb.block b hbw).trans hBk).two;have HC2:=uH hC2;have htl:(textS (ss.take k)).length≤16:=(by rw [textS_len,List.length_take];omega);clear hC2 hok hkl;have hBk:=uH hBk;generalize strokeAt ss k=s at *;generalize textS (ss.take k)=tx at *;(go_wp2_with fail);refine (HT.out _).mono ?_;rintro e w3 ⟨rfl,hb3⟩;have b3:=hb.trans (hb3.mono hz);have HB3:=uH (IsBuilder.keep HB.out hb3);have HW:=uH (writeString w1.heap.size w1.heap.size _ (mkStr (sText s)) w3 HB3.out (by rw [Lib.byteCells_length,mkStr_size,sText_len];omega) b3.size);clear y0 y1 hb3 HB;(go_wp2_with fail);refine HW.out.mono ?_;rintro e w4 ⟨rfl,hB4,hb4⟩;have b4:=b3.trans hb4;obtain ⟨y0,y1,_,_⟩:=(show Blk w4 b 280 _ from (b4.block b hbw).trans hBk.out).two;have HB4:Hid (Lib.IsBuilder 82 5 w1.heap.size w1.heap.size (Lib.byteCells (textS (ss.take (k+1)))) w4):=uH (by
     rw [HTx.out,show Lib.byteCells (tx++sText s)=Lib.byteCells tx++Lib.strCells (mkStr (sText s)) by rw [strCells_mk];unfold Lib.byteCells;rw [List.map_append]];exact .inr hB4)
    clear hB4 hb4 HB3 HW;go_wp2
    go_roundg (n - (k+1))
    case rel=>exact ⟨k+1,by omega,rfl,HC2,HB4,b4⟩
    case measure=>omega
   ·have e:ss.drop k=[]:=List.drop_eq_nil_of_le (by rw [HL.out];omega);have e2:ss.take k=ss:=List.take_of_length_le (by rw [HL.out];omega);rw [e] at HC;rw [e2] at HB;have hC:=HC.out;subst hC;have HS:=uH (Tryz.Builder_String_any w1.heap.size w1.heap.size (textS ss) wr HB.out hz);clear e e2 HB;(go_wp2_with fail);refine HS.out.mono ?_;rintro e w3 ⟨rfl,hb3⟩;have b3:=b1.trans ((hb.trans hb3).mono b1.size);go_wp2;go_returns;exact ⟨ret_str HR.out.symm,b3⟩
def wrB (ss:List Stroke) (p:Int):Bool:=outB ss && decide (0≤p∧p≤2)
def markL (p:Int):UInt8:=if p=0 then 94 else if p=1 then 45 else 95
def wrText (ss:List Stroke) (p:Int):List UInt8:=if wrB ss p=true then markL p::outText ss else []
theorem wrText_yes {ss:List Stroke} {p:Int} (h:wrB ss p=true):wrText ss p=markL p::outText ss:=if_pos h
theorem wrText_no {ss:List Stroke} {p:Int} (h:wrB ss p=false):wrText ss p=[]:=if_neg (by rw [h];simp)
theorem wrB_iff {ss:List Stroke} {p:Int}:wrB ss p=true ↔ outB ss=true∧0≤p∧p≤2:=by unfold wrB;rw [Bool.and_eq_true,decide_eq_true_iff]
theorem outText_len (ss:List Stroke):(outText ss).length≤16:=by
 cases h:outB ss with
 | false=>rw [outText_no h];simp
 | true=>rw [outText_yes h,textS_len];have:=outB_len h;omega
theorem implWrittenValid (A:Option Addr) (n c:Nat) (ss:List Stroke) (p:Int) (w:World) (h:StrokesIn w w.heap.size A n c ss) :
  Calls Tryz.prog 160 #[.agg #[.slice A n c,.int .i64 p]] w fun e w'=>e = .returned (.bool (wrB ss p))∧Below w.heap.size w w':=by
 have hal:Below w.heap.size w (w.alloc (.cells #[.slice A n c,.int .i64 p] 140)):=(Below.refl _ _).alloc (Nat.le_refl _) _;have HO:=uH (implOutlineValid A n c ss _ (h.keep hal));have HR:Hid (wrB ss p=(outB ss && decide (0≤p∧p≤2))):=uH rfl;have p0:=newcell w #[.slice A n c,.int .i64 p] 140 0 _ rfl;have p1:=newcell w #[.slice A n c,.int .i64 p] 140 1 _ rfl;clear h;generalize outB ss=o at *;cases o with
 | false =>
  go_enter Tryz.func160,Tryz.ntmps160
  (go_wp2_with fail);refine HO.out.mono ?_;rintro e w1 ⟨rfl,hb1⟩;have b1:=below_next hal hb1;go_wp2;go_returns;exact ⟨ret_bool (by rw [HR.out];rfl),b1⟩
 | true =>
  by_cases h0:0≤p
  ·by_cases h2:p≤2
   ·go_enter Tryz.func160,Tryz.ntmps160
    (go_wp2_with fail);refine HO.out.mono ?_;rintro e w1 ⟨rfl,hb1⟩;have b1:=below_next hal hb1;have q0:=kcell hb1 p0;have q1:=kcell hb1 p1;clear hb1 p0 p1;go_wp2;go_returns;exact ⟨ret_bool (by rw [HR.out,Bool.true_and,decide_eq_true (show 0≤p∧p≤2 from ⟨h0,h2⟩)];first | rfl | (apply decide_eq_true;omega)),b1⟩
   ·go_enter Tryz.func160,Tryz.ntmps160
    (go_wp2_with fail);refine HO.out.mono ?_;rintro e w1 ⟨rfl,hb1⟩;have b1:=below_next hal hb1;have q0:=kcell hb1 p0;have q1:=kcell hb1 p1;clear hb1 p0 p1;go_wp2;go_returns;exact ⟨ret_bool (by first | (rw [HR.out,Bool.true_and,decide_eq_false (show ¬ (0≤p∧p≤2) by omega)];done) | (rw [HR.out,Bool.true_and,decide_eq_false (show ¬ (0≤p∧p≤2) by omega)];apply decide_eq_false;omega)),b1⟩
  ·go_enter Tryz.func160,Tryz.ntmps160
   (go_wp2_with fail);refine HO.out.mono ?_;rintro e w1 ⟨rfl,hb1⟩;have b1:=below_next hal hb1;have q0:=kcell hb1 p0;have q1:=kcell hb1 p1;clear hb1 p0 p1;go_wp2;go_returns;exact ⟨ret_bool (by first | (rw [HR.out,Bool.true_and,decide_eq_false (show ¬ (0≤p∧p≤2) by omega)];done) | (rw [HR.out,Bool.true_and,decide_eq_false (show ¬ (0≤p∧p≤2) by omega)];apply decide_eq_false;omega)),b1⟩
theorem drawnText (A:Option Addr) (n c:Nat) (ss:List Stroke) (w:World) (h:StrokesIn w w.heap.size A n c ss) :
  Calls Tryz.prog 208 #[.agg #[.slice A n c]] w fun e w'=>e = .returned (.string (mkStr (outText ss)))∧Below w.heap.size w w':=by
 have hal:Below w.heap.size w (w.alloc (.cells #[.slice A n c] 216)):=(Below.refl _ _).alloc (Nat.le_refl _) _;have HO:=uH (implOutlineText A n c ss _ (h.keep hal));clear h;go_enter Tryz.func208,Tryz.ntmps208
 (go_wp2_with fail);refine HO.out.mono ?_;rintro e w1 ⟨rfl,hb1⟩;have b1:=below_next hal hb1;go_wp2;go_returns;exact ⟨rfl,b1⟩
theorem marks_cut:(⟨#[94,45,95]⟩:ByteArray).extract 0 1=mkStr [markL 0]∧(⟨#[94,45,95]⟩:ByteArray).extract 1 2=mkStr [markL 1]∧(⟨#[94,45,95]⟩:ByteArray).extract 2 3=mkStr [markL 2]:=⟨rfl,rfl,rfl⟩
theorem formText (A:Option Addr) (n c:Nat) (ss:List Stroke) (p:Int) (w:World) (h0:0≤p) (h2:p≤2) (h:StrokesIn w w.heap.size A n c ss) :
  Calls Tryz.prog 162 #[.agg #[.slice A n c,.int .i64 p]] w fun e w'=>e = .returned (.string (mkStr (markL p::outText ss)))∧Below w.heap.size w w':=by
 have hal:Below w.heap.size w (w.alloc (.cells #[.slice A n c,.int .i64 p] 218)):=(Below.refl _ _).alloc (Nat.le_refl _) _;have HD:Hid (∀ W,Below w.heap.size w W→Calls Tryz.prog 208 #[.agg #[.slice A n c]] W fun e w'=>e = .returned (.string (mkStr (outText ss)))∧Below W.heap.size W w'):=uH (fun W hW=>drawnText A n c ss W (h.keep hW));have hl:=outText_len ss;have hA : ∀ W,(Op.stringOp .add (mkStr [markL p]) (mkStr (outText ss))).run Tryz.prog W = .ok (.string (mkStr (markL p::outText ss))) W:=fun W=>run_add _ _ (by simp;omega) W;have p0:=newcell w #[.slice A n c,.int .i64 p] 218 0 _ rfl;have p1:=newcell w #[.slice A n c,.int .i64 p] 218 1 _ rfl;have r0:=qcell p0;have r1:=qcell p1;clear h hl;generalize outText ss=t at *;obtain ⟨x1,x2,x3⟩:=marks_cut;have e1:IntKind.i64.wrap 1=1:=rfl;have e2:IntKind.i64.wrap 2=2:=rfl;have e3:IntKind.i64.wrap 3=3:=rfl;have hp:p=0∨p=1∨p=2:=(by omega);rcases hp with rfl | rfl | rfl
 all_goals (
  go_enter Tryz.func162,Tryz.ntmps162
  (go_wp2_with fail);refine region_qb (by kernel_rfl) (by kernel_rfl) ?_;repeat (first | go_big_quiet_step ((go_at_call 208;exact quietB (HD.out _ (hal.trans ((below_regrown _ _ _).mono (by simp)))))) | quiet_step ((go_at_call 208;exact quietB (HD.out _ (hal.trans ((below_regrown _ _ _).mono (by simp)))))))
  refine wpQuiet_nil ?_;intro w3 hb3;have b3:=below_next hal hb3;clear r0 r1 p0 p1 hb3;go_wp2;go_returns;exact ⟨rfl,b3⟩)
theorem formOf (A:Option Addr) (n c:Nat) (p:Int) (w:World) :
  Calls Tryz.prog 161 #[.agg #[.slice A n c,.int .i64 p]] w fun e w'=>e = .returned (.agg #[.slice A n c,.int .i64 p])∧Below w.heap.size w w':=by
 go_enter Tryz.func161,Tryz.ntmps161
 go_wp2;go_returns;exact ⟨rfl,by go_grown⟩
theorem implWrittenText (A:Option Addr) (n c:Nat) (ss:List Stroke) (p:Int) (w:World) (h:StrokesIn w w.heap.size A n c ss) :
  Calls Tryz.prog 95 #[.agg #[.slice A n c,.int .i64 p]] w fun e w'=>e = .returned (.string (mkStr (wrText ss p)))∧Below w.heap.size w w':=by
 have hal:Below w.heap.size w (w.alloc (.cells #[.slice A n c,.int .i64 p] 140)):=(Below.refl _ _).alloc (Nat.le_refl _) _;have H:Hid (∀ W,Below w.heap.size w W→StrokesIn W W.heap.size A n c ss):=uH (fun W hW=>h.keep hW);have HV:=uH (implWrittenValid A n c ss p _ (h.keep hal));have p0:=newcell w #[.slice A n c,.int .i64 p] 140 0 _ rfl;have p1:=newcell w #[.slice A n c,.int .i64 p] 140 1 _ rfl;clear h;cases hv:wrB ss p with
 | false =>
  have HR:=uH (wrText_no hv);rw [hv] at HV;clear hv;go_enter Tryz.func95,Tryz.ntmps95
  (go_wp2_with fail);refine HV.out.mono ?_;rintro e w1 ⟨rfl,hb1⟩;have b1:=below_next hal hb1;go_wp2;go_returns;exact ⟨ret_str (a:=[]) HR.out.symm,b1⟩
 | true =>
  have HR:=uH (wrText_yes hv);obtain ⟨_,h0,h2⟩:=wrB_iff.1 hv;rw [hv] at HV;clear hv;go_enter Tryz.func95,Tryz.ntmps95
  (go_wp2_with fail);refine HV.out.mono ?_;rintro e w1 ⟨rfl,hb1⟩;have b1:=below_next hal hb1;have q0:=kcell hb1 p0;have q1:=kcell hb1 p1;clear hb1 p0 p1;(go_wp2_with fail);refine (formOf A n c p _).mono ?_;rintro e w2 ⟨rfl,hb2⟩;have b2:=below_next b1 hb2;have HF:=uH (formText A n c ss p w2 h0 h2 (H.out w2 b2));clear hb2 q0 q1;(go_wp2_with fail);refine HF.out.mono ?_;rintro e w3 ⟨rfl,hb3⟩;have b3:=below_next b2 hb3;go_wp2;go_returns;exact ⟨ret_str HR.out.symm,b3⟩
abbrev Dat:=List Stroke × Int
def Wr.dat (x:Wr):Dat:=(x.ss,x.pos)
def datB (d:Dat):Bool:=wrB d.1 d.2
def datT (d:Dat):List UInt8:=wrText d.1 d.2
def lineB (L:List Dat):Bool:=decide (L.length≤20) && L.all datB
def lineT (L:List Dat):List UInt8:=Lib.join (L.map datT) [32]
def lineText (L:List Dat):List UInt8:=if lineB L=true then lineT L else []
theorem lineText_yes {L:List Dat} (h:lineB L=true):lineText L=lineT L:=if_pos h
theorem lineText_no {L:List Dat} (h:lineB L=false):lineText L=[]:=if_neg (by rw [h];simp)
theorem lineB_iff {L:List Dat}:lineB L=true ↔ L.length≤20∧∀ d∈L,datB d=true:=by unfold lineB;rw [Bool.and_eq_true,decide_eq_true_iff,List.all_eq_true]
theorem lineB_no {L:List Dat} {d:Dat} (hd:d∈L) (h:datB d=false):lineB L=false:=by
 rw [Bool.eq_false_iff];intro h2;rw [(lineB_iff.1 h2).2 d hd] at h;cases h
theorem lineB_long {L:List Dat} (h:20 < L.length):lineB L=false:=by
 rw [Bool.eq_false_iff];intro h2;have:=(lineB_iff.1 h2).1;omega
theorem datT_len (d:Dat):(datT d).length≤17:=by
 unfold datT;cases h:wrB d.1 d.2 with
 | false=>rw [wrText_no h];simp
 | true=>rw [wrText_yes h,List.length_cons];have:=outText_len d.1;omega
theorem lineT_len : ∀ L:List Dat,(lineT L).length≤18 * L.length:=by
 intro L;unfold lineT;cases L with
 | nil=>simp [Lib.join_nil]
 | cons x r =>
  rw [List.map_cons,Lib.join_cons,List.length_append];have h1:=datT_len x;have h2:(Lib.joinTail [32] (r.map datT)).length≤18 * r.length:=by
   unfold Lib.joinTail;induction r with
   | nil=>simp
   | cons y r ih =>
    have:=datT_len y;simp only [List.map_cons,List.flatten_cons,List.length_append,List.length_cons,List.length_nil] at ih ⊢;omega
  rw [List.length_cons];omega
theorem dat_mem {xs:List Wr} {k:Nat} (h:k < xs.length):(wrAt xs k).dat∈xs.map Wr.dat:=List.mem_map_of_mem (wrAt_mem h)
end Go.Proofs.YtbkhnljaajajiaaGreatDoor
