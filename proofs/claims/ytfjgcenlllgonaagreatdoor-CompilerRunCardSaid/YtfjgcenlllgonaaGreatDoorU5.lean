/- Joined texts: Lays. -/
import Derived.Shelf.Small.Wraps
import Derived.Shelf.Strings.Search3
import Derived.Shelf.Sort.Plain
import Derived.Shelf.Bits.Mul64
import Derived.Shelf.Slices.Turned
import Derived.Ground.Names2Prog
import Derived.Shelf.Slices.CompactI
import Derived.Shelf.Slices.In.SortNone
import Derived.Shelf.Slices.Empties
import Derived.Test.YtfjgcenlllgonaaGreatDoorProg
set_option linter.defProp false
section
open _root_.Option renaming none->ae,some->aa
open _root_.List renaming replicate->aqO
open _root_.Go.Value renaming int->arL
namespace Go.Proofs
open Go.Shelf
def Tryz.Gf:Go.Shelf.Ren:=⟨λ |144=>250|143=>282|219=>306|217=>348|225=>349|224=>350|267=>351|266=>374|314=>375|n=>n,λ |9=>9|4=>4|3=>3|5=>5|46=>148|146=>349|51=>203|n=>n,λ |1=>3|n=>n⟩
def Tryz.Uk:Go.Proofs.Lays.n144 Tryz.prog Tryz.Gf:={
 mixed:=by kernel_rfl
 f143:=Tryz.func282.trans (congrArg aa (by kernel_rfl))
 f144:=Tryz.func250.trans (congrArg aa (by kernel_rfl))
 f217:=Tryz.func348.trans (congrArg aa (by kernel_rfl))
 f219:=Tryz.func306.trans (congrArg aa (by kernel_rfl))
 f224:=Tryz.func350.trans (congrArg aa (by kernel_rfl))
 f225:=Tryz.func349.trans (congrArg aa (by kernel_rfl))
 f266:=Tryz.func374.trans (congrArg aa (by kernel_rfl))
 f267:=Tryz.func351.trans (congrArg aa (by kernel_rfl))
 f314:=Tryz.func375.trans (congrArg aa (by kernel_rfl))
 t3:=Tryz.underlying3
 a3:=Tryz.isAgg3
 z3:=Tryz.sizeOf3
 v3:=Tryz.zeroValue3
 t4:=Tryz.underlying4
 a4:=Tryz.isAgg4
 z4:=Tryz.sizeOf4
 v4:=Tryz.zeroValue4
 t5:=Tryz.underlying5
 a5:=Tryz.isAgg5
 z5:=Tryz.sizeOf5
 v5:=Tryz.zeroValue5
 t9:=Tryz.underlying9
 a9:=Tryz.isAgg9
 z9:=Tryz.sizeOf9
 v9:=Tryz.zeroValue9
 t46:=Tryz.underlying148
 a46:=Tryz.isAgg148
 z46:=Tryz.sizeOf148
 v46:=Tryz.zeroValue148
 t51:=Tryz.underlying203
 a51:=Tryz.isAgg203
 z51:=Tryz.sizeOf203
 v51:=Tryz.zeroValue203
 t146:=Tryz.underlying349
 a146:=Tryz.isAgg349
 z146:=Tryz.sizeOf349
 v146:=Tryz.zeroValue349
 g1:=by kernel_rfl}
open Go.RowKit Go.Lib in
def Tryz.strings_Contains_one(s:ByteArray)(c:UInt8)(w:World):
 Calls Tryz.prog 250 #[.string s, .string ⟨#[c]⟩] w λe w'=>e= .returned (.bool (decide (0<=Lib.indexByte s.data.toList c)))/\w'=w:=Any.strings_Contains_one Tryz.Uk s c w
def Tryz.Gg:Go.Shelf.Ren:=⟨λ |189=>38|125=>70|257=>69|128=>131|129=>132|294=>122|295=>123|296=>124|297=>125|298=>126|299=>127|216=>128|300=>129|301=>130|328=>194|329=>195|330=>196|331=>197|332=>198|215=>199|343=>252|n=>n,λ |28=>34|3=>3|46=>148|0=>0|51=>203|53=>205|4=>4|183=>196|182=>195|131=>165|5=>5|9=>9|218=>258|222=>262|228=>292|229=>140|n=>n,λ |n=>n⟩
def Tryz.KR:Go.Proofs.Lays.n189 Tryz.prog Tryz.Gg:={
 mixed:=by kernel_rfl
 f125:=Tryz.func70.trans (congrArg aa (by kernel_rfl))
 f128:=Tryz.func131.trans (congrArg aa (by kernel_rfl))
 f129:=Tryz.func132.trans (congrArg aa (by kernel_rfl))
 f189:=Tryz.func38.trans (congrArg aa (by kernel_rfl))
 f215:=Tryz.func199.trans (congrArg aa (by kernel_rfl))
 f216:=Tryz.func128.trans (congrArg aa (by kernel_rfl))
 f257:=Tryz.func69.trans (congrArg aa (by kernel_rfl))
 f294:=Tryz.func122.trans (congrArg aa (by kernel_rfl))
 f295:=Tryz.func123.trans (congrArg aa (by kernel_rfl))
 f296:=Tryz.func124.trans (congrArg aa (by kernel_rfl))
 f297:=Tryz.func125.trans (congrArg aa (by kernel_rfl))
 f298:=Tryz.func126.trans (congrArg aa (by kernel_rfl))
 f299:=Tryz.func127.trans (congrArg aa (by kernel_rfl))
 f300:=Tryz.func129.trans (congrArg aa (by kernel_rfl))
 f301:=Tryz.func130.trans (congrArg aa (by kernel_rfl))
 f328:=Tryz.func194.trans (congrArg aa (by kernel_rfl))
 f329:=Tryz.func195.trans (congrArg aa (by kernel_rfl))
 f330:=Tryz.func196.trans (congrArg aa (by kernel_rfl))
 f331:=Tryz.func197.trans (congrArg aa (by kernel_rfl))
 f332:=Tryz.func198.trans (congrArg aa (by kernel_rfl))
 f343:=Tryz.func252.trans (congrArg aa (by kernel_rfl))
 t0:=Tryz.underlying0
 a0:=Tryz.isAgg0
 z0:=Tryz.sizeOf0
 v0:=Tryz.zeroValue0
 t3:=Tryz.underlying3
 a3:=Tryz.isAgg3
 z3:=Tryz.sizeOf3
 v3:=Tryz.zeroValue3
 t4:=Tryz.underlying4
 a4:=Tryz.isAgg4
 z4:=Tryz.sizeOf4
 v4:=Tryz.zeroValue4
 t5:=Tryz.underlying5
 a5:=Tryz.isAgg5
 z5:=Tryz.sizeOf5
 v5:=Tryz.zeroValue5
 t9:=Tryz.underlying9
 a9:=Tryz.isAgg9
 z9:=Tryz.sizeOf9
 v9:=Tryz.zeroValue9
 t28:=Tryz.underlying34
 a28:=Tryz.isAgg34
 z28:=Tryz.sizeOf34
 v28:=Tryz.zeroValue34
 t46:=Tryz.underlying148
 a46:=Tryz.isAgg148
 z46:=Tryz.sizeOf148
 v46:=Tryz.zeroValue148
 t51:=Tryz.underlying203
 a51:=Tryz.isAgg203
 z51:=Tryz.sizeOf203
 v51:=Tryz.zeroValue203
 t53:=Tryz.underlying205
 a53:=Tryz.isAgg205
 z53:=Tryz.sizeOf205
 v53:=Tryz.zeroValue205
 t131:=Tryz.underlying165
 a131:=Tryz.isAgg165
 z131:=Tryz.sizeOf165
 v131:=Tryz.zeroValue165
 t182:=Tryz.underlying195
 a182:=Tryz.isAgg195
 z182:=Tryz.sizeOf195
 v182:=Tryz.zeroValue195
 t183:=Tryz.underlying196
 a183:=Tryz.isAgg196
 z183:=Tryz.sizeOf196
 v183:=Tryz.zeroValue196
 t218:=Tryz.underlying258
 a218:=Tryz.isAgg258
 z218:=Tryz.sizeOf258
 v218:=Tryz.zeroValue258
 t222:=Tryz.underlying262
 a222:=Tryz.isAgg262
 z222:=Tryz.sizeOf262
 v222:=Tryz.zeroValue262
 t228:=Tryz.underlying292
 a228:=Tryz.isAgg292
 z228:=Tryz.sizeOf292
 v228:=Tryz.zeroValue292
 t229:=Tryz.underlying140
 a229:=Tryz.isAgg140
 z229:=Tryz.sizeOf140
 v229:=Tryz.zeroValue140}
open Go.Sort Go.RowKit in
def Tryz.slices_Sort_int(sA off cap:Nat)(zs:List Int)(w:World)(hH:Holds (arL .i64) w sA off zs.toArray)(TF:sA<w.heap.size)(p9:zs.length<4611686018427387904):
 Calls Tryz.prog 38 #[.slice (aa ⟨sA,off,ae⟩) zs.length cap] w λe w'=>
  e= .returned (.tuple #[])/\∃n os,w'=grow (putRow (arL .i64) (Sort.ahead w n) sA off (zs.mergeSort λx y=>decide (x<=y)).toArray) os:=Any.slices_Sort_int Tryz.KR sA off cap zs w hH TF p9
def Tryz.By:Go.Shelf.Ren:=⟨λ |20=>222|n=>n,λ |22=>34|3=>3|4=>4|0=>0|n=>n,λ |n=>n⟩
def Tryz.Cx:Go.Proofs.Lays2.n20 Tryz.prog Tryz.By:={
 mixed:=by kernel_rfl
 f20:=Tryz.func222.trans (congrArg aa (by kernel_rfl))
 t0:=Tryz.underlying0
 a0:=Tryz.isAgg0
 z0:=Tryz.sizeOf0
 v0:=Tryz.zeroValue0
 t3:=Tryz.underlying3
 a3:=Tryz.isAgg3
 z3:=Tryz.sizeOf3
 v3:=Tryz.zeroValue3
 t4:=Tryz.underlying4
 a4:=Tryz.isAgg4
 z4:=Tryz.sizeOf4
 v4:=Tryz.zeroValue4
 t22:=Tryz.underlying34
 a22:=Tryz.isAgg34
 z22:=Tryz.sizeOf34
 v22:=Tryz.zeroValue34
 i3:=by kernel_rfl}
open Go.RowKit Go.Lib Go.Sort in
def Tryz.slices_Compact_int(sA off cap:Nat)(zs:List Int)(w:World)(hH:Holds (arL .i64) w sA off zs.toArray)(p9:zs.length<=9223372036854775807)(Mh:zs.length<=cap):
 Calls Tryz.prog 222 #[.slice (aa ⟨sA,off,ae⟩) zs.length cap] w λe w'=>e= .returned (.slice (aa ⟨sA,off,ae⟩) (Lib.compact zs).length cap)/\∃q,w'=putRow (arL .i64) (Sort.ahead w q) sA off (Lib.compact zs++aqO (zs.length-(Lib.compact zs).length) 0).toArray:=Any.slices_Compact_int Tryz.Cx sA off cap zs w hH p9 Mh
open Go.RowKit Go.Lib Go.Sort in
def Tryz.slices_Compact_int_empty(a:Option Addr)(cap:Nat)(w:World):
 Calls Tryz.prog 222 #[.slice a 0 cap] w λe w'=>e= .returned (.slice a 0 cap)/\w'=w:=Any.slices_Compact_int_empty Tryz.Cx a cap w
open Go.RowKit Go.Sort in
def Tryz.slices_Sort_int_none(p:Option Addr)(cap:Nat)(w:World):
 Calls Tryz.prog 38 #[.slice p 0 cap] w λe w'=>e= .returned (.tuple #[])/\w'=w:=Any.slices_Sort_int_none Tryz.KR p cap w
end Go.Proofs
end
