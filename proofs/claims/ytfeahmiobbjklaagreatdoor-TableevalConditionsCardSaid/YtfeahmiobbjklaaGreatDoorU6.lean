/- Joined texts: Lays SF SP. -/
import Derived.Shelf.Small.Wraps
import Derived.Shelf.Strings.Search3
import Derived.Shelf.Sort.Plain
import Derived.Shelf.Bits.Mul64
import Derived.Shelf.Slices.Turned
import Derived.Ground.Names2Prog
import Derived.Shelf.Slices.CompactI
import Derived.Shelf.Slices.In.SortNone
import Derived.Test.YtfeahmiobbjklaaGreatDoorProg
import Derived.Test.YtfeahmiobbjklaaGreatDoorU5
import Derived.Test.YtfeahmiobbjklaaGreatDoorU4
import Derived.Shelf.SlSortCmp.NoneTotal
import Derived.Ground.SlsfProg
set_option linter.defProp false
open _root_.Bool renaming false->ag,true->af
open _root_.Option renaming none->ae,some->aa
open _root_.Array renaming getElem?_append_left->ahJ,getElem?_eq_getElem->agH,getElem?_eq_some_iff->agZ
open _root_.Go.Proofs renaming ltOf->ag0,sortWorldK->ahk
open _root_.Go.Sort renaming ahead->ahf,flatK->ahW,grow->ahi,mapBlock->aho,putCells->ag6,putRow->ag8,putRowK->ahX
open _root_.List renaming getElem?_drop->agU,getElem?_take->ag7,toArray->ahR
open _root_.Nat renaming le_refl->agt,le_trans->agR,lt_of_lt_of_le->agK
open _root_.Option.some renaming inj->agq
open _root_.Go.Value renaming int->ahb,ownBlock->agI
section
open _root_.Option renaming none->ae,some->aa
open _root_.List renaming replicate->agv
open _root_.Go.Value renaming int->ahb
namespace Go.Proofs
open Go.Shelf
def Tryz.By:Go.Shelf.Ren:=⟨λ |144=>284|143=>316|219=>345|217=>363|225=>364|224=>365|267=>366|266=>374|314=>375|n=>n,λ |9=>9|4=>4|3=>3|5=>5|46=>264|146=>365|51=>300|n=>n,λ |1=>3|n=>n⟩
def Tryz.M1:Go.Proofs.Lays.n144 Tryz.prog Tryz.By:={
 mixed:=by kernel_rfl
 f143:=Tryz.func316.trans (congrArg aa (by kernel_rfl))
 f144:=Tryz.func284.trans (congrArg aa (by kernel_rfl))
 f217:=Tryz.func363.trans (congrArg aa (by kernel_rfl))
 f219:=Tryz.func345.trans (congrArg aa (by kernel_rfl))
 f224:=Tryz.func365.trans (congrArg aa (by kernel_rfl))
 f225:=Tryz.func364.trans (congrArg aa (by kernel_rfl))
 f266:=Tryz.func374.trans (congrArg aa (by kernel_rfl))
 f267:=Tryz.func366.trans (congrArg aa (by kernel_rfl))
 f314:=Tryz.func375.trans (congrArg aa (by kernel_rfl))
 t3:=Tryz.underlying3
 a3:=Tryz.isAgg3
 z3:=Tryz.sizeOf3
 v3:=Tryz.zeroValue3
 t4:=Tryz.underlying4
 a4:=Tryz.isAgg4
 z4:=Tryz.sizeOf4
 v4:=Tryz.zeroValue4
 t5:=Tryz.underlying5
 a5:=Tryz.isAgg5
 z5:=Tryz.sizeOf5
 v5:=Tryz.zeroValue5
 t9:=Tryz.underlying9
 a9:=Tryz.isAgg9
 z9:=Tryz.sizeOf9
 v9:=Tryz.zeroValue9
 t46:=Tryz.underlying264
 a46:=Tryz.isAgg264
 z46:=Tryz.sizeOf264
 v46:=Tryz.zeroValue264
 t51:=Tryz.underlying300
 a51:=Tryz.isAgg300
 z51:=Tryz.sizeOf300
 v51:=Tryz.zeroValue300
 t146:=Tryz.underlying365
 a146:=Tryz.isAgg365
 z146:=Tryz.sizeOf365
 v146:=Tryz.zeroValue365
 g1:=by kernel_rfl}
open Go.RowKit Go.Lib in
def Tryz.strings_Contains_one(s:ByteArray)(c:UInt8)(w:World):
 Calls Tryz.prog 284 #[.string s, .string ⟨#[c]⟩] w λe w'=>e= .returned (.bool (decide (0<=Lib.indexByte s.data.toList c)))/\w'=w:=Any.strings_Contains_one Tryz.M1 s c w
def Tryz.Bz:Go.Shelf.Ren:=⟨λ |189=>236|125=>259|257=>287|128=>302|129=>303|294=>318|295=>319|296=>320|297=>321|298=>322|299=>323|216=>324|300=>325|301=>326|328=>353|329=>329|330=>330|331=>354|332=>355|215=>260|343=>369|n=>n,λ |28=>23|3=>3|46=>264|0=>0|51=>300|53=>302|4=>4|183=>317|182=>316|131=>71|5=>5|9=>9|218=>333|222=>337|228=>359|229=>147|n=>n,λ |n=>n⟩
def Tryz.FC:Go.Proofs.Lays.n189 Tryz.prog Tryz.Bz:={
 mixed:=by kernel_rfl
 f125:=Tryz.func259.trans (congrArg aa (by kernel_rfl))
 f128:=Tryz.func302.trans (congrArg aa (by kernel_rfl))
 f129:=Tryz.func303.trans (congrArg aa (by kernel_rfl))
 f189:=Tryz.func236.trans (congrArg aa (by kernel_rfl))
 f215:=Tryz.func260.trans (congrArg aa (by kernel_rfl))
 f216:=Tryz.func324.trans (congrArg aa (by kernel_rfl))
 f257:=Tryz.func287.trans (congrArg aa (by kernel_rfl))
 f294:=Tryz.func318.trans (congrArg aa (by kernel_rfl))
 f295:=Tryz.func319.trans (congrArg aa (by kernel_rfl))
 f296:=Tryz.func320.trans (congrArg aa (by kernel_rfl))
 f297:=Tryz.func321.trans (congrArg aa (by kernel_rfl))
 f298:=Tryz.func322.trans (congrArg aa (by kernel_rfl))
 f299:=Tryz.func323.trans (congrArg aa (by kernel_rfl))
 f300:=Tryz.func325.trans (congrArg aa (by kernel_rfl))
 f301:=Tryz.func326.trans (congrArg aa (by kernel_rfl))
 f328:=Tryz.func353.trans (congrArg aa (by kernel_rfl))
 f329:=Tryz.func329.trans (congrArg aa (by kernel_rfl))
 f330:=Tryz.func330.trans (congrArg aa (by kernel_rfl))
 f331:=Tryz.func354.trans (congrArg aa (by kernel_rfl))
 f332:=Tryz.func355.trans (congrArg aa (by kernel_rfl))
 f343:=Tryz.func369.trans (congrArg aa (by kernel_rfl))
 t0:=Tryz.underlying0
 a0:=Tryz.isAgg0
 z0:=Tryz.sizeOf0
 v0:=Tryz.zeroValue0
 t3:=Tryz.underlying3
 a3:=Tryz.isAgg3
 z3:=Tryz.sizeOf3
 v3:=Tryz.zeroValue3
 t4:=Tryz.underlying4
 a4:=Tryz.isAgg4
 z4:=Tryz.sizeOf4
 v4:=Tryz.zeroValue4
 t5:=Tryz.underlying5
 a5:=Tryz.isAgg5
 z5:=Tryz.sizeOf5
 v5:=Tryz.zeroValue5
 t9:=Tryz.underlying9
 a9:=Tryz.isAgg9
 z9:=Tryz.sizeOf9
 v9:=Tryz.zeroValue9
 t28:=Tryz.underlying23
 a28:=Tryz.isAgg23
 z28:=Tryz.sizeOf23
 v28:=Tryz.zeroValue23
 t46:=Tryz.underlying264
 a46:=Tryz.isAgg264
 z46:=Tryz.sizeOf264
 v46:=Tryz.zeroValue264
 t51:=Tryz.underlying300
 a51:=Tryz.isAgg300
 z51:=Tryz.sizeOf300
 v51:=Tryz.zeroValue300
 t53:=Tryz.underlying302
 a53:=Tryz.isAgg302
 z53:=Tryz.sizeOf302
 v53:=Tryz.zeroValue302
 t131:=Tryz.underlying71
 a131:=Tryz.isAgg71
 z131:=Tryz.sizeOf71
 v131:=Tryz.zeroValue71
 t182:=Tryz.underlying316
 a182:=Tryz.isAgg316
 z182:=Tryz.sizeOf316
 v182:=Tryz.zeroValue316
 t183:=Tryz.underlying317
 a183:=Tryz.isAgg317
 z183:=Tryz.sizeOf317
 v183:=Tryz.zeroValue317
 t218:=Tryz.underlying333
 a218:=Tryz.isAgg333
 z218:=Tryz.sizeOf333
 v218:=Tryz.zeroValue333
 t222:=Tryz.underlying337
 a222:=Tryz.isAgg337
 z222:=Tryz.sizeOf337
 v222:=Tryz.zeroValue337
 t228:=Tryz.underlying359
 a228:=Tryz.isAgg359
 z228:=Tryz.sizeOf359
 v228:=Tryz.zeroValue359
 t229:=Tryz.underlying147
 a229:=Tryz.isAgg147
 z229:=Tryz.sizeOf147
 v229:=Tryz.zeroValue147}
open Go.Sort Go.RowKit in
def Tryz.slices_Sort_int(nA off cap:Nat)(zs:List Int)(w:World)(hH:Holds (ahb .i64) w nA off zs.toArray)(hblk:nA<w.heap.size)(mz:zs.length<4611686018427387904):
 Calls Tryz.prog 236 #[.slice (aa ⟨nA,off,ae⟩) zs.length cap] w λe w'=>
  e= .returned (.tuple #[])/\∃n os,w'=grow (putRow (ahb .i64) (Sort.ahead w n) nA off (zs.mergeSort λx y=>decide (x<=y)).toArray) os:=Any.slices_Sort_int Tryz.FC nA off cap zs w hH hblk mz
def Tryz.w7:Go.Shelf.Ren:=⟨λ |20=>237|n=>n,λ |22=>23|3=>3|4=>4|0=>0|n=>n,λ |n=>n⟩
def Tryz.xX:Go.Proofs.Lays2.n20 Tryz.prog Tryz.w7:={
 mixed:=by kernel_rfl
 f20:=Tryz.func237.trans (congrArg aa (by kernel_rfl))
 t0:=Tryz.underlying0
 a0:=Tryz.isAgg0
 z0:=Tryz.sizeOf0
 v0:=Tryz.zeroValue0
 t3:=Tryz.underlying3
 a3:=Tryz.isAgg3
 z3:=Tryz.sizeOf3
 v3:=Tryz.zeroValue3
 t4:=Tryz.underlying4
 a4:=Tryz.isAgg4
 z4:=Tryz.sizeOf4
 v4:=Tryz.zeroValue4
 t22:=Tryz.underlying23
 a22:=Tryz.isAgg23
 z22:=Tryz.sizeOf23
 v22:=Tryz.zeroValue23
 i3:=by kernel_rfl}
open Go.RowKit Go.Lib Go.Sort in
def Tryz.slices_Compact_int(nA off cap:Nat)(zs:List Int)(w:World)(hH:Holds (ahb .i64) w nA off zs.toArray)(mz:zs.length<=9223372036854775807)(Af:zs.length<=cap):
 Calls Tryz.prog 237 #[.slice (aa ⟨nA,off,ae⟩) zs.length cap] w λe w'=>e= .returned (.slice (aa ⟨nA,off,ae⟩) (Lib.compact zs).length cap)/\∃q,w'=putRow (ahb .i64) (Sort.ahead w q) nA off (Lib.compact zs++agv (zs.length-(Lib.compact zs).length) 0).toArray:=Any.slices_Compact_int Tryz.xX nA off cap zs w hH mz Af
open Go.RowKit Go.Lib Go.Sort in
def Tryz.slices_Compact_int_empty(a:Option Addr)(cap:Nat)(w:World):
 Calls Tryz.prog 237 #[.slice a 0 cap] w λe w'=>e= .returned (.slice a 0 cap)/\w'=w:=Any.slices_Compact_int_empty Tryz.xX a cap w
open Go.RowKit Go.Sort in
def Tryz.slices_Sort_int_none(p:Option Addr)(cap:Nat)(w:World):
 Calls Tryz.prog 236 #[.slice p 0 cap] w λe w'=>e= .returned (.tuple #[])/\w'=w:=Any.slices_Sort_int_none Tryz.FC p cap w
end Go.Proofs
end
namespace Go.Proofs.YtfeahmiobbjklaaGreatDoor
open Go Go.RowKit
set_option maxRecDepth 100000
set_option linter.unusedSimpArgs false
set_option linter.unusedVariables false
set_option linter.defProp false
section
@[reducible] def mw:Row:= .pair ay ay
def la(x:Int×Int):List Value:=[.int .i64 x.1, .int .i64 x.2]
def o8(g:Int->Int->Int->Int->Option Int)(x y:Int×Int):Int:=(g x.1 x.2 y.1 y.2).getD 0
structure Kp(g:Int->Int->Int->Int->Option Int):Prop where
 all:∀a b c d,∃z,g a b c d=aa z
 swo:Go.Sort.SWO (ag0 (o8 g))
 tot:∀x y,ag0 (o8 g) x y=ag->ag0 (o8 g) y x=ag->x=y
open Classical in
noncomputable def xY(g:Int->Int->Int->Int->Option Int)(l:List mw.den):Option (List mw.den):=
 if Kp g/\l.length<4611686018427387904 then aa (l.mergeSort λx y=> !(ag0 (o8 g)) y x)else ae
section
variable {P:Program} {w w':World} {F:Nat->Prop} {T:TypeId}
def HH(h:Ext (λ_=>False) w w'):∃q G4,w'=ahi (w.drewN q) G4:=by
 refine⟨w'.drawn-w.drawn,w'.heap.extract w.heap.size w'.heap.size,?_⟩
 have hd:w.drawn+(w'.drawn-w.drawn)=w'.drawn:=by have:=h.tape.2;omega
 have hh:w'.heap=w.heap++w'.heap.extract w.heap.size w'.heap.size:=by
  apply Array.ext (by simp;have:=h.size;omega);intro i h1 h2;rw[Array.getElem_append];split
  .rename_i hi;have:=h.block i hi (λh=>h);rw[agH h1,agH hi]at this;exact agq this
  .simp only[Array.getElem_extract]
   congr 1
   omega
 cases w';cases w
 have h1:=h.os;have h2:=h.tape.1;have h3:=h.output
 simp only at h1 h2 h3 hd hh;subst h1 h2 h3;simp only[ahi,World.drewN];rw[hd,<-hh]
def HI{gi:FuncId}{g:Int->Int->Int->Int->Option Int}(h:fL P gi ⟨⟨[(0, .val af (.leaf mw)),(1, .val af (.leaf mw))],[],[],0⟩,⟨[(0, .val ag (.leaf ay))],[],[],0⟩,λ(x:mw.den×mw.den)=>g x.1.1 x.1.2 x.2.1 x.2.2⟩)
 {x y:Int×Int}{c:Int}(hc:g x.1 x.2 y.1 y.2=aa c){W:World}(Px:pg (λb=>b<W.heap.size) W):
 Calls P gi #[.agg (la x).toArray, .agg (la y).toArray] W λe W'=>e= .returned (.int .i64 c)/\∃q G4,W'=ahi (W.drewN q) G4:=by
 have hv:∀x:Int×Int,aO ⟨λ_=>ae,λ_=>ae,λ_ _=>False⟩ (λb=>b<W.heap.size) W af (.leaf mw x) (.agg (la x).toArray):=λx=>
  pA (r:=mw) ⟨[.int .i64 x.1],[.int .i64 x.2],rfl,rfl,rfl⟩
 have ha:D5 (λb=>b<W.heap.size) W 0 [(0, .val af (.leaf mw)),(1, .val af (.leaf mw))] [⟨mw,x⟩,⟨mw,y⟩] [.agg (la x).toArray, .agg (la y).toArray]:= .cons (hv x) (.cons (hv y) .nil);obtain⟨h1,h2,h3⟩:=ha.aD
 refine(h.ok (x,y) c hc _ W ⟨λ_=>ae,λ_=>ae,λ_ _=>False⟩ (λb=>b<W.heap.size) (λ_=>False) h3 (λt d hd=>by simpa using(h1 t d hd).2) ?_ (λ_ _=>⟨rfl,rfl⟩) (λ_ h=>h.elim)).mono λe W' ⟨us,he,ML,H',F',a1,_,_,_,a5,_⟩=>?_
 .exact⟨λ_ _ _ h=>(by cases h),λ_ _ _ _ _ _ _ _ _ h=>(by cases h),λ_ _ _=>⟨rfl,rfl⟩,λ_ h=>h,λ_ h=> .inl h,Px⟩
 .refine⟨?_,HH a1⟩
  match us,ML with
  |[u],_=>
   have:=a5 0 _ rfl;have hu:u= .int .i64 c:=aO.int (x:=c) this;rw[he,hu];rfl
def Kq(x:Int×Int):(la x).length=2:=rfl
def BA(d:Array (Int×Int))(i j:Nat)(hi:i<d.size)(hj:j<2):(ahW la 2 d)[i*2+j]! =(la d[i])[j]! :=by
 rw[Go.Sort.get_flatK _ _ _ _ (by omega),show(i*2+j)/2=i by omega,show(i*2+j)%2=j by omega,getElem!_pos d i hi]
def HJ{l:List (Int×Int)}{xs:List Value}(h:∀i(hi:i<l.length),cF F w mw ((xs.drop (i*2)).take 2) l[i]):∀i(hi:i<l.length),∀j,j<2->xs[i*2+j]? =aa (la l[i])[j]! :=by
 intro i hi j hj;obtain⟨c1,c2,h1,h2,h3⟩:=h i hi;have h2:c1=[ahb .i64 l[i].1]:=h2;have h3:c2=[ahb .i64 l[i].2]:=h3;subst h2 h3
 have:((xs.drop (i*2)).take 2)[j]? =xs[i*2+j]? :=by rw[ag7,aj hj,agU]
 rw[<-this,h1]
 match j,hj with
 |0,_=>rfl
 |1,_=>rfl
def HK{v:Value}{l:List mw.den}(h:lJ 0 F w T mw v l):(v= .slice ae 0 0/\l=[])\/∃g o0 cap cur,v= .slice (aa ⟨g,o0,ae⟩) l.length cap/\w.heap[g]? =aa (.cells cur T (0,0))/\l.length<=cap/\cap<=maxLen/\o0+cap*2<=cur.size/\Go.Sort.HoldsK la 2 w g o0 (ahR l):=by
 obtain⟨_,xs,⟨hx,h2⟩,h3⟩:=h;have e:=HJ h3
 rcases h2 with⟨rfl,h0⟩|⟨g,o0,cap,cur,rfl,_,hg,h4,h5,h6,h7⟩
 .exact .inl ⟨rfl,List.eq_nil_of_length_eq_zero h0⟩
 .refine .inr ⟨g,o0,cap,cur,rfl,hg,h4,h5,h6,λj hj=>⟨?_,frozen_of_row w g _ cur T hg⟩⟩
  have hj:j<l.length*2:=by simpa using hj
  rw[cell_of_row w g _ cur T (0,0) hg]
  have hi:j/2<l.length:=by omega
  have hm:j%2<2:=by omega
  have:=e (j/2) hi (j%2) hm;rw[show j/2*2+j%2=j by omega]at this;have h8:=BA l.toArray (j/2) (j%2) (by simpa using hi) hm;rw[show j/2*2+j%2=j by omega]at h8;rw[<-h7,ag7,aj (by simpa[Row.size]using hj),agU,Array.getElem?_toList]at this;rw[this,id,h8];simp
def BC{g off:Nat}{d:Array (Int×Int)}{n:Nat}{os:Array Obj}(h:w'=ahk la 2 w g off n d os):Ext (λk=>k=g) w w':=by
 subst h;refine⟨rfl,⟨rfl,Nat.le_add_right _ _⟩,rfl,?_,λk hk hn=>?_⟩
 .simp[ahk,ahi,ahX,ag8,aho,ahf]
 .simp only[ahk,ahi];rw[ahJ (by simpa[ahX,ag8,aho,ahf]using hk)];simp only[ahX,ag8,aho,ahf,Array.getElem?_modify];rw[ai (λe=>hn e.symm)]
def Kr{g off:Nat}{d:Array (Int×Int)}{n:Nat}{os:Array Obj}(h:w'=ahk la 2 w g off n d os){cur:Array Value}(hg:w.heap[g]? =aa (.cells cur T (0,0))):
 w'.heap[g]? =aa (.cells (ag6 id off (ahW la 2 d) cur) T (0,0)):=by
 subst h;have bi:g<w.heap.size:=(agZ.1 hg).1;simp only[ahk,ahi];rw[ahJ (by simpa[ahX,ag8,aho,ahf]using bi)];simp only[ahX,ag8,aho,ahf,Array.getElem?_modify];rw[aj trivial,hg];rfl
def Ea{g o0 cap:Nat}{l m:List mw.den}{cur:Array Value}{n:Nat}{os:Array Obj}(h:lJ 0 F w T mw (.slice (aa ⟨g,o0,ae⟩) l.length cap) l)(hg:w.heap[g]? =aa (.cells cur T (0,0)))(hs:o0+cap*2<=cur.size)(hc:cap<=maxLen)
 (hl:l.length<=cap)(hm:m.length=l.length)(hw:w'=ahk la 2 w g o0 n (ahR m) os):lJ 0 F w' T mw (.slice (aa ⟨g,o0,ae⟩) l.length cap) m:=by
 have Py:=Kr hw hg;refine⟨λk hk=>h.no k (by simpa[bF,agI]using hk),((ag6 id o0 (ahW la 2 (ahR m)) cur).toList.drop o0).take (m.length*2),⟨by simp[Row.size,ag6];omega, .inr ⟨g,o0,cap,_,by rw[hm],Nat.zero_le _,Py,by omega,hc,by simp[ag6,Row.size];omega,rfl⟩⟩,λi hi=>?_⟩
 have uZ:∀j,j<2->(ag6 id o0 (ahW la 2 (ahR m)) cur)[o0+(i*2+j)]? =aa (la m[i])[j]! :=λj hj=>by
  have bi:o0+(i*2+j)<cur.size:=by omega
  simp only[ag6];rw[agH (by simpa using bi),Array.getElem_mapIdx,aj ⟨by omega,by simp;omega⟩,show o0+(i*2+j)-o0=i*2+j by omega,BA _ i j (by simpa using hi) hj];simp
 have e:((((ag6 id o0 (ahW la 2 (ahR m)) cur).toList.drop o0).take (m.length*2)).drop (i*2)).take 2=[.int .i64 m[i].1, .int .i64 m[i].2]:=by
  apply List.ext_getElem?
  intro j;rw[ag7];split
  .rename_i hj;rw[agU,ag7,aj (by omega),agU,Array.getElem?_toList,uZ j hj]
   match j,hj with
   |0,_=>rfl
   |1,_=>rfl
  .rename_i hj;rw[List.getElem?_eq_none (by simp;omega)]
 show cF F w' mw (((((ag6 id o0 (ahW la 2 (ahR m)) cur).toList.drop o0).take (m.length*2)).drop (i*2)).take 2) m[i]
 rw[e];exact⟨[.int .i64 m[i].1],[.int .i64 m[i].2],rfl,rfl,rfl⟩
def Ks{f gi:FuncId}{g:Int->Int->Int->Int->Option Int}(hb:∃fn,P.funcs[f]? =aa fn/\(fn.name== "runtime.NumGoroutine")=ag/\fn.body.isNone=ag)
 (Wm:fL P gi ⟨⟨[(0, .val af (.leaf mw)),(1, .val af (.leaf mw))],[],[],0⟩,⟨[(0, .val ag (.leaf ay))],[],[],0⟩,λ(x:mw.den×mw.den)=>g x.1.1 x.1.2 x.2.1 x.2.2⟩)
 (h1:∀(cf:Int×Int->Int×Int->Int),Go.Sort.SWO (ag0 cf)->∀(nA off cap:Nat)(d:Array (Int×Int))(w:World),Go.Proofs.CmpLays P gi #[] la 2 cf nA off d.size w->Go.Sort.HoldsK la 2 w nA off d->nA<w.heap.size->d.size<4611686018427387904->
   (∀x y,ag0 cf x y=ag->ag0 cf y x=ag->x=y)->Calls P f #[.slice (aa ⟨nA,off,ae⟩) d.size cap, .func (.func gi) #[] #[]] w λe w'=>e= .returned (.tuple #[])/\∃n os,w'=ahk la 2 w nA off n (d.toList.mergeSort λx y=> !(ag0 cf) y x).toArray os)
 (h2:∀(w:World),Calls P f #[.slice ae 0 0, .func (.func gi) #[] #[]] w λe w'=>e= .returned (.tuple #[])/\w'=w):
 fL P f ⟨⟨[(0, .val ag (.own 0)),(1, .fn gi [])],[(0, .own T mw)],[],1⟩,⟨[],[(0, .own T mw)],[],2⟩,λx=>xY g x⟩:=by
 refine⟨hb,λx y rv args w H F G hlen gE cA fg hG=>?_⟩;have fg:gY H 1:=fg
 match args,hlen with
 |[v,u],_=>
 have hx:(gL 0 [(0,OS.own T mw)] (cS [(0,SS.val ag (.own 0)),(1, .fn gi [])] (c7 [.slice mw] x)).2)=[(0,(0, .own T mw x))]:=rfl;have hy:(gL 1 [(0,OS.own T mw)] (cS [] (c7 [.slice mw] y)).2)=[(0,(1, .own T mw y))]:=rfl
 have cA:aI (λk=>w.heap.size<=k\/G k) H F w (find [(0,(0,Th.own T mw x))]) 1:=by rw[<-hx];exact cA
 have hd:aB H F w (.val ag (.own 0)) v:=gE 0 _ rfl;obtain⟨cs,⟨v',hv,C7,rfl⟩,_,qQ⟩:=hd
 obtain rfl:v'=v:=by have:=qQ rfl;simpa using this
 have hu:aB H F w (.fn gi []) u:=gE 1 _ rfl;obtain⟨vs,hu,hvs⟩:=hu;obtain rfl:vs=[]:=hvs;obtain rfl:u= .func (.func gi) #[] #[]:=hu;have dS:=cA.own rfl hv;obtain⟨v2,mD,cL⟩:=cA.obj 0 0 _ rfl;rw[hv]at mD;obtain rfl:=agq mD;have rv:xY g x=aa y:=rv;unfold xY at rv;split at rv
 case isFalse=>cases rv
 rename_i mE;obtain rfl:=agq rv
 have hc:Calls P f #[v', .func (.func gi) #[] #[]] w λe w'=>e= .returned (.tuple #[])/\Ext (bF v') w w'/\lJ 0 F w' T mw v' (x.mergeSort λx y=> !(ag0 (o8 g)) y x):=by
  rcases HK dS with⟨rfl,rfl⟩|⟨gb,o0,cap,cur,rfl,hg,Af,Mo,mz,hh⟩
  .refine(h2 w).mono λe w' ⟨he,hw⟩=>⟨he,hw▸⟨rfl,⟨rfl,agt _⟩,rfl,agt _,λ_ _ _=>rfl⟩,hw▸?_⟩
   simpa using dS
  .have Sm:Go.Proofs.CmpLays P gi #[] la 2 (o8 g) gb o0 (ahR x).size w:=λm os dk hdk a b=>by
    have bC:=BC (w':=ahk la 2 w gb o0 m dk os) rfl;obtain⟨c,hc⟩:=mE.1.all a.1 a.2 b.1 b.2
    have hcf:o8 g a b=c:=by unfold o8;rw[hc];rfl
    rw[hcf];refine HI Wm hc (cA.gl.step λb hb=>⟨agK (cA.lt b hb) bC.size,bC.block b (cA.lt b hb) λe=>dS.no b (by simp[bF,agI,e]) hb⟩)
   refine(h1 (o8 g) mE.1.swo gb o0 cap (ahR x) w Sm hh (agZ.1 hg).1 mE.2 mE.1.tot).mono λe w' ⟨he,n,os,hw⟩=>⟨he,?_,?_⟩
   .have:=BC hw;exact⟨this.os,this.tape,this.output,this.size,λk hk hn=>this.block k hk λe=>hn (by simp[bF,agI,e])⟩
   .exact Ea dS hg mz Mo Af (List.mergeSort_perm (α:=Int×Int) _ _).length_eq hw
 refine hc.mono λe w' ⟨he,bC,gy⟩=>⟨[],he,rfl,H.bk 1 (.own T mw (List.mergeSort (α:=Int×Int) x λx y=> !(ag0 (o8 g)) y x)),F,⟨bC.os,bC.tape,bC.output,bC.size,λk hk hn=>bC.block k hk λhm=>?_⟩,aG.fJ (fg 1 (agt _)).2,λb h=>h,λb h=> .inl h,λt d h=>?_,?_,?_⟩
 .rcases cL.use k hm with h|h
  .omega
  .exact hn h
 .cases h
 .show aI _ _ F w' (find (gL 1 [(0,OS.own T mw)] (cS [] (c7 [.slice mw] _)).2)) 2
  rw[hy];refine⟨λo s t ho=>?_,λo o' s s' t t' u u' dJ ho lD=>?_,λm h1 h2=>⟨(fg m (by have:2<=m:=h1;omega)).1,?_⟩,λb hb=>agK (cA.lt b hb) bC.size,λb hb=> .inl (agR bC.size hb),cA.gl.step (Step.ext bC cA.lt dS.no)⟩
  .obtain⟨rfl,h⟩:o=0/\(1,Th.own T mw (List.mergeSort (α:=Int×Int) x λx y=> !(ag0 (o8 g)) y x))=(s,t):=by
    by_cases h0:o=0
    .subst h0;exact⟨rfl,agq ho⟩
    .exfalso;have:find [(0,(1,Th.own T mw (x.mergeSort λx y=> !(ag0 (o8 g)) y x)))] o=ae:=mc h0;rw[this]at ho;cases ho
   cases h;refine⟨v',hv,C7,by simp[aG.bk,Th.base],lJ.to _ gy,gy.no,gy.lt,λk hk=>?_⟩;exact cL.use k hk
  .have key:∀o z,find [(0,(1,Th.own T mw (x.mergeSort λx y=> !(ag0 (o8 g)) y x)))] o=aa z->o=0:=λo z h=>by
    by_cases h0:o=0
    .exact h0
    .have:find [(0,(1,Th.own T mw (x.mergeSort λx y=> !(ag0 (o8 g)) y x)))] o=ae:=mc h0;rw[this]at h;cases h
   exact absurd ((key o _ ho).trans (key o' _ lD).symm) dJ
  .have h1:2<=m:=h1
   show(if m=1 then _ else H.con m)=ae
   rw[ai (by omega)];exact(fg m (by omega)).2
 .intro m hm;have hm:2<=m:=hm;refine⟨(fg m (by omega)).1,?_⟩
  show(if m=1 then _ else H.con m)=ae
  rw[ai (by omega)];exact(fg m (by omega)).2
end
end
end Go.Proofs.YtfeahmiobbjklaaGreatDoor
section
open _root_.Option renaming some->aa
namespace Go.Proofs
open Go.Shelf
def Tryz.BD:Go.Shelf.Ren:=⟨λ |6=>187|15=>259|14=>258|28=>302|29=>303|20=>294|21=>295|22=>296|23=>297|24=>298|25=>299|26=>300|27=>301|46=>328|47=>329|48=>330|49=>331|50=>332|57=>362|n=>n,λ |22=>159|24=>119|25=>265|3=>3|39=>264|0=>0|53=>300|55=>302|4=>4|46=>317|45=>316|50=>71|5=>5|9=>9|66=>333|70=>337|76=>359|77=>147|n=>n,λ |n=>n⟩
def Tryz.FD:Go.Proofs.SlLaysF0.n6 Tryz.prog Tryz.BD:={
 mixed:=by kernel_rfl
 f6:=⟨Tryz.f187.name,by decide,Tryz.func187.trans (congrArg aa (by kernel_rfl))⟩
 f14:=⟨Tryz.f258.name,by decide,Tryz.func258.trans (congrArg aa (by kernel_rfl))⟩
 f15:=Tryz.func259.trans (congrArg aa (by kernel_rfl))
 f20:=⟨Tryz.f294.name,by decide,Tryz.func294.trans (congrArg aa (by kernel_rfl))⟩
 f21:=⟨Tryz.f295.name,by decide,Tryz.func295.trans (congrArg aa (by kernel_rfl))⟩
 f22:=⟨Tryz.f296.name,by decide,Tryz.func296.trans (congrArg aa (by kernel_rfl))⟩
 f23:=⟨Tryz.f297.name,by decide,Tryz.func297.trans (congrArg aa (by kernel_rfl))⟩
 f24:=⟨Tryz.f298.name,by decide,Tryz.func298.trans (congrArg aa (by kernel_rfl))⟩
 f25:=⟨Tryz.f299.name,by decide,Tryz.func299.trans (congrArg aa (by kernel_rfl))⟩
 f26:=⟨Tryz.f300.name,by decide,Tryz.func300.trans (congrArg aa (by kernel_rfl))⟩
 f27:=⟨Tryz.f301.name,by decide,Tryz.func301.trans (congrArg aa (by kernel_rfl))⟩
 f28:=Tryz.func302.trans (congrArg aa (by kernel_rfl))
 f29:=Tryz.func303.trans (congrArg aa (by kernel_rfl))
 f46:=⟨Tryz.f328.name,by decide,Tryz.func328.trans (congrArg aa (by kernel_rfl))⟩
 f47:=Tryz.func329.trans (congrArg aa (by kernel_rfl))
 f48:=Tryz.func330.trans (congrArg aa (by kernel_rfl))
 f49:=⟨Tryz.f331.name,by decide,Tryz.func331.trans (congrArg aa (by kernel_rfl))⟩
 f50:=⟨Tryz.f332.name,by decide,Tryz.func332.trans (congrArg aa (by kernel_rfl))⟩
 f57:=⟨Tryz.f362.name,by decide,Tryz.func362.trans (congrArg aa (by kernel_rfl))⟩
 t0:=Tryz.underlying0
 a0:=Tryz.isAgg0
 z0:=Tryz.sizeOf0
 v0:=Tryz.zeroValue0
 t3:=Tryz.underlying3
 a3:=Tryz.isAgg3
 z3:=Tryz.sizeOf3
 v3:=Tryz.zeroValue3
 t4:=Tryz.underlying4
 a4:=Tryz.isAgg4
 z4:=Tryz.sizeOf4
 v4:=Tryz.zeroValue4
 t5:=Tryz.underlying5
 a5:=Tryz.isAgg5
 z5:=Tryz.sizeOf5
 v5:=Tryz.zeroValue5
 t9:=Tryz.underlying9
 a9:=Tryz.isAgg9
 z9:=Tryz.sizeOf9
 v9:=Tryz.zeroValue9
 t22:=Tryz.underlying159
 a22:=Tryz.isAgg159
 z22:=Tryz.sizeOf159
 v22:=Tryz.zeroValue159
 t25:=Tryz.underlying265
 a25:=Tryz.isAgg265
 z25:=Tryz.sizeOf265
 v25:=Tryz.zeroValue265
 t39:=Tryz.underlying264
 a39:=Tryz.isAgg264
 z39:=Tryz.sizeOf264
 v39:=Tryz.zeroValue264
 t45:=Tryz.underlying316
 a45:=Tryz.isAgg316
 z45:=Tryz.sizeOf316
 v45:=Tryz.zeroValue316
 t46:=Tryz.underlying317
 a46:=Tryz.isAgg317
 z46:=Tryz.sizeOf317
 v46:=Tryz.zeroValue317
 t50:=Tryz.underlying71
 a50:=Tryz.isAgg71
 z50:=Tryz.sizeOf71
 v50:=Tryz.zeroValue71
 t53:=Tryz.underlying300
 a53:=Tryz.isAgg300
 z53:=Tryz.sizeOf300
 v53:=Tryz.zeroValue300
 t55:=Tryz.underlying302
 a55:=Tryz.isAgg302
 z55:=Tryz.sizeOf302
 v55:=Tryz.zeroValue302
 t66:=Tryz.underlying333
 a66:=Tryz.isAgg333
 z66:=Tryz.sizeOf333
 v66:=Tryz.zeroValue333
 t70:=Tryz.underlying337
 a70:=Tryz.isAgg337
 z70:=Tryz.sizeOf337
 v70:=Tryz.zeroValue337
 t76:=Tryz.underlying359
 a76:=Tryz.isAgg359
 z76:=Tryz.sizeOf359
 v76:=Tryz.zeroValue359
 t77:=Tryz.underlying147
 a77:=Tryz.isAgg147
 z77:=Tryz.sizeOf147
 v77:=Tryz.zeroValue147}
end Go.Proofs
end
