/- Joined texts: Lays SF SP. -/
import Derived.Shelf.Small.Wraps
import Derived.Shelf.Strings.Search3
import Derived.Shelf.Sort.Plain
import Derived.Shelf.Bits.Mul64
import Derived.Shelf.Slices.Turned
import Derived.Ground.Names2Prog
import Derived.Shelf.Slices.CompactI
import Derived.Shelf.Slices.In.SortNone
import Derived.Test.YtfeahmiobbjklaaGreatDoorProg
import Derived.Test.YtfeahmiobbjklaaGreatDoorU5
import Derived.Test.YtfeahmiobbjklaaGreatDoorU4
import Derived.Shelf.SlSortCmp.NoneTotal
import Derived.Ground.SlsfProg
set_option linter.defProp false
open _root_.Bool renaming false->ah,true->af
open _root_.Option renaming none->ae,some->aa
open _root_.Array renaming getElem?_append_left->ajU,getElem?_eq_getElem->aiW,getElem?_eq_some_iff->ajc
open _root_.Go.Proofs renaming ltOf->ajd,sortWorldK->ajA
open _root_.Go.Sort renaming ahead->ajs,flatK->aj6,grow->ajx,mapBlock->ajC,putCells->ajh,putRow->ajj,putRowK->aj7
open _root_.List renaming getElem?_drop->ai9,getElem?_take->ajf,toArray->ajZ
open _root_.Nat renaming le_refl->aiH,le_trans->ai4,lt_of_lt_of_le->ai1
open _root_.Option.some renaming inj->aiC
open _root_.Go.Value renaming int->ajl,ownBlock->aiY
section
open _root_.Option renaming none->ae,some->aa
open _root_.List renaming replicate->aiG
open _root_.Go.Value renaming int->ajl
namespace Go.Proofs
open Go.Shelf
def Tryz.C0:Go.Shelf.Ren:=⟨λ |144=>284|143=>316|219=>345|217=>363|225=>364|224=>365|267=>366|266=>374|314=>375|n=>n,λ |9=>9|4=>4|3=>3|5=>5|46=>264|146=>365|51=>300|n=>n,λ |1=>3|n=>n⟩
def Tryz.Py:Go.Proofs.Lays.n144 Tryz.prog Tryz.C0:={
 mixed:=by kernel_rfl
 f143:=Tryz.func316.trans (congrArg aa (by kernel_rfl))
 f144:=Tryz.func284.trans (congrArg aa (by kernel_rfl))
 f217:=Tryz.func363.trans (congrArg aa (by kernel_rfl))
 f219:=Tryz.func345.trans (congrArg aa (by kernel_rfl))
 f224:=Tryz.func365.trans (congrArg aa (by kernel_rfl))
 f225:=Tryz.func364.trans (congrArg aa (by kernel_rfl))
 f266:=Tryz.func374.trans (congrArg aa (by kernel_rfl))
 f267:=Tryz.func366.trans (congrArg aa (by kernel_rfl))
 f314:=Tryz.func375.trans (congrArg aa (by kernel_rfl))
 t3:=Tryz.underlying3
 a3:=Tryz.isAgg3
 z3:=Tryz.sizeOf3
 v3:=Tryz.zeroValue3
 t4:=Tryz.underlying4
 a4:=Tryz.isAgg4
 z4:=Tryz.sizeOf4
 v4:=Tryz.zeroValue4
 t5:=Tryz.underlying5
 a5:=Tryz.isAgg5
 z5:=Tryz.sizeOf5
 v5:=Tryz.zeroValue5
 t9:=Tryz.underlying9
 a9:=Tryz.isAgg9
 z9:=Tryz.sizeOf9
 v9:=Tryz.zeroValue9
 t46:=Tryz.underlying264
 a46:=Tryz.isAgg264
 z46:=Tryz.sizeOf264
 v46:=Tryz.zeroValue264
 t51:=Tryz.underlying300
 a51:=Tryz.isAgg300
 z51:=Tryz.sizeOf300
 v51:=Tryz.zeroValue300
 t146:=Tryz.underlying365
 a146:=Tryz.isAgg365
 z146:=Tryz.sizeOf365
 v146:=Tryz.zeroValue365
 g1:=by kernel_rfl}
open Go.RowKit Go.Lib in
def Tryz.strings_Contains_one(s:ByteArray)(c:UInt8)(w:World):
 Calls Tryz.prog 284 #[.string s, .string ⟨#[c]⟩] w λe w'=>e= .returned (.bool (decide (0<=Lib.indexByte s.data.toList c)))/\w'=w:=Any.strings_Contains_one Tryz.Py s c w
def Tryz.C1:Go.Shelf.Ren:=⟨λ |189=>236|125=>259|257=>287|128=>302|129=>303|294=>318|295=>319|296=>320|297=>321|298=>322|299=>323|216=>324|300=>325|301=>326|328=>353|329=>329|330=>330|331=>354|332=>355|215=>260|343=>369|n=>n,λ |28=>23|3=>3|46=>264|0=>0|51=>300|53=>302|4=>4|183=>317|182=>316|131=>71|5=>5|9=>9|218=>333|222=>337|228=>359|229=>147|n=>n,λ |n=>n⟩
def Tryz.Hg:Go.Proofs.Lays.n189 Tryz.prog Tryz.C1:={
 mixed:=by kernel_rfl
 f125:=Tryz.func259.trans (congrArg aa (by kernel_rfl))
 f128:=Tryz.func302.trans (congrArg aa (by kernel_rfl))
 f129:=Tryz.func303.trans (congrArg aa (by kernel_rfl))
 f189:=Tryz.func236.trans (congrArg aa (by kernel_rfl))
 f215:=Tryz.func260.trans (congrArg aa (by kernel_rfl))
 f216:=Tryz.func324.trans (congrArg aa (by kernel_rfl))
 f257:=Tryz.func287.trans (congrArg aa (by kernel_rfl))
 f294:=Tryz.func318.trans (congrArg aa (by kernel_rfl))
 f295:=Tryz.func319.trans (congrArg aa (by kernel_rfl))
 f296:=Tryz.func320.trans (congrArg aa (by kernel_rfl))
 f297:=Tryz.func321.trans (congrArg aa (by kernel_rfl))
 f298:=Tryz.func322.trans (congrArg aa (by kernel_rfl))
 f299:=Tryz.func323.trans (congrArg aa (by kernel_rfl))
 f300:=Tryz.func325.trans (congrArg aa (by kernel_rfl))
 f301:=Tryz.func326.trans (congrArg aa (by kernel_rfl))
 f328:=Tryz.func353.trans (congrArg aa (by kernel_rfl))
 f329:=Tryz.func329.trans (congrArg aa (by kernel_rfl))
 f330:=Tryz.func330.trans (congrArg aa (by kernel_rfl))
 f331:=Tryz.func354.trans (congrArg aa (by kernel_rfl))
 f332:=Tryz.func355.trans (congrArg aa (by kernel_rfl))
 f343:=Tryz.func369.trans (congrArg aa (by kernel_rfl))
 t0:=Tryz.underlying0
 a0:=Tryz.isAgg0
 z0:=Tryz.sizeOf0
 v0:=Tryz.zeroValue0
 t3:=Tryz.underlying3
 a3:=Tryz.isAgg3
 z3:=Tryz.sizeOf3
 v3:=Tryz.zeroValue3
 t4:=Tryz.underlying4
 a4:=Tryz.isAgg4
 z4:=Tryz.sizeOf4
 v4:=Tryz.zeroValue4
 t5:=Tryz.underlying5
 a5:=Tryz.isAgg5
 z5:=Tryz.sizeOf5
 v5:=Tryz.zeroValue5
 t9:=Tryz.underlying9
 a9:=Tryz.isAgg9
 z9:=Tryz.sizeOf9
 v9:=Tryz.zeroValue9
 t28:=Tryz.underlying23
 a28:=Tryz.isAgg23
 z28:=Tryz.sizeOf23
 v28:=Tryz.zeroValue23
 t46:=Tryz.underlying264
 a46:=Tryz.isAgg264
 z46:=Tryz.sizeOf264
 v46:=Tryz.zeroValue264
 t51:=Tryz.underlying300
 a51:=Tryz.isAgg300
 z51:=Tryz.sizeOf300
 v51:=Tryz.zeroValue300
 t53:=Tryz.underlying302
 a53:=Tryz.isAgg302
 z53:=Tryz.sizeOf302
 v53:=Tryz.zeroValue302
 t131:=Tryz.underlying71
 a131:=Tryz.isAgg71
 z131:=Tryz.sizeOf71
 v131:=Tryz.zeroValue71
 t182:=Tryz.underlying316
 a182:=Tryz.isAgg316
 z182:=Tryz.sizeOf316
 v182:=Tryz.zeroValue316
 t183:=Tryz.underlying317
 a183:=Tryz.isAgg317
 z183:=Tryz.sizeOf317
 v183:=Tryz.zeroValue317
 t218:=Tryz.underlying333
 a218:=Tryz.isAgg333
 z218:=Tryz.sizeOf333
 v218:=Tryz.zeroValue333
 t222:=Tryz.underlying337
 a222:=Tryz.isAgg337
 z222:=Tryz.sizeOf337
 v222:=Tryz.zeroValue337
 t228:=Tryz.underlying359
 a228:=Tryz.isAgg359
 z228:=Tryz.sizeOf359
 v228:=Tryz.zeroValue359
 t229:=Tryz.underlying147
 a229:=Tryz.isAgg147
 z229:=Tryz.sizeOf147
 v229:=Tryz.zeroValue147}
open Go.Sort Go.RowKit in
def Tryz.slices_Sort_int(n5 off cap:Nat)(zs:List Int)(w:World)(hH:Holds (ajl .i64) w n5 off zs.toArray)(hblk:n5<w.heap.size)(mh:zs.length<4611686018427387904):
 Calls Tryz.prog 236 #[.slice (aa ⟨n5,off,ae⟩) zs.length cap] w λe w'=>
  e= .returned (.tuple #[])/\∃n os,w'=grow (putRow (ajl .i64) (Sort.ahead w n) n5 off (zs.mergeSort λx y=>decide (x<=y)).toArray) os:=Any.slices_Sort_int Tryz.Hg n5 off cap zs w hH hblk mh
def Tryz.yg:Go.Shelf.Ren:=⟨λ |20=>237|n=>n,λ |22=>23|3=>3|4=>4|0=>0|n=>n,λ |n=>n⟩
def Tryz.zg:Go.Proofs.Lays2.n20 Tryz.prog Tryz.yg:={
 mixed:=by kernel_rfl
 f20:=Tryz.func237.trans (congrArg aa (by kernel_rfl))
 t0:=Tryz.underlying0
 a0:=Tryz.isAgg0
 z0:=Tryz.sizeOf0
 v0:=Tryz.zeroValue0
 t3:=Tryz.underlying3
 a3:=Tryz.isAgg3
 z3:=Tryz.sizeOf3
 v3:=Tryz.zeroValue3
 t4:=Tryz.underlying4
 a4:=Tryz.isAgg4
 z4:=Tryz.sizeOf4
 v4:=Tryz.zeroValue4
 t22:=Tryz.underlying23
 a22:=Tryz.isAgg23
 z22:=Tryz.sizeOf23
 v22:=Tryz.zeroValue23
 i3:=by kernel_rfl}
open Go.RowKit Go.Lib Go.Sort in
def Tryz.slices_Compact_int(n5 off cap:Nat)(zs:List Int)(w:World)(hH:Holds (ajl .i64) w n5 off zs.toArray)(mh:zs.length<=9223372036854775807)(BE:zs.length<=cap):
 Calls Tryz.prog 237 #[.slice (aa ⟨n5,off,ae⟩) zs.length cap] w λe w'=>e= .returned (.slice (aa ⟨n5,off,ae⟩) (Lib.compact zs).length cap)/\∃q,w'=putRow (ajl .i64) (Sort.ahead w q) n5 off (Lib.compact zs++aiG (zs.length-(Lib.compact zs).length) 0).toArray:=Any.slices_Compact_int Tryz.zg n5 off cap zs w hH mh BE
open Go.RowKit Go.Lib Go.Sort in
def Tryz.slices_Compact_int_empty(a:Option Addr)(cap:Nat)(w:World):
 Calls Tryz.prog 237 #[.slice a 0 cap] w λe w'=>e= .returned (.slice a 0 cap)/\w'=w:=Any.slices_Compact_int_empty Tryz.zg a cap w
open Go.RowKit Go.Sort in
def Tryz.slices_Sort_int_none(p:Option Addr)(cap:Nat)(w:World):
 Calls Tryz.prog 236 #[.slice p 0 cap] w λe w'=>e= .returned (.tuple #[])/\w'=w:=Any.slices_Sort_int_none Tryz.Hg p cap w
end Go.Proofs
end
namespace Go.Proofs.YtfeahmiobbjklaaGreatDoor
open Go Go.RowKit
set_option maxRecDepth 100000
set_option linter.unusedSimpArgs false
set_option linter.unusedVariables false
set_option linter.defProp false
section
@[reducible] def nq:Row:= .pair aA aA
def lZ(x:Int×Int):List Value:=[.int .i64 x.1, .int .i64 x.2]
def pC(g:Int->Int->Int->Int->Option Int)(x y:Int×Int):Int:=(g x.1 x.2 y.1 y.2).getD 0
structure Mh(g:Int->Int->Int->Int->Option Int):Prop where
 all:∀a b c d,∃z,g a b c d=aa z
 swo:Go.Sort.SWO (ajd (pC g))
 tot:∀x y,ajd (pC g) x y=ah->ajd (pC g) y x=ah->x=y
open Classical in
noncomputable def zh(g:Int->Int->Int->Int->Option Int)(l:List nq.den):Option (List nq.den):=
 if Mh g/\l.length<4611686018427387904 then aa (l.mergeSort λx y=> !(ajd (pC g)) y x)else ae
section
variable {P:Program} {w w':World} {F:Nat->Prop} {T:TypeId}
def Jt(h:Ext (λ_=>False) w w'):∃q IN,w'=ajx (w.drewN q) IN:=by
 refine⟨w'.drawn-w.drawn,w'.heap.extract w.heap.size w'.heap.size,?_⟩
 have hd:w.drawn+(w'.drawn-w.drawn)=w'.drawn:=by have:=h.tape.2;omega
 have hh:w'.heap=w.heap++w'.heap.extract w.heap.size w'.heap.size:=by
  apply Array.ext (by simp;have:=h.size;omega);intro i h1 h2;rw[Array.getElem_append];split
  .rename_i hi;have:=h.block i hi (λh=>h);rw[aiW h1,aiW hi]at this;exact aiC this
  .simp only[Array.getElem_extract]
   congr 1
   omega
 cases w';cases w
 have h1:=h.os;have h2:=h.tape.1;have h3:=h.output
 simp only at h1 h2 h3 hd hh;subst h1 h2 h3;simp only[ajx,World.drewN];rw[hd,<-hh]
def Ju{gi:FuncId}{g:Int->Int->Int->Int->Option Int}(h:gZ P gi ⟨⟨[(0, .val af (.leaf nq)),(1, .val af (.leaf nq))],[],[],0⟩,⟨[(0, .val ah (.leaf aA))],[],[],0⟩,λ(x:nq.den×nq.den)=>g x.1.1 x.1.2 x.2.1 x.2.2⟩)
 {x y:Int×Int}{c:Int}(hc:g x.1 x.2 y.1 y.2=aa c){W:World}(Sp:pG (λb=>b<W.heap.size) W):
 Calls P gi #[.agg (lZ x).toArray, .agg (lZ y).toArray] W λe W'=>e= .returned (.int .i64 c)/\∃q IN,W'=ajx (W.drewN q) IN:=by
 have hv:∀x:Int×Int,aS ⟨λ_=>ae,λ_=>ae,λ_ _=>False⟩ (λb=>b<W.heap.size) W af (.leaf nq x) (.agg (lZ x).toArray):=λx=>
  pT (r:=nq) ⟨[.int .i64 x.1],[.int .i64 x.2],rfl,rfl,rfl⟩
 have ha:FB (λb=>b<W.heap.size) W 0 [(0, .val af (.leaf nq)),(1, .val af (.leaf nq))] [⟨nq,x⟩,⟨nq,y⟩] [.agg (lZ x).toArray, .agg (lZ y).toArray]:= .cons (hv x) (.cons (hv y) .nil);obtain⟨h1,h2,h3⟩:=ha.aG
 refine(h.ok (x,y) c hc _ W ⟨λ_=>ae,λ_=>ae,λ_ _=>False⟩ (λb=>b<W.heap.size) (λ_=>False) h3 (λt d hd=>by simpa using(h1 t d hd).2) ?_ (λ_ _=>⟨rfl,rfl⟩) (λ_ h=>h.elim)).mono λe W' ⟨us,he,Pd,H',F',a1,_,_,_,a5,_⟩=>?_
 .exact⟨λ_ _ _ h=>(by cases h),λ_ _ _ _ _ _ _ _ _ h=>(by cases h),λ_ _ _=>⟨rfl,rfl⟩,λ_ h=>h,λ_ h=> .inl h,Sp⟩
 .refine⟨?_,Jt a1⟩
  match us,Pd with
  |[u],_=>
   have:=a5 0 _ rfl;have hu:u= .int .i64 c:=aS.int (x:=c) this;rw[he,hu];rfl
def Mi(x:Int×Int):(lZ x).length=2:=rfl
def C2(d:Array (Int×Int))(i j:Nat)(hi:i<d.size)(hj:j<2):(aj6 lZ 2 d)[i*2+j]! =(lZ d[i])[j]! :=by
 rw[Go.Sort.get_flatK _ _ _ _ (by omega),show(i*2+j)/2=i by omega,show(i*2+j)%2=j by omega,getElem!_pos d i hi]
def Jv{l:List (Int×Int)}{xs:List Value}(h:∀i(hi:i<l.length),cS F w nq ((xs.drop (i*2)).take 2) l[i]):∀i(hi:i<l.length),∀j,j<2->xs[i*2+j]? =aa (lZ l[i])[j]! :=by
 intro i hi j hj;obtain⟨c1,c2,h1,h2,h3⟩:=h i hi;have h2:c1=[ajl .i64 l[i].1]:=h2;have h3:c2=[ajl .i64 l[i].2]:=h3;subst h2 h3
 have:((xs.drop (i*2)).take 2)[j]? =xs[i*2+j]? :=by rw[ajf,al hj,ai9]
 rw[<-this,h1]
 match j,hj with
 |0,_=>rfl
 |1,_=>rfl
def Jw{v:Value}{l:List nq.den}(h:mw 0 F w T nq v l):(v= .slice ae 0 0/\l=[])\/∃g o0 cap cur,v= .slice (aa ⟨g,o0,ae⟩) l.length cap/\w.heap[g]? =aa (.cells cur T (0,0))/\l.length<=cap/\cap<=maxLen/\o0+cap*2<=cur.size/\Go.Sort.HoldsK lZ 2 w g o0 (ajZ l):=by
 obtain⟨_,xs,⟨hx,h2⟩,h3⟩:=h;have e:=Jv h3
 rcases h2 with⟨rfl,h0⟩|⟨g,o0,cap,cur,rfl,_,hg,h4,h5,h6,h7⟩
 .exact .inl ⟨rfl,List.eq_nil_of_length_eq_zero h0⟩
 .refine .inr ⟨g,o0,cap,cur,rfl,hg,h4,h5,h6,λj hj=>⟨?_,frozen_of_row w g _ cur T hg⟩⟩
  have hj:j<l.length*2:=by simpa using hj
  rw[cell_of_row w g _ cur T (0,0) hg]
  have hi:j/2<l.length:=by omega
  have hm:j%2<2:=by omega
  have:=e (j/2) hi (j%2) hm;rw[show j/2*2+j%2=j by omega]at this;have h8:=C2 l.toArray (j/2) (j%2) (by simpa using hi) hm;rw[show j/2*2+j%2=j by omega]at h8;rw[<-h7,ajf,al (by simpa[Row.size]using hj),ai9,Array.getElem?_toList]at this;rw[this,id,h8];simp
def C4{g off:Nat}{d:Array (Int×Int)}{n:Nat}{os:Array Obj}(h:w'=ajA lZ 2 w g off n d os):Ext (λk=>k=g) w w':=by
 subst h;refine⟨rfl,⟨rfl,Nat.le_add_right _ _⟩,rfl,?_,λk hk hn=>?_⟩
 .simp[ajA,ajx,aj7,ajj,ajC,ajs]
 .simp only[ajA,ajx];rw[ajU (by simpa[aj7,ajj,ajC,ajs]using hk)];simp only[aj7,ajj,ajC,ajs,Array.getElem?_modify];rw[aj (λe=>hn e.symm)]
def Mj{g off:Nat}{d:Array (Int×Int)}{n:Nat}{os:Array Obj}(h:w'=ajA lZ 2 w g off n d os){cur:Array Value}(hg:w.heap[g]? =aa (.cells cur T (0,0))):
 w'.heap[g]? =aa (.cells (ajh id off (aj6 lZ 2 d) cur) T (0,0)):=by
 subst h;have aH:g<w.heap.size:=(ajc.1 hg).1;simp only[ajA,ajx];rw[ajU (by simpa[aj7,ajj,ajC,ajs]using aH)];simp only[aj7,ajj,ajC,ajs,Array.getElem?_modify];rw[al trivial,hg];rfl
def FF{g o0 cap:Nat}{l m:List nq.den}{cur:Array Value}{n:Nat}{os:Array Obj}(h:mw 0 F w T nq (.slice (aa ⟨g,o0,ae⟩) l.length cap) l)(hg:w.heap[g]? =aa (.cells cur T (0,0)))(hs:o0+cap*2<=cur.size)(hc:cap<=maxLen)
 (hl:l.length<=cap)(hm:m.length=l.length)(hw:w'=ajA lZ 2 w g o0 n (ajZ m) os):mw 0 F w' T nq (.slice (aa ⟨g,o0,ae⟩) l.length cap) m:=by
 have Mf:=Mj hw hg;refine⟨λk hk=>h.no k (by simpa[bU,aiY]using hk),((ajh id o0 (aj6 lZ 2 (ajZ m)) cur).toList.drop o0).take (m.length*2),⟨by simp[Row.size,ajh];omega, .inr ⟨g,o0,cap,_,by rw[hm],Nat.zero_le _,Mf,by omega,hc,by simp[ajh,Row.size];omega,rfl⟩⟩,λi hi=>?_⟩
 have vO:∀j,j<2->(ajh id o0 (aj6 lZ 2 (ajZ m)) cur)[o0+(i*2+j)]? =aa (lZ m[i])[j]! :=λj hj=>by
  have aH:o0+(i*2+j)<cur.size:=by omega
  simp only[ajh];rw[aiW (by simpa using aH),Array.getElem_mapIdx,al ⟨by omega,by simp;omega⟩,show o0+(i*2+j)-o0=i*2+j by omega,C2 _ i j (by simpa using hi) hj];simp
 have e:((((ajh id o0 (aj6 lZ 2 (ajZ m)) cur).toList.drop o0).take (m.length*2)).drop (i*2)).take 2=[.int .i64 m[i].1, .int .i64 m[i].2]:=by
  apply List.ext_getElem?
  intro j;rw[ajf];split
  .rename_i hj;rw[ai9,ajf,al (by omega),ai9,Array.getElem?_toList,vO j hj]
   match j,hj with
   |0,_=>rfl
   |1,_=>rfl
  .rename_i hj;rw[List.getElem?_eq_none (by simp;omega)]
 show cS F w' nq (((((ajh id o0 (aj6 lZ 2 (ajZ m)) cur).toList.drop o0).take (m.length*2)).drop (i*2)).take 2) m[i]
 rw[e];exact⟨[.int .i64 m[i].1],[.int .i64 m[i].2],rfl,rfl,rfl⟩
def Mk{f gi:FuncId}{g:Int->Int->Int->Int->Option Int}(hb:∃fn,P.funcs[f]? =aa fn/\(fn.name== "runtime.NumGoroutine")=ah/\fn.body.isNone=ah)
 (Zm:gZ P gi ⟨⟨[(0, .val af (.leaf nq)),(1, .val af (.leaf nq))],[],[],0⟩,⟨[(0, .val ah (.leaf aA))],[],[],0⟩,λ(x:nq.den×nq.den)=>g x.1.1 x.1.2 x.2.1 x.2.2⟩)
 (h1:∀(cf:Int×Int->Int×Int->Int),Go.Sort.SWO (ajd cf)->∀(n5 off cap:Nat)(d:Array (Int×Int))(w:World),Go.Proofs.CmpLays P gi #[] lZ 2 cf n5 off d.size w->Go.Sort.HoldsK lZ 2 w n5 off d->n5<w.heap.size->d.size<4611686018427387904->
   (∀x y,ajd cf x y=ah->ajd cf y x=ah->x=y)->Calls P f #[.slice (aa ⟨n5,off,ae⟩) d.size cap, .func (.func gi) #[] #[]] w λe w'=>e= .returned (.tuple #[])/\∃n os,w'=ajA lZ 2 w n5 off n (d.toList.mergeSort λx y=> !(ajd cf) y x).toArray os)
 (h2:∀(w:World),Calls P f #[.slice ae 0 0, .func (.func gi) #[] #[]] w λe w'=>e= .returned (.tuple #[])/\w'=w):
 gZ P f ⟨⟨[(0, .val ah (.own 0)),(1, .fn gi [])],[(0, .own T nq)],[],1⟩,⟨[],[(0, .own T nq)],[],2⟩,λx=>zh g x⟩:=by
 refine⟨hb,λx y r9 args w H F G hlen gW cM eU hG=>?_⟩;have eU:iR H 1:=eU
 match args,hlen with
 |[v,u],_=>
 have hx:(ir 0 [(0,OS.own T nq)] (dh [(0,SS.val ah (.own 0)),(1, .fn gi [])] (dy [.slice nq] x)).2)=[(0,(0, .own T nq x))]:=rfl;have hy:(ir 1 [(0,OS.own T nq)] (dh [] (dy [.slice nq] y)).2)=[(0,(1, .own T nq y))]:=rfl
 have cM:aL (λk=>w.heap.size<=k\/G k) H F w (find [(0,(0,Th.own T nq x))]) 1:=by rw[<-hx];exact cM
 have hd:aE H F w (.val ah (.own 0)) v:=gW 0 _ rfl;obtain⟨cs,⟨v',hv,EB,rfl⟩,_,qw⟩:=hd
 obtain rfl:v'=v:=by have:=qw rfl;simpa using this
 have hu:aE H F w (.fn gi []) u:=gW 1 _ rfl;obtain⟨vs,hu,Sq⟩:=hu;obtain rfl:vs=[]:=Sq;obtain rfl:u= .func (.func gi) #[] #[]:=hu;have eK:=cM.own rfl hv;obtain⟨v2,nM,cL⟩:=cM.obj 0 0 _ rfl;rw[hv]at nM;obtain rfl:=aiC nM;have r9:zh g x=aa y:=r9;unfold zh at r9;split at r9
 case isFalse=>cases r9
 rename_i np;obtain rfl:=aiC r9
 have hc:Calls P f #[v', .func (.func gi) #[] #[]] w λe w'=>e= .returned (.tuple #[])/\Ext (bU v') w w'/\mw 0 F w' T nq v' (x.mergeSort λx y=> !(ajd (pC g)) y x):=by
  rcases Jw eK with⟨rfl,rfl⟩|⟨gb,o0,cap,cur,rfl,hg,BE,ON,mh,hh⟩
  .refine(h2 w).mono λe w' ⟨he,hw⟩=>⟨he,hw▸⟨rfl,⟨rfl,aiH _⟩,rfl,aiH _,λ_ _ _=>rfl⟩,hw▸?_⟩
   simpa using eK
  .have Vy:Go.Proofs.CmpLays P gi #[] lZ 2 (pC g) gb o0 (ajZ x).size w:=λm os dk hdk a b=>by
    have bS:=C4 (w':=ajA lZ 2 w gb o0 m dk os) rfl;obtain⟨c,hc⟩:=np.1.all a.1 a.2 b.1 b.2
    have hcf:pC g a b=c:=by unfold pC;rw[hc];rfl
    rw[hcf];refine Ju Zm hc (cM.gl.step λb hb=>⟨ai1 (cM.lt b hb) bS.size,bS.block b (cM.lt b hb) λe=>eK.no b (by simp[bU,aiY,e]) hb⟩)
   refine(h1 (pC g) np.1.swo gb o0 cap (ajZ x) w Vy hh (ajc.1 hg).1 np.2 np.1.tot).mono λe w' ⟨he,n,os,hw⟩=>⟨he,?_,?_⟩
   .have:=C4 hw;exact⟨this.os,this.tape,this.output,this.size,λk hk hn=>this.block k hk λe=>hn (by simp[bU,aiY,e])⟩
   .exact FF eK hg mh ON BE (List.mergeSort_perm (α:=Int×Int) _ _).length_eq hw
 refine hc.mono λe w' ⟨he,bS,gY⟩=>⟨[],he,rfl,H.bG 1 (.own T nq (List.mergeSort (α:=Int×Int) x λx y=> !(ajd (pC g)) y x)),F,⟨bS.os,bS.tape,bS.output,bS.size,λk hk hn=>bS.block k hk λhm=>?_⟩,aK.gw (eU 1 (aiH _)).2,λb h=>h,λb h=> .inl h,λt d h=>?_,?_,?_⟩
 .rcases cL.use k hm with h|h
  .omega
  .exact hn h
 .cases h
 .show aL _ _ F w' (find (ir 1 [(0,OS.own T nq)] (dh [] (dy [.slice nq] _)).2)) 2
  rw[hy];refine⟨λo s t ho=>?_,λo o' s s' t t' u u' dA ho mf=>?_,λm h1 h2=>⟨(eU m (by have:2<=m:=h1;omega)).1,?_⟩,λb hb=>ai1 (cM.lt b hb) bS.size,λb hb=> .inl (ai4 bS.size hb),cM.gl.step (Step.ext bS cM.lt eK.no)⟩
  .obtain⟨rfl,h⟩:o=0/\(1,Th.own T nq (List.mergeSort (α:=Int×Int) x λx y=> !(ajd (pC g)) y x))=(s,t):=by
    by_cases h0:o=0
    .subst h0;exact⟨rfl,aiC ho⟩
    .exfalso;have:find [(0,(1,Th.own T nq (x.mergeSort λx y=> !(ajd (pC g)) y x)))] o=ae:=mV h0;rw[this]at ho;cases ho
   cases h;refine⟨v',hv,EB,by simp[aK.bG,Th.base],mw.to _ gY,gY.no,gY.lt,λk hk=>?_⟩;exact cL.use k hk
  .have key:∀o z,find [(0,(1,Th.own T nq (x.mergeSort λx y=> !(ajd (pC g)) y x)))] o=aa z->o=0:=λo z h=>by
    by_cases h0:o=0
    .exact h0
    .have:find [(0,(1,Th.own T nq (x.mergeSort λx y=> !(ajd (pC g)) y x)))] o=ae:=mV h0;rw[this]at h;cases h
   exact absurd ((key o _ ho).trans (key o' _ mf).symm) dA
  .have h1:2<=m:=h1
   show(if m=1 then _ else H.con m)=ae
   rw[aj (by omega)];exact(eU m (by omega)).2
 .intro m hm;have hm:2<=m:=hm;refine⟨(eU m (by omega)).1,?_⟩
  show(if m=1 then _ else H.con m)=ae
  rw[aj (by omega)];exact(eU m (by omega)).2
end
end
end Go.Proofs.YtfeahmiobbjklaaGreatDoor
section
open _root_.Option renaming some->aa
namespace Go.Proofs
open Go.Shelf
def Tryz.C5:Go.Shelf.Ren:=⟨λ |6=>187|15=>259|14=>258|28=>302|29=>303|20=>294|21=>295|22=>296|23=>297|24=>298|25=>299|26=>300|27=>301|46=>328|47=>329|48=>330|49=>331|50=>332|57=>362|n=>n,λ |22=>159|24=>119|25=>265|3=>3|39=>264|0=>0|53=>300|55=>302|4=>4|46=>317|45=>316|50=>71|5=>5|9=>9|66=>333|70=>337|76=>359|77=>147|n=>n,λ |n=>n⟩
def Tryz.Hh:Go.Proofs.SlLaysF0.n6 Tryz.prog Tryz.C5:={
 mixed:=by kernel_rfl
 f6:=⟨Tryz.f187.name,by decide,Tryz.func187.trans (congrArg aa (by kernel_rfl))⟩
 f14:=⟨Tryz.f258.name,by decide,Tryz.func258.trans (congrArg aa (by kernel_rfl))⟩
 f15:=Tryz.func259.trans (congrArg aa (by kernel_rfl))
 f20:=⟨Tryz.f294.name,by decide,Tryz.func294.trans (congrArg aa (by kernel_rfl))⟩
 f21:=⟨Tryz.f295.name,by decide,Tryz.func295.trans (congrArg aa (by kernel_rfl))⟩
 f22:=⟨Tryz.f296.name,by decide,Tryz.func296.trans (congrArg aa (by kernel_rfl))⟩
 f23:=⟨Tryz.f297.name,by decide,Tryz.func297.trans (congrArg aa (by kernel_rfl))⟩
 f24:=⟨Tryz.f298.name,by decide,Tryz.func298.trans (congrArg aa (by kernel_rfl))⟩
 f25:=⟨Tryz.f299.name,by decide,Tryz.func299.trans (congrArg aa (by kernel_rfl))⟩
 f26:=⟨Tryz.f300.name,by decide,Tryz.func300.trans (congrArg aa (by kernel_rfl))⟩
 f27:=⟨Tryz.f301.name,by decide,Tryz.func301.trans (congrArg aa (by kernel_rfl))⟩
 f28:=Tryz.func302.trans (congrArg aa (by kernel_rfl))
 f29:=Tryz.func303.trans (congrArg aa (by kernel_rfl))
 f46:=⟨Tryz.f328.name,by decide,Tryz.func328.trans (congrArg aa (by kernel_rfl))⟩
 f47:=Tryz.func329.trans (congrArg aa (by kernel_rfl))
 f48:=Tryz.func330.trans (congrArg aa (by kernel_rfl))
 f49:=⟨Tryz.f331.name,by decide,Tryz.func331.trans (congrArg aa (by kernel_rfl))⟩
 f50:=⟨Tryz.f332.name,by decide,Tryz.func332.trans (congrArg aa (by kernel_rfl))⟩
 f57:=⟨Tryz.f362.name,by decide,Tryz.func362.trans (congrArg aa (by kernel_rfl))⟩
 t0:=Tryz.underlying0
 a0:=Tryz.isAgg0
 z0:=Tryz.sizeOf0
 v0:=Tryz.zeroValue0
 t3:=Tryz.underlying3
 a3:=Tryz.isAgg3
 z3:=Tryz.sizeOf3
 v3:=Tryz.zeroValue3
 t4:=Tryz.underlying4
 a4:=Tryz.isAgg4
 z4:=Tryz.sizeOf4
 v4:=Tryz.zeroValue4
 t5:=Tryz.underlying5
 a5:=Tryz.isAgg5
 z5:=Tryz.sizeOf5
 v5:=Tryz.zeroValue5
 t9:=Tryz.underlying9
 a9:=Tryz.isAgg9
 z9:=Tryz.sizeOf9
 v9:=Tryz.zeroValue9
 t22:=Tryz.underlying159
 a22:=Tryz.isAgg159
 z22:=Tryz.sizeOf159
 v22:=Tryz.zeroValue159
 t25:=Tryz.underlying265
 a25:=Tryz.isAgg265
 z25:=Tryz.sizeOf265
 v25:=Tryz.zeroValue265
 t39:=Tryz.underlying264
 a39:=Tryz.isAgg264
 z39:=Tryz.sizeOf264
 v39:=Tryz.zeroValue264
 t45:=Tryz.underlying316
 a45:=Tryz.isAgg316
 z45:=Tryz.sizeOf316
 v45:=Tryz.zeroValue316
 t46:=Tryz.underlying317
 a46:=Tryz.isAgg317
 z46:=Tryz.sizeOf317
 v46:=Tryz.zeroValue317
 t50:=Tryz.underlying71
 a50:=Tryz.isAgg71
 z50:=Tryz.sizeOf71
 v50:=Tryz.zeroValue71
 t53:=Tryz.underlying300
 a53:=Tryz.isAgg300
 z53:=Tryz.sizeOf300
 v53:=Tryz.zeroValue300
 t55:=Tryz.underlying302
 a55:=Tryz.isAgg302
 z55:=Tryz.sizeOf302
 v55:=Tryz.zeroValue302
 t66:=Tryz.underlying333
 a66:=Tryz.isAgg333
 z66:=Tryz.sizeOf333
 v66:=Tryz.zeroValue333
 t70:=Tryz.underlying337
 a70:=Tryz.isAgg337
 z70:=Tryz.sizeOf337
 v70:=Tryz.zeroValue337
 t76:=Tryz.underlying359
 a76:=Tryz.isAgg359
 z76:=Tryz.sizeOf359
 v76:=Tryz.zeroValue359
 t77:=Tryz.underlying147
 a77:=Tryz.isAgg147
 z77:=Tryz.sizeOf147
 v77:=Tryz.zeroValue147}
end Go.Proofs
end
