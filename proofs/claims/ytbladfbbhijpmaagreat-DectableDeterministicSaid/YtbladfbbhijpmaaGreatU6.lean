/- Joined texts: Lays SF SP. -/
import Derived.Shelf.Small.Wraps
import Derived.Shelf.Strings.Search3
import Derived.Shelf.Sort.Plain
import Derived.Shelf.Slices.Turned
import Derived.Ground.Names2Prog
import Derived.Shelf.Slices.CompactI
import Derived.Shelf.Slices.In.SortNone
import Derived.Test.YtbladfbbhijpmaaGreatProg
import Derived.Test.YtbladfbbhijpmaaGreatU5
import Derived.Shelf.SlSortCmp.NoneTotal
import Derived.Ground.SlsfProg
open _root_.Bool renaming false->aaM,true->aaL
open _root_.Option renaming none->aaK
open _root_.Array renaming getElem?_append_left->aas,getElem?_eq_getElem->Zi,getElem?_eq_some_iff->Zx
open _root_.Go.Proofs renaming ltOf->ZL,sortWorldK->Z7
open _root_.Go.Sort renaming ahead->ZX,flatK->aaH,grow->Z2,mapBlock->Z9,putCells->ZO,putRow->ZP,putRowK->aaJ
open _root_.List renaming getElem?_drop->Zc,getElem?_take->Zo,toArray->aaz
open _root_.Nat renaming le_refl->YY,le_trans->Zj,lt_of_lt_of_le->Zv
open _root_.Option.some renaming inj->YU
open _root_.Go.Value renaming int->ZS,ownBlock->Zw
section
open _root_.Option renaming none->aaK
open _root_.List renaming replicate->Zq
open _root_.Go.Value renaming int->ZS
namespace Go.Proofs
open Go.Shelf
def Tryz.ym:Go.Shelf.Ren:=⟨λ |144=>160|143=>179|219=>198|217=>213|225=>214|224=>215|267=>216|266=>228|314=>229|n=>n,λ |9=>9|4=>4|3=>3|5=>5|46=>157|146=>236|51=>181|n=>n,λ |1=>0|n=>n⟩
theorem Tryz.Jf:Go.Proofs.Lays.n144 Tryz.prog Tryz.ym:={
 mixed:=by kernel_rfl
 f143:=Tryz.func179.trans (congrArg some (by kernel_rfl))
 f144:=Tryz.func160.trans (congrArg some (by kernel_rfl))
 f217:=Tryz.func213.trans (congrArg some (by kernel_rfl))
 f219:=Tryz.func198.trans (congrArg some (by kernel_rfl))
 f224:=Tryz.func215.trans (congrArg some (by kernel_rfl))
 f225:=Tryz.func214.trans (congrArg some (by kernel_rfl))
 f266:=Tryz.func228.trans (congrArg some (by kernel_rfl))
 f267:=Tryz.func216.trans (congrArg some (by kernel_rfl))
 f314:=Tryz.func229.trans (congrArg some (by kernel_rfl))
 t3:=Tryz.underlying3
 a3:=Tryz.isAgg3
 z3:=Tryz.sizeOf3
 v3:=Tryz.zeroValue3
 t4:=Tryz.underlying4
 a4:=Tryz.isAgg4
 z4:=Tryz.sizeOf4
 v4:=Tryz.zeroValue4
 t5:=Tryz.underlying5
 a5:=Tryz.isAgg5
 z5:=Tryz.sizeOf5
 v5:=Tryz.zeroValue5
 t9:=Tryz.underlying9
 a9:=Tryz.isAgg9
 z9:=Tryz.sizeOf9
 v9:=Tryz.zeroValue9
 t46:=Tryz.underlying157
 a46:=Tryz.isAgg157
 z46:=Tryz.sizeOf157
 v46:=Tryz.zeroValue157
 t51:=Tryz.underlying181
 a51:=Tryz.isAgg181
 z51:=Tryz.sizeOf181
 v51:=Tryz.zeroValue181
 t146:=Tryz.underlying236
 a146:=Tryz.isAgg236
 z146:=Tryz.sizeOf236
 v146:=Tryz.zeroValue236
 g1:=by kernel_rfl}
open Go.RowKit Go.Lib in
theorem Tryz.strings_Contains_one(s:ByteArray)(c:UInt8)(w:World):
 Calls Tryz.prog 160 #[.string s, .string ⟨#[c]⟩] w λe w'=>e= .returned (.bool (decide (0<=Lib.indexByte s.data.toList c)))/\w'=w:=Any.strings_Contains_one Tryz.Jf s c w
def Tryz.yn:Go.Shelf.Ren:=⟨λ |189=>185|125=>145|257=>207|128=>172|129=>173|294=>219|295=>220|296=>221|297=>222|298=>223|299=>224|216=>225|300=>226|301=>227|328=>230|329=>188|330=>189|331=>231|332=>232|215=>146|343=>233|n=>n,λ |28=>31|3=>3|46=>157|0=>0|51=>181|53=>183|4=>4|183=>196|182=>195|131=>40|5=>5|9=>9|218=>207|222=>211|228=>225|229=>129|n=>n,λ |n=>n⟩
theorem Tryz.B8:Go.Proofs.Lays.n189 Tryz.prog Tryz.yn:={
 mixed:=by kernel_rfl
 f125:=Tryz.func145.trans (congrArg some (by kernel_rfl))
 f128:=Tryz.func172.trans (congrArg some (by kernel_rfl))
 f129:=Tryz.func173.trans (congrArg some (by kernel_rfl))
 f189:=Tryz.func185.trans (congrArg some (by kernel_rfl))
 f215:=Tryz.func146.trans (congrArg some (by kernel_rfl))
 f216:=Tryz.func225.trans (congrArg some (by kernel_rfl))
 f257:=Tryz.func207.trans (congrArg some (by kernel_rfl))
 f294:=Tryz.func219.trans (congrArg some (by kernel_rfl))
 f295:=Tryz.func220.trans (congrArg some (by kernel_rfl))
 f296:=Tryz.func221.trans (congrArg some (by kernel_rfl))
 f297:=Tryz.func222.trans (congrArg some (by kernel_rfl))
 f298:=Tryz.func223.trans (congrArg some (by kernel_rfl))
 f299:=Tryz.func224.trans (congrArg some (by kernel_rfl))
 f300:=Tryz.func226.trans (congrArg some (by kernel_rfl))
 f301:=Tryz.func227.trans (congrArg some (by kernel_rfl))
 f328:=Tryz.func230.trans (congrArg some (by kernel_rfl))
 f329:=Tryz.func188.trans (congrArg some (by kernel_rfl))
 f330:=Tryz.func189.trans (congrArg some (by kernel_rfl))
 f331:=Tryz.func231.trans (congrArg some (by kernel_rfl))
 f332:=Tryz.func232.trans (congrArg some (by kernel_rfl))
 f343:=Tryz.func233.trans (congrArg some (by kernel_rfl))
 t0:=Tryz.underlying0
 a0:=Tryz.isAgg0
 z0:=Tryz.sizeOf0
 v0:=Tryz.zeroValue0
 t3:=Tryz.underlying3
 a3:=Tryz.isAgg3
 z3:=Tryz.sizeOf3
 v3:=Tryz.zeroValue3
 t4:=Tryz.underlying4
 a4:=Tryz.isAgg4
 z4:=Tryz.sizeOf4
 v4:=Tryz.zeroValue4
 t5:=Tryz.underlying5
 a5:=Tryz.isAgg5
 z5:=Tryz.sizeOf5
 v5:=Tryz.zeroValue5
 t9:=Tryz.underlying9
 a9:=Tryz.isAgg9
 z9:=Tryz.sizeOf9
 v9:=Tryz.zeroValue9
 t28:=Tryz.underlying31
 a28:=Tryz.isAgg31
 z28:=Tryz.sizeOf31
 v28:=Tryz.zeroValue31
 t46:=Tryz.underlying157
 a46:=Tryz.isAgg157
 z46:=Tryz.sizeOf157
 v46:=Tryz.zeroValue157
 t51:=Tryz.underlying181
 a51:=Tryz.isAgg181
 z51:=Tryz.sizeOf181
 v51:=Tryz.zeroValue181
 t53:=Tryz.underlying183
 a53:=Tryz.isAgg183
 z53:=Tryz.sizeOf183
 v53:=Tryz.zeroValue183
 t131:=Tryz.underlying40
 a131:=Tryz.isAgg40
 z131:=Tryz.sizeOf40
 v131:=Tryz.zeroValue40
 t182:=Tryz.underlying195
 a182:=Tryz.isAgg195
 z182:=Tryz.sizeOf195
 v182:=Tryz.zeroValue195
 t183:=Tryz.underlying196
 a183:=Tryz.isAgg196
 z183:=Tryz.sizeOf196
 v183:=Tryz.zeroValue196
 t218:=Tryz.underlying207
 a218:=Tryz.isAgg207
 z218:=Tryz.sizeOf207
 v218:=Tryz.zeroValue207
 t222:=Tryz.underlying211
 a222:=Tryz.isAgg211
 z222:=Tryz.sizeOf211
 v222:=Tryz.zeroValue211
 t228:=Tryz.underlying225
 a228:=Tryz.isAgg225
 z228:=Tryz.sizeOf225
 v228:=Tryz.zeroValue225
 t229:=Tryz.underlying129
 a229:=Tryz.isAgg129
 z229:=Tryz.sizeOf129
 v229:=Tryz.zeroValue129}
open Go.Sort Go.RowKit in
theorem Tryz.slices_Sort_int(kr off cap:Nat)(zs:List Int)(w:World)(hH:Holds (ZS .i64) w kr off zs.toArray)(hblk:kr<w.heap.size)(iA:zs.length<4611686018427387904):
 Calls Tryz.prog 185 #[.slice (some ⟨kr,off,aaK⟩) zs.length cap] w λe w'=>
  e= .returned (.tuple #[])/\∃n os,w'=grow (putRow (ZS .i64) (Sort.ahead w n) kr off (zs.mergeSort λx y=>decide (x<=y)).toArray) os:=Any.slices_Sort_int Tryz.B8 kr off cap zs w hH hblk iA
def Tryz.tw:Go.Shelf.Ren:=⟨λ |20=>186|n=>n,λ |22=>31|3=>3|4=>4|0=>0|n=>n,λ |n=>n⟩
theorem Tryz.uI:Go.Proofs.Lays2.n20 Tryz.prog Tryz.tw:={
 mixed:=by kernel_rfl
 f20:=Tryz.func186.trans (congrArg some (by kernel_rfl))
 t0:=Tryz.underlying0
 a0:=Tryz.isAgg0
 z0:=Tryz.sizeOf0
 v0:=Tryz.zeroValue0
 t3:=Tryz.underlying3
 a3:=Tryz.isAgg3
 z3:=Tryz.sizeOf3
 v3:=Tryz.zeroValue3
 t4:=Tryz.underlying4
 a4:=Tryz.isAgg4
 z4:=Tryz.sizeOf4
 v4:=Tryz.zeroValue4
 t22:=Tryz.underlying31
 a22:=Tryz.isAgg31
 z22:=Tryz.sizeOf31
 v22:=Tryz.zeroValue31
 i3:=by kernel_rfl}
open Go.RowKit Go.Lib Go.Sort in
theorem Tryz.slices_Compact_int(kr off cap:Nat)(zs:List Int)(w:World)(hH:Holds (ZS .i64) w kr off zs.toArray)(iA:zs.length<=9223372036854775807)(wO:zs.length<=cap):
 Calls Tryz.prog 186 #[.slice (some ⟨kr,off,aaK⟩) zs.length cap] w λe w'=>e= .returned (.slice (some ⟨kr,off,aaK⟩) (Lib.compact zs).length cap)/\∃q,w'=putRow (ZS .i64) (Sort.ahead w q) kr off (Lib.compact zs++Zq (zs.length-(Lib.compact zs).length) 0).toArray:=Any.slices_Compact_int Tryz.uI kr off cap zs w hH iA wO
open Go.RowKit Go.Lib Go.Sort in
theorem Tryz.slices_Compact_int_empty(a:Option Addr)(cap:Nat)(w:World):
 Calls Tryz.prog 186 #[.slice a 0 cap] w λe w'=>e= .returned (.slice a 0 cap)/\w'=w:=Any.slices_Compact_int_empty Tryz.uI a cap w
open Go.RowKit Go.Sort in
theorem Tryz.slices_Sort_int_none(p:Option Addr)(cap:Nat)(w:World):
 Calls Tryz.prog 185 #[.slice p 0 cap] w λe w'=>e= .returned (.tuple #[])/\w'=w:=Any.slices_Sort_int_none Tryz.B8 p cap w
end Go.Proofs
end
namespace Go.Proofs.YtbladfbbhijpmaaGreat
open Go Go.RowKit
set_option maxRecDepth 100000
set_option linter.unusedSimpArgs false
set_option linter.unusedVariables false
set_option linter.defProp false
section
@[reducible] def jM:Row:= .pair ae ae
def iP(x:Int×Int):List Value:=[.int .i64 x.1, .int .i64 x.2]
def lM(g:Int->Int->Int->Int->Option Int)(x y:Int×Int):Int:=(g x.1 x.2 y.1 y.2).getD 0
structure GL(g:Int->Int->Int->Int->Option Int):Prop where
 all:∀a b c d,∃z,g a b c d=some z
 swo:Go.Sort.SWO (ZL (lM g))
 tot:∀x y,ZL (lM g) x y=aaM->ZL (lM g) y x=aaM->x=y
open Classical in
noncomputable def uJ(g:Int->Int->Int->Int->Option Int)(l:List jM.den):Option (List jM.den):=
 if GL g/\l.length<4611686018427387904 then some (l.mergeSort λx y=> !(ZL (lM g)) y x)else aaK
section
variable {P:Program} {w w':World} {F:Nat->Prop} {T:TypeId}
theorem D5(h:Ext (λ_=>False) w w'):∃q Dq,w'=Z2 (w.drewN q) Dq:=by
 refine⟨w'.drawn-w.drawn,w'.heap.extract w.heap.size w'.heap.size,?_⟩
 have hd:w.drawn+(w'.drawn-w.drawn)=w'.drawn:=by have:=h.tape.2;omega
 have hh:w'.heap=w.heap++w'.heap.extract w.heap.size w'.heap.size:=by
  apply Array.ext (by simp;have:=h.size;omega);intro i h1 h2;rw[Array.getElem_append];split
  .rename_i hi;have:=h.block i hi (λh=>h);rw[Zi h1,Zi hi]at this;exact YU this
  .simp only[Array.getElem_extract]
   congr 1
   omega
 cases w';cases w
 have h1:=h.os;have h2:=h.tape.1;have h3:=h.output
 simp only at h1 h2 h3 hd hh;subst h1 h2 h3;simp only[Z2,World.drewN];rw[hd,<-hh]
theorem D6{gi:FuncId}{g:Int->Int->Int->Int->Option Int}(h:gK P gi ⟨⟨[(0, .val aaL (.leaf jM)),(1, .val aaL (.leaf jM))],[],[],0⟩,⟨[(0, .val aaM (.leaf ae))],[],[],0⟩,λ(x:jM.den×jM.den)=>g x.1.1 x.1.2 x.2.1 x.2.2⟩)
 {x y:Int×Int}{c:Int}(hc:g x.1 x.2 y.1 y.2=some c){W:World}(Lm:nJ (λb=>b<W.heap.size) W):
 Calls P gi #[.agg (iP x).toArray, .agg (iP y).toArray] W λe W'=>e= .returned (.int .i64 c)/\∃q Dq,W'=Z2 (W.drewN q) Dq:=by
 have hv:∀x:Int×Int,aw ⟨λ_=>aaK,λ_=>aaK,λ_ _=>False⟩ (λb=>b<W.heap.size) W aaL (.leaf jM x) (.agg (iP x).toArray):=λx=>
  me (r:=jM) ⟨[.int .i64 x.1],[.int .i64 x.2],rfl,rfl,rfl⟩
 have ha:AD (λb=>b<W.heap.size) W 0 [(0, .val aaL (.leaf jM)),(1, .val aaL (.leaf jM))] [⟨jM,x⟩,⟨jM,y⟩] [.agg (iP x).toArray, .agg (iP y).toArray]:= .cons (hv x) (.cons (hv y) .nil);obtain⟨h1,h2,h3⟩:=ha.ah
 refine(h.ok (x,y) c hc _ W ⟨λ_=>aaK,λ_=>aaK,λ_ _=>False⟩ (λb=>b<W.heap.size) (λ_=>False) h3 (λt d hd=>by simpa using(h1 t d hd).2) ?_ (λ_ _=>⟨rfl,rfl⟩) (λ_ h=>h.elim)).mono λe W' ⟨us,he,Gl,H',F',a1,_,_,_,a5,_⟩=>?_
 .exact⟨λ_ _ _ h=>(by cases h),λ_ _ _ _ _ _ _ _ _ h=>(by cases h),λ_ _ _=>⟨rfl,rfl⟩,λ_ h=>h,λ_ h=> .inl h,Lm⟩
 .refine⟨?_,D5 a1⟩
  match us,Gl with
  |[u],_=>
   have:=a5 0 _ rfl;have hu:u= .int .i64 c:=aw.int (x:=c) this;rw[he,hu];rfl
theorem GM(x:Int×Int):(iP x).length=2:=rfl
theorem yo(d:Array (Int×Int))(i j:Nat)(hi:i<d.size)(hj:j<2):(aaH iP 2 d)[i*2+j]! =(iP d[i])[j]! :=by
 rw[Go.Sort.get_flatK _ _ _ _ (by omega),show(i*2+j)/2=i by omega,show(i*2+j)%2=j by omega,getElem!_pos d i hi]
theorem D7{l:List (Int×Int)}{xs:List Value}(h:∀i(hi:i<l.length),bN F w jM ((xs.drop (i*2)).take 2) l[i]):∀i(hi:i<l.length),∀j,j<2->xs[i*2+j]? =some (iP l[i])[j]! :=by
 intro i hi j hj;obtain⟨c1,c2,h1,h2,h3⟩:=h i hi;have h2:c1=[ZS .i64 l[i].1]:=h2;have h3:c2=[ZS .i64 l[i].2]:=h3;subst h2 h3
 have:((xs.drop (i*2)).take 2)[j]? =xs[i*2+j]? :=by rw[Zo,aaP hj,Zc]
 rw[<-this,h1]
 match j,hj with
 |0,_=>rfl
 |1,_=>rfl
theorem D8{v:Value}{l:List jM.den}(h:fN 0 F w T jM v l):(v= .slice aaK 0 0/\l=[])\/∃g o0 cap cur,v= .slice (some ⟨g,o0,aaK⟩) l.length cap/\w.heap[g]? =some (.cells cur T (0,0))/\l.length<=cap/\cap<=maxLen/\o0+cap*2<=cur.size/\Go.Sort.HoldsK iP 2 w g o0 (aaz l):=by
 obtain⟨_,xs,⟨hx,h2⟩,h3⟩:=h;have e:=D7 h3
 rcases h2 with⟨rfl,h0⟩|⟨g,o0,cap,cur,rfl,_,hg,h4,h5,h6,h7⟩
 .exact .inl ⟨rfl,List.eq_nil_of_length_eq_zero h0⟩
 .refine .inr ⟨g,o0,cap,cur,rfl,hg,h4,h5,h6,λj hj=>⟨?_,frozen_of_row w g _ cur T hg⟩⟩
  have hj:j<l.length*2:=by simpa using hj
  rw[cell_of_row w g _ cur T (0,0) hg]
  have hi:j/2<l.length:=by omega
  have hm:j%2<2:=by omega
  have:=e (j/2) hi (j%2) hm;rw[show j/2*2+j%2=j by omega]at this;have h8:=yo l.toArray (j/2) (j%2) (by simpa using hi) hm;rw[show j/2*2+j%2=j by omega]at h8;rw[<-h7,Zo,aaP (by simpa[Row.size]using hj),Zc,Array.getElem?_toList]at this;rw[this,id,h8];simp
theorem yp{g off:Nat}{d:Array (Int×Int)}{n:Nat}{os:Array Obj}(h:w'=Z7 iP 2 w g off n d os):Ext (λk=>k=g) w w':=by
 subst h;refine⟨rfl,⟨rfl,Nat.le_add_right _ _⟩,rfl,?_,λk hk hn=>?_⟩
 .simp[Z7,Z2,aaJ,ZP,Z9,ZX]
 .simp only[Z7,Z2];rw[aas (by simpa[aaJ,ZP,Z9,ZX]using hk)];simp only[aaJ,ZP,Z9,ZX,Array.getElem?_modify];rw[aaO (λe=>hn e.symm)]
theorem GN{g off:Nat}{d:Array (Int×Int)}{n:Nat}{os:Array Obj}(h:w'=Z7 iP 2 w g off n d os){cur:Array Value}(hg:w.heap[g]? =some (.cells cur T (0,0))):
 w'.heap[g]? =some (.cells (ZO id off (aaH iP 2 d) cur) T (0,0)):=by
 subst h;have ai:g<w.heap.size:=(Zx.1 hg).1;simp only[Z7,Z2];rw[aas (by simpa[aaJ,ZP,Z9,ZX]using ai)];simp only[aaJ,ZP,Z9,ZX,Array.getElem?_modify];rw[aaP trivial,hg];rfl
theorem AH{g o0 cap:Nat}{l m:List jM.den}{cur:Array Value}{n:Nat}{os:Array Obj}(h:fN 0 F w T jM (.slice (some ⟨g,o0,aaK⟩) l.length cap) l)(hg:w.heap[g]? =some (.cells cur T (0,0)))(hs:o0+cap*2<=cur.size)(hc:cap<=maxLen)
 (hl:l.length<=cap)(hm:m.length=l.length)(hw:w'=Z7 iP 2 w g o0 n (aaz m) os):fN 0 F w' T jM (.slice (some ⟨g,o0,aaK⟩) l.length cap) m:=by
 have GK:=GN hw hg;refine⟨λk hk=>h.no k (by simpa[ba,Zw]using hk),((ZO id o0 (aaH iP 2 (aaz m)) cur).toList.drop o0).take (m.length*2),⟨by simp[Row.size,ZO];omega, .inr ⟨g,o0,cap,_,by rw[hm],Nat.zero_le _,GK,by omega,hc,by simp[ZO,Row.size];omega,rfl⟩⟩,λi hi=>?_⟩
 have ot:∀j,j<2->(ZO id o0 (aaH iP 2 (aaz m)) cur)[o0+(i*2+j)]? =some (iP m[i])[j]! :=λj hj=>by
  have ai:o0+(i*2+j)<cur.size:=by omega
  simp only[ZO];rw[Zi (by simpa using ai),Array.getElem_mapIdx,aaP ⟨by omega,by simp;omega⟩,show o0+(i*2+j)-o0=i*2+j by omega,yo _ i j (by simpa using hi) hj];simp
 have e:((((ZO id o0 (aaH iP 2 (aaz m)) cur).toList.drop o0).take (m.length*2)).drop (i*2)).take 2=[.int .i64 m[i].1, .int .i64 m[i].2]:=by
  apply List.ext_getElem?
  intro j;rw[Zo];split
  .rename_i hj;rw[Zc,Zo,aaP (by omega),Zc,Array.getElem?_toList,ot j hj]
   match j,hj with
   |0,_=>rfl
   |1,_=>rfl
  .rename_i hj;rw[List.getElem?_eq_none (by simp;omega)]
 show bN F w' jM (((((ZO id o0 (aaH iP 2 (aaz m)) cur).toList.drop o0).take (m.length*2)).drop (i*2)).take 2) m[i]
 rw[e];exact⟨[.int .i64 m[i].1],[.int .i64 m[i].2],rfl,rfl,rfl⟩
theorem GO{f gi:FuncId}{g:Int->Int->Int->Int->Option Int}(hb:∃fn,P.funcs[f]? =some fn/\(fn.name== "runtime.NumGoroutine")=aaM/\fn.body.isNone=aaM)
 (Re:gK P gi ⟨⟨[(0, .val aaL (.leaf jM)),(1, .val aaL (.leaf jM))],[],[],0⟩,⟨[(0, .val aaM (.leaf ae))],[],[],0⟩,λ(x:jM.den×jM.den)=>g x.1.1 x.1.2 x.2.1 x.2.2⟩)
 (h1:∀(cf:Int×Int->Int×Int->Int),Go.Sort.SWO (ZL cf)->∀(kr off cap:Nat)(d:Array (Int×Int))(w:World),Go.Proofs.CmpLays P gi #[] iP 2 cf kr off d.size w->Go.Sort.HoldsK iP 2 w kr off d->kr<w.heap.size->d.size<4611686018427387904->
   (∀x y,ZL cf x y=aaM->ZL cf y x=aaM->x=y)->Calls P f #[.slice (some ⟨kr,off,aaK⟩) d.size cap, .func (.func gi) #[] #[]] w λe w'=>e= .returned (.tuple #[])/\∃n os,w'=Z7 iP 2 w kr off n (d.toList.mergeSort λx y=> !(ZL cf) y x).toArray os)
 (h2:∀(w:World),Calls P f #[.slice aaK 0 0, .func (.func gi) #[] #[]] w λe w'=>e= .returned (.tuple #[])/\w'=w):
 gK P f ⟨⟨[(0, .val aaM (.own 0)),(1, .fn gi [])],[(0, .own T jM)],[],1⟩,⟨[],[(0, .own T jM)],[],2⟩,λx=>uJ g x⟩:=by
 refine⟨hb,λx y nI args w H F G hlen fc bR dy hG=>?_⟩;have dy:fj H 1:=dy
 match args,hlen with
 |[v,u],_=>
 have hx:(eV 0 [(0,OS.own T jM)] (cn [(0,SS.val aaM (.own 0)),(1, .fn gi [])] (cA [.slice jM] x)).2)=[(0,(0, .own T jM x))]:=rfl;have hy:(eV 1 [(0,OS.own T jM)] (cn [] (cA [.slice jM] y)).2)=[(0,(1, .own T jM y))]:=rfl
 have bR:al (λk=>w.heap.size<=k\/G k) H F w (find [(0,(0,Th.own T jM x))]) 1:=by rw[<-hx];exact bR
 have hd:af H F w (.val aaM (.own 0)) v:=fc 0 _ rfl;obtain⟨cs,⟨v',hv,rC,rfl⟩,_,nG⟩:=hd
 obtain rfl:v'=v:=by have:=nG rfl;simpa using this
 have hu:af H F w (.fn gi []) u:=fc 1 _ rfl;obtain⟨vs,hu,V5⟩:=hu;obtain rfl:vs=[]:=V5;obtain rfl:u= .func (.func gi) #[] #[]:=hu;have dc:=bR.own rfl hv;obtain⟨v2,jK,bL⟩:=bR.obj 0 0 _ rfl;rw[hv]at jK;obtain rfl:=YU jK;have nI:uJ g x=some y:=nI;unfold uJ at nI;split at nI
 case isFalse=>cases nI
 rename_i jL;obtain rfl:=YU nI
 have hc:Calls P f #[v', .func (.func gi) #[] #[]] w λe w'=>e= .returned (.tuple #[])/\Ext (ba v') w w'/\fN 0 F w' T jM v' (x.mergeSort λx y=> !(ZL (lM g)) y x):=by
  rcases D8 dc with⟨rfl,rfl⟩|⟨gb,o0,cap,cur,rfl,hg,wO,FL,iA,hh⟩
  .refine(h2 w).mono λe w' ⟨he,hw⟩=>⟨he,hw▸⟨rfl,⟨rfl,YY _⟩,rfl,YY _,λ_ _ _=>rfl⟩,hw▸?_⟩
   simpa using dc
  .have NU:Go.Proofs.CmpLays P gi #[] iP 2 (lM g) gb o0 (aaz x).size w:=λm os dk Yv a b=>by
    have bl:=yp (w':=Z7 iP 2 w gb o0 m dk os) rfl;obtain⟨c,hc⟩:=jL.1.all a.1 a.2 b.1 b.2
    have V6:lM g a b=c:=by unfold lM;rw[hc];rfl
    rw[V6];refine D6 Re hc (bR.gl.step λb hb=>⟨Zv (bR.lt b hb) bl.size,bl.block b (bR.lt b hb) λe=>dc.no b (by simp[ba,Zw,e]) hb⟩)
   refine(h1 (lM g) jL.1.swo gb o0 cap (aaz x) w NU hh (Zx.1 hg).1 jL.2 jL.1.tot).mono λe w' ⟨he,n,os,hw⟩=>⟨he,?_,?_⟩
   .have:=yp hw;exact⟨this.os,this.tape,this.output,this.size,λk hk hn=>this.block k hk λe=>hn (by simp[ba,Zw,e])⟩
   .exact AH dc hg iA FL wO (List.mergeSort_perm (α:=Int×Int) _ _).length_eq hw
 refine hc.mono λe w' ⟨he,bl,eT⟩=>⟨[],he,rfl,H.aV 1 (.own T jM (List.mergeSort (α:=Int×Int) x λx y=> !(ZL (lM g)) y x)),F,⟨bl.os,bl.tape,bl.output,bl.size,λk hk hn=>bl.block k hk λhm=>?_⟩,aj.ei (dy 1 (YY _)).2,λb h=>h,λb h=> .inl h,λt d h=>?_,?_,?_⟩
 .rcases bL.use k hm with h|h
  .omega
  .exact hn h
 .cases h
 .show al _ _ F w' (find (eV 1 [(0,OS.own T jM)] (cn [] (cA [.slice jM] _)).2)) 2
  rw[hy];refine⟨λo s t ho=>?_,λo o' s s' t t' u u' cq ho ij=>?_,λm h1 h2=>⟨(dy m (by have:2<=m:=h1;omega)).1,?_⟩,λb hb=>Zv (bR.lt b hb) bl.size,λb hb=> .inl (Zj bl.size hb),bR.gl.step (Step.ext bl bR.lt dc.no)⟩
  .obtain⟨rfl,h⟩:o=0/\(1,Th.own T jM (List.mergeSort (α:=Int×Int) x λx y=> !(ZL (lM g)) y x))=(s,t):=by
    by_cases h0:o=0
    .subst h0;exact⟨rfl,YU ho⟩
    .exfalso;have:find [(0,(1,Th.own T jM (x.mergeSort λx y=> !(ZL (lM g)) y x)))] o=aaK:=jz h0;rw[this]at ho;cases ho
   cases h;refine⟨v',hv,rC,by simp[aj.aV,Th.base],fN.to _ eT,eT.no,eT.lt,λk hk=>?_⟩;exact bL.use k hk
  .have key:∀o z,find [(0,(1,Th.own T jM (x.mergeSort λx y=> !(ZL (lM g)) y x)))] o=some z->o=0:=λo z h=>by
    by_cases h0:o=0
    .exact h0
    .have:find [(0,(1,Th.own T jM (x.mergeSort λx y=> !(ZL (lM g)) y x)))] o=aaK:=jz h0;rw[this]at h;cases h
   exact absurd ((key o _ ho).trans (key o' _ ij).symm) cq
  .have h1:2<=m:=h1
   show(if m=1 then _ else H.con m)=aaK
   rw[aaO (by omega)];exact(dy m (by omega)).2
 .intro m hm;have hm:2<=m:=hm;refine⟨(dy m (by omega)).1,?_⟩
  show(if m=1 then _ else H.con m)=aaK
  rw[aaO (by omega)];exact(dy m (by omega)).2
end
end
end Go.Proofs.YtbladfbbhijpmaaGreat
section
namespace Go.Proofs
open Go.Shelf
def Tryz.yq:Go.Shelf.Ren:=⟨λ |6=>105|15=>145|14=>144|28=>172|29=>173|20=>164|21=>165|22=>166|23=>167|24=>168|25=>169|26=>170|27=>171|46=>187|47=>188|48=>189|49=>190|50=>191|57=>208|n=>n,λ |22=>101|24=>58|25=>158|3=>3|39=>157|0=>0|53=>181|55=>183|4=>4|46=>196|45=>195|50=>40|5=>5|9=>9|66=>207|70=>211|76=>225|77=>129|n=>n,λ |n=>n⟩
theorem Tryz.B9:Go.Proofs.SlLaysF0.n6 Tryz.prog Tryz.yq:={
 mixed:=by kernel_rfl
 f6:=⟨Tryz.f105.name,by decide,Tryz.func105.trans (congrArg some (by kernel_rfl))⟩
 f14:=⟨Tryz.f144.name,by decide,Tryz.func144.trans (congrArg some (by kernel_rfl))⟩
 f15:=Tryz.func145.trans (congrArg some (by kernel_rfl))
 f20:=⟨Tryz.f164.name,by decide,Tryz.func164.trans (congrArg some (by kernel_rfl))⟩
 f21:=⟨Tryz.f165.name,by decide,Tryz.func165.trans (congrArg some (by kernel_rfl))⟩
 f22:=⟨Tryz.f166.name,by decide,Tryz.func166.trans (congrArg some (by kernel_rfl))⟩
 f23:=⟨Tryz.f167.name,by decide,Tryz.func167.trans (congrArg some (by kernel_rfl))⟩
 f24:=⟨Tryz.f168.name,by decide,Tryz.func168.trans (congrArg some (by kernel_rfl))⟩
 f25:=⟨Tryz.f169.name,by decide,Tryz.func169.trans (congrArg some (by kernel_rfl))⟩
 f26:=⟨Tryz.f170.name,by decide,Tryz.func170.trans (congrArg some (by kernel_rfl))⟩
 f27:=⟨Tryz.f171.name,by decide,Tryz.func171.trans (congrArg some (by kernel_rfl))⟩
 f28:=Tryz.func172.trans (congrArg some (by kernel_rfl))
 f29:=Tryz.func173.trans (congrArg some (by kernel_rfl))
 f46:=⟨Tryz.f187.name,by decide,Tryz.func187.trans (congrArg some (by kernel_rfl))⟩
 f47:=Tryz.func188.trans (congrArg some (by kernel_rfl))
 f48:=Tryz.func189.trans (congrArg some (by kernel_rfl))
 f49:=⟨Tryz.f190.name,by decide,Tryz.func190.trans (congrArg some (by kernel_rfl))⟩
 f50:=⟨Tryz.f191.name,by decide,Tryz.func191.trans (congrArg some (by kernel_rfl))⟩
 f57:=⟨Tryz.f208.name,by decide,Tryz.func208.trans (congrArg some (by kernel_rfl))⟩
 t0:=Tryz.underlying0
 a0:=Tryz.isAgg0
 z0:=Tryz.sizeOf0
 v0:=Tryz.zeroValue0
 t3:=Tryz.underlying3
 a3:=Tryz.isAgg3
 z3:=Tryz.sizeOf3
 v3:=Tryz.zeroValue3
 t4:=Tryz.underlying4
 a4:=Tryz.isAgg4
 z4:=Tryz.sizeOf4
 v4:=Tryz.zeroValue4
 t5:=Tryz.underlying5
 a5:=Tryz.isAgg5
 z5:=Tryz.sizeOf5
 v5:=Tryz.zeroValue5
 t9:=Tryz.underlying9
 a9:=Tryz.isAgg9
 z9:=Tryz.sizeOf9
 v9:=Tryz.zeroValue9
 t22:=Tryz.underlying101
 a22:=Tryz.isAgg101
 z22:=Tryz.sizeOf101
 v22:=Tryz.zeroValue101
 t25:=Tryz.underlying158
 a25:=Tryz.isAgg158
 z25:=Tryz.sizeOf158
 v25:=Tryz.zeroValue158
 t39:=Tryz.underlying157
 a39:=Tryz.isAgg157
 z39:=Tryz.sizeOf157
 v39:=Tryz.zeroValue157
 t45:=Tryz.underlying195
 a45:=Tryz.isAgg195
 z45:=Tryz.sizeOf195
 v45:=Tryz.zeroValue195
 t46:=Tryz.underlying196
 a46:=Tryz.isAgg196
 z46:=Tryz.sizeOf196
 v46:=Tryz.zeroValue196
 t50:=Tryz.underlying40
 a50:=Tryz.isAgg40
 z50:=Tryz.sizeOf40
 v50:=Tryz.zeroValue40
 t53:=Tryz.underlying181
 a53:=Tryz.isAgg181
 z53:=Tryz.sizeOf181
 v53:=Tryz.zeroValue181
 t55:=Tryz.underlying183
 a55:=Tryz.isAgg183
 z55:=Tryz.sizeOf183
 v55:=Tryz.zeroValue183
 t66:=Tryz.underlying207
 a66:=Tryz.isAgg207
 z66:=Tryz.sizeOf207
 v66:=Tryz.zeroValue207
 t70:=Tryz.underlying211
 a70:=Tryz.isAgg211
 z70:=Tryz.sizeOf211
 v70:=Tryz.zeroValue211
 t76:=Tryz.underlying225
 a76:=Tryz.isAgg225
 z76:=Tryz.sizeOf225
 v76:=Tryz.zeroValue225
 t77:=Tryz.underlying129
 a77:=Tryz.isAgg129
 z77:=Tryz.sizeOf129
 v77:=Tryz.zeroValue129}
end Go.Proofs
end
