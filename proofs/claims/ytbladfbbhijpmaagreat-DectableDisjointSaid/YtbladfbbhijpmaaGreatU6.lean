/- Joined texts: Lays SF SP. -/
import Derived.Shelf.Small.Wraps
import Derived.Shelf.Strings.Search3
import Derived.Shelf.Sort.Plain
import Derived.Shelf.Slices.Turned
import Derived.Ground.Names2Prog
import Derived.Shelf.Slices.CompactI
import Derived.Shelf.Slices.In.SortNone
import Derived.Test.YtbladfbbhijpmaaGreatProg
import Derived.Test.YtbladfbbhijpmaaGreatU5
import Derived.Shelf.SlSortCmp.NoneTotal
import Derived.Ground.SlsfProg
open _root_.Bool renaming false->Yy,true->Yx
open _root_.Option renaming none->Yw
open _root_.Array renaming getElem?_append_left->Yf,getElem?_eq_getElem->WY,getElem?_eq_some_iff->Xj
open _root_.Go.Proofs renaming ltOf->Xv,sortWorldK->XS
open _root_.Go.Sort renaming ahead->XH,flatK->Yt,grow->XM,mapBlock->XU,putCells->XA,putRow->XB,putRowK->Yv
open _root_.List renaming getElem?_drop->WV,getElem?_take->W5,toArray->Ym
open _root_.Nat renaming le_refl->WH,le_trans->Xa,lt_of_lt_of_le->Xg
open _root_.Option.some renaming inj->WD
open _root_.Go.Value renaming int->XD,ownBlock->Xh
section
open _root_.Option renaming none->Yw
open _root_.List renaming replicate->Xb
open _root_.Go.Value renaming int->XD
namespace Go.Proofs
open Go.Shelf
def Tryz.wX:Go.Shelf.Ren:=⟨λ |144=>160|143=>179|219=>198|217=>213|225=>214|224=>215|267=>216|266=>228|314=>229|n=>n,λ |9=>9|4=>4|3=>3|5=>5|46=>157|146=>236|51=>181|n=>n,λ |1=>0|n=>n⟩
theorem Tryz.Hk:Go.Proofs.Lays.n144 Tryz.prog Tryz.wX:={
 mixed:=by kernel_rfl
 f143:=Tryz.func179.trans (congrArg some (by kernel_rfl))
 f144:=Tryz.func160.trans (congrArg some (by kernel_rfl))
 f217:=Tryz.func213.trans (congrArg some (by kernel_rfl))
 f219:=Tryz.func198.trans (congrArg some (by kernel_rfl))
 f224:=Tryz.func215.trans (congrArg some (by kernel_rfl))
 f225:=Tryz.func214.trans (congrArg some (by kernel_rfl))
 f266:=Tryz.func228.trans (congrArg some (by kernel_rfl))
 f267:=Tryz.func216.trans (congrArg some (by kernel_rfl))
 f314:=Tryz.func229.trans (congrArg some (by kernel_rfl))
 t3:=Tryz.underlying3
 a3:=Tryz.isAgg3
 z3:=Tryz.sizeOf3
 v3:=Tryz.zeroValue3
 t4:=Tryz.underlying4
 a4:=Tryz.isAgg4
 z4:=Tryz.sizeOf4
 v4:=Tryz.zeroValue4
 t5:=Tryz.underlying5
 a5:=Tryz.isAgg5
 z5:=Tryz.sizeOf5
 v5:=Tryz.zeroValue5
 t9:=Tryz.underlying9
 a9:=Tryz.isAgg9
 z9:=Tryz.sizeOf9
 v9:=Tryz.zeroValue9
 t46:=Tryz.underlying157
 a46:=Tryz.isAgg157
 z46:=Tryz.sizeOf157
 v46:=Tryz.zeroValue157
 t51:=Tryz.underlying181
 a51:=Tryz.isAgg181
 z51:=Tryz.sizeOf181
 v51:=Tryz.zeroValue181
 t146:=Tryz.underlying236
 a146:=Tryz.isAgg236
 z146:=Tryz.sizeOf236
 v146:=Tryz.zeroValue236
 g1:=by kernel_rfl}
open Go.RowKit Go.Lib in
theorem Tryz.strings_Contains_one(s:ByteArray)(c:UInt8)(w:World):
 Calls Tryz.prog 160 #[.string s, .string ⟨#[c]⟩] w λe w'=>e= .returned (.bool (decide (0<=Lib.indexByte s.data.toList c)))/\w'=w:=Any.strings_Contains_one Tryz.Hk s c w
def Tryz.wY:Go.Shelf.Ren:=⟨λ |189=>185|125=>145|257=>207|128=>172|129=>173|294=>219|295=>220|296=>221|297=>222|298=>223|299=>224|216=>225|300=>226|301=>227|328=>230|329=>188|330=>189|331=>231|332=>232|215=>146|343=>233|n=>n,λ |28=>31|3=>3|46=>157|0=>0|51=>181|53=>183|4=>4|183=>196|182=>195|131=>40|5=>5|9=>9|218=>207|222=>211|228=>225|229=>129|n=>n,λ |n=>n⟩
theorem Tryz.Av:Go.Proofs.Lays.n189 Tryz.prog Tryz.wY:={
 mixed:=by kernel_rfl
 f125:=Tryz.func145.trans (congrArg some (by kernel_rfl))
 f128:=Tryz.func172.trans (congrArg some (by kernel_rfl))
 f129:=Tryz.func173.trans (congrArg some (by kernel_rfl))
 f189:=Tryz.func185.trans (congrArg some (by kernel_rfl))
 f215:=Tryz.func146.trans (congrArg some (by kernel_rfl))
 f216:=Tryz.func225.trans (congrArg some (by kernel_rfl))
 f257:=Tryz.func207.trans (congrArg some (by kernel_rfl))
 f294:=Tryz.func219.trans (congrArg some (by kernel_rfl))
 f295:=Tryz.func220.trans (congrArg some (by kernel_rfl))
 f296:=Tryz.func221.trans (congrArg some (by kernel_rfl))
 f297:=Tryz.func222.trans (congrArg some (by kernel_rfl))
 f298:=Tryz.func223.trans (congrArg some (by kernel_rfl))
 f299:=Tryz.func224.trans (congrArg some (by kernel_rfl))
 f300:=Tryz.func226.trans (congrArg some (by kernel_rfl))
 f301:=Tryz.func227.trans (congrArg some (by kernel_rfl))
 f328:=Tryz.func230.trans (congrArg some (by kernel_rfl))
 f329:=Tryz.func188.trans (congrArg some (by kernel_rfl))
 f330:=Tryz.func189.trans (congrArg some (by kernel_rfl))
 f331:=Tryz.func231.trans (congrArg some (by kernel_rfl))
 f332:=Tryz.func232.trans (congrArg some (by kernel_rfl))
 f343:=Tryz.func233.trans (congrArg some (by kernel_rfl))
 t0:=Tryz.underlying0
 a0:=Tryz.isAgg0
 z0:=Tryz.sizeOf0
 v0:=Tryz.zeroValue0
 t3:=Tryz.underlying3
 a3:=Tryz.isAgg3
 z3:=Tryz.sizeOf3
 v3:=Tryz.zeroValue3
 t4:=Tryz.underlying4
 a4:=Tryz.isAgg4
 z4:=Tryz.sizeOf4
 v4:=Tryz.zeroValue4
 t5:=Tryz.underlying5
 a5:=Tryz.isAgg5
 z5:=Tryz.sizeOf5
 v5:=Tryz.zeroValue5
 t9:=Tryz.underlying9
 a9:=Tryz.isAgg9
 z9:=Tryz.sizeOf9
 v9:=Tryz.zeroValue9
 t28:=Tryz.underlying31
 a28:=Tryz.isAgg31
 z28:=Tryz.sizeOf31
 v28:=Tryz.zeroValue31
 t46:=Tryz.underlying157
 a46:=Tryz.isAgg157
 z46:=Tryz.sizeOf157
 v46:=Tryz.zeroValue157
 t51:=Tryz.underlying181
 a51:=Tryz.isAgg181
 z51:=Tryz.sizeOf181
 v51:=Tryz.zeroValue181
 t53:=Tryz.underlying183
 a53:=Tryz.isAgg183
 z53:=Tryz.sizeOf183
 v53:=Tryz.zeroValue183
 t131:=Tryz.underlying40
 a131:=Tryz.isAgg40
 z131:=Tryz.sizeOf40
 v131:=Tryz.zeroValue40
 t182:=Tryz.underlying195
 a182:=Tryz.isAgg195
 z182:=Tryz.sizeOf195
 v182:=Tryz.zeroValue195
 t183:=Tryz.underlying196
 a183:=Tryz.isAgg196
 z183:=Tryz.sizeOf196
 v183:=Tryz.zeroValue196
 t218:=Tryz.underlying207
 a218:=Tryz.isAgg207
 z218:=Tryz.sizeOf207
 v218:=Tryz.zeroValue207
 t222:=Tryz.underlying211
 a222:=Tryz.isAgg211
 z222:=Tryz.sizeOf211
 v222:=Tryz.zeroValue211
 t228:=Tryz.underlying225
 a228:=Tryz.isAgg225
 z228:=Tryz.sizeOf225
 v228:=Tryz.zeroValue225
 t229:=Tryz.underlying129
 a229:=Tryz.isAgg129
 z229:=Tryz.sizeOf129
 v229:=Tryz.zeroValue129}
open Go.Sort Go.RowKit in
theorem Tryz.slices_Sort_int(jx off cap:Nat)(zs:List Int)(w:World)(hH:Holds (XD .i64) w jx off zs.toArray)(hblk:jx<w.heap.size)(ir:zs.length<4611686018427387904):
 Calls Tryz.prog 185 #[.slice (some ⟨jx,off,Yw⟩) zs.length cap] w λe w'=>
  e= .returned (.tuple #[])/\∃n os,w'=grow (putRow (XD .i64) (Sort.ahead w n) jx off (zs.mergeSort λx y=>decide (x<=y)).toArray) os:=Any.slices_Sort_int Tryz.Av jx off cap zs w hH hblk ir
def Tryz.r3:Go.Shelf.Ren:=⟨λ |20=>186|n=>n,λ |22=>31|3=>3|4=>4|0=>0|n=>n,λ |n=>n⟩
theorem Tryz.tg:Go.Proofs.Lays2.n20 Tryz.prog Tryz.r3:={
 mixed:=by kernel_rfl
 f20:=Tryz.func186.trans (congrArg some (by kernel_rfl))
 t0:=Tryz.underlying0
 a0:=Tryz.isAgg0
 z0:=Tryz.sizeOf0
 v0:=Tryz.zeroValue0
 t3:=Tryz.underlying3
 a3:=Tryz.isAgg3
 z3:=Tryz.sizeOf3
 v3:=Tryz.zeroValue3
 t4:=Tryz.underlying4
 a4:=Tryz.isAgg4
 z4:=Tryz.sizeOf4
 v4:=Tryz.zeroValue4
 t22:=Tryz.underlying31
 a22:=Tryz.isAgg31
 z22:=Tryz.sizeOf31
 v22:=Tryz.zeroValue31
 i3:=by kernel_rfl}
open Go.RowKit Go.Lib Go.Sort in
theorem Tryz.slices_Compact_int(jx off cap:Nat)(zs:List Int)(w:World)(hH:Holds (XD .i64) w jx off zs.toArray)(ir:zs.length<=9223372036854775807)(vn:zs.length<=cap):
 Calls Tryz.prog 186 #[.slice (some ⟨jx,off,Yw⟩) zs.length cap] w λe w'=>e= .returned (.slice (some ⟨jx,off,Yw⟩) (Lib.compact zs).length cap)/\∃q,w'=putRow (XD .i64) (Sort.ahead w q) jx off (Lib.compact zs++Xb (zs.length-(Lib.compact zs).length) 0).toArray:=Any.slices_Compact_int Tryz.tg jx off cap zs w hH ir vn
open Go.RowKit Go.Lib Go.Sort in
theorem Tryz.slices_Compact_int_empty(a:Option Addr)(cap:Nat)(w:World):
 Calls Tryz.prog 186 #[.slice a 0 cap] w λe w'=>e= .returned (.slice a 0 cap)/\w'=w:=Any.slices_Compact_int_empty Tryz.tg a cap w
open Go.RowKit Go.Sort in
theorem Tryz.slices_Sort_int_none(p:Option Addr)(cap:Nat)(w:World):
 Calls Tryz.prog 185 #[.slice p 0 cap] w λe w'=>e= .returned (.tuple #[])/\w'=w:=Any.slices_Sort_int_none Tryz.Av p cap w
end Go.Proofs
end
namespace Go.Proofs.YtbladfbbhijpmaaGreat
open Go Go.RowKit
set_option maxRecDepth 100000
set_option linter.unusedSimpArgs false
set_option linter.unusedVariables false
set_option linter.defProp false
section
@[reducible] def iQ:Row:= .pair ae ae
def gH(x:Int×Int):List Value:=[.int .i64 x.1, .int .i64 x.2]
def kR(g:Int->Int->Int->Int->Option Int)(x y:Int×Int):Int:=(g x.1 x.2 y.1 y.2).getD 0
structure EP(g:Int->Int->Int->Int->Option Int):Prop where
 all:∀a b c d,∃z,g a b c d=some z
 swo:Go.Sort.SWO (Xv (kR g))
 tot:∀x y,Xv (kR g) x y=Yy->Xv (kR g) y x=Yy->x=y
open Classical in
noncomputable def th(g:Int->Int->Int->Int->Option Int)(l:List iQ.den):Option (List iQ.den):=
 if EP g/\l.length<4611686018427387904 then some (l.mergeSort λx y=> !(Xv (kR g)) y x)else Yw
section
variable {P:Program} {w w':World} {F:Nat->Prop} {T:TypeId}
theorem Cj(h:Ext (λ_=>False) w w'):∃q BE,w'=XM (w.drewN q) BE:=by
 refine⟨w'.drawn-w.drawn,w'.heap.extract w.heap.size w'.heap.size,?_⟩
 have hd:w.drawn+(w'.drawn-w.drawn)=w'.drawn:=by have:=h.tape.2;omega
 have hh:w'.heap=w.heap++w'.heap.extract w.heap.size w'.heap.size:=by
  apply Array.ext (by simp;have:=h.size;omega);intro i h1 h2;rw[Array.getElem_append];split
  .rename_i hi;have:=h.block i hi (λh=>h);rw[WY h1,WY hi]at this;exact WD this
  .simp only[Array.getElem_extract]
   congr 1
   omega
 cases w';cases w
 have h1:=h.os;have h2:=h.tape.1;have h3:=h.output
 simp only at h1 h2 h3 hd hh;subst h1 h2 h3;simp only[XM,World.drewN];rw[hd,<-hh]
theorem Ck{gi:FuncId}{g:Int->Int->Int->Int->Option Int}(h:fK P gi ⟨⟨[(0, .val Yx (.leaf iQ)),(1, .val Yx (.leaf iQ))],[],[],0⟩,⟨[(0, .val Yy (.leaf ae))],[],[],0⟩,λ(x:iQ.den×iQ.den)=>g x.1.1 x.1.2 x.2.1 x.2.2⟩)
 {x y:Int×Int}{c:Int}(hc:g x.1 x.2 y.1 y.2=some c){W:World}(Jw:mK (λb=>b<W.heap.size) W):
 Calls P gi #[.agg (gH x).toArray, .agg (gH y).toArray] W λe W'=>e= .returned (.int .i64 c)/\∃q BE,W'=XM (W.drewN q) BE:=by
 have hv:∀x:Int×Int,au ⟨λ_=>Yw,λ_=>Yw,λ_ _=>False⟩ (λb=>b<W.heap.size) W Yx (.leaf iQ x) (.agg (gH x).toArray):=λx=>
  pq (r:=iQ) ⟨[.int .i64 x.1],[.int .i64 x.2],rfl,rfl,rfl⟩
 have ha:yV (λb=>b<W.heap.size) W 0 [(0, .val Yx (.leaf iQ)),(1, .val Yx (.leaf iQ))] [⟨iQ,x⟩,⟨iQ,y⟩] [.agg (gH x).toArray, .agg (gH y).toArray]:= .cons (hv x) (.cons (hv y) .nil);obtain⟨h1,h2,h3⟩:=ha.ah
 refine(h.ok (x,y) c hc _ W ⟨λ_=>Yw,λ_=>Yw,λ_ _=>False⟩ (λb=>b<W.heap.size) (λ_=>False) h3 (λt d hd=>by simpa using(h1 t d hd).2) ?_ (λ_ _=>⟨rfl,rfl⟩) (λ_ h=>h.elim)).mono λe W' ⟨us,he,Eo,H',F',a1,_,_,_,a5,_⟩=>?_
 .exact⟨λ_ _ _ h=>(by cases h),λ_ _ _ _ _ _ _ _ _ h=>(by cases h),λ_ _ _=>⟨rfl,rfl⟩,λ_ h=>h,λ_ h=> .inl h,Jw⟩
 .refine⟨?_,Cj a1⟩
  match us,Eo with
  |[u],_=>
   have:=a5 0 _ rfl;have hu:u= .int .i64 c:=au.int (x:=c) this;rw[he,hu];rfl
theorem EQ(x:Int×Int):(gH x).length=2:=rfl
theorem wZ(d:Array (Int×Int))(i j:Nat)(hi:i<d.size)(hj:j<2):(Yt gH 2 d)[i*2+j]! =(gH d[i])[j]! :=by
 rw[Go.Sort.get_flatK _ _ _ _ (by omega),show(i*2+j)/2=i by omega,show(i*2+j)%2=j by omega,getElem!_pos d i hi]
theorem Cm{l:List (Int×Int)}{xs:List Value}(h:∀i(hi:i<l.length),bD F w iQ ((xs.drop (i*2)).take 2) l[i]):∀i(hi:i<l.length),∀j,j<2->xs[i*2+j]? =some (gH l[i])[j]! :=by
 intro i hi j hj;obtain⟨c1,c2,h1,h2,h3⟩:=h i hi;have h2:c1=[XD .i64 l[i].1]:=h2;have h3:c2=[XD .i64 l[i].2]:=h3;subst h2 h3
 have:((xs.drop (i*2)).take 2)[j]? =xs[i*2+j]? :=by rw[W5,YB hj,WV]
 rw[<-this,h1]
 match j,hj with
 |0,_=>rfl
 |1,_=>rfl
theorem Cn{v:Value}{l:List iQ.den}(h:e7 0 F w T iQ v l):(v= .slice Yw 0 0/\l=[])\/∃g o0 cap cur,v= .slice (some ⟨g,o0,Yw⟩) l.length cap/\w.heap[g]? =some (.cells cur T (0,0))/\l.length<=cap/\cap<=maxLen/\o0+cap*2<=cur.size/\Go.Sort.HoldsK gH 2 w g o0 (Ym l):=by
 obtain⟨_,xs,⟨hx,h2⟩,h3⟩:=h;have e:=Cm h3
 rcases h2 with⟨rfl,h0⟩|⟨g,o0,cap,cur,rfl,_,hg,h4,h5,h6,h7⟩
 .exact .inl ⟨rfl,List.eq_nil_of_length_eq_zero h0⟩
 .refine .inr ⟨g,o0,cap,cur,rfl,hg,h4,h5,h6,λj hj=>⟨?_,frozen_of_row w g _ cur T hg⟩⟩
  have hj:j<l.length*2:=by simpa using hj
  rw[cell_of_row w g _ cur T (0,0) hg]
  have hi:j/2<l.length:=by omega
  have hm:j%2<2:=by omega
  have:=e (j/2) hi (j%2) hm;rw[show j/2*2+j%2=j by omega]at this;have h8:=wZ l.toArray (j/2) (j%2) (by simpa using hi) hm;rw[show j/2*2+j%2=j by omega]at h8;rw[<-h7,W5,YB (by simpa[Row.size]using hj),WV,Array.getElem?_toList]at this;rw[this,id,h8];simp
theorem w3{g off:Nat}{d:Array (Int×Int)}{n:Nat}{os:Array Obj}(h:w'=XS gH 2 w g off n d os):Ext (λk=>k=g) w w':=by
 subst h;refine⟨rfl,⟨rfl,Nat.le_add_right _ _⟩,rfl,?_,λk hk hn=>?_⟩
 .simp[XS,XM,Yv,XB,XU,XH]
 .simp only[XS,XM];rw[Yf (by simpa[Yv,XB,XU,XH]using hk)];simp only[Yv,XB,XU,XH,Array.getElem?_modify];rw[YA (λe=>hn e.symm)]
theorem ER{g off:Nat}{d:Array (Int×Int)}{n:Nat}{os:Array Obj}(h:w'=XS gH 2 w g off n d os){cur:Array Value}(hg:w.heap[g]? =some (.cells cur T (0,0))):
 w'.heap[g]? =some (.cells (XA id off (Yt gH 2 d) cur) T (0,0)):=by
 subst h;have av:g<w.heap.size:=(Xj.1 hg).1;simp only[XS,XM];rw[Yf (by simpa[Yv,XB,XU,XH]using av)];simp only[Yv,XB,XU,XH,Array.getElem?_modify];rw[YB trivial,hg];rfl
theorem yZ{g o0 cap:Nat}{l m:List iQ.den}{cur:Array Value}{n:Nat}{os:Array Obj}(h:e7 0 F w T iQ (.slice (some ⟨g,o0,Yw⟩) l.length cap) l)(hg:w.heap[g]? =some (.cells cur T (0,0)))(hs:o0+cap*2<=cur.size)(hc:cap<=maxLen)
 (hl:l.length<=cap)(hm:m.length=l.length)(hw:w'=XS gH 2 w g o0 n (Ym m) os):e7 0 F w' T iQ (.slice (some ⟨g,o0,Yw⟩) l.length cap) m:=by
 have Jx:=ER hw hg;refine⟨λk hk=>h.no k (by simpa[aN,Xh]using hk),((XA id o0 (Yt gH 2 (Ym m)) cur).toList.drop o0).take (m.length*2),⟨by simp[Row.size,XA];omega, .inr ⟨g,o0,cap,_,by rw[hm],Nat.zero_le _,Jx,by omega,hc,by simp[XA,Row.size];omega,rfl⟩⟩,λi hi=>?_⟩
 have nr:∀j,j<2->(XA id o0 (Yt gH 2 (Ym m)) cur)[o0+(i*2+j)]? =some (gH m[i])[j]! :=λj hj=>by
  have av:o0+(i*2+j)<cur.size:=by omega
  simp only[XA];rw[WY (by simpa using av),Array.getElem_mapIdx,YB ⟨by omega,by simp;omega⟩,show o0+(i*2+j)-o0=i*2+j by omega,wZ _ i j (by simpa using hi) hj];simp
 have e:((((XA id o0 (Yt gH 2 (Ym m)) cur).toList.drop o0).take (m.length*2)).drop (i*2)).take 2=[.int .i64 m[i].1, .int .i64 m[i].2]:=by
  apply List.ext_getElem?
  intro j;rw[W5];split
  .rename_i hj;rw[WV,W5,YB (by omega),WV,Array.getElem?_toList,nr j hj]
   match j,hj with
   |0,_=>rfl
   |1,_=>rfl
  .rename_i hj;rw[List.getElem?_eq_none (by simp;omega)]
 show bD F w' iQ (((((XA id o0 (Yt gH 2 (Ym m)) cur).toList.drop o0).take (m.length*2)).drop (i*2)).take 2) m[i]
 rw[e];exact⟨[.int .i64 m[i].1],[.int .i64 m[i].2],rfl,rfl,rfl⟩
theorem ES{f gi:FuncId}{g:Int->Int->Int->Int->Option Int}(hb:∃fn,P.funcs[f]? =some fn/\(fn.name== "runtime.NumGoroutine")=Yy/\fn.body.isNone=Yy)
 (Pk:fK P gi ⟨⟨[(0, .val Yx (.leaf iQ)),(1, .val Yx (.leaf iQ))],[],[],0⟩,⟨[(0, .val Yy (.leaf ae))],[],[],0⟩,λ(x:iQ.den×iQ.den)=>g x.1.1 x.1.2 x.2.1 x.2.2⟩)
 (h1:∀(cf:Int×Int->Int×Int->Int),Go.Sort.SWO (Xv cf)->∀(jx off cap:Nat)(d:Array (Int×Int))(w:World),Go.Proofs.CmpLays P gi #[] gH 2 cf jx off d.size w->Go.Sort.HoldsK gH 2 w jx off d->jx<w.heap.size->d.size<4611686018427387904->
   (∀x y,Xv cf x y=Yy->Xv cf y x=Yy->x=y)->Calls P f #[.slice (some ⟨jx,off,Yw⟩) d.size cap, .func (.func gi) #[] #[]] w λe w'=>e= .returned (.tuple #[])/\∃n os,w'=XS gH 2 w jx off n (d.toList.mergeSort λx y=> !(Xv cf) y x).toArray os)
 (h2:∀(w:World),Calls P f #[.slice Yw 0 0, .func (.func gi) #[] #[]] w λe w'=>e= .returned (.tuple #[])/\w'=w):
 fK P f ⟨⟨[(0, .val Yy (.own 0)),(1, .fn gi [])],[(0, .own T iQ)],[],1⟩,⟨[],[(0, .own T iQ)],[],2⟩,λx=>th g x⟩:=by
 refine⟨hb,λx y mJ args w H F G hlen eA bH df hG=>?_⟩;have df:eF H 1:=df
 match args,hlen with
 |[v,u],_=>
 have hx:(ec 0 [(0,OS.own T iQ)] (bX [(0,SS.val Yy (.own 0)),(1, .fn gi [])] (cm [.slice iQ] x)).2)=[(0,(0, .own T iQ x))]:=rfl;have hy:(ec 1 [(0,OS.own T iQ)] (bX [] (cm [.slice iQ] y)).2)=[(0,(1, .own T iQ y))]:=rfl
 have bH:ak (λk=>w.heap.size<=k\/G k) H F w (find [(0,(0,Th.own T iQ x))]) 1:=by rw[<-hx];exact bH
 have hd:af H F w (.val Yy (.own 0)) v:=eA 0 _ rfl;obtain⟨cs,⟨v',hv,qm,rfl⟩,_,mH⟩:=hd
 obtain rfl:v'=v:=by have:=mH rfl;simpa using this
 have hu:af H F w (.fn gi []) u:=eA 1 _ rfl;obtain⟨vs,hu,TT⟩:=hu;obtain rfl:vs=[]:=TT;obtain rfl:u= .func (.func gi) #[] #[]:=hu;have cS:=bH.own rfl hv;obtain⟨v2,jm,bF⟩:=bH.obj 0 0 _ rfl;rw[hv]at jm;obtain rfl:=WD jm;have mJ:th g x=some y:=mJ;unfold th at mJ;split at mJ
 case isFalse=>cases mJ
 rename_i iP;obtain rfl:=WD mJ
 have hc:Calls P f #[v', .func (.func gi) #[] #[]] w λe w'=>e= .returned (.tuple #[])/\Ext (aN v') w w'/\e7 0 F w' T iQ v' (x.mergeSort λx y=> !(Xv (kR g)) y x):=by
  rcases Cn cS with⟨rfl,rfl⟩|⟨gb,o0,cap,cur,rfl,hg,vn,DQ,ir,hh⟩
  .refine(h2 w).mono λe w' ⟨he,hw⟩=>⟨he,hw▸⟨rfl,⟨rfl,WH _⟩,rfl,WH _,λ_ _ _=>rfl⟩,hw▸?_⟩
   simpa using cS
  .have LR:Go.Proofs.CmpLays P gi #[] gH 2 (kR g) gb o0 (Ym x).size w:=λm os dk Wd a b=>by
    have aU:=w3 (w':=XS gH 2 w gb o0 m dk os) rfl;obtain⟨c,hc⟩:=iP.1.all a.1 a.2 b.1 b.2
    have TU:kR g a b=c:=by unfold kR;rw[hc];rfl
    rw[TU];refine Ck Pk hc (bH.gl.step λb hb=>⟨Xg (bH.lt b hb) aU.size,aU.block b (bH.lt b hb) λe=>cS.no b (by simp[aN,Xh,e]) hb⟩)
   refine(h1 (kR g) iP.1.swo gb o0 cap (Ym x) w LR hh (Xj.1 hg).1 iP.2 iP.1.tot).mono λe w' ⟨he,n,os,hw⟩=>⟨he,?_,?_⟩
   .have:=w3 hw;exact⟨this.os,this.tape,this.output,this.size,λk hk hn=>this.block k hk λe=>hn (by simp[aN,Xh,e])⟩
   .exact yZ cS hg ir DQ vn (List.mergeSort_perm (α:=Int×Int) _ _).length_eq hw
 refine hc.mono λe w' ⟨he,aU,dY⟩=>⟨[],he,rfl,H.aK 1 (.own T iQ (List.mergeSort (α:=Int×Int) x λx y=> !(Xv (kR g)) y x)),F,⟨aU.os,aU.tape,aU.output,aU.size,λk hk hn=>aU.block k hk λhm=>?_⟩,ai.dD (df 1 (WH _)).2,λb h=>h,λb h=> .inl h,λt d h=>?_,?_,?_⟩
 .rcases bF.use k hm with h|h
  .omega
  .exact hn h
 .cases h
 .show ak _ _ F w' (find (ec 1 [(0,OS.own T iQ)] (bX [] (cm [.slice iQ] _)).2)) 2
  rw[hy];refine⟨λo s t ho=>?_,λo o' s s' t t' u u' bY ho fZ=>?_,λm h1 h2=>⟨(df m (by have:2<=m:=h1;omega)).1,?_⟩,λb hb=>Xg (bH.lt b hb) aU.size,λb hb=> .inl (Xa aU.size hb),bH.gl.step (Step.ext aU bH.lt cS.no)⟩
  .obtain⟨rfl,h⟩:o=0/\(1,Th.own T iQ (List.mergeSort (α:=Int×Int) x λx y=> !(Xv (kR g)) y x))=(s,t):=by
    by_cases h0:o=0
    .subst h0;exact⟨rfl,WD ho⟩
    .exfalso;have:find [(0,(1,Th.own T iQ (x.mergeSort λx y=> !(Xv (kR g)) y x)))] o=Yw:=iG h0;rw[this]at ho;cases ho
   cases h;refine⟨v',hv,qm,by simp[ai.aK,Th.base],e7.to _ dY,dY.no,dY.lt,λk hk=>?_⟩;exact bF.use k hk
  .have key:∀o z,find [(0,(1,Th.own T iQ (x.mergeSort λx y=> !(Xv (kR g)) y x)))] o=some z->o=0:=λo z h=>by
    by_cases h0:o=0
    .exact h0
    .have:find [(0,(1,Th.own T iQ (x.mergeSort λx y=> !(Xv (kR g)) y x)))] o=Yw:=iG h0;rw[this]at h;cases h
   exact absurd ((key o _ ho).trans (key o' _ fZ).symm) bY
  .have h1:2<=m:=h1
   show(if m=1 then _ else H.con m)=Yw
   rw[YA (by omega)];exact(df m (by omega)).2
 .intro m hm;have hm:2<=m:=hm;refine⟨(df m (by omega)).1,?_⟩
  show(if m=1 then _ else H.con m)=Yw
  rw[YA (by omega)];exact(df m (by omega)).2
end
end
end Go.Proofs.YtbladfbbhijpmaaGreat
section
namespace Go.Proofs
open Go.Shelf
def Tryz.w4:Go.Shelf.Ren:=⟨λ |6=>105|15=>145|14=>144|28=>172|29=>173|20=>164|21=>165|22=>166|23=>167|24=>168|25=>169|26=>170|27=>171|46=>187|47=>188|48=>189|49=>190|50=>191|57=>208|n=>n,λ |22=>101|24=>58|25=>158|3=>3|39=>157|0=>0|53=>181|55=>183|4=>4|46=>196|45=>195|50=>40|5=>5|9=>9|66=>207|70=>211|76=>225|77=>129|n=>n,λ |n=>n⟩
theorem Tryz.Aw:Go.Proofs.SlLaysF0.n6 Tryz.prog Tryz.w4:={
 mixed:=by kernel_rfl
 f6:=⟨Tryz.f105.name,by decide,Tryz.func105.trans (congrArg some (by kernel_rfl))⟩
 f14:=⟨Tryz.f144.name,by decide,Tryz.func144.trans (congrArg some (by kernel_rfl))⟩
 f15:=Tryz.func145.trans (congrArg some (by kernel_rfl))
 f20:=⟨Tryz.f164.name,by decide,Tryz.func164.trans (congrArg some (by kernel_rfl))⟩
 f21:=⟨Tryz.f165.name,by decide,Tryz.func165.trans (congrArg some (by kernel_rfl))⟩
 f22:=⟨Tryz.f166.name,by decide,Tryz.func166.trans (congrArg some (by kernel_rfl))⟩
 f23:=⟨Tryz.f167.name,by decide,Tryz.func167.trans (congrArg some (by kernel_rfl))⟩
 f24:=⟨Tryz.f168.name,by decide,Tryz.func168.trans (congrArg some (by kernel_rfl))⟩
 f25:=⟨Tryz.f169.name,by decide,Tryz.func169.trans (congrArg some (by kernel_rfl))⟩
 f26:=⟨Tryz.f170.name,by decide,Tryz.func170.trans (congrArg some (by kernel_rfl))⟩
 f27:=⟨Tryz.f171.name,by decide,Tryz.func171.trans (congrArg some (by kernel_rfl))⟩
 f28:=Tryz.func172.trans (congrArg some (by kernel_rfl))
 f29:=Tryz.func173.trans (congrArg some (by kernel_rfl))
 f46:=⟨Tryz.f187.name,by decide,Tryz.func187.trans (congrArg some (by kernel_rfl))⟩
 f47:=Tryz.func188.trans (congrArg some (by kernel_rfl))
 f48:=Tryz.func189.trans (congrArg some (by kernel_rfl))
 f49:=⟨Tryz.f190.name,by decide,Tryz.func190.trans (congrArg some (by kernel_rfl))⟩
 f50:=⟨Tryz.f191.name,by decide,Tryz.func191.trans (congrArg some (by kernel_rfl))⟩
 f57:=⟨Tryz.f208.name,by decide,Tryz.func208.trans (congrArg some (by kernel_rfl))⟩
 t0:=Tryz.underlying0
 a0:=Tryz.isAgg0
 z0:=Tryz.sizeOf0
 v0:=Tryz.zeroValue0
 t3:=Tryz.underlying3
 a3:=Tryz.isAgg3
 z3:=Tryz.sizeOf3
 v3:=Tryz.zeroValue3
 t4:=Tryz.underlying4
 a4:=Tryz.isAgg4
 z4:=Tryz.sizeOf4
 v4:=Tryz.zeroValue4
 t5:=Tryz.underlying5
 a5:=Tryz.isAgg5
 z5:=Tryz.sizeOf5
 v5:=Tryz.zeroValue5
 t9:=Tryz.underlying9
 a9:=Tryz.isAgg9
 z9:=Tryz.sizeOf9
 v9:=Tryz.zeroValue9
 t22:=Tryz.underlying101
 a22:=Tryz.isAgg101
 z22:=Tryz.sizeOf101
 v22:=Tryz.zeroValue101
 t25:=Tryz.underlying158
 a25:=Tryz.isAgg158
 z25:=Tryz.sizeOf158
 v25:=Tryz.zeroValue158
 t39:=Tryz.underlying157
 a39:=Tryz.isAgg157
 z39:=Tryz.sizeOf157
 v39:=Tryz.zeroValue157
 t45:=Tryz.underlying195
 a45:=Tryz.isAgg195
 z45:=Tryz.sizeOf195
 v45:=Tryz.zeroValue195
 t46:=Tryz.underlying196
 a46:=Tryz.isAgg196
 z46:=Tryz.sizeOf196
 v46:=Tryz.zeroValue196
 t50:=Tryz.underlying40
 a50:=Tryz.isAgg40
 z50:=Tryz.sizeOf40
 v50:=Tryz.zeroValue40
 t53:=Tryz.underlying181
 a53:=Tryz.isAgg181
 z53:=Tryz.sizeOf181
 v53:=Tryz.zeroValue181
 t55:=Tryz.underlying183
 a55:=Tryz.isAgg183
 z55:=Tryz.sizeOf183
 v55:=Tryz.zeroValue183
 t66:=Tryz.underlying207
 a66:=Tryz.isAgg207
 z66:=Tryz.sizeOf207
 v66:=Tryz.zeroValue207
 t70:=Tryz.underlying211
 a70:=Tryz.isAgg211
 z70:=Tryz.sizeOf211
 v70:=Tryz.zeroValue211
 t76:=Tryz.underlying225
 a76:=Tryz.isAgg225
 z76:=Tryz.sizeOf225
 v76:=Tryz.zeroValue225
 t77:=Tryz.underlying129
 a77:=Tryz.isAgg129
 z77:=Tryz.sizeOf129
 v77:=Tryz.zeroValue129}
end Go.Proofs
end
