/- Joined texts: Lays SF SP. -/
import Derived.Shelf.Small.Wraps
import Derived.Shelf.Strings.Search3
import Derived.Shelf.Sort.Plain
import Derived.Shelf.Slices.Turned
import Derived.Ground.Names2Prog
import Derived.Shelf.Slices.CompactI
import Derived.Shelf.Slices.In.SortNone
import Derived.Test.YtbladfbbhijpmaaGreatProg
import Derived.Test.YtbladfbbhijpmaaGreatU6
import Derived.Shelf.SlSortCmp.NoneTotal
import Derived.Ground.SlsfProg
section
open _root_.List renaming replicate->Y4
open _root_.Go.Value renaming int->Zv
namespace Go.Proofs
open Go.Shelf
def Tryz.wV:Go.Shelf.Ren:=⟨fun|144=>160|143=>179|219=>198|217=>213|225=>214|224=>215|267=>216|266=>228|314=>229|n=>n,fun|9=>9|4=>4|3=>3|5=>5|46=>157|146=>236|51=>181|n=>n,fun|1=>0|n=>n⟩
theorem Tryz.Hh:Go.Proofs.Lays.n144 Tryz.prog Tryz.wV:={
 mixed:=by kernel_rfl
 f143:=Tryz.func179.trans (congrArg some (by kernel_rfl))
 f144:=Tryz.func160.trans (congrArg some (by kernel_rfl))
 f217:=Tryz.func213.trans (congrArg some (by kernel_rfl))
 f219:=Tryz.func198.trans (congrArg some (by kernel_rfl))
 f224:=Tryz.func215.trans (congrArg some (by kernel_rfl))
 f225:=Tryz.func214.trans (congrArg some (by kernel_rfl))
 f266:=Tryz.func228.trans (congrArg some (by kernel_rfl))
 f267:=Tryz.func216.trans (congrArg some (by kernel_rfl))
 f314:=Tryz.func229.trans (congrArg some (by kernel_rfl))
 t3:=Tryz.underlying3
 a3:=Tryz.isAgg3
 z3:=Tryz.sizeOf3
 v3:=Tryz.zeroValue3
 t4:=Tryz.underlying4
 a4:=Tryz.isAgg4
 z4:=Tryz.sizeOf4
 v4:=Tryz.zeroValue4
 t5:=Tryz.underlying5
 a5:=Tryz.isAgg5
 z5:=Tryz.sizeOf5
 v5:=Tryz.zeroValue5
 t9:=Tryz.underlying9
 a9:=Tryz.isAgg9
 z9:=Tryz.sizeOf9
 v9:=Tryz.zeroValue9
 t46:=Tryz.underlying157
 a46:=Tryz.isAgg157
 z46:=Tryz.sizeOf157
 v46:=Tryz.zeroValue157
 t51:=Tryz.underlying181
 a51:=Tryz.isAgg181
 z51:=Tryz.sizeOf181
 v51:=Tryz.zeroValue181
 t146:=Tryz.underlying236
 a146:=Tryz.isAgg236
 z146:=Tryz.sizeOf236
 v146:=Tryz.zeroValue236
 g1:=by kernel_rfl}
open Go.RowKit Go.Lib in
theorem Tryz.strings_Contains_one(s:ByteArray)(c:UInt8)(w:World):
 Calls Tryz.prog 160 #[.string s, .string ⟨#[c]⟩] w fun e w'=>e= .returned (.bool (decide (0<=Lib.indexByte s.data.toList c)))/\w'=w:=Any.strings_Contains_one Tryz.Hh s c w
def Tryz.wW:Go.Shelf.Ren:=⟨fun|189=>185|125=>145|257=>207|128=>172|129=>173|294=>219|295=>220|296=>221|297=>222|298=>223|299=>224|216=>225|300=>226|301=>227|328=>230|329=>188|330=>189|331=>231|332=>232|215=>146|343=>233|n=>n,fun|28=>31|3=>3|46=>157|0=>0|51=>181|53=>183|4=>4|183=>196|182=>195|131=>40|5=>5|9=>9|218=>207|222=>211|228=>225|229=>129|n=>n,fun|n=>n⟩
theorem Tryz.Aq:Go.Proofs.Lays.n189 Tryz.prog Tryz.wW:={
 mixed:=by kernel_rfl
 f125:=Tryz.func145.trans (congrArg some (by kernel_rfl))
 f128:=Tryz.func172.trans (congrArg some (by kernel_rfl))
 f129:=Tryz.func173.trans (congrArg some (by kernel_rfl))
 f189:=Tryz.func185.trans (congrArg some (by kernel_rfl))
 f215:=Tryz.func146.trans (congrArg some (by kernel_rfl))
 f216:=Tryz.func225.trans (congrArg some (by kernel_rfl))
 f257:=Tryz.func207.trans (congrArg some (by kernel_rfl))
 f294:=Tryz.func219.trans (congrArg some (by kernel_rfl))
 f295:=Tryz.func220.trans (congrArg some (by kernel_rfl))
 f296:=Tryz.func221.trans (congrArg some (by kernel_rfl))
 f297:=Tryz.func222.trans (congrArg some (by kernel_rfl))
 f298:=Tryz.func223.trans (congrArg some (by kernel_rfl))
 f299:=Tryz.func224.trans (congrArg some (by kernel_rfl))
 f300:=Tryz.func226.trans (congrArg some (by kernel_rfl))
 f301:=Tryz.func227.trans (congrArg some (by kernel_rfl))
 f328:=Tryz.func230.trans (congrArg some (by kernel_rfl))
 f329:=Tryz.func188.trans (congrArg some (by kernel_rfl))
 f330:=Tryz.func189.trans (congrArg some (by kernel_rfl))
 f331:=Tryz.func231.trans (congrArg some (by kernel_rfl))
 f332:=Tryz.func232.trans (congrArg some (by kernel_rfl))
 f343:=Tryz.func233.trans (congrArg some (by kernel_rfl))
 t0:=Tryz.underlying0
 a0:=Tryz.isAgg0
 z0:=Tryz.sizeOf0
 v0:=Tryz.zeroValue0
 t3:=Tryz.underlying3
 a3:=Tryz.isAgg3
 z3:=Tryz.sizeOf3
 v3:=Tryz.zeroValue3
 t4:=Tryz.underlying4
 a4:=Tryz.isAgg4
 z4:=Tryz.sizeOf4
 v4:=Tryz.zeroValue4
 t5:=Tryz.underlying5
 a5:=Tryz.isAgg5
 z5:=Tryz.sizeOf5
 v5:=Tryz.zeroValue5
 t9:=Tryz.underlying9
 a9:=Tryz.isAgg9
 z9:=Tryz.sizeOf9
 v9:=Tryz.zeroValue9
 t28:=Tryz.underlying31
 a28:=Tryz.isAgg31
 z28:=Tryz.sizeOf31
 v28:=Tryz.zeroValue31
 t46:=Tryz.underlying157
 a46:=Tryz.isAgg157
 z46:=Tryz.sizeOf157
 v46:=Tryz.zeroValue157
 t51:=Tryz.underlying181
 a51:=Tryz.isAgg181
 z51:=Tryz.sizeOf181
 v51:=Tryz.zeroValue181
 t53:=Tryz.underlying183
 a53:=Tryz.isAgg183
 z53:=Tryz.sizeOf183
 v53:=Tryz.zeroValue183
 t131:=Tryz.underlying40
 a131:=Tryz.isAgg40
 z131:=Tryz.sizeOf40
 v131:=Tryz.zeroValue40
 t182:=Tryz.underlying195
 a182:=Tryz.isAgg195
 z182:=Tryz.sizeOf195
 v182:=Tryz.zeroValue195
 t183:=Tryz.underlying196
 a183:=Tryz.isAgg196
 z183:=Tryz.sizeOf196
 v183:=Tryz.zeroValue196
 t218:=Tryz.underlying207
 a218:=Tryz.isAgg207
 z218:=Tryz.sizeOf207
 v218:=Tryz.zeroValue207
 t222:=Tryz.underlying211
 a222:=Tryz.isAgg211
 z222:=Tryz.sizeOf211
 v222:=Tryz.zeroValue211
 t228:=Tryz.underlying225
 a228:=Tryz.isAgg225
 z228:=Tryz.sizeOf225
 v228:=Tryz.zeroValue225
 t229:=Tryz.underlying129
 a229:=Tryz.isAgg129
 z229:=Tryz.sizeOf129
 v229:=Tryz.zeroValue129}
open Go.Sort Go.RowKit in
theorem Tryz.slices_Sort_int(jE off cap:Nat)(zs:List Int)(w:World)(hH:Holds (Zv .i64) w jE off zs.toArray)(hblk:jE<w.heap.size)(iz:zs.length<4611686018427387904):
 Calls Tryz.prog 185 #[.slice (some ⟨jE,off,none⟩) zs.length cap] w fun e w'=>
  e= .returned (.tuple #[])/\∃n os,w'=grow (putRow (Zv .i64) (Sort.ahead w n) jE off (zs.mergeSort fun x y=>decide (x<=y)).toArray) os:=Any.slices_Sort_int Tryz.Aq jE off cap zs w hH hblk iz
def Tryz.r3:Go.Shelf.Ren:=⟨fun|20=>186|n=>n,fun|22=>31|3=>3|4=>4|0=>0|n=>n,fun|n=>n⟩
theorem Tryz.th:Go.Proofs.Lays2.n20 Tryz.prog Tryz.r3:={
 mixed:=by kernel_rfl
 f20:=Tryz.func186.trans (congrArg some (by kernel_rfl))
 t0:=Tryz.underlying0
 a0:=Tryz.isAgg0
 z0:=Tryz.sizeOf0
 v0:=Tryz.zeroValue0
 t3:=Tryz.underlying3
 a3:=Tryz.isAgg3
 z3:=Tryz.sizeOf3
 v3:=Tryz.zeroValue3
 t4:=Tryz.underlying4
 a4:=Tryz.isAgg4
 z4:=Tryz.sizeOf4
 v4:=Tryz.zeroValue4
 t22:=Tryz.underlying31
 a22:=Tryz.isAgg31
 z22:=Tryz.sizeOf31
 v22:=Tryz.zeroValue31
 i3:=by kernel_rfl}
open Go.RowKit Go.Lib Go.Sort in
theorem Tryz.slices_Compact_int(jE off cap:Nat)(zs:List Int)(w:World)(hH:Holds (Zv .i64) w jE off zs.toArray)(iz:zs.length<=9223372036854775807)(vl:zs.length<=cap):
 Calls Tryz.prog 186 #[.slice (some ⟨jE,off,none⟩) zs.length cap] w fun e w'=>e= .returned (.slice (some ⟨jE,off,none⟩) (Lib.compact zs).length cap)/\∃q,w'=putRow (Zv .i64) (Sort.ahead w q) jE off (Lib.compact zs++Y4 (zs.length-(Lib.compact zs).length) 0).toArray:=Any.slices_Compact_int Tryz.th jE off cap zs w hH iz vl
open Go.RowKit Go.Lib Go.Sort in
theorem Tryz.slices_Compact_int_empty(a:Option Addr)(cap:Nat)(w:World):
 Calls Tryz.prog 186 #[.slice a 0 cap] w fun e w'=>e= .returned (.slice a 0 cap)/\w'=w:=Any.slices_Compact_int_empty Tryz.th a cap w
open Go.RowKit Go.Sort in
theorem Tryz.slices_Sort_int_none(p:Option Addr)(cap:Nat)(w:World):
 Calls Tryz.prog 185 #[.slice p 0 cap] w fun e w'=>e= .returned (.tuple #[])/\w'=w:=Any.slices_Sort_int_none Tryz.Aq p cap w
end Go.Proofs
end
section
open _root_.Array renaming getElem?_append_left->Z9,getElem?_eq_getElem->YU,getElem?_eq_some_iff->Zb
open _root_.Go.Proofs renaming ltOf->Zn,sortWorldK->ZL
open _root_.Go.Sort renaming ahead->Zz,flatK->aan,grow->ZE,mapBlock->ZN,putCells->Zs,putRow->Zt,putRowK->aap
open _root_.List renaming getElem?_drop->YR,getElem?_take->Y0,toArray->aag
open _root_.Nat renaming le_refl->YD,le_trans->Y3,lt_of_lt_of_le->Y8
open _root_.Option.some renaming inj->YA
open _root_.Go.Value renaming int->Zv,ownBlock->Y9
namespace Go.Proofs.YtbladfbbhijpmaaGreat
open Go Go.RowKit
@[reducible] def iW:Row:= .pair ae ae
def gN(x:Int×Int):List Value:=[.int .i64 x.1, .int .i64 x.2]
def kY(g:Int->Int->Int->Int->Option Int)(x y:Int×Int):Int:=(g x.1 x.2 y.1 y.2).getD 0
structure EQ(g:Int->Int->Int->Int->Option Int):Prop where
 all:∀a b c d,∃z,g a b c d=some z
 swo:Go.Sort.SWO (Zn (kY g))
 tot:∀x y,Zn (kY g) x y=false->Zn (kY g) y x=false->x=y
open Classical in
noncomputable def tj(g:Int->Int->Int->Int->Option Int)(l:List iW.den):Option (List iW.den):=
 if EQ g/\l.length<4611686018427387904 then some (l.mergeSort fun x y=> !(Zn (kY g)) y x)else none
section
variable {P:Program} {w w':World} {F:Nat->Prop} {T:TypeId}
theorem Ck(h:Ext (fun _=>False) w w'):∃q BE,w'=ZE (w.drewN q) BE:=by
 refine⟨w'.drawn-w.drawn,w'.heap.extract w.heap.size w'.heap.size,?_⟩
 have hd:w.drawn+(w'.drawn-w.drawn)=w'.drawn:=by have:=h.tape.2;omega
 have hh:w'.heap=w.heap++w'.heap.extract w.heap.size w'.heap.size:=by
  apply Array.ext (by simp;have:=h.size;omega);intro i h1 h2;rw[Array.getElem_append];split
  .rename_i hi;have:=h.block i hi (fun h=>h);rw[YU h1,YU hi]at this;exact YA this
  .simp only[Array.getElem_extract]
   congr 1
   omega
 cases w';cases w
 have h1:=h.os;have h2:=h.tape.1;have h3:=h.output
 simp only at h1 h2 h3 hd hh;subst h1 h2 h3;simp only[ZE,World.drewN];rw[hd,<-hh]
theorem Cm{gi:FuncId}{g:Int->Int->Int->Int->Option Int}(h:aL P gi ⟨⟨[(0, .val true (.leaf iW)),(1, .val true (.leaf iW))],[],[],0⟩,⟨[(0, .val false (.leaf ae))],[],[],0⟩,fun(x:iW.den×iW.den)=>g x.1.1 x.1.2 x.2.1 x.2.2⟩)
 {x y:Int×Int}{c:Int}(hc:g x.1 x.2 y.1 y.2=some c){W:World}(Jv:mN (fun b=>b<W.heap.size) W):
 Calls P gi #[.agg (gN x).toArray, .agg (gN y).toArray] W fun e W'=>e= .returned (.int .i64 c)/\∃q BE,W'=ZE (W.drewN q) BE:=by
 have hv:∀x:Int×Int,au ⟨fun _=>none,fun _=>none,fun _ _=>False⟩ (fun b=>b<W.heap.size) W true (.leaf iW x) (.agg (gN x).toArray):=fun x=>
  pu (r:=iW) ⟨[.int .i64 x.1],[.int .i64 x.2],rfl,rfl,rfl⟩
 have ha:yT (fun b=>b<W.heap.size) W 0 [(0, .val true (.leaf iW)),(1, .val true (.leaf iW))] [⟨iW,x⟩,⟨iW,y⟩] [.agg (gN x).toArray, .agg (gN y).toArray]:= .cons (hv x) (.cons (hv y) .nil);obtain⟨h1,h2,h3⟩:=ha.ah
 refine(h.ok (x,y) c hc _ W ⟨fun _=>none,fun _=>none,fun _ _=>False⟩ (fun b=>b<W.heap.size) (fun _=>False) h3 (fun t d hd=>by simpa using(h1 t d hd).2) ?_ (fun _ _=>⟨rfl,rfl⟩) (fun _ h=>h.elim)).mono fun e W' ⟨us,he,Ep,H',F',a1,_,_,_,a5,_⟩=>?_
 .exact⟨fun _ _ _ h=>(by cases h),fun _ _ _ _ _ _ _ _ _ h=>(by cases h),fun _ _ _=>⟨rfl,rfl⟩,fun _ h=>h,fun _ h=> .inl h,Jv⟩
 .refine⟨?_,Ck a1⟩
  match us,Ep with
  |[u],_=>
   have:=a5 0 _ rfl;have hu:u= .int .i64 c:=au.int (x:=c) this;rw[he,hu];rfl
theorem ER(x:Int×Int):(gN x).length=2:=rfl
theorem wX(d:Array (Int×Int))(i j:Nat)(hi:i<d.size)(hj:j<2):(aan gN 2 d)[i*2+j]! =(gN d[i])[j]! :=by
 rw[Go.Sort.get_flatK _ _ _ _ (by omega),show(i*2+j)/2=i by omega,show(i*2+j)%2=j by omega,getElem!_pos d i hi]
theorem Cn{l:List (Int×Int)}{xs:List Value}(h:∀i(hi:i<l.length),bF F w iW ((xs.drop (i*2)).take 2) l[i]):∀i(hi:i<l.length),∀j,j<2->xs[i*2+j]? =some (gN l[i])[j]! :=by
 intro i hi j hj;obtain⟨c1,c2,h1,h2,h3⟩:=h i hi;have h2:c1=[Zv .i64 l[i].1]:=h2;have h3:c2=[Zv .i64 l[i].2]:=h3;subst h2 h3
 have:((xs.drop (i*2)).take 2)[j]? =xs[i*2+j]? :=by rw[Y0,if_pos hj,YR]
 rw[<-this,h1]
 match j,hj with
 |0,_=>rfl
 |1,_=>rfl
theorem Co{v:Value}{l:List iW.den}(h:fa 0 F w T iW v l):(v= .slice none 0 0/\l=[])\/∃g o0 cap cur,v= .slice (some ⟨g,o0,none⟩) l.length cap/\w.heap[g]? =some (.cells cur T (0,0))/\l.length<=cap/\cap<=maxLen/\o0+cap*2<=cur.size/\Go.Sort.HoldsK gN 2 w g o0 (aag l):=by
 obtain⟨_,xs,⟨hx,h2⟩,h3⟩:=h;have e:=Cn h3
 rcases h2 with⟨rfl,h0⟩|⟨g,o0,cap,cur,rfl,_,hg,h4,h5,h6,h7⟩
 .exact .inl ⟨rfl,List.eq_nil_of_length_eq_zero h0⟩
 .refine .inr ⟨g,o0,cap,cur,rfl,hg,h4,h5,h6,fun j hj=>⟨?_,frozen_of_row w g _ cur T hg⟩⟩
  have hj:j<l.length*2:=by simpa using hj
  rw[cell_of_row w g _ cur T (0,0) hg]
  have hi:j/2<l.length:=by omega
  have hm:j%2<2:=by omega
  have:=e (j/2) hi (j%2) hm;rw[show j/2*2+j%2=j by omega]at this;have h8:=wX l.toArray (j/2) (j%2) (by simpa using hi) hm;rw[show j/2*2+j%2=j by omega]at h8;rw[<-h7,Y0,if_pos (by simpa[Row.size]using hj),YR,Array.getElem?_toList]at this;rw[this,id,h8];simp
theorem wY{g off:Nat}{d:Array (Int×Int)}{n:Nat}{os:Array Obj}(h:w'=ZL gN 2 w g off n d os):Ext (fun k=>k=g) w w':=by
 subst h;refine⟨rfl,⟨rfl,Nat.le_add_right _ _⟩,rfl,?_,fun k hk hn=>?_⟩
 .simp[ZL,ZE,aap,Zt,ZN,Zz]
 .simp only[ZL,ZE];rw[Z9 (by simpa[aap,Zt,ZN,Zz]using hk)];simp only[aap,Zt,ZN,Zz,Array.getElem?_modify];rw[if_neg (fun e=>hn e.symm)]
theorem ES{g off:Nat}{d:Array (Int×Int)}{n:Nat}{os:Array Obj}(h:w'=ZL gN 2 w g off n d os){cur:Array Value}(hg:w.heap[g]? =some (.cells cur T (0,0))):
 w'.heap[g]? =some (.cells (Zs id off (aan gN 2 d) cur) T (0,0)):=by
 subst h;have av:g<w.heap.size:=(Zb.1 hg).1;simp only[ZL,ZE];rw[Z9 (by simpa[aap,Zt,ZN,Zz]using av)];simp only[aap,Zt,ZN,Zz,Array.getElem?_modify];rw[if_pos trivial,hg];rfl
theorem yX{g o0 cap:Nat}{l m:List iW.den}{cur:Array Value}{n:Nat}{os:Array Obj}(h:fa 0 F w T iW (.slice (some ⟨g,o0,none⟩) l.length cap) l)(hg:w.heap[g]? =some (.cells cur T (0,0)))(hs:o0+cap*2<=cur.size)(hc:cap<=maxLen)
 (hl:l.length<=cap)(hm:m.length=l.length)(hw:w'=ZL gN 2 w g o0 n (aag m) os):fa 0 F w' T iW (.slice (some ⟨g,o0,none⟩) l.length cap) m:=by
 have Jw:=ES hw hg;refine⟨fun k hk=>h.no k (by simpa[aS,Y9]using hk),((Zs id o0 (aan gN 2 (aag m)) cur).toList.drop o0).take (m.length*2),⟨by simp[Row.size,Zs];omega, .inr ⟨g,o0,cap,_,by rw[hm],Nat.zero_le _,Jw,by omega,hc,by simp[Zs,Row.size];omega,rfl⟩⟩,fun i hi=>?_⟩
 have nv:∀j,j<2->(Zs id o0 (aan gN 2 (aag m)) cur)[o0+(i*2+j)]? =some (gN m[i])[j]! :=fun j hj=>by
  have av:o0+(i*2+j)<cur.size:=by omega
  simp only[Zs];rw[YU (by simpa using av),Array.getElem_mapIdx,if_pos ⟨by omega,by simp;omega⟩,show o0+(i*2+j)-o0=i*2+j by omega,wX _ i j (by simpa using hi) hj];simp
 have e:((((Zs id o0 (aan gN 2 (aag m)) cur).toList.drop o0).take (m.length*2)).drop (i*2)).take 2=[.int .i64 m[i].1, .int .i64 m[i].2]:=by
  apply List.ext_getElem?
  intro j;rw[Y0];split
  .rename_i hj;rw[YR,Y0,if_pos (by omega),YR,Array.getElem?_toList,nv j hj]
   match j,hj with
   |0,_=>rfl
   |1,_=>rfl
  .rename_i hj;rw[List.getElem?_eq_none (by simp;omega)]
 show bF F w' iW (((((Zs id o0 (aan gN 2 (aag m)) cur).toList.drop o0).take (m.length*2)).drop (i*2)).take 2) m[i]
 rw[e];exact⟨[.int .i64 m[i].1],[.int .i64 m[i].2],rfl,rfl,rfl⟩
theorem ET{f gi:FuncId}{g:Int->Int->Int->Int->Option Int}(hb:∃fn,P.funcs[f]? =some fn/\(fn.name== "runtime.NumGoroutine")=false/\fn.body.isNone=false)
 (PJ:aL P gi ⟨⟨[(0, .val true (.leaf iW)),(1, .val true (.leaf iW))],[],[],0⟩,⟨[(0, .val false (.leaf ae))],[],[],0⟩,fun(x:iW.den×iW.den)=>g x.1.1 x.1.2 x.2.1 x.2.2⟩)
 (h1:∀(cf:Int×Int->Int×Int->Int),Go.Sort.SWO (Zn cf)->∀(jE off cap:Nat)(d:Array (Int×Int))(w:World),Go.Proofs.CmpLays P gi #[] gN 2 cf jE off d.size w->Go.Sort.HoldsK gN 2 w jE off d->jE<w.heap.size->d.size<4611686018427387904->
   (∀x y,Zn cf x y=false->Zn cf y x=false->x=y)->Calls P f #[.slice (some ⟨jE,off,none⟩) d.size cap, .func (.func gi) #[] #[]] w fun e w'=>e= .returned (.tuple #[])/\∃n os,w'=ZL gN 2 w jE off n (d.toList.mergeSort fun x y=> !(Zn cf) y x).toArray os)
 (h2:∀(w:World),Calls P f #[.slice none 0 0, .func (.func gi) #[] #[]] w fun e w'=>e= .returned (.tuple #[])/\w'=w):
 aL P f ⟨⟨[(0, .val false (.own 0)),(1, .fn gi [])],[(0, .own T iW)],[],1⟩,⟨[],[(0, .own T iW)],[],2⟩,fun x=>tj g x⟩:=by
 refine⟨hb,fun x y mM args w H F G hlen eD bJ di hG=>?_⟩;have di:eI H 1:=di
 match args,hlen with
 |[v,u],_=>
 have hx:(ef 0 [(0,OS.own T iW)] (b7 [(0,SS.val false (.own 0)),(1, .fn gi [])] (ct [.slice iW] x)).2)=[(0,(0, .own T iW x))]:=rfl;have hy:(ef 1 [(0,OS.own T iW)] (b7 [] (ct [.slice iW] y)).2)=[(0,(1, .own T iW y))]:=rfl
 have bJ:ak (fun k=>w.heap.size<=k\/G k) H F w (find [(0,(0,Th.own T iW x))]) 1:=by rw[<-hx];exact bJ
 have hd:af H F w (.val false (.own 0)) v:=eD 0 _ rfl;obtain⟨cs,⟨v',hv,qp,rfl⟩,_,mK⟩:=hd
 obtain rfl:v'=v:=by have:=mK rfl;simpa using this
 have hu:af H F w (.fn gi []) u:=eD 1 _ rfl;obtain⟨vs,hu,U1⟩:=hu;obtain rfl:vs=[]:=U1;obtain rfl:u= .func (.func gi) #[] #[]:=hu;have cV:=bJ.own rfl hv;obtain⟨v2,jw,bH⟩:=bJ.obj 0 0 _ rfl;rw[hv]at jw;obtain rfl:=YA jw;have mM:tj g x=some y:=mM;unfold tj at mM;split at mM
 case isFalse=>cases mM
 rename_i iV;obtain rfl:=YA mM
 have hc:Calls P f #[v', .func (.func gi) #[] #[]] w fun e w'=>e= .returned (.tuple #[])/\Ext (aS v') w w'/\fa 0 F w' T iW v' (x.mergeSort fun x y=> !(Zn (kY g)) y x):=by
  rcases Co cV with⟨rfl,rfl⟩|⟨gb,o0,cap,cur,rfl,hg,vl,DS,iz,hh⟩
  .refine(h2 w).mono fun e w' ⟨he,hw⟩=>⟨he,hw▸⟨rfl,⟨rfl,YD _⟩,rfl,YD _,fun _ _ _=>rfl⟩,hw▸?_⟩
   simpa using cV
  .have L6:Go.Proofs.CmpLays P gi #[] gN 2 (kY g) gb o0 (aag x).size w:=fun m os dk Yb a b=>by
    have aY:=wY (w':=ZL gN 2 w gb o0 m dk os) rfl;obtain⟨c,hc⟩:=iV.1.all a.1 a.2 b.1 b.2
    have U2:kY g a b=c:=by unfold kY;rw[hc];rfl
    rw[U2];refine Cm PJ hc (bJ.gl.step fun b hb=>⟨Y8 (bJ.lt b hb) aY.size,aY.block b (bJ.lt b hb) fun e=>cV.no b (by simp[aS,Y9,e]) hb⟩)
   refine(h1 (kY g) iV.1.swo gb o0 cap (aag x) w L6 hh (Zb.1 hg).1 iV.2 iV.1.tot).mono fun e w' ⟨he,n,os,hw⟩=>⟨he,?_,?_⟩
   .have:=wY hw;exact⟨this.os,this.tape,this.output,this.size,fun k hk hn=>this.block k hk fun e=>hn (by simp[aS,Y9,e])⟩
   .exact yX cV hg iz DS vl (List.mergeSort_perm (α:=Int×Int) _ _).length_eq hw
 refine hc.mono fun e w' ⟨he,aY,ed⟩=>⟨[],he,rfl,H.aP 1 (.own T iW (List.mergeSort (α:=Int×Int) x fun x y=> !(Zn (kY g)) y x)),F,⟨aY.os,aY.tape,aY.output,aY.size,fun k hk hn=>aY.block k hk fun hm=>?_⟩,aj.dH (di 1 (YD _)).2,fun b h=>h,fun b h=> .inl h,fun t d h=>?_,?_,?_⟩
 .rcases bH.use k hm with h|h
  .omega
  .exact hn h
 .cases h
 .show ak _ _ F w' (find (ef 1 [(0,OS.own T iW)] (b7 [] (ct [.slice iW] _)).2)) 2
  rw[hy];refine⟨fun o s t ho=>?_,fun o o' s s' t t' u u' b8 ho gm=>?_,fun m h1 h2=>⟨(di m (by have:2<=m:=h1;omega)).1,?_⟩,fun b hb=>Y8 (bJ.lt b hb) aY.size,fun b hb=> .inl (Y3 aY.size hb),bJ.gl.step (Step.ext aY bJ.lt cV.no)⟩
  .obtain⟨rfl,h⟩:o=0/\(1,Th.own T iW (List.mergeSort (α:=Int×Int) x fun x y=> !(Zn (kY g)) y x))=(s,t):=by
    by_cases h0:o=0
    .subst h0;exact⟨rfl,YA ho⟩
    .exfalso;have:find [(0,(1,Th.own T iW (x.mergeSort fun x y=> !(Zn (kY g)) y x)))] o=none:=iL h0;rw[this]at ho;cases ho
   cases h;refine⟨v',hv,qp,by simp[aj.aP,Th.base],fa.to _ ed,ed.no,ed.lt,fun k hk=>?_⟩;exact bH.use k hk
  .have key:∀o z,find [(0,(1,Th.own T iW (x.mergeSort fun x y=> !(Zn (kY g)) y x)))] o=some z->o=0:=fun o z h=>by
    by_cases h0:o=0
    .exact h0
    .have:find [(0,(1,Th.own T iW (x.mergeSort fun x y=> !(Zn (kY g)) y x)))] o=none:=iL h0;rw[this]at h;cases h
   exact absurd ((key o _ ho).trans (key o' _ gm).symm) b8
  .have h1:2<=m:=h1
   show(if m=1 then _ else H.con m)=none
   rw[if_neg (by omega)];exact(di m (by omega)).2
 .intro m hm;have hm:2<=m:=hm;refine⟨(di m (by omega)).1,?_⟩
  show(if m=1 then _ else H.con m)=none
  rw[if_neg (by omega)];exact(di m (by omega)).2
end
end Go.Proofs.YtbladfbbhijpmaaGreat
end
section
namespace Go.Proofs
open Go.Shelf
def Tryz.wZ:Go.Shelf.Ren:=⟨fun|6=>105|15=>145|14=>144|28=>172|29=>173|20=>164|21=>165|22=>166|23=>167|24=>168|25=>169|26=>170|27=>171|46=>187|47=>188|48=>189|49=>190|50=>191|57=>208|n=>n,fun|22=>101|24=>58|25=>158|3=>3|39=>157|0=>0|53=>181|55=>183|4=>4|46=>196|45=>195|50=>40|5=>5|9=>9|66=>207|70=>211|76=>225|77=>129|n=>n,fun|n=>n⟩
theorem Tryz.Ar:Go.Proofs.SlLaysF0.n6 Tryz.prog Tryz.wZ:={
 mixed:=by kernel_rfl
 f6:=⟨Tryz.f105.name,by decide,Tryz.func105.trans (congrArg some (by kernel_rfl))⟩
 f14:=⟨Tryz.f144.name,by decide,Tryz.func144.trans (congrArg some (by kernel_rfl))⟩
 f15:=Tryz.func145.trans (congrArg some (by kernel_rfl))
 f20:=⟨Tryz.f164.name,by decide,Tryz.func164.trans (congrArg some (by kernel_rfl))⟩
 f21:=⟨Tryz.f165.name,by decide,Tryz.func165.trans (congrArg some (by kernel_rfl))⟩
 f22:=⟨Tryz.f166.name,by decide,Tryz.func166.trans (congrArg some (by kernel_rfl))⟩
 f23:=⟨Tryz.f167.name,by decide,Tryz.func167.trans (congrArg some (by kernel_rfl))⟩
 f24:=⟨Tryz.f168.name,by decide,Tryz.func168.trans (congrArg some (by kernel_rfl))⟩
 f25:=⟨Tryz.f169.name,by decide,Tryz.func169.trans (congrArg some (by kernel_rfl))⟩
 f26:=⟨Tryz.f170.name,by decide,Tryz.func170.trans (congrArg some (by kernel_rfl))⟩
 f27:=⟨Tryz.f171.name,by decide,Tryz.func171.trans (congrArg some (by kernel_rfl))⟩
 f28:=Tryz.func172.trans (congrArg some (by kernel_rfl))
 f29:=Tryz.func173.trans (congrArg some (by kernel_rfl))
 f46:=⟨Tryz.f187.name,by decide,Tryz.func187.trans (congrArg some (by kernel_rfl))⟩
 f47:=Tryz.func188.trans (congrArg some (by kernel_rfl))
 f48:=Tryz.func189.trans (congrArg some (by kernel_rfl))
 f49:=⟨Tryz.f190.name,by decide,Tryz.func190.trans (congrArg some (by kernel_rfl))⟩
 f50:=⟨Tryz.f191.name,by decide,Tryz.func191.trans (congrArg some (by kernel_rfl))⟩
 f57:=⟨Tryz.f208.name,by decide,Tryz.func208.trans (congrArg some (by kernel_rfl))⟩
 t0:=Tryz.underlying0
 a0:=Tryz.isAgg0
 z0:=Tryz.sizeOf0
 v0:=Tryz.zeroValue0
 t3:=Tryz.underlying3
 a3:=Tryz.isAgg3
 z3:=Tryz.sizeOf3
 v3:=Tryz.zeroValue3
 t4:=Tryz.underlying4
 a4:=Tryz.isAgg4
 z4:=Tryz.sizeOf4
 v4:=Tryz.zeroValue4
 t5:=Tryz.underlying5
 a5:=Tryz.isAgg5
 z5:=Tryz.sizeOf5
 v5:=Tryz.zeroValue5
 t9:=Tryz.underlying9
 a9:=Tryz.isAgg9
 z9:=Tryz.sizeOf9
 v9:=Tryz.zeroValue9
 t22:=Tryz.underlying101
 a22:=Tryz.isAgg101
 z22:=Tryz.sizeOf101
 v22:=Tryz.zeroValue101
 t25:=Tryz.underlying158
 a25:=Tryz.isAgg158
 z25:=Tryz.sizeOf158
 v25:=Tryz.zeroValue158
 t39:=Tryz.underlying157
 a39:=Tryz.isAgg157
 z39:=Tryz.sizeOf157
 v39:=Tryz.zeroValue157
 t45:=Tryz.underlying195
 a45:=Tryz.isAgg195
 z45:=Tryz.sizeOf195
 v45:=Tryz.zeroValue195
 t46:=Tryz.underlying196
 a46:=Tryz.isAgg196
 z46:=Tryz.sizeOf196
 v46:=Tryz.zeroValue196
 t50:=Tryz.underlying40
 a50:=Tryz.isAgg40
 z50:=Tryz.sizeOf40
 v50:=Tryz.zeroValue40
 t53:=Tryz.underlying181
 a53:=Tryz.isAgg181
 z53:=Tryz.sizeOf181
 v53:=Tryz.zeroValue181
 t55:=Tryz.underlying183
 a55:=Tryz.isAgg183
 z55:=Tryz.sizeOf183
 v55:=Tryz.zeroValue183
 t66:=Tryz.underlying207
 a66:=Tryz.isAgg207
 z66:=Tryz.sizeOf207
 v66:=Tryz.zeroValue207
 t70:=Tryz.underlying211
 a70:=Tryz.isAgg211
 z70:=Tryz.sizeOf211
 v70:=Tryz.zeroValue211
 t76:=Tryz.underlying225
 a76:=Tryz.isAgg225
 z76:=Tryz.sizeOf225
 v76:=Tryz.zeroValue225
 t77:=Tryz.underlying129
 a77:=Tryz.isAgg129
 z77:=Tryz.sizeOf129
 v77:=Tryz.zeroValue129}
end Go.Proofs
end
