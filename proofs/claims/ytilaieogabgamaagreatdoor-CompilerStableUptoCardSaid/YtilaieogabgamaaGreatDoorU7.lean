/- Joined texts: Lays Del. -/
import Derived.Shelf.Small.Wraps
import Derived.Shelf.Strings.Search3
import Derived.Shelf.Sort.Plain
import Derived.Shelf.Bits.Mul64
import Derived.Shelf.Slices.Turned
import Derived.Ground.Names2Prog
import Derived.Shelf.Slices.CompactI
import Derived.Shelf.Slices.In.SortNone
import Derived.Shelf.Slices.Empties
import Derived.Ground.SlgfProg
import Derived.Shelf.SlicesE.DeleteFunc
import Derived.Test.YtilaieogabgamaaGreatDoorProg
import Derived.Test.YtilaieogabgamaaGreatDoorU6
import Derived.WalkKit
section
open _root_.List renaming replicate->ai9
open _root_.Go.Value renaming int->aj6
namespace Go.Proofs
open Go.Shelf
def Tryz.BK:Go.Shelf.Ren:=⟨fun|144=>231|143=>258|219=>281|217=>322|225=>323|224=>324|267=>325|266=>348|314=>349|n=>n,fun|9=>9|4=>4|3=>3|5=>5|46=>130|146=>329|51=>176|n=>n,fun|1=>3|n=>n⟩
theorem Tryz.Na:Go.Proofs.Lays.n144 Tryz.prog Tryz.BK:={
 mixed:=by kernel_rfl
 f143:=Tryz.func258.trans (congrArg some (by kernel_rfl))
 f144:=Tryz.func231.trans (congrArg some (by kernel_rfl))
 f217:=Tryz.func322.trans (congrArg some (by kernel_rfl))
 f219:=Tryz.func281.trans (congrArg some (by kernel_rfl))
 f224:=Tryz.func324.trans (congrArg some (by kernel_rfl))
 f225:=Tryz.func323.trans (congrArg some (by kernel_rfl))
 f266:=Tryz.func348.trans (congrArg some (by kernel_rfl))
 f267:=Tryz.func325.trans (congrArg some (by kernel_rfl))
 f314:=Tryz.func349.trans (congrArg some (by kernel_rfl))
 t3:=Tryz.underlying3
 a3:=Tryz.isAgg3
 z3:=Tryz.sizeOf3
 v3:=Tryz.zeroValue3
 t4:=Tryz.underlying4
 a4:=Tryz.isAgg4
 z4:=Tryz.sizeOf4
 v4:=Tryz.zeroValue4
 t5:=Tryz.underlying5
 a5:=Tryz.isAgg5
 z5:=Tryz.sizeOf5
 v5:=Tryz.zeroValue5
 t9:=Tryz.underlying9
 a9:=Tryz.isAgg9
 z9:=Tryz.sizeOf9
 v9:=Tryz.zeroValue9
 t46:=Tryz.underlying130
 a46:=Tryz.isAgg130
 z46:=Tryz.sizeOf130
 v46:=Tryz.zeroValue130
 t51:=Tryz.underlying176
 a51:=Tryz.isAgg176
 z51:=Tryz.sizeOf176
 v51:=Tryz.zeroValue176
 t146:=Tryz.underlying329
 a146:=Tryz.isAgg329
 z146:=Tryz.sizeOf329
 v146:=Tryz.zeroValue329
 g1:=by kernel_rfl}
open Go.RowKit Go.Lib in
theorem Tryz.strings_Contains_one(s:ByteArray)(c:UInt8)(w:World):
 Calls Tryz.prog 231 #[.string s, .string ⟨#[c]⟩] w fun e w'=>e= .returned (.bool (decide (0<=Lib.indexByte s.data.toList c)))/\w'=w:=Any.strings_Contains_one Tryz.Na s c w
def Tryz.BL:Go.Shelf.Ren:=⟨fun|189=>32|125=>55|257=>54|128=>103|129=>104|294=>94|295=>95|296=>96|297=>97|298=>98|299=>99|216=>100|300=>101|301=>102|328=>166|329=>167|330=>168|331=>169|332=>170|215=>171|343=>228|n=>n,fun|28=>29|3=>3|46=>130|0=>0|51=>176|53=>178|4=>4|183=>169|182=>168|131=>144|5=>5|9=>9|218=>231|222=>235|228=>269|229=>154|n=>n,fun|n=>n⟩
theorem Tryz.Fy:Go.Proofs.Lays.n189 Tryz.prog Tryz.BL:={
 mixed:=by kernel_rfl
 f125:=Tryz.func55.trans (congrArg some (by kernel_rfl))
 f128:=Tryz.func103.trans (congrArg some (by kernel_rfl))
 f129:=Tryz.func104.trans (congrArg some (by kernel_rfl))
 f189:=Tryz.func32.trans (congrArg some (by kernel_rfl))
 f215:=Tryz.func171.trans (congrArg some (by kernel_rfl))
 f216:=Tryz.func100.trans (congrArg some (by kernel_rfl))
 f257:=Tryz.func54.trans (congrArg some (by kernel_rfl))
 f294:=Tryz.func94.trans (congrArg some (by kernel_rfl))
 f295:=Tryz.func95.trans (congrArg some (by kernel_rfl))
 f296:=Tryz.func96.trans (congrArg some (by kernel_rfl))
 f297:=Tryz.func97.trans (congrArg some (by kernel_rfl))
 f298:=Tryz.func98.trans (congrArg some (by kernel_rfl))
 f299:=Tryz.func99.trans (congrArg some (by kernel_rfl))
 f300:=Tryz.func101.trans (congrArg some (by kernel_rfl))
 f301:=Tryz.func102.trans (congrArg some (by kernel_rfl))
 f328:=Tryz.func166.trans (congrArg some (by kernel_rfl))
 f329:=Tryz.func167.trans (congrArg some (by kernel_rfl))
 f330:=Tryz.func168.trans (congrArg some (by kernel_rfl))
 f331:=Tryz.func169.trans (congrArg some (by kernel_rfl))
 f332:=Tryz.func170.trans (congrArg some (by kernel_rfl))
 f343:=Tryz.func228.trans (congrArg some (by kernel_rfl))
 t0:=Tryz.underlying0
 a0:=Tryz.isAgg0
 z0:=Tryz.sizeOf0
 v0:=Tryz.zeroValue0
 t3:=Tryz.underlying3
 a3:=Tryz.isAgg3
 z3:=Tryz.sizeOf3
 v3:=Tryz.zeroValue3
 t4:=Tryz.underlying4
 a4:=Tryz.isAgg4
 z4:=Tryz.sizeOf4
 v4:=Tryz.zeroValue4
 t5:=Tryz.underlying5
 a5:=Tryz.isAgg5
 z5:=Tryz.sizeOf5
 v5:=Tryz.zeroValue5
 t9:=Tryz.underlying9
 a9:=Tryz.isAgg9
 z9:=Tryz.sizeOf9
 v9:=Tryz.zeroValue9
 t28:=Tryz.underlying29
 a28:=Tryz.isAgg29
 z28:=Tryz.sizeOf29
 v28:=Tryz.zeroValue29
 t46:=Tryz.underlying130
 a46:=Tryz.isAgg130
 z46:=Tryz.sizeOf130
 v46:=Tryz.zeroValue130
 t51:=Tryz.underlying176
 a51:=Tryz.isAgg176
 z51:=Tryz.sizeOf176
 v51:=Tryz.zeroValue176
 t53:=Tryz.underlying178
 a53:=Tryz.isAgg178
 z53:=Tryz.sizeOf178
 v53:=Tryz.zeroValue178
 t131:=Tryz.underlying144
 a131:=Tryz.isAgg144
 z131:=Tryz.sizeOf144
 v131:=Tryz.zeroValue144
 t182:=Tryz.underlying168
 a182:=Tryz.isAgg168
 z182:=Tryz.sizeOf168
 v182:=Tryz.zeroValue168
 t183:=Tryz.underlying169
 a183:=Tryz.isAgg169
 z183:=Tryz.sizeOf169
 v183:=Tryz.zeroValue169
 t218:=Tryz.underlying231
 a218:=Tryz.isAgg231
 z218:=Tryz.sizeOf231
 v218:=Tryz.zeroValue231
 t222:=Tryz.underlying235
 a222:=Tryz.isAgg235
 z222:=Tryz.sizeOf235
 v222:=Tryz.zeroValue235
 t228:=Tryz.underlying269
 a228:=Tryz.isAgg269
 z228:=Tryz.sizeOf269
 v228:=Tryz.zeroValue269
 t229:=Tryz.underlying154
 a229:=Tryz.isAgg154
 z229:=Tryz.sizeOf154
 v229:=Tryz.zeroValue154}
open Go.Sort Go.RowKit in
theorem Tryz.slices_Sort_int(lA off cap:Nat)(zs:List Int)(w:World)(hH:Holds (aj6 .i64) w lA off zs.toArray)(JM:lA<w.heap.size)(kz:zs.length<4611686018427387904):
 Calls Tryz.prog 32 #[.slice (some ⟨lA,off,none⟩) zs.length cap] w fun e w'=>
  e= .returned (.tuple #[])/\∃n os,w'=grow (putRow (aj6 .i64) (Sort.ahead w n) lA off (zs.mergeSort fun x y=>decide (x<=y)).toArray) os:=Any.slices_Sort_int Tryz.Fy lA off cap zs w hH JM kz
def Tryz.xi:Go.Shelf.Ren:=⟨fun|20=>33|n=>n,fun|22=>29|3=>3|4=>4|0=>0|n=>n,fun|n=>n⟩
theorem Tryz.yf:Go.Proofs.Lays2.n20 Tryz.prog Tryz.xi:={
 mixed:=by kernel_rfl
 f20:=Tryz.func33.trans (congrArg some (by kernel_rfl))
 t0:=Tryz.underlying0
 a0:=Tryz.isAgg0
 z0:=Tryz.sizeOf0
 v0:=Tryz.zeroValue0
 t3:=Tryz.underlying3
 a3:=Tryz.isAgg3
 z3:=Tryz.sizeOf3
 v3:=Tryz.zeroValue3
 t4:=Tryz.underlying4
 a4:=Tryz.isAgg4
 z4:=Tryz.sizeOf4
 v4:=Tryz.zeroValue4
 t22:=Tryz.underlying29
 a22:=Tryz.isAgg29
 z22:=Tryz.sizeOf29
 v22:=Tryz.zeroValue29
 i3:=by kernel_rfl}
open Go.RowKit Go.Lib Go.Sort in
theorem Tryz.slices_Compact_int(lA off cap:Nat)(zs:List Int)(w:World)(hH:Holds (aj6 .i64) w lA off zs.toArray)(kz:zs.length<=9223372036854775807)(ua:zs.length<=cap):
 Calls Tryz.prog 33 #[.slice (some ⟨lA,off,none⟩) zs.length cap] w fun e w'=>e= .returned (.slice (some ⟨lA,off,none⟩) (Lib.compact zs).length cap)/\∃q,w'=putRow (aj6 .i64) (Sort.ahead w q) lA off (Lib.compact zs++ai9 (zs.length-(Lib.compact zs).length) 0).toArray:=Any.slices_Compact_int Tryz.yf lA off cap zs w hH kz ua
open Go.RowKit Go.Lib Go.Sort in
theorem Tryz.slices_Compact_int_empty(a:Option Addr)(cap:Nat)(w:World):
 Calls Tryz.prog 33 #[.slice a 0 cap] w fun e w'=>e= .returned (.slice a 0 cap)/\w'=w:=Any.slices_Compact_int_empty Tryz.yf a cap w
open Go.RowKit Go.Sort in
theorem Tryz.slices_Sort_int_none(p:Option Addr)(cap:Nat)(w:World):
 Calls Tryz.prog 32 #[.slice p 0 cap] w fun e w'=>e= .returned (.tuple #[])/\w'=w:=Any.slices_Sort_int_none Tryz.Fy p cap w
def Tryz.rE:Go.Shelf.Ren:=⟨fun|10=>15|6=>30|n=>n,fun|22=>29|23=>3|25=>80|3=>3|4=>4|0=>0|n=>n,fun|n=>n⟩
theorem Tryz.qf:Go.Proofs.SlLaysH.n10 Tryz.prog Tryz.rE:={
 mixed:=by kernel_rfl
 f6:=⟨Tryz.f30.name,by decide,Tryz.func30.trans (congrArg some (by kernel_rfl))⟩
 f10:=⟨Tryz.f15.name,by decide,Tryz.func15.trans (congrArg some (by kernel_rfl))⟩
 t0:=Tryz.underlying0
 a0:=Tryz.isAgg0
 z0:=Tryz.sizeOf0
 v0:=Tryz.zeroValue0
 t3:=Tryz.underlying3
 a3:=Tryz.isAgg3
 z3:=Tryz.sizeOf3
 v3:=Tryz.zeroValue3
 t4:=Tryz.underlying4
 a4:=Tryz.isAgg4
 z4:=Tryz.sizeOf4
 v4:=Tryz.zeroValue4
 t22:=Tryz.underlying29
 a22:=Tryz.isAgg29
 z22:=Tryz.sizeOf29
 v22:=Tryz.zeroValue29
 a23:=Tryz.isAgg3
 z23:=Tryz.sizeOf3
 t25:=Tryz.underlying80
 a25:=Tryz.isAgg80
 z25:=Tryz.sizeOf80
 v25:=Tryz.zeroValue80}
open Go.RowKit Go.Lib Go.Sort in
theorem Tryz.slices_DeleteFunc{α:Type}[Inhabited α](enc:α->Value)(hO:OneCell enc)(p:α->Bool)(g:Nat)(lb:Array Value)(eg:∀args w,(callFunc g args).run Tryz.prog w= .ok (.enter g args) w)(zr:α)(v23:∀w,(zeroValue 3).run Tryz.prog w= .ok (enc zr) w)(lA off cap:Nat)(d:Array α)(w:World)(hp:PredAt Tryz.prog g lb enc p w)(hpo:PredOver Tryz.prog g lb enc p lA off d.size w)(hH:Holds enc w lA off d)(kz:d.size<=9223372036854775807)(ua:d.size<=cap):
 Calls Tryz.prog 15 #[.slice (some ⟨lA,off,none⟩) d.size cap, .func (.func g) #[] lb] w fun e w'=>e= .returned (.slice (some ⟨lA,off,none⟩) (d.toList.filter fun x=> !p x).length cap)/\∃q,w'=putRow enc (Sort.ahead w q) lA off ((d.toList.filter fun x=> !p x)++ai9 (d.size-(d.toList.filter fun x=> !p x).length) zr).toArray:=AnyE.slices_DeleteFunc Tryz.qf enc hO p g lb eg zr v23 lA off cap d w hp hpo hH kz ua
end Go.Proofs
end
section
open _root_.Go.Sort renaming ahead->akl,grow->akC,putRow->akd
open _root_.List renaming replicate->ai9
open _root_.Nat renaming le_refl->ai8,le_trans->ajE,lt_of_lt_of_le->ajJ
open _root_.Option.some renaming inj->ai4
open _root_.Go.Value renaming int->aj6,ownBlock->ajz
namespace Go.Proofs.YtilaieogabgamaaGreatDoor
open Go Go.RowKit
section
open Go.Shelf Go.Lib
variable {P:Program} {ρ:Go.Shelf.Ren}
set_option maxHeartbeats 4000000 in
set_option maxRecDepth 1000000 in
theorem D2(L:SlLaysH.n10 P ρ)(fv:Value)(w:World):
 Calls P (ρ.f 10) #[.slice none 0 0,fv] w fun e w'=>e= .returned (.slice none 0 0)/\∃q,w'=w.drewN q:=by
 have mixed:=L.mixed;have t0:=L.t0;have a0:=L.a0;have z0:=L.z0;have v0:=L.v0;have t3:=L.t3;have a3:=L.a3;have z3:=L.z3;have v3:=L.v3;have t4:=L.t4;have a4:=L.a4;have z4:=L.z4;have v4:=L.v4;have t22:=L.t22;have a22:=L.a22;have z22:=L.z22;have v22:=L.v22;have a23:=L.a23;have z23:=L.z23;have t25:=L.t25;have a25:=L.a25;have z25:=L.z25;have v25:=L.v25
 have e6:∀args w,(callFunc (ρ.f 6) args).run P w= .ok (.enter (ρ.f 6) args) w:=L.f6.enters rfl;have hIF:=AnyE.slices_IndexFunc_empty (P:=P) (ρ:=ρ) {L with} none 0 fv w;obtain⟨_,_,FG⟩:=L.f10
 go_enter FG,SlBodyH.n10_ntmps ρ
 go_wp2_with (go_at_fn (ρ.f 6);refine hIF.mono ?_;rintro e w' ⟨rfl,rfl⟩)
 go_ret
 exact⟨rfl,0,rfl⟩
end
section
variable {P:Program} {w w':World} {F:Nat->Prop} {T:TypeId}
theorem D3{f g:FuncId}{r:Row}{fn:List r.den->Option (List r.den)}(hb:∃fn,P.funcs[f]? =some fn/\(fn.name== "runtime.NumGoroutine")=false/\fn.body.isNone=false)
 (hr:r.beq r=true)
 (hc:∀{F:Nat->Prop}{w:World}{v:Value}{l m:List r.den},fn l=some m->iE 0 F w T r v l->(∀b,F b->b<w.heap.size)->Calls P f #[v, .func (.func g) #[] #[]] w fun e w'=>∃v',e= .returned v'/\Ext (bm v) w w'/\iE 0 F w' T r v' m/\∀k,bm v' k->bm v k):
 aq P f ⟨⟨[(0, .val false (.own 0)),(1, .fn g [])],[(0, .own T r)],[],1⟩,⟨[(0, .val false (.own 1))],[(1, .own T r)],[],2⟩,fn⟩:=by
 refine⟨hb,fun x y wO args w H F G hlen fO cC dX hG=>?_⟩;have dX:gJ H 1:=dX
 match args,hlen with
 |[v,u],_=>
 have hx:(gi 0 [(0,OS.own T r)] (cS [(0,SS.val false (.own 0)),(1, .fn g [])] (cY [.slice r] x)).2)=[(0,(0, .own T r x))]:=by
  show[(0,(0,(bX (.own T r) [⟨.slice r,x⟩]).1))]=_
  simp only[bX,hr,cond_true]
 have hy:(gi 1 [(1,OS.own T r)] (cS [(0,SS.val false (.own 1))] (cY [.slice r] y)).2)=[(1,(1, .own T r y))]:=by
  show[(1,(1,(bX (.own T r) [⟨.slice r,y⟩]).1))]=_
  simp only[bX,hr,cond_true]
 have cC:au (fun k=>w.heap.size<=k\/G k) H F w (find [(0,(0,Th.own T r x))]) 1:=by rw[<-hx];exact cC
 have hd:ai H F w (.val false (.own 0)) v:=fO 0 _ rfl;obtain⟨cs,⟨v',hv,h1,rfl⟩,_,qp⟩:=hd
 obtain rfl:v'=v:=by have:=qp rfl;simpa using this
 have hu:ai H F w (.fn g []) u:=fO 1 _ rfl;obtain⟨vs,hu,Vj⟩:=hu;obtain rfl:vs=[]:=Vj;obtain rfl:u= .func (.func g) #[] #[]:=hu;have dH:=cC.own rfl hv;obtain⟨v2,tA,cc⟩:=cC.obj 0 0 _ rfl;rw[hv]at tA;obtain rfl:=ai4 tA;have wT:=dX 1 (ai8 _)
 refine(hc wO dH cC.lt).mono fun e w' ⟨v3,he,bI,fQ,AU⟩=>?_
 have PP:v3.oneCell'=true:=(jG.one fQ.2)
 have hle:H.le ((H.bz 1 (.own T r y)).cq 1 v3):=⟨fun o u h=>by
  show(if o=1 then some v3 else H.val o)=some u
  rw[if_neg (fun e=>by rw[e,wT.1]at h;cases h)]
  exact h,(ao.fI (t:= .own T r y) wT.2).con,(ao.fI (t:= .own T r y) wT.2).sub⟩
 refine⟨[v3],he,rfl,(H.bz 1 (.own T r y)).cq 1 v3,F,⟨bI.os,bI.tape,bI.output,bI.size,fun k hk hn=>bI.block k hk fun hm=>?_⟩,hle,fun b h=>h,fun b h=> .inl h,fun t d h=>?_,?_,?_⟩
 .rcases cc.use k hm with h|h
  .omega
  .exact hn h
 .have ht:t=0/\d= .val false (.own 1):=by
   have h:find [(0,ak.val false (.own 1))] t=some d:=h;by_cases h0:t=0
   .subst h0;exact⟨rfl,(ai4 h).symm⟩
   .have e:find [(0,ak.val false (.own 1))] t=none:=me h0;rw[e]at h;cases h
  obtain⟨rfl,rfl⟩:=ht;exact⟨[v3],⟨v3,by simp[ao.cq],PP,rfl⟩,rfl,fun _=>rfl⟩
 .show au _ _ F w' (find (gi 1 [(1,OS.own T r)] (cS [(0,SS.val false (.own 1))] (cY [.slice r] y)).2)) 2
  rw[hy]
  have key:∀o x,find [(1,(1,Th.own T r y))] o=some x->o=1/\x=(1,Th.own T r y):=fun o x h=>by
   by_cases h0:o=1
   .subst h0;exact⟨rfl,(ai4 h).symm⟩
   .have:find [(1,(1,Th.own T r y))] o=none:=me h0;rw[this]at h;cases h
  refine⟨fun o s t ho=>?_,fun o o' s s' t t' u u' bN ho iN=>?_,fun m h1 h2=>⟨?_,?_⟩,fun b hb=>ajJ (cC.lt b hb) bI.size,fun b hb=> .inl (ajE bI.size hb),cC.gl.step (Step.ext bI cC.lt dH.no)⟩
  .obtain⟨rfl,h⟩:=key o _ ho;cases h;exact⟨v3,by simp[ao.cq],PP,by simp[ao.bz,ao.cq,Th.base],iE.to _ fQ,fQ.no,fQ.lt,fun k hk=>cc.use k (AU k hk)⟩
  .exact absurd ((key o _ ho).1.trans (key o' _ iN).1.symm) bN
  .have h1:2<=m:=h1
   show(if m=1 then _ else H.val m)=none
   rw[if_neg (by omega)];exact(dX m (by omega)).1
  .have h1:2<=m:=h1
   show(if m=1 then _ else H.con m)=none
   rw[if_neg (by omega)];exact(dX m (by omega)).2
 .intro m hm;have hm:2<=m:=hm;refine⟨?_,?_⟩
  .show(if m=1 then _ else H.val m)=none
   rw[if_neg (by omega)];exact(dX m (by omega)).1
  .show(if m=1 then _ else H.con m)=none
   rw[if_neg (by omega)];exact(dX m (by omega)).2
def pH(p:Int->Bool)(l:List Int):Option (List Int):=if l.length<=9223372036854775807 then some (l.filter fun x=> !p x)else none
theorem HK{f g:FuncId}{p:Int->Bool}(hb:∃fn,P.funcs[f]? =some fn/\(fn.name== "runtime.NumGoroutine")=false/\fn.body.isNone=false)
 (h1:∀(lA off cap:Nat)(zs:List Int)(w:World),Go.Sort.Holds (aj6 .i64) w lA off zs.toArray->zs.length<=9223372036854775807->zs.length<=cap->
   Calls P f #[.slice (some ⟨lA,off,none⟩) zs.length cap, .func (.func g) #[] #[]] w fun e w'=>e= .returned (.slice (some ⟨lA,off,none⟩) (zs.filter fun x=> !p x).length cap)/\∃q,w'=akd (aj6 .i64) (akl w q) lA off ((zs.filter fun x=> !p x)++ai9 (zs.length-(zs.filter fun x=> !p x).length) 0).toArray)
 (h2:∀(w:World),Calls P f #[.slice none 0 0, .func (.func g) #[] #[]] w fun e w'=>e= .returned (.slice none 0 0)/\∃q,w'=w.drewN q):
 aq P f ⟨⟨[(0, .val false (.own 0)),(1, .fn g [])],[(0, .own T ae)],[],1⟩,⟨[(0, .val false (.own 1))],[(1, .own T ae)],[],2⟩,fun x=>pH p x⟩:=by
 refine D3 (r:=ae) hb rfl fun{F w v l m}hm ho hF=>?_
 have hm:pH p l=some m:=hm;unfold pH at hm;split at hm
 case isFalse=>cases hm
 rename_i hlen;obtain rfl:=ai4 hm
 rcases sW ho with⟨rfl,rfl⟩|⟨g,o0,cap,cur,rfl,hg,ua,Mt,kz,hh⟩
 .refine(h2 w).mono fun e w' ⟨he,q,hw⟩=>⟨_,he,hw▸⟨rfl,rfl,rfl,ai8 _,fun _ _ _=>rfl⟩,hw▸?_,fun k hk=>hk⟩
  exact ho
 .have xh:(l.filter fun x=> !p x).length<=l.length:=List.length_filter_le _ _
  refine(h1 g o0 cap l w hh hlen ua).mono fun e w' ⟨he,n,hw⟩=>⟨_,he,?_,?_,fun k hk=>by simpa[bm,ajz]using hk⟩
  all_goals have hw:w'=akC (akd (aj6 .i64) (akl w n) g o0 ((l.filter fun x=> !p x)++ai9 (l.length-(l.filter fun x=> !p x).length) 0).toArray) #[]:=by rw[hw,BI]
  .have:=zD hw;exact⟨this.os,this.tape,this.output,this.size,fun k hk hn=>this.block k hk fun e=>hn (by simp[bm,ajz,e])⟩
  .have:=vL (d:=(l.filter fun x=> !p x)++ai9 (l.length-(l.filter fun x=> !p x).length) 0) ho hg kz Mt (by simp;omega) (l.filter fun x=> !p x).length (by simp) hw;rw[List.take_left]at this;exact this
end
end Go.Proofs.YtilaieogabgamaaGreatDoor
end
