/- Joined texts: Del. -/
import Derived.Test.YtleifhfeahnocaaGreatDoorU5
import Derived.Shelf.SlicesE.DeleteFunc
import Derived.WalkKit
set_option linter.defProp false
open _root_.Bool renaming false->ag,true->af
open _root_.Option renaming none->ae,some->aa
open _root_.Go.Sort renaming ahead->aki,grow->akz,putRow->akb
open _root_.List renaming length_filter_le->aj2,replicate->aji
open _root_.Nat renaming le_refl->ajh,le_trans->ajs,lt_of_lt_of_le->ajA
open _root_.Option.some renaming inj->aja
open _root_.Go.Value renaming int->ajV,ownBlock->ajo
namespace Go.Proofs.YtleifhfeahnocaaGreatDoor
open Go Go.RowKit
set_option maxRecDepth 100000
set_option linter.unusedSimpArgs false
set_option linter.unusedVariables false
set_option linter.defProp false
section
section
open Go.Shelf Go.Lib
variable {P:Program} {ρ:Go.Shelf.Ren}
set_option maxHeartbeats 4000000 in
set_option maxRecDepth 1000000 in
def FI(L:SlLaysH.n10 P ρ)(fv:Value)(w:World):
 Calls P (ρ.f 10) #[.slice ae 0 0,fv] w λe w'=>e= .returned (.slice ae 0 0)/\∃q,w'=w.drewN q:=by
 have mixed:=L.mixed;have t0:=L.t0;have a0:=L.a0;have z0:=L.z0;have v0:=L.v0;have t3:=L.t3;have a3:=L.a3;have z3:=L.z3;have v3:=L.v3;have t4:=L.t4;have a4:=L.a4;have z4:=L.z4;have v4:=L.v4;have t22:=L.t22;have a22:=L.a22;have z22:=L.z22;have v22:=L.v22;have a23:=L.a23;have z23:=L.z23;have t25:=L.t25;have a25:=L.a25;have z25:=L.z25;have v25:=L.v25
 have e6:∀args w,(callFunc (ρ.f 6) args).run P w= .ok (.enter (ρ.f 6) args) w:=L.f6.enters rfl;have hIF:=AnyE.slices_IndexFunc_empty (P:=P) (ρ:=ρ) {L with} ae 0 fv w;obtain⟨_,_,FG⟩:=L.f10
 go_enter FG,SlBodyH.n10_ntmps ρ
 go_wp2_with (go_at_fn (ρ.f 6);refine hIF.mono ?_;rintro e w' ⟨rfl,rfl⟩)
 go_ret
 exact⟨rfl,0,rfl⟩
end
section
variable {P:Program} {w w':World} {F:Nat->Prop} {T:TypeId}
def FJ{f g:FuncId}{r:Row}{fn:List r.den->Option (List r.den)}(hb:∃fn,P.funcs[f]? =aa fn/\(fn.name== "runtime.NumGoroutine")=ag/\fn.body.isNone=ag)
 (hr:r.beq r=af)
 (hc:∀{F:Nat->Prop}{w:World}{v:Value}{l m:List r.den},fn l=aa m->Own 0 F w T r v l->(∀b,F b->b<w.heap.size)->Calls P f #[v, .func (.func g) #[] #[]] w λe w'=>∃v',e= .returned v'/\Ext (bH v) w w'/\Own 0 F w' T r v' m/\∀k,bH v' k->bH v k):
 fZ P f ⟨⟨[(0, .val ag (.own 0)),(1, .fn g [])],[(0, .own T r)],[],1⟩,⟨[(0, .val ag (.own 1))],[(1, .own T r)],[],2⟩,fn⟩:=by
 refine⟨hb,λx y rU args w H F G hlen gY cJ fe hG=>?_⟩;have fe:jr H 1:=fe
 match args,hlen with
 |[v,u],_=>
 have hx:(iV 0 [(0,OS.own T r)] (dg [(0,SS.val ag (.own 0)),(1, .fn g [])] (dJ [.slice r] x)).2)=[(0,(0, .own T r x))]:=by
  show[(0,(0,(cE (.own T r) [⟨.slice r,x⟩]).1))]=_
  simp only[cE,hr,cond_true]
 have hy:(iV 1 [(1,OS.own T r)] (dg [(0,SS.val ag (.own 1))] (dJ [.slice r] y)).2)=[(1,(1, .own T r y))]:=by
  show[(1,(1,(cE (.own T r) [⟨.slice r,y⟩]).1))]=_
  simp only[cE,hr,cond_true]
 have cJ:aL (λk=>w.heap.size<=k\/G k) H F w (find [(0,(0,Th.own T r x))]) 1:=by rw[<-hx];exact cJ
 have hd:aH H F w (.val ag (.own 0)) v:=gY 0 _ rfl;obtain⟨cs,⟨v',hv,h1,rfl⟩,_,rT⟩:=hd
 obtain rfl:v'=v:=by have:=rT rfl;simpa using this
 have hu:aH H F w (.fn g []) u:=gY 1 _ rfl;obtain⟨vs,hu,Zw⟩:=hu;obtain rfl:vs=[]:=Zw;obtain rfl:u= .func (.func g) #[] #[]:=hu;have eh:=cJ.own rfl hv;obtain⟨v2,sJ,cT⟩:=cJ.obj 0 0 _ rfl;rw[hv]at sJ;obtain rfl:=aja sJ;have yf:=fe 1 (ajh _)
 refine(hc rU eh cJ.lt).mono λe w' ⟨v3,he,bY,hZ,CF⟩=>?_
 have Ui:v3.oneCell'=af:=(l5.one hZ.2)
 have hle:H.le ((H.bU 1 (.own T r y)).cF 1 v3):=⟨λo u h=>by
  show(if o=1 then aa v3 else H.val o)=aa u
  rw[ai (λe=>by rw[e,yf.1]at h;cases h)]
  exact h,(aK.gN (t:= .own T r y) yf.2).con,(aK.gN (t:= .own T r y) yf.2).sub⟩
 refine⟨[v3],he,rfl,(H.bU 1 (.own T r y)).cF 1 v3,F,⟨bY.os,bY.tape,bY.output,bY.size,λk hk hn=>bY.block k hk λhm=>?_⟩,hle,λb h=>h,λb h=> .inl h,λt d h=>?_,?_,?_⟩
 .rcases cT.use k hm with h|h
  .omega
  .exact hn h
 .have ht:t=0/\d= .val ag (.own 1):=by
   have h:find [(0,aI.val ag (.own 1))] t=aa d:=h;by_cases h0:t=0
   .subst h0;exact⟨rfl,(aja h).symm⟩
   .have e:find [(0,aI.val ag (.own 1))] t=ae:=nN h0;rw[e]at h;cases h
  obtain⟨rfl,rfl⟩:=ht;exact⟨[v3],⟨v3,by simp[aK.cF],Ui,rfl⟩,rfl,λ_=>rfl⟩
 .show aL _ _ F w' (find (iV 1 [(1,OS.own T r)] (dg [(0,SS.val ag (.own 1))] (dJ [.slice r] y)).2)) 2
  rw[hy]
  have key:∀o x,find [(1,(1,Th.own T r y))] o=aa x->o=1/\x=(1,Th.own T r y):=λo x h=>by
   by_cases h0:o=1
   .subst h0;exact⟨rfl,(aja h).symm⟩
   .have:find [(1,(1,Th.own T r y))] o=ae:=nN h0;rw[this]at h;cases h
  refine⟨λo s t ho=>?_,λo o' s s' t t' u u' dw ho jY=>?_,λm h1 h2=>⟨?_,?_⟩,λb hb=>ajA (cJ.lt b hb) bY.size,λb hb=> .inl (ajs bY.size hb),cJ.gl.step (Step.ext bY cJ.lt eh.no)⟩
  .obtain⟨rfl,h⟩:=key o _ ho;cases h;exact⟨v3,by simp[aK.cF],Ui,by simp[aK.bU,aK.cF,Th.base],Own.to _ hZ,hZ.no,hZ.lt,λk hk=>cT.use k (CF k hk)⟩
  .exact absurd ((key o _ ho).1.trans (key o' _ jY).1.symm) dw
  .have h1:2<=m:=h1
   show(if m=1 then _ else H.val m)=ae
   rw[ai (by omega)];exact(fe m (by omega)).1
  .have h1:2<=m:=h1
   show(if m=1 then _ else H.con m)=ae
   rw[ai (by omega)];exact(fe m (by omega)).2
 .intro m hm;have hm:2<=m:=hm;refine⟨?_,?_⟩
  .show(if m=1 then _ else H.val m)=ae
   rw[ai (by omega)];exact(fe m (by omega)).1
  .show(if m=1 then _ else H.con m)=ae
   rw[ai (by omega)];exact(fe m (by omega)).2
def pE(p:Int->Bool)(l:List Int):Option (List Int):=if l.length<=9223372036854775807 then aa (l.filter λx=> !p x)else ae
def Jy{f g:FuncId}{p:Int->Bool}(hb:∃fn,P.funcs[f]? =aa fn/\(fn.name== "runtime.NumGoroutine")=ag/\fn.body.isNone=ag)
 (h1:∀(nG off cap:Nat)(zs:List Int)(w:World),Go.Sort.Holds (ajV .i64) w nG off zs.toArray->zs.length<=9223372036854775807->zs.length<=cap->
   Calls P f #[.slice (aa ⟨nG,off,ae⟩) zs.length cap, .func (.func g) #[] #[]] w λe w'=>e= .returned (.slice (aa ⟨nG,off,ae⟩) (zs.filter λx=> !p x).length cap)/\∃q,w'=akb (ajV .i64) (aki w q) nG off ((zs.filter λx=> !p x)++aji (zs.length-(zs.filter λx=> !p x).length) 0).toArray)
 (h2:∀(w:World),Calls P f #[.slice ae 0 0, .func (.func g) #[] #[]] w λe w'=>e= .returned (.slice ae 0 0)/\∃q,w'=w.drewN q):
 fZ P f ⟨⟨[(0, .val ag (.own 0)),(1, .fn g [])],[(0, .own T aB)],[],1⟩,⟨[(0, .val ag (.own 1))],[(1, .own T aB)],[],2⟩,λx=>pE p x⟩:=by
 refine FJ (r:=aB) hb rfl λ{F w v l m}hm ho hF=>?_
 have hm:pE p l=aa m:=hm;unfold pE at hm;split at hm
 case isFalse=>cases hm
 rename_i hlen;obtain rfl:=aja hm
 rcases uy ho with⟨rfl,rfl⟩|⟨g,o0,cap,cur,rfl,hg,vA,NL,kS,hh⟩
 .refine(h2 w).mono λe w' ⟨he,q,hw⟩=>⟨_,he,hw▸⟨rfl,rfl,rfl,ajh _,λ_ _ _=>rfl⟩,hw▸?_,λk hk=>hk⟩
  exact ho
 .have Qd:(l.filter λx=> !p x).length<=l.length:=aj2 _ _
  refine(h1 g o0 cap l w hh hlen vA).mono λe w' ⟨he,n,hw⟩=>⟨_,he,?_,?_,λk hk=>by simpa[bH,ajo]using hk⟩
  all_goals have hw:w'=akz (akb (ajV .i64) (aki w n) g o0 ((l.filter λx=> !p x)++aji (l.length-(l.filter λx=> !p x).length) 0).toArray) #[]:=by rw[hw,Dj]
  .have:=Bm hw;exact⟨this.os,this.tape,this.output,this.size,λk hk hn=>this.block k hk λe=>hn (by simp[bH,ajo,e])⟩
  .have:=xg (d:=(l.filter λx=> !p x)++aji (l.length-(l.filter λx=> !p x).length) 0) ho hg kS NL (by simp;omega) (l.filter λx=> !p x).length (by simp) hw;rw[List.take_left]at this;exact this
end
end
end Go.Proofs.YtleifhfeahnocaaGreatDoor
