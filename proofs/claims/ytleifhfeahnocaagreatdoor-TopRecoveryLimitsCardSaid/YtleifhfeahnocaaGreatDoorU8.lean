/- Joined texts: Del. -/
import Derived.Test.YtleifhfeahnocaaGreatDoorU5
import Derived.Shelf.SlicesE.DeleteFunc
import Derived.WalkKit
set_option linter.defProp false
open _root_.Bool renaming false->ag,true->af
open _root_.Option renaming none->ae,some->aa
open _root_.Go.Sort renaming ahead->ajN,grow->aj4,putRow->ajF
open _root_.List renaming length_filter_le->ajt,replicate->aiN
open _root_.Nat renaming le_refl->aiM,le_trans->aiY,lt_of_lt_of_le->ai4
open _root_.Option.some renaming inj->aiF
open _root_.Go.Value renaming int->ajm,ownBlock->aiT
namespace Go.Proofs.YtleifhfeahnocaaGreatDoor
open Go Go.RowKit
set_option maxRecDepth 100000
set_option linter.unusedSimpArgs false
set_option linter.unusedVariables false
set_option linter.defProp false
section
section
open Go.Shelf Go.Lib
variable {P:Program} {ρ:Go.Shelf.Ren}
set_option maxHeartbeats 4000000 in
set_option maxRecDepth 1000000 in
def Fp(L:SlLaysH.n10 P ρ)(fv:Value)(w:World):
 Calls P (ρ.f 10) #[.slice ae 0 0,fv] w λe w'=>e= .returned (.slice ae 0 0)/\∃q,w'=w.drewN q:=by
 have mixed:=L.mixed;have t0:=L.t0;have a0:=L.a0;have z0:=L.z0;have v0:=L.v0;have t3:=L.t3;have a3:=L.a3;have z3:=L.z3;have v3:=L.v3;have t4:=L.t4;have a4:=L.a4;have z4:=L.z4;have v4:=L.v4;have t22:=L.t22;have a22:=L.a22;have z22:=L.z22;have v22:=L.v22;have a23:=L.a23;have z23:=L.z23;have t25:=L.t25;have a25:=L.a25;have z25:=L.z25;have v25:=L.v25
 have e6:∀args w,(callFunc (ρ.f 6) args).run P w= .ok (.enter (ρ.f 6) args) w:=L.f6.enters rfl;have hIF:=AnyE.slices_IndexFunc_empty (P:=P) (ρ:=ρ) {L with} ae 0 fv w;obtain⟨_,_,FG⟩:=L.f10
 go_enter FG,SlBodyH.n10_ntmps ρ
 go_wp2_with (go_at_fn (ρ.f 6);refine hIF.mono ?_;rintro e w' ⟨rfl,rfl⟩)
 go_ret
 exact⟨rfl,0,rfl⟩
end
section
variable {P:Program} {w w':World} {F:Nat->Prop} {T:TypeId}
def Fq{f g:FuncId}{r:Row}{fn:List r.den->Option (List r.den)}(hb:∃fn,P.funcs[f]? =aa fn/\(fn.name== "runtime.NumGoroutine")=ag/\fn.body.isNone=ag)
 (hr:r.beq r=af)
 (hc:∀{F:Nat->Prop}{w:World}{v:Value}{l m:List r.den},fn l=aa m->Own 0 F w T r v l->(∀b,F b->b<w.heap.size)->Calls P f #[v, .func (.func g) #[] #[]] w λe w'=>∃v',e= .returned v'/\Ext (bF v) w w'/\Own 0 F w' T r v' m/\∀k,bF v' k->bF v k):
 fN P f ⟨⟨[(0, .val ag (.own 0)),(1, .fn g [])],[(0, .own T r)],[],1⟩,⟨[(0, .val ag (.own 1))],[(1, .own T r)],[],2⟩,fn⟩:=by
 refine⟨hb,λx y rC args w H F G hlen gN cH eV hG=>?_⟩;have eV:jd H 1:=eV
 match args,hlen with
 |[v,u],_=>
 have hx:(iL 0 [(0,OS.own T r)] (de [(0,SS.val ag (.own 0)),(1, .fn g [])] (dG [.slice r] x)).2)=[(0,(0, .own T r x))]:=by
  show[(0,(0,(cD (.own T r) [⟨.slice r,x⟩]).1))]=_
  simp only[cD,hr,cond_true]
 have hy:(iL 1 [(1,OS.own T r)] (de [(0,SS.val ag (.own 1))] (dG [.slice r] y)).2)=[(1,(1, .own T r y))]:=by
  show[(1,(1,(cD (.own T r) [⟨.slice r,y⟩]).1))]=_
  simp only[cD,hr,cond_true]
 have cH:aL (λk=>w.heap.size<=k\/G k) H F w (find [(0,(0,Th.own T r x))]) 1:=by rw[<-hx];exact cH
 have hd:aG H F w (.val ag (.own 0)) v:=gN 0 _ rfl;obtain⟨cs,⟨v',hv,h1,rfl⟩,_,rB⟩:=hd
 obtain rfl:v'=v:=by have:=rB rfl;simpa using this
 have hu:aG H F w (.fn g []) u:=gN 1 _ rfl;obtain⟨vs,hu,Y2⟩:=hu;obtain rfl:vs=[]:=Y2;obtain rfl:u= .func (.func g) #[] #[]:=hu;have ed:=cH.own rfl hv;obtain⟨v2,si,cP⟩:=cH.obj 0 0 _ rfl;rw[hv]at si;obtain rfl:=aiF si;have xM:=eV 1 (aiM _)
 refine(hc rC ed cH.lt).mono λe w' ⟨v3,he,bW,gP,Cp⟩=>?_
 have TN:v3.oneCell'=af:=(lU.one gP.2)
 have hle:H.le ((H.bR 1 (.own T r y)).cE 1 v3):=⟨λo u h=>by
  show(if o=1 then aa v3 else H.val o)=aa u
  rw[ai (λe=>by rw[e,xM.1]at h;cases h)]
  exact h,(aK.gD (t:= .own T r y) xM.2).con,(aK.gD (t:= .own T r y) xM.2).sub⟩
 refine⟨[v3],he,rfl,(H.bR 1 (.own T r y)).cE 1 v3,F,⟨bW.os,bW.tape,bW.output,bW.size,λk hk hn=>bW.block k hk λhm=>?_⟩,hle,λb h=>h,λb h=> .inl h,λt d h=>?_,?_,?_⟩
 .rcases cP.use k hm with h|h
  .omega
  .exact hn h
 .have ht:t=0/\d= .val ag (.own 1):=by
   have h:find [(0,aI.val ag (.own 1))] t=aa d:=h;by_cases h0:t=0
   .subst h0;exact⟨rfl,(aiF h).symm⟩
   .have e:find [(0,aI.val ag (.own 1))] t=ae:=nE h0;rw[e]at h;cases h
  obtain⟨rfl,rfl⟩:=ht;exact⟨[v3],⟨v3,by simp[aK.cE],TN,rfl⟩,rfl,λ_=>rfl⟩
 .show aL _ _ F w' (find (iL 1 [(1,OS.own T r)] (de [(0,SS.val ag (.own 1))] (dG [.slice r] y)).2)) 2
  rw[hy]
  have key:∀o x,find [(1,(1,Th.own T r y))] o=aa x->o=1/\x=(1,Th.own T r y):=λo x h=>by
   by_cases h0:o=1
   .subst h0;exact⟨rfl,(aiF h).symm⟩
   .have:find [(1,(1,Th.own T r y))] o=ae:=nE h0;rw[this]at h;cases h
  refine⟨λo s t ho=>?_,λo o' s s' t t' u u' du ho jS=>?_,λm h1 h2=>⟨?_,?_⟩,λb hb=>ai4 (cH.lt b hb) bW.size,λb hb=> .inl (aiY bW.size hb),cH.gl.step (Step.ext bW cH.lt ed.no)⟩
  .obtain⟨rfl,h⟩:=key o _ ho;cases h;exact⟨v3,by simp[aK.cE],TN,by simp[aK.bR,aK.cE,Th.base],Own.to _ gP,gP.no,gP.lt,λk hk=>cP.use k (Cp k hk)⟩
  .exact absurd ((key o _ ho).1.trans (key o' _ jS).1.symm) du
  .have h1:2<=m:=h1
   show(if m=1 then _ else H.val m)=ae
   rw[ai (by omega)];exact(eV m (by omega)).1
  .have h1:2<=m:=h1
   show(if m=1 then _ else H.con m)=ae
   rw[ai (by omega)];exact(eV m (by omega)).2
 .intro m hm;have hm:2<=m:=hm;refine⟨?_,?_⟩
  .show(if m=1 then _ else H.val m)=ae
   rw[ai (by omega)];exact(eV m (by omega)).1
  .show(if m=1 then _ else H.con m)=ae
   rw[ai (by omega)];exact(eV m (by omega)).2
def pq(p:Int->Bool)(l:List Int):Option (List Int):=if l.length<=9223372036854775807 then aa (l.filter λx=> !p x)else ae
def Jh{f g:FuncId}{p:Int->Bool}(hb:∃fn,P.funcs[f]? =aa fn/\(fn.name== "runtime.NumGoroutine")=ag/\fn.body.isNone=ag)
 (h1:∀(ny off cap:Nat)(zs:List Int)(w:World),Go.Sort.Holds (ajm .i64) w ny off zs.toArray->zs.length<=9223372036854775807->zs.length<=cap->
   Calls P f #[.slice (aa ⟨ny,off,ae⟩) zs.length cap, .func (.func g) #[] #[]] w λe w'=>e= .returned (.slice (aa ⟨ny,off,ae⟩) (zs.filter λx=> !p x).length cap)/\∃q,w'=ajF (ajm .i64) (ajN w q) ny off ((zs.filter λx=> !p x)++aiN (zs.length-(zs.filter λx=> !p x).length) 0).toArray)
 (h2:∀(w:World),Calls P f #[.slice ae 0 0, .func (.func g) #[] #[]] w λe w'=>e= .returned (.slice ae 0 0)/\∃q,w'=w.drewN q):
 fN P f ⟨⟨[(0, .val ag (.own 0)),(1, .fn g [])],[(0, .own T aB)],[],1⟩,⟨[(0, .val ag (.own 1))],[(1, .own T aB)],[],2⟩,λx=>pq p x⟩:=by
 refine Fq (r:=aB) hb rfl λ{F w v l m}hm ho hF=>?_
 have hm:pq p l=aa m:=hm;unfold pq at hm;split at hm
 case isFalse=>cases hm
 rename_i hlen;obtain rfl:=aiF hm
 rcases ud ho with⟨rfl,rfl⟩|⟨g,o0,cap,cur,rfl,hg,vg,Nq,kP,hh⟩
 .refine(h2 w).mono λe w' ⟨he,q,hw⟩=>⟨_,he,hw▸⟨rfl,rfl,rfl,aiM _,λ_ _ _=>rfl⟩,hw▸?_,λk hk=>hk⟩
  exact ho
 .have QT:(l.filter λx=> !p x).length<=l.length:=ajt _ _
  refine(h1 g o0 cap l w hh hlen vg).mono λe w' ⟨he,n,hw⟩=>⟨_,he,?_,?_,λk hk=>by simpa[bF,aiT]using hk⟩
  all_goals have hw:w'=aj4 (ajF (ajm .i64) (ajN w n) g o0 ((l.filter λx=> !p x)++aiN (l.length-(l.filter λx=> !p x).length) 0).toArray) #[]:=by rw[hw,C4]
  .have:=AX hw;exact⟨this.os,this.tape,this.output,this.size,λk hk hn=>this.block k hk λe=>hn (by simp[bF,aiT,e])⟩
  .have:=wS (d:=(l.filter λx=> !p x)++aiN (l.length-(l.filter λx=> !p x).length) 0) ho hg kP Nq (by simp;omega) (l.filter λx=> !p x).length (by simp) hw;rw[List.take_left]at this;exact this
end
end
end Go.Proofs.YtleifhfeahnocaaGreatDoor
