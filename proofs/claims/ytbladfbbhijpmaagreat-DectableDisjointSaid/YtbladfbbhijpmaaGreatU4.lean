/- Joined texts: Call2 Ifc Exec Draw2 Draw4. -/
import Derived.Test.YtbladfbbhijpmaaGreatU3
open _root_.Bool renaming false->Yy,true->Yx
open _root_.Option renaming none->Yw,isSome_iff_exists->Xo,none_or->X3
open _root_.Nat renaming beq->WI,blt->Xt,le_refl->WH,lt_of_lt_of_le->Xg,le_trans->Xa
open _root_.Option.some renaming inj->WD,injEq->WL
open _root_.Prod.mk renaming injEq->XF,inj->X9
open _root_.List renaming getElem?_drop->WV,getElem?_take->W5,mem_cons_of_mem->Xk
open _root_.Go.Result renaming andThen->WT
open _root_.Go.Sem renaming run_bind->Xd
open _root_.Array renaming toArray_toList->Xq
open _root_.List.cons renaming injEq->XT
namespace Go.Proofs.YtbladfbbhijpmaaGreat
open Go Go.RowKit
set_option maxRecDepth 100000
set_option linter.unusedSimpArgs false
set_option linter.unusedVariables false
set_option linter.defProp false
section
def eH:Nat->List ag->List (Nat×ag)
 |_,[]=>[]
 |k,d::ds=>(k,d)::eH (k+1) ds
def Im(n:Nat)(bs:Bs)(aA:List (Nat×(Nat×Th)))(m:Nat)(j:Nat):Nat:=
 bif Xt j m then(match find bs j with
  |some (some o)=>(match find aA o with
   |some _=>o
   |none=>n+j)
  |_=>n+j)else n+j
def kH(aA:List (Nat×(Nat×Th))):List Nat->List (Nat×(Nat×Th))
 |[]=>[]
 |o::os=>match find aA o with
  |some (s,t)=>bif cN t then(o,(s,t))::kH aA os else kH aA os
  |none=>kH aA os
def always(_:Row):Bool:=Yx
def Ae(sg:nq):Bool:=mS Row.wj sg.out.ah&&sO Row.wj sg.out.objs
def oM{R:Type}(sg:nq)(n:Nat)(bs:Bs)(aA:List (Nat×(Nat×Th)))(nd:List Nat)(y:bZ sg.out.rows)(k:cI->Option R):Option R:=
 match El (bX (nM (Im n bs aA sg.inn.nxt) sg.out.ah) (cm _ y)).1 with
 |some D=>bif Ae sg then k {dst:=D,eat:=ek bs,make:=ec n (wi (Im n bs aA sg.inn.nxt) sg.out.objs) (bX (nM (Im n bs aA sg.inn.nxt) sg.out.ah) (cm _ y)).2}
   else k {dst:=D,eat:=ek bs++nd,make:=ec n (wi (Im n bs aA sg.inn.nxt) sg.out.objs) (bX (nM (Im n bs aA sg.inn.nxt) sg.out.ah) (cm _ y)).2++kH aA nd}
 |none=>Yw
def kh{R:Type}(objs:List (Nat×(Nat×Th)))(n:Nat)(f:FuncId)(ds:List ag)(k:cI->Option R):List (Nat×nq)->Option R
 |[]=>Yw
 |(g,sg)::tab=>bif WI g f then(match sM 0 [] sg.inn (eH 0 ds) objs with
    |some (x,bs,aA)=>bif WI ds.length sg.inn.ah.length&&oL 0 sg.out.ah&&Nat.ble sg.out.nxt 16&&Nat.ble sg.out.objs.length 16&&(mS always sg.out.ah)then
      (sg.fn x).bind λy=>oM sg n bs aA (sL 0 sg.inn (eH 0 ds) objs) y k else Yw
    |none=>kh objs n f ds k tab)else kh objs n f ds k tab
def Lu(c:Nat×List Bool×Nat):ag:= .ptr c.1 c.2.1 c.2.2
theorem qT{H:ai}{F:Nat->Prop}{w:World}:{cs:List (Nat×List Bool×Nat)}->{vs:List Value}->gf H cs vs->dp H F w (cs.map Lu) vs
 |[],_,h=>h
 |_::_,_,h=>by obtain⟨v,us,e,h1,h3⟩:=h;exact⟨v,us,e,h1,qT h3⟩
theorem nO{H:ai}{F:Nat->Prop}{w:World}:{ds es:List ag}->{vs us:List Value}->dp H F w ds vs->dp H F w es us->dp H F w (ds++es) (vs++us)
 |[],_,vs,_,h,h'=>by rw[show vs=[]from h];exact h'
 |_::_,_,_,_,h,h'=>by obtain⟨v,us,rfl,h1,h2⟩:=h;exact⟨v,_,rfl,h1,nO h2 h'⟩
def Af(rd:Operand->Option ag)(x:Operand):Option (FuncId×List (Nat×List Bool×Nat)):=
 match rd x with
 |some (.fn f caps)=>some (f,caps)
 |_=>Yw
def sS{R:Type}(tab:List (Nat×nq))(rd:Operand->Option ag)(objs:List (Nat×(Nat×Th)))(n:Nat)(x:Operand)(args:List Operand)(k:cI->Option R):Option R:=
 match Af rd x with
 |some (f,caps)=>match nE rd args with
  |some ds=>kh objs n f (ds++caps.map Lu) k tab
  |none=>Yw
 |none=>Yw
section
variable {P:Program} {ρ:Nat->Value} {w w':World} {H H':ai} {F F':Nat->Prop} {U:Nat->Prop} {n:Nat} {R:Type}
variable {ty:TypeId} {pos:String} {aft:Array Edge} {dst:Option Nat}
theorem k8:{ds:List ag}->{vs:List Value}->{k:Nat}->dp H F w ds vs->∀t d,find (eH k ds) t=some d->k<=t/\af H F w d (vs.getD (t-k) undef)
 |[],_,_,_,_,_,h=>by cases h
 |d0::ds,vs,k,h,t,d,hf=>by
  obtain⟨v,us,rfl,h1,h2⟩:=h;have ml:find ((k,d0)::eH (k+1) ds) t=some d:=hf;rw[aw]at ml;split at ml
  .rename_i e;subst e;obtain rfl:=WD ml;exact⟨WH _,by simpa using h1⟩
  .obtain⟨h3,h4⟩:=k8 h2 t d ml;refine⟨by omega,?_⟩;rw[show t-k=(t-(k+1))+1 from by omega];simpa using h4
theorem iF{aA:List (Nat×(Nat×Th))}:{nd:List Nat}->{o s:Nat}->{t:Th}->find (kH aA nd) o=some (s,t)->o∈nd/\find aA o=some (s,t)/\cN t=Yx
 |[],_,_,_,h=>by cases h
 |o0::nd,o,s,t,h=>by
  unfold kH at h;split at h
  .rename_i s0 t0 h0
   cases hb:cN t0 with
   |true=>
    rw[hb,cond_true,aw]at h;split at h
    .rename_i e;simp only[WL,XF]at h;obtain⟨rfl,rfl⟩:=h;subst e;exact⟨by simp,h0,hb⟩
    .obtain⟨a,b⟩:=iF h;exact⟨by simp[a],b⟩
   |false=>
    rw[hb,cond_false]at h;obtain⟨a,b⟩:=iF h;exact⟨by simp[a],b⟩
  .obtain⟨a,b⟩:=iF h;exact⟨by simp[a],b⟩
theorem nP:{l:List (Nat×OS)}->sO always l=Yx
 |[]=>rfl
 |(t,s)::l=>by
  have ht:∀sh:Sh,sh.fc always=Yx:=by
   intro sh
   induction sh with
   |leaf r=>rfl
   |own j=>rfl
   |nil=>rfl
   |junk n=>rfl
   |pair a b OE OF=>show(a.fc always&&b.fc always)=Yx;rw[OE,OF];rfl
  have:s.fc always=Yx:=by
   cases s with
   |box T t=>exact ht t
   |own T r=>rfl
   |map T K agg V=>rfl
   |deep T d=>
    have hd:∀d:DR,d.fc always=Yx:=by
     intro d
     induction d with
     |leaf r=>rfl
     |sl T d ih=>exact ih
     |pair a b OE OF=>show(a.fc always&&b.fc always)=Yx;rw[OE,OF];rfl
    exact hd d
   |smap T K agg V it=>rfl
  show(s.fc always&&sO always l)=Yx
  rw[this,nP];rfl
def gY(H H':ai)(n:Nat)(cons:List (Nat×(Nat×Th)))(m0:Nat):ai where
 val m:=if n<=m/\m<n+16 then H'.val (m-n)else H.val m
 con m:=if n<=m/\m<n+16 then nL cons m else H.con m
 sub m:=if n<=m/\m<n+16 then H'.sub (m-n+m0)else H.sub m
theorem BO{dd:Option Nat}{f:FuncId}{fn:Func}{g:Operand}{args:Array Operand}{vs us:List Value}{ph:Array TypeId}(hf:P.funcs[f]? =some fn)(hn:(fn.name== "runtime.NumGoroutine")=Yy)(hb:fn.body.isNone=Yy)(N4:args.toList.map (ev ρ)=vs)(hg:ev ρ g= .func (.func f) #[] us.toArray):
 (execOp (ev ρ) ⟨dd, .call {callee:= .value g,args:=args,argTypes:=ph},ty,pos,aft,Yw⟩).run P w= .ok (.enter f (vs++us).toArray) w:=by
 subst N4
 have Dw:¬fn.name= "runtime.NumGoroutine" :=by simpa using hn
 have pU:¬fn.body=Yw:=by
  intro e;rw[e]at hb;cases hb
 have e:(Array.map (ev ρ) args++us.toArray)=(args.toList.map (ev ρ)++us).toArray:=by simp
 simp[execOp,resolve,hg,Deferred.ofValue,invoke,callFunc,hf,Dw,pU,go_sem,e]
theorem BP{sg:nq}{f:FuncId}(rS:fK P f sg){objs:List (Nat×(Nat×Th))}{op:Op}{k:cI->Option R}{q:R}{ds:List ag}{vs:List Value}{x:bZ sg.inn.rows}{bs:Bs}{aA:List (Nat×(Nat×Th))}
 (sT:dp H F w ds vs)(aV:∀fn,P.funcs[f]? =some fn->(fn.name== "runtime.NumGoroutine")=Yy->fn.body.isNone=Yy->(execOp (ev ρ) ⟨dst,op,ty,pos,aft,Yw⟩).run P w= .ok (.enter f vs.toArray) w)(hs:ak U H F w (find objs) n)
 (OG:sM 0 [] sg.inn (eH 0 ds) objs=some (x,bs,aA))
 (h':(bif WI ds.length sg.inn.ah.length&&oL 0 sg.out.ah&&Nat.ble sg.out.nxt 16&&Nat.ble sg.out.objs.length 16&&(mS always sg.out.ah)then
   (sg.fn x).bind λy=>oM sg n bs aA (sL 0 sg.inn (eH 0 ds) objs) y k else Yw)=some q):
 ∃e,k e=some q/\bw P U H F w ρ (find objs) n ⟨dst,op,ty,pos,aft,Yw⟩ e:=by
 obtain⟨hc,h'⟩:=ax h';obtain⟨hc,Tp⟩:=bC hc;obtain⟨hc,Ih⟩:=bC hc;obtain⟨hc,GM⟩:=bC hc;obtain⟨rL,vo⟩:=bC hc;have rL:=beq_true rL
 have GM:sg.out.nxt<=16:=by simpa using GM
 have Ih:sg.out.objs.length<=16:=by simpa using Ih
 obtain⟨y,hy,h⟩:=bind_some h';clear h';obtain⟨⟨fn,Ot,Tq,Ts⟩,iP⟩:=rS;have Rt:=fM sT
 let H0:ai:=⟨λ_=>Yw,λ_=>Yw,λ_ _=>False⟩
 have G3:ak U H0 F w (find (del [] [])) 0:=⟨λ_ _ _ h=>(by cases h),λ_ _ _ _ _ _ _ _ _ h=>(by cases h),λ_ _ _=>⟨rfl,rfl⟩,hs.lt,hs.new,hs.gl⟩
 have Tt:bx H0 F w H F w:=⟨⟨λ_ _ h=>(by cases h),λ_ _ h=>(by cases h),λ_ _ h=>(by cases h)⟩,Step.refl F w⟩
 have eA:∀t d,find (eH 0 ds) t=some d->af H F w d (vs.getD t undef):=λt d hd=>by simpa using(k8 sT t d hd).2
 obtain⟨F1,H1,oA,xO,Gi,rQ,wh,oJ,Ac,Jc,wq⟩:=qR (U':=λk=>w.heap.size<=k\/∃o∈ek bs,∃s t v,find aA o=some (s,t)/\H.val o=some v/\fp (H.sub s) v t k) (ns:=[]) (objs0:=[]) (ρ:=λt=>vs.getD t undef) OG G3 (λ_ _=>⟨rfl,rfl⟩) Tt hs eA;have wq:=wq (λb hb=> .inl hb) (λo s t v k h1 h2 h3 h4=> .inr ⟨o,h1,s,t,v,h2,h3,h4⟩) (λ_ _ _ _ _ h=>by cases h);generalize hG:(λk=>∃o∈ek bs,∃s t v,find aA o=some (s,t)/\H.val o=some v/\fp (H.sub s) v t k)=G
 have Lv:∀k,G k->¬F1 k:=by
  rw[<-hG]
  rintro k ⟨o,_,s,t,v,h1,h2,h3⟩
  obtain⟨v',cM,bF⟩:=oA.obj _ _ _ h1;rw[h2]at cM;obtain rfl:=WD cM;exact bF.no k h3
 have OH:∀k,G k->bn H (find objs) (ek bs) k:=by
  rw[<-hG]
  rintro k ⟨o,ho,s,t,v,h1,h2,h3⟩
  rcases fC rQ o s t h1 with h4|h4
  .exact⟨o,ho,s,t,v,h4,h2,h3⟩
  .exact(eh h4 h3).elim
 have Lx:ak (λk=>w.heap.size<=k\/G k) H1 F1 w (find (ec 0 sg.inn.objs (bX sg.inn.ah (cm sg.inn.rows x)).2)) sg.inn.nxt:=by
  rw[show del [] ([]:List (Nat×(Nat×Th)))=[]from rfl,List.append_nil]at wq;rw[<-hG];exact wq
 have Ly:=iP x y hy vs w H1 F1 G (by omega) Jc Lx Ac Lv;generalize yi:sL 0 sg.inn (eH 0 ds) objs=nd at h Gi rQ;generalize OI:Im n bs aA sg.inn.nxt=φ at h;unfold oM at h;rw[OI]at h;split at h
 case h_2=>cases h
 rename_i D hD
 have ox:∀(e:cI),e.dst=D->(∀(w':World)(us:List Value)(H':ai)(F':Nat->Prop),us.length=sg.out.ah.length->Ext G w w'->H1.le H'->(∀b,F1 b->F' b)->(∀b,F' b->F1 b\/w.heap.size<=b\/G b)->
  (∀t d,find (bX sg.out.ah (cm sg.out.rows y)).1 t=some d->af H' F' w' d (us.getD t undef))->ak (λk=>w.heap.size<=k\/G k) H' F' w' (find (ec sg.inn.nxt sg.out.objs (bX sg.out.ah (cm sg.out.rows y)).2)) sg.out.nxt->eF H' sg.out.nxt->gW H F w (find objs) n e (rR us) w')->
  bw P U H F w ρ (find objs) n ⟨dst,op,ty,pos,aft,Yw⟩ e:=by
  intro e he my;have aV:=aV fn Ot Tq Ts;unfold bw bj;rw[aV]
  refine Ly.mono λe' w' ⟨us,he',Eo,H',F',a1,a2,a3,a4,a5,a6,a7⟩=>⟨_,he',my w' us H' F' Eo a1 a2 a3 a4 a5 a6 a7⟩
 generalize wg:ec n (wi φ sg.out.objs) (bX (nM φ sg.out.ah) (cm sg.out.rows y)).2=cons at h;have OJ:=wk (φ:=φ) sg.out.ah (cm sg.out.rows y)
 have Jd:∀{H':ai},H1.le H'->eF H' sg.out.nxt->Ren H' (gY H H' n cons sg.inn.nxt) φ/\H.le (gY H H' n cons sg.inn.nxt)/\∀m,(m<n\/n+16<=m)->(H.val m=Yw->(gY H H' n cons sg.inn.nxt).val m=Yw)/\(H.con m=Yw->(gY H H' n cons sg.inn.nxt).con m=Yw):=by
  intro H' hle tP
  have yB:∀j v,H'.val j=some v->j<sg.out.nxt:=λj v hj=>by
   rcases Nat.lt_or_ge j sg.out.nxt with g|g
   .exact g
   .rw[(tP j g).1]at hj;cases hj
  have hold:∀o v,H.val o=some v->¬(n<=o/\o<n+16):=λo v ho hc=>by
   rw[(hs.fresh o hc.1 hc.2).1]at ho;cases ho
  refine⟨λj v hj=>?_,⟨λo v ho=>?_,λs t dz=>?_,λs t dz=>?_⟩,λm hm=>?_⟩
  .rw[<-OI];have OK:=yB j v hj
   have gen:(gY H H' n cons sg.inn.nxt).val (n+j)=some v:=by
    simp only[gY];rw[YB (by omega),Nat.add_sub_cancel_left];exact hj
   unfold Im
   cases hb:Xt j sg.inn.nxt with
   |false=>simpa using gen
   |true=>
    rw[cond_true];split
    .rename_i o ho;split
     case h_2=>exact gen
     rename_i e he;obtain⟨u,hu,_⟩:=oA.obj o e.1 e.2 he;have h1:=hle.val _ _ (oJ j (some o) ho u hu);rw[hj]at h1;obtain rfl:=WD h1;simp only[gY];rw[YA (hold o _ hu)];exact hu
    .exact gen
  .simp only[gY];rw[YA (hold o v ho)];exact ho
  .simp only[gY];rw[YA (λhc=>by rw[(hs.fresh s hc.1 hc.2).2]at dz;cases dz)];exact dz
  .simp only[gY];rw[YA (λhc=>by rw[(hs.fresh s hc.1 hc.2).2]at dz;cases dz)]
  .simp only[gY];rw[YA (by omega),YA (by omega)];exact⟨id,id⟩
 have made:∀{p:Row->Bool}{us:List Value}{w':World}{H':ai}{F' F2:Nat->Prop}{eat:List Nat},us.length=sg.out.ah.length->mS p sg.out.ah=Yx->sO p sg.out.objs=Yx->pf p F' F2 w'->Ext G w w'->H1.le H'->(∀b,F2 b->F' b)->(∀o,o∈ek bs->o∈eat)->
  (∀t d,find (bX sg.out.ah (cm sg.out.rows y)).1 t=some d->af H' F' w' d (us.getD t undef))->ak (λk=>w.heap.size<=k\/G k) H' F' w' (find (ec sg.inn.nxt sg.out.objs (bX sg.out.ah (cm sg.out.rows y)).2)) sg.out.nxt->eF H' sg.out.nxt->
  af (gY H H' n cons sg.inn.nxt) F2 w' D (rR us)/\Made (gY H H' n cons sg.inn.nxt) F2 w w' (bn H (find objs) eat) cons/\∀o,(find cons o).isSome->o∈eat\/n<=o:=by
  intro p us w' H' F' F2 eat Eo K0 Gf Nv aU hle Gi dZ tR G5 Lz;obtain⟨hr,_,_⟩:=Jd hle Lz
  have Ag:∀o s t,find cons o=some (s,t)->∃j s' us sh,φ j=o/\t=(bT (sh.mw φ) us).1/\find (ec sg.inn.nxt sg.out.objs (bX sg.out.ah (cm sg.out.rows y)).2) j=some (s',(bT sh us).1)/\sh.fc p=Yx/\nL cons s=some t/\n<=s/\s<n+16/\(gY H H' n cons sg.inn.nxt).sub s=H'.sub s':=by
   intro o s t ho;rw[<-wg]at ho⊢;rw[OJ]at ho⊢;obtain⟨j,s',OL,sh,a1,a2,a3,a4,a5,a6,a7,a8⟩:=wm (m':=sg.inn.nxt) ho
   have av:s<n+16:=by omega
   refine⟨j,s',OL,sh,a1,a2,a3,a4 Gf,a5,a6,av,?_⟩;simp only[gY];rw[YB ⟨a6,av⟩,a8]
  refine⟨?_,⟨λo s t ho=>?_,λo o' s s' t t' v v' bY ho fZ hv cM k hk gX=>?_⟩,λo ho=>?_⟩
  .exact Jb (by rw[wo];exact vo) (by rw[pg];exact Eo) (Ek hr Nv K0 tR) hD
  .obtain⟨j,s',OL,sh,rfl,rfl,a3,a4,a5,a6,a7,a8⟩:=Ag o s t ho;rw[a8];obtain⟨v,hv,bF⟩:=G5.obj _ _ _ a3;obtain⟨b1,b2,b3⟩:=oK hr Nv a4 bF.ok;refine⟨v,hr j v hv,bF.one,?_,b1,λk hk=>⟨λe=>bF.no k (b3 k hk) (Gi k e),bF.lt k (b3 k hk),?_⟩⟩
   .rw[b2];simp only[gY];rw[YB ⟨a6,a7⟩];exact a5
   .rcases bF.use k (b3 k hk)with h1|h1
    .exact .inl h1
    .obtain⟨o',fZ,rest⟩:=OH k h1;exact .inr ⟨o',dZ o' fZ,rest⟩
  .obtain⟨j,s1,V0,sh,rfl,rfl,a3,a4,a5,a6,_,a8⟩:=Ag o s t ho;obtain⟨j',V2,Tu,Rs,rfl,rfl,Ru,Tv,V3,V4,_,Tw⟩:=Ag o' s' t' fZ;rw[a8]at hk;rw[Tw]at gX;obtain⟨u,hu,bF⟩:=G5.obj _ _ _ a3;obtain⟨u',zW,vY⟩:=G5.obj _ _ _ Ru;have e1:=hr j u hu;rw[hv]at e1;obtain rfl:=WD e1;have e2:=hr j' u' zW;rw[cM]at e2;obtain rfl:=WD e2;exact G5.apart j j' _ _ _ _ _ _ (λe=>bY (by rw[e])) a3 Ru hu zW k ((oK hr Nv a4 bF.ok).2.2 k hk) ((oK hr Nv Tv vY.ok).2.2 k gX)
  .obtain⟨e,he⟩:=Xo.1 ho;obtain⟨j,s',OL,sh,rfl,_⟩:=Ag o e.1 e.2 he;rw[<-OI];unfold Im
   cases Xt j sg.inn.nxt with
   |false=>exact .inr (by simp)
   |true=>
    rw[cond_true];split
    .rename_i o ho;split
     .exact .inl (dZ o (fo ho))
     .exact .inr (by omega)
    .exact .inr (by omega)
 have LA:∀{w':World}{eat:List Nat},Ext G w w'->(∀o,o∈ek bs->o∈eat)->Ext (bn H (find objs) eat) w w':=λaU dZ=>⟨aU.os,aU.tape,aU.output,aU.size,λk hk hn=>aU.block k hk λhG=>hn (by
  obtain⟨o,ho,rest⟩:=OH k hG
  exact⟨o,dZ o ho,rest⟩)⟩
 cases Kx:Ae sg with
 |true=>
  rw[Kx,cond_true]at h;obtain⟨p1,p2⟩:=bC Kx;refine⟨_,h,ox _ rfl λw' us H' F' Eo a1 a2 a3 a4 a5 a6 a7=>?_⟩;obtain⟨_,g2,g3⟩:=Jd a2 a7;obtain⟨m1,m2,m3⟩:=made (F2:=F) (eat:=ek bs) Eo p1 p2 (λr hr cs x hx=>bD.yx hr hx) a1 a2 (λb hb=>a3 b (xO b hb)) (λ_ h=>h) a5 a6 a7;exact⟨_,F,⟨g2,LA a1 (λ_ h=>h),λ_ h=>h,λ_ h=> .inl h,λb hb=>Xg (hs.lt b hb) a1.size⟩,g3,m1,m2,m3⟩
 |false=>
  rw[Kx,cond_false]at h;refine⟨_,h,ox _ rfl λw' us H' F' Eo a1 a2 a3 a4 a5 a6 a7=>?_⟩;obtain⟨_,g2,g3⟩:=Jd a2 a7;obtain⟨m1,m2,m3⟩:=made (F2:=F') (eat:=ek bs++nd) Eo Tp nP (λr _ cs x hx=>hx) a1 a2 (λ_ h=>h) (λo h=>by simp[h]) a5 a6 a7
  have dz:Step F1 w F' w':=λb hb=>⟨a3 b hb,a1.block b (oA.lt b hb) λe=>Lv b e hb⟩
  have oh:∀o s t,find (kH aA nd) o=some (s,t)->o∈nd/\cN t=Yx/\∃v,H.val o=some v/\v.oneCell'=Yx/\H.con s=some t.base/\eC H F1 w (H.sub s) v t:=by
   intro o s t ho;obtain⟨b1,b2,b3⟩:=iF ho;obtain⟨v,hv,bF⟩:=oA.obj _ _ _ b2;exact⟨b1,b3,v,hv,bF.one,bF.con,bF.ok⟩
  have part:∀o s t,find (cons++kH aA nd) o=some (s,t)->find cons o=some (s,t)\/find (kH aA nd) o=some (s,t):=by
   intro o s t ho;rw[eD]at ho
   cases hm:find cons o with
   |some e=>rw[hm]at ho;exact .inl ho
   |none=>rw[hm,X3]at ho;exact .inr ho
  refine⟨_,F',⟨g2,LA a1 (λo h=>by simp[h]),λb hb=>a3 b (xO b hb),λb hb=>?_,a6.lt⟩,g3,m1,⟨λo s t ho=>?_,λo o' s s' t t' v v' bY ho fZ hv cM k hk gX=>?_⟩,λo ho=>?_⟩
  .rcases a4 b hb with h1|h1|h1
   .rcases Gi b h1 with h2|⟨o,ho,rest⟩
    .exact .inl h2
    .exact .inr (.inr ⟨o,by simp[ho],rest⟩)
   .exact .inr (.inl h1)
   .obtain⟨o,ho,rest⟩:=OH b h1;exact .inr (.inr ⟨o,by simp[ho],rest⟩)
  .rcases part o s t ho with h1|h1
   .exact m2.obj o s t h1
   .obtain⟨b1,b2,v,b3,b4,b5,b6⟩:=oh o s t h1;refine⟨v,g2.val _ _ b3,b4,g2.con _ _ b5,by rw[g2.sub _ _ b5];exact b6.heap g2 dz (λk hk=>(eh b2 hk).elim),λk hk=>(eh b2 hk).elim⟩
  .rcases part o s t ho with h1|h1<;>rcases part o' s' t' fZ with h2|h2
   .exact m2.apart o o' s s' t t' v v' bY h1 h2 hv cM k hk gX
   .exact eh (oh o' s' t' h2).2.1 gX
   .exact eh (oh o s t h1).2.1 hk
   .exact eh (oh o s t h1).2.1 hk
  .obtain⟨e,he⟩:=Xo.1 ho
   rcases part o e.1 e.2 he with h1|h1
   .exact m3 o (by rw[h1];rfl)
   .exact .inl (by simp[(oh o _ _ h1).1])
theorem jM{LB:List (Nat×nq)}(rS:∀p∈LB,fK P p.1 p.2){objs:List (Nat×(Nat×Th))}{f:FuncId}{op:Op}{k:cI->Option R}{q:R}{ds:List ag}{vs:List Value}
 (sT:dp H F w ds vs)(aV:∀fn,P.funcs[f]? =some fn->(fn.name== "runtime.NumGoroutine")=Yy->fn.body.isNone=Yy->(execOp (ev ρ) ⟨dst,op,ty,pos,aft,Yw⟩).run P w= .ok (.enter f vs.toArray) w)(hs:ak U H F w (find objs) n):{tab:List (Nat×nq)}->(∀p∈tab,p∈LB)->kh objs n f ds k tab=some q->
 ∃e,k e=some q/\bw P U H F w ρ (find objs) n ⟨dst,op,ty,pos,aft,Yw⟩ e
 |[],_,h=>by cases h
 |(f0,sg)::tab,bF,h=>by
  unfold kh at h
  cases hb:WI f0 f with
  |false=>rw[hb,cond_false]at h;exact jM rS sT aV hs (λp hp=>bF p (by simp[hp])) h
  |true=>
   rw[hb,cond_true]at h;obtain rfl:=beq_true hb;split at h
   case h_2=>exact jM rS sT aV hs (λp hp=>bF p (by simp[hp])) h
   rename_i x bs aA OG;exact BP (rS (f0,sg) (bF _ (by simp))) sT aV hs OG h
theorem wu{tab:List (Nat×nq)}(rS:∀p∈tab,fK P p.1 p.2){rd:Operand->Option ag}(dg:∀x d,rd x=some d->af H F w d (ev ρ x)){objs:List (Nat×(Nat×Th))}{g:Operand}{args:Array Operand}{ph:Array TypeId}{k:cI->Option R}{q:R}
 (h:sS tab rd objs n g args.toList k=some q)(hs:ak U H F w (find objs) n):
 ∃e,k e=some q/\bw P U H F w ρ (find objs) n ⟨dst, .call {callee:= .value g,args:=args,argTypes:=ph},ty,pos,aft,Yw⟩ e:=by
 unfold sS at h;split at h
 case h_2=>cases h
 rename_i f caps hc;split at h
 case h_2=>cases h
 rename_i ds p4;unfold Af at hc;split at hc
 case h_2=>cases hc
 rename_i f' Rv hg;cases hc;obtain⟨us,h1,h2⟩:=dg _ _ hg;exact jM rS (nO (jC (w:=w) (H:=H) (F:=F) (ρ:=ρ) dg p4) (qT (F:=F) (w:=w) h2)) (λfn g1 g2 g3=>BO g1 g2 g3 rfl h1) hs (λ_ h=>h) h
end
end
section
section
variable {P:Program} {ρ:Nat->Value} {w w':World} {H H':ai} {F F':Nat->Prop} {U:Nat->Prop} {ob:Nat->Option (Nat×Th)} {n:Nat} {R:Type}
variable {op:Op} {ty:TypeId} {pos:String} {aft:Array Edge} {d:Nat} {dst:Option Nat}
def CR.Ah:CR->Bool
 | .other=>Yy
 |_=>Yx
theorem sq.Ah{t:TypeId}{k:CR}(h:sq P t k)(hk:k.Ah=Yx):∃D,P.underlying t=some D/\∀ms,D≠ .interface ms:=by
 cases k with
 |other=>cases hk
 |struct fs=>obtain⟨arr,h,_⟩:=h;exact⟨_,h,λ_ e=>by cases e⟩
 |_=>exact⟨_,h,λ_ e=>by cases e⟩
def uk(T:aF P)(t:TypeId):Bool:=match find T.und t with
 |some k=>k.Ah
 |none=>Yy
theorem sU(T:aF P){t:TypeId}(h:uk T t=Yx):∃D,P.underlying t=some D/\∀ms,D≠ .interface ms:=by
 unfold uk at h;split at h
 .rename_i k hk;exact(T.und_ok _ _ hk).Ah h
 .cases h
def BQ(T:aF P)(t:TypeId)(D:ag)(k:cI->Option R):Option R:=bif uk T t then k {dst:= .ifc t D}else Yw
theorem G6(T:aF P){t:TypeId}{D:ag}{x:Operand}{k:cI->Option R}{q:R}(h:BQ T t D k=some q)(hs:ak U H F w ob n)(hx:af H F w D (ev ρ x)):
 ∃e,k e=some q/\bw P U H F w ρ ob n ⟨some d, .makeInterface t x,ty,pos,aft,Yw⟩ e:=by
 unfold BQ at h;obtain⟨h1,h2⟩:=ax h;obtain⟨D0,hD,hn⟩:=sU T h1;refine⟨_,h2,aS hs (v:= .iface t (ev ρ x)) ?_ ⟨_,rfl,hx⟩⟩
 cases D0 with
 |interface ms=>exact absurd rfl (hn ms)
 |_=>simp[execOp,Instr.makeInterface,run_underlying hD,WT]
def lY(T:aF P)(t:TypeId)(ok:Bool)(D:ag)(k:cI->Option R):Option R:=
 match D with
 | .ifc t' d=>bif WI t' t&&uk T t then(match ok,d with
   |true, .val agg tr=>k {dst:= .tup [(agg,tr),(Yy, .leaf .bool Yx)]}
   |true,_=>Yw
   |false,d=>k {dst:=d})else Yw
 |_=>Yw
theorem yC(T:aF P){xt t:TypeId}{ok:Bool}{D:ag}{x:Operand}{k:cI->Option R}{q:R}(h:lY T t ok D k=some q)(hs:ak U H F w ob n)(hx:af H F w D (ev ρ x)):
 ∃e,k e=some q/\bw P U H F w ρ ob n ⟨some d, .typeAssert x xt t ok,ty,pos,aft,Yw⟩ e:=by
 unfold lY at h;split at h
 case h_2=>cases h
 rename_i t' dd;obtain⟨h1,h2⟩:=ax h;obtain⟨h1,h3⟩:=bC h1;obtain rfl:=beq_true h1;obtain⟨D0,hD,hn⟩:=sU T h3;obtain⟨u,hu,hd⟩:=hx
 have aV:(Instr.typeAssert (ev ρ x) xt t' ok).run P w= .ok (if ok then .tuple #[u, .bool Yx]else u) w:=by
  rw[hu]
  cases D0 with
  |interface ms=>exact absurd rfl (hn ms)
  |_=>simp[Instr.typeAssert,run_underlying hD,WT]
 split at h2
 .exact⟨_,h2,aS hs (v:= .tuple #[u, .bool Yx]) (by simp[execOp,aV,WT]) ⟨[u, .bool Yx],rfl,_,_,rfl,hd,_,_,rfl,au.dv ..,rfl⟩⟩
 .cases h2
 .exact⟨_,h2,aS hs (v:=u) (by simp[execOp,aV,WT]) hd⟩
def Ai:List (TypeId×(String×(FuncId×Bool)))->TypeId->String->Option (FuncId×Bool)
 |[],_,_=>Yw
 |(t',(nm,p))::l,t,name=>bif WI t' t&&(nm==name)then some p else Ai l t name
theorem wv{t:TypeId}{name:String}{f:FuncId}{pr:Bool}:{l:List (TypeId×(String×(FuncId×Bool)))}->Ai l t name=some (f,pr)->(t,(name,(f,pr)))∈l
 |[],h=>by cases h
 |(t',(nm,p))::l,h=>by
  unfold Ai at h
  cases hb:WI t' t&&(nm==name)with
  |true=>
   rw[hb,cond_true]at h;obtain⟨h1,h2⟩:=bC hb;obtain rfl:=beq_true h1
   obtain rfl:nm=name:=by simpa using h2
   cases h;simp
  |false=>
   rw[hb,cond_false]at h;exact Xk _ (wv h)
theorem yD{t:TypeId}{name:String}{f:FuncId}{pr:Bool}{v u:Value}{fuel:Nat}(h:zK P t name f pr)(hr:∀nm,(receiverAt t (.val v) pr (some nm)).run P w= .ok u w):(method (fuel+1) t v name).run P w= .ok (f,u) w:=by
 unfold zK at h
 cases hi:P.info? t with
 |none=>rw[hi]at h;cases h
 |some ti=>
  rw[hi]at h;have h:(ti.methods.find? λm=>m.name==name).map (λm=>(m.path.toList.length,m.func))=some (0,some (f,pr)):=h
  cases hm:ti.methods.find? λm=>m.name==name with
  |none=>rw[hm]at h;cases h
  |some m=>
   rw[hm]at h;simp only[Option.map_some,WL,XF]at h
   have hp:m.path= #[]:=by
    have:=h.1;simpa using this
   simp[method,typeInfo,hi,hm,hp,follow,h.2,hr,WT,Xd]
theorem BR{t e:TypeId}{nm:String}{v:Value}(hu:P.underlying t=some (.pointer e)):(receiverAt t (.val v) Yx (some nm)).run P w= .ok v w:=by
 simp[receiverAt,run_underlying hu,Place.get,WT,Xd]
theorem BS{t e:TypeId}{nm:String}{a:Addr}{u:Value}(hu:P.underlying t=some (.pointer e))(hl:(loadVar e a).run P w= .ok u w):(receiverAt t (.val (.pointer (some a))) Yy (some nm)).run P w= .ok u w:=by
 have hw:Builtin.ssaWrapNilChk_ #[t] t #[.pointer (some a),strVal "",strVal nm]=pure (.pointer (some a)):=rfl;simp[receiverAt,run_underlying hu,Place.get,hw,asAddr,hl,WT,Xd]
theorem qU{t:TypeId}{name:String}{f:FuncId}{fn:Func}{pr:Bool}{v u:Value}{x:Operand}{args:Array Operand}{ph:Array TypeId}(h:zK P t name f pr)(hx:ev ρ x= .iface t v)(hr:∀nm,(receiverAt t (.val v) pr (some nm)).run P w= .ok u w)
 (hf:P.funcs[f]? =some fn)(hn:(fn.name== "runtime.NumGoroutine")=Yy)(hb:fn.body.isNone=Yy):
 (execOp (ev ρ) ⟨dst, .call {callee:= .invoke x name,args:=args,argTypes:=ph},ty,pos,aft,Yw⟩).run P w= .ok (.enter f (u::args.toList.map (ev ρ)).toArray) w:=by
 have Dw:¬fn.name= "runtime.NumGoroutine" :=by simpa using hn
 have pU:¬fn.body=Yw:=by
  intro e;rw[e]at hb;cases hb
 have hm:=yD (fuel:=P.types.size+99) h hr;have Tx:P.types.size+100=P.types.size+99+1:=rfl
 have e1:(#[Value.iface t v]++Array.map (ev ρ) args).extract 1 (1+args.size)=Array.map (ev ρ) args:=by
  apply Array.ext';simp;exact List.take_of_length_le (by simp)
 have e0:(#[Value.iface t v]++Array.map (ev ρ) args)[0]? =some (Value.iface t v):=by simp[Array.getElem?_append]
 have e2:(#[u]++Array.map (ev ρ) args)=(u::args.toList.map (ev ρ)).toArray:=by apply Array.ext';simp
 simp[execOp,resolve,hx,invoke,callMethod,Tx,hm,callFunc,hf,Dw,pU,go_sem,e0,e1,e2]
def p9(T:aF P)(ob:Nat->Option (Nat×Th))(e:TypeId)(D:ag):Option ag:=
 match find T.und e with
 |none=>Yw
 |some kk=>match D with
  | .ptr o p off=>match ob o with
    |some (_, .box _ tr)=>match tr.get p with
     |some (s,cC)=>bif WI cC off&&iC T e kk s.size then some (.val (fJ kk) s)else Yw
     |none=>Yw
    |_=>Yw
  |_=>Yw
theorem yE(T:aF P){e:TypeId}{D D':ag}{v:Value}(h:p9 T ob e D=some D')(hs:ak U H F w ob n)(hx:af H F w D v):∃a u,v= .pointer (some a)/\(loadVar e a).run P w= .ok u w/\af H F w D' u:=by
 unfold p9 at h;split at h
 .cases h
 rename_i kk hu;split at h
 case h_2=>cases h
 rename_i o p off;split at h
 case h_2=>cases h
 rename_i SA T0 tr bH;split at h
 case h_2=>cases h
 rename_i s cC hg;obtain⟨h1,h2⟩:=ax h;cases h2;obtain⟨h1,h3⟩:=bC h1;obtain rfl:=beq_true h1;obtain⟨b,hb,rfl⟩:=hx;obtain⟨es,hh,If⟩:=hs.box bH hb;obtain⟨g1,g2⟩:=If.get hg
 have hc:∀j u,((es.drop cC).take s.size)[j]? =some u->w.cell? ⟨b,cC+j,Yw⟩=some u:=λj u hj=>by
  rw[qs hh];rw[W5]at hj;split at hj
  .rwa [WV]at hj
  .cases hj
 obtain⟨dd,sj,rG⟩:=(T.und_ok _ _ hu).agg;have hz:=fy T h3;have hl:=g1.length;generalize(es.drop cC).take s.size=cs at g1 hc hl
 cases ha:fJ kk with
 |true=>
  rw[YB ha]at hz;obtain⟨r,hr,Gc⟩:=hz;obtain⟨ti,z,h1,_,_,h4,_⟩:=T.row_ok _ _ hr;have OM:(loadCells ⟨b,cC,Yw⟩ cs.length).run P w= .ok cs.toArray w:=run_loadCells_list (P:=P) w ⟨b,cC,Yw⟩ cs (λj v hv=>by rw[bK];exact hc j v hv)
  have ir:ti.size=cs.length:=by omega
  exact⟨_, .agg cs.toArray,rfl,by simp[loadVar,Xd,dj sj,rG,ha,sizeOf,typeInfo,h1,ir,OM],⟨cs,g1,rfl,by simp⟩⟩
 |false=>
  rw[YA (by simp[ha])]at hz
  obtain⟨v,rfl⟩:∃v,cs=[v]:=by
   match cs,hl.trans hz with
   |[v],_=>exact⟨v,rfl⟩
  have Tz:w.cell? ⟨b,cC,Yw⟩=some v:=hc 0 v rfl;exact⟨_,v,rfl,by simp[loadVar,Xd,dj sj,rG,ha,Tz,go_sem],⟨[v],g1,rfl,λ_=>rfl⟩⟩
def lZ(T:aF P)(tab:List (Nat×nq))(rd:Operand->Option ag)(objs:List (Nat×(Nat×Th)))(n:Nat)(x:Operand)(name:String)(args:List Operand)(k:cI->Option R):Option R:=
 match rd x with
 |some (.ifc t d)=>match Ai T.mth t name with
  |some (f,pr)=>match find T.und t with
   |some (.ptr e)=>match(bif pr then some d else p9 T (find objs) e d)with
    |some d'=>match nE rd args with
     |some ds=>kh objs n f (d'::ds) k tab
     |none=>Yw
    |none=>Yw
   |_=>Yw
  |none=>Yw
 |_=>Yw
theorem qV(T:aF P){tab:List (Nat×nq)}(rS:∀p∈tab,fK P p.1 p.2){rd:Operand->Option ag}(dg:∀x d,rd x=some d->af H F w d (ev ρ x)){objs:List (Nat×(Nat×Th))}{x:Operand}{name:String}{args:Array Operand}{ph:Array TypeId}{k:cI->Option R}{q:R}
 (h:lZ T tab rd objs n x name args.toList k=some q)(hs:ak U H F w (find objs) n):
 ∃e,k e=some q/\bw P U H F w ρ (find objs) n ⟨dst, .call {callee:= .invoke x name,args:=args,argTypes:=ph},ty,pos,aft,Yw⟩ e:=by
 unfold lZ at h;split at h
 case h_2=>cases h
 rename_i t d0 hx;split at h
 case h_2=>cases h
 rename_i f pr hm;split at h
 case h_2=>cases h
 rename_i e hu;split at h
 case h_2=>cases h
 rename_i d' sb;split at h
 case h_2=>cases h
 rename_i ds p4;obtain⟨v,hv,Rx⟩:=dg _ _ hx;have hM:=T.mth_ok _ (wv hm);have hu:=T.und_ok _ _ hu;have Ry:=jC (w:=w) (H:=H) (F:=F) (ρ:=ρ) dg p4
 cases pr with
 |true=>
  cases sb
  have Kq:dp H F w (d0::ds) (v::args.toList.map (ev ρ)):=⟨v,_,rfl,Rx,Ry⟩
  exact jM rS Kq (λfn g1 g2 g3=>qU hM hv (λnm=>BR hu) g1 g2 g3) hs (λ_ h=>h) h
 |false=>
  obtain⟨a,u,rfl,hl,TA⟩:=yE T (show p9 T (find objs) e d0=some d' from sb) hs Rx
  have Kq:dp H F w (d'::ds) (u::args.toList.map (ev ρ)):=⟨u,_,rfl,TA,Ry⟩
  exact jM rS Kq (λfn g1 g2 g3=>qU hM hv (λnm=>BS hu hl) g1 g2 g3) hs (λ_ h=>h) h
end
end
section
structure Env(P:Program)where
 T:aF P
 tab:List (Nat×nq)
 ok:∀p∈tab,fK P p.1 p.2
 mix:P.follows .mixedOrders=Yx
 deep:Bool
 drop:Bool
def ul(rd:Operand->Option ag):List Operand->Option (List (Nat×List Bool×Nat))
 |[]=>some []
 |x::xs=>match rd x with
  |some (.ptr o p off)=>match ul rd xs with
   |some cs=>some ((o,p,off)::cs)
   |none=>Yw
  |_=>Yw
theorem sV{H:ai}{F:Nat->Prop}{w:World}{ρ:Nat->Value}{rd:Operand->Option ag}(dg:∀x d,rd x=some d->af H F w d (ev ρ x)):{xs:List Operand}->{cs:List (Nat×List Bool×Nat)}->ul rd xs=some cs->gf H cs (xs.map (ev ρ))
 |[],cs,h=>by obtain rfl:=WD h;rfl
 |x::xs,cs,h=>by
  unfold ul at h;split at h
  case h_2=>cases h
  rename_i o p off hx;split at h
  case h_2=>cases h
  rename_i mI mH;obtain rfl:=WD h;exact⟨_,_,rfl,dg _ _ hx,sV dg mH⟩
def iv{R:Type}(rd:Operand->Option ag)(fn:Fn)(first caps:Array Operand)(k:cI->Option R):Option R:=
 match fn,first.toList with
 | .func f,[]=>match ul rd caps.toList with
   |some cs=>k {dst:= .fn f cs}
   |none=>Yw
 |_,_=>Yw
theorem um{R:Type}{P:Program}{U:Nat->Prop}{H:ai}{F:Nat->Prop}{w:World}{ρ:Nat->Value}{ob:Nat->Option (Nat×Th)}{n d:Nat}{ty:TypeId}{pos:String}{aft:Array Edge}{rd:Operand->Option ag}(dg:∀x d,rd x=some d->af H F w d (ev ρ x)){fn:Fn}{first caps:Array Operand}{k:cI->Option R}{q:R}
 (h:iv rd fn first caps k=some q)(hs:ak U H F w ob n):∃e,k e=some q/\bw P U H F w ρ ob n ⟨some d, .makeFunc fn first caps,ty,pos,aft,Yw⟩ e:=by
 unfold iv at h;split at h
 case h_2=>cases h
 rename_i f hf;split at h
 case h_2=>cases h
 rename_i cs mH
 have Je:first= #[]:=by rw[<-Xq (xs:=first),hf]
 subst Je
 have e:caps.map (ev ρ)=(caps.toList.map (ev ρ)).toArray:=by rw[<-List.map_toArray,Xq]
 exact⟨_,h,aS hs (v:= .func (.func f) #[] (caps.toList.map (ev ρ)).toArray) (by simp[execOp,Instr.makeFunc,e]) ⟨_,rfl,sV dg mH⟩⟩
noncomputable def jN{R:Type}{P:Program}(E:Env P)(rd:Operand->Option ag)(objs:List (Nat×(Nat×Th)))(n:Nat)(callee:Callee)(args:Array Operand)(ph:Array TypeId)(k:cI->Option R):Option R:=
 match callee with
 | .builtin .len=>match args.toList,ph.toList with
   |[x],[t]=>match rd x with
    |some D=>match Bn E.T (find objs) t D with
     |some D'=>k {dst:=D'}
     |none=>Yw
    |none=>Yw
   |_,_=>Yw
 | .builtin .append=>match args.toList,ph.toList with
   |[x,y],[t,t']=>bif WI t t' then(match rd x with
    |some X=>match rd y with
     |some Y=>jJ E.T (find objs) n t X Y k
     |none=>Yw
    |none=>Yw)else Yw
   |_,_=>Yw
 | .builtin .max=>match args.toList,ph.toList with
   |[x,y],[_,_]=>match rd x with
    |some X=>match rd y with
     |some Y=>match p6 Yx X Y with
      |some D=>k {dst:=D}
      |none=>Yw
     |none=>Yw
    |none=>Yw
   |_,_=>Yw
 | .builtin .min=>match args.toList,ph.toList with
   |[x,y],[_,_]=>match rd x with
    |some X=>match rd y with
     |some Y=>match p6 Yy X Y with
      |some D=>k {dst:=D}
      |none=>Yw
     |none=>Yw
    |none=>Yw
   |_,_=>Yw
 | .builtin .delete=>match args.toList,ph.toList with
   |[m,x],[t,_]=>match rd m with
    |some M=>match rd x with
     |some X=>lO E.T (find objs) n t M X k
     |none=>Yw
    |none=>Yw
   |_,_=>Yw
 | .value g=>sS E.tab rd objs n g args.toList k
 | .invoke x name=>lZ E.T E.tab rd objs n x name args.toList k
 |_=>Yw
noncomputable def G7{R:Type}{P:Program}(E:Env P)(rd:Operand->Option ag)(objs:List (Nat×(Nat×Th)))(n:Nat)(dst:Option Nat)(op:Op)(k:cI->Option R):Option R:=
 match dst with
 |none=>match op with
  | .store t x y=>match rd x with
    |some X=>match rd y with
     |some Y=>lV E.T (find objs) n t X Y k
     |none=>Yw
    |none=>Yw
  | .call c=>jN E rd objs n c.callee c.args c.argTypes k
  | .mapUpdate t m x y=>match rd m with
    |some M=>match rd x with
     |some X=>match rd y with
      |some Y=>fB E.T (find objs) n t M X Y k
      |none=>Yw
     |none=>Yw
    |none=>Yw
  |_=>Yw
 |some _=>match op with
  | .move x=>match rd x with
    |some D=>k {dst:=D}
    |none=>Yw
  | .assign x=>match rd x with
    |some D=>k {dst:=D}
    |none=>Yw
  | .pick c x y=>match rd c with
    |some C=>match asBool C with
     |some b=>match(if b=Yx then rd x else rd y)with
      |some D=>k {dst:=D}
      |none=>Yw
     |none=>Yw
    |none=>Yw
  | .alloc t=>oo E.T n t k
  | .box t x=>match rd x with
    |some X=>Bm n t X k
    |none=>Yw
  | .build t ps=>ot E.T rd t ps k
  | .buildSlice t m ps=>p8 E.deep E.T rd (find objs) n t m ps k
  | .load t x=>match rd x with
    |some X=>k0 E.T (find objs) n t X k
    |none=>Yw
  | .nilCheck x=>match rd x with
    |some (.ptr o p off)=>k {dst:= .ptr o p off}
    |some (.elem o s r i z p off)=>k {dst:= .elem o s r i z p off}
    |some (.dlm o d i p off)=>k {dst:= .dlm o d i p off}
    |some (.at r z)=>k {dst:= .at r z}
    |_=>Yw
  | .binOp o t x y _=>match rd x with
    |some X=>match rd y with
     |some Y=>Bu E.T (find objs) o t (KW y) X Y k
     |none=>Yw
    |none=>Yw
  | .unOp o _ x=>match rd x with
    |some X=>match N8 o X with
     |some D=>k {dst:=D}
     |none=>Yw
    |none=>Yw
  | .convert s t x=>match rd x with
    |some X=>match DS E.T s t X with
     |some D=>k {dst:=D}
     |none=>Yw
    |none=>Yw
  | .makeSlice t a b=>match rd a with
    |some A=>match asInt A with
     |some (_,i)=>match rd b with
      |some B=>match asInt B with
       |some (_,j)=>qK E.deep E.T n t (kX a b) i j k
       |none=>Yw
      |none=>Yw
     |none=>Yw
    |none=>Yw
  | .slice t x lo hi Yw=>match rd x with
    |some X=>ou E.drop E.T rd (find objs) n t X lo hi k
    |none=>Yw
  | .fieldAddr t x f=>match rd x with
    |some X=>match xU E.T t f X with
     |some D=>k {dst:=D}
     |none=>Yw
    |none=>Yw
  | .field t x f=>match rd x with
    |some X=>match tT E.T t f X with
     |some D=>k {dst:=D}
     |none=>Yw
    |none=>Yw
  | .indexAddr t x y=>match rd x with
    |some X=>match rd y with
     |some Y=>match asInt Y with
      |some (_,i)=>ol E.T (find objs) t X i k
      |none=>Yw
     |none=>Yw
    |none=>Yw
  | .index t x y=>match rd x with
    |some X=>match rd y with
     |some Y=>match asInt Y with
      |some (_,i)=>lQ E.T (find objs) t X i k
      |none=>Yw
     |none=>Yw
    |none=>Yw
  | .extract x i=>match rd x with
    |some X=>match qB X i with
     |some D=>k {dst:=D}
     |none=>Yw
    |none=>Yw
  | .call c=>jN E rd objs n c.callee c.args c.argTypes k
  | .makeFunc fn first caps=>iv rd fn first caps k
  | .makeMap t Yw=>iu E.deep E.T n t k
  | .lookup t m x ok=>match rd m with
    |some M=>match rd x with
     |some X=>jI E.T (find objs) n t ok M X k
     |none=>Yw
    |none=>Yw
  | .range t x=>match rd x with
    |some X=>oD E.T (find objs) n t X k
    |none=>Yw
  | .entry x=>match rd x with
    |some X=>match yo objs X with
     |some D=>k {dst:=D}
     |none=>Yw
    |none=>Yw
  | .makeInterface t x=>match rd x with
    |some X=>BQ E.T t X k
    |none=>Yw
  | .typeAssert x _ t ok=>match rd x with
    |some X=>lY E.T t ok X k
    |none=>Yw
  |_=>Yw
section
variable {P:Program} {ρ:Nat->Value} {w w':World} {H H':ai} {F F':Nat->Prop} {U:Nat->Prop} {n:Nat} {R:Type}
variable {ty:TypeId} {pos:String} {aft:Array Edge} {dst:Option Nat} {d:Nat}
theorem cD{α:Type}{a:Array α}{l:List α}(h:a.toList=l):a=l.toArray:=by rw[<-h,Xq]
theorem sW(E:Env P){rd:Operand->Option ag}(dg:∀x d,rd x=some d->af H F w d (ev ρ x)){objs:List (Nat×(Nat×Th))}{args:Array Operand}{ph:Array TypeId}{k:cI->Option R}{q:R}{dst:Option Nat}
 (h:jN E rd objs n (.builtin .delete) args ph k=some q)(hs:ak U H F w (find objs) n):∃e,k e=some q/\bw P U H F w ρ (find objs) n ⟨dst, .call {callee:= .builtin .delete,args:=args,argTypes:=ph},ty,pos,aft,Yw⟩ e:=by
 unfold jN at h;simp only at h;split at h
 case h_2=>cases h
 rename_i m x t t' ha ht;obtain rfl:=cD ha;obtain rfl:=cD ht;split at h
 case h_2=>cases h
 rename_i M hM;split at h
 case h_2=>cases h
 rename_i X hX;exact ya E.T h hs (dg _ _ hM) (dg _ _ hX)
theorem Ep(E:Env P){rd:Operand->Option ag}(dg:∀x d,rd x=some d->af H F w d (ev ρ x)){objs:List (Nat×(Nat×Th))}{c:Call}{k:cI->Option R}{q:R}
 (h:jN E rd objs n c.callee c.args c.argTypes k=some q)(hs:ak U H F w (find objs) n):∃e,k e=some q/\bw P U H F w ρ (find objs) n ⟨some d, .call c,ty,pos,aft,Yw⟩ e:=by
 obtain⟨callee,args,ph⟩:=c;simp only at h;unfold jN at h;split at h
 .split at h
  case h_2=>cases h
  rename_i x t ha ht;obtain rfl:=cD ha;obtain rfl:=cD ht;split at h
  case h_2=>cases h
  rename_i D hD;split at h
  case h_2=>cases h
  rename_i D' GA;exact⟨_,h,zO E.T GA hs (dg _ _ hD)⟩
 .split at h
  case h_2=>cases h
  rename_i x y t t' ha ht;obtain rfl:=cD ha;obtain rfl:=cD ht;obtain⟨hb,h'⟩:=ax h;clear h;obtain rfl:=beq_true hb;split at h'
  case h_2=>cases h'
  rename_i X hX;split at h'
  case h_2=>cases h'
  rename_i Y hY;exact vX E.T h' hs (dg _ _ hX) (dg _ _ hY)
 .split at h
  case h_2=>cases h
  rename_i x y t t' ha ht;obtain rfl:=cD ha;obtain rfl:=cD ht;split at h
  case h_2=>cases h
  rename_i X hX;split at h
  case h_2=>cases h
  rename_i Y hY;split at h
  case h_2=>cases h
  rename_i D hD;exact⟨_,h,qC (mx:=Yx) hD hs (dg _ _ hX) (dg _ _ hY)⟩
 .split at h
  case h_2=>cases h
  rename_i x y t t' ha ht;obtain rfl:=cD ha;obtain rfl:=cD ht;split at h
  case h_2=>cases h
  rename_i X hX;split at h
  case h_2=>cases h
  rename_i Y hY;split at h
  case h_2=>cases h
  rename_i D hD;exact⟨_,h,qC (mx:=Yy) hD hs (dg _ _ hX) (dg _ _ hY)⟩
 .refine sW E dg ?_ hs;unfold jN;exact h
 .exact wu E.ok dg h hs
 .exact qV E.T E.ok dg h hs
 .cases h
def LC:Callee->Bool
 | .value _=>Yx
 | .invoke .. =>Yx
 |_=>Yy
def Er:Callee->Bool
 | .builtin .delete=>Yx
 |c=>LC c
theorem rT(E:Env P){rd:Operand->Option ag}(dg:∀x d,rd x=some d->af H F w d (ev ρ x)){objs:List (Nat×(Nat×Th))}{c:Call}{k:cI->Option R}{q:R}(hc:Er c.callee=Yx)
 (h:jN E rd objs n c.callee c.args c.argTypes k=some q)(hs:ak U H F w (find objs) n):∃e,k e=some q/\bw P U H F w ρ (find objs) n ⟨Yw, .call c,ty,pos,aft,Yw⟩ e:=by
 obtain⟨callee,args,ph⟩:=c;simp only at h hc
 cases callee with
 |value g=>exact wu E.ok dg h hs
 |invoke x name=>exact qV E.T E.ok dg h hs
 |builtin b=>cases b<;>first|(cases hc;done)|exact sW E dg h hs
end
section
variable {P:Program} {ρ:Nat->Value} {w w':World} {H H':ai} {F F':Nat->Prop} {U:Nat->Prop} {n:Nat} {R:Type}
variable {ty:TypeId} {pos:String} {aft:Array Edge} {dst:Option Nat} {d:Nat}
theorem BT{c x y:Operand}{b:Bool}{D:ag}{ob:Nat->Option (Nat×Th)}(hs:ak U H F w ob n)(hc:ev ρ c= .bool b)(hx:af H F w D (ev ρ (if b=Yx then x else y))):bw P U H F w ρ ob n ⟨some d, .pick c x y,ty,pos,aft,Yw⟩ {dst:=D}:=by
 cases b with
 |true=>exact ay hs (qf hc rfl) hx
 |false=>exact ay hs (pE hc rfl) hx
theorem Es(E:Env P){rd:Operand->Option ag}(dg:∀x d,rd x=some d->af H F w d (ev ρ x)){objs:List (Nat×(Nat×Th))}{op:Op}{k:cI->Option R}{q:R}
 (yF:dst=Yw->∀c,op= .call c->Er c.callee=Yx)(h:G7 E rd objs n dst op k=some q)(hs:ak U H F w (find objs) n):∃e,k e=some q/\bw P U H F w ρ (find objs) n ⟨dst,op,ty,pos,aft,Yw⟩ e:=by
 cases dst with
 |none=>
  unfold G7 at h;simp only at h;split at h
  .split at h
   case h_2=>cases h
   rename_i X hX;split at h
   case h_2=>cases h
   rename_i Y hY;exact yk E.T h hs (dg _ _ hX) (dg _ _ hY)
  .rename_i c;exact rT E dg (yF rfl c rfl) h hs
  .split at h
   case h_2=>cases h
   rename_i M hM;split at h
   case h_2=>cases h
   rename_i X hX;split at h
   case h_2=>cases h
   rename_i Y hY;exact qM E.T h hs (dg _ _ hM) (dg _ _ hX) (dg _ _ hY)
  .cases h
 |some d=>
  unfold G7 at h;simp only at h;split at h
  .split at h
   case h_2=>cases h
   rename_i D hD;exact⟨_,h,Bv hs (dg _ _ hD)⟩
  .split at h
   case h_2=>cases h
   rename_i D hD;exact⟨_,h,vF hs (dg _ _ hD)⟩
  .split at h
   case h_2=>cases h
   rename_i C hC;split at h
   case h_2=>cases h
   rename_i b hb;split at h
   case h_2=>cases h
   rename_i D hD;refine⟨_,h,BT hs (jz hb (dg _ _ hC)) ?_⟩;split at hD
   .rename_i e;rw[YB e];exact dg _ _ hD
   .rename_i e;rw[YA e];exact dg _ _ hD
  .exact Bl E.T h hs
  .split at h
   case h_2=>cases h
   rename_i X hX;exact GI h hs (dg _ _ hX)
  .exact Bo E.T dg h hs
  .exact yl E.deep E.T dg h hs
  .split at h
   case h_2=>cases h
   rename_i X hX;exact BH E.T h hs (dg _ _ hX)
  .split at h
   .rename_i o p off hX;obtain⟨b,h1,h2⟩:=dg _ _ hX;exact⟨_,h,aS hs (v:= .pointer (some ⟨b,off,Yw⟩)) (by simp[execOp,h2]) ⟨b,h1,rfl⟩⟩
   .rename_i o s r i z p off hX;have hd:=dg _ _ hX;obtain⟨g,o0,q,T,m,cap,l,_,_,_,_,h2⟩:=id hd;exact⟨_,h,aS hs (v:= .pointer (some ⟨g,o0+q*r.size+off,Yw⟩)) (by simp[execOp,h2]) (by rw[<-h2];exact hd)⟩
   .rename_i o d i p off hX;have hd:=dg _ _ hX;obtain⟨g,o0,q,m,cap,_,_,h2⟩:=id hd;exact⟨_,h,aS hs (v:= .pointer (some ⟨g,o0+q*d.low.size+off,Yw⟩)) (by simp[execOp,h2]) (by rw[<-h2];exact hd)⟩
   .rename_i r z hX;have hd:=dg _ _ hX;obtain⟨b,off,h2,_⟩:=id hd;exact⟨_,h,aS hs (v:= .pointer (some ⟨b,off,Yw⟩)) (by simp[execOp,h2]) (by rw[<-h2];exact hd)⟩
   .cases h
  .split at h
   case h_2=>cases h
   rename_i X hX;split at h
   case h_2=>cases h
   rename_i Y hY;exact GL E.T h hs (dg _ _ hX) (dg _ _ hY)
  .split at h
   case h_2=>cases h
   rename_i X hX;split at h
   case h_2=>cases h
   rename_i D hD;exact⟨_,h,IX hD hs (dg _ _ hX)⟩
  .split at h
   case h_2=>cases h
   rename_i X hX;split at h
   case h_2=>cases h
   rename_i D hD;exact⟨_,h,DT E.T hD hs (dg _ _ hX)⟩
  .split at h
   case h_2=>cases h
   rename_i A hA;split at h
   case h_2=>cases h
   rename_i i hi;split at h
   case h_2=>cases h
   rename_i B hB;split at h
   case h_2=>cases h
   rename_i j hj;exact BG E.deep E.T h hs (eG hi (dg _ _ hA)) (eG hj (dg _ _ hB))
  .split at h
   case h_2=>cases h
   rename_i X hX;exact Bt E.drop E.T dg h hs (dg _ _ hX)
  .split at h
   case h_2=>cases h
   rename_i X hX;split at h
   case h_2=>cases h
   rename_i D hD;exact⟨_,h,Bg E.T hD hs (dg _ _ hX)⟩
  .split at h
   case h_2=>cases h
   rename_i X hX;split at h
   case h_2=>cases h
   rename_i D hD;exact⟨_,h,xZ E.T hD hs (dg _ _ hX)⟩
  .split at h
   case h_2=>cases h
   rename_i X hX;split at h
   case h_2=>cases h
   rename_i Y hY;split at h
   case h_2=>cases h
   rename_i i hi;exact Bh E.T h hs (dg _ _ hX) (eG hi (dg _ _ hY))
  .split at h
   case h_2=>cases h
   rename_i X hX;split at h
   case h_2=>cases h
   rename_i Y hY;split at h
   case h_2=>cases h
   rename_i k' i hi;exact yd E.T h hs (dg _ _ hX) (eG hi (dg _ _ hY))
  .split at h
   case h_2=>cases h
   rename_i X hX;split at h
   case h_2=>cases h
   rename_i D hD;exact⟨_,h,vE hD hs (dg _ _ hX)⟩
  .exact Ep E dg h hs
  .exact um dg h hs
  .exact ug E.deep E.T h hs
  .split at h
   case h_2=>cases h
   rename_i M hM;split at h
   case h_2=>cases h
   rename_i X hX;exact vT E.T h hs (dg _ _ hM) (dg _ _ hX)
  .split at h
   case h_2=>cases h
   rename_i X hX;exact BJ E.T h hs (dg _ _ hX)
  .split at h
   case h_2=>cases h
   rename_i X hX;split at h
   case h_2=>cases h
   rename_i D hD;exact⟨_,h,BK hD hs (dg _ _ hX)⟩
  .split at h
   case h_2=>cases h
   rename_i X hX;exact G6 E.T h hs (dg _ _ hX)
  .split at h
   case h_2=>cases h
   rename_i X hX;exact yC E.T h hs (dg _ _ hX)
  .cases h
end
def mT(rd:Operand->Option ag)(x:Operand):List Nat:=
 match rd x with
 |some (.val _ t)=>t.owns
 |_=>[]
def uo(rd:Operand->Option ag)(x:Operand):List Nat:=
 match rd x with
 |some (.val _ (.view o _ _ _))=>[o]
 |_=>[]
def Aj(rd:Operand->Option ag):List Operand->List Nat
 |[]=>[]
 |x::xs=>mT rd x++Aj rd xs
def oN:Operand->Bool
 | .const (.slice Yw 0 0)=>Yx
 |_=>Yy
def G8(rd:Operand->Option ag):Op->List Nat
 | .store _ x y=>match rd x with
   |some (.elem ..)=>mT rd y
   |_=>[]
 | .buildSlice _ _ ps=>Aj rd (ps.toList.map (·.2))
 | .binOp .eql _ x y _=>bif oN y then[]else mT rd x++mT rd y
 | .binOp .neq _ x y _=>bif oN y then[]else mT rd x++mT rd y
 | .slice _ x _ _ _=>uo rd x
 | .indexAddr _ x _=>uo rd x
 | .call c=>match c.callee,c.args.toList with
   | .builtin .append,[_,y]=>uo rd y
   |_,_=>[]
 | .mapUpdate _ _ _ y=>mT rd y
 |_=>[]
def wy(nt:Nat):Option Nat->Bool
 |some d=>Xt d nt
 |none=>Yx
def Rz(dst:Option Nat)(op:Op):Bool:=
 match dst with
 |some _=>Yx
 |none=>match op with
  | .call c=>Er c.callee
  |_=>Yx
open Classical in
noncomputable def wz{α:Type}(a b:Option α):Option α:=if a=b then a else Yw
theorem Et{α:Type}{a b:Option α}{q:α}(h:wz a b=some q):a=some q:=by
 unfold wz at h;split at h
 .exact h
 .cases h
theorem Jf{α:Type}{a b:Option α}{q:α}(h:wz a b=some q):b=some q:=by
 have ha:=Et h;unfold wz at h;split at h
 .rename_i e;rw[<-e];exact ha
 .cases h
def Eu{P:Program}(T:aF P)(rd:Operand->Option ag)(ob:Nat->Option (Nat×Th)):Op->Option (Bool×Nat)
 | .binOp o t x y _=>match o with
   | .eql=>bif oN y then(match find T.und t with
     |some (.slice _)=>match rd x with
      |some X=>match pJ ob X with
       |some (.read _ l)=>some (Yy,l.length)
       |some (.own _ _ _ _ l)=>some (Yy,l.length)
       |_=>Yw
      |none=>Yw
     |_=>Yw)else Yw
   | .neq=>bif oN y then(match find T.und t with
     |some (.slice _)=>match rd x with
      |some X=>match pJ ob X with
       |some (.read _ l)=>some (Yx,l.length)
       |some (.own _ _ _ _ l)=>some (Yx,l.length)
       |_=>Yw
      |none=>Yw
     |_=>Yw)else Yw
   |_=>Yw
 |_=>Yw
def mU{P:Program}(E:Env P)(rd:Operand->Option ag)(objs:List (Nat×(Nat×Th)))(op:Op):List Nat:=
 match E.deep,op with
 |true, .buildSlice .. =>[]
 |_,_=>G8 rd op
noncomputable def qW(st:State)(o:Nat):State:=
 match Ij (find st.objs) st.nxt o with
 |some e=>st.apply Yw e
 |none=>st
noncomputable def pj(st:State):List Nat->State
 |[]=>st
 |o::os=>pj (qW st o) os
def Io:List (Nat×(Nat×Th))->Bool
 |[]=>Yy
 |(_,(_, .deep _ _ _ (some _)))::_=>Yx
 |_::l=>Io l
noncomputable def kI(st:State):State:=
 match Io st.objs with
 |true=>pj (pj st (st.objs.map (·.1))) (st.objs.map (·.1))
 |false=>st
def LD:Op->Bool
 | .call c=>LC c.callee
 |_=>Yy
def yG(o:Nat):List (Nat×(Nat×Th))->Bool
 |[]=>Yy
 |(_,(_, .deep _ _ _ (some h)))::l=>WI h.o o||yG o l
 |_::l=>yG o l
def G9(st:State)(x:Operand):Bool:=
 match Bd st.ah x with
 |some (.val _ (.own o))=>yG o st.objs
 |_=>Yy
def Ev(st:State):Op->Bool
 | .call c=>c.args.toList.any (G9 st)
 |_=>Yy
def Ew:Op->Option Operand
 | .next x Yy=>some x
 |_=>Yw
noncomputable def Ak{R:Type}{P:Program}(E:Env P)(dst:Option Nat)(op:Op)(st:State)(k:State->Option R):Option R:=
 match dw st.objs (mU E (Bd st.ah) st.objs op)with
 |some aA=>match Eu E.T (Bd st.ah) (find aA) op with
  |some (b,m)=>match dst with
   |some d=>if WI m 0=Yx then wz (k (State.apply {st with objs:=aA} (some d) {dst:=cG Yx})) (k (State.apply {st with objs:=aA} (some d) {dst:=cG Yy}))
     else k (State.apply {st with objs:=aA} (some d) {dst:=cG b})
   |none=>Yw
  |none=>match Ew op with
   |some x=>match dst with
    |some d=>match Bd st.ah x with
     |some X=>D4 aA st.nxt X (λe=>k (State.apply {st with objs:=aA} (some d) e))
     |none=>Yw
    |none=>Yw
   |none=>bif Rz dst op then G7 E (Bd st.ah) aA st.nxt dst op (λe=>k (State.apply {st with objs:=aA} dst e))else Yw
 |none=>Yw
noncomputable def qX{R:Type}{P:Program}(E:Env P)(dst:Option Nat)(op:Op)(st:State)(k:State->Option R):Option R:=
 match E.deep&&LD op&& !Ev st op with
 |true=>Ak E dst op (kI st) k
 |false=>Ak E dst op st k
def Al(all:Array Oper)(j:Nat):Option Nat:=(all[j]?).bind (·.dst)
def State.put(st:State)(dst:Option Nat)(d:ag):State:=
 match dst with
 |some t=>{st with ah:=(t,d)::st.ah}
 |none=>st
def qY(dst:Option Nat)(kn:List (Nat×Bool)):List (Nat×Bool):=
 match dst with
 |some d=>del [d] kn
 |none=>kn
noncomputable def runs{R:Type}{P:Program}(E:Env P)(nt:Nat)(all:Array Oper):List Oper->List (Nat×Bool)->State->(State->Option R)->Option R
 |[],_,st,k=>k st
 |o::os,kn,st,k=>bif wy nt o.dst then(match o.guard with
  |none=>qX E o.dst o.op st (λb9=>runs E nt all os (qY o.dst kn) b9 k)
  |some (j,b)=>match Al all j with
   |none=>Yw
   |some g=>bif Xt g nt then(match find kn g with
    |some v=>bif (bif v then b else !b)then qX E o.dst o.op st (λb9=>runs E nt all os (qY o.dst kn) b9 k)else runs E nt all os (qY o.dst kn) (st.put o.dst .undef) k
    |none=>match find st.ah g with
     |some .undef=>runs E nt all os (qY o.dst kn) (st.put o.dst .undef) k
     |some d=>match asBool d with
      |some t=>if t=Yx then
        (bif b then qX E o.dst o.op (st.put (some g) (cG Yx)) (λb9=>runs E nt all os (qY o.dst ((g,Yx)::kn)) b9 k)
          else runs E nt all os (qY o.dst ((g,Yx)::kn)) ((st.put (some g) (cG Yx)).put o.dst .undef) k)
       else
        (bif b then runs E nt all os (qY o.dst ((g,Yy)::kn)) ((st.put (some g) (cG Yy)).put o.dst .undef) k
          else qX E o.dst o.op (st.put (some g) (cG Yy)) (λb9=>runs E nt all os (qY o.dst ((g,Yy)::kn)) b9 k))
      |none=>Yw
     |none=>Yw)else Yw)else Yw
section
variable {P:Program} {nt:Nat} {ops:Array Oper} {K:(Nat->Value)->World->Prop} {rest:List Oper} {R:Type}
variable {ρ:Nat->Value} {w w0:World} {H:ai} {F F0 G:Nat->Prop}
abbrev UU(G:Nat->Prop)(w0:World):Nat->Prop:=λk=>w0.heap.size<=k\/G k
theorem D9.gv{H':ai}{F':Nat->Prop}{w':World}{g:Nat->Prop}(hg:D9 G w0 F0 w F)(he:F8 H F w H' F' w' g)(hu:∀k,g k->UU G w0 k):D9 G w0 F0 w' F':=by
 have ir:=hg.ext.size;refine⟨⟨he.ext.os.trans hg.ext.os,⟨he.ext.tape.1.trans hg.ext.tape.1,Xa hg.ext.tape.2 he.ext.tape.2⟩,he.ext.output.trans hg.ext.output,Xa ir he.ext.size,λk hk hn=>?_⟩,λb hb=>he.le b (hg.le b hb),λb hb=>?_⟩
 .rw[he.ext.block k (by omega) λh=>?_]
  .exact hg.ext.block k hk hn
  .rcases hu k h with h1|h1
   .omega
   .exact hn h1
 .rcases he.grow b hb with h1|h1|h1
  .exact hg.new b h1
  .exact .inr (.inl (Xa ir h1))
  .exact .inr (hu b h1)
structure bP(G:Nat->Prop)(w0:World)(F0:Nat->Prop)(H:ai)(F:Nat->Prop)(w:World)(ρ:Nat->Value)(st:State):Prop where
 sat:Sat (UU G w0) H F w ρ st
 glob:D9 G w0 F0 w F
theorem bx.sX{H':ai}{F':Nat->Prop}{w':World}{g:Nat->Prop}(he:F8 H F w H' F' w' g)(hF:∀b,F b->b<w.heap.size)(hg:∀k,g k->¬F k):bx H F w H' F' w':=⟨he.dR,he.step hF hg⟩
theorem bP.oh{st:State}{os:List Nat}{aA:List (Nat×(Nat×Th))}(h:bP G w0 F0 H F w ρ st)(hf:dw st.objs os=some aA):
 ∃F',bP G w0 F0 H F' w ρ {st with objs:=aA}/\bx H F w H F' w:=by
 obtain⟨F',a1,a2,a3⟩:=jK hf h.sat.ob
 have dz:Step F w F' w:=λb hb=>⟨a2 b hb,rfl⟩
 refine⟨F',⟨⟨λt d hd=>(h.sat.slot t d hd).keep (ai.le.refl H) dz,a1,h.sat.all⟩,⟨h.glob.ext,λb hb=>a2 b (h.glob.le b hb),λb hb=>?_⟩⟩,⟨ai.le.refl H,dz⟩⟩
 rcases a3 b hb with h1|h1
 .exact h.glob.new b h1
 .exact .inr (h.sat.ob.dC b h1)
theorem yH{P:Program}{ρ:Nat->Value}{w:World}{o:BinOp}(rU:o= .eql\/o= .neq){t u e:TypeId}{x y:Operand}{d:Nat}{ty:TypeId}{pos:String}{aft:Array Edge}(hu:P.underlying t=some (.slice e)){A:Option Addr}{m c:Nat}(hx:ev ρ x= .slice A m c)(hy:ev ρ y= .slice Yw 0 0):
 (execOp (ev ρ) ⟨some d, .binOp o t x y u,ty,pos,aft,Yw⟩).run P w= .ok (.value (.bool (bif decide (o= .eql)then A.isNone else !A.isNone))) w:=by
 have hm:Op.maxDepth=9999+1:=rfl
 have he:(Op.equal t (.slice A m c) (.slice Yw 0 0)).run P w= .ok A.isNone w:=by
  unfold Op.equal;rw[hm];unfold Op.equalIn;rw[Xd,run_underlying hu]
  cases A<;>rfl
 rcases rU with rfl|rfl
 .simp[execOp,eqGuard,binOp,hx,hy,he]
 .simp[execOp,eqGuard,binOp,hx,hy,he]
theorem Ey{P:Program}(T:aF P){U:Nat->Prop}{H:ai}{F:Nat->Prop}{w:World}{ρ:Nat->Value}{n:Nat}{ob:Nat->Option (Nat×Th)}{rd:Operand->Option ag}(dg:∀x d,rd x=some d->af H F w d (ev ρ x))(hs:ak U H F w ob n){op:Op}{b:Bool}{m:Nat}(h:Eu T rd ob op=some (b,m)){d:Nat}{ty:TypeId}{pos:String}{aft:Array Edge}:
 ∃r:Bool,(m≠0->r=b)/\(execOp (ev ρ) ⟨some d,op,ty,pos,aft,Yw⟩).run P w= .ok (.value (.bool r)) w:=by
 have TB:∀{y:Operand},oN y=Yx->ev ρ y= .slice Yw 0 0:=by
  intro y hy;unfold oN at hy;split at hy
  .rfl
  .cases hy
 have key:∀{k:DH}{v:Value},GG U H F w ob v k->∀m,(match k with| .read _ l=>l.length=m| .own _ _ _ _ l=>l.length=m|_=>False)->∃A n c,v= .slice A n c/\(m≠0->A.isNone=Yy):=by
  intro k v hk m hm
  cases k with
  |read r l=>
   obtain⟨A,cap,hv,_,_,h3⟩:=hk;simp only[XT,and_true]at hv;refine⟨A,_,cap,hv,λh0=>?_⟩;obtain⟨b,off,es,rfl,_⟩:=h3 0 (by dsimp only at hm;omega);rfl
  |own o s T r l=>
   obtain⟨xs,hx,_⟩:=hk.2.2.2
   rcases hx.2 with⟨rfl,h0⟩|⟨g,o0,cap,cur,rfl,_⟩
   .exact⟨Yw,0,0,rfl,λh=>absurd (hm.symm.trans h0) h⟩
   .exact⟨_,_,_,rfl,λ_=>rfl⟩
  |nil=>exact hm.elim
  |view o s r m=>exact hm.elim
  |deep=>exact hm.elim
 unfold Eu at h;split at h
 case h_2=>cases h
 rename_i o t x y u;split at h
 case h_3=>cases h
 all_goals
  obtain⟨hy,h⟩:=ax h;split at h
  case h_2=>cases h
  rename_i e hu;have hu:=T.und_ok _ _ hu;split at h
  case h_2=>cases h
  rename_i X hX;split at h
  case h_3=>cases h
  all_goals
   rename_i eA;obtain⟨rfl,rfl⟩:=X9 (WD h);obtain⟨A,n',c,hv,hA⟩:=key (eQ hs eA (dg _ _ hX)) _ rfl;refine⟨_,λh0=>?_,yH (by first|exact .inl rfl|exact .inr rfl) hu hv (TB hy)⟩;rw[hA h0];rfl
theorem bP.qW{st:State}(h:bP G w0 F0 H F w ρ st)(o:Nat):∃H' F',bP G w0 F0 H' F' w ρ (qW st o)/\bx H F w H' F' w:=by
 unfold Go.Proofs.YtbladfbbhijpmaaGreat.qW;split
 .rename_i e he;obtain⟨H',F',hp⟩:=yp h.sat.ob he;have hs:=h.sat.apply (d:=Yw) hp;exact⟨H',F',⟨hs,h.glob.gv hp.gv h.sat.ob.dC⟩,bx.sX hp.gv h.sat.ob.lt h.sat.ob.db⟩
 .exact⟨H,F,h,bx.refl H F w⟩
theorem bP.pj:{os:List Nat}->{st:State}->{H:ai}->{F:Nat->Prop}->bP G w0 F0 H F w ρ st->∃H' F',bP G w0 F0 H' F' w ρ (pj st os)/\bx H F w H' F' w
 |[],_,H,F,h=>⟨H,F,h,bx.refl H F w⟩
 |o::os,st,H,F,h=>by
  obtain⟨H1,F1,h1,k1⟩:=h.qW o;obtain⟨H2,F2,h2,k2⟩:=bP.pj (os:=os) h1;exact⟨H2,F2,h2,k1.trans k2⟩
theorem bP.kI{st:State}(h:bP G w0 F0 H F w ρ st):∃H' F',bP G w0 F0 H' F' w ρ (kI st)/\bx H F w H' F' w:=by
 unfold Go.Proofs.YtbladfbbhijpmaaGreat.kI;split
 case h_2=>exact⟨H,F,h,bx.refl H F w⟩
 obtain⟨H1,F1,h1,k1⟩:=h.pj (os:=st.objs.map (·.1));obtain⟨H2,F2,h2,k2⟩:=h1.pj (os:=st.objs.map (·.1));exact⟨H2,F2,h2,k1.trans k2⟩
theorem wA{E:Env P}{dst:Option Nat}{op:Op}{ty:TypeId}{pos:String}{aft:Array Edge}{st:State}{k:State->Option R}{q:R}(h:Ak E dst op st k=some q)(hd:wy nt dst=Yx)(hh:bP G w0 F0 H F w ρ st)
 (hk:∀b9 H' F' w' bR,k b9=some q->bP G w0 F0 H' F' w' bR b9->bx H F w H' F' w'->(∀t,dst≠some t->bR t=ρ t)->wpS P nt ops K rest bR w'):wpS P nt ops K (⟨dst,op,ty,pos,aft,Yw⟩::rest) ρ w:=by
 unfold Ak at h;split at h
 case h_2=>cases h
 rename_i aA rQ;obtain⟨F1,iR,ON⟩:=hh.oh rQ;split at h
 .rename_i b m hn;split at h
  case h_2=>cases h
  rename_i d;obtain⟨r,hr,aV⟩:=Ey E.T (ρ:=ρ) (d:=d) (ty:=ty) (pos:=pos) (aft:=aft) (λx d hx=>oi iR.sat.ob.gl iR.sat.slot x d hx) iR.sat.ob hn
  have TC:k (State.apply {st with objs:=aA} (some d) {dst:=cG r})=some q:=by
   split at h
   .cases r with
    |true=>exact Et h
    |false=>exact Jf h
   .rename_i h0;rw[hr λe=>h0 (by rw[e];rfl)];exact h
  have wB:bw P (UU G w0) H F1 w ρ (find aA) st.nxt ⟨some d,op,ty,pos,aft,Yw⟩ {dst:=cG r}:=aS iR.sat.ob aV (au.dv ..)
  refine qn wB (λd' sb=>by rw[sb]at hd;exact hd) λv w' ⟨H',F',hp⟩=>?_
  have hs:=iR.sat.apply (d:=some d) hp
  refine hk _ H' F' w' _ TC ⟨hs,iR.glob.gv hp.gv iR.sat.ob.dC⟩ (ON.trans (bx.sX hp.gv iR.sat.ob.lt iR.sat.ob.db)) λt ht=>?_
  show xx ρ d v t=ρ t
  rw[kf,YA (λe=>ht (by rw[e]))]
 split at h
 .rename_i x Nw;split at h
  case h_2=>cases h
  rename_i d;split at h
  case h_2=>cases h
  rename_i X hX
  have rU:op= .next x Yy:=by
   unfold Ew at Nw;split at Nw
   .rw[WD Nw]
   .cases Nw
  subst rU;obtain⟨e,he,wB⟩:=D5 (ρ:=ρ) (d:=d) (ty:=ty) (pos:=pos) (aft:=aft) (P:=P) (U:=UU G w0) h iR.sat.ob (oi iR.sat.ob.gl iR.sat.slot _ _ hX)
  refine qn wB (λd' sb=>by rw[sb]at hd;exact hd) λv w' ⟨H',F',hp⟩=>?_
  have hs:=iR.sat.apply (d:=some d) hp
  refine hk _ H' F' w' _ he ⟨hs,iR.glob.gv hp.gv iR.sat.ob.dC⟩ (ON.trans (bx.sX hp.gv iR.sat.ob.lt iR.sat.ob.db)) λt ht=>?_
  show xx ρ d v t=ρ t
  rw[kf,YA (λe=>ht (by rw[e]))]
 obtain⟨yF,h'⟩:=ax h;clear h;obtain⟨e,he,wB⟩:=Es (ρ:=ρ) (ty:=ty) (pos:=pos) (aft:=aft) E (λx d hx=>oi iR.sat.ob.gl iR.sat.slot x d hx) (λhn c hc=>by subst hn;subst hc;exact yF) h' iR.sat.ob
 refine qn wB (λd sb=>by rw[sb]at hd;exact hd) λv w' ⟨H',F',hp⟩=>?_
 have hs:=iR.sat.apply (d:=dst) hp
 refine hk _ H' F' w' _ he ⟨hs,iR.glob.gv hp.gv iR.sat.ob.dC⟩ (ON.trans (bx.sX hp.gv iR.sat.ob.lt iR.sat.ob.db)) λt ht=>?_
 cases dst with
 |none=>rfl
 |some d=>
  show xx ρ d v t=ρ t
  rw[kf,YA (λe=>ht (by rw[e]))]
theorem Ez{E:Env P}{dst:Option Nat}{op:Op}{ty:TypeId}{pos:String}{aft:Array Edge}{st:State}{k:State->Option R}{q:R}(h:qX E dst op st k=some q)(hd:wy nt dst=Yx)(hh:bP G w0 F0 H F w ρ st)
 (hk:∀b9 H' F' w' bR,k b9=some q->bP G w0 F0 H' F' w' bR b9->bx H F w H' F' w'->(∀t,dst≠some t->bR t=ρ t)->wpS P nt ops K rest bR w'):wpS P nt ops K (⟨dst,op,ty,pos,aft,Yw⟩::rest) ρ w:=by
 unfold qX at h;split at h
 .obtain⟨H1,F1,h1,k1⟩:=hh.kI
  exact wA h hd h1 λb9 H' F' w' bR a b c d=>hk b9 H' F' w' bR a b (k1.trans c) d
 .exact wA h hd hh hk
theorem bP.put{st:State}{dst:Option Nat}{d:ag}{v:Value}(h:bP G w0 F0 H F w ρ st)(hd:af H F w d v):bP G w0 F0 H F w (pH ρ dst v) (st.put dst d):=by
 refine⟨⟨λt q hq=>?_,?_,by cases dst<;>exact h.sat.all⟩,h.glob⟩
 .cases dst with
  |none=>exact h.sat.slot t q hq
  |some s=>
   have o8:find ((s,d)::st.ah) t=some q:=hq;rw[aw]at o8
   show af H F w q (xx ρ s v t)
   rw[kf];by_cases e:s=t
   .rw[YB e]at o8;rw[YB e.symm];obtain rfl:=WD o8;exact hd
   .rw[YA e]at o8;rw[YA (Ne.symm e)];exact h.sat.slot t q o8
 .cases dst<;>exact h.sat.ob
theorem bP.lit{st:State}{g:Nat}{d:ag}(h:bP G w0 F0 H F w ρ st)(hd:af H F w d (ρ g)):bP G w0 F0 H F w ρ (st.put (some g) d):=by
 refine⟨⟨λt q hq=>?_,h.sat.ob,h.sat.all⟩,h.glob⟩;have o8:find ((g,d)::st.ah) t=some q:=hq;rw[aw]at o8;split at o8
 .rename_i e;subst e;obtain rfl:=WD o8;exact hd
 .exact h.sat.slot t q o8
def nQ(ρ:Nat->Value)(kn:List (Nat×Bool)):Prop:=∀g b,find kn g=some b->ρ g= .bool b
theorem nQ.del{bR:Nat->Value}{dst:Option Nat}{kn:List (Nat×Bool)}(h:nQ ρ kn)(Ip:∀t,dst≠some t->bR t=ρ t):nQ bR (qY dst kn):=by
 intro g b hg
 cases dst with
 |none=>rw[Ip g (by simp)];exact h g b hg
 |some d=>
  obtain⟨h1,h2⟩:=eE.1 hg;rw[Ip g (λe=>h1 (by simp[WD e]))];exact h g b h2
theorem nQ.cons{kn:List (Nat×Bool)}{g:Nat}{b:Bool}(h:nQ ρ kn)(hb:ρ g= .bool b):nQ ρ ((g,b)::kn):=by
 intro g' b' hg;rw[aw]at hg;split at hg
 .rename_i e;subst e;obtain rfl:=WD hg;exact hb
 .exact h g' b' hg
theorem ma{dst:Option Nat}{v:Value}{t:Nat}(h:dst≠some t):pH ρ dst v t=ρ t:=by
 cases dst with
 |none=>rfl
 |some d=>
  show xx ρ d v t=ρ t
  rw[kf,YA (λe=>h (by rw[e]))]
theorem uq{E:Env P}{q:R}:{l:List Oper}->{kn:List (Nat×Bool)}->{st:State}->{k:State->Option R}->{H:ai}->{F:Nat->Prop}->{w:World}->{ρ:Nat->Value}->runs E nt ops l kn st k=some q->nQ ρ kn->bP G w0 F0 H F w ρ st->
 (∀b9 H' F' w' bR,k b9=some q->bP G w0 F0 H' F' w' bR b9->bx H F w H' F' w'->(∀t,(∀o∈l,o.dst≠some t)->bR t=ρ t)->K bR w')->wpS P nt ops K l ρ w
 |[],kn,st,k,H,F,w,ρ,h,_,hh,hk=>Gt (hk st H F w ρ h hh (bx.refl H F w) λ_ _=>rfl)
 |o::l,kn,st,k,H,F,w,ρ,h,Ha,hh,hk=>by
  unfold runs at h;obtain⟨hd,h'⟩:=ax h;clear h
  have OP:∀d,o.dst=some d->Xt d nt=Yx:=λd e=>by rw[e]at hd;exact hd
  have on:∀{st1:State}{Jg:List (Nat×Bool)},qX E o.dst o.op st1 (λb9=>runs E nt ops l (qY o.dst Jg) b9 k)=some q->nQ ρ Jg->bP G w0 F0 H F w ρ st1->wpS P nt ops K (⟨o.dst,o.op,o.type,o.pos,o.after,Yw⟩::l) ρ w:=by
   intro st1 Jg hs ur iR
   refine Ez hs hd iR λb9 H' F' w' bR e1 e2 e3 e4=>?_
   refine uq e1 (ur.del e4) e2 λst2 H2 F2 w2 OQ f1 f2 f3 f4=>?_
   exact hk st2 H2 F2 w2 OQ f1 f2 (e3.trans f3) λt ht=>(f4 t λo' fZ=>ht o' (by simp[fZ])).trans (e4 t (ht o (by simp)))
  have off:∀{st1:State}{Jg:List (Nat×Bool)},runs E nt ops l (qY o.dst Jg) (st1.put o.dst .undef) k=some q->nQ ρ Jg->bP G w0 F0 H F w ρ st1->wpS P nt ops K l (pH ρ o.dst undef) w:=by
   intro st1 Jg hs ur iR
   refine uq hs (ur.del λt ht=>ma ht) (iR.put rfl) λst2 H2 F2 w2 OQ f1 f2 f3 f4=>?_
   exact hk st2 H2 F2 w2 OQ f1 f2 f3 λt ht=>(f4 t λo' fZ=>ht o' (by simp[fZ])).trans (ma (ht o (by simp)))
  obtain⟨dst,op,ty,pos,aft,guard⟩:=o;simp only at h' on off OP;split at h'
  .exact on h' Ha hh
  .rename_i j b;split at h'
   case h_1=>cases h'
   rename_i g Iq;obtain⟨Ir,h⟩:=ax h';clear h'
   have OR:ρ g= .bool b->wpS P nt ops K (⟨dst,op,ty,pos,aft,Yw⟩::l) ρ w->wpS P nt ops K (⟨dst,op,ty,pos,aft,some (j,b)⟩::l) ρ w:=λhb hw=>IL g Iq Ir hb hw
   have Jh:∀b',ρ g= .bool b'->b'≠b->wpS P nt ops K l (pH ρ dst undef) w->wpS P nt ops K (⟨dst,op,ty,pos,aft,some (j,b)⟩::l) ρ w:=λb' hb bY hw=>by
    cases dst with
    |none=>exact tJ g Iq Ir hb bY hw
    |some d=>exact Gu g Iq Ir hb bY (OP d rfl) hw
   split at h
   .rename_i v hv;have RA:=Ha g v hv
    cases Lo:(bif v then b else !b)with
    |true=>
     rw[Lo,cond_true]at h
     have:v=b:=by cases v<;>cases b<;>simp_all
     subst this;exact OR RA (on h Ha hh)
    |false=>
     rw[Lo,cond_false]at h
     have:v≠b:=by intro e;subst e;cases v<;>simp_all
     exact Jh v RA this (off h Ha hh)
   .split at h
    .rename_i hu;have RB:ρ g=undef:=hh.sat.slot _ _ hu
     cases dst with
     |none=>exact rK g Iq Ir RB (off h Ha hh)
     |some d=>exact C2 g Iq Ir RB (OP d rfl) (off h Ha hh)
    .rename_i d sb;split at h
     case h_2=>cases h
     rename_i t ht;have hgt:=jz ht (hh.sat.slot _ _ sb);split at h
     .rename_i Hb;subst Hb;have iR:bP G w0 F0 H F w ρ (st.put (some g) (cG Yx)):=hh.lit (by rw[hgt];exact au.dv ..);have ur:=Ha.cons hgt
      cases b with
      |true=>rw[cond_true]at h;exact OR hgt (on h ur iR)
      |false=>rw[cond_false]at h;exact Jh Yx hgt (by simp) (off h ur iR)
     .rename_i Hb
      have Hb:t=Yy:=by cases t<;>simp_all
      subst Hb;have iR:bP G w0 F0 H F w ρ (st.put (some g) (cG Yy)):=hh.lit (by rw[hgt];exact au.dv ..);have ur:=Ha.cons hgt
      cases b with
      |true=>rw[cond_true]at h;exact Jh Yy hgt (by simp) (off h ur iR)
      |false=>rw[cond_false]at h;exact OR hgt (on h ur iR)
    .cases h
end
end
end Go.Proofs.YtbladfbbhijpmaaGreat
section
open _root_.Bool renaming false->Yy,true->Yx,cond_eq_ite->W4
open _root_.Option renaming none->Yw,bind_assoc->Xs,isSome_iff_exists->Xo,none_or->X3
open _root_.Array renaming getElem?_eq_getElem->WY,getElem?_eq_some_iff->Xj
open _root_.List renaming length_append->WZ,length_cons->WX,mem_cons->WS,mem_cons_of_mem->Xk,mem_cons_self->Xx,mem_singleton->WO
open _root_.Nat renaming add_zero->XL,beq->WI,blt->Xt,testBit_or->Ya,zero_add->Xl
open _root_.Option.some renaming inj->WD
open _root_.Go.Region renaming binds->Yh
namespace Go.Proofs.YtbladfbbhijpmaaGreat
open Go Go.RowKit
section
variable {P:Program} {R:Type} {ob:Nat->Option (Nat×Th)} {n:Nat} (k:cI->Option R)
theorem qZ{rd:Operand->Option ag}{fn:Fn}{first caps:Array Operand}:iv rd fn first caps k=(iv rd fn first caps some).bind k:=by
 unfold iv
 repeat' first|rfl|split
theorem uu(T:aF P){m:Nat}{e:TypeId}{D:ag}{i:Int}:lK T m e D i k=(lK T m e D i some).bind k:=by
 unfold lK;simp only[W4]
 repeat' first|rfl|(rw[Xs];rfl)|split
theorem uv(T:aF P){t:TypeId}{D:ag}{i:Int}:lQ T ob t D i k=(lQ T ob t D i some).bind k:=by
 unfold lQ;simp only[W4]
 repeat' first|rfl|(rw[Xs];rfl)|split
theorem wC(T:aF P){t:TypeId}{D:ag}{i:Int}:ol T ob t D i k=(ol T ob t D i some).bind k:=by
 unfold ol;simp only[W4]
 repeat' first|rfl|exact uu k T|(rw[Xs];rfl)|split
theorem yI(T:aF P){t:TypeId}{D:ag}:sv T ob t D k=(sv T ob t D some).bind k:=by
 unfold sv;simp only[W4]
 repeat' first|rfl|split|(rw[Xs];congr 1;funext x;repeat' first|rfl|split)
theorem wD(T:aF P){t:TypeId}{D V:ag}:om T ob n t D V k=(om T ob n t D V some).bind k:=by
 unfold om;simp only[W4]
 repeat' first|rfl|split|(rw[Xs];rfl)|(rw[Xs];congr 1;funext x;repeat' first|rfl|split)
theorem wE(T:aF P){t:TypeId}{D:ag}:mP T ob n t D k=(mP T ob n t D some).bind k:=by
 unfold mP;simp only[W4]
 repeat' first|rfl|split|(rw[Xs];rfl)
theorem wF(T:aF P){t:TypeId}{D:ag}:k0 T ob n t D k=(k0 T ob n t D some).bind k:=by
 unfold k0;split
 .exact wE k T
 .exact yI k T
theorem uw(T:aF P){t:TypeId}{D V:ag}:lS T ob n t D V k=(lS T ob n t D V some).bind k:=by
 unfold lS;simp only[W4]
 repeat' first|rfl|split|(rw[Xs];rfl)
theorem ux(T:aF P){t:TypeId}{D V:ag}:lV T ob n t D V k=(lV T ob n t D V some).bind k:=by
 unfold lV;split
 .exact uw k T
 .exact wD k T
theorem rV{e:TypeId}{dr:DR}{ds:List ag}:kZ e dr ob n ds k=(kZ e dr ob n ds some).bind k:=by
 unfold kZ;simp only[W4]
 repeat' first|rfl|split
theorem wG(T:aF P){t:TypeId}:oo T n t k=(oo T n t some).bind k:=by
 unfold oo
 repeat' first|rfl|split
theorem BU{t:TypeId}{V:ag}:Bm n t V k=(Bm n t V some).bind k:=by
 unfold Bm
 repeat' first|rfl|split
theorem q6(T:aF P){t:TypeId}{s:Bool}{a b:Int}:qw T n t s a b k=(qw T n t s a b some).bind k:=by
 unfold qw
 repeat' first|rfl|split|(rw[Xs];rfl)
theorem wH(T:aF P){b:Bool}{t:TypeId}{s:Bool}{x y:Int}:qK b T n t s x y k=(qK b T n t s x y some).bind k:=by
 unfold qK;split
 .unfold ud
  repeat' first|rfl|exact q6 k T|split|(rw[Xs];rfl)
 .exact q6 k T
theorem uy(T:aF P){t:TypeId}{X Y:ag}:lN T ob n t X Y k=(lN T ob n t X Y some).bind k:=by
 unfold lN;simp only[W4]
 repeat' first|rfl|split|(rw[Xs];rfl)
theorem oO(T:aF P){rd:Operand->Option ag}{t:TypeId}{m:Nat}{ps:Array (Nat×Operand)}:fA T rd ob n t m ps k=(fA T rd ob n t m ps some).bind k:=by
 unfold fA;simp only[W4]
 repeat' first|rfl|split
theorem uz{b:Bool}(T:aF P){rd:Operand->Option ag}{t:TypeId}{m:Nat}{ps:Array (Nat×Operand)}:p8 b T rd ob n t m ps k=(p8 b T rd ob n t m ps some).bind k:=by
 cases b with
 |false=>exact oO k T
 |true=>
  show lU T rd ob n t m ps k=(lU T rd ob n t m ps some).bind k
  unfold lU;simp only[W4]
  repeat' first|rfl|exact rV k|split
theorem wI(T:aF P){rd:Operand->Option ag}{t:TypeId}{ps:Array (Nat×Operand)}:ot T rd t ps k=(ot T rd t ps some).bind k:=by
 unfold ot;simp only[W4]
 repeat' first|rfl|split
theorem wJ(dr:Bool)(T:aF P){rd:Operand->Option ag}{t:TypeId}{D:ag}{lo hi:Option Operand}:ou dr T rd ob n t D lo hi k=(ou dr T rd ob n t D lo hi some).bind k:=by
 unfold ou;simp only[W4]
 repeat' first|rfl|split|(rw[Xs];rfl)
theorem BV(T:aF P){o:BinOp}{t:TypeId}{lit:Bool}{X Y:ag}:Bu T ob o t lit X Y k=(Bu T ob o t lit X Y some).bind k:=by
 unfold Bu;simp only[W4]
 repeat' first|rfl|split|(rw[Xs];rfl)
theorem pL(T:aF P){t:TypeId}{M X Y:ag}:gh T ob n t M X Y k=(gh T ob n t M X Y some).bind k:=by
 unfold gh;simp only[W4]
 repeat' first|rfl|split
theorem rW(T:aF P){t:TypeId}:jE T n t k=(jE T n t some).bind k:=by
 unfold jE
 repeat' first|rfl|split
theorem uA(T:aF P){t:TypeId}{ok:Bool}{M X:ag}:lP T ob t ok M X k=(lP T ob t ok M X some).bind k:=by
 unfold lP;simp only[W4]
 repeat' first|rfl|split
theorem rX(T:aF P){t:TypeId}{X Y:ag}:jJ T ob n t X Y k=(jJ T ob n t X Y some).bind k:=by
 unfold jJ
 cases D8 ob Y with
 |false=>exact uy k T
 |true=>
  simp only[cond_true];unfold nK;simp only[W4]
  repeat' first|rfl|split|(rw[Xs];rfl)
theorem oP(T:aF P){t:TypeId}{M X Y:ag}:fB T ob n t M X Y k=(fB T ob n t M X Y some).bind k:=by
 unfold fB;simp only[W4]
 repeat' first|rfl|exact pL k _|split
theorem q7(b:Bool)(T:aF P){t:TypeId}:iu b T n t k=(iu b T n t some).bind k:=by
 unfold iu;simp only[W4]
 repeat' first|rfl|exact rW k _|split
theorem rY(T:aF P){t:TypeId}{ok:Bool}{M X:ag}:jI T ob n t ok M X k=(jI T ob n t ok M X some).bind k:=by
 unfold jI;simp only[W4]
 repeat' first|rfl|exact uA k _|split
theorem wK{sg:nq}{bs:Bs}{aA:List (Nat×(Nat×Th))}{nd:List Nat}{y:bZ sg.out.rows}:oM sg n bs aA nd y k=(oM sg n bs aA nd y some).bind k:=by
 unfold oM;simp only[W4]
 repeat' first|rfl|split
theorem k9{objs:List (Nat×(Nat×Th))}{f:FuncId}{ds:List ag}:{tab:List (Nat×nq)}->kh objs n f ds k tab=(kh objs n f ds some tab).bind k
 |[]=>rfl
 |(g,sg)::tab=>by
  unfold kh;have ih:=k9 (objs:=objs) (f:=f) (ds:=ds) (tab:=tab);simp only[W4]
  repeat' first|rfl|exact ih|split|(rw[Xs];congr 1;funext y;exact wK k)
theorem yJ{tab:List (Nat×nq)}{rd:Operand->Option ag}{objs:List (Nat×(Nat×Th))}{g:Operand}{args:List Operand}:sS tab rd objs n g args k=(sS tab rd objs n g args some).bind k:=by
 unfold sS
 repeat' first|rfl|exact k9 k|split
theorem uB(T:aF P){tab:List (Nat×nq)}{rd:Operand->Option ag}{objs:List (Nat×(Nat×Th))}{g:Operand}{name:String}{args:List Operand}:lZ T tab rd objs n g name args k=(lZ T tab rd objs n g name args some).bind k:=by
 unfold lZ
 repeat' first|rfl|exact k9 k|split
theorem wL(T:aF P){t:TypeId}{M:ag}:oD T ob n t M k=(oD T ob n t M some).bind k:=by
 unfold oD
 repeat' first|rfl|split
theorem BW(T:aF P){t:TypeId}{D:ag}:BQ T t D k=(BQ T t D some).bind k:=by
 unfold BQ;simp only[W4]
 repeat' first|rfl|split
theorem uC(T:aF P){t:TypeId}{ok:Bool}{D:ag}:lY T t ok D k=(lY T t ok D some).bind k:=by
 unfold lY;simp only[W4]
 repeat' first|rfl|split
theorem uD(T:aF P){t:TypeId}{M X:ag}:lO T ob n t M X k=(lO T ob n t M X some).bind k:=by
 unfold lO;simp only[W4]
 repeat' first|rfl|split
theorem yK(E:Env P){rd:Operand->Option ag}{objs:List (Nat×(Nat×Th))}{c:Callee}{args:Array Operand}{ph:Array TypeId}:jN E rd objs n c args ph k=(jN E rd objs n c args ph some).bind k:=by
 unfold jN;simp only[W4]
 repeat' first|rfl|exact rX k _|exact uD k _|exact yJ k|exact uB k _|split
theorem EA(E:Env P){rd:Operand->Option ag}{objs:List (Nat×(Nat×Th))}{dst:Option Nat}{op:Op}:G7 E rd objs n dst op k=(G7 E rd objs n dst op some).bind k:=by
 unfold G7
 repeat' first|rfl|exact ux k _|exact oP k _|exact q7 k _ _|exact rY k _|exact wL k _|exact BW k _|exact uC k _|exact yK k _|exact wG k _|exact BU k|exact wI k _|exact uz k _|exact wF k _|exact BV k _|exact wH k _|exact wJ k _ _|exact wC k _|exact uv k _|exact qZ k|split
end
def e8{α:Type}(ns:List Nat):List (Nat×α)->List (Nat×α)
 |[]=>[]
 |(m,a)::l=>bif iE m ns then(m,a)::e8 ns l else e8 ns l
theorem sY{α:Type}{ns:List Nat}{l:List (Nat×α)}{n:Nat}{a:α}:find (e8 ns l) n=some a↔n∈ns/\find l n=some a:=by
 induction l with
 |nil=>simp[e8,find]
 |cons p l ih=>
  obtain⟨m,b⟩:=p;unfold e8
  cases hm:iE m ns with
  |true=>
   have bF:=cJ.1 hm;rw[cond_true,aw,aw];by_cases h:m=n
   .subst h;simp[bF]
   .simp only[YA h];exact ih
  |false=>
   have bF:m∉ns:=λe=>by rw[cJ.2 e]at hm;cases hm
   rw[cond_false,ih,aw];constructor
   .rintro⟨h1,h2⟩
    have bY:m≠n:=λe=>bF (e▸h1)
    exact⟨h1,by rw[YA bY];exact h2⟩
   .rintro⟨h1,h2⟩
    have bY:m≠n:=λe=>bF (e▸h1)
    rw[YA bY]at h2;exact⟨h1,h2⟩
def tmpsOf:List Operand->List Nat
 |[]=>[]
 | .tmp t::l=>t::tmpsOf l
 |_::l=>tmpsOf l
def Is:List (Bool×Tree)->List Nat
 |[]=>[]
 |p::l=>p.2.owns++Is l
def LF:ag->List Nat
 | .val _ t=>t.owns
 | .ptr o _ _=>[o]
 | .elem o .. =>[o]
 | .dlm o .. =>[o]
 | .tup ds=>Is ds
 | .fn _ caps=>caps.map (·.1)
 | .ifc _ d=>LF d
 |_=>[]
def It(ah:List (Nat×ag)):List Nat->List Nat
 |[]=>[]
 |t::l=>(match find ah t with
  |some d=>LF d
  |none=>[])++It ah l
def within(objs:List (Nat×(Nat×Th))):List Nat->List Nat
 |[]=>[]
 |o::l=>(match find objs o with
  |some (_, .box _ t)=>t.owns
  |_=>[])++within objs l
def Hc(ah:List (Nat×ag))(objs:List (Nat×(Nat×Th)))(ts:List Nat):List Nat:=
 (λl=>l++within objs l) (It ah ts)
def sZ(aA:List (Nat×(Nat×Th)))(nd:List Nat)(e:cI):cI:=
 {dst:=e.dst,eat:=nd++e.eat,make:=e.make++del e.eat (kH aA nd)}
section
variable {U:Nat->Prop} {H:ai} {F:Nat->Prop} {w:World} {n:Nat}
theorem BX{obj aA:List (Nat×(Nat×Th))}{nd:List Nat}{e:cI}{v:Value}{w':World}{F1:Nat->Prop}(rQ:dw obj nd=some aA)(oA:ak U H F1 w (find aA) n)(xO:∀b,F b->F1 b)(Gi:∀b,F1 b->F b\/bn H (find obj) nd b)
 (h:gW H F1 w (find aA) n e v w'):gW H F w (find obj) n (sZ aA nd e) v w':=by
 obtain⟨H',F',hp⟩:=h
 have dZ:∀k,bn H (find aA) e.eat k->bn H (find obj) (nd++e.eat) k:=by
  rintro k ⟨o,ho,s,t,u,h1,h2,h3⟩
  rcases fC rQ o s t h1 with h4|h4
  .exact⟨o,by simp[ho],s,t,u,h4,h2,h3⟩
  .exact(eh h4 h3).elim
 have part:∀o s t,find (e.make++del e.eat (kH aA nd)) o=some (s,t)->find e.make o=some (s,t)\/(o∉e.eat/\o∈nd/\find aA o=some (s,t)/\cN t=Yx):=by
  intro o s t ho;rw[eD]at ho
  cases hm:find e.make o with
  |some x=>rw[hm]at ho;exact .inl ho
  |none=>
   rw[hm,X3]at ho;obtain⟨h1,h2⟩:=eE.1 ho;obtain⟨h3,h4,h5⟩:=iF h2;exact .inr ⟨h1,h3,h4,h5⟩
 refine⟨H',F',⟨hp.gv.dR,⟨hp.gv.ext.os,hp.gv.ext.tape,hp.gv.ext.output,hp.gv.ext.size,λk hk hn=>hp.gv.ext.block k hk λhh=>hn (dZ k hh)⟩,λb hb=>hp.gv.le b (xO b hb),λb hb=>?_,hp.gv.lt⟩,hp.fresh,hp.dst,⟨λo s t ho=>?_,λo o' s s' t t' v v' bY ho fZ hv cM k hk gX=>?_⟩,λo ho=>?_⟩
 .rcases hp.gv.grow b hb with h1|h1|h1
  .rcases Gi b h1 with h2|⟨o,ho,rest⟩
   .exact .inl h2
   .exact .inr (.inr ⟨o,by simp[sZ,ho],rest⟩)
  .exact .inr (.inl h1)
  .exact .inr (.inr (dZ b h1))
 .rcases part o s t ho with h1|⟨h1,h2,h3,h4⟩
  .obtain⟨u,a1,a2,a3,a4,a5⟩:=hp.made.obj o s t h1;exact⟨u,a1,a2,a3,a4,λk hk=>⟨(a5 k hk).1,(a5 k hk).2.1,(a5 k hk).2.2.imp id (dZ k)⟩⟩
  .obtain⟨u,hu,bF⟩:=oA.obj _ _ _ h3;have:=bF.gv oA hp.gv h3 h1 hu;exact⟨u,hp.gv.dR.val _ _ hu,this.one,this.con,this.ok,λk hk=>(eh h4 hk).elim⟩
 .rcases part o s t ho with h1|⟨_,_,_,h4⟩
  .rcases part o' s' t' fZ with h2|⟨_,_,_,OT⟩
   .exact hp.made.apart o o' s s' t t' v v' bY h1 h2 hv cM k hk gX
   .exact eh OT gX
  .exact eh h4 hk
 .obtain⟨x,hx⟩:=Xo.1 ho
  rcases part o x.1 x.2 hx with h1|⟨_,h2,_⟩
  .exact(hp.ids o (by rw[h1];rfl)).imp (λh=>by simp[sZ,h]) id
  .exact .inl (by simp[sZ,h2])
end
def eo(x y:Nat×Th):Prop:=x=y\/∃T d l h h',x.2= .deep T d l h/\y.2= .deep T d l h'
theorem eo.symm{x y:Nat×Th}(h:eo x y):eo y x:=by
 rcases h with rfl|⟨T,d,l,h,h',h1,h2⟩
 .exact .inl rfl
 .exact .inr ⟨T,d,l,h',h,h2,h1⟩
theorem eo.trans{x y z:Nat×Th}(h:eo x y)(h':eo y z):eo x z:=by
 rcases h with rfl|⟨T,d,l,a,b,h1,h2⟩
 .exact h'
 .rcases h' with rfl|⟨T',d',l',a',b',h3,h4⟩
  .exact .inr ⟨T,d,l,a,b,h1,h2⟩
  .rw[h2]at h3;cases h3;exact .inr ⟨T,d,l,a,b',h1,h4⟩
structure gk where
 dst:Option Nat
 ts:List Nat
 os:List Nat
 e:cI
 ls:List Nat:=[]
 soft:List Nat:=[]
def mz:List (Nat×(Nat×Th))->List Nat
 |[]=>[]
 |(o,_)::l=>o::mz l
def gk.mut(x:gk):List Nat:=x.e.eat++mz x.e.make
def uE:Op->Bool
 | .call c=>match c.callee with
   | .builtin .len=>Yx
   |_=>Yy
 |_=>Yy
def Iu(rd:Operand->Option ag):Op->List Nat
 | .load _ x=>match rd x with
   |some (.dlm o _ _ _ _)=>[o]
   |_=>[]
 |_=>[]
def ed(st:State)(op:Op):List Nat:=
 match op with
 | .move _=>[]
 | .assign _=>[]
 |_=>Hc st.ah st.objs (tmpsOf op.operands.toList)
noncomputable def ta{R:Type}{P:Program}(E:Env P)(dst:Option Nat)(op:Op)(gs:List Nat)(st:State)(k:cI->gk->Option R):Option R:=
 match dw (e8 (ed st op) st.objs) (mU E (Bd (e8 (tmpsOf op.operands.toList) st.ah)) (e8 (ed st op) st.objs) op)with
 |some aA=>bif Rz dst op then G7 E (Bd (e8 (tmpsOf op.operands.toList) st.ah)) aA st.nxt dst op (λe=>
   (λe'=>k e' {dst:=dst,ts:=tmpsOf op.operands.toList++gs,os:=bif uE op then[]else ed st op,e:=e',ls:=bif uE op then ed st op else[],soft:=Iu (Bd (e8 (tmpsOf op.operands.toList) st.ah)) op}) (sZ aA (mU E (Bd (e8 (tmpsOf op.operands.toList) st.ah)) (e8 (ed st op) st.objs) op) e))else Yw
 |none=>Yw
structure Iv(P:Program)(U:Nat->Prop)(o:Oper)(sl:Nat->Option ag)(ob:Nat->Option (Nat×Th))(n:Nat)(Am:gk):Prop where
 dst:Am.dst=o.dst
 run:∃(OU:Nat->Option ag)(F9:Nat->Option (Nat×Th)),(∀t d,OU t=some d->t∈Am.ts/\sl t=some d)/\(∀q x,F9 q=some x->(q∈Am.os\/q∈Am.ls)/\ob q=some x)/\
  ∀(H:ai)(F:Nat->Prop)(w:World)(ρ:Nat->Value)(BY:Nat->Option (Nat×Th)),(∀q x,F9 q=some x->∃x',BY q=some x'/\eo x x'/\(q∈Am.os->x'=x))->(∀t d,OU t=some d->af H F w d (ρ t))->ak U H F w BY n->
   ∃OV:Nat->Option (Nat×Th),(∀q x,OV q=some x->BY q=some x)/\bj P ρ ⟨o.dst,o.op,o.type,o.pos,o.after,Yw⟩ w (gW H F w OV n Am.e)
 soft:∀q∈Am.soft,q∈Am.mut->∃x y,ob q=some x/\find Am.e.make q=some y/\eo x y
theorem BZ{ob DB:Nat->Option (Nat×Th)}{D:ag}{k:DH}(Ji:∀q x,ob q=some x->∃x',DB q=some x'/\eo x x')(h:pJ ob D=some k):∃k',pJ DB D=some k'/\nD k'=nD k:=by
 unfold pJ at h;split at h
 .cases h;exact⟨_,rfl,rfl⟩
 .cases h;exact⟨_,rfl,rfl⟩
 .rename_i o
  cases ho:ob o with
  |none=>rw[ho]at h;cases h
  |some x=>
   obtain⟨s,t⟩:=x;obtain⟨⟨s',t'⟩,h1,h2⟩:=Ji o _ ho;rw[ho]at h
   rcases h2 with e|⟨T,d,l,a,b,e1,e2⟩
   .cases e;exact⟨k,by show(match DB o with|some (s, .own T r l)=>_|some (_, .oh _ r l)=>_|some (_, .fdeep _ d l)=>_|some (s, .deep T d l h)=>_|_=>_)=_;rw[h1];exact h,rfl⟩
   .simp only at e1 e2;subst e1 e2;cases h;exact⟨.deep o s' T d l b,by show(match DB o with|some (s, .own T r l)=>_|some (_, .oh _ r l)=>_|some (_, .fdeep _ d l)=>_|some (s, .deep T d l h)=>_|_=>_)=_;rw[h1],rfl⟩
 .rename_i o s r m
  have hk:nD k=(m.length:Int):=by
   split at h
   .rename_i s' _ _ _ _
    cases hb:WI s' s<;>rw[hb]at h<;>cases h<;>rfl
   .cases h;rfl
  rw[hk]
  show∃k',(match DB o with|some (s', .oh ..)=>bif WI s' s then some (DH.read r m)else some (.view o s r m)|_=>some (.view o s r m))=some k'/\nD k'=_
  split
  .rename_i s' _ _ _ _
   cases hb:WI s' s with
   |true=>exact⟨DH.read r m,rfl,rfl⟩
   |false=>exact⟨DH.view o s r m,rfl,rfl⟩
  .exact⟨DH.view o s r m,rfl,rfl⟩
 .cases h
theorem B3{P:Program}(T:aF P){ob DB:Nat->Option (Nat×Th)}{t:TypeId}{D D':ag}(Ji:∀q x,ob q=some x->∃x',DB q=some x'/\eo x x')(h:Bn T ob t D=some D'):Bn T DB t D=some D':=by
 unfold Bn at h⊢;split at h
 .split at h
  case h_2=>cases h
  rename_i k hk;obtain⟨k',h1,h2⟩:=BZ Ji hk;rw[h1];simp only[h2];exact h
 .exact h
 .cases h
theorem B4{P:Program}(T:aF P){ob:Nat->Option (Nat×Th)}{n:Nat}{t:TypeId}{o:Nat}{d:DR}{i:Int}{p:List Bool}{off:Nat}{e:cI}(h:k0 T ob n t (.dlm o d i p off) some=some e)(hm:o∈e.eat++mz e.make):
 ∃x y,ob o=some x/\find e.make o=some y/\eo x y:=by
 unfold k0 mP at h;simp only at h;split at h
 .cases h
 split at h
 case h_2=>cases h
 rename_i s T0 dr l hh ho;obtain⟨_,h⟩:=ax h;split at h
 .obtain⟨_,h⟩:=ax h;obtain⟨_,_,h⟩:=bind_some h;cases h;simp[mz]at hm
 .obtain⟨_,h⟩:=ax h;split at h
  .obtain⟨_,_,h⟩:=bind_some h;cases h;exact⟨_,(n, .deep T0 dr l _),ho,by rw[aw,YB rfl], .inr ⟨T0,dr,l,Yw,_,rfl,rfl⟩⟩
  .obtain⟨_,h⟩:=ax h;split at h
   .obtain⟨_,_,h⟩:=bind_some h;cases h;simp[mz]at hm
   .cases h
 .cases h
theorem EB{P:Program}{E:Env P}{U:Nat->Prop}{R:Type}{o:Oper}{gs:List Nat}{st:State}{k:cI->gk->Option R}{q:R}(h:ta E o.dst o.op gs st k=some q):
 ∃e Am,k e Am=some q/\Am.e=e/\(∀g∈gs,g∈Am.ts)/\Iv P U o (find st.ah) (find st.objs) st.nxt Am:=by
 unfold ta at h;split at h
 case h_2=>cases h
 rename_i aA rQ;obtain⟨yF,h'⟩:=ax h;clear h;rw[EA]at h';obtain⟨e,he,hk⟩:=bind_some h'
 have Hd:∀t d,find (e8 (tmpsOf o.op.operands.toList) st.ah) t=some d->t∈tmpsOf o.op.operands.toList/\find st.ah t=some d:=λt d ht=>sY.1 ht
 have yL:∀q x,find (e8 (ed st o.op) st.objs) q=some x->q∈ed st o.op/\find st.objs q=some x:=λq x hx=>sY.1 hx
 refine⟨_,_,hk,rfl,λg hg=>by simp[hg],rfl,⟨find (e8 (tmpsOf o.op.operands.toList) st.ah),find (e8 (ed st o.op) st.objs),λt d ht=>⟨by simp[(Hd t d ht).1],(Hd t d ht).2⟩,λq x hx=>⟨?_,(yL q x hx).2⟩,λH F w ρ BY Ji eA bH=>?_⟩,λq hq hm=>?_⟩
 .cases hl:uE o.op with
  |true=>exact .inr (by simp only[cond_true];exact(yL q x hx).1)
  |false=>exact .inl (by simp only[cond_false];exact(yL q x hx).1)
 .cases hl:uE o.op with
  |false=>
   simp only[hl,cond_false]at Ji
   have dN:∀q x,find (e8 (ed st o.op) st.objs) q=some x->BY q=some x:=λq x hx=>by
    obtain⟨x',h1,_,h2⟩:=Ji q x hx;rw[h1,h2 (yL q x hx).1]
   have pK:ak U H F w (find (e8 (ed st o.op) st.objs)) st.nxt:=⟨λo s t ho=>bH.obj o s t (dN _ _ ho),λo o' s s' t t' v v' bY ho fZ=>bH.apart o o' s s' t t' v v' bY (dN _ _ ho) (dN _ _ fZ),bH.fresh,bH.lt,bH.new,bH.gl⟩
   refine⟨_,dN,?_⟩;obtain⟨F1,oA,xO,Gi⟩:=jK rQ pK
   have dz:Step F w F1 w:=λb hb=>⟨xO b hb,rfl⟩
   obtain⟨e',he',hs⟩:=Es (ρ:=ρ) (ty:=o.type) (pos:=o.pos) (aft:=o.after) E (λx d hx=>oi oA.gl (λt d ht=>(eA t d ht).keep (ai.le.refl H) dz) x d hx) (λhn c hc=>by rw[hn,hc]at yF;exact yF) he oA;obtain rfl:=WD he'
   exact hs.mono λv w' hp=>BX rQ oA xO Gi hp
  |true=>
   refine⟨BY,λ_ _ h=>h,?_⟩;obtain⟨Jj,OW,TD,OX,OY,TE⟩:=o;simp only at*
   cases OW<;>try(cases hl;done)
   rename_i c;obtain⟨callee,args,ph⟩:=c
   cases callee<;>try(cases hl;done)
   rename_i b
   cases b<;>try(cases hl;done)
   cases Jj with
   |none=>cases yF
   |some d=>
    have yi:mU E (Bd (e8 (tmpsOf (Op.operands (.call {callee:= .builtin .len,args:=args,argTypes:=ph})).toList) st.ah)) (e8 (ed st (.call {callee:= .builtin .len,args:=args,argTypes:=ph})) st.objs) (.call {callee:= .builtin .len,args:=args,argTypes:=ph})=[]:=by unfold mU;cases E.deep<;>rfl
    rw[yi]at rQ⊢;obtain rfl:=WD rQ;have EC:jN E _ _ st.nxt (.builtin .len) args ph some=some e:=he;unfold jN at EC;simp only at EC;split at EC
    case h_2=>cases EC
    rename_i x t ha ht;obtain rfl:=cD ha;obtain rfl:=cD ht;split at EC
    case h_2=>cases EC
    rename_i D hD;split at EC
    case h_2=>cases EC
    rename_i D' GA;cases EC;have hlen:=B3 E.T (λq x hx=>by obtain⟨x',h1,h2,_⟩:=Ji q x hx;exact⟨x',h1,h2⟩) GA;exact zO E.T hlen bH (oi bH.gl eA _ _ hD)
 .obtain⟨Jj,OW,TD,OX,OY,TE⟩:=o;simp only at*
  cases OW<;>try(cases hq;done)
  rename_i t x;unfold Iu at hq;simp only at hq;split at hq
  case h_2=>cases hq
  rename_i o' d0 i p off dg;obtain rfl:=WO.1 hq
  have yi:mU E (Bd (e8 (tmpsOf (Op.operands (.load t x)).toList) st.ah)) (e8 (ed st (.load t x)) st.objs) (.load t x)=[]:=by unfold mU;cases E.deep<;>rfl
  rw[yi]at rQ hm⊢;obtain rfl:=WD rQ
  cases Jj with
  |none=>cases he
  |some d=>
   unfold G7 at he;simp only[dg]at he
   have TF:q∈e.eat++mz e.make:=by
    simpa[gk.mut,sZ,kH,del]using hm
   obtain⟨x1,y1,h1,h2,h3⟩:=B4 E.T he TF;refine⟨x1,y1,(yL _ _ h1).2,?_,h3⟩
   show find (e.make++_) q=_
   rw[eD,h2];rfl
end Go.Proofs.YtbladfbbhijpmaaGreat
namespace Go.Proofs.YtbladfbbhijpmaaGreat
open Go Go.RowKit
def rZ(acc:List Nat)(i:Nat):List Edge->Option Nat
 |[]=>some 0
 |e::l=>match rZ acc i l with
  |some m=>bif Yh .any e then(bif Xt e.on i then some (m|||2 ^ e.on|||acc.getD e.on 0)else Yw)else some m
  |none=>Yw
def B5(acc:List Nat):List Oper->Option (List Nat)
 |[]=>some acc
 |o::l=>match rZ acc acc.length o.after.toList with
  |some m=>B5 (acc++[m]) l
  |none=>Yw
def fq(d:Option Nat)(l:List Nat):Bool:=
 match d with
 |some t=>iE t l
 |none=>Yy
def wM(l l':List Nat):Bool:=l.any λo=>iE o l'
def gk.LG(x:gk):List Nat:=x.mut.filter λo=> !iE o x.soft
def conflict(a b:gk):Bool:=
 fq a.dst b.ts||fq b.dst a.ts||fq a.dst (b.dst.toList)||wM a.mut (b.os++b.mut)||wM a.LG b.ls||wM (a.os++a.ls++a.mut) b.mut
def uF(ms:List Nat)(i:Nat)(x:gk):Nat->List gk->Bool
 |_,[]=>Yx
 |j,y::l=>(bif conflict x y then Nat.testBit (ms.getD j 0) i else Yx)&&uF ms i x (j+1) l
def qa(ms:List Nat):Nat->List gk->Bool
 |_,[]=>Yx
 |i,x::l=>uF ms i x (i+1) l&&qa ms (i+1) l
def oQ(ops:List Oper)(es:List gk):Bool:=
 match B5 [] ops with
 |some ms=>qa ms 0 es
 |none=>Yy
section
variable {ops:Array Oper}
def yM(ops:Array Oper)(S:Nat->Prop):Prop:=∀i,S i->∀o,ops[i]? =some o->∀e∈o.after,Yh .any e=Yx->S e.on
theorem uG{acc:List Nat}{i:Nat}:{l:List Edge}->{m:Nat}->rZ acc i l=some m->∀j,m.testBit j=Yx->∃e∈l,Yh .any e=Yx/\e.on<i/\(e.on=j\/(acc.getD e.on 0).testBit j=Yx)
 |[],m,h,j,hj=>by
  obtain rfl:=WD h;simp at hj
 |e::l,m,h,j,hj=>by
  unfold rZ at h;split at h
  case h_2=>cases h
  rename_i m0 h0
  cases hb:Yh .any e with
  |false=>
   rw[hb,cond_false]at h;obtain rfl:=WD h;obtain⟨e',a1,a2⟩:=uG h0 j hj;exact⟨e',by simp[a1],a2⟩
  |true=>
   rw[hb,cond_true]at h
   cases av:Xt e.on i with
   |false=>rw[av]at h;cases h
   |true=>
    rw[av,cond_true]at h;obtain rfl:=WD h;rw[Ya,Ya,Bool.or_eq_true,Bool.or_eq_true]at hj
    have GO:e.on<i:=by simpa using av
    rcases hj with(hj|hj)|hj
    .obtain⟨e',a1,a2⟩:=uG h0 j hj;exact⟨e',by simp[a1],a2⟩
    .rw[Nat.testBit_two_pow]at hj;exact⟨e,by simp,hb,GO, .inl (YC hj)⟩
    .exact⟨e,by simp,hb,GO, .inr hj⟩
theorem An{acc:List Nat}{i:Nat}:{l:List Edge}->{m:Nat}->rZ acc i l=some m->∀e∈l,Yh .any e=Yx->e.on<i
 |[],m,h,e,he,_=>by cases he
 |e0::l,m,h,e,he,hb=>by
  unfold rZ at h;split at h
  case h_2=>cases h
  rename_i m0 h0
  rcases WS.1 he with rfl|he
  .rw[hb,cond_true]at h
   cases av:Xt e.on i with
   |false=>rw[av]at h;cases h
   |true=>simpa using av
  .exact An h0 e he hb
theorem uH:{l:List Oper}->{acc ms:List Nat}->B5 acc l=some ms->ms.length=acc.length+l.length/\(∀i,i<acc.length->ms.getD i 0=acc.getD i 0)/\
 ∀k o,l[k]? =some o->∃m,rZ ms (acc.length+k) o.after.toList=some m/\ms.getD (acc.length+k) 0=m
 |[],acc,ms,h=>by
  obtain rfl:=WD h;exact⟨by simp,λ_ _=>rfl,λk o h=>by simp at h⟩
 |o0::l,acc,ms,h=>by
  unfold B5 at h;split at h
  case h_2=>cases h
  rename_i m hm;obtain⟨a1,a2,a3⟩:=uH h;rw[WZ,List.length_singleton]at a1 a2 a3
  have ED:∀i,i<acc.length->ms.getD i 0=acc.getD i 0:=λi hi=>by
   rw[a2 i (by omega)];simp[List.getD,List.getElem?_append_left hi]
  have OZ:∀(l:List Edge)(m:Nat),rZ acc acc.length l=some m->rZ ms acc.length l=some m:=by
   intro l
   induction l with
   |nil=>intro m h;exact h
   |cons e l ih=>
    intro m h;unfold rZ at h⊢;split at h
    case h_2=>cases h
    rename_i m0 h0;rw[ih m0 h0];simp only
    cases hb:Yh .any e with
    |false=>rw[hb]at h;exact h
    |true=>
     rw[hb,cond_true]at h
     cases av:Xt e.on acc.length with
     |false=>rw[av]at h;cases h
     |true=>
      rw[av,cond_true]at h;rw[cond_true,cond_true,ED _ (by simpa using av)];exact h
  refine⟨by rw[a1,WX];omega,ED,λk o ho=>?_⟩
  cases k with
  |zero=>
   obtain rfl:o0=o:=by simpa using ho
   refine⟨m,OZ _ _ hm,?_⟩;rw[XL,a2 _ (by omega)];simp[List.getD]
  |succ k=>
   have:=a3 k o (by simpa using ho);rw[show acc.length+1+k=acc.length+(k+1)from by omega]at this;exact this
theorem EE{ms:List Nat}(h:B5 [] ops.toList=some ms){S:Nat->Prop}(hS:yM ops S):∀i o,ops[i]? =some o->(∀e∈o.after,Yh .any e=Yx->S e.on)->∀j,(ms.getD i 0).testBit j=Yx->S j:=by
 obtain⟨_,_,a3⟩:=uH h;intro i
 induction i using Nat.strongRecOn with
 |_ i ih=>
  intro o ho hd j hj;obtain⟨m,h1,h2⟩:=a3 i o (by rw[Array.getElem?_toList];exact ho);simp only[List.length_nil,Xl]at h1 h2;rw[h2]at hj;obtain⟨e,he,hb,av,h3⟩:=uG h1 j hj;have RC:=hd e (by simpa using he) hb
  rcases h3 with rfl|h3
  .exact RC
  .have Jk:e.on<ops.size:=by
    have:=(Xj.1 ho).1;omega
   exact ih e.on av _ (WY Jk) (λe' he' pU=>hS e.on RC _ (WY Jk) e' he' pU) j h3
end
def dy(S:Nat->Bool):Nat->List gk->(Nat->Option ag)->Nat->Option ag
 |_,[],f=>f
 |i,x::l,f=>dy S (i+1) l (λt=>bif S i&&fq (some t) x.dst.toList then some x.e.dst else f t)
def dh(S:Nat->Bool):Nat->List gk->(Nat->Option (Nat×Th))->Nat->Option (Nat×Th)
 |_,[],f=>f
 |i,x::l,f=>dh S (i+1) l (λo=>bif S i then(find x.e.make o).or (bif iE o x.e.eat then Yw else f o)else f o)
theorem mc{l:List (Nat×(Nat×Th))}{o:Nat}{x:Nat×Th}(h:find l o=some x):o∈mz l:=by
 induction l with
 |nil=>cases h
 |cons p l ih=>
  obtain⟨o',y⟩:=p;rw[aw]at h;split at h
  .rename_i e;subst e;exact Xx
  .exact Xk _ (ih h)
theorem nR{d:Option Nat}{t:Nat}:fq (some t) d.toList=Yx↔d=some t:=by
 unfold fq;simp only[cJ,Option.mem_toList]
theorem gF{S S':Nat->Bool}{t:Nat}:{l:List gk}->{i:Nat}->{f f':Nat->Option ag}->f t=f' t->(∀k x,l[k]? =some x->x.dst=some t->S (i+k)=S' (i+k))->dy S i l f t=dy S' i l f' t
 |[],_,_,_,hf,_=>hf
 |x::l,i,f,f',hf,h=>by
  show dy S (i+1) l _ t=dy S' (i+1) l _ t
  refine gF ?_ λk y hy hd=>by
   have:=h (k+1) y (by simpa using hy) hd
   rwa [show i+(k+1)=i+1+k from by omega]at this
  by_cases hd:x.dst=some t
  .have:=h 0 x rfl hd;simp only[XL]at this;rw[this,hf]
  .have:fq (some t) x.dst.toList=Yy:=by
    cases hb:fq (some t) x.dst.toList with
    |false=>rfl
    |true=>exact absurd (nR.1 hb) hd
   rw[this,Bool.and_false,Bool.and_false,cond_false,cond_false,hf]
theorem gm{S S':Nat->Bool}{o:Nat}:{l:List gk}->{i:Nat}->{f f':Nat->Option (Nat×Th)}->f o=f' o->(∀k x,l[k]? =some x->o∈x.mut->S (i+k)=S' (i+k))->dh S i l f o=dh S' i l f' o
 |[],_,_,_,hf,_=>hf
 |x::l,i,f,f',hf,h=>by
  show dh S (i+1) l _ o=dh S' (i+1) l _ o
  refine gm ?_ λk y hy hd=>by
   have:=h (k+1) y (by simpa using hy) hd
   rwa [show i+(k+1)=i+1+k from by omega]at this
  by_cases hd:o∈x.mut
  .have:=h 0 x rfl hd;simp only[XL]at this;rw[this,hf]
  .have h1:find x.e.make o=Yw:=by
    cases hm:find x.e.make o with
    |none=>rfl
    |some y=>exact absurd (by simp[gk.mut,mc hm]) hd
   have h2:iE o x.e.eat=Yy:=by
    cases hb:iE o x.e.eat with
    |false=>rfl
    |true=>exact absurd (by simp[gk.mut,cJ.1 hb]) hd
   rw[h1,h2,X3,cond_false]
   cases S i<;>cases S' i<;>simp[hf]
theorem ki{S:Nat->Bool}{t:Nat}:{l:List gk}->{i:Nat}->{f:Nat->Option ag}->(∀k x,l[k]? =some x->x.dst=some t->S (i+k)=Yy)->dy S i l f t=f t
 |[],_,_,_=>rfl
 |x::l,i,f,h=>by
  show dy S (i+1) l _ t=_
  rw[ki λk y hy hd=>by
   have:=h (k+1) y (by simpa using hy) hd
   rwa [show i+(k+1)=i+1+k from by omega]at this]
  by_cases hd:x.dst=some t
  .have:=h 0 x rfl hd;simp only[XL]at this;simp[this]
  .have:fq (some t) x.dst.toList=Yy:=by
    cases hb:fq (some t) x.dst.toList with
    |false=>rfl
    |true=>exact absurd (nR.1 hb) hd
   simp[this]
theorem jO{S:Nat->Bool}{o:Nat}:{l:List gk}->{i:Nat}->{f:Nat->Option (Nat×Th)}->(∀k x,l[k]? =some x->o∈x.mut->S (i+k)=Yy)->dh S i l f o=f o
 |[],_,_,_=>rfl
 |x::l,i,f,h=>by
  show dh S (i+1) l _ o=_
  rw[jO λk y hy hd=>by
   have:=h (k+1) y (by simpa using hy) hd
   rwa [show i+(k+1)=i+1+k from by omega]at this]
  by_cases hd:o∈x.mut
  .have:=h 0 x rfl hd;simp only[XL]at this;simp[this]
  .have h1:find x.e.make o=Yw:=by
    cases hm:find x.e.make o with
    |none=>rfl
    |some y=>exact absurd (by simp[gk.mut,mc hm]) hd
   have h2:iE o x.e.eat=Yy:=by
    cases hb:iE o x.e.eat with
    |false=>rfl
    |true=>exact absurd (by simp[gk.mut,cJ.1 hb]) hd
   simp only[h1,h2,X3,cond_false]
   cases S i<;>rfl
theorem kj{S:Nat->Bool}{l l':List gk}{i:Nat}{f:Nat->Option ag}:dy S i (l++l') f=dy S (i+l.length) l' (dy S i l f):=by
 induction l generalizing i f with
 |nil=>rfl
 |cons x l ih=>
  show dy S (i+1) (l++l') _=dy S (i+(l.length+1)) l' (dy S (i+1) l _)
  rw[ih,show i+1+l.length=i+(l.length+1)from by omega]
theorem fD{S:Nat->Bool}{l l':List gk}{i:Nat}{f:Nat->Option (Nat×Th)}:dh S i (l++l') f=dh S (i+l.length) l' (dh S i l f):=by
 induction l generalizing i f with
 |nil=>rfl
 |cons x l ih=>
  show dh S (i+1) (l++l') _=dh S (i+(l.length+1)) l' (dh S (i+1) l _)
  rw[ih,show i+1+l.length=i+(l.length+1)from by omega]
end Go.Proofs.YtbladfbbhijpmaaGreat
end
section
open _root_.Bool renaming false->Yy,true->Yx,false_eq_true->W0
open _root_.Option renaming none->Yw,none_or->X3
open _root_.Array renaming getD_eq_getD_getElem?->Xn,getElem?_eq_getElem->WY,getElem?_eq_some_iff->Xj
open _root_.List renaming drop_eq_getElem_cons->Xm,filter_cons->Yk,getElem?_drop->WV,getElem?_eq_getElem->WJ,getElem?_eq_some_iff->W2,getElem_of_mem->XV,length_append->WZ,length_cons->WX,length_filter_le->XX,mem_append->WQ,mem_cons->WS,mem_filter->Xi,range->WM,take_append_drop->XW
open _root_.Nat renaming add_zero->XL,beq->WI,blt->Xt,le_refl->WH,le_trans->Xa,zero_add->Xl
open _root_.Option.some renaming inj->WD
open _root_.Go.Region renaming binds->Yh,wanted->X7
namespace Go.Proofs.YtbladfbbhijpmaaGreat
open Go Go.RowKit
theorem q8{ms:List Nat}{i:Nat}{x:gk}:{l:List gk}->{j:Nat}->uF ms i x j l=Yx->∀k y,l[k]? =some y->conflict x y=Yx->(ms.getD (j+k) 0).testBit i=Yx
 |[],_,_,k,y,h,_=>by simp at h
 |z::l,j,hl,k,y,h,hc=>by
  obtain⟨h1,h2⟩:=bC hl
  cases k with
  |zero=>
   obtain rfl:z=y:=by simpa using h
   rw[hc,cond_true]at h1;exact h1
  |succ k=>
   have:=q8 h2 k y (by simpa using h) hc
   rwa [show j+1+k=j+(k+1)from by omega]at this
theorem mV{ms:List Nat}:{l:List gk}->{i:Nat}->qa ms i l=Yx->∀a b x y,a<b->l[a]? =some x->l[b]? =some y->conflict x y=Yx->(ms.getD (i+b) 0).testBit (i+a)=Yx
 |[],_,_,a,b,x,y,_,h,_,_=>by simp at h
 |z::l,i,hl,a,b,x,y,N2,hx,hy,hc=>by
  obtain⟨h1,h2⟩:=bC hl
  cases a with
  |zero=>
   obtain rfl:z=x:=by simpa using hx
   cases b with
   |zero=>omega
   |succ b=>
    have:=q8 h1 b y (by simpa using hy) hc
    rwa [show i+1+b=i+(b+1)from by omega]at this
  |succ a=>
   cases b with
   |zero=>omega
   |succ b=>
    have:=mV h2 a b x y (by omega) (by simpa using hx) (by simpa using hy) hc
    rwa [show i+1+b=i+(b+1)from by omega,show i+1+a=i+(a+1)from by omega]at this
inductive Jl(ops:Array Oper)(nt:Nat)(ts:List Nat)(sl:Nat->Option ag):Option (Nat×Bool)->Bool->Prop
 |none:Jl ops nt ts sl Yw Yx
 |lit {j g:Nat} {b t:Bool} {d:ag} (h1:Al ops j=some g) (h2:Xt g nt=Yx) (h3:g∈ts) (h4:sl g=some d) (h5:asBool d=some t):Jl ops nt ts sl (some (j,b)) (decide (t=b))
 |undef {j g:Nat} {b:Bool} (h1:Al ops j=some g) (h2:Xt g nt=Yx) (h3:g∈ts) (h4:sl g=some .undef):Jl ops nt ts sl (some (j,b)) Yy
structure Jm(P:Program)(ops:Array Oper)(nt:Nat)(U:Nat->Prop)(o:Oper)(sl:Nat->Option ag)(ob:Nat->Option (Nat×Th))(n:Nat)(x:gk):Prop where
 dst:x.dst=o.dst
 EF:wy nt o.dst=Yx
 on:∃b,Jl ops nt x.ts sl o.guard b/\(b=Yx->Iv P U o sl ob n x)/\(b=Yy->x.e={dst:= .undef})
section
variable {P:Program} {nt:Nat} {ops:Array Oper}
theorem He{ρ:Nat->Value}{o:Oper}{w:World}{QQ:Value->World->Prop}{a:Act}{K:Act->World->Prop}{Q:Exit->Act->World->Prop}(h:bj P ρ ⟨o.dst,o.op,o.type,o.pos,o.after,Yw⟩ w QQ)(hf:Fr nt a ρ)
 (hk:∀v w',QQ v w'->K (a.put o.dst v) w'):o.wp P a w K Q:=by
 unfold Oper.wp;rw[hf.eval];unfold bj at h;have e:execOp (ev ρ) o=execOp (ev ρ) ⟨o.dst,o.op,o.type,o.pos,o.after,Yw⟩:=rfl;rw[e];generalize(execOp (ev ρ) ⟨o.dst,o.op,o.type,o.pos,o.after,Yw⟩).run P w=r at*
 cases r with
 |halt x w'=>exact h.elim
 |ok x w'=>
  cases x<;>first
   |exact h.elim
   |skip
  case value v=>exact hk v w' h.2
  case skip=>exact hk undef w' h.2
  case enter f args=>
   refine h.mono λe pY ⟨v,he,hv⟩=>?_
   subst he;exact hk v pY hv
theorem ak.sub{U:Nat->Prop}{H:ai}{F:Nat->Prop}{w:World}{ob F9:Nat->Option (Nat×Th)}{n m:Nat}(h:ak U H F w ob n)(hR:∀o x,F9 o=some x->ob o=some x)(tP:∀k,m<=k->k<m+16->H.val k=Yw/\H.con k=Yw):ak U H F w F9 m:=
 ⟨λo s t ho=>h.obj o s t (hR _ _ ho),λo o' s s' t t' v v' bY ho fZ=>h.apart o o' s s' t t' v v' bY (hR _ _ ho) (hR _ _ fZ),tP,h.lt,h.new,h.gl⟩
structure Inv(G:Nat->Prop)(w0:World)(F0:Nat->Prop)(es:List gk)(sl0:Nat->Option ag)(ob0:Nat->Option (Nat×Th))(n0:Nat)(H:ai)(F:Nat->Prop)(w:World)(ρ:Nat->Value)(S:Nat->Bool)(H':ai)(F':Nat->Prop)(w':World)(bR:Nat->Value):Prop where
 slot:∀t d,dy S 0 es sl0 t=some d->af H' F' w' d (bR t)
 ob:ak (UU G w0) H' F' w' (dh S 0 es ob0) (n0+16*es.length)
 all:eF H' (n0+16*es.length)
 fresh:∀i,i<es.length->S i=Yy->∀m,n0+16*i<=m->m<n0+16*i+16->H'.val m=Yw/\H'.con m=Yw
 glob:D9 G w0 F0 w' F'
 keeps:bx H F w H' F' w'
 same:∀t,(∀x∈es,x.dst≠some t)->bR t=ρ t
def ins(S:Nat->Bool)(i:Nat):Nat->Bool:=λj=>bif WI j i then Yx else S j
theorem la{S:Nat->Bool}{i:Nat}:ins S i i=Yx:=by simp[ins]
theorem lb{S:Nat->Bool}{i j:Nat}(h:j≠i):ins S i j=S j:=by
 unfold ins
 cases hb:WI j i with
 |true=>exact absurd (beq_true hb) h
 |false=>rfl
section
variable {G:Nat->Prop} {w0:World} {F0:Nat->Prop} {es:List gk} {sl0:Nat->Option ag} {ob0:Nat->Option (Nat×Th)} {n0:Nat} {H:ai} {F:Nat->Prop} {w:World} {ρ:Nat->Value} {ms:List Nat}
theorem wN{i:Nat}{x:gk}(h:es[i]? =some x):es=es.take i++x::es.drop (i+1)/\(es.take i).length=i:=by
 have av:i<es.length:=(W2.1 h).1;have hx:es[i]=x:=(W2.1 h).2;refine⟨?_,by simp;omega⟩;rw[<-hx,<-Xm av,XW]
theorem tc{S:Nat->Bool}{i:Nat}{x:gk}(hx:es[i]? =some x)(EG:∀t,x.dst=some t->∀j y,es[j]? =some y->y.dst=some t->S j=Yx->j<i)(t:Nat):
 dy (ins S i) 0 es sl0 t=if x.dst=some t then some x.e.dst else dy S 0 es sl0 t:=by
 by_cases hd:x.dst=some t
 .rw[YB hd];obtain⟨e1,e2⟩:=wN hx;rw[e1,kj,e2,Xl]
  show dy (ins S i) (i+1) (es.drop (i+1)) _ t=_
  rw[ki λk y hy Jn=>by
   rw[lb (by omega)]
   cases hS:S (i+1+k)with
   |false=>rfl
   |true=>
    have:=EG t hd (i+1+k) y (by rw[<-hy,WV]) Jn hS
    omega]
  rw[la,nR.2 hd];rfl
 .rw[YA hd]
  refine gF rfl λk y hy Jn=>?_
  rw[Xl]
  refine lb λe=>?_
  subst e;rw[hx]at hy;obtain rfl:=WD hy;exact hd Jn
theorem wO{S:Nat->Bool}{i:Nat}{x:gk}(hx:es[i]? =some x)(hS:S i=Yy)(EG:∀o,o∈x.mut->∀j y,es[j]? =some y->o∈y.mut->S j=Yx->j<i)(o s:Nat)(t:Th)(h:dh (ins S i) 0 es ob0 o=some (s,t)):
 find x.e.make o=some (s,t)\/(o∉x.e.eat/\dh S 0 es ob0 o=some (s,t)/\find x.e.make o=Yw):=by
 by_cases hd:o∈x.mut
 .obtain⟨e1,e2⟩:=wN hx
  have late:∀S':Nat->Bool,(∀j,j≠i->S' j=S j)->∀f,dh S' (i+1) (es.drop (i+1)) f o=f o:=λS' TG f=>jO λk y hy Jn=>by
   rw[TG _ (by omega)]
   cases LH:S (i+1+k)with
   |false=>rfl
   |true=>
    have:=EG o hd (i+1+k) y (by rw[<-hy,WV]) Jn LH;omega
  have pre:dh (ins S i) 0 (es.take i) ob0 o=dh S 0 (es.take i) ob0 o:=gm rfl λk y hy _=>by
   rw[Xl]
   refine lb λe=>?_
   have:=(W2.1 hy).1;omega
  have all:dh S 0 es ob0 o=dh S 0 (es.take i) ob0 o:=by
   conv=>lhs;rw[e1]
   rw[fD,e2,Xl]
   show dh S (i+1) (es.drop (i+1)) _ o=_
   rw[late S (λ_ _=>rfl),hS];rfl
  conv at h=>lhs;rw[e1]
  rw[fD,e2,Xl]at h;change dh (ins S i) (i+1) (es.drop (i+1)) _ o=_ at h;rw[late (ins S i) (λj hj=>lb hj),la,cond_true,pre,<-all]at h
  cases hm:find x.e.make o with
  |some y=>rw[hm]at h;exact .inl h
  |none=>
   rw[hm,X3]at h
   cases he:iE o x.e.eat with
   |true=>rw[he]at h;cases h
   |false=>
    rw[he,cond_false]at h;exact .inr ⟨λe=>(by rw[cJ.2 e]at he;cases he),h,rfl⟩
 .right
  have h1:find x.e.make o=Yw:=by
   cases hm:find x.e.make o with
   |none=>rfl
   |some y=>exact absurd (by simp[gk.mut,mc hm]) hd
  refine⟨λe=>hd (by simp[gk.mut,e]),?_,h1⟩;rw[<-h];refine(gm rfl λk y hy Jn=>?_).symm;rw[Xl]
  refine lb λe=>?_
  subst e;rw[hx]at hy;obtain rfl:=WD hy;exact hd Jn
theorem jP{l l':List Nat}{o:Nat}(h:o∈l)(h':o∈l'):wM l l'=Yx:=by
 unfold wM;rw[List.any_eq_true];exact⟨o,h,cJ.2 h'⟩
theorem oR{i j:Nat}(h:i<=j):Xt j i=Yy:=by
 cases hb:Xt j i with
 |false=>rfl
 |true=>have:j<i:=by simpa using hb
        omega
def B6(_:Nat):Bool:=Yx
theorem yN{es:List gk}{i:Nat}(hi:i<=es.length):dy (λj=>Xt j i) 0 es sl0=dy B6 0 (es.take i) sl0:=by
 funext t
 conv=>lhs;rw[<-XW i es]
 rw[kj,ki (S:=λj=>Xt j i) λk x _ _=>oR (by simp;omega)]
 refine gF rfl λk x hx _=>?_
 have:=(W2.1 hx).1;simp at this;simp[B6];omega
theorem td{es:List gk}{i:Nat}(hi:i<=es.length):dh (λj=>Xt j i) 0 es ob0=dh B6 0 (es.take i) ob0:=by
 funext t
 conv=>lhs;rw[<-XW i es]
 rw[fD,jO (S:=λj=>Xt j i) λk x _ _=>oR (by simp;omega)]
 refine gm rfl λk x hx _=>?_
 have:=(W2.1 hx).1;simp at this;simp[B6];omega
theorem B7{S:Nat->Bool}{i q:Nat}(hA:∀k y,k<i->es[k]? =some y->q∈y.mut->S k=Yx\/q∈y.soft)
 (hs:∀k y,es[k]? =some y->q∈y.soft->q∈y.mut->∃z z',dh B6 0 (es.take k) ob0 q=some z/\find y.e.make q=some z'/\eo z z'):
 ∀m,m<=i->m<=es.length->∀z,dh B6 0 (es.take m) ob0 q=some z->∃z',dh S 0 (es.take m) ob0 q=some z'/\eo z z':=by
 intro m
 induction m with
 |zero=>intro _ _ z hz;exact⟨z,hz, .inl rfl⟩
 |succ m ih=>
  intro hm hl z hz
  have av:m<es.length:=by omega
  have hy:es[m]? =some es[m]:=WJ av
  have e1:es.take (m+1)=es.take m++[es[m]]:=by rw[List.take_add_one,hy];rfl
  have el:(es.take m).length=m:=by simp;omega
  rw[e1,fD,el,Xl]at hz⊢;generalize V5:es[m]=y at*;have ez:(find y.e.make q).or (bif iE q y.e.eat then Yw else dh B6 0 (es.take m) ob0 q)=some z:=hz
  show∃z',(bif S m then(find y.e.make q).or (bif iE q y.e.eat then Yw else dh S 0 (es.take m) ob0 q)else dh S 0 (es.take m) ob0 q)=some z'/\eo z z'
  by_cases EH:q∈y.mut
  .cases TH:S m with
   |true=>
    rw[cond_true]
    cases LI:find y.e.make q with
    |some x=>rw[LI]at ez;exact⟨z,ez, .inl rfl⟩
    |none=>
     have hk:q∉mz y.e.make:=λhk=>by
      have:∀l:List (Nat×(Nat×Th)),q∈mz l->find l q≠Yw:=by
       intro l
       induction l with
       |nil=>intro h;cases h
       |cons p l ih=>
        obtain⟨o',x⟩:=p;intro h;rw[aw];split
        .simp
        .rename_i bY
         rcases WS.1 h with h|h
         .exact absurd h.symm bY
         .exact ih h
      exact this _ hk LI
     have he:iE q y.e.eat=Yx:=cJ.2 (by
      rcases WQ.1 EH with h|h
      .exact h
      .exact absurd h hk)
     rw[LI,he]at ez;cases ez
   |false=>
    rw[cond_false]
    rcases hA m y (by omega) hy EH with h|h
    .rw[TH]at h;cases h
    .obtain⟨x,x',h1,h2,h3⟩:=hs m y hy h EH;rw[h2]at ez;obtain rfl:=WD ez;obtain⟨z',h4,h5⟩:=ih (by omega) (by omega) x h1;exact⟨z',h4,h3.symm.trans h5⟩
  .have h1:find y.e.make q=Yw:=by
    cases hm:find y.e.make q with
    |none=>rfl
    |some y=>exact absurd (by simp[gk.mut,mc hm]) EH
   have h2:iE q y.e.eat=Yy:=by
    cases hb:iE q y.e.eat with
    |false=>rfl
    |true=>exact absurd (by simp[gk.mut,cJ.1 hb]) EH
   rw[h1,h2,X3,cond_false]at ez;obtain⟨z',h4,h5⟩:=ih (by omega) (by omega) z ez;refine⟨z',?_,h5⟩;rw[h1,h2,X3,cond_false,h4]
   cases S m<;>rfl
theorem q9(Jo:B5 [] ops.toList=some ms)(hp:qa ms 0 es=Yx)(hlen:es.length=ops.size){S:Nat->Bool}(hS:yM ops (λj=>S j=Yx)){i:Nat}{o:Oper}{x:gk}(ho:ops[i]? =some o)(hx:es[i]? =some x)(B8:S i=Yy)
 (Ao:∀e∈o.after,Yh .any e=Yx->S e.on=Yx)(EI:∀k y,es[k]? =some y->∀q,q∈y.soft->q∈y.mut->∃z z',dh B6 0 (es.take k) ob0 q=some z/\find y.e.make q=some z'/\eo z z')(rU:Jm P ops nt (UU G w0) o (dy (λj=>Xt j i) 0 es sl0) (dh (λj=>Xt j i) 0 es ob0) (n0+16*i) x)
 {H':ai}{F':Nat->Prop}{w':World}{bR:Nat->Value}{a:Act}(hf:Fr nt a bR)(hinv:Inv G w0 F0 es sl0 ob0 n0 H F w ρ S H' F' w' bR){K:Act->World->Prop}{Q:Exit->Act->World->Prop}
 (hk:∀LJ oS pG yq pY,Fr nt LJ oS->Inv G w0 F0 es sl0 ob0 n0 H F w ρ (ins S i) pG yq pY oS->K LJ pY):wpOp P ops Q i K a w':=by
 have wP:i<es.length:=(W2.1 hx).1
 have up:∀j y,es[j]? =some y->j<i->conflict y x=Yx->S j=Yx:=λj y hy RD hc=>by
  have:=mV hp j i y x RD hy hx hc;rw[Xl,Xl]at this;exact EE Jo hS i o ho Ao j this
 have down:∀j y,es[j]? =some y->i<j->conflict x y=Yx->S j=Yx->False:=λj y hy Ii hc hj=>by
  have:=mV hp i j x y Ii hx hy hc;rw[Xl,Xl]at this
  have yB:j<ops.size:=by have:=(W2.1 hy).1;omega
  have h2:=EE Jo hS j _ (WY yB) (λe he hb=>hS j hj _ (WY yB) e he hb) i this;rw[B8]at h2;cases h2
 have Iw:∀t,x.dst=some t->∀j y,es[j]? =some y->y.dst=some t->S j=Yx->j<i:=λt ht j y hy Nx hj=>by
  rcases Nat.lt_trichotomy j i with h|h|h
  .exact h
  .subst h;rw[B8]at hj;cases hj
  .exact(down j y hy h (by unfold conflict;simp[fq,ht,Nx,cJ]) hj).elim
 have Ix:∀q,q∈x.mut->∀j y,es[j]? =some y->q∈y.mut->S j=Yx->j<i:=λq hq j y hy Iy hj=>by
  rcases Nat.lt_trichotomy j i with h|h|h
  .exact h
  .subst h;rw[B8]at hj;cases hj
  .exact(down j y hy h (by unfold conflict;rw[jP hq (by simp[Iy])];simp) hj).elim
 have Jp:∀t,t∈x.ts->dy (λj=>Xt j i) 0 es sl0 t=dy S 0 es sl0 t:=λt ht=>gF rfl λj y hy Nx=>by
  rw[Xl]
  rcases Nat.lt_trichotomy j i with h|h|h
  .rw[up j y hy h (by unfold conflict;simp[fq,Nx,cJ,ht])];simpa using h
  .subst h;rw[B8];exact oR (WH _)
  .have:S j=Yy:=by
    cases hj:S j with
    |false=>rfl
    |true=>exact(down j y hy h (by unfold conflict;simp[fq,Nx,cJ,ht]) hj).elim
   rw[this];exact oR (by omega)
 have O0:∀q,q∈x.os->dh (λj=>Xt j i) 0 es ob0 q=dh S 0 es ob0 q:=λq hq=>gm rfl λj y hy Iy=>by
  rw[Xl]
  rcases Nat.lt_trichotomy j i with h|h|h
  .rw[up j y hy h (by unfold conflict;rw[jP Iy (by simp[hq])];simp)];simpa using h
  .subst h;rw[B8];exact oR (WH _)
  .have:S j=Yy:=by
    cases hj:S j with
    |false=>rfl
    |true=>exact(down j y hy h (by unfold conflict;rw[jP (l:=x.os++x.ls++x.mut) (l':=y.mut) (by simp[hq]) Iy];simp) hj).elim
   rw[this];exact oR (by omega)
 have O1:∀q z,q∈x.ls->dh (λj=>Xt j i) 0 es ob0 q=some z->∃z',dh S 0 es ob0 q=some z'/\eo z z':=λq z hq hz=>by
  rw[td (by omega)]at hz
  obtain⟨z',h1,h2⟩:=B7 (S:=S) (i:=i) (q:=q) (λk y hk hy Iy=>by
   by_cases RE:q∈y.soft
   .exact .inr RE
   .refine .inl (up k y hy hk ?_)
    have:q∈y.LG:=Xi.2 ⟨Iy,by
     cases hb:iE q y.soft with
     |false=>rfl
     |true=>exact absurd (cJ.1 hb) RE⟩
    unfold conflict;rw[jP this hq]
    simp) (λk y hy h1 h2=>EI k y hy q h1 h2) i (WH _) (by omega) z hz
  refine⟨z',?_,h2⟩;rw[<-h1]
  conv=>lhs;rw[<-XW i es]
  rw[fD]
  refine jO λk y hy Iy=>?_
  have TJ:es[i+k]? =some y:=by rw[<-hy,WV]
  have el:(es.take i).length=i:=by simp;omega
  rw[el,Xl]
  cases LH:S (i+k)with
  |false=>rfl
  |true=>
   rcases Nat.eq_zero_or_pos k with rfl|hk
   .rw[XL,B8]at LH;cases LH
   .exact(down (i+k) y TJ (by omega) (by unfold conflict;rw[jP (l:=x.os++x.ls++x.mut) (l':=y.mut) (by simp[hq]) Iy];simp) LH).elim
 obtain⟨b,hg,O2,DM⟩:=rU.on
 have LK:X7 o (yielded ops a.tmps)=b:=by
  generalize O4:o.guard=gd at hg
  cases hg with
  |none=>unfold X7;rw[O4]
  |lit h1 h2 h3 h4 h5=>
   rename_i j g b' t d;rw[Jp g h3]at h4;have hy:=jW hf h1 h2 (jz h5 (hinv.slot g _ h4));unfold X7;rw[O4];simp only[hy]
   cases t<;>cases b'<;>rfl
  |undef h1 h2 h3 h4=>
   rename_i j g b';rw[Jp g h3]at h4;have hy:=jk hf h1 h2 (show bR g=undef from hinv.slot g _ h4);unfold X7;rw[O4];simp only[hy]
   cases b'<;>rfl
 have mL:∀v,Fr nt (a.put o.dst v) (pH bR o.dst v):=λv=>by
  have hb:=rU.EF
  cases hd:o.dst with
  |none=>exact hf
  |some d=>rw[hd]at hb;exact hf.put hb v
 have wQ:∀t,x.dst=some t↔o.dst=some t:=λt=>by rw[rU.dst]
 unfold wpOp;simp only[ho,LK]
 cases b with
 |false=>
  simp only[W0,if_false];have he:=DM rfl;refine hk _ (pH bR o.dst undef) H' F' w' (mL undef) ⟨λt d ht=>?_,?_,hinv.all,λk hk ra=>?_,hinv.glob,hinv.keeps,λt ht=>?_⟩
  .rw[tc hx Iw]at ht;split at ht
   .rename_i Jq;obtain rfl:=WD ht;rw[he]
    show pH bR o.dst undef t=undef
    rw[(wQ t).1 Jq]
    show xx bR t undef t=undef
    rw[kf,YB rfl]
   .rename_i Jq;rw[ma (λe=>Jq ((wQ t).2 e))];exact hinv.slot t d ht
  .refine hinv.ob.sub (λq y hq=>?_) (λm hm _=>hinv.all m hm)
   rcases wO hx B8 Ix q y.1 y.2 hq with h1|⟨_,h2,_⟩
   .rw[he]at h1;cases h1
   .exact h2
  .by_cases e:k=i
   .subst e;rw[la]at ra;cases ra
   .rw[lb e]at ra;exact hinv.fresh k hk ra
  .rw[ma (λe=>ht x (List.mem_of_getElem? hx) ((wQ t).2 e))];exact hinv.same t ht
 |true=>
  simp only[if_true]
  left
  obtain⟨_,⟨OU,F9,Hd,yL,aV⟩,_⟩:=O2 rfl
  obtain⟨OV,dN,aV⟩:=aV H' F' w' bR (dh S 0 es ob0) (λq y hq=>by
   obtain⟨h1,h2⟩:=yL q y hq;by_cases O6:q∈x.os
   .exact⟨y,by rw[<-O0 q O6];exact h2, .inl rfl,λ_=>rfl⟩
   .rcases h1 with h1|h1
    .exact absurd h1 O6
    .obtain⟨z',h3,h4⟩:=O1 q y h1 h2
     exact⟨z',h3,h4,λh=>absurd h O6⟩) (λt d ht=>by
   obtain⟨h1,h2⟩:=Hd t d ht;rw[Jp t h1]at h2
   exact hinv.slot t d h2) (hinv.ob.sub (λ_ _ h=>h) (hinv.fresh i wP B8))
  have wq:=hinv.ob.sub dN (hinv.fresh i wP B8)
  refine He aV hf λv pY ⟨pG,yq,my⟩=>?_
  .have cF:=my.gv.step wq.lt wq.db
   have df:eF pG (n0+16*es.length):=λm hm=>by
    have h1:=hinv.all m hm;have h2:=my.fresh m (.inr (by omega));exact⟨h2.1 h1.1,h2.2 h1.2⟩
   refine hk _ (pH bR o.dst v) pG yq pY (mL v) ⟨λt d ht=>?_,?_,df,λk hk ra m TK O7=>?_,hinv.glob.gv my.gv wq.dC,hinv.keeps.trans ⟨my.gv.dR,cF⟩,λt ht=>?_⟩
   .rw[tc hx Iw]at ht;split at ht
    .rename_i Jq;obtain rfl:=WD ht;rw[(wQ t).1 Jq]
     show af pG yq pY _ (xx bR t v t)
     rw[kf,YB rfl];exact my.dst
    .rename_i Jq;rw[ma (λe=>Jq ((wQ t).2 e))];exact(hinv.slot t d ht).keep my.gv.dR cF
   .exact hinv.ob.DA dN my (λq s t hq=>wO hx B8 Ix q s t hq) λm hm _=>df m hm
   .by_cases e:k=i
    .subst e;rw[la]at ra;cases ra
    .rw[lb e]at ra;have h1:=hinv.fresh k hk ra m TK O7;have h2:=my.fresh m (by omega);exact⟨h2.1 h1.1,h2.2 h1.2⟩
   .rw[ma (λe=>ht x (List.mem_of_getElem? hx) ((wQ t).2 e))];exact hinv.same t ht
end
end
end Go.Proofs.YtbladfbbhijpmaaGreat
namespace Go.Proofs.YtbladfbbhijpmaaGreat
open Go Go.RowKit
def oT(dst:Option Nat)(g:Nat):gk:={dst:=dst,ts:=[g],os:=[],e:={dst:= .undef}}
noncomputable def jb{R:Type}{P:Program}(E:Env P)(nt:Nat)(ops:Array Oper):List Oper->State->List gk->(State->Option R)->Option R
 |[],st,acc,k=>bif oQ ops.toList acc then k st else Yw
 |o::os,st,acc,k=>bif wy nt o.dst then(match o.guard with
  |none=>ta E o.dst o.op [] st (λe x=>jb E nt ops os (st.apply o.dst e) (acc++[x]) k)
  |some (j,b)=>match Al ops j with
   |none=>Yw
   |some g=>bif Xt g nt then(match find st.ah g with
    |some .undef=>jb E nt ops os (st.apply o.dst {dst:= .undef}) (acc++[oT o.dst g]) k
    |some d=>match asBool d with
     |some t=>if t=Yx then
       (bif b then ta E o.dst o.op [g] (st.put (some g) (cG Yx)) (λe x=>jb E nt ops os ((st.put (some g) (cG Yx)).apply o.dst e) (acc++[x]) k)
         else jb E nt ops os ((st.put (some g) (cG Yx)).apply o.dst {dst:= .undef}) (acc++[oT o.dst g]) k)
      else
       (bif b then jb E nt ops os ((st.put (some g) (cG Yy)).apply o.dst {dst:= .undef}) (acc++[oT o.dst g]) k
         else ta E o.dst o.op [g] (st.put (some g) (cG Yy)) (λe x=>jb E nt ops os ((st.put (some g) (cG Yy)).apply o.dst e) (acc++[x]) k))
     |none=>Yw
    |none=>Yw)else Yw)else Yw
section
variable {P:Program} {nt:Nat} {ops:Array Oper} {R:Type}
variable {G:Nat->Prop} {w0:World} {F0:Nat->Prop} {sl0:Nat->Option ag} {ob0:Nat->Option (Nat×Th)} {n0:Nat}
structure Lex(P:Program)(nt:Nat)(ops:Array Oper)(U:Nat->Prop)(sl0:Nat->Option ag)(ob0:Nat->Option (Nat×Th))(n0:Nat)(es:List gk)(st:State):Prop where
 slot:∀t,find st.ah t=dy B6 0 es sl0 t
 ob:∀o,find st.objs o=dh B6 0 es ob0 o
 nxt:st.nxt=n0+16*es.length
 ok:∀i o x,ops[i]? =some o->es[i]? =some x->Jm P ops nt U o (dy B6 0 (es.take i) sl0) (dh B6 0 (es.take i) ob0) (n0+16*i) x
theorem yO{S:Nat->Bool}{es:List gk}{x:gk}{f:Nat->Option ag}{t:Nat}(h:S es.length=Yx):dy S 0 (es++[x]) f t=if x.dst=some t then some x.e.dst else dy S 0 es f t:=by
 rw[kj,Xl]
 show(bif S es.length&&fq (some t) x.dst.toList then some x.e.dst else dy S 0 es f t)=_
 rw[h,Bool.true_and];by_cases hd:x.dst=some t
 .rw[YB hd,nR.2 hd];rfl
 .rw[YA hd]
  cases hb:fq (some t) x.dst.toList with
  |false=>rfl
  |true=>exact absurd (nR.1 hb) hd
theorem B9{S:Nat->Bool}{es:List gk}{x:gk}{f:Nat->Option (Nat×Th)}{o:Nat}(h:S es.length=Yx):dh S 0 (es++[x]) f o=(find x.e.make o).or (bif iE o x.e.eat then Yw else dh S 0 es f o):=by
 rw[fD,Xl]
 show(bif S es.length then _ else _)=_
 rw[h];rfl
theorem oU{st:State}{dst:Option Nat}{e:cI}{t:Nat}:find (st.apply dst e).ah t=if dst=some t then some e.dst else find st.ah t:=by
 cases dst with
 |none=>simp[State.apply]
 |some d=>
  show find ((d,e.dst)::st.ah) t=_
  rw[aw];by_cases h:d=t
  .simp[h]
  .simp[h]
theorem pM{st:State}{dst:Option Nat}{e:cI}{o:Nat}:find (st.apply dst e).objs o=(find e.make o).or (bif iE o e.eat then Yw else find st.objs o):=by
 show find (e.make++del e.eat st.objs) o=_
 rw[eD]
 congr 1
 cases hb:iE o e.eat with
 |true=>
  rw[cond_true]
  cases h:find (del e.eat st.objs) o with
  |none=>rfl
  |some x=>exact absurd (cJ.1 hb) (eE.1 h).1
 |false=>
  rw[cond_false]
  have hn:o∉e.eat:=λh=>by rw[cJ.2 h]at hb;cases hb
  cases h:find st.objs o with
  |some x=>exact eE.2 ⟨hn,h⟩
  |none=>
   cases h2:find (del e.eat st.objs) o with
   |none=>rfl
   |some x=>rw[(eE.1 h2).2]at h;cases h
theorem Lex.snoc{U:Nat->Prop}{es:List gk}{st:State}{x:gk}{o:Oper}(h:Lex P nt ops U sl0 ob0 n0 es st)(ho:ops[es.length]? =some o)(hd:x.dst=o.dst)
 (iP:Jm P ops nt U o (find st.ah) (find st.objs) st.nxt x):Lex P nt ops U sl0 ob0 n0 (es++[x]) (st.apply o.dst x.e):=by
 refine⟨λt=>?_,λq=>?_,?_,λi o' y fZ hy=>?_⟩
 .rw[oU,yO rfl,hd,h.slot t]
 .rw[pM,B9 rfl,h.ob q]
 .show st.nxt+16=_
  rw[h.nxt,WZ,List.length_singleton];omega
 .rcases Nat.lt_or_ge i es.length with av|hge
  .rw[List.getElem?_append_left av]at hy;rw[List.take_append_of_le_length (by omega)];exact h.ok i o' y fZ hy
  .have hi:i=es.length:=by
    have:=(W2.1 hy).1;simp at this;omega
   subst hi;simp at hy;subst hy;rw[ho]at fZ;obtain rfl:=WD fZ;rw[List.take_left']
   .rw[<-funext h.slot,<-funext h.ob,<-h.nxt];exact iP
   .rfl
theorem Lex.put{U:Nat->Prop}{es:List gk}{st:State}{g:Nat}{d:ag}(h:Lex P nt ops U sl0 ob0 n0 es st)(hg:find st.ah g=some d):Lex P nt ops U sl0 ob0 n0 es (st.put (some g) d):=by
 refine⟨λt=>?_,h.ob,h.nxt,h.ok⟩
 show find ((g,d)::st.ah) t=_
 rw[aw,<-h.slot t];split
 .rename_i e;subst e;exact hg.symm
 .rfl
theorem Ca{d:ag}{t:Bool}(h:asBool d=some t):d=cG t:=by
 unfold asBool at h
 split at h<;>cases h
 rfl
theorem wR{E:Env P}{q:R}{k:State->Option R}:{l:List Oper}->{st:State}->{es:List gk}->jb E nt ops l st es k=some q->(∀j,l[j]? =ops[es.length+j]?)->Lex P nt ops (UU G w0) sl0 ob0 n0 es st->
 ∃gB b9,k b9=some q/\oQ ops.toList gB=Yx/\Lex P nt ops (UU G w0) sl0 ob0 n0 gB b9/\gB.length=es.length+l.length
 |[],st,es,h,_,hl=>by
  unfold jb at h;obtain⟨h1,h2⟩:=ax h;exact⟨es,st,h2,h1,hl,rfl⟩
 |o::l,st,es,h,kc,hl=>by
  have ho:ops[es.length]? =some o:=by simpa using(kc 0).symm
  have LL:∀x:gk,∀j,l[j]? =ops[(es++[x]).length+j]? :=λx j=>by
   have:=kc (j+1);rw[WZ,List.length_singleton,show es.length+1+j=es.length+(j+1)from by omega];simpa using this
  have go:∀{st1:State}{x:gk},jb E nt ops l st1 (es++[x]) k=some q->Lex P nt ops (UU G w0) sl0 ob0 n0 (es++[x]) st1->∃gB b9,k b9=some q/\oQ ops.toList gB=Yx/\Lex P nt ops (UU G w0) sl0 ob0 n0 gB b9/\gB.length=es.length+(o::l).length:=by
   intro st1 x h1 h2;obtain⟨gB,b9,a1,a2,a3,a4⟩:=wR h1 (LL x) h2;refine⟨gB,b9,a1,a2,a3,?_⟩;rw[a4,WZ,List.length_singleton,WX];omega
  unfold jb at h;obtain⟨hd,h'⟩:=ax h;clear h
  have on:∀{st1:State}{gs:List Nat},ta E o.dst o.op gs st1 (λe x=>jb E nt ops l (st1.apply o.dst e) (es++[x]) k)=some q->Lex P nt ops (UU G w0) sl0 ob0 n0 es st1->(∀ts:List Nat,(∀g∈gs,g∈ts)->Jl ops nt ts (find st1.ah) o.guard Yx)->∃gB b9,k b9=some q/\oQ ops.toList gB=Yx/\Lex P nt ops (UU G w0) sl0 ob0 n0 gB b9/\gB.length=es.length+(o::l).length:=by
   intro st1 gs h1 h2 h3;obtain⟨e,x,a1,a2,a3,a4⟩:=EB (U:=UU G w0) h1;subst a2;exact go a1 (h2.snoc ho a4.dst ⟨a4.dst,hd,Yx,h3 _ a3,λ_=>a4,λh=>by cases h⟩)
  have off:∀{st1:State}{g:Nat},jb E nt ops l (st1.apply o.dst {dst:= .undef}) (es++[oT o.dst g]) k=some q->Lex P nt ops (UU G w0) sl0 ob0 n0 es st1->Jl ops nt [g] (find st1.ah) o.guard Yy->∃gB b9,k b9=some q/\oQ ops.toList gB=Yx/\Lex P nt ops (UU G w0) sl0 ob0 n0 gB b9/\gB.length=es.length+(o::l).length:=by
   intro st1 g h1 h2 h3;exact go (x:=oT o.dst g) h1 (h2.snoc (x:=oT o.dst g) ho rfl ⟨rfl,hd,Yy,h3,λh=>(by cases h),λ_=>rfl⟩)
  split at h'
  .rename_i EJ
   exact on h' hl λts _=>by rw[EJ];exact .none
  .rename_i j b EJ;split at h'
   case h_1=>cases h'
   rename_i g Iq;obtain⟨Ir,h⟩:=ax h';clear h';split at h
   .rename_i hu;exact off h hl (by rw[EJ];exact .undef Iq Ir (by simp) hu)
   .rename_i d eA;split at h
    case h_2=>cases h
    rename_i t ht;obtain rfl:=Ca ht
    have LM:∀v:Bool,find (st.put (some g) (cG v)).ah g=some (cG v):=λv=>by
     show find ((g,cG v)::st.ah) g=_
     rw[aw,YB rfl]
    have Hf:∀(v:Bool)(ts:List Nat)(r:Bool),g∈ts->r=decide (v=b)->Jl ops nt ts (find (st.put (some g) (cG v)).ah) (some (j,b)) r:=λv ts r hg hr=>by
     rw[hr];exact .lit Iq Ir hg (LM v) rfl
    split at h
    .rename_i Hb;subst Hb;have CU:=hl.put eA
     cases b with
     |true=>rw[cond_true]at h;exact on h CU λts O8=>by rw[EJ];exact Hf Yx ts Yx (O8 g (by simp)) rfl
     |false=>rw[cond_false]at h;exact off h CU (by rw[EJ];exact Hf Yx [g] Yy (by simp) rfl)
    .rename_i Hb
     have Hb:t=Yy:=by cases t<;>simp_all
     subst Hb;have CU:=hl.put eA
     cases b with
     |true=>rw[cond_true]at h;exact off h CU (by rw[EJ];exact Hf Yy [g] Yy (by simp) rfl)
     |false=>rw[cond_false]at h;exact on h CU λts O8=>by rw[EJ];exact Hf Yy ts Yx (O8 g (by simp)) rfl
   .cases h
def LN(m:Nat)(listed:Array Bool):Nat:=((WM m).filter λj=> !listed.getD j Yy).length
theorem Ap{m i:Nat}{listed:Array Bool}(hi:i<m)(hs:listed.size=m)(h:listed.getD i Yy=Yy):LN m (listed.setIfInBounds i Yx)+1<=LN m listed:=by
 unfold LN
 have dN:∀l:List Nat,(l.filter λj=> !(listed.setIfInBounds i Yx).getD j Yy).length<=(l.filter λj=> !listed.getD j Yy).length/\(i∈l->(l.filter λj=> !(listed.setIfInBounds i Yx).getD j Yy).length+1<=(l.filter λj=> !listed.getD j Yy).length):=by
  intro l
  induction l with
  |nil=>exact⟨WH _,λh=>by cases h⟩
  |cons j l ih=>
   by_cases hj:i=j
   .subst hj
    have e1:(listed.setIfInBounds i Yx).getD i Yy=Yx:=by simp[Xn,hs,hi]
    rw[Yk,Yk,e1,h];simp only[Bool.not_true,W0,if_false,Bool.not_false,if_true,WX];exact⟨by omega,λ_=>by omega⟩
   .have e1:(listed.setIfInBounds i Yx).getD j Yy=listed.getD j Yy:=getD_set_ne Yy hj;rw[Yk,Yk,e1]
    cases listed.getD j Yy with
    |true=>
     simp only[Bool.not_true,W0,if_false];exact⟨ih.1,λhm=>ih.2 (by simpa[hj]using hm)⟩
    |false=>
     simp only[Bool.not_false,if_true,WX];exact⟨by omega,λhm=>by have:=ih.2 (by simpa[hj]using hm);omega⟩
 exact(dN _).2 (by simpa using hi)
theorem Hg{E:Env P}{id:Nat}{q:R}{k:State->Option R}{st:State}{H:ai}{F:Nat->Prop}{w:World}{ρ:Nat->Value}{Q:Exit->(Nat->Value)->World->Prop}(hm:P.follows .mixedOrders=Yx)
 (h:jb E nt ops ops.toList st [] k=some q)(hh:bP G w0 F0 H F w ρ st)
 (hk:∀b9 H' F' w' bR,k b9=some q->bP G w0 F0 H' F' w' bR b9->bx H F w H' F' w'->(∀t,(∀o∈ops.toList,o.dst≠some t)->bR t=ρ t)->Q .normal bR w'):pS P nt (.region id ops Yx) Q ρ w:=by
 obtain⟨es,b9,IZ,gP,yP,hlen⟩:=wR (G:=G) (w0:=w0) (sl0:=find st.ah) (ob0:=find st.objs) (n0:=st.nxt) h (λj=>by simp) ⟨λ_=>rfl,λ_=>rfl,by simp,λi o x _ hx=>by simp at hx⟩;simp only[List.length_nil,Xl,Array.length_toList]at hlen;unfold oQ at gP;split at gP
 case h_2=>cases gP
 rename_i ms Jo
 have wQ:∀x∈es,∃o∈ops.toList,x.dst=o.dst:=λx hx=>by
  obtain⟨i,hi,rfl⟩:=XV hx
  have av:i<ops.size:=by omega
  exact⟨ops[i],by simp,(yP.ok i ops[i] es[i] (WY av) (WJ hi)).dst⟩
 have EI:∀k y,es[k]? =some y->∀q,q∈y.soft->q∈y.mut->∃z z',dh B6 0 (es.take k) (find st.objs) q=some z/\find y.e.make q=some z'/\eo z z':=λk y hy q h1 h2=>by
  have av:k<es.length:=(W2.1 hy).1;obtain⟨_,_,b,_,O2,DM⟩:=yP.ok k _ y (WY (by omega)) hy
  cases b with
  |true=>exact(O2 rfl).soft q h1 h2
  |false=>
   rw[gk.mut,DM rfl]at h2;simp[mz]at h2
 have Aq:∀i o,ops[i]? =some o->∀e∈o.after,Yh .any e=Yx->e.on<i:=λi o ho e he hb=>by
  obtain⟨m,h1,_⟩:=(uH Jo).2.2 i o (by rw[Array.getElem?_toList];exact ho);simp only[List.length_nil,Xl]at h1;exact An h1 e (by simpa using he) hb
 intro a hf;refine wp_region_any hm ?_
 have main:∀fuel(listed:Array Bool)(a:Act)(w':World)H' F' bR,listed.size=ops.size->LN ops.size listed<=fuel->yM ops (λj=>listed.getD j Yy=Yx)->Fr nt a bR->
  Inv G w0 F0 es (find st.ah) (find st.objs) st.nxt H F w ρ (λj=>listed.getD j Yy) H' F' w' bR->wpAny P .any ops (λe a' w'=>∃bR,Fr nt a' bR/\Q e bR w') fuel listed a w':=by
  have done:∀(listed:Array Bool)(a:Act)(w':World)H' F' bR,(∀i,i<ops.size->listed.getD i Yy=Yx)->Fr nt a bR->Inv G w0 F0 es (find st.ah) (find st.objs) st.nxt H F w ρ (λj=>listed.getD j Yy) H' F' w' bR->∃bR,Fr nt a bR/\Q .normal bR w':=by
   intro listed a w' H' F' bR df hf hinv
   have eS:∀t,dy (λj=>listed.getD j Yy) 0 es (find st.ah) t=find b9.ah t:=λt=>by
    rw[yP.slot t]
    refine gF rfl λk x hx _=>?_
    have:=(W2.1 hx).1;rw[Xl];exact df k (by omega)
   have eO:∀o,dh (λj=>listed.getD j Yy) 0 es (find st.objs) o=find b9.objs o:=λo=>by
    rw[yP.ob o]
    refine gm rfl λk x hx _=>?_
    have:=(W2.1 hx).1;rw[Xl];exact df k (by omega)
   refine⟨bR,hf,hk b9 H' F' w' bR IZ ⟨⟨λt d hd=>hinv.slot t d (by rw[eS];exact hd),?_,?_⟩,hinv.glob⟩ hinv.keeps λt ht=>hinv.same t λx hx=>?_⟩
   .have:=hinv.ob;rw[funext eO]at this;rw[yP.nxt];exact this
   .rw[yP.nxt];exact hinv.all
   .obtain⟨o,ho,e⟩:=wQ x hx;rw[e];exact ht o ho
  have Cb:∀(listed:Array Bool),listed.size=ops.size->Region.ready .any ops listed=[]->∀i,i<ops.size->listed.getD i Yy=Yx:=by
   intro listed hs hr i
   induction i using Nat.strongRecOn with
   |_ i ih=>
    intro hi
    cases hl:listed.getD i Yy with
    |true=>rfl
    |false=>
     have:i∈Region.ready .any ops listed:=mem_ready.2 ⟨by
      simp only[Xn]at hl⊢;rw[WY (by omega)]at hl⊢
      simpa using hl,ops[i],WY hi,λe he hb=>ih e.on (Aq i _ (WY hi) e he hb) (by
       have:=Aq i _ (WY hi) e he hb
       omega)⟩
     rw[hr]at this;cases this
  intro fuel
  induction fuel with
  |zero=>
   intro listed a w' H' F' bR hs hu hc hf hinv
   have df:∀i,i<ops.size->listed.getD i Yy=Yx:=λi hi=>by
    cases hl:listed.getD i Yy with
    |true=>rfl
    |false=>
     have:=Ap hi hs hl;omega
   refine⟨?_,done listed a w' H' F' bR df hf hinv⟩
   cases hr:Region.ready .any ops listed with
   |nil=>rfl
   |cons i l=>
    have hi:i∈Region.ready .any ops listed:=by rw[hr];simp
    obtain⟨h1,o,h2,_⟩:=mem_ready.1 hi;have av:=(Xj.1 h2).1;have h3:=df i av;simp only[Xn]at h1 h3;rw[WY (by omega)]at h1 h3;simp at h1 h3;rw[h1]at h3;cases h3
  |succ fuel ih=>
   intro listed a w' H' F' bR hs hu hc hf hinv;refine⟨λhr=>done listed a w' H' F' bR (Cb listed hs hr) hf hinv,λi hi=>?_⟩;obtain⟨h1,o,ho,Ao⟩:=mem_ready.1 hi;have av:=(Xj.1 ho).1
   have B8:listed.getD i Yy=Yy:=by
    simp only[Xn]at h1⊢;rw[WY (by omega)]at h1⊢;simpa using h1
   have hx:es[i]? =some (es[i]'(by omega)):=WJ (by omega);have rU:=yP.ok i o _ ho hx;rw[<-yN (by omega),<-td (by omega)]at rU
   have ra:(λj=>(listed.setIfInBounds i Yx).getD j Yy)=ins (λj=>listed.getD j Yy) i:=by
    funext j;by_cases e:j=i
    .subst e;rw[la];simp[Xn,hs,av]
    .rw[lb e];exact getD_set_ne Yy (Ne.symm e)
   refine q9 Jo gP hlen hc ho hx B8 Ao EI rU hf hinv λLJ oS pG yq pY O9 Jr=>?_
   refine ih _ LJ pY pG yq oS (by simp[hs]) ?_ ?_ O9 ?_
   .have:=Ap av hs B8;omega
   .intro j hj o' fZ e he hb;by_cases ej:j=i
    .subst ej;rw[ho]at fZ;obtain rfl:=WD fZ;exact getD_set_true (Ao e he hb)
    .have Gh:listed.getD j Yy=Yx:=by
      have:(listed.setIfInBounds i Yx).getD j Yy=listed.getD j Yy:=getD_set_ne Yy (Ne.symm ej);rw[<-this];exact hj
     exact getD_set_true (hc j Gh o' fZ e he hb)
   .rw[ra];exact Jr
 have Pa:∀j,(Array.replicate ops.size Yy).getD j Yy=Yy:=λj=>by
  simp only[Xn];by_cases hj:j<ops.size
  .simp[hj]
  .simp[hj]
 have hw:Step F w F w.drew:=Step.drew F w
 refine main ops.size _ a _ H F ρ (by simp) ?_ (λi hi=>by
  have gC:(Array.replicate ops.size Yy).getD i Yy=Yx:=hi;rw[Pa]at gC
  cases gC) hf ⟨λt d hd=>?_,?_,λm hm=>hh.sat.all m (by omega),λi hi _ m hm _=>hh.sat.all m (by omega),⟨⟨hh.glob.ext.os,⟨hh.glob.ext.tape.1,Nat.le_succ_of_le hh.glob.ext.tape.2⟩,hh.glob.ext.output,hh.glob.ext.size,hh.glob.ext.block⟩,hh.glob.le,hh.glob.new⟩,⟨ai.le.refl H,hw⟩,λ_ _=>rfl⟩
 .unfold LN;exact Xa (XX _ _) (by simp)
 .rw[ki λk x _ _=>Pa _]at hd;exact(hh.sat.slot t d hd).keep (ai.le.refl H) hw
 .have e:dh (λj=>(Array.replicate ops.size Yy).getD j Yy) 0 es (find st.objs)=find st.objs:=by
   funext o
   exact jO λk x _ _=>Pa _
  rw[e];have hb:=hh.sat.ob;refine⟨λo s t ho=>?_,hb.apart,λm hm _=>hh.sat.all m (by omega),hb.lt,hb.new,hb.gl.step (λ_ h=>⟨h,rfl⟩)⟩;obtain⟨v,hv,bF⟩:=hb.obj o s t ho;exact⟨v,hv,bF.one,bF.con,bF.ok.heap (ai.le.refl H) hw λ_ _=>rfl,bF.no,bF.lt,bF.use⟩
end
end Go.Proofs.YtbladfbbhijpmaaGreat
end
