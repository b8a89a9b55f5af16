/- Joined texts: Call2 Ifc Exec Draw2 Draw4. -/
import Derived.Test.YtbladfbbhijpmaaGreatU3
open _root_.Bool renaming false->acR,true->acQ
open _root_.Option renaming none->acP,isSome_iff_exists->abB,none_or->abT
open _root_.Nat renaming beq->aaY,blt->abI,le_refl->aaX,lt_of_lt_of_le->abt,le_trans->abi
open _root_.Option.some renaming inj->aaT,injEq->aa1
open _root_.Prod.mk renaming injEq->abU,inj->acq
open _root_.List renaming getElem?_drop->abe,getElem?_take->abl,mem_cons_of_mem->abz
open _root_.Go.Result renaming andThen->abc
open _root_.Go.Sem renaming run_bind->abp
open _root_.Array renaming toArray_toList->abE
open _root_.List.cons renaming injEq->ab9
namespace Go.Proofs.YtbladfbbhijpmaaGreat
open Go Go.RowKit
set_option maxRecDepth 100000
set_option linter.unusedSimpArgs false
set_option linter.unusedVariables false
set_option linter.defProp false
section
def fI:Nat->List aj->List (Nat×aj)
 |_,[]=>[]
 |k,d::ds=>(k,d)::fI (k+1) ds
def K6(n:Nat)(bs:Bs)(aG:List (Nat×(Nat×Th)))(m:Nat)(j:Nat):Nat:=
 bif abI j m then(match find bs j with
  |some (some o)=>(match find aG o with
   |some _=>o
   |none=>n+j)
  |_=>n+j)else n+j
def mK(aG:List (Nat×(Nat×Th))):List Nat->List (Nat×(Nat×Th))
 |[]=>[]
 |o::os=>match find aG o with
  |some (s,t)=>bif df t then(o,(s,t))::mK aG os else mK aG os
  |none=>mK aG os
def always(_:Row):Bool:=acQ
def CD(sg:ng):Bool:=oY Row.yJ sg.out.ak&&vp Row.yJ sg.out.objs
def qQ{R:Type}(sg:ng)(n:Nat)(bs:Bs)(aG:List (Nat×(Nat×Th)))(nd:List Nat)(y:cE sg.out.rows)(k:c9->Option R):Option R:=
 match G7 (cB (pO (K6 n bs aG sg.inn.nxt) sg.out.ak) (cK _ y)).1 with
 |some D=>bif CD sg then k {dst:=D,eat:=fj bs,make:=e8 n (yI (K6 n bs aG sg.inn.nxt) sg.out.objs) (cB (pO (K6 n bs aG sg.inn.nxt) sg.out.ak) (cK _ y)).2}
   else k {dst:=D,eat:=fj bs++nd,make:=e8 n (yI (K6 n bs aG sg.inn.nxt) sg.out.objs) (cB (pO (K6 n bs aG sg.inn.nxt) sg.out.ak) (cK _ y)).2++mK aG nd}
 |none=>acP
def ml{R:Type}(objs:List (Nat×(Nat×Th)))(n:Nat)(f:FuncId)(ds:List aj)(k:c9->Option R):List (Nat×ng)->Option R
 |[]=>acP
 |(g,sg)::tab=>bif aaY g f then(match vn 0 [] sg.inn (fI 0 ds) objs with
    |some (x,bs,aG)=>bif aaY ds.length sg.inn.ak.length&&qP 0 sg.out.ak&&Nat.ble sg.out.nxt 16&&Nat.ble sg.out.objs.length 16&&(oY always sg.out.ak)then
      (sg.fn x).bind λy=>qQ sg n bs aG (vm 0 sg.inn (fI 0 ds) objs) y k else acP
    |none=>ml objs n f ds k tab)else ml objs n f ds k tab
def Oq(c:Nat×List Bool×Nat):aj:= .ptr c.1 c.2.1 c.2.2
theorem tt{H:an}{F:Nat->Prop}{w:World}:{cs:List (Nat×List Bool×Nat)}->{vs:List Value}->jd H cs vs->dP H F w (cs.map Oq) vs
 |[],_,h=>h
 |_::_,_,h=>by obtain⟨v,us,e,h1,h3⟩:=h;exact⟨v,us,e,h1,tt h3⟩
theorem pQ{H:an}{F:Nat->Prop}{w:World}:{ds es:List aj}->{vs us:List Value}->dP H F w ds vs->dP H F w es us->dP H F w (ds++es) (vs++us)
 |[],_,vs,_,h,h'=>by rw[show vs=[]from h];exact h'
 |_::_,_,_,_,h,h'=>by obtain⟨v,us,rfl,h1,h2⟩:=h;exact⟨v,_,rfl,h1,pQ h2 h'⟩
def CE(rd:Operand->Option aj)(x:Operand):Option (FuncId×List (Nat×List Bool×Nat)):=
 match rd x with
 |some (.fn f caps)=>some (f,caps)
 |_=>acP
def vv{R:Type}(tab:List (Nat×ng))(rd:Operand->Option aj)(objs:List (Nat×(Nat×Th)))(n:Nat)(x:Operand)(args:List Operand)(k:c9->Option R):Option R:=
 match CE rd x with
 |some (f,caps)=>match pE rd args with
  |some ds=>ml objs n f (ds++caps.map Oq) k tab
  |none=>acP
 |none=>acP
section
variable {P:Program} {ρ:Nat->Value} {w w':World} {H H':an} {F F':Nat->Prop} {U:Nat->Prop} {n:Nat} {R:Type}
variable {ty:TypeId} {pos:String} {aft:Array Edge} {dst:Option Nat}
theorem ni:{ds:List aj}->{vs:List Value}->{k:Nat}->dP H F w ds vs->∀t d,find (fI k ds) t=some d->k<=t/\ah H F w d (vs.getD (t-k) undef)
 |[],_,_,_,_,_,h=>by cases h
 |d0::ds,vs,k,h,t,d,hf=>by
  obtain⟨v,us,rfl,h1,h2⟩:=h;have ov:find ((k,d0)::fI (k+1) ds) t=some d:=hf;rw[aA]at ov;split at ov
  .rename_i e;subst e;obtain rfl:=aaT ov;exact⟨aaX _,by simpa using h1⟩
  .obtain⟨h3,h4⟩:=ni h2 t d ov;refine⟨by omega,?_⟩;rw[show t-k=(t-(k+1))+1 from by omega];simpa using h4
theorem kK{aG:List (Nat×(Nat×Th))}:{nd:List Nat}->{o s:Nat}->{t:Th}->find (mK aG nd) o=some (s,t)->o∈nd/\find aG o=some (s,t)/\df t=acQ
 |[],_,_,_,h=>by cases h
 |o0::nd,o,s,t,h=>by
  unfold mK at h;split at h
  .rename_i s0 t0 h0
   cases hb:df t0 with
   |true=>
    rw[hb,cond_true,aA]at h;split at h
    .rename_i e;simp only[aa1,abU]at h;obtain⟨rfl,rfl⟩:=h;subst e;exact⟨by simp,h0,hb⟩
    .obtain⟨a,b⟩:=kK h;exact⟨by simp[a],b⟩
   |false=>
    rw[hb,cond_false]at h;obtain⟨a,b⟩:=kK h;exact⟨by simp[a],b⟩
  .obtain⟨a,b⟩:=kK h;exact⟨by simp[a],b⟩
theorem pR:{l:List (Nat×OS)}->vp always l=acQ
 |[]=>rfl
 |(t,s)::l=>by
  have ht:∀sh:Sh,sh.gA always=acQ:=by
   intro sh
   induction sh with
   |leaf r=>rfl
   |own j=>rfl
   |nil=>rfl
   |junk n=>rfl
   |pair a b RA RB=>show(a.gA always&&b.gA always)=acQ;rw[RA,RB];rfl
  have:s.gA always=acQ:=by
   cases s with
   |box T t=>exact ht t
   |own T r=>rfl
   |map T K agg V=>rfl
   |deep T d=>
    have hd:∀d:DR,d.gA always=acQ:=by
     intro d
     induction d with
     |leaf r=>rfl
     |sl T d ih=>exact ih
     |pair a b RA RB=>show(a.gA always&&b.gA always)=acQ;rw[RA,RB];rfl
    exact hd d
   |smap T K agg V it=>rfl
  show(s.gA always&&vp always l)=acQ
  rw[this,pR];rfl
def ki(H H':an)(n:Nat)(cons:List (Nat×(Nat×Th)))(m0:Nat):an where
 val m:=if n<=m/\m<n+16 then H'.val (m-n)else H.val m
 con m:=if n<=m/\m<n+16 then pM cons m else H.con m
 sub m:=if n<=m/\m<n+16 then H'.sub (m-n+m0)else H.sub m
theorem Er{dd:Option Nat}{f:FuncId}{fn:Func}{g:Operand}{args:Array Operand}{vs us:List Value}{ry:Array TypeId}(hf:P.funcs[f]? =some fn)(hn:(fn.name== "runtime.NumGoroutine")=acR)(hb:fn.body.isNone=acR)(Q2:args.toList.map (ev ρ)=vs)(hg:ev ρ g= .func (.func f) #[] us.toArray):
 (execOp (ev ρ) ⟨dd, .call {callee:= .value g,args:=args,argTypes:=ry},ty,pos,aft,acP⟩).run P w= .ok (.enter f (vs++us).toArray) w:=by
 subst Q2
 have Gk:¬fn.name= "runtime.NumGoroutine" :=by simpa using hn
 have r4:¬fn.body=acP:=by
  intro e;rw[e]at hb;cases hb
 have e:(Array.map (ev ρ) args++us.toArray)=(args.toList.map (ev ρ)++us).toArray:=by simp
 simp[execOp,resolve,hg,Deferred.ofValue,invoke,callFunc,hf,Gk,r4,go_sem,e]
theorem Es{sg:ng}{f:FuncId}(uz:fH P f sg){objs:List (Nat×(Nat×Th))}{op:Op}{k:c9->Option R}{q:R}{ds:List aj}{vs:List Value}{x:cE sg.inn.rows}{bs:Bs}{aG:List (Nat×(Nat×Th))}
 (vw:dP H F w ds vs)(bq:∀fn,P.funcs[f]? =some fn->(fn.name== "runtime.NumGoroutine")=acR->fn.body.isNone=acR->(execOp (ev ρ) ⟨dst,op,ty,pos,aft,acP⟩).run P w= .ok (.enter f vs.toArray) w)(hs:aq U H F w (find objs) n)
 (RC:vn 0 [] sg.inn (fI 0 ds) objs=some (x,bs,aG))
 (h':(bif aaY ds.length sg.inn.ak.length&&qP 0 sg.out.ak&&Nat.ble sg.out.nxt 16&&Nat.ble sg.out.objs.length 16&&(oY always sg.out.ak)then
   (sg.fn x).bind λy=>qQ sg n bs aG (vm 0 sg.inn (fI 0 ds) objs) y k else acP)=some q):
 ∃e,k e=some q/\bO P U H F w ρ (find objs) n ⟨dst,op,ty,pos,aft,acP⟩ e:=by
 obtain⟨hc,h'⟩:=aB h';obtain⟨hc,Xi⟩:=bU hc;obtain⟨hc,K0⟩:=bU hc;obtain⟨hc,Jv⟩:=bU hc;obtain⟨uq,xP⟩:=bU hc;have uq:=beq_true uq
 have Jv:sg.out.nxt<=16:=by simpa using Jv
 have K0:sg.out.objs.length<=16:=by simpa using K0
 obtain⟨y,hy,h⟩:=bind_some h';clear h';obtain⟨⟨fn,Ro,Xj,Xk⟩,kz⟩:=uz;have Vq:=iw vw
 let H0:an:=⟨λ_=>acP,λ_=>acP,λ_ _=>False⟩
 have JN:aq U H0 F w (find (del [] [])) 0:=⟨λ_ _ _ h=>(by cases h),λ_ _ _ _ _ _ _ _ _ h=>(by cases h),λ_ _ _=>⟨rfl,rfl⟩,hs.lt,hs.new,hs.gl⟩
 have Xl:bQ H0 F w H F w:=⟨⟨λ_ _ h=>(by cases h),λ_ _ h=>(by cases h),λ_ _ h=>(by cases h)⟩,Step.refl F w⟩
 have fq:∀t d,find (fI 0 ds) t=some d->ah H F w d (vs.getD t undef):=λt d hd=>by simpa using(ni vw t d hd).2
 obtain⟨F1,H1,qC,Au,I8,ux,yH,qN,CB,LY,yN⟩:=tn (U':=λk=>w.heap.size<=k\/∃o∈fj bs,∃s t v,find aG o=some (s,t)/\H.val o=some v/\fp (H.sub s) v t k) (ns:=[]) (objs0:=[]) (ρ:=λt=>vs.getD t undef) RC JN (λ_ _=>⟨rfl,rfl⟩) Xl hs fq;have yN:=yN (λb hb=> .inl hb) (λo s t v k h1 h2 h3 h4=> .inr ⟨o,h1,s,t,v,h2,h3,h4⟩) (λ_ _ _ _ _ h=>by cases h);generalize hG:(λk=>∃o∈fj bs,∃s t v,find aG o=some (s,t)/\H.val o=some v/\fp (H.sub s) v t k)=G
 have Ot:∀k,G k->¬F1 k:=by
  rw[<-hG]
  rintro k ⟨o,_,s,t,v,h1,h2,h3⟩
  obtain⟨v',da,bP⟩:=qC.obj _ _ _ h1;rw[h2]at da;obtain rfl:=aaT da;exact bP.no k h3
 have RD:∀k,G k->bJ H (find objs) (fj bs) k:=by
  rw[<-hG]
  rintro k ⟨o,ho,s,t,v,h1,h2,h3⟩
  rcases ig ux o s t h1 with h4|h4
  .exact⟨o,ho,s,t,v,h4,h2,h3⟩
  .exact(fh h4 h3).elim
 have Ou:aq (λk=>w.heap.size<=k\/G k) H1 F1 w (find (e8 0 sg.inn.objs (cB sg.inn.ak (cK sg.inn.rows x)).2)) sg.inn.nxt:=by
  rw[show del [] ([]:List (Nat×(Nat×Th)))=[]from rfl,List.append_nil]at yN;rw[<-hG];exact yN
 have Ov:=kz x y hy vs w H1 F1 G (by omega) LY Ou CB Ot;generalize AP:vm 0 sg.inn (fI 0 ds) objs=nd at h I8 ux;generalize RE:K6 n bs aG sg.inn.nxt=φ at h;unfold qQ at h;rw[RE]at h;split at h
 case h_2=>cases h
 rename_i D hD
 have qz:∀(e:c9),e.dst=D->(∀(w':World)(us:List Value)(H':an)(F':Nat->Prop),us.length=sg.out.ak.length->Ext G w w'->H1.le H'->(∀b,F1 b->F' b)->(∀b,F' b->F1 b\/w.heap.size<=b\/G b)->
  (∀t d,find (cB sg.out.ak (cK sg.out.rows y)).1 t=some d->ah H' F' w' d (us.getD t undef))->aq (λk=>w.heap.size<=k\/G k) H' F' w' (find (e8 sg.inn.nxt sg.out.objs (cB sg.out.ak (cK sg.out.rows y)).2)) sg.out.nxt->fF H' sg.out.nxt->kg H F w (find objs) n e (uy us) w')->
  bO P U H F w ρ (find objs) n ⟨dst,op,ty,pos,aft,acP⟩ e:=by
  intro e he oD;have bq:=bq fn Ro Xj Xk;unfold bO bH;rw[bq]
  refine Ov.mono λe' w' ⟨us,he',G9,H',F',a1,a2,a3,a4,a5,a6,a7⟩=>⟨_,he',oD w' us H' F' G9 a1 a2 a3 a4 a5 a6 a7⟩
 generalize yG:e8 n (yI φ sg.out.objs) (cB (pO φ sg.out.ak) (cK sg.out.rows y)).2=cons at h;have RF:=yK (φ:=φ) sg.out.ak (cK sg.out.rows y)
 have LZ:∀{H':an},H1.le H'->fF H' sg.out.nxt->Ren H' (ki H H' n cons sg.inn.nxt) φ/\H.le (ki H H' n cons sg.inn.nxt)/\∀m,(m<n\/n+16<=m)->(H.val m=acP->(ki H H' n cons sg.inn.nxt).val m=acP)/\(H.con m=acP->(ki H H' n cons sg.inn.nxt).con m=acP):=by
  intro H' hle wj
  have A9:∀j v,H'.val j=some v->j<sg.out.nxt:=λj v hj=>by
   rcases Nat.lt_or_ge j sg.out.nxt with g|g
   .exact g
   .rw[(wj j g).1]at hj;cases hj
  have hold:∀o v,H.val o=some v->¬(n<=o/\o<n+16):=λo v ho hc=>by
   rw[(hs.fresh o hc.1 hc.2).1]at ho;cases ho
  refine⟨λj v hj=>?_,⟨λo v ho=>?_,λs t dW=>?_,λs t dW=>?_⟩,λm hm=>?_⟩
  .rw[<-RE];have RG:=A9 j v hj
   have gen:(ki H H' n cons sg.inn.nxt).val (n+j)=some v:=by
    simp only[ki];rw[acU (by omega),Nat.add_sub_cancel_left];exact hj
   unfold K6
   cases hb:abI j sg.inn.nxt with
   |false=>simpa using gen
   |true=>
    rw[cond_true];split
    .rename_i o ho;split
     case h_2=>exact gen
     rename_i e he;obtain⟨u,hu,_⟩:=qC.obj o e.1 e.2 he;have h1:=hle.val _ _ (qN j (some o) ho u hu);rw[hj]at h1;obtain rfl:=aaT h1;simp only[ki];rw[acT (hold o _ hu)];exact hu
    .exact gen
  .simp only[ki];rw[acT (hold o v ho)];exact ho
  .simp only[ki];rw[acT (λhc=>by rw[(hs.fresh s hc.1 hc.2).2]at dW;cases dW)];exact dW
  .simp only[ki];rw[acT (λhc=>by rw[(hs.fresh s hc.1 hc.2).2]at dW;cases dW)]
  .simp only[ki];rw[acT (by omega),acT (by omega)];exact⟨id,id⟩
 have made:∀{p:Row->Bool}{us:List Value}{w':World}{H':an}{F' F2:Nat->Prop}{eat:List Nat},us.length=sg.out.ak.length->oY p sg.out.ak=acQ->vp p sg.out.objs=acQ->rr p F' F2 w'->Ext G w w'->H1.le H'->(∀b,F2 b->F' b)->(∀o,o∈fj bs->o∈eat)->
  (∀t d,find (cB sg.out.ak (cK sg.out.rows y)).1 t=some d->ah H' F' w' d (us.getD t undef))->aq (λk=>w.heap.size<=k\/G k) H' F' w' (find (e8 sg.inn.nxt sg.out.objs (cB sg.out.ak (cK sg.out.rows y)).2)) sg.out.nxt->fF H' sg.out.nxt->
  ah (ki H H' n cons sg.inn.nxt) F2 w' D (uy us)/\Made (ki H H' n cons sg.inn.nxt) F2 w w' (bJ H (find objs) eat) cons/\∀o,(find cons o).isSome->o∈eat\/n<=o:=by
  intro p us w' H' F' F2 eat G9 NU I5 Qt bo hle I8 e7 wm JP Ow;obtain⟨hr,_,_⟩:=LZ hle Ow
  have CF:∀o s t,find cons o=some (s,t)->∃j s' us sh,φ j=o/\t=(cu (sh.oC φ) us).1/\find (e8 sg.inn.nxt sg.out.objs (cB sg.out.ak (cK sg.out.rows y)).2) j=some (s',(cu sh us).1)/\sh.gA p=acQ/\pM cons s=some t/\n<=s/\s<n+16/\(ki H H' n cons sg.inn.nxt).sub s=H'.sub s':=by
   intro o s t ho;rw[<-yG]at ho⊢;rw[RF]at ho⊢;obtain⟨j,s',RH,sh,a1,a2,a3,a4,a5,a6,a7,a8⟩:=yL (m':=sg.inn.nxt) ho
   have ag:s<n+16:=by omega
   refine⟨j,s',RH,sh,a1,a2,a3,a4 I5,a5,a6,ag,?_⟩;simp only[ki];rw[acU ⟨a6,ag⟩,a8]
  refine⟨?_,⟨λo s t ho=>?_,λo o' s s' t t' v v' cA ho iY hv da k hk kh=>?_⟩,λo ho=>?_⟩
  .exact LX (by rw[yM];exact xP) (by rw[rv];exact G9) (G6 hr Qt NU wm) hD
  .obtain⟨j,s',RH,sh,rfl,rfl,a3,a4,a5,a6,a7,a8⟩:=CF o s t ho;rw[a8];obtain⟨v,hv,bP⟩:=JP.obj _ _ _ a3;obtain⟨b1,b2,b3⟩:=qO hr Qt a4 bP.ok;refine⟨v,hr j v hv,bP.one,?_,b1,λk hk=>⟨λe=>bP.no k (b3 k hk) (I8 k e),bP.lt k (b3 k hk),?_⟩⟩
   .rw[b2];simp only[ki];rw[acU ⟨a6,a7⟩];exact a5
   .rcases bP.use k (b3 k hk)with h1|h1
    .exact .inl h1
    .obtain⟨o',iY,rest⟩:=RD k h1;exact .inr ⟨o',e7 o' iY,rest⟩
  .obtain⟨j,s1,us1,sh,rfl,rfl,a3,a4,a5,a6,_,a8⟩:=CF o s t ho;obtain⟨j',s1',Xm,Vp,rfl,rfl,Vr,Xn,a5',a6',_,Xo⟩:=CF o' s' t' iY;rw[a8]at hk;rw[Xo]at kh;obtain⟨u,hu,bP⟩:=JP.obj _ _ _ a3;obtain⟨u',Cs,yy⟩:=JP.obj _ _ _ Vr;have e1:=hr j u hu;rw[hv]at e1;obtain rfl:=aaT e1;have e2:=hr j' u' Cs;rw[da]at e2;obtain rfl:=aaT e2;exact JP.apart j j' _ _ _ _ _ _ (λe=>cA (by rw[e])) a3 Vr hu Cs k ((qO hr Qt a4 bP.ok).2.2 k hk) ((qO hr Qt Xn yy.ok).2.2 k kh)
  .obtain⟨e,he⟩:=abB.1 ho;obtain⟨j,s',RH,sh,rfl,_⟩:=CF o e.1 e.2 he;rw[<-RE];unfold K6
   cases abI j sg.inn.nxt with
   |false=>exact .inr (by simp)
   |true=>
    rw[cond_true];split
    .rename_i o ho;split
     .exact .inl (e7 o (gX ho))
     .exact .inr (by omega)
    .exact .inr (by omega)
 have Ox:∀{w':World}{eat:List Nat},Ext G w w'->(∀o,o∈fj bs->o∈eat)->Ext (bJ H (find objs) eat) w w':=λbo e7=>⟨bo.os,bo.tape,bo.output,bo.size,λk hk hn=>bo.block k hk λhG=>hn (by
  obtain⟨o,ho,rest⟩:=RD k hG
  exact⟨o,e7 o ho,rest⟩)⟩
 cases Nq:CD sg with
 |true=>
  rw[Nq,cond_true]at h;obtain⟨p1,p2⟩:=bU Nq;refine⟨_,h,qz _ rfl λw' us H' F' G9 a1 a2 a3 a4 a5 a6 a7=>?_⟩;obtain⟨_,g2,g3⟩:=LZ a2 a7;obtain⟨m1,m2,m3⟩:=made (F2:=F) (eat:=fj bs) G9 p1 p2 (λr hr cs x hx=>bT.A5 hr hx) a1 a2 (λb hb=>a3 b (Au b hb)) (λ_ h=>h) a5 a6 a7;exact⟨_,F,⟨g2,Ox a1 (λ_ h=>h),λ_ h=>h,λ_ h=> .inl h,λb hb=>abt (hs.lt b hb) a1.size⟩,g3,m1,m2,m3⟩
 |false=>
  rw[Nq,cond_false]at h;refine⟨_,h,qz _ rfl λw' us H' F' G9 a1 a2 a3 a4 a5 a6 a7=>?_⟩;obtain⟨_,g2,g3⟩:=LZ a2 a7;obtain⟨m1,m2,m3⟩:=made (F2:=F') (eat:=fj bs++nd) G9 Xi pR (λr _ cs x hx=>hx) a1 a2 (λ_ h=>h) (λo h=>by simp[h]) a5 a6 a7
  have dW:Step F1 w F' w':=λb hb=>⟨a3 b hb,a1.block b (qC.lt b hb) λe=>Ot b e hb⟩
  have qk:∀o s t,find (mK aG nd) o=some (s,t)->o∈nd/\df t=acQ/\∃v,H.val o=some v/\v.oneCell'=acQ/\H.con s=some t.base/\fB H F1 w (H.sub s) v t:=by
   intro o s t ho;obtain⟨b1,b2,b3⟩:=kK ho;obtain⟨v,hv,bP⟩:=qC.obj _ _ _ b2;exact⟨b1,b3,v,hv,bP.one,bP.con,bP.ok⟩
  have part:∀o s t,find (cons++mK aG nd) o=some (s,t)->find cons o=some (s,t)\/find (mK aG nd) o=some (s,t):=by
   intro o s t ho;rw[fD]at ho
   cases hm:find cons o with
   |some e=>rw[hm]at ho;exact .inl ho
   |none=>rw[hm,abT]at ho;exact .inr ho
  refine⟨_,F',⟨g2,Ox a1 (λo h=>by simp[h]),λb hb=>a3 b (Au b hb),λb hb=>?_,a6.lt⟩,g3,m1,⟨λo s t ho=>?_,λo o' s s' t t' v v' cA ho iY hv da k hk kh=>?_⟩,λo ho=>?_⟩
  .rcases a4 b hb with h1|h1|h1
   .rcases I8 b h1 with h2|⟨o,ho,rest⟩
    .exact .inl h2
    .exact .inr (.inr ⟨o,by simp[ho],rest⟩)
   .exact .inr (.inl h1)
   .obtain⟨o,ho,rest⟩:=RD b h1;exact .inr (.inr ⟨o,by simp[ho],rest⟩)
  .rcases part o s t ho with h1|h1
   .exact m2.obj o s t h1
   .obtain⟨b1,b2,v,b3,b4,b5,b6⟩:=qk o s t h1;refine⟨v,g2.val _ _ b3,b4,g2.con _ _ b5,by rw[g2.sub _ _ b5];exact b6.heap g2 dW (λk hk=>(fh b2 hk).elim),λk hk=>(fh b2 hk).elim⟩
  .rcases part o s t ho with h1|h1<;>rcases part o' s' t' iY with h2|h2
   .exact m2.apart o o' s s' t t' v v' cA h1 h2 hv da k hk kh
   .exact fh (qk o' s' t' h2).2.1 kh
   .exact fh (qk o s t h1).2.1 hk
   .exact fh (qk o s t h1).2.1 hk
  .obtain⟨e,he⟩:=abB.1 ho
   rcases part o e.1 e.2 he with h1|h1
   .exact m3 o (by rw[h1];rfl)
   .exact .inl (by simp[(qk o _ _ h1).1])
theorem lQ{Oy:List (Nat×ng)}(uz:∀p∈Oy,fH P p.1 p.2){objs:List (Nat×(Nat×Th))}{f:FuncId}{op:Op}{k:c9->Option R}{q:R}{ds:List aj}{vs:List Value}
 (vw:dP H F w ds vs)(bq:∀fn,P.funcs[f]? =some fn->(fn.name== "runtime.NumGoroutine")=acR->fn.body.isNone=acR->(execOp (ev ρ) ⟨dst,op,ty,pos,aft,acP⟩).run P w= .ok (.enter f vs.toArray) w)(hs:aq U H F w (find objs) n):{tab:List (Nat×ng)}->(∀p∈tab,p∈Oy)->ml objs n f ds k tab=some q->
 ∃e,k e=some q/\bO P U H F w ρ (find objs) n ⟨dst,op,ty,pos,aft,acP⟩ e
 |[],_,h=>by cases h
 |(f0,sg)::tab,bP,h=>by
  unfold ml at h
  cases hb:aaY f0 f with
  |false=>rw[hb,cond_false]at h;exact lQ uz vw bq hs (λp hp=>bP p (by simp[hp])) h
  |true=>
   rw[hb,cond_true]at h;obtain rfl:=beq_true hb;split at h
   case h_2=>exact lQ uz vw bq hs (λp hp=>bP p (by simp[hp])) h
   rename_i x bs aG RC;exact Es (uz (f0,sg) (bP _ (by simp))) vw bq hs RC h
theorem yO{tab:List (Nat×ng)}(uz:∀p∈tab,fH P p.1 p.2){rd:Operand->Option aj}(dG:∀x d,rd x=some d->ah H F w d (ev ρ x)){objs:List (Nat×(Nat×Th))}{g:Operand}{args:Array Operand}{ry:Array TypeId}{k:c9->Option R}{q:R}
 (h:vv tab rd objs n g args.toList k=some q)(hs:aq U H F w (find objs) n):
 ∃e,k e=some q/\bO P U H F w ρ (find objs) n ⟨dst, .call {callee:= .value g,args:=args,argTypes:=ry},ty,pos,aft,acP⟩ e:=by
 unfold vv at h;split at h
 case h_2=>cases h
 rename_i f caps hc;split at h
 case h_2=>cases h
 rename_i ds sd;unfold CE at hc;split at hc
 case h_2=>cases hc
 rename_i f' Vs hg;cases hc;obtain⟨us,h1,h2⟩:=dG _ _ hg;exact lQ uz (pQ (lG (w:=w) (H:=H) (F:=F) (ρ:=ρ) dG sd) (tt (F:=F) (w:=w) h2)) (λfn g1 g2 g3=>Er g1 g2 g3 rfl h1) hs (λ_ h=>h) h
end
end
section
section
variable {P:Program} {ρ:Nat->Value} {w w':World} {H H':an} {F F':Nat->Prop} {U:Nat->Prop} {ob:Nat->Option (Nat×Th)} {n:Nat} {R:Type}
variable {op:Op} {ty:TypeId} {pos:String} {aft:Array Edge} {d:Nat} {dst:Option Nat}
def FC.CG:FC->Bool
 | .other=>acR
 |_=>acQ
theorem uW.CG{t:TypeId}{k:FC}(h:uW P t k)(hk:k.CG=acQ):∃D,P.underlying t=some D/\∀ms,D≠ .interface ms:=by
 cases k with
 |other=>cases hk
 |struct fs=>obtain⟨arr,h,_⟩:=h;exact⟨_,h,λ_ e=>by cases e⟩
 |_=>exact⟨_,h,λ_ e=>by cases e⟩
def wL(T:aM P)(t:TypeId):Bool:=match find T.und t with
 |some k=>k.CG
 |none=>acR
theorem vx(T:aM P){t:TypeId}(h:wL T t=acQ):∃D,P.underlying t=some D/\∀ms,D≠ .interface ms:=by
 unfold wL at h;split at h
 .rename_i k hk;exact(T.und_ok _ _ hk).CG h
 .cases h
def Et(T:aM P)(t:TypeId)(D:aj)(k:c9->Option R):Option R:=bif wL T t then k {dst:= .ifc t D}else acP
theorem JQ(T:aM P){t:TypeId}{D:aj}{x:Operand}{k:c9->Option R}{q:R}(h:Et T t D k=some q)(hs:aq U H F w ob n)(hx:ah H F w D (ev ρ x)):
 ∃e,k e=some q/\bO P U H F w ρ ob n ⟨some d, .makeInterface t x,ty,pos,aft,acP⟩ e:=by
 unfold Et at h;obtain⟨h1,h2⟩:=aB h;obtain⟨D0,hD,hn⟩:=vx T h1;refine⟨_,h2,bm hs (v:= .iface t (ev ρ x)) ?_ ⟨_,rfl,hx⟩⟩
 cases D0 with
 |interface ms=>exact absurd rfl (hn ms)
 |_=>simp[execOp,Instr.makeInterface,run_underlying hD,abc]
def oa(T:aM P)(t:TypeId)(ok:Bool)(D:aj)(k:c9->Option R):Option R:=
 match D with
 | .ifc t' d=>bif aaY t' t&&wL T t then(match ok,d with
   |true, .val agg tr=>k {dst:= .tup [(agg,tr),(acR, .leaf .bool acQ)]}
   |true,_=>acP
   |false,d=>k {dst:=d})else acP
 |_=>acP
theorem Ba(T:aM P){xt t:TypeId}{ok:Bool}{D:aj}{x:Operand}{k:c9->Option R}{q:R}(h:oa T t ok D k=some q)(hs:aq U H F w ob n)(hx:ah H F w D (ev ρ x)):
 ∃e,k e=some q/\bO P U H F w ρ ob n ⟨some d, .typeAssert x xt t ok,ty,pos,aft,acP⟩ e:=by
 unfold oa at h;split at h
 case h_2=>cases h
 rename_i t' dd;obtain⟨h1,h2⟩:=aB h;obtain⟨h1,h3⟩:=bU h1;obtain rfl:=beq_true h1;obtain⟨D0,hD,hn⟩:=vx T h3;obtain⟨u,hu,hd⟩:=hx
 have bq:(Instr.typeAssert (ev ρ x) xt t' ok).run P w= .ok (if ok then .tuple #[u, .bool acQ]else u) w:=by
  rw[hu]
  cases D0 with
  |interface ms=>exact absurd rfl (hn ms)
  |_=>simp[Instr.typeAssert,run_underlying hD,abc]
 split at h2
 .exact⟨_,h2,bm hs (v:= .tuple #[u, .bool acQ]) (by simp[execOp,bq,abc]) ⟨[u, .bool acQ],rfl,_,_,rfl,hd,_,_,rfl,az.dY ..,rfl⟩⟩
 .cases h2
 .exact⟨_,h2,bm hs (v:=u) (by simp[execOp,bq,abc]) hd⟩
def CH:List (TypeId×(String×(FuncId×Bool)))->TypeId->String->Option (FuncId×Bool)
 |[],_,_=>acP
 |(t',(nm,p))::l,t,name=>bif aaY t' t&&(nm==name)then some p else CH l t name
theorem yP{t:TypeId}{name:String}{f:FuncId}{pr:Bool}:{l:List (TypeId×(String×(FuncId×Bool)))}->CH l t name=some (f,pr)->(t,(name,(f,pr)))∈l
 |[],h=>by cases h
 |(t',(nm,p))::l,h=>by
  unfold CH at h
  cases hb:aaY t' t&&(nm==name)with
  |true=>
   rw[hb,cond_true]at h;obtain⟨h1,h2⟩:=bU hb;obtain rfl:=beq_true h1
   obtain rfl:nm=name:=by simpa using h2
   cases h;simp
  |false=>
   rw[hb,cond_false]at h;exact abz _ (yP h)
theorem Bb{t:TypeId}{name:String}{f:FuncId}{pr:Bool}{v u:Value}{fuel:Nat}(h:Ce P t name f pr)(hr:∀nm,(receiverAt t (.val v) pr (some nm)).run P w= .ok u w):(method (fuel+1) t v name).run P w= .ok (f,u) w:=by
 unfold Ce at h
 cases hi:P.info? t with
 |none=>rw[hi]at h;cases h
 |some ti=>
  rw[hi]at h;have h:(ti.methods.find? λm=>m.name==name).map (λm=>(m.path.toList.length,m.func))=some (0,some (f,pr)):=h
  cases hm:ti.methods.find? λm=>m.name==name with
  |none=>rw[hm]at h;cases h
  |some m=>
   rw[hm]at h;simp only[Option.map_some,aa1,abU]at h
   have hp:m.path= #[]:=by
    have:=h.1;simpa using this
   simp[method,typeInfo,hi,hm,hp,follow,h.2,hr,abc,abp]
theorem Eu{t e:TypeId}{nm:String}{v:Value}(hu:P.underlying t=some (.pointer e)):(receiverAt t (.val v) acQ (some nm)).run P w= .ok v w:=by
 simp[receiverAt,run_underlying hu,Place.get,abc,abp]
theorem Ev{t e:TypeId}{nm:String}{a:Addr}{u:Value}(hu:P.underlying t=some (.pointer e))(hl:(loadVar e a).run P w= .ok u w):(receiverAt t (.val (.pointer (some a))) acR (some nm)).run P w= .ok u w:=by
 have hw:Builtin.ssaWrapNilChk_ #[t] t #[.pointer (some a),strVal "",strVal nm]=pure (.pointer (some a)):=rfl;simp[receiverAt,run_underlying hu,Place.get,hw,asAddr,hl,abc,abp]
theorem tv{t:TypeId}{name:String}{f:FuncId}{fn:Func}{pr:Bool}{v u:Value}{x:Operand}{args:Array Operand}{ry:Array TypeId}(h:Ce P t name f pr)(hx:ev ρ x= .iface t v)(hr:∀nm,(receiverAt t (.val v) pr (some nm)).run P w= .ok u w)
 (hf:P.funcs[f]? =some fn)(hn:(fn.name== "runtime.NumGoroutine")=acR)(hb:fn.body.isNone=acR):
 (execOp (ev ρ) ⟨dst, .call {callee:= .invoke x name,args:=args,argTypes:=ry},ty,pos,aft,acP⟩).run P w= .ok (.enter f (u::args.toList.map (ev ρ)).toArray) w:=by
 have Gk:¬fn.name= "runtime.NumGoroutine" :=by simpa using hn
 have r4:¬fn.body=acP:=by
  intro e;rw[e]at hb;cases hb
 have hm:=Bb (fuel:=P.types.size+99) h hr;have Xp:P.types.size+100=P.types.size+99+1:=rfl
 have e1:(#[Value.iface t v]++Array.map (ev ρ) args).extract 1 (1+args.size)=Array.map (ev ρ) args:=by
  apply Array.ext';simp;exact List.take_of_length_le (by simp)
 have e0:(#[Value.iface t v]++Array.map (ev ρ) args)[0]? =some (Value.iface t v):=by simp[Array.getElem?_append]
 have e2:(#[u]++Array.map (ev ρ) args)=(u::args.toList.map (ev ρ)).toArray:=by apply Array.ext';simp
 simp[execOp,resolve,hx,invoke,callMethod,Xp,hm,callFunc,hf,Gk,r4,go_sem,e0,e1,e2]
def sq(T:aM P)(ob:Nat->Option (Nat×Th))(e:TypeId)(D:aj):Option aj:=
 match find T.und e with
 |none=>acP
 |some kk=>match D with
  | .ptr o p off=>match ob o with
    |some (_, .box _ tr)=>match tr.get p with
     |some (s,cV)=>bif aaY cV off&&kH T e kk s.size then some (.val (ir kk) s)else acP
     |none=>acP
    |_=>acP
  |_=>acP
theorem Bc(T:aM P){e:TypeId}{D D':aj}{v:Value}(h:sq T ob e D=some D')(hs:aq U H F w ob n)(hx:ah H F w D v):∃a u,v= .pointer (some a)/\(loadVar e a).run P w= .ok u w/\ah H F w D' u:=by
 unfold sq at h;split at h
 .cases h
 rename_i kk hu;split at h
 case h_2=>cases h
 rename_i o p off;split at h
 case h_2=>cases h
 rename_i Wu T0 tr bW;split at h
 case h_2=>cases h
 rename_i s cV hg;obtain⟨h1,h2⟩:=aB h;cases h2;obtain⟨h1,h3⟩:=bU h1;obtain rfl:=beq_true h1;obtain⟨b,hb,rfl⟩:=hx;obtain⟨es,hh,KX⟩:=hs.box bW hb;obtain⟨g1,g2⟩:=KX.get hg
 have hc:∀j u,((es.drop cV).take s.size)[j]? =some u->w.cell? ⟨b,cV+j,acP⟩=some u:=λj u hj=>by
  rw[sL hh];rw[abl]at hj;split at hj
  .rwa [abe]at hj
  .cases hj
 obtain⟨dd,ur,ul⟩:=(T.und_ok _ _ hu).agg;have hz:=hZ T h3;have hl:=g1.length;generalize(es.drop cV).take s.size=cs at g1 hc hl
 cases ha:ir kk with
 |true=>
  rw[acU ha]at hz;obtain⟨r,hr,I3⟩:=hz;obtain⟨ti,z,h1,_,_,h4,_⟩:=T.row_ok _ _ hr;have RJ:(loadCells ⟨b,cV,acP⟩ cs.length).run P w= .ok cs.toArray w:=run_loadCells_list (P:=P) w ⟨b,cV,acP⟩ cs (λj v hv=>by rw[bZ];exact hc j v hv)
  have jc:ti.size=cs.length:=by omega
  exact⟨_, .agg cs.toArray,rfl,by simp[loadVar,abp,dK ur,ul,ha,sizeOf,typeInfo,h1,jc,RJ],⟨cs,g1,rfl,by simp⟩⟩
 |false=>
  rw[acT (by simp[ha])]at hz
  obtain⟨v,rfl⟩:∃v,cs=[v]:=by
   match cs,hl.trans hz with
   |[v],_=>exact⟨v,rfl⟩
  have Xq:w.cell? ⟨b,cV,acP⟩=some v:=hc 0 v rfl;exact⟨_,v,rfl,by simp[loadVar,abp,dK ur,ul,ha,Xq,go_sem],⟨[v],g1,rfl,λ_=>rfl⟩⟩
def od(T:aM P)(tab:List (Nat×ng))(rd:Operand->Option aj)(objs:List (Nat×(Nat×Th)))(n:Nat)(x:Operand)(name:String)(args:List Operand)(k:c9->Option R):Option R:=
 match rd x with
 |some (.ifc t d)=>match CH T.mth t name with
  |some (f,pr)=>match find T.und t with
   |some (.ptr e)=>match(bif pr then some d else sq T (find objs) e d)with
    |some d'=>match pE rd args with
     |some ds=>ml objs n f (d'::ds) k tab
     |none=>acP
    |none=>acP
   |_=>acP
  |none=>acP
 |_=>acP
theorem tw(T:aM P){tab:List (Nat×ng)}(uz:∀p∈tab,fH P p.1 p.2){rd:Operand->Option aj}(dG:∀x d,rd x=some d->ah H F w d (ev ρ x)){objs:List (Nat×(Nat×Th))}{x:Operand}{name:String}{args:Array Operand}{ry:Array TypeId}{k:c9->Option R}{q:R}
 (h:od T tab rd objs n x name args.toList k=some q)(hs:aq U H F w (find objs) n):
 ∃e,k e=some q/\bO P U H F w ρ (find objs) n ⟨dst, .call {callee:= .invoke x name,args:=args,argTypes:=ry},ty,pos,aft,acP⟩ e:=by
 unfold od at h;split at h
 case h_2=>cases h
 rename_i t d0 hx;split at h
 case h_2=>cases h
 rename_i f pr hm;split at h
 case h_2=>cases h
 rename_i e hu;split at h
 case h_2=>cases h
 rename_i d' uR;split at h
 case h_2=>cases h
 rename_i ds sd;obtain⟨v,hv,Vt⟩:=dG _ _ hx;have hM:=T.mth_ok _ (yP hm);have hu:=T.und_ok _ _ hu;have Vu:=lG (w:=w) (H:=H) (F:=F) (ρ:=ρ) dG sd
 cases pr with
 |true=>
  cases uR
  have Ni:dP H F w (d0::ds) (v::args.toList.map (ev ρ)):=⟨v,_,rfl,Vt,Vu⟩
  exact lQ uz Ni (λfn g1 g2 g3=>tv hM hv (λnm=>Eu hu) g1 g2 g3) hs (λ_ h=>h) h
 |false=>
  obtain⟨a,u,rfl,hl,Xr⟩:=Bc T (show sq T (find objs) e d0=some d' from uR) hs Vt
  have Ni:dP H F w (d'::ds) (u::args.toList.map (ev ρ)):=⟨u,_,rfl,Xr,Vu⟩
  exact lQ uz Ni (λfn g1 g2 g3=>tv hM hv (λnm=>Ev hu hl) g1 g2 g3) hs (λ_ h=>h) h
end
end
section
structure Env(P:Program)where
 T:aM P
 tab:List (Nat×ng)
 ok:∀p∈tab,fH P p.1 p.2
 mix:P.follows .mixedOrders=acQ
 deep:Bool
 drop:Bool
def wM(rd:Operand->Option aj):List Operand->Option (List (Nat×List Bool×Nat))
 |[]=>some []
 |x::xs=>match rd x with
  |some (.ptr o p off)=>match wM rd xs with
   |some cs=>some ((o,p,off)::cs)
   |none=>acP
  |_=>acP
theorem vy{H:an}{F:Nat->Prop}{w:World}{ρ:Nat->Value}{rd:Operand->Option aj}(dG:∀x d,rd x=some d->ah H F w d (ev ρ x)):{xs:List Operand}->{cs:List (Nat×List Bool×Nat)}->wM rd xs=some cs->jd H cs (xs.map (ev ρ))
 |[],cs,h=>by obtain rfl:=aaT h;rfl
 |x::xs,cs,h=>by
  unfold wM at h;split at h
  case h_2=>cases h
  rename_i o p off hx;split at h
  case h_2=>cases h
  rename_i oO oN;obtain rfl:=aaT h;exact⟨_,_,rfl,dG _ _ hx,vy dG oN⟩
def kB{R:Type}(rd:Operand->Option aj)(fn:Fn)(first caps:Array Operand)(k:c9->Option R):Option R:=
 match fn,first.toList with
 | .func f,[]=>match wM rd caps.toList with
   |some cs=>k {dst:= .fn f cs}
   |none=>acP
 |_,_=>acP
theorem wN{R:Type}{P:Program}{U:Nat->Prop}{H:an}{F:Nat->Prop}{w:World}{ρ:Nat->Value}{ob:Nat->Option (Nat×Th)}{n d:Nat}{ty:TypeId}{pos:String}{aft:Array Edge}{rd:Operand->Option aj}(dG:∀x d,rd x=some d->ah H F w d (ev ρ x)){fn:Fn}{first caps:Array Operand}{k:c9->Option R}{q:R}
 (h:kB rd fn first caps k=some q)(hs:aq U H F w ob n):∃e,k e=some q/\bO P U H F w ρ ob n ⟨some d, .makeFunc fn first caps,ty,pos,aft,acP⟩ e:=by
 unfold kB at h;split at h
 case h_2=>cases h
 rename_i f hf;split at h
 case h_2=>cases h
 rename_i cs oN
 have L1:first= #[]:=by rw[<-abE (xs:=first),hf]
 subst L1
 have e:caps.map (ev ρ)=(caps.toList.map (ev ρ)).toArray:=by rw[<-List.map_toArray,abE]
 exact⟨_,h,bm hs (v:= .func (.func f) #[] (caps.toList.map (ev ρ)).toArray) (by simp[execOp,Instr.makeFunc,e]) ⟨_,rfl,vy dG oN⟩⟩
noncomputable def lR{R:Type}{P:Program}(E:Env P)(rd:Operand->Option aj)(objs:List (Nat×(Nat×Th)))(n:Nat)(callee:Callee)(args:Array Operand)(ry:Array TypeId)(k:c9->Option R):Option R:=
 match callee with
 | .builtin .len=>match args.toList,ry.toList with
   |[x],[t]=>match rd x with
    |some D=>match DZ E.T (find objs) t D with
     |some D'=>k {dst:=D'}
     |none=>acP
    |none=>acP
   |_,_=>acP
 | .builtin .append=>match args.toList,ry.toList with
   |[x,y],[t,t']=>bif aaY t t' then(match rd x with
    |some X=>match rd y with
     |some Y=>lN E.T (find objs) n t X Y k
     |none=>acP
    |none=>acP)else acP
   |_,_=>acP
 | .builtin .max=>match args.toList,ry.toList with
   |[x,y],[_,_]=>match rd x with
    |some X=>match rd y with
     |some Y=>match sf acQ X Y with
      |some D=>k {dst:=D}
      |none=>acP
     |none=>acP
    |none=>acP
   |_,_=>acP
 | .builtin .min=>match args.toList,ry.toList with
   |[x,y],[_,_]=>match rd x with
    |some X=>match rd y with
     |some Y=>match sf acR X Y with
      |some D=>k {dst:=D}
      |none=>acP
     |none=>acP
    |none=>acP
   |_,_=>acP
 | .builtin .delete=>match args.toList,ry.toList with
   |[m,x],[t,_]=>match rd m with
    |some M=>match rd x with
     |some X=>nT E.T (find objs) n t M X k
     |none=>acP
    |none=>acP
   |_,_=>acP
 | .value g=>vv E.tab rd objs n g args.toList k
 | .invoke x name=>od E.T E.tab rd objs n x name args.toList k
 |_=>acP
noncomputable def JR{R:Type}{P:Program}(E:Env P)(rd:Operand->Option aj)(objs:List (Nat×(Nat×Th)))(n:Nat)(dst:Option Nat)(op:Op)(k:c9->Option R):Option R:=
 match dst with
 |none=>match op with
  | .store t x y=>match rd x with
    |some X=>match rd y with
     |some Y=>n4 E.T (find objs) n t X Y k
     |none=>acP
    |none=>acP
  | .call c=>lR E rd objs n c.callee c.args c.argTypes k
  | .mapUpdate t m x y=>match rd m with
    |some M=>match rd x with
     |some X=>match rd y with
      |some Y=>ie E.T (find objs) n t M X Y k
      |none=>acP
     |none=>acP
    |none=>acP
  |_=>acP
 |some _=>match op with
  | .move x=>match rd x with
    |some D=>k {dst:=D}
    |none=>acP
  | .assign x=>match rd x with
    |some D=>k {dst:=D}
    |none=>acP
  | .pick c x y=>match rd c with
    |some C=>match asBool C with
     |some b=>match(if b=acQ then rd x else rd y)with
      |some D=>k {dst:=D}
      |none=>acP
     |none=>acP
    |none=>acP
  | .alloc t=>qs E.T n t k
  | .box t x=>match rd x with
    |some X=>DY n t X k
    |none=>acP
  | .build t ps=>qv E.T rd t ps k
  | .buildSlice t m ps=>sj E.deep E.T rd (find objs) n t m ps k
  | .load t x=>match rd x with
    |some X=>nc E.T (find objs) n t X k
    |none=>acP
  | .nilCheck x=>match rd x with
    |some (.ptr o p off)=>k {dst:= .ptr o p off}
    |some (.elem o s r i z p off)=>k {dst:= .elem o s r i z p off}
    |some (.dlm o d i p off)=>k {dst:= .dlm o d i p off}
    |some (.at r z)=>k {dst:= .at r z}
    |_=>acP
  | .binOp o t x y _=>match rd x with
    |some X=>match rd y with
     |some Y=>D6 E.T (find objs) o t (NP y) X Y k
     |none=>acP
    |none=>acP
  | .unOp o _ x=>match rd x with
    |some X=>match Q6 o X with
     |some D=>k {dst:=D}
     |none=>acP
    |none=>acP
  | .convert s t x=>match rd x with
    |some X=>match GF E.T s t X with
     |some D=>k {dst:=D}
     |none=>acP
    |none=>acP
  | .makeSlice t a b=>match rd a with
    |some A=>match asInt A with
     |some (_,i)=>match rd b with
      |some B=>match asInt B with
       |some (_,j)=>td E.deep E.T n t (mY a b) i j k
       |none=>acP
      |none=>acP
     |none=>acP
    |none=>acP
  | .slice t x lo hi acP=>match rd x with
    |some X=>qw E.drop E.T rd (find objs) n t X lo hi k
    |none=>acP
  | .fieldAddr t x f=>match rd x with
    |some X=>match AA E.T t f X with
     |some D=>k {dst:=D}
     |none=>acP
    |none=>acP
  | .field t x f=>match rd x with
    |some X=>match wq E.T t f X with
     |some D=>k {dst:=D}
     |none=>acP
    |none=>acP
  | .indexAddr t x y=>match rd x with
    |some X=>match rd y with
     |some Y=>match asInt Y with
      |some (_,i)=>qm E.T (find objs) t X i k
      |none=>acP
     |none=>acP
    |none=>acP
  | .index t x y=>match rd x with
    |some X=>match rd y with
     |some Y=>match asInt Y with
      |some (_,i)=>nV E.T (find objs) t X i k
      |none=>acP
     |none=>acP
    |none=>acP
  | .extract x i=>match rd x with
    |some X=>match sT X i with
     |some D=>k {dst:=D}
     |none=>acP
    |none=>acP
  | .call c=>lR E rd objs n c.callee c.args c.argTypes k
  | .makeFunc fn first caps=>kB rd fn first caps k
  | .makeMap t acP=>kA E.deep E.T n t k
  | .lookup t m x ok=>match rd m with
    |some M=>match rd x with
     |some X=>lM E.T (find objs) n t ok M X k
     |none=>acP
    |none=>acP
  | .range t x=>match rd x with
    |some X=>qG E.T (find objs) n t X k
    |none=>acP
  | .entry x=>match rd x with
    |some X=>match AV objs X with
     |some D=>k {dst:=D}
     |none=>acP
    |none=>acP
  | .makeInterface t x=>match rd x with
    |some X=>Et E.T t X k
    |none=>acP
  | .typeAssert x _ t ok=>match rd x with
    |some X=>oa E.T t ok X k
    |none=>acP
  |_=>acP
section
variable {P:Program} {ρ:Nat->Value} {w w':World} {H H':an} {F F':Nat->Prop} {U:Nat->Prop} {n:Nat} {R:Type}
variable {ty:TypeId} {pos:String} {aft:Array Edge} {dst:Option Nat} {d:Nat}
theorem cW{α:Type}{a:Array α}{l:List α}(h:a.toList=l):a=l.toArray:=by rw[<-h,abE]
theorem vz(E:Env P){rd:Operand->Option aj}(dG:∀x d,rd x=some d->ah H F w d (ev ρ x)){objs:List (Nat×(Nat×Th))}{args:Array Operand}{ry:Array TypeId}{k:c9->Option R}{q:R}{dst:Option Nat}
 (h:lR E rd objs n (.builtin .delete) args ry k=some q)(hs:aq U H F w (find objs) n):∃e,k e=some q/\bO P U H F w ρ (find objs) n ⟨dst, .call {callee:= .builtin .delete,args:=args,argTypes:=ry},ty,pos,aft,acP⟩ e:=by
 unfold lR at h;simp only at h;split at h
 case h_2=>cases h
 rename_i m x t t' ha ht;obtain rfl:=cW ha;obtain rfl:=cW ht;split at h
 case h_2=>cases h
 rename_i M hM;split at h
 case h_2=>cases h
 rename_i X hX;exact AH E.T h hs (dG _ _ hM) (dG _ _ hX)
theorem Ha(E:Env P){rd:Operand->Option aj}(dG:∀x d,rd x=some d->ah H F w d (ev ρ x)){objs:List (Nat×(Nat×Th))}{c:Call}{k:c9->Option R}{q:R}
 (h:lR E rd objs n c.callee c.args c.argTypes k=some q)(hs:aq U H F w (find objs) n):∃e,k e=some q/\bO P U H F w ρ (find objs) n ⟨some d, .call c,ty,pos,aft,acP⟩ e:=by
 obtain⟨callee,args,ry⟩:=c;simp only at h;unfold lR at h;split at h
 .split at h
  case h_2=>cases h
  rename_i x t ha ht;obtain rfl:=cW ha;obtain rfl:=cW ht;split at h
  case h_2=>cases h
  rename_i D hD;split at h
  case h_2=>cases h
  rename_i D' Jm;exact⟨_,h,Cj E.T Jm hs (dG _ _ hD)⟩
 .split at h
  case h_2=>cases h
  rename_i x y t t' ha ht;obtain rfl:=cW ha;obtain rfl:=cW ht;obtain⟨hb,h'⟩:=aB h;clear h;obtain rfl:=beq_true hb;split at h'
  case h_2=>cases h'
  rename_i X hX;split at h'
  case h_2=>cases h'
  rename_i Y hY;exact yx E.T h' hs (dG _ _ hX) (dG _ _ hY)
 .split at h
  case h_2=>cases h
  rename_i x y t t' ha ht;obtain rfl:=cW ha;obtain rfl:=cW ht;split at h
  case h_2=>cases h
  rename_i X hX;split at h
  case h_2=>cases h
  rename_i Y hY;split at h
  case h_2=>cases h
  rename_i D hD;exact⟨_,h,sU (mx:=acQ) hD hs (dG _ _ hX) (dG _ _ hY)⟩
 .split at h
  case h_2=>cases h
  rename_i x y t t' ha ht;obtain rfl:=cW ha;obtain rfl:=cW ht;split at h
  case h_2=>cases h
  rename_i X hX;split at h
  case h_2=>cases h
  rename_i Y hY;split at h
  case h_2=>cases h
  rename_i D hD;exact⟨_,h,sU (mx:=acR) hD hs (dG _ _ hX) (dG _ _ hY)⟩
 .refine vz E dG ?_ hs;unfold lR;exact h
 .exact yO E.ok dG h hs
 .exact tw E.T E.ok dG h hs
 .cases h
def Oz:Callee->Bool
 | .value _=>acQ
 | .invoke .. =>acQ
 |_=>acR
def Hb:Callee->Bool
 | .builtin .delete=>acQ
 |c=>Oz c
theorem uA(E:Env P){rd:Operand->Option aj}(dG:∀x d,rd x=some d->ah H F w d (ev ρ x)){objs:List (Nat×(Nat×Th))}{c:Call}{k:c9->Option R}{q:R}(hc:Hb c.callee=acQ)
 (h:lR E rd objs n c.callee c.args c.argTypes k=some q)(hs:aq U H F w (find objs) n):∃e,k e=some q/\bO P U H F w ρ (find objs) n ⟨acP, .call c,ty,pos,aft,acP⟩ e:=by
 obtain⟨callee,args,ry⟩:=c;simp only at h hc
 cases callee with
 |value g=>exact yO E.ok dG h hs
 |invoke x name=>exact tw E.T E.ok dG h hs
 |builtin b=>cases b<;>first|(cases hc;done)|exact vz E dG h hs
end
section
variable {P:Program} {ρ:Nat->Value} {w w':World} {H H':an} {F F':Nat->Prop} {U:Nat->Prop} {n:Nat} {R:Type}
variable {ty:TypeId} {pos:String} {aft:Array Edge} {dst:Option Nat} {d:Nat}
theorem Ew{c x y:Operand}{b:Bool}{D:aj}{ob:Nat->Option (Nat×Th)}(hs:aq U H F w ob n)(hc:ev ρ c= .bool b)(hx:ah H F w D (ev ρ (if b=acQ then x else y))):bO P U H F w ρ ob n ⟨some d, .pick c x y,ty,pos,aft,acP⟩ {dst:=D}:=by
 cases b with
 |true=>exact aF hs (sB hc rfl) hx
 |false=>exact aF hs (rL hc rfl) hx
theorem Hc(E:Env P){rd:Operand->Option aj}(dG:∀x d,rd x=some d->ah H F w d (ev ρ x)){objs:List (Nat×(Nat×Th))}{op:Op}{k:c9->Option R}{q:R}
 (yQ:dst=acP->∀c,op= .call c->Hb c.callee=acQ)(h:JR E rd objs n dst op k=some q)(hs:aq U H F w (find objs) n):∃e,k e=some q/\bO P U H F w ρ (find objs) n ⟨dst,op,ty,pos,aft,acP⟩ e:=by
 cases dst with
 |none=>
  unfold JR at h;simp only at h;split at h
  .split at h
   case h_2=>cases h
   rename_i X hX;split at h
   case h_2=>cases h
   rename_i Y hY;exact AR E.T h hs (dG _ _ hX) (dG _ _ hY)
  .rename_i c;exact uA E dG (yQ rfl c rfl) h hs
  .split at h
   case h_2=>cases h
   rename_i M hM;split at h
   case h_2=>cases h
   rename_i X hX;split at h
   case h_2=>cases h
   rename_i Y hY;exact tg E.T h hs (dG _ _ hM) (dG _ _ hX) (dG _ _ hY)
  .cases h
 |some d=>
  unfold JR at h;simp only at h;split at h
  .split at h
   case h_2=>cases h
   rename_i D hD;exact⟨_,h,D7 hs (dG _ _ hD)⟩
  .split at h
   case h_2=>cases h
   rename_i D hD;exact⟨_,h,ye hs (dG _ _ hD)⟩
  .split at h
   case h_2=>cases h
   rename_i C hC;split at h
   case h_2=>cases h
   rename_i b hb;split at h
   case h_2=>cases h
   rename_i D hD;refine⟨_,h,Ew hs (lD hb (dG _ _ hC)) ?_⟩;split at hD
   .rename_i e;rw[acU e];exact dG _ _ hD
   .rename_i e;rw[acT e];exact dG _ _ hD
  .exact DX E.T h hs
  .split at h
   case h_2=>cases h
   rename_i X hX;exact Jr h hs (dG _ _ hX)
  .exact D1 E.T dG h hs
  .exact AS E.deep E.T dG h hs
  .split at h
   case h_2=>cases h
   rename_i X hX;exact Ei E.T h hs (dG _ _ hX)
  .split at h
   .rename_i o p off hX;obtain⟨b,h1,h2⟩:=dG _ _ hX;exact⟨_,h,bm hs (v:= .pointer (some ⟨b,off,acP⟩)) (by simp[execOp,h2]) ⟨b,h1,rfl⟩⟩
   .rename_i o s r i z p off hX;have hd:=dG _ _ hX;obtain⟨g,o0,q,T,m,cap,l,_,_,_,_,h2⟩:=id hd;exact⟨_,h,bm hs (v:= .pointer (some ⟨g,o0+q*r.size+off,acP⟩)) (by simp[execOp,h2]) (by rw[<-h2];exact hd)⟩
   .rename_i o d i p off hX;have hd:=dG _ _ hX;obtain⟨g,o0,q,m,cap,_,_,h2⟩:=id hd;exact⟨_,h,bm hs (v:= .pointer (some ⟨g,o0+q*d.low.size+off,acP⟩)) (by simp[execOp,h2]) (by rw[<-h2];exact hd)⟩
   .rename_i r z hX;have hd:=dG _ _ hX;obtain⟨b,off,h2,_⟩:=id hd;exact⟨_,h,bm hs (v:= .pointer (some ⟨b,off,acP⟩)) (by simp[execOp,h2]) (by rw[<-h2];exact hd)⟩
   .cases h
  .split at h
   case h_2=>cases h
   rename_i X hX;split at h
   case h_2=>cases h
   rename_i Y hY;exact Ju E.T h hs (dG _ _ hX) (dG _ _ hY)
  .split at h
   case h_2=>cases h
   rename_i X hX;split at h
   case h_2=>cases h
   rename_i D hD;exact⟨_,h,LJ hD hs (dG _ _ hX)⟩
  .split at h
   case h_2=>cases h
   rename_i X hX;split at h
   case h_2=>cases h
   rename_i D hD;exact⟨_,h,GG E.T hD hs (dG _ _ hX)⟩
  .split at h
   case h_2=>cases h
   rename_i A hA;split at h
   case h_2=>cases h
   rename_i i hi;split at h
   case h_2=>cases h
   rename_i B hB;split at h
   case h_2=>cases h
   rename_i j hj;exact Eh E.deep E.T h hs (fG hi (dG _ _ hA)) (fG hj (dG _ _ hB))
  .split at h
   case h_2=>cases h
   rename_i X hX;exact D5 E.drop E.T dG h hs (dG _ _ hX)
  .split at h
   case h_2=>cases h
   rename_i X hX;split at h
   case h_2=>cases h
   rename_i D hD;exact⟨_,h,DS E.T hD hs (dG _ _ hX)⟩
  .split at h
   case h_2=>cases h
   rename_i X hX;split at h
   case h_2=>cases h
   rename_i D hD;exact⟨_,h,AG E.T hD hs (dG _ _ hX)⟩
  .split at h
   case h_2=>cases h
   rename_i X hX;split at h
   case h_2=>cases h
   rename_i Y hY;split at h
   case h_2=>cases h
   rename_i i hi;exact DT E.T h hs (dG _ _ hX) (fG hi (dG _ _ hY))
  .split at h
   case h_2=>cases h
   rename_i X hX;split at h
   case h_2=>cases h
   rename_i Y hY;split at h
   case h_2=>cases h
   rename_i k' i hi;exact AK E.T h hs (dG _ _ hX) (fG hi (dG _ _ hY))
  .split at h
   case h_2=>cases h
   rename_i X hX;split at h
   case h_2=>cases h
   rename_i D hD;exact⟨_,h,yd hD hs (dG _ _ hX)⟩
  .exact Ha E dG h hs
  .exact wN dG h hs
  .exact wH E.deep E.T h hs
  .split at h
   case h_2=>cases h
   rename_i M hM;split at h
   case h_2=>cases h
   rename_i X hX;exact yt E.T h hs (dG _ _ hM) (dG _ _ hX)
  .split at h
   case h_2=>cases h
   rename_i X hX;exact Ek E.T h hs (dG _ _ hX)
  .split at h
   case h_2=>cases h
   rename_i X hX;split at h
   case h_2=>cases h
   rename_i D hD;exact⟨_,h,El hD hs (dG _ _ hX)⟩
  .split at h
   case h_2=>cases h
   rename_i X hX;exact JQ E.T h hs (dG _ _ hX)
  .split at h
   case h_2=>cases h
   rename_i X hX;exact Ba E.T h hs (dG _ _ hX)
  .cases h
end
def oZ(rd:Operand->Option aj)(x:Operand):List Nat:=
 match rd x with
 |some (.val _ t)=>t.owns
 |_=>[]
def wO(rd:Operand->Option aj)(x:Operand):List Nat:=
 match rd x with
 |some (.val _ (.view o _ _ _))=>[o]
 |_=>[]
def CI(rd:Operand->Option aj):List Operand->List Nat
 |[]=>[]
 |x::xs=>oZ rd x++CI rd xs
def qR:Operand->Bool
 | .const (.slice acP 0 0)=>acQ
 |_=>acR
def JT(rd:Operand->Option aj):Op->List Nat
 | .store _ x y=>match rd x with
   |some (.elem ..)=>oZ rd y
   |_=>[]
 | .buildSlice _ _ ps=>CI rd (ps.toList.map (·.2))
 | .binOp .eql _ x y _=>bif qR y then[]else oZ rd x++oZ rd y
 | .binOp .neq _ x y _=>bif qR y then[]else oZ rd x++oZ rd y
 | .slice _ x _ _ _=>wO rd x
 | .indexAddr _ x _=>wO rd x
 | .call c=>match c.callee,c.args.toList with
   | .builtin .append,[_,y]=>wO rd y
   |_,_=>[]
 | .mapUpdate _ _ _ y=>oZ rd y
 |_=>[]
def yR(nt:Nat):Option Nat->Bool
 |some d=>abI d nt
 |none=>acQ
def Vv(dst:Option Nat)(op:Op):Bool:=
 match dst with
 |some _=>acQ
 |none=>match op with
  | .call c=>Hb c.callee
  |_=>acQ
open Classical in
noncomputable def yS{α:Type}(a b:Option α):Option α:=if a=b then a else acP
theorem Hd{α:Type}{a b:Option α}{q:α}(h:yS a b=some q):a=some q:=by
 unfold yS at h;split at h
 .exact h
 .cases h
theorem L2{α:Type}{a b:Option α}{q:α}(h:yS a b=some q):b=some q:=by
 have ha:=Hd h;unfold yS at h;split at h
 .rename_i e;rw[<-e];exact ha
 .cases h
def He{P:Program}(T:aM P)(rd:Operand->Option aj)(ob:Nat->Option (Nat×Th)):Op->Option (Bool×Nat)
 | .binOp o t x y _=>match o with
   | .eql=>bif qR y then(match find T.und t with
     |some (.slice _)=>match rd x with
      |some X=>match rQ ob X with
       |some (.read _ l)=>some (acR,l.length)
       |some (.own _ _ _ _ l)=>some (acR,l.length)
       |_=>acP
      |none=>acP
     |_=>acP)else acP
   | .neq=>bif qR y then(match find T.und t with
     |some (.slice _)=>match rd x with
      |some X=>match rQ ob X with
       |some (.read _ l)=>some (acQ,l.length)
       |some (.own _ _ _ _ l)=>some (acQ,l.length)
       |_=>acP
      |none=>acP
     |_=>acP)else acP
   |_=>acP
 |_=>acP
def o3{P:Program}(E:Env P)(rd:Operand->Option aj)(objs:List (Nat×(Nat×Th)))(op:Op):List Nat:=
 match E.deep,op with
 |true, .buildSlice .. =>[]
 |_,_=>JT rd op
noncomputable def tx(st:State)(o:Nat):State:=
 match K3 (find st.objs) st.nxt o with
 |some e=>st.apply acP e
 |none=>st
noncomputable def rz(st:State):List Nat->State
 |[]=>st
 |o::os=>rz (tx st o) os
def K7:List (Nat×(Nat×Th))->Bool
 |[]=>acR
 |(_,(_, .deep _ _ _ (some _)))::_=>acQ
 |_::l=>K7 l
noncomputable def mL(st:State):State:=
 match K7 st.objs with
 |true=>rz (rz st (st.objs.map (·.1))) (st.objs.map (·.1))
 |false=>st
def OA:Op->Bool
 | .call c=>Oz c.callee
 |_=>acR
def Bd(o:Nat):List (Nat×(Nat×Th))->Bool
 |[]=>acR
 |(_,(_, .deep _ _ _ (some h)))::l=>aaY h.o o||Bd o l
 |_::l=>Bd o l
def JU(st:State)(x:Operand):Bool:=
 match DO st.ak x with
 |some (.val _ (.own o))=>Bd o st.objs
 |_=>acR
def Hf(st:State):Op->Bool
 | .call c=>c.args.toList.any (JU st)
 |_=>acR
def Hg:Op->Option Operand
 | .next x acR=>some x
 |_=>acP
noncomputable def CJ{R:Type}{P:Program}(E:Env P)(dst:Option Nat)(op:Op)(st:State)(k:State->Option R):Option R:=
 match dZ st.objs (o3 E (DO st.ak) st.objs op)with
 |some aG=>match He E.T (DO st.ak) (find aG) op with
  |some (b,m)=>match dst with
   |some d=>if aaY m 0=acQ then yS (k (State.apply {st with objs:=aG} (some d) {dst:=cZ acQ})) (k (State.apply {st with objs:=aG} (some d) {dst:=cZ acR}))
     else k (State.apply {st with objs:=aG} (some d) {dst:=cZ b})
   |none=>acP
  |none=>match Hg op with
   |some x=>match dst with
    |some d=>match DO st.ak x with
     |some X=>GP aG st.nxt X (λe=>k (State.apply {st with objs:=aG} (some d) e))
     |none=>acP
    |none=>acP
   |none=>bif Vv dst op then JR E (DO st.ak) aG st.nxt dst op (λe=>k (State.apply {st with objs:=aG} dst e))else acP
 |none=>acP
noncomputable def tA{R:Type}{P:Program}(E:Env P)(dst:Option Nat)(op:Op)(st:State)(k:State->Option R):Option R:=
 match E.deep&&OA op&& !Hf st op with
 |true=>CJ E dst op (mL st) k
 |false=>CJ E dst op st k
def CK(all:Array Oper)(j:Nat):Option Nat:=(all[j]?).bind (·.dst)
def State.put(st:State)(dst:Option Nat)(d:aj):State:=
 match dst with
 |some t=>{st with ak:=(t,d)::st.ak}
 |none=>st
def tB(dst:Option Nat)(kn:List (Nat×Bool)):List (Nat×Bool):=
 match dst with
 |some d=>del [d] kn
 |none=>kn
noncomputable def runs{R:Type}{P:Program}(E:Env P)(nt:Nat)(all:Array Oper):List Oper->List (Nat×Bool)->State->(State->Option R)->Option R
 |[],_,st,k=>k st
 |o::os,kn,st,k=>bif yR nt o.dst then(match o.guard with
  |none=>tA E o.dst o.op st (λcG=>runs E nt all os (tB o.dst kn) cG k)
  |some (j,b)=>match CK all j with
   |none=>acP
   |some g=>bif abI g nt then(match find kn g with
    |some v=>bif (bif v then b else !b)then tA E o.dst o.op st (λcG=>runs E nt all os (tB o.dst kn) cG k)else runs E nt all os (tB o.dst kn) (st.put o.dst .undef) k
    |none=>match find st.ak g with
     |some .undef=>runs E nt all os (tB o.dst kn) (st.put o.dst .undef) k
     |some d=>match asBool d with
      |some t=>if t=acQ then
        (bif b then tA E o.dst o.op (st.put (some g) (cZ acQ)) (λcG=>runs E nt all os (tB o.dst ((g,acQ)::kn)) cG k)
          else runs E nt all os (tB o.dst ((g,acQ)::kn)) ((st.put (some g) (cZ acQ)).put o.dst .undef) k)
       else
        (bif b then runs E nt all os (tB o.dst ((g,acR)::kn)) ((st.put (some g) (cZ acR)).put o.dst .undef) k
          else tA E o.dst o.op (st.put (some g) (cZ acR)) (λcG=>runs E nt all os (tB o.dst ((g,acR)::kn)) cG k))
      |none=>acP
     |none=>acP)else acP)else acP
section
variable {P:Program} {nt:Nat} {ops:Array Oper} {K:(Nat->Value)->World->Prop} {rest:List Oper} {R:Type}
variable {ρ:Nat->Value} {w w0:World} {H:an} {F F0 G:Nat->Prop}
abbrev UU(G:Nat->Prop)(w0:World):Nat->Prop:=λk=>w0.heap.size<=k\/G k
theorem GV.jr{H':an}{F':Nat->Prop}{w':World}{g:Nat->Prop}(hg:GV G w0 F0 w F)(he:IZ H F w H' F' w' g)(hu:∀k,g k->UU G w0 k):GV G w0 F0 w' F':=by
 have jc:=hg.ext.size;refine⟨⟨he.ext.os.trans hg.ext.os,⟨he.ext.tape.1.trans hg.ext.tape.1,abi hg.ext.tape.2 he.ext.tape.2⟩,he.ext.output.trans hg.ext.output,abi jc he.ext.size,λk hk hn=>?_⟩,λb hb=>he.le b (hg.le b hb),λb hb=>?_⟩
 .rw[he.ext.block k (by omega) λh=>?_]
  .exact hg.ext.block k hk hn
  .rcases hu k h with h1|h1
   .omega
   .exact hn h1
 .rcases he.grow b hb with h1|h1|h1
  .exact hg.new b h1
  .exact .inr (.inl (abi jc h1))
  .exact .inr (hu b h1)
structure cg(G:Nat->Prop)(w0:World)(F0:Nat->Prop)(H:an)(F:Nat->Prop)(w:World)(ρ:Nat->Value)(st:State):Prop where
 sat:Sat (UU G w0) H F w ρ st
 glob:GV G w0 F0 w F
theorem bQ.vA{H':an}{F':Nat->Prop}{w':World}{g:Nat->Prop}(he:IZ H F w H' F' w' g)(hF:∀b,F b->b<w.heap.size)(hg:∀k,g k->¬F k):bQ H F w H' F' w':=⟨he.eR,he.step hF hg⟩
theorem cg.qk{st:State}{os:List Nat}{aG:List (Nat×(Nat×Th))}(h:cg G w0 F0 H F w ρ st)(hf:dZ st.objs os=some aG):
 ∃F',cg G w0 F0 H F' w ρ {st with objs:=aG}/\bQ H F w H F' w:=by
 obtain⟨F',a1,a2,a3⟩:=lO hf h.sat.ob
 have dW:Step F w F' w:=λb hb=>⟨a2 b hb,rfl⟩
 refine⟨F',⟨⟨λt d hd=>(h.sat.slot t d hd).keep (an.le.refl H) dW,a1,h.sat.all⟩,⟨h.glob.ext,λb hb=>a2 b (h.glob.le b hb),λb hb=>?_⟩⟩,⟨an.le.refl H,dW⟩⟩
 rcases a3 b hb with h1|h1
 .exact h.glob.new b h1
 .exact .inr (h.sat.ob.eo b h1)
theorem Be{P:Program}{ρ:Nat->Value}{w:World}{o:BinOp}(uB:o= .eql\/o= .neq){t u e:TypeId}{x y:Operand}{d:Nat}{ty:TypeId}{pos:String}{aft:Array Edge}(hu:P.underlying t=some (.slice e)){A:Option Addr}{m c:Nat}(hx:ev ρ x= .slice A m c)(hy:ev ρ y= .slice acP 0 0):
 (execOp (ev ρ) ⟨some d, .binOp o t x y u,ty,pos,aft,acP⟩).run P w= .ok (.value (.bool (bif decide (o= .eql)then A.isNone else !A.isNone))) w:=by
 have hm:Op.maxDepth=9999+1:=rfl
 have he:(Op.equal t (.slice A m c) (.slice acP 0 0)).run P w= .ok A.isNone w:=by
  unfold Op.equal;rw[hm];unfold Op.equalIn;rw[abp,run_underlying hu]
  cases A<;>rfl
 rcases uB with rfl|rfl
 .simp[execOp,eqGuard,binOp,hx,hy,he]
 .simp[execOp,eqGuard,binOp,hx,hy,he]
theorem Hh{P:Program}(T:aM P){U:Nat->Prop}{H:an}{F:Nat->Prop}{w:World}{ρ:Nat->Value}{n:Nat}{ob:Nat->Option (Nat×Th)}{rd:Operand->Option aj}(dG:∀x d,rd x=some d->ah H F w d (ev ρ x))(hs:aq U H F w ob n){op:Op}{b:Bool}{m:Nat}(h:He T rd ob op=some (b,m)){d:Nat}{ty:TypeId}{pos:String}{aft:Array Edge}:
 ∃r:Bool,(m≠0->r=b)/\(execOp (ev ρ) ⟨some d,op,ty,pos,aft,acP⟩).run P w= .ok (.value (.bool r)) w:=by
 have Xs:∀{y:Operand},qR y=acQ->ev ρ y= .slice acP 0 0:=by
  intro y hy;unfold qR at hy;split at hy
  .rfl
  .cases hy
 have key:∀{k:Gw}{v:Value},Jp U H F w ob v k->∀m,(match k with| .read _ l=>l.length=m| .own _ _ _ _ l=>l.length=m|_=>False)->∃A n c,v= .slice A n c/\(m≠0->A.isNone=acR):=by
  intro k v hk m hm
  cases k with
  |read r l=>
   obtain⟨A,cap,hv,_,_,h3⟩:=hk;simp only[ab9,and_true]at hv;refine⟨A,_,cap,hv,λh0=>?_⟩;obtain⟨b,off,es,rfl,_⟩:=h3 0 (by dsimp only at hm;omega);rfl
  |own o s T r l=>
   obtain⟨xs,hx,_⟩:=hk.2.2.2
   rcases hx.2 with⟨rfl,h0⟩|⟨g,o0,cap,cur,rfl,_⟩
   .exact⟨acP,0,0,rfl,λh=>absurd (hm.symm.trans h0) h⟩
   .exact⟨_,_,_,rfl,λ_=>rfl⟩
  |nil=>exact hm.elim
  |view o s r m=>exact hm.elim
  |deep=>exact hm.elim
 unfold He at h;split at h
 case h_2=>cases h
 rename_i o t x y u;split at h
 case h_3=>cases h
 all_goals
  obtain⟨hy,h⟩:=aB h;split at h
  case h_2=>cases h
  rename_i e hu;have hu:=T.und_ok _ _ hu;split at h
  case h_2=>cases h
  rename_i X hX;split at h
  case h_3=>cases h
  all_goals
   rename_i fq;obtain⟨rfl,rfl⟩:=acq (aaT h);obtain⟨A,n',c,hv,hA⟩:=key (fU hs fq (dG _ _ hX)) _ rfl;refine⟨_,λh0=>?_,Be (by first|exact .inl rfl|exact .inr rfl) hu hv (Xs hy)⟩;rw[hA h0];rfl
theorem cg.tx{st:State}(h:cg G w0 F0 H F w ρ st)(o:Nat):∃H' F',cg G w0 F0 H' F' w ρ (tx st o)/\bQ H F w H' F' w:=by
 unfold Go.Proofs.YtbladfbbhijpmaaGreat.tx;split
 .rename_i e he;obtain⟨H',F',hp⟩:=AW h.sat.ob he;have hs:=h.sat.apply (d:=acP) hp;exact⟨H',F',⟨hs,h.glob.jr hp.jr h.sat.ob.eo⟩,bQ.vA hp.jr h.sat.ob.lt h.sat.ob.dC⟩
 .exact⟨H,F,h,bQ.refl H F w⟩
theorem cg.rz:{os:List Nat}->{st:State}->{H:an}->{F:Nat->Prop}->cg G w0 F0 H F w ρ st->∃H' F',cg G w0 F0 H' F' w ρ (rz st os)/\bQ H F w H' F' w
 |[],_,H,F,h=>⟨H,F,h,bQ.refl H F w⟩
 |o::os,st,H,F,h=>by
  obtain⟨H1,F1,h1,k1⟩:=h.tx o;obtain⟨H2,F2,h2,k2⟩:=cg.rz (os:=os) h1;exact⟨H2,F2,h2,k1.trans k2⟩
theorem cg.mL{st:State}(h:cg G w0 F0 H F w ρ st):∃H' F',cg G w0 F0 H' F' w ρ (mL st)/\bQ H F w H' F' w:=by
 unfold Go.Proofs.YtbladfbbhijpmaaGreat.mL;split
 case h_2=>exact⟨H,F,h,bQ.refl H F w⟩
 obtain⟨H1,F1,h1,k1⟩:=h.rz (os:=st.objs.map (·.1));obtain⟨H2,F2,h2,k2⟩:=h1.rz (os:=st.objs.map (·.1));exact⟨H2,F2,h2,k1.trans k2⟩
theorem yT{E:Env P}{dst:Option Nat}{op:Op}{ty:TypeId}{pos:String}{aft:Array Edge}{st:State}{k:State->Option R}{q:R}(h:CJ E dst op st k=some q)(hd:yR nt dst=acQ)(hh:cg G w0 F0 H F w ρ st)
 (hk:∀cG H' F' w' cq,k cG=some q->cg G w0 F0 H' F' w' cq cG->bQ H F w H' F' w'->(∀t,dst≠some t->cq t=ρ t)->wpS P nt ops K rest cq w'):wpS P nt ops K (⟨dst,op,ty,pos,aft,acP⟩::rest) ρ w:=by
 unfold CJ at h;split at h
 case h_2=>cases h
 rename_i aG ux;obtain⟨F1,kV,RL⟩:=hh.qk ux;split at h
 .rename_i b m hn;split at h
  case h_2=>cases h
  rename_i d;obtain⟨r,hr,bq⟩:=Hh E.T (ρ:=ρ) (d:=d) (ty:=ty) (pos:=pos) (aft:=aft) (λx d hx=>ql kV.sat.ob.gl kV.sat.slot x d hx) kV.sat.ob hn
  have Xt:k (State.apply {st with objs:=aG} (some d) {dst:=cZ r})=some q:=by
   split at h
   .cases r with
    |true=>exact Hd h
    |false=>exact L2 h
   .rename_i h0;rw[hr λe=>h0 (by rw[e];rfl)];exact h
  have yU:bO P (UU G w0) H F1 w ρ (find aG) st.nxt ⟨some d,op,ty,pos,aft,acP⟩ {dst:=cZ r}:=bm kV.sat.ob bq (az.dY ..)
  refine sJ yU (λd' uR=>by rw[uR]at hd;exact hd) λv w' ⟨H',F',hp⟩=>?_
  have hs:=kV.sat.apply (d:=some d) hp
  refine hk _ H' F' w' _ Xt ⟨hs,kV.glob.jr hp.jr kV.sat.ob.eo⟩ (RL.trans (bQ.vA hp.jr kV.sat.ob.lt kV.sat.ob.dC)) λt ht=>?_
  show Ae ρ d v t=ρ t
  rw[mh,acT (λe=>ht (by rw[e]))]
 split at h
 .rename_i x Qu;split at h
  case h_2=>cases h
  rename_i d;split at h
  case h_2=>cases h
  rename_i X hX
  have uB:op= .next x acR:=by
   unfold Hg at Qu;split at Qu
   .rw[aaT Qu]
   .cases Qu
  subst uB;obtain⟨e,he,yU⟩:=GQ (ρ:=ρ) (d:=d) (ty:=ty) (pos:=pos) (aft:=aft) (P:=P) (U:=UU G w0) h kV.sat.ob (ql kV.sat.ob.gl kV.sat.slot _ _ hX)
  refine sJ yU (λd' uR=>by rw[uR]at hd;exact hd) λv w' ⟨H',F',hp⟩=>?_
  have hs:=kV.sat.apply (d:=some d) hp
  refine hk _ H' F' w' _ he ⟨hs,kV.glob.jr hp.jr kV.sat.ob.eo⟩ (RL.trans (bQ.vA hp.jr kV.sat.ob.lt kV.sat.ob.dC)) λt ht=>?_
  show Ae ρ d v t=ρ t
  rw[mh,acT (λe=>ht (by rw[e]))]
 obtain⟨yQ,h'⟩:=aB h;clear h;obtain⟨e,he,yU⟩:=Hc (ρ:=ρ) (ty:=ty) (pos:=pos) (aft:=aft) E (λx d hx=>ql kV.sat.ob.gl kV.sat.slot x d hx) (λhn c hc=>by subst hn;subst hc;exact yQ) h' kV.sat.ob
 refine sJ yU (λd uR=>by rw[uR]at hd;exact hd) λv w' ⟨H',F',hp⟩=>?_
 have hs:=kV.sat.apply (d:=dst) hp
 refine hk _ H' F' w' _ he ⟨hs,kV.glob.jr hp.jr kV.sat.ob.eo⟩ (RL.trans (bQ.vA hp.jr kV.sat.ob.lt kV.sat.ob.dC)) λt ht=>?_
 cases dst with
 |none=>rfl
 |some d=>
  show Ae ρ d v t=ρ t
  rw[mh,acT (λe=>ht (by rw[e]))]
theorem Hi{E:Env P}{dst:Option Nat}{op:Op}{ty:TypeId}{pos:String}{aft:Array Edge}{st:State}{k:State->Option R}{q:R}(h:tA E dst op st k=some q)(hd:yR nt dst=acQ)(hh:cg G w0 F0 H F w ρ st)
 (hk:∀cG H' F' w' cq,k cG=some q->cg G w0 F0 H' F' w' cq cG->bQ H F w H' F' w'->(∀t,dst≠some t->cq t=ρ t)->wpS P nt ops K rest cq w'):wpS P nt ops K (⟨dst,op,ty,pos,aft,acP⟩::rest) ρ w:=by
 unfold tA at h;split at h
 .obtain⟨H1,F1,h1,k1⟩:=hh.mL
  exact yT h hd h1 λcG H' F' w' cq a b c d=>hk cG H' F' w' cq a b (k1.trans c) d
 .exact yT h hd hh hk
theorem cg.put{st:State}{dst:Option Nat}{d:aj}{v:Value}(h:cg G w0 F0 H F w ρ st)(hd:ah H F w d v):cg G w0 F0 H F w (rO ρ dst v) (st.put dst d):=by
 refine⟨⟨λt q hq=>?_,?_,by cases dst<;>exact h.sat.all⟩,h.glob⟩
 .cases dst with
  |none=>exact h.sat.slot t q hq
  |some s=>
   have rk:find ((s,d)::st.ak) t=some q:=hq;rw[aA]at rk
   show ah H F w q (Ae ρ s v t)
   rw[mh];by_cases e:s=t
   .rw[acU e]at rk;rw[acU e.symm];obtain rfl:=aaT rk;exact hd
   .rw[acT e]at rk;rw[acT (Ne.symm e)];exact h.sat.slot t q rk
 .cases dst<;>exact h.sat.ob
theorem cg.lit{st:State}{g:Nat}{d:aj}(h:cg G w0 F0 H F w ρ st)(hd:ah H F w d (ρ g)):cg G w0 F0 H F w ρ (st.put (some g) d):=by
 refine⟨⟨λt q hq=>?_,h.sat.ob,h.sat.all⟩,h.glob⟩;have rk:find ((g,d)::st.ak) t=some q:=hq;rw[aA]at rk;split at rk
 .rename_i e;subst e;obtain rfl:=aaT rk;exact hd
 .exact h.sat.slot t q rk
def pS(ρ:Nat->Value)(kn:List (Nat×Bool)):Prop:=∀g b,find kn g=some b->ρ g= .bool b
theorem pS.del{cq:Nat->Value}{dst:Option Nat}{kn:List (Nat×Bool)}(h:pS ρ kn)(K8:∀t,dst≠some t->cq t=ρ t):pS cq (tB dst kn):=by
 intro g b hg
 cases dst with
 |none=>rw[K8 g (by simp)];exact h g b hg
 |some d=>
  obtain⟨h1,h2⟩:=fE.1 hg;rw[K8 g (λe=>h1 (by simp[aaT e]))];exact h g b h2
theorem pS.cons{kn:List (Nat×Bool)}{g:Nat}{b:Bool}(h:pS ρ kn)(hb:ρ g= .bool b):pS ρ ((g,b)::kn):=by
 intro g' b' hg;rw[aA]at hg;split at hg
 .rename_i e;subst e;obtain rfl:=aaT hg;exact hb
 .exact h g' b' hg
theorem oe{dst:Option Nat}{v:Value}{t:Nat}(h:dst≠some t):rO ρ dst v t=ρ t:=by
 cases dst with
 |none=>rfl
 |some d=>
  show Ae ρ d v t=ρ t
  rw[mh,acT (λe=>h (by rw[e]))]
theorem wP{E:Env P}{q:R}:{l:List Oper}->{kn:List (Nat×Bool)}->{st:State}->{k:State->Option R}->{H:an}->{F:Nat->Prop}->{w:World}->{ρ:Nat->Value}->runs E nt ops l kn st k=some q->pS ρ kn->cg G w0 F0 H F w ρ st->
 (∀cG H' F' w' cq,k cG=some q->cg G w0 F0 H' F' w' cq cG->bQ H F w H' F' w'->(∀t,(∀o∈l,o.dst≠some t)->cq t=ρ t)->K cq w')->wpS P nt ops K l ρ w
 |[],kn,st,k,H,F,w,ρ,h,_,hh,hk=>Jf (hk st H F w ρ h hh (bQ.refl H F w) λ_ _=>rfl)
 |o::l,kn,st,k,H,F,w,ρ,h,JV,hh,hk=>by
  unfold runs at h;obtain⟨hd,h'⟩:=aB h;clear h
  have RM:∀d,o.dst=some d->abI d nt=acQ:=λd e=>by rw[e]at hd;exact hd
  have on:∀{st1:State}{L3:List (Nat×Bool)},tA E o.dst o.op st1 (λcG=>runs E nt ops l (tB o.dst L3) cG k)=some q->pS ρ L3->cg G w0 F0 H F w ρ st1->wpS P nt ops K (⟨o.dst,o.op,o.type,o.pos,o.after,acP⟩::l) ρ w:=by
   intro st1 L3 hs wQ kV
   refine Hi hs hd kV λcG H' F' w' cq e1 e2 e3 e4=>?_
   refine wP e1 (wQ.del e4) e2 λst2 H2 F2 w2 RN f1 f2 f3 f4=>?_
   exact hk st2 H2 F2 w2 RN f1 f2 (e3.trans f3) λt ht=>(f4 t λo' iY=>ht o' (by simp[iY])).trans (e4 t (ht o (by simp)))
  have off:∀{st1:State}{L3:List (Nat×Bool)},runs E nt ops l (tB o.dst L3) (st1.put o.dst .undef) k=some q->pS ρ L3->cg G w0 F0 H F w ρ st1->wpS P nt ops K l (rO ρ o.dst undef) w:=by
   intro st1 L3 hs wQ kV
   refine wP hs (wQ.del λt ht=>oe ht) (kV.put rfl) λst2 H2 F2 w2 RN f1 f2 f3 f4=>?_
   exact hk st2 H2 F2 w2 RN f1 f2 f3 λt ht=>(f4 t λo' iY=>ht o' (by simp[iY])).trans (oe (ht o (by simp)))
  obtain⟨dst,op,ty,pos,aft,guard⟩:=o;simp only at h' on off RM;split at h'
  .exact on h' JV hh
  .rename_i j b;split at h'
   case h_1=>cases h'
   rename_i g K9;obtain⟨La,h⟩:=aB h';clear h'
   have RO:ρ g= .bool b->wpS P nt ops K (⟨dst,op,ty,pos,aft,acP⟩::l) ρ w->wpS P nt ops K (⟨dst,op,ty,pos,aft,some (j,b)⟩::l) ρ w:=λhb hw=>Lx g K9 La hb hw
   have L4:∀b',ρ g= .bool b'->b'≠b->wpS P nt ops K l (rO ρ dst undef) w->wpS P nt ops K (⟨dst,op,ty,pos,aft,some (j,b)⟩::l) ρ w:=λb' hb cA hw=>by
    cases dst with
    |none=>exact v8 g K9 La hb cA hw
    |some d=>exact Jg g K9 La hb cA (RM d rfl) hw
   split at h
   .rename_i v hv;have Vw:=JV g v hv
    cases Oi:(bif v then b else !b)with
    |true=>
     rw[Oi,cond_true]at h
     have:v=b:=by cases v<;>cases b<;>simp_all
     subst this;exact RO Vw (on h JV hh)
    |false=>
     rw[Oi,cond_false]at h
     have:v≠b:=by intro e;subst e;cases v<;>simp_all
     exact L4 v Vw this (off h JV hh)
   .split at h
    .rename_i hu;have Vx:ρ g=undef:=hh.sat.slot _ _ hu
     cases dst with
     |none=>exact uo g K9 La Vx (off h JV hh)
     |some d=>exact FM g K9 La Vx (RM d rfl) (off h JV hh)
    .rename_i d uR;split at h
     case h_2=>cases h
     rename_i t ht;have hgt:=lD ht (hh.sat.slot _ _ uR);split at h
     .rename_i JW;subst JW;have kV:cg G w0 F0 H F w ρ (st.put (some g) (cZ acQ)):=hh.lit (by rw[hgt];exact az.dY ..);have wQ:=JV.cons hgt
      cases b with
      |true=>rw[cond_true]at h;exact RO hgt (on h wQ kV)
      |false=>rw[cond_false]at h;exact L4 acQ hgt (by simp) (off h wQ kV)
     .rename_i JW
      have JW:t=acR:=by cases t<;>simp_all
      subst JW;have kV:cg G w0 F0 H F w ρ (st.put (some g) (cZ acR)):=hh.lit (by rw[hgt];exact az.dY ..);have wQ:=JV.cons hgt
      cases b with
      |true=>rw[cond_true]at h;exact L4 acR hgt (by simp) (off h wQ kV)
      |false=>rw[cond_false]at h;exact RO hgt (on h wQ kV)
    .cases h
end
end
end Go.Proofs.YtbladfbbhijpmaaGreat
section
open _root_.Bool renaming false->acR,true->acQ,cond_eq_ite->abk
open _root_.Option renaming none->acP,bind_assoc->abH,isSome_iff_exists->abB,none_or->abT
open _root_.Array renaming getElem?_eq_getElem->abh,getElem?_eq_some_iff->abx
open _root_.List renaming length_append->aba,length_cons->aa6,length_nil->abS,mem_cons->aa7,mem_cons_of_mem->abz,mem_cons_self->abW,mem_singleton->aa5
open _root_.Nat renaming add_zero->ab3,beq->aaY,blt->abI,testBit_or->acr,zero_add->aby
open _root_.Option.some renaming inj->aaT
open _root_.Go.Region renaming binds->acx
namespace Go.Proofs.YtbladfbbhijpmaaGreat
open Go Go.RowKit
section
variable {P:Program} {R:Type} {ob:Nat->Option (Nat×Th)} {n:Nat} (k:c9->Option R)
theorem tC{rd:Operand->Option aj}{fn:Fn}{first caps:Array Operand}:kB rd fn first caps k=(kB rd fn first caps some).bind k:=by
 unfold kB
 repeat' first|rfl|split
theorem wR(T:aM P){m:Nat}{e:TypeId}{D:aj}{i:Int}:nP T m e D i k=(nP T m e D i some).bind k:=by
 unfold nP;simp only[abk]
 repeat' first|rfl|(rw[abH];rfl)|split
theorem wS(T:aM P){t:TypeId}{D:aj}{i:Int}:nV T ob t D i k=(nV T ob t D i some).bind k:=by
 unfold nV;simp only[abk]
 repeat' first|rfl|(rw[abH];rfl)|split
theorem yV(T:aM P){t:TypeId}{D:aj}{i:Int}:qm T ob t D i k=(qm T ob t D i some).bind k:=by
 unfold qm;simp only[abk]
 repeat' first|rfl|exact wR k T|(rw[abH];rfl)|split
theorem Bf(T:aM P){t:TypeId}{D:aj}:uZ T ob t D k=(uZ T ob t D some).bind k:=by
 unfold uZ;simp only[abk]
 repeat' first|rfl|split|(rw[abH];congr 1;funext x;repeat' first|rfl|split)
theorem yW(T:aM P){t:TypeId}{D V:aj}:qp T ob n t D V k=(qp T ob n t D V some).bind k:=by
 unfold qp;simp only[abk]
 repeat' first|rfl|split|(rw[abH];rfl)|(rw[abH];congr 1;funext x;repeat' first|rfl|split)
theorem yX(T:aM P){t:TypeId}{D:aj}:oV T ob n t D k=(oV T ob n t D some).bind k:=by
 unfold oV;simp only[abk]
 repeat' first|rfl|split|(rw[abH];rfl)
theorem yY(T:aM P){t:TypeId}{D:aj}:nc T ob n t D k=(nc T ob n t D some).bind k:=by
 unfold nc;split
 .exact yX k T
 .exact Bf k T
theorem wT(T:aM P){t:TypeId}{D V:aj}:nX T ob n t D V k=(nX T ob n t D V some).bind k:=by
 unfold nX;simp only[abk]
 repeat' first|rfl|split|(rw[abH];rfl)
theorem wU(T:aM P){t:TypeId}{D V:aj}:n4 T ob n t D V k=(n4 T ob n t D V some).bind k:=by
 unfold n4;split
 .exact wT k T
 .exact yW k T
theorem uC{e:TypeId}{dr:DR}{ds:List aj}:na e dr ob n ds k=(na e dr ob n ds some).bind k:=by
 unfold na;simp only[abk]
 repeat' first|rfl|split
theorem yZ(T:aM P){t:TypeId}:qs T n t k=(qs T n t some).bind k:=by
 unfold qs
 repeat' first|rfl|split
theorem Ey{t:TypeId}{V:aj}:DY n t V k=(DY n t V some).bind k:=by
 unfold DY
 repeat' first|rfl|split
theorem tD(T:aM P){t:TypeId}{s:Bool}{a b:Int}:sO T n t s a b k=(sO T n t s a b some).bind k:=by
 unfold sO
 repeat' first|rfl|split|(rw[abH];rfl)
theorem za(T:aM P){b:Bool}{t:TypeId}{s:Bool}{x y:Int}:td b T n t s x y k=(td b T n t s x y some).bind k:=by
 unfold td;split
 .unfold wE
  repeat' first|rfl|exact tD k T|split|(rw[abH];rfl)
 .exact tD k T
theorem wV(T:aM P){t:TypeId}{X Y:aj}:nS T ob n t X Y k=(nS T ob n t X Y some).bind k:=by
 unfold nS;simp only[abk]
 repeat' first|rfl|split|(rw[abH];rfl)
theorem qS(T:aM P){rd:Operand->Option aj}{t:TypeId}{m:Nat}{ps:Array (Nat×Operand)}:ic T rd ob n t m ps k=(ic T rd ob n t m ps some).bind k:=by
 unfold ic;simp only[abk]
 repeat' first|rfl|split
theorem wW{b:Bool}(T:aM P){rd:Operand->Option aj}{t:TypeId}{m:Nat}{ps:Array (Nat×Operand)}:sj b T rd ob n t m ps k=(sj b T rd ob n t m ps some).bind k:=by
 cases b with
 |false=>exact qS k T
 |true=>
  show nZ T rd ob n t m ps k=(nZ T rd ob n t m ps some).bind k
  unfold nZ;simp only[abk]
  repeat' first|rfl|exact uC k|split
theorem zb(T:aM P){rd:Operand->Option aj}{t:TypeId}{ps:Array (Nat×Operand)}:qv T rd t ps k=(qv T rd t ps some).bind k:=by
 unfold qv;simp only[abk]
 repeat' first|rfl|split
theorem zc(dr:Bool)(T:aM P){rd:Operand->Option aj}{t:TypeId}{D:aj}{lo hi:Option Operand}:qw dr T rd ob n t D lo hi k=(qw dr T rd ob n t D lo hi some).bind k:=by
 unfold qw;simp only[abk]
 repeat' first|rfl|split|(rw[abH];rfl)
theorem Ez(T:aM P){o:BinOp}{t:TypeId}{lit:Bool}{X Y:aj}:D6 T ob o t lit X Y k=(D6 T ob o t lit X Y some).bind k:=by
 unfold D6;simp only[abk]
 repeat' first|rfl|split|(rw[abH];rfl)
theorem rS(T:aM P){t:TypeId}{M X Y:aj}:je T ob n t M X Y k=(je T ob n t M X Y some).bind k:=by
 unfold je;simp only[abk]
 repeat' first|rfl|split
theorem uD(T:aM P){t:TypeId}:lI T n t k=(lI T n t some).bind k:=by
 unfold lI
 repeat' first|rfl|split
theorem wX(T:aM P){t:TypeId}{ok:Bool}{M X:aj}:nU T ob t ok M X k=(nU T ob t ok M X some).bind k:=by
 unfold nU;simp only[abk]
 repeat' first|rfl|split
theorem uE(T:aM P){t:TypeId}{X Y:aj}:lN T ob n t X Y k=(lN T ob n t X Y some).bind k:=by
 unfold lN
 cases GU ob Y with
 |false=>exact wV k T
 |true=>
  simp only[cond_true];unfold pL;simp only[abk]
  repeat' first|rfl|split|(rw[abH];rfl)
theorem qT(T:aM P){t:TypeId}{M X Y:aj}:ie T ob n t M X Y k=(ie T ob n t M X Y some).bind k:=by
 unfold ie;simp only[abk]
 repeat' first|rfl|exact rS k _|split
theorem tE(b:Bool)(T:aM P){t:TypeId}:kA b T n t k=(kA b T n t some).bind k:=by
 unfold kA;simp only[abk]
 repeat' first|rfl|exact uD k _|split
theorem uF(T:aM P){t:TypeId}{ok:Bool}{M X:aj}:lM T ob n t ok M X k=(lM T ob n t ok M X some).bind k:=by
 unfold lM;simp only[abk]
 repeat' first|rfl|exact wX k _|split
theorem zd{sg:ng}{bs:Bs}{aG:List (Nat×(Nat×Th))}{nd:List Nat}{y:cE sg.out.rows}:qQ sg n bs aG nd y k=(qQ sg n bs aG nd y some).bind k:=by
 unfold qQ;simp only[abk]
 repeat' first|rfl|split
theorem nk{objs:List (Nat×(Nat×Th))}{f:FuncId}{ds:List aj}:{tab:List (Nat×ng)}->ml objs n f ds k tab=(ml objs n f ds some tab).bind k
 |[]=>rfl
 |(g,sg)::tab=>by
  unfold ml;have ih:=nk (objs:=objs) (f:=f) (ds:=ds) (tab:=tab);simp only[abk]
  repeat' first|rfl|exact ih|split|(rw[abH];congr 1;funext y;exact zd k)
theorem Bg{tab:List (Nat×ng)}{rd:Operand->Option aj}{objs:List (Nat×(Nat×Th))}{g:Operand}{args:List Operand}:vv tab rd objs n g args k=(vv tab rd objs n g args some).bind k:=by
 unfold vv
 repeat' first|rfl|exact nk k|split
theorem wY(T:aM P){tab:List (Nat×ng)}{rd:Operand->Option aj}{objs:List (Nat×(Nat×Th))}{g:Operand}{name:String}{args:List Operand}:od T tab rd objs n g name args k=(od T tab rd objs n g name args some).bind k:=by
 unfold od
 repeat' first|rfl|exact nk k|split
theorem ze(T:aM P){t:TypeId}{M:aj}:qG T ob n t M k=(qG T ob n t M some).bind k:=by
 unfold qG
 repeat' first|rfl|split
theorem EA(T:aM P){t:TypeId}{D:aj}:Et T t D k=(Et T t D some).bind k:=by
 unfold Et;simp only[abk]
 repeat' first|rfl|split
theorem wZ(T:aM P){t:TypeId}{ok:Bool}{D:aj}:oa T t ok D k=(oa T t ok D some).bind k:=by
 unfold oa;simp only[abk]
 repeat' first|rfl|split
theorem w4(T:aM P){t:TypeId}{M X:aj}:nT T ob n t M X k=(nT T ob n t M X some).bind k:=by
 unfold nT;simp only[abk]
 repeat' first|rfl|split
theorem Bh(E:Env P){rd:Operand->Option aj}{objs:List (Nat×(Nat×Th))}{c:Callee}{args:Array Operand}{ry:Array TypeId}:lR E rd objs n c args ry k=(lR E rd objs n c args ry some).bind k:=by
 unfold lR;simp only[abk]
 repeat' first|rfl|exact uE k _|exact w4 k _|exact Bg k|exact wY k _|split
theorem Hj(E:Env P){rd:Operand->Option aj}{objs:List (Nat×(Nat×Th))}{dst:Option Nat}{op:Op}:JR E rd objs n dst op k=(JR E rd objs n dst op some).bind k:=by
 unfold JR
 repeat' first|rfl|exact wU k _|exact qT k _|exact tE k _ _|exact uF k _|exact ze k _|exact EA k _|exact wZ k _|exact Bh k _|exact yZ k _|exact Ey k|exact zb k _|exact wW k _|exact yY k _|exact Ez k _|exact za k _|exact zc k _ _|exact yV k _|exact wS k _|exact tC k|split
end
def gw{α:Type}(ns:List Nat):List (Nat×α)->List (Nat×α)
 |[]=>[]
 |(m,a)::l=>bif kJ m ns then(m,a)::gw ns l else gw ns l
theorem vB{α:Type}{ns:List Nat}{l:List (Nat×α)}{n:Nat}{a:α}:find (gw ns l) n=some a↔n∈ns/\find l n=some a:=by
 induction l with
 |nil=>simp[gw,find]
 |cons p l ih=>
  obtain⟨m,b⟩:=p;unfold gw
  cases hm:kJ m ns with
  |true=>
   have bP:=db.1 hm;rw[cond_true,aA,aA];by_cases h:m=n
   .subst h;simp[bP]
   .simp only[acT h];exact ih
  |false=>
   have bP:m∉ns:=λe=>by rw[db.2 e]at hm;cases hm
   rw[cond_false,ih,aA];constructor
   .rintro⟨h1,h2⟩
    have cA:m≠n:=λe=>bP (e▸h1)
    exact⟨h1,by rw[acT cA];exact h2⟩
   .rintro⟨h1,h2⟩
    have cA:m≠n:=λe=>bP (e▸h1)
    rw[acT cA]at h2;exact⟨h1,h2⟩
def tmpsOf:List Operand->List Nat
 |[]=>[]
 | .tmp t::l=>t::tmpsOf l
 |_::l=>tmpsOf l
def Lb:List (Bool×Tree)->List Nat
 |[]=>[]
 |p::l=>p.2.owns++Lb l
def OB:aj->List Nat
 | .val _ t=>t.owns
 | .ptr o _ _=>[o]
 | .elem o .. =>[o]
 | .dlm o .. =>[o]
 | .tup ds=>Lb ds
 | .fn _ caps=>caps.map (·.1)
 | .ifc _ d=>OB d
 |_=>[]
def Lc(ak:List (Nat×aj)):List Nat->List Nat
 |[]=>[]
 |t::l=>(match find ak t with
  |some d=>OB d
  |none=>[])++Lc ak l
def within(objs:List (Nat×(Nat×Th))):List Nat->List Nat
 |[]=>[]
 |o::l=>(match find objs o with
  |some (_, .box _ t)=>t.owns
  |_=>[])++within objs l
def JX(ak:List (Nat×aj))(objs:List (Nat×(Nat×Th)))(ts:List Nat):List Nat:=
 (λl=>l++within objs l) (Lc ak ts)
def vC(aG:List (Nat×(Nat×Th)))(nd:List Nat)(e:c9):c9:=
 {dst:=e.dst,eat:=nd++e.eat,make:=e.make++del e.eat (mK aG nd)}
section
variable {U:Nat->Prop} {H:an} {F:Nat->Prop} {w:World} {n:Nat}
theorem EB{obj aG:List (Nat×(Nat×Th))}{nd:List Nat}{e:c9}{v:Value}{w':World}{F1:Nat->Prop}(ux:dZ obj nd=some aG)(qC:aq U H F1 w (find aG) n)(Au:∀b,F b->F1 b)(I8:∀b,F1 b->F b\/bJ H (find obj) nd b)
 (h:kg H F1 w (find aG) n e v w'):kg H F w (find obj) n (vC aG nd e) v w':=by
 obtain⟨H',F',hp⟩:=h
 have e7:∀k,bJ H (find aG) e.eat k->bJ H (find obj) (nd++e.eat) k:=by
  rintro k ⟨o,ho,s,t,u,h1,h2,h3⟩
  rcases ig ux o s t h1 with h4|h4
  .exact⟨o,by simp[ho],s,t,u,h4,h2,h3⟩
  .exact(fh h4 h3).elim
 have part:∀o s t,find (e.make++del e.eat (mK aG nd)) o=some (s,t)->find e.make o=some (s,t)\/(o∉e.eat/\o∈nd/\find aG o=some (s,t)/\df t=acQ):=by
  intro o s t ho;rw[fD]at ho
  cases hm:find e.make o with
  |some x=>rw[hm]at ho;exact .inl ho
  |none=>
   rw[hm,abT]at ho;obtain⟨h1,h2⟩:=fE.1 ho;obtain⟨h3,h4,h5⟩:=kK h2;exact .inr ⟨h1,h3,h4,h5⟩
 refine⟨H',F',⟨hp.jr.eR,⟨hp.jr.ext.os,hp.jr.ext.tape,hp.jr.ext.output,hp.jr.ext.size,λk hk hn=>hp.jr.ext.block k hk λhh=>hn (e7 k hh)⟩,λb hb=>hp.jr.le b (Au b hb),λb hb=>?_,hp.jr.lt⟩,hp.fresh,hp.dst,⟨λo s t ho=>?_,λo o' s s' t t' v v' cA ho iY hv da k hk kh=>?_⟩,λo ho=>?_⟩
 .rcases hp.jr.grow b hb with h1|h1|h1
  .rcases I8 b h1 with h2|⟨o,ho,rest⟩
   .exact .inl h2
   .exact .inr (.inr ⟨o,by simp[vC,ho],rest⟩)
  .exact .inr (.inl h1)
  .exact .inr (.inr (e7 b h1))
 .rcases part o s t ho with h1|⟨h1,h2,h3,h4⟩
  .obtain⟨u,a1,a2,a3,a4,a5⟩:=hp.made.obj o s t h1;exact⟨u,a1,a2,a3,a4,λk hk=>⟨(a5 k hk).1,(a5 k hk).2.1,(a5 k hk).2.2.imp id (e7 k)⟩⟩
  .obtain⟨u,hu,bP⟩:=qC.obj _ _ _ h3;have:=bP.jr qC hp.jr h3 h1 hu;exact⟨u,hp.jr.eR.val _ _ hu,this.one,this.con,this.ok,λk hk=>(fh h4 hk).elim⟩
 .rcases part o s t ho with h1|⟨_,_,_,h4⟩
  .rcases part o' s' t' iY with h2|⟨_,_,_,RP⟩
   .exact hp.made.apart o o' s s' t t' v v' cA h1 h2 hv da k hk kh
   .exact fh RP kh
  .exact fh h4 hk
 .obtain⟨x,hx⟩:=abB.1 ho
  rcases part o x.1 x.2 hx with h1|⟨_,h2,_⟩
  .exact(hp.ids o (by rw[h1];rfl)).imp (λh=>by simp[vC,h]) id
  .exact .inl (by simp[vC,h2])
end
def fk(x y:Nat×Th):Prop:=x=y\/∃T d l h h',x.2= .deep T d l h/\y.2= .deep T d l h'
theorem fk.symm{x y:Nat×Th}(h:fk x y):fk y x:=by
 rcases h with rfl|⟨T,d,l,h,h',h1,h2⟩
 .exact .inl rfl
 .exact .inr ⟨T,d,l,h',h,h2,h1⟩
theorem fk.trans{x y z:Nat×Th}(h:fk x y)(h':fk y z):fk x z:=by
 rcases h with rfl|⟨T,d,l,a,b,h1,h2⟩
 .exact h'
 .rcases h' with rfl|⟨T',d',l',a',b',h3,h4⟩
  .exact .inr ⟨T,d,l,a,b,h1,h2⟩
  .rw[h2]at h3;cases h3;exact .inr ⟨T,d,l,a,b',h1,h4⟩
structure jg where
 dst:Option Nat
 ts:List Nat
 os:List Nat
 e:c9
 ls:List Nat:=[]
 soft:List Nat:=[]
def oE:List (Nat×(Nat×Th))->List Nat
 |[]=>[]
 |(o,_)::l=>o::oE l
def jg.mut(x:jg):List Nat:=x.e.eat++oE x.e.make
def w5:Op->Bool
 | .call c=>match c.callee with
   | .builtin .len=>acQ
   |_=>acR
 |_=>acR
def Ld(rd:Operand->Option aj):Op->List Nat
 | .load _ x=>match rd x with
   |some (.dlm o _ _ _ _)=>[o]
   |_=>[]
 |_=>[]
def fa(st:State)(op:Op):List Nat:=
 match op with
 | .move _=>[]
 | .assign _=>[]
 |_=>JX st.ak st.objs (tmpsOf op.operands.toList)
noncomputable def vD{R:Type}{P:Program}(E:Env P)(dst:Option Nat)(op:Op)(gs:List Nat)(st:State)(k:c9->jg->Option R):Option R:=
 match dZ (gw (fa st op) st.objs) (o3 E (DO (gw (tmpsOf op.operands.toList) st.ak)) (gw (fa st op) st.objs) op)with
 |some aG=>bif Vv dst op then JR E (DO (gw (tmpsOf op.operands.toList) st.ak)) aG st.nxt dst op (λe=>
   (λe'=>k e' {dst:=dst,ts:=tmpsOf op.operands.toList++gs,os:=bif w5 op then[]else fa st op,e:=e',ls:=bif w5 op then fa st op else[],soft:=Ld (DO (gw (tmpsOf op.operands.toList) st.ak)) op}) (vC aG (o3 E (DO (gw (tmpsOf op.operands.toList) st.ak)) (gw (fa st op) st.objs) op) e))else acP
 |none=>acP
structure Le(P:Program)(U:Nat->Prop)(o:Oper)(sl:Nat->Option aj)(ob:Nat->Option (Nat×Th))(n:Nat)(CL:jg):Prop where
 dst:CL.dst=o.dst
 run:∃(RQ:Nat->Option aj)(I0:Nat->Option (Nat×Th)),(∀t d,RQ t=some d->t∈CL.ts/\sl t=some d)/\(∀q x,I0 q=some x->(q∈CL.os\/q∈CL.ls)/\ob q=some x)/\
  ∀(H:an)(F:Nat->Prop)(w:World)(ρ:Nat->Value)(EC:Nat->Option (Nat×Th)),(∀q x,I0 q=some x->∃x',EC q=some x'/\fk x x'/\(q∈CL.os->x'=x))->(∀t d,RQ t=some d->ah H F w d (ρ t))->aq U H F w EC n->
   ∃RS:Nat->Option (Nat×Th),(∀q x,RS q=some x->EC q=some x)/\bH P ρ ⟨o.dst,o.op,o.type,o.pos,o.after,acP⟩ w (kg H F w RS n CL.e)
 soft:∀q∈CL.soft,q∈CL.mut->∃x y,ob q=some x/\find CL.e.make q=some y/\fk x y
theorem ED{ob Gq:Nat->Option (Nat×Th)}{D:aj}{k:Gw}(L5:∀q x,ob q=some x->∃x',Gq q=some x'/\fk x x')(h:rQ ob D=some k):∃k',rQ Gq D=some k'/\pD k'=pD k:=by
 unfold rQ at h;split at h
 .cases h;exact⟨_,rfl,rfl⟩
 .cases h;exact⟨_,rfl,rfl⟩
 .rename_i o
  cases ho:ob o with
  |none=>rw[ho]at h;cases h
  |some x=>
   obtain⟨s,t⟩:=x;obtain⟨⟨s',t'⟩,h1,h2⟩:=L5 o _ ho;rw[ho]at h
   rcases h2 with e|⟨T,d,l,a,b,e1,e2⟩
   .cases e;exact⟨k,by show(match Gq o with|some (s, .own T r l)=>_|some (_, .qk _ r l)=>_|some (_, .fdeep _ d l)=>_|some (s, .deep T d l h)=>_|_=>_)=_;rw[h1];exact h,rfl⟩
   .simp only at e1 e2;subst e1 e2;cases h;exact⟨.deep o s' T d l b,by show(match Gq o with|some (s, .own T r l)=>_|some (_, .qk _ r l)=>_|some (_, .fdeep _ d l)=>_|some (s, .deep T d l h)=>_|_=>_)=_;rw[h1],rfl⟩
 .rename_i o s r m
  have hk:pD k=(m.length:Int):=by
   split at h
   .rename_i s' _ _ _ _
    cases hb:aaY s' s<;>rw[hb]at h<;>cases h<;>rfl
   .cases h;rfl
  rw[hk]
  show∃k',(match Gq o with|some (s', .qk ..)=>bif aaY s' s then some (Gw.read r m)else some (.view o s r m)|_=>some (.view o s r m))=some k'/\pD k'=_
  split
  .rename_i s' _ _ _ _
   cases hb:aaY s' s with
   |true=>exact⟨Gw.read r m,rfl,rfl⟩
   |false=>exact⟨Gw.view o s r m,rfl,rfl⟩
  .exact⟨Gw.view o s r m,rfl,rfl⟩
 .cases h
theorem EE{P:Program}(T:aM P){ob Gq:Nat->Option (Nat×Th)}{t:TypeId}{D D':aj}(L5:∀q x,ob q=some x->∃x',Gq q=some x'/\fk x x')(h:DZ T ob t D=some D'):DZ T Gq t D=some D':=by
 unfold DZ at h⊢;split at h
 .split at h
  case h_2=>cases h
  rename_i k hk;obtain⟨k',h1,h2⟩:=ED L5 hk;rw[h1];simp only[h2];exact h
 .exact h
 .cases h
theorem EF{P:Program}(T:aM P){ob:Nat->Option (Nat×Th)}{n:Nat}{t:TypeId}{o:Nat}{d:DR}{i:Int}{p:List Bool}{off:Nat}{e:c9}(h:nc T ob n t (.dlm o d i p off) some=some e)(hm:o∈e.eat++oE e.make):
 ∃x y,ob o=some x/\find e.make o=some y/\fk x y:=by
 unfold nc oV at h;simp only at h;split at h
 .cases h
 split at h
 case h_2=>cases h
 rename_i s T0 dr l hh ho;obtain⟨_,h⟩:=aB h;split at h
 .obtain⟨_,h⟩:=aB h;obtain⟨_,_,h⟩:=bind_some h;cases h;simp[oE]at hm
 .obtain⟨_,h⟩:=aB h;split at h
  .obtain⟨_,_,h⟩:=bind_some h;cases h;exact⟨_,(n, .deep T0 dr l _),ho,by rw[aA,acU rfl], .inr ⟨T0,dr,l,acP,_,rfl,rfl⟩⟩
  .obtain⟨_,h⟩:=aB h;split at h
   .obtain⟨_,_,h⟩:=bind_some h;cases h;simp[oE]at hm
   .cases h
 .cases h
theorem Hk{P:Program}{E:Env P}{U:Nat->Prop}{R:Type}{o:Oper}{gs:List Nat}{st:State}{k:c9->jg->Option R}{q:R}(h:vD E o.dst o.op gs st k=some q):
 ∃e CL,k e CL=some q/\CL.e=e/\(∀g∈gs,g∈CL.ts)/\Le P U o (find st.ak) (find st.objs) st.nxt CL:=by
 unfold vD at h;split at h
 case h_2=>cases h
 rename_i aG ux;obtain⟨yQ,h'⟩:=aB h;clear h;rw[Hj]at h';obtain⟨e,he,hk⟩:=bind_some h'
 have JY:∀t d,find (gw (tmpsOf o.op.operands.toList) st.ak) t=some d->t∈tmpsOf o.op.operands.toList/\find st.ak t=some d:=λt d ht=>vB.1 ht
 have Bi:∀q x,find (gw (fa st o.op) st.objs) q=some x->q∈fa st o.op/\find st.objs q=some x:=λq x hx=>vB.1 hx
 refine⟨_,_,hk,rfl,λg hg=>by simp[hg],rfl,⟨find (gw (tmpsOf o.op.operands.toList) st.ak),find (gw (fa st o.op) st.objs),λt d ht=>⟨by simp[(JY t d ht).1],(JY t d ht).2⟩,λq x hx=>⟨?_,(Bi q x hx).2⟩,λH F w ρ EC L5 fq bW=>?_⟩,λq hq hm=>?_⟩
 .cases hl:w5 o.op with
  |true=>exact .inr (by simp only[cond_true];exact(Bi q x hx).1)
  |false=>exact .inl (by simp only[cond_false];exact(Bi q x hx).1)
 .cases hl:w5 o.op with
  |false=>
   simp only[hl,cond_false]at L5
   have eL:∀q x,find (gw (fa st o.op) st.objs) q=some x->EC q=some x:=λq x hx=>by
    obtain⟨x',h1,_,h2⟩:=L5 q x hx;rw[h1,h2 (Bi q x hx).1]
   have rR:aq U H F w (find (gw (fa st o.op) st.objs)) st.nxt:=⟨λo s t ho=>bW.obj o s t (eL _ _ ho),λo o' s s' t t' v v' cA ho iY=>bW.apart o o' s s' t t' v v' cA (eL _ _ ho) (eL _ _ iY),bW.fresh,bW.lt,bW.new,bW.gl⟩
   refine⟨_,eL,?_⟩;obtain⟨F1,qC,Au,I8⟩:=lO ux rR
   have dW:Step F w F1 w:=λb hb=>⟨Au b hb,rfl⟩
   obtain⟨e',he',hs⟩:=Hc (ρ:=ρ) (ty:=o.type) (pos:=o.pos) (aft:=o.after) E (λx d hx=>ql qC.gl (λt d ht=>(fq t d ht).keep (an.le.refl H) dW) x d hx) (λhn c hc=>by rw[hn,hc]at yQ;exact yQ) he qC;obtain rfl:=aaT he'
   exact hs.mono λv w' hp=>EB ux qC Au I8 hp
  |true=>
   refine⟨EC,λ_ _ h=>h,?_⟩;obtain⟨L6,RT,Xu,RU,RV,Xv⟩:=o;simp only at*
   cases RT<;>try(cases hl;done)
   rename_i c;obtain⟨callee,args,ry⟩:=c
   cases callee<;>try(cases hl;done)
   rename_i b
   cases b<;>try(cases hl;done)
   cases L6 with
   |none=>cases yQ
   |some d=>
    have AP:o3 E (DO (gw (tmpsOf (Op.operands (.call {callee:= .builtin .len,args:=args,argTypes:=ry})).toList) st.ak)) (gw (fa st (.call {callee:= .builtin .len,args:=args,argTypes:=ry})) st.objs) (.call {callee:= .builtin .len,args:=args,argTypes:=ry})=[]:=by unfold o3;cases E.deep<;>rfl
    rw[AP]at ux⊢;obtain rfl:=aaT ux;have Hl:lR E _ _ st.nxt (.builtin .len) args ry some=some e:=he;unfold lR at Hl;simp only at Hl;split at Hl
    case h_2=>cases Hl
    rename_i x t ha ht;obtain rfl:=cW ha;obtain rfl:=cW ht;split at Hl
    case h_2=>cases Hl
    rename_i D hD;split at Hl
    case h_2=>cases Hl
    rename_i D' Jm;cases Hl;have hlen:=EE E.T (λq x hx=>by obtain⟨x',h1,h2,_⟩:=L5 q x hx;exact⟨x',h1,h2⟩) Jm;exact Cj E.T hlen bW (ql bW.gl fq _ _ hD)
 .obtain⟨L6,RT,Xu,RU,RV,Xv⟩:=o;simp only at*
  cases RT<;>try(cases hq;done)
  rename_i t x;unfold Ld at hq;simp only at hq;split at hq
  case h_2=>cases hq
  rename_i o' d0 i p off dG;obtain rfl:=aa5.1 hq
  have AP:o3 E (DO (gw (tmpsOf (Op.operands (.load t x)).toList) st.ak)) (gw (fa st (.load t x)) st.objs) (.load t x)=[]:=by unfold o3;cases E.deep<;>rfl
  rw[AP]at ux hm⊢;obtain rfl:=aaT ux
  cases L6 with
  |none=>cases he
  |some d=>
   unfold JR at he;simp only[dG]at he
   have Xw:q∈e.eat++oE e.make:=by
    simpa[jg.mut,vC,mK,del]using hm
   obtain⟨x1,y1,h1,h2,h3⟩:=EF E.T he Xw;refine⟨x1,y1,(Bi _ _ h1).2,?_,h3⟩
   show find (e.make++_) q=_
   rw[fD,h2];rfl
end Go.Proofs.YtbladfbbhijpmaaGreat
namespace Go.Proofs.YtbladfbbhijpmaaGreat
open Go Go.RowKit
def uG(acc:List Nat)(i:Nat):List Edge->Option Nat
 |[]=>some 0
 |e::l=>match uG acc i l with
  |some m=>bif acx .any e then(bif abI e.on i then some (m|||2 ^ e.on|||acc.getD e.on 0)else acP)else some m
  |none=>acP
def EG(acc:List Nat):List Oper->Option (List Nat)
 |[]=>some acc
 |o::l=>match uG acc acc.length o.after.toList with
  |some m=>EG (acc++[m]) l
  |none=>acP
def gY(d:Option Nat)(l:List Nat):Bool:=
 match d with
 |some t=>kJ t l
 |none=>acR
def zf(l l':List Nat):Bool:=l.any λo=>kJ o l'
def jg.OC(x:jg):List Nat:=x.mut.filter λo=> !kJ o x.soft
def conflict(a b:jg):Bool:=
 gY a.dst b.ts||gY b.dst a.ts||gY a.dst (b.dst.toList)||zf a.mut (b.os++b.mut)||zf a.OC b.ls||zf (a.os++a.ls++a.mut) b.mut
def w6(ms:List Nat)(i:Nat)(x:jg):Nat->List jg->Bool
 |_,[]=>acQ
 |j,y::l=>(bif conflict x y then Nat.testBit (ms.getD j 0) i else acQ)&&w6 ms i x (j+1) l
def sr(ms:List Nat):Nat->List jg->Bool
 |_,[]=>acQ
 |i,x::l=>w6 ms i x (i+1) l&&sr ms (i+1) l
def qU(ops:List Oper)(es:List jg):Bool:=
 match EG [] ops with
 |some ms=>sr ms 0 es
 |none=>acR
section
variable {ops:Array Oper}
def Bj(ops:Array Oper)(S:Nat->Prop):Prop:=∀i,S i->∀o,ops[i]? =some o->∀e∈o.after,acx .any e=acQ->S e.on
theorem w7{acc:List Nat}{i:Nat}:{l:List Edge}->{m:Nat}->uG acc i l=some m->∀j,m.testBit j=acQ->∃e∈l,acx .any e=acQ/\e.on<i/\(e.on=j\/(acc.getD e.on 0).testBit j=acQ)
 |[],m,h,j,hj=>by
  obtain rfl:=aaT h;simp at hj
 |e::l,m,h,j,hj=>by
  unfold uG at h;split at h
  case h_2=>cases h
  rename_i m0 h0
  cases hb:acx .any e with
  |false=>
   rw[hb,cond_false]at h;obtain rfl:=aaT h;obtain⟨e',a1,a2⟩:=w7 h0 j hj;exact⟨e',by simp[a1],a2⟩
  |true=>
   rw[hb,cond_true]at h
   cases ag:abI e.on i with
   |false=>rw[ag]at h;cases h
   |true=>
    rw[ag,cond_true]at h;obtain rfl:=aaT h;rw[acr,acr,Bool.or_eq_true,Bool.or_eq_true]at hj
    have Jx:e.on<i:=by simpa using ag
    rcases hj with(hj|hj)|hj
    .obtain⟨e',a1,a2⟩:=w7 h0 j hj;exact⟨e',by simp[a1],a2⟩
    .rw[Nat.testBit_two_pow]at hj;exact⟨e,by simp,hb,Jx, .inl (acV hj)⟩
    .exact⟨e,by simp,hb,Jx, .inr hj⟩
theorem CM{acc:List Nat}{i:Nat}:{l:List Edge}->{m:Nat}->uG acc i l=some m->∀e∈l,acx .any e=acQ->e.on<i
 |[],m,h,e,he,_=>by cases he
 |e0::l,m,h,e,he,hb=>by
  unfold uG at h;split at h
  case h_2=>cases h
  rename_i m0 h0
  rcases aa7.1 he with rfl|he
  .rw[hb,cond_true]at h
   cases ag:abI e.on i with
   |false=>rw[ag]at h;cases h
   |true=>simpa using ag
  .exact CM h0 e he hb
theorem w8:{l:List Oper}->{acc ms:List Nat}->EG acc l=some ms->ms.length=acc.length+l.length/\(∀i,i<acc.length->ms.getD i 0=acc.getD i 0)/\
 ∀k o,l[k]? =some o->∃m,uG ms (acc.length+k) o.after.toList=some m/\ms.getD (acc.length+k) 0=m
 |[],acc,ms,h=>by
  obtain rfl:=aaT h;exact⟨by simp,λ_ _=>rfl,λk o h=>by simp at h⟩
 |o0::l,acc,ms,h=>by
  unfold EG at h;split at h
  case h_2=>cases h
  rename_i m hm;obtain⟨a1,a2,a3⟩:=w8 h;rw[aba,List.length_singleton]at a1 a2 a3
  have Hm:∀i,i<acc.length->ms.getD i 0=acc.getD i 0:=λi hi=>by
   rw[a2 i (by omega)];simp[List.getD,List.getElem?_append_left hi]
  have RW:∀(l:List Edge)(m:Nat),uG acc acc.length l=some m->uG ms acc.length l=some m:=by
   intro l
   induction l with
   |nil=>intro m h;exact h
   |cons e l ih=>
    intro m h;unfold uG at h⊢;split at h
    case h_2=>cases h
    rename_i m0 h0;rw[ih m0 h0];simp only
    cases hb:acx .any e with
    |false=>rw[hb]at h;exact h
    |true=>
     rw[hb,cond_true]at h
     cases ag:abI e.on acc.length with
     |false=>rw[ag]at h;cases h
     |true=>
      rw[ag,cond_true]at h;rw[cond_true,cond_true,Hm _ (by simpa using ag)];exact h
  refine⟨by rw[a1,aa6];omega,Hm,λk o ho=>?_⟩
  cases k with
  |zero=>
   obtain rfl:o0=o:=by simpa using ho
   refine⟨m,RW _ _ hm,?_⟩;rw[ab3,a2 _ (by omega)];simp[List.getD]
  |succ k=>
   have:=a3 k o (by simpa using ho);rw[show acc.length+1+k=acc.length+(k+1)from by omega]at this;exact this
theorem Hn{ms:List Nat}(h:EG [] ops.toList=some ms){S:Nat->Prop}(hS:Bj ops S):∀i o,ops[i]? =some o->(∀e∈o.after,acx .any e=acQ->S e.on)->∀j,(ms.getD i 0).testBit j=acQ->S j:=by
 obtain⟨_,_,a3⟩:=w8 h;intro i
 induction i using Nat.strongRecOn with
 |_ i ih=>
  intro o ho hd j hj;obtain⟨m,h1,h2⟩:=a3 i o (by rw[Array.getElem?_toList];exact ho);simp only[abS,aby]at h1 h2;rw[h2]at hj;obtain⟨e,he,hb,ag,h3⟩:=w7 h1 j hj;have Vy:=hd e (by simpa using he) hb
  rcases h3 with rfl|h3
  .exact Vy
  .have JZ:e.on<ops.size:=by
    have:=(abx.1 ho).1;omega
   exact ih e.on ag _ (abh JZ) (λe' he' r4=>hS e.on Vy _ (abh JZ) e' he' r4) j h3
end
def ef(S:Nat->Bool):Nat->List jg->(Nat->Option aj)->Nat->Option aj
 |_,[],f=>f
 |i,x::l,f=>ef S (i+1) l (λt=>bif S i&&gY (some t) x.dst.toList then some x.e.dst else f t)
def dH(S:Nat->Bool):Nat->List jg->(Nat->Option (Nat×Th))->Nat->Option (Nat×Th)
 |_,[],f=>f
 |i,x::l,f=>dH S (i+1) l (λo=>bif S i then(find x.e.make o).or (bif kJ o x.e.eat then acP else f o)else f o)
theorem og{l:List (Nat×(Nat×Th))}{o:Nat}{x:Nat×Th}(h:find l o=some x):o∈oE l:=by
 induction l with
 |nil=>cases h
 |cons p l ih=>
  obtain⟨o',y⟩:=p;rw[aA]at h;split at h
  .rename_i e;subst e;exact abW
  .exact abz _ (ih h)
theorem pT{d:Option Nat}{t:Nat}:gY (some t) d.toList=acQ↔d=some t:=by
 unfold gY;simp only[db,Option.mem_toList]
theorem jI{S S':Nat->Bool}{t:Nat}:{l:List jg}->{i:Nat}->{f f':Nat->Option aj}->f t=f' t->(∀k x,l[k]? =some x->x.dst=some t->S (i+k)=S' (i+k))->ef S i l f t=ef S' i l f' t
 |[],_,_,_,hf,_=>hf
 |x::l,i,f,f',hf,h=>by
  show ef S (i+1) l _ t=ef S' (i+1) l _ t
  refine jI ?_ λk y hy hd=>by
   have:=h (k+1) y (by simpa using hy) hd
   rwa [show i+(k+1)=i+1+k from by omega]at this
  by_cases hd:x.dst=some t
  .have:=h 0 x rfl hd;simp only[ab3]at this;rw[this,hf]
  .have:gY (some t) x.dst.toList=acR:=by
    cases hb:gY (some t) x.dst.toList with
    |false=>rfl
    |true=>exact absurd (pT.1 hb) hd
   rw[this,Bool.and_false,Bool.and_false,cond_false,cond_false,hf]
theorem jh{S S':Nat->Bool}{o:Nat}:{l:List jg}->{i:Nat}->{f f':Nat->Option (Nat×Th)}->f o=f' o->(∀k x,l[k]? =some x->o∈x.mut->S (i+k)=S' (i+k))->dH S i l f o=dH S' i l f' o
 |[],_,_,_,hf,_=>hf
 |x::l,i,f,f',hf,h=>by
  show dH S (i+1) l _ o=dH S' (i+1) l _ o
  refine jh ?_ λk y hy hd=>by
   have:=h (k+1) y (by simpa using hy) hd
   rwa [show i+(k+1)=i+1+k from by omega]at this
  by_cases hd:o∈x.mut
  .have:=h 0 x rfl hd;simp only[ab3]at this;rw[this,hf]
  .have h1:find x.e.make o=acP:=by
    cases hm:find x.e.make o with
    |none=>rfl
    |some y=>exact absurd (by simp[jg.mut,og hm]) hd
   have h2:kJ o x.e.eat=acR:=by
    cases hb:kJ o x.e.eat with
    |false=>rfl
    |true=>exact absurd (by simp[jg.mut,db.1 hb]) hd
   rw[h1,h2,abT,cond_false]
   cases S i<;>cases S' i<;>simp[hf]
theorem mo{S:Nat->Bool}{t:Nat}:{l:List jg}->{i:Nat}->{f:Nat->Option aj}->(∀k x,l[k]? =some x->x.dst=some t->S (i+k)=acR)->ef S i l f t=f t
 |[],_,_,_=>rfl
 |x::l,i,f,h=>by
  show ef S (i+1) l _ t=_
  rw[mo λk y hy hd=>by
   have:=h (k+1) y (by simpa using hy) hd
   rwa [show i+(k+1)=i+1+k from by omega]at this]
  by_cases hd:x.dst=some t
  .have:=h 0 x rfl hd;simp only[ab3]at this;simp[this]
  .have:gY (some t) x.dst.toList=acR:=by
    cases hb:gY (some t) x.dst.toList with
    |false=>rfl
    |true=>exact absurd (pT.1 hb) hd
   simp[this]
theorem lS{S:Nat->Bool}{o:Nat}:{l:List jg}->{i:Nat}->{f:Nat->Option (Nat×Th)}->(∀k x,l[k]? =some x->o∈x.mut->S (i+k)=acR)->dH S i l f o=f o
 |[],_,_,_=>rfl
 |x::l,i,f,h=>by
  show dH S (i+1) l _ o=_
  rw[lS λk y hy hd=>by
   have:=h (k+1) y (by simpa using hy) hd
   rwa [show i+(k+1)=i+1+k from by omega]at this]
  by_cases hd:o∈x.mut
  .have:=h 0 x rfl hd;simp only[ab3]at this;simp[this]
  .have h1:find x.e.make o=acP:=by
    cases hm:find x.e.make o with
    |none=>rfl
    |some y=>exact absurd (by simp[jg.mut,og hm]) hd
   have h2:kJ o x.e.eat=acR:=by
    cases hb:kJ o x.e.eat with
    |false=>rfl
    |true=>exact absurd (by simp[jg.mut,db.1 hb]) hd
   simp only[h1,h2,abT,cond_false]
   cases S i<;>rfl
theorem mq{S:Nat->Bool}{l l':List jg}{i:Nat}{f:Nat->Option aj}:ef S i (l++l') f=ef S (i+l.length) l' (ef S i l f):=by
 induction l generalizing i f with
 |nil=>rfl
 |cons x l ih=>
  show ef S (i+1) (l++l') _=ef S (i+(l.length+1)) l' (ef S (i+1) l _)
  rw[ih,show i+1+l.length=i+(l.length+1)from by omega]
theorem ij{S:Nat->Bool}{l l':List jg}{i:Nat}{f:Nat->Option (Nat×Th)}:dH S i (l++l') f=dH S (i+l.length) l' (dH S i l f):=by
 induction l generalizing i f with
 |nil=>rfl
 |cons x l ih=>
  show dH S (i+1) (l++l') _=dH S (i+(l.length+1)) l' (dH S (i+1) l _)
  rw[ih,show i+1+l.length=i+(l.length+1)from by omega]
end Go.Proofs.YtbladfbbhijpmaaGreat
end
section
open _root_.Bool renaming false->acR,true->acQ,false_eq_true->aa4
open _root_.Option renaming none->acP,none_or->abT
open _root_.Array renaming getD_eq_getD_getElem?->abA,getElem?_eq_getElem->abh,getElem?_eq_some_iff->abx
open _root_.List renaming drop_eq_getElem_cons->abv,filter_cons->acB,getElem?_drop->abe,getElem?_eq_getElem->aaW,getElem?_eq_some_iff->abj,getElem_of_mem->abD,length_append->aba,length_cons->aa6,length_filter_le->acb,length_nil->abS,mem_append->aa9,mem_cons->aa7,mem_filter->abw,range->aa2,take_append_drop->abY
open _root_.Nat renaming add_zero->ab3,beq->aaY,blt->abI,le_refl->aaX,le_trans->abi,zero_add->aby
open _root_.Option.some renaming inj->aaT
open _root_.Go.Region renaming binds->acx,wanted->aco
namespace Go.Proofs.YtbladfbbhijpmaaGreat
open Go Go.RowKit
theorem tF{ms:List Nat}{i:Nat}{x:jg}:{l:List jg}->{j:Nat}->w6 ms i x j l=acQ->∀k y,l[k]? =some y->conflict x y=acQ->(ms.getD (j+k) 0).testBit i=acQ
 |[],_,_,k,y,h,_=>by simp at h
 |z::l,j,hl,k,y,h,hc=>by
  obtain⟨h1,h2⟩:=bU hl
  cases k with
  |zero=>
   obtain rfl:z=y:=by simpa using h
   rw[hc,cond_true]at h1;exact h1
  |succ k=>
   have:=tF h2 k y (by simpa using h) hc
   rwa [show j+1+k=j+(k+1)from by omega]at this
theorem o4{ms:List Nat}:{l:List jg}->{i:Nat}->sr ms i l=acQ->∀a b x y,a<b->l[a]? =some x->l[b]? =some y->conflict x y=acQ->(ms.getD (i+b) 0).testBit (i+a)=acQ
 |[],_,_,a,b,x,y,_,h,_,_=>by simp at h
 |z::l,i,hl,a,b,x,y,Q0,hx,hy,hc=>by
  obtain⟨h1,h2⟩:=bU hl
  cases a with
  |zero=>
   obtain rfl:z=x:=by simpa using hx
   cases b with
   |zero=>omega
   |succ b=>
    have:=tF h1 b y (by simpa using hy) hc
    rwa [show i+1+b=i+(b+1)from by omega]at this
  |succ a=>
   cases b with
   |zero=>omega
   |succ b=>
    have:=o4 h2 a b x y (by omega) (by simpa using hx) (by simpa using hy) hc
    rwa [show i+1+b=i+(b+1)from by omega,show i+1+a=i+(a+1)from by omega]at this
inductive L7(ops:Array Oper)(nt:Nat)(ts:List Nat)(sl:Nat->Option aj):Option (Nat×Bool)->Bool->Prop
 |none:L7 ops nt ts sl acP acQ
 |lit {j g:Nat} {b t:Bool} {d:aj} (h1:CK ops j=some g) (h2:abI g nt=acQ) (h3:g∈ts) (h4:sl g=some d) (h5:asBool d=some t):L7 ops nt ts sl (some (j,b)) (decide (t=b))
 |undef {j g:Nat} {b:Bool} (h1:CK ops j=some g) (h2:abI g nt=acQ) (h3:g∈ts) (h4:sl g=some .undef):L7 ops nt ts sl (some (j,b)) acR
structure L8(P:Program)(ops:Array Oper)(nt:Nat)(U:Nat->Prop)(o:Oper)(sl:Nat->Option aj)(ob:Nat->Option (Nat×Th))(n:Nat)(x:jg):Prop where
 dst:x.dst=o.dst
 EH:yR nt o.dst=acQ
 on:∃b,L7 ops nt x.ts sl o.guard b/\(b=acQ->Le P U o sl ob n x)/\(b=acR->x.e={dst:= .undef})
section
variable {P:Program} {nt:Nat} {ops:Array Oper}
theorem J0{ρ:Nat->Value}{o:Oper}{w:World}{QQ:Value->World->Prop}{a:Act}{K:Act->World->Prop}{Q:Exit->Act->World->Prop}(h:bH P ρ ⟨o.dst,o.op,o.type,o.pos,o.after,acP⟩ w QQ)(hf:Fr nt a ρ)
 (hk:∀v w',QQ v w'->K (a.put o.dst v) w'):o.wp P a w K Q:=by
 unfold Oper.wp;rw[hf.eval];unfold bH at h;have e:execOp (ev ρ) o=execOp (ev ρ) ⟨o.dst,o.op,o.type,o.pos,o.after,acP⟩:=rfl;rw[e];generalize(execOp (ev ρ) ⟨o.dst,o.op,o.type,o.pos,o.after,acP⟩).run P w=r at*
 cases r with
 |halt x w'=>exact h.elim
 |ok x w'=>
  cases x<;>first
   |exact h.elim
   |skip
  case value v=>exact hk v w' h.2
  case skip=>exact hk undef w' h.2
  case enter f args=>
   refine h.mono λe r8 ⟨v,he,hv⟩=>?_
   subst he;exact hk v r8 hv
theorem aq.sub{U:Nat->Prop}{H:an}{F:Nat->Prop}{w:World}{ob I0:Nat->Option (Nat×Th)}{n m:Nat}(h:aq U H F w ob n)(hR:∀o x,I0 o=some x->ob o=some x)(wj:∀k,m<=k->k<m+16->H.val k=acP/\H.con k=acP):aq U H F w I0 m:=
 ⟨λo s t ho=>h.obj o s t (hR _ _ ho),λo o' s s' t t' v v' cA ho iY=>h.apart o o' s s' t t' v v' cA (hR _ _ ho) (hR _ _ iY),wj,h.lt,h.new,h.gl⟩
structure Inv(G:Nat->Prop)(w0:World)(F0:Nat->Prop)(es:List jg)(sl0:Nat->Option aj)(ob0:Nat->Option (Nat×Th))(n0:Nat)(H:an)(F:Nat->Prop)(w:World)(ρ:Nat->Value)(S:Nat->Bool)(H':an)(F':Nat->Prop)(w':World)(cq:Nat->Value):Prop where
 slot:∀t d,ef S 0 es sl0 t=some d->ah H' F' w' d (cq t)
 ob:aq (UU G w0) H' F' w' (dH S 0 es ob0) (n0+16*es.length)
 all:fF H' (n0+16*es.length)
 fresh:∀i,i<es.length->S i=acR->∀m,n0+16*i<=m->m<n0+16*i+16->H'.val m=acP/\H'.con m=acP
 glob:GV G w0 F0 w' F'
 keeps:bQ H F w H' F' w'
 same:∀t,(∀x∈es,x.dst≠some t)->cq t=ρ t
def ins(S:Nat->Bool)(i:Nat):Nat->Bool:=λj=>bif aaY j i then acQ else S j
theorem nl{S:Nat->Bool}{i:Nat}:ins S i i=acQ:=by simp[ins]
theorem np{S:Nat->Bool}{i j:Nat}(h:j≠i):ins S i j=S j:=by
 unfold ins
 cases hb:aaY j i with
 |true=>exact absurd (beq_true hb) h
 |false=>rfl
section
variable {G:Nat->Prop} {w0:World} {F0:Nat->Prop} {es:List jg} {sl0:Nat->Option aj} {ob0:Nat->Option (Nat×Th)} {n0:Nat} {H:an} {F:Nat->Prop} {w:World} {ρ:Nat->Value} {ms:List Nat}
theorem zg{i:Nat}{x:jg}(h:es[i]? =some x):es=es.take i++x::es.drop (i+1)/\(es.take i).length=i:=by
 have ag:i<es.length:=(abj.1 h).1;have hx:es[i]=x:=(abj.1 h).2;refine⟨?_,by simp;omega⟩;rw[<-hx,<-abv ag,abY]
theorem vE{S:Nat->Bool}{i:Nat}{x:jg}(hx:es[i]? =some x)(Ho:∀t,x.dst=some t->∀j y,es[j]? =some y->y.dst=some t->S j=acQ->j<i)(t:Nat):
 ef (ins S i) 0 es sl0 t=if x.dst=some t then some x.e.dst else ef S 0 es sl0 t:=by
 by_cases hd:x.dst=some t
 .rw[acU hd];obtain⟨e1,e2⟩:=zg hx;rw[e1,mq,e2,aby]
  show ef (ins S i) (i+1) (es.drop (i+1)) _ t=_
  rw[mo λk y hy L9=>by
   rw[np (by omega)]
   cases hS:S (i+1+k)with
   |false=>rfl
   |true=>
    have:=Ho t hd (i+1+k) y (by rw[<-hy,abe]) L9 hS
    omega]
  rw[nl,pT.2 hd];rfl
 .rw[acT hd]
  refine jI rfl λk y hy L9=>?_
  rw[aby]
  refine np λe=>?_
  subst e;rw[hx]at hy;obtain rfl:=aaT hy;exact hd L9
theorem zh{S:Nat->Bool}{i:Nat}{x:jg}(hx:es[i]? =some x)(hS:S i=acR)(Ho:∀o,o∈x.mut->∀j y,es[j]? =some y->o∈y.mut->S j=acQ->j<i)(o s:Nat)(t:Th)(h:dH (ins S i) 0 es ob0 o=some (s,t)):
 find x.e.make o=some (s,t)\/(o∉x.e.eat/\dH S 0 es ob0 o=some (s,t)/\find x.e.make o=acP):=by
 by_cases hd:o∈x.mut
 .obtain⟨e1,e2⟩:=zg hx
  have late:∀S':Nat->Bool,(∀j,j≠i->S' j=S j)->∀f,dH S' (i+1) (es.drop (i+1)) f o=f o:=λS' Xx f=>lS λk y hy L9=>by
   rw[Xx _ (by omega)]
   cases OD:S (i+1+k)with
   |false=>rfl
   |true=>
    have:=Ho o hd (i+1+k) y (by rw[<-hy,abe]) L9 OD;omega
  have pre:dH (ins S i) 0 (es.take i) ob0 o=dH S 0 (es.take i) ob0 o:=jh rfl λk y hy _=>by
   rw[aby]
   refine np λe=>?_
   have:=(abj.1 hy).1;omega
  have all:dH S 0 es ob0 o=dH S 0 (es.take i) ob0 o:=by
   conv=>lhs;rw[e1]
   rw[ij,e2,aby]
   show dH S (i+1) (es.drop (i+1)) _ o=_
   rw[late S (λ_ _=>rfl),hS];rfl
  conv at h=>lhs;rw[e1]
  rw[ij,e2,aby]at h;change dH (ins S i) (i+1) (es.drop (i+1)) _ o=_ at h;rw[late (ins S i) (λj hj=>np hj),nl,cond_true,pre,<-all]at h
  cases hm:find x.e.make o with
  |some y=>rw[hm]at h;exact .inl h
  |none=>
   rw[hm,abT]at h
   cases he:kJ o x.e.eat with
   |true=>rw[he]at h;cases h
   |false=>
    rw[he,cond_false]at h;exact .inr ⟨λe=>(by rw[db.2 e]at he;cases he),h,rfl⟩
 .right
  have h1:find x.e.make o=acP:=by
   cases hm:find x.e.make o with
   |none=>rfl
   |some y=>exact absurd (by simp[jg.mut,og hm]) hd
  refine⟨λe=>hd (by simp[jg.mut,e]),?_,h1⟩;rw[<-h];refine(jh rfl λk y hy L9=>?_).symm;rw[aby]
  refine np λe=>?_
  subst e;rw[hx]at hy;obtain rfl:=aaT hy;exact hd L9
theorem lT{l l':List Nat}{o:Nat}(h:o∈l)(h':o∈l'):zf l l'=acQ:=by
 unfold zf;rw[List.any_eq_true];exact⟨o,h,db.2 h'⟩
theorem qV{i j:Nat}(h:i<=j):abI j i=acR:=by
 cases hb:abI j i with
 |false=>rfl
 |true=>have:j<i:=by simpa using hb
        omega
def EI(_:Nat):Bool:=acQ
theorem Bk{es:List jg}{i:Nat}(hi:i<=es.length):ef (λj=>abI j i) 0 es sl0=ef EI 0 (es.take i) sl0:=by
 funext t
 conv=>lhs;rw[<-abY i es]
 rw[mq,mo (S:=λj=>abI j i) λk x _ _=>qV (by simp;omega)]
 refine jI rfl λk x hx _=>?_
 have:=(abj.1 hx).1;simp at this;simp[EI];omega
theorem vF{es:List jg}{i:Nat}(hi:i<=es.length):dH (λj=>abI j i) 0 es ob0=dH EI 0 (es.take i) ob0:=by
 funext t
 conv=>lhs;rw[<-abY i es]
 rw[ij,lS (S:=λj=>abI j i) λk x _ _=>qV (by simp;omega)]
 refine jh rfl λk x hx _=>?_
 have:=(abj.1 hx).1;simp at this;simp[EI];omega
theorem EJ{S:Nat->Bool}{i q:Nat}(hA:∀k y,k<i->es[k]? =some y->q∈y.mut->S k=acQ\/q∈y.soft)
 (hs:∀k y,es[k]? =some y->q∈y.soft->q∈y.mut->∃z z',dH EI 0 (es.take k) ob0 q=some z/\find y.e.make q=some z'/\fk z z'):
 ∀m,m<=i->m<=es.length->∀z,dH EI 0 (es.take m) ob0 q=some z->∃z',dH S 0 (es.take m) ob0 q=some z'/\fk z z':=by
 intro m
 induction m with
 |zero=>intro _ _ z hz;exact⟨z,hz, .inl rfl⟩
 |succ m ih=>
  intro hm hl z hz
  have ag:m<es.length:=by omega
  have hy:es[m]? =some es[m]:=aaW ag
  have e1:es.take (m+1)=es.take m++[es[m]]:=by rw[List.take_add_one,hy];rfl
  have el:(es.take m).length=m:=by simp;omega
  rw[e1,ij,el,aby]at hz⊢;generalize hgy:es[m]=y at*;have ez:(find y.e.make q).or (bif kJ q y.e.eat then acP else dH EI 0 (es.take m) ob0 q)=some z:=hz
  show∃z',(bif S m then(find y.e.make q).or (bif kJ q y.e.eat then acP else dH S 0 (es.take m) ob0 q)else dH S 0 (es.take m) ob0 q)=some z'/\fk z z'
  by_cases Hp:q∈y.mut
  .cases Xy:S m with
   |true=>
    rw[cond_true]
    cases OE:find y.e.make q with
    |some x=>rw[OE]at ez;exact⟨z,ez, .inl rfl⟩
    |none=>
     have hk:q∉oE y.e.make:=λhk=>by
      have:∀l:List (Nat×(Nat×Th)),q∈oE l->find l q≠acP:=by
       intro l
       induction l with
       |nil=>intro h;cases h
       |cons p l ih=>
        obtain⟨o',x⟩:=p;intro h;rw[aA];split
        .simp
        .rename_i cA
         rcases aa7.1 h with h|h
         .exact absurd h.symm cA
         .exact ih h
      exact this _ hk OE
     have he:kJ q y.e.eat=acQ:=db.2 (by
      rcases aa9.1 Hp with h|h
      .exact h
      .exact absurd h hk)
     rw[OE,he]at ez;cases ez
   |false=>
    rw[cond_false]
    rcases hA m y (by omega) hy Hp with h|h
    .rw[Xy]at h;cases h
    .obtain⟨x,x',h1,h2,h3⟩:=hs m y hy h Hp;rw[h2]at ez;obtain rfl:=aaT ez;obtain⟨z',h4,h5⟩:=ih (by omega) (by omega) x h1;exact⟨z',h4,h3.symm.trans h5⟩
  .have h1:find y.e.make q=acP:=by
    cases hm:find y.e.make q with
    |none=>rfl
    |some y=>exact absurd (by simp[jg.mut,og hm]) Hp
   have h2:kJ q y.e.eat=acR:=by
    cases hb:kJ q y.e.eat with
    |false=>rfl
    |true=>exact absurd (by simp[jg.mut,db.1 hb]) Hp
   rw[h1,h2,abT,cond_false]at ez;obtain⟨z',h4,h5⟩:=ih (by omega) (by omega) z ez;refine⟨z',?_,h5⟩;rw[h1,h2,abT,cond_false,h4]
   cases S m<;>rfl
theorem tG(Ma:EG [] ops.toList=some ms)(hp:sr ms 0 es=acQ)(hlen:es.length=ops.size){S:Nat->Bool}(hS:Bj ops (λj=>S j=acQ)){i:Nat}{o:Oper}{x:jg}(ho:ops[i]? =some o)(hx:es[i]? =some x)(EK:S i=acR)
 (CN:∀e∈o.after,acx .any e=acQ->S e.on=acQ)(Hq:∀k y,es[k]? =some y->∀q,q∈y.soft->q∈y.mut->∃z z',dH EI 0 (es.take k) ob0 q=some z/\find y.e.make q=some z'/\fk z z')(uB:L8 P ops nt (UU G w0) o (ef (λj=>abI j i) 0 es sl0) (dH (λj=>abI j i) 0 es ob0) (n0+16*i) x)
 {H':an}{F':Nat->Prop}{w':World}{cq:Nat->Value}{a:Act}(hf:Fr nt a cq)(hinv:Inv G w0 F0 es sl0 ob0 n0 H F w ρ S H' F' w' cq){K:Act->World->Prop}{Q:Exit->Act->World->Prop}
 (hk:∀OF qW rN AX r8,Fr nt OF qW->Inv G w0 F0 es sl0 ob0 n0 H F w ρ (ins S i) rN AX r8 qW->K OF r8):wpOp P ops Q i K a w':=by
 have zi:i<es.length:=(abj.1 hx).1
 have up:∀j y,es[j]? =some y->j<i->conflict y x=acQ->S j=acQ:=λj y hy Qv hc=>by
  have:=o4 hp j i y x Qv hy hx hc;rw[aby,aby]at this;exact Hn Ma hS i o ho CN j this
 have down:∀j y,es[j]? =some y->i<j->conflict x y=acQ->S j=acQ->False:=λj y hy K2 hc hj=>by
  have:=o4 hp i j x y K2 hx hy hc;rw[aby,aby]at this
  have A9:j<ops.size:=by have:=(abj.1 hy).1;omega
  have h2:=Hn Ma hS j _ (abh A9) (λe he hb=>hS j hj _ (abh A9) e he hb) i this;rw[EK]at h2;cases h2
 have Lf:∀t,x.dst=some t->∀j y,es[j]? =some y->y.dst=some t->S j=acQ->j<i:=λt ht j y hy Qw hj=>by
  rcases Nat.lt_trichotomy j i with h|h|h
  .exact h
  .subst h;rw[EK]at hj;cases hj
  .exact(down j y hy h (by unfold conflict;simp[gY,ht,Qw,db]) hj).elim
 have Lg:∀q,q∈x.mut->∀j y,es[j]? =some y->q∈y.mut->S j=acQ->j<i:=λq hq j y hy Lh hj=>by
  rcases Nat.lt_trichotomy j i with h|h|h
  .exact h
  .subst h;rw[EK]at hj;cases hj
  .exact(down j y hy h (by unfold conflict;rw[lT hq (by simp[Lh])];simp) hj).elim
 have Mb:∀t,t∈x.ts->ef (λj=>abI j i) 0 es sl0 t=ef S 0 es sl0 t:=λt ht=>jI rfl λj y hy Qw=>by
  rw[aby]
  rcases Nat.lt_trichotomy j i with h|h|h
  .rw[up j y hy h (by unfold conflict;simp[gY,Qw,db,ht])];simpa using h
  .subst h;rw[EK];exact qV (aaX _)
  .have:S j=acR:=by
    cases hj:S j with
    |false=>rfl
    |true=>exact(down j y hy h (by unfold conflict;simp[gY,Qw,db,ht]) hj).elim
   rw[this];exact qV (by omega)
 have RX:∀q,q∈x.os->dH (λj=>abI j i) 0 es ob0 q=dH S 0 es ob0 q:=λq hq=>jh rfl λj y hy Lh=>by
  rw[aby]
  rcases Nat.lt_trichotomy j i with h|h|h
  .rw[up j y hy h (by unfold conflict;rw[lT Lh (by simp[hq])];simp)];simpa using h
  .subst h;rw[EK];exact qV (aaX _)
  .have:S j=acR:=by
    cases hj:S j with
    |false=>rfl
    |true=>exact(down j y hy h (by unfold conflict;rw[lT (l:=x.os++x.ls++x.mut) (l':=y.mut) (by simp[hq]) Lh];simp) hj).elim
   rw[this];exact qV (by omega)
 have RY:∀q z,q∈x.ls->dH (λj=>abI j i) 0 es ob0 q=some z->∃z',dH S 0 es ob0 q=some z'/\fk z z':=λq z hq hz=>by
  rw[vF (by omega)]at hz
  obtain⟨z',h1,h2⟩:=EJ (S:=S) (i:=i) (q:=q) (λk y hk hy Lh=>by
   by_cases Vz:q∈y.soft
   .exact .inr Vz
   .refine .inl (up k y hy hk ?_)
    have:q∈y.OC:=abw.2 ⟨Lh,by
     cases hb:kJ q y.soft with
     |false=>rfl
     |true=>exact absurd (db.1 hb) Vz⟩
    unfold conflict;rw[lT this hq]
    simp) (λk y hy h1 h2=>Hq k y hy q h1 h2) i (aaX _) (by omega) z hz
  refine⟨z',?_,h2⟩;rw[<-h1]
  conv=>lhs;rw[<-abY i es]
  rw[ij]
  refine lS λk y hy Lh=>?_
  have Xz:es[i+k]? =some y:=by rw[<-hy,abe]
  have el:(es.take i).length=i:=by simp;omega
  rw[el,aby]
  cases OD:S (i+k)with
  |false=>rfl
  |true=>
   rcases Nat.eq_zero_or_pos k with rfl|hk
   .rw[ab3,EK]at OD;cases OD
   .exact(down (i+k) y Xz (by omega) (by unfold conflict;rw[lT (l:=x.os++x.ls++x.mut) (l':=y.mut) (by simp[hq]) Lh];simp) OD).elim
 obtain⟨b,hg,RZ,GA⟩:=uB.on
 have OG:aco o (yielded ops a.tmps)=b:=by
  generalize R0:o.guard=gd at hg
  cases hg with
  |none=>unfold aco;rw[R0]
  |lit h1 h2 h3 h4 h5=>
   rename_i j g b' t d;rw[Mb g h3]at h4;have hy:=ma hf h1 h2 (lD h5 (hinv.slot g _ h4));unfold aco;rw[R0];simp only[hy]
   cases t<;>cases b'<;>rfl
  |undef h1 h2 h3 h4=>
   rename_i j g b';rw[Mb g h3]at h4;have hy:=lq hf h1 h2 (show cq g=undef from hinv.slot g _ h4);unfold aco;rw[R0];simp only[hy]
   cases b'<;>rfl
 have oR:∀v,Fr nt (a.put o.dst v) (rO cq o.dst v):=λv=>by
  have hb:=uB.EH
  cases hd:o.dst with
  |none=>exact hf
  |some d=>rw[hd]at hb;exact hf.put hb v
 have zj:∀t,x.dst=some t↔o.dst=some t:=λt=>by rw[uB.dst]
 unfold wpOp;simp only[ho,OG]
 cases b with
 |false=>
  simp only[aa4,if_false];have he:=GA rfl;refine hk _ (rO cq o.dst undef) H' F' w' (oR undef) ⟨λt d ht=>?_,?_,hinv.all,λk hk tH=>?_,hinv.glob,hinv.keeps,λt ht=>?_⟩
  .rw[vE hx Lf]at ht;split at ht
   .rename_i Mc;obtain rfl:=aaT ht;rw[he]
    show rO cq o.dst undef t=undef
    rw[(zj t).1 Mc]
    show Ae cq t undef t=undef
    rw[mh,acU rfl]
   .rename_i Mc;rw[oe (λe=>Mc ((zj t).2 e))];exact hinv.slot t d ht
  .refine hinv.ob.sub (λq y hq=>?_) (λm hm _=>hinv.all m hm)
   rcases zh hx EK Lg q y.1 y.2 hq with h1|⟨_,h2,_⟩
   .rw[he]at h1;cases h1
   .exact h2
  .by_cases e:k=i
   .subst e;rw[nl]at tH;cases tH
   .rw[np e]at tH;exact hinv.fresh k hk tH
  .rw[oe (λe=>ht x (List.mem_of_getElem? hx) ((zj t).2 e))];exact hinv.same t ht
 |true=>
  simp only[if_true]
  left
  obtain⟨_,⟨RQ,I0,JY,Bi,bq⟩,_⟩:=RZ rfl
  obtain⟨RS,eL,bq⟩:=bq H' F' w' cq (dH S 0 es ob0) (λq y hq=>by
   obtain⟨h1,h2⟩:=Bi q y hq;by_cases R1:q∈x.os
   .exact⟨y,by rw[<-RX q R1];exact h2, .inl rfl,λ_=>rfl⟩
   .rcases h1 with h1|h1
    .exact absurd h1 R1
    .obtain⟨z',h3,h4⟩:=RY q y h1 h2
     exact⟨z',h3,h4,λh=>absurd h R1⟩) (λt d ht=>by
   obtain⟨h1,h2⟩:=JY t d ht;rw[Mb t h1]at h2
   exact hinv.slot t d h2) (hinv.ob.sub (λ_ _ h=>h) (hinv.fresh i zi EK))
  have yN:=hinv.ob.sub eL (hinv.fresh i zi EK)
  refine J0 bq hf λv r8 ⟨rN,AX,oD⟩=>?_
  .have cY:=oD.jr.step yN.lt yN.dC
   have dF:fF rN (n0+16*es.length):=λm hm=>by
    have h1:=hinv.all m hm;have h2:=oD.fresh m (.inr (by omega));exact⟨h2.1 h1.1,h2.2 h1.2⟩
   refine hk _ (rO cq o.dst v) rN AX r8 (oR v) ⟨λt d ht=>?_,?_,dF,λk hk tH m XA R2=>?_,hinv.glob.jr oD.jr yN.eo,hinv.keeps.trans ⟨oD.jr.eR,cY⟩,λt ht=>?_⟩
   .rw[vE hx Lf]at ht;split at ht
    .rename_i Mc;obtain rfl:=aaT ht;rw[(zj t).1 Mc]
     show ah rN AX r8 _ (Ae cq t v t)
     rw[mh,acU rfl];exact oD.dst
    .rename_i Mc;rw[oe (λe=>Mc ((zj t).2 e))];exact(hinv.slot t d ht).keep oD.jr.eR cY
   .exact hinv.ob.Gp eL oD (λq s t hq=>zh hx EK Lg q s t hq) λm hm _=>dF m hm
   .by_cases e:k=i
    .subst e;rw[nl]at tH;cases tH
    .rw[np e]at tH;have h1:=hinv.fresh k hk tH m XA R2;have h2:=oD.fresh m (by omega);exact⟨h2.1 h1.1,h2.2 h1.2⟩
   .rw[oe (λe=>ht x (List.mem_of_getElem? hx) ((zj t).2 e))];exact hinv.same t ht
end
end
end Go.Proofs.YtbladfbbhijpmaaGreat
namespace Go.Proofs.YtbladfbbhijpmaaGreat
open Go Go.RowKit
def qX(dst:Option Nat)(g:Nat):jg:={dst:=dst,ts:=[g],os:=[],e:={dst:= .undef}}
noncomputable def k7{R:Type}{P:Program}(E:Env P)(nt:Nat)(ops:Array Oper):List Oper->State->List jg->(State->Option R)->Option R
 |[],st,acc,k=>bif qU ops.toList acc then k st else acP
 |o::os,st,acc,k=>bif yR nt o.dst then(match o.guard with
  |none=>vD E o.dst o.op [] st (λe x=>k7 E nt ops os (st.apply o.dst e) (acc++[x]) k)
  |some (j,b)=>match CK ops j with
   |none=>acP
   |some g=>bif abI g nt then(match find st.ak g with
    |some .undef=>k7 E nt ops os (st.apply o.dst {dst:= .undef}) (acc++[qX o.dst g]) k
    |some d=>match asBool d with
     |some t=>if t=acQ then
       (bif b then vD E o.dst o.op [g] (st.put (some g) (cZ acQ)) (λe x=>k7 E nt ops os ((st.put (some g) (cZ acQ)).apply o.dst e) (acc++[x]) k)
         else k7 E nt ops os ((st.put (some g) (cZ acQ)).apply o.dst {dst:= .undef}) (acc++[qX o.dst g]) k)
      else
       (bif b then k7 E nt ops os ((st.put (some g) (cZ acR)).apply o.dst {dst:= .undef}) (acc++[qX o.dst g]) k
         else vD E o.dst o.op [g] (st.put (some g) (cZ acR)) (λe x=>k7 E nt ops os ((st.put (some g) (cZ acR)).apply o.dst e) (acc++[x]) k))
     |none=>acP
    |none=>acP)else acP)else acP
section
variable {P:Program} {nt:Nat} {ops:Array Oper} {R:Type}
variable {G:Nat->Prop} {w0:World} {F0:Nat->Prop} {sl0:Nat->Option aj} {ob0:Nat->Option (Nat×Th)} {n0:Nat}
structure Lex(P:Program)(nt:Nat)(ops:Array Oper)(U:Nat->Prop)(sl0:Nat->Option aj)(ob0:Nat->Option (Nat×Th))(n0:Nat)(es:List jg)(st:State):Prop where
 slot:∀t,find st.ak t=ef EI 0 es sl0 t
 ob:∀o,find st.objs o=dH EI 0 es ob0 o
 nxt:st.nxt=n0+16*es.length
 ok:∀i o x,ops[i]? =some o->es[i]? =some x->L8 P ops nt U o (ef EI 0 (es.take i) sl0) (dH EI 0 (es.take i) ob0) (n0+16*i) x
theorem Bl{S:Nat->Bool}{es:List jg}{x:jg}{f:Nat->Option aj}{t:Nat}(h:S es.length=acQ):ef S 0 (es++[x]) f t=if x.dst=some t then some x.e.dst else ef S 0 es f t:=by
 rw[mq,aby]
 show(bif S es.length&&gY (some t) x.dst.toList then some x.e.dst else ef S 0 es f t)=_
 rw[h,Bool.true_and];by_cases hd:x.dst=some t
 .rw[acU hd,pT.2 hd];rfl
 .rw[acT hd]
  cases hb:gY (some t) x.dst.toList with
  |false=>rfl
  |true=>exact absurd (pT.1 hb) hd
theorem EL{S:Nat->Bool}{es:List jg}{x:jg}{f:Nat->Option (Nat×Th)}{o:Nat}(h:S es.length=acQ):dH S 0 (es++[x]) f o=(find x.e.make o).or (bif kJ o x.e.eat then acP else dH S 0 es f o):=by
 rw[ij,aby]
 show(bif S es.length then _ else _)=_
 rw[h];rfl
theorem qY{st:State}{dst:Option Nat}{e:c9}{t:Nat}:find (st.apply dst e).ak t=if dst=some t then some e.dst else find st.ak t:=by
 cases dst with
 |none=>simp[State.apply]
 |some d=>
  show find ((d,e.dst)::st.ak) t=_
  rw[aA];by_cases h:d=t
  .simp[h]
  .simp[h]
theorem rT{st:State}{dst:Option Nat}{e:c9}{o:Nat}:find (st.apply dst e).objs o=(find e.make o).or (bif kJ o e.eat then acP else find st.objs o):=by
 show find (e.make++del e.eat st.objs) o=_
 rw[fD]
 congr 1
 cases hb:kJ o e.eat with
 |true=>
  rw[cond_true]
  cases h:find (del e.eat st.objs) o with
  |none=>rfl
  |some x=>exact absurd (db.1 hb) (fE.1 h).1
 |false=>
  rw[cond_false]
  have hn:o∉e.eat:=λh=>by rw[db.2 h]at hb;cases hb
  cases h:find st.objs o with
  |some x=>exact fE.2 ⟨hn,h⟩
  |none=>
   cases h2:find (del e.eat st.objs) o with
   |none=>rfl
   |some x=>rw[(fE.1 h2).2]at h;cases h
theorem Lex.snoc{U:Nat->Prop}{es:List jg}{st:State}{x:jg}{o:Oper}(h:Lex P nt ops U sl0 ob0 n0 es st)(ho:ops[es.length]? =some o)(hd:x.dst=o.dst)
 (kz:L8 P ops nt U o (find st.ak) (find st.objs) st.nxt x):Lex P nt ops U sl0 ob0 n0 (es++[x]) (st.apply o.dst x.e):=by
 refine⟨λt=>?_,λq=>?_,?_,λi o' y iY hy=>?_⟩
 .rw[qY,Bl rfl,hd,h.slot t]
 .rw[rT,EL rfl,h.ob q]
 .show st.nxt+16=_
  rw[h.nxt,aba,List.length_singleton];omega
 .rcases Nat.lt_or_ge i es.length with ag|hge
  .rw[List.getElem?_append_left ag]at hy;rw[List.take_append_of_le_length (by omega)];exact h.ok i o' y iY hy
  .have hi:i=es.length:=by
    have:=(abj.1 hy).1;simp at this;omega
   subst hi;simp at hy;subst hy;rw[ho]at iY;obtain rfl:=aaT iY;rw[List.take_left']
   .rw[<-funext h.slot,<-funext h.ob,<-h.nxt];exact kz
   .rfl
theorem Lex.put{U:Nat->Prop}{es:List jg}{st:State}{g:Nat}{d:aj}(h:Lex P nt ops U sl0 ob0 n0 es st)(hg:find st.ak g=some d):Lex P nt ops U sl0 ob0 n0 es (st.put (some g) d):=by
 refine⟨λt=>?_,h.ob,h.nxt,h.ok⟩
 show find ((g,d)::st.ak) t=_
 rw[aA,<-h.slot t];split
 .rename_i e;subst e;exact hg.symm
 .rfl
theorem EM{d:aj}{t:Bool}(h:asBool d=some t):d=cZ t:=by
 unfold asBool at h
 split at h<;>cases h
 rfl
theorem zk{E:Env P}{q:R}{k:State->Option R}:{l:List Oper}->{st:State}->{es:List jg}->k7 E nt ops l st es k=some q->(∀j,l[j]? =ops[es.length+j]?)->Lex P nt ops (UU G w0) sl0 ob0 n0 es st->
 ∃jE cG,k cG=some q/\qU ops.toList jE=acQ/\Lex P nt ops (UU G w0) sl0 ob0 n0 jE cG/\jE.length=es.length+l.length
 |[],st,es,h,_,hl=>by
  unfold k7 at h;obtain⟨h1,h2⟩:=aB h;exact⟨es,st,h2,h1,hl,rfl⟩
 |o::l,st,es,h,mf,hl=>by
  have ho:ops[es.length]? =some o:=by simpa using(mf 0).symm
  have OH:∀x:jg,∀j,l[j]? =ops[(es++[x]).length+j]? :=λx j=>by
   have:=mf (j+1);rw[aba,List.length_singleton,show es.length+1+j=es.length+(j+1)from by omega];simpa using this
  have go:∀{st1:State}{x:jg},k7 E nt ops l st1 (es++[x]) k=some q->Lex P nt ops (UU G w0) sl0 ob0 n0 (es++[x]) st1->∃jE cG,k cG=some q/\qU ops.toList jE=acQ/\Lex P nt ops (UU G w0) sl0 ob0 n0 jE cG/\jE.length=es.length+(o::l).length:=by
   intro st1 x h1 h2;obtain⟨jE,cG,a1,a2,a3,a4⟩:=zk h1 (OH x) h2;refine⟨jE,cG,a1,a2,a3,?_⟩;rw[a4,aba,List.length_singleton,aa6];omega
  unfold k7 at h;obtain⟨hd,h'⟩:=aB h;clear h
  have on:∀{st1:State}{gs:List Nat},vD E o.dst o.op gs st1 (λe x=>k7 E nt ops l (st1.apply o.dst e) (es++[x]) k)=some q->Lex P nt ops (UU G w0) sl0 ob0 n0 es st1->(∀ts:List Nat,(∀g∈gs,g∈ts)->L7 ops nt ts (find st1.ak) o.guard acQ)->∃jE cG,k cG=some q/\qU ops.toList jE=acQ/\Lex P nt ops (UU G w0) sl0 ob0 n0 jE cG/\jE.length=es.length+(o::l).length:=by
   intro st1 gs h1 h2 h3;obtain⟨e,x,a1,a2,a3,a4⟩:=Hk (U:=UU G w0) h1;subst a2;exact go a1 (h2.snoc ho a4.dst ⟨a4.dst,hd,acQ,h3 _ a3,λ_=>a4,λh=>by cases h⟩)
  have off:∀{st1:State}{g:Nat},k7 E nt ops l (st1.apply o.dst {dst:= .undef}) (es++[qX o.dst g]) k=some q->Lex P nt ops (UU G w0) sl0 ob0 n0 es st1->L7 ops nt [g] (find st1.ak) o.guard acR->∃jE cG,k cG=some q/\qU ops.toList jE=acQ/\Lex P nt ops (UU G w0) sl0 ob0 n0 jE cG/\jE.length=es.length+(o::l).length:=by
   intro st1 g h1 h2 h3;exact go (x:=qX o.dst g) h1 (h2.snoc (x:=qX o.dst g) ho rfl ⟨rfl,hd,acR,h3,λh=>(by cases h),λ_=>rfl⟩)
  split at h'
  .rename_i Hr
   exact on h' hl λts _=>by rw[Hr];exact .none
  .rename_i j b Hr;split at h'
   case h_1=>cases h'
   rename_i g K9;obtain⟨La,h⟩:=aB h';clear h';split at h
   .rename_i hu;exact off h hl (by rw[Hr];exact .undef K9 La (by simp) hu)
   .rename_i d fq;split at h
    case h_2=>cases h
    rename_i t ht;obtain rfl:=EM ht
    have OI:∀v:Bool,find (st.put (some g) (cZ v)).ak g=some (cZ v):=λv=>by
     show find ((g,cZ v)::st.ak) g=_
     rw[aA,acU rfl]
    have J1:∀(v:Bool)(ts:List Nat)(r:Bool),g∈ts->r=decide (v=b)->L7 ops nt ts (find (st.put (some g) (cZ v)).ak) (some (j,b)) r:=λv ts r hg hr=>by
     rw[hr];exact .lit K9 La hg (OI v) rfl
    split at h
    .rename_i JW;subst JW;have FD:=hl.put fq
     cases b with
     |true=>rw[cond_true]at h;exact on h FD λts R3=>by rw[Hr];exact J1 acQ ts acQ (R3 g (by simp)) rfl
     |false=>rw[cond_false]at h;exact off h FD (by rw[Hr];exact J1 acQ [g] acR (by simp) rfl)
    .rename_i JW
     have JW:t=acR:=by cases t<;>simp_all
     subst JW;have FD:=hl.put fq
     cases b with
     |true=>rw[cond_true]at h;exact off h FD (by rw[Hr];exact J1 acR [g] acR (by simp) rfl)
     |false=>rw[cond_false]at h;exact on h FD λts R3=>by rw[Hr];exact J1 acR ts acQ (R3 g (by simp)) rfl
   .cases h
def OJ(m:Nat)(listed:Array Bool):Nat:=((aa2 m).filter λj=> !listed.getD j acR).length
theorem CO{m i:Nat}{listed:Array Bool}(hi:i<m)(hs:listed.size=m)(h:listed.getD i acR=acR):OJ m (listed.setIfInBounds i acQ)+1<=OJ m listed:=by
 unfold OJ
 have eL:∀l:List Nat,(l.filter λj=> !(listed.setIfInBounds i acQ).getD j acR).length<=(l.filter λj=> !listed.getD j acR).length/\(i∈l->(l.filter λj=> !(listed.setIfInBounds i acQ).getD j acR).length+1<=(l.filter λj=> !listed.getD j acR).length):=by
  intro l
  induction l with
  |nil=>exact⟨aaX _,λh=>by cases h⟩
  |cons j l ih=>
   by_cases hj:i=j
   .subst hj
    have e1:(listed.setIfInBounds i acQ).getD i acR=acQ:=by simp[abA,hs,hi]
    rw[acB,acB,e1,h];simp only[Bool.not_true,aa4,if_false,Bool.not_false,if_true,aa6];exact⟨by omega,λ_=>by omega⟩
   .have e1:(listed.setIfInBounds i acQ).getD j acR=listed.getD j acR:=getD_set_ne acR hj;rw[acB,acB,e1]
    cases listed.getD j acR with
    |true=>
     simp only[Bool.not_true,aa4,if_false];exact⟨ih.1,λhm=>ih.2 (by simpa[hj]using hm)⟩
    |false=>
     simp only[Bool.not_false,if_true,aa6];exact⟨by omega,λhm=>by have:=ih.2 (by simpa[hj]using hm);omega⟩
 exact(eL _).2 (by simpa using hi)
theorem J2{E:Env P}{id:Nat}{q:R}{k:State->Option R}{st:State}{H:an}{F:Nat->Prop}{w:World}{ρ:Nat->Value}{Q:Exit->(Nat->Value)->World->Prop}(hm:P.follows .mixedOrders=acQ)
 (h:k7 E nt ops ops.toList st [] k=some q)(hh:cg G w0 F0 H F w ρ st)
 (hk:∀cG H' F' w' cq,k cG=some q->cg G w0 F0 H' F' w' cq cG->bQ H F w H' F' w'->(∀t,(∀o∈ops.toList,o.dst≠some t)->cq t=ρ t)->Q .normal cq w'):r3 P nt (.region id ops acQ) Q ρ w:=by
 obtain⟨es,cG,LL,jS,Bm,hlen⟩:=zk (G:=G) (w0:=w0) (sl0:=find st.ak) (ob0:=find st.objs) (n0:=st.nxt) h (λj=>by simp) ⟨λ_=>rfl,λ_=>rfl,by simp,λi o x _ hx=>by simp at hx⟩;simp only[abS,aby,Array.length_toList]at hlen;unfold qU at jS;split at jS
 case h_2=>cases jS
 rename_i ms Ma
 have zj:∀x∈es,∃o∈ops.toList,x.dst=o.dst:=λx hx=>by
  obtain⟨i,hi,rfl⟩:=abD hx
  have ag:i<ops.size:=by omega
  exact⟨ops[i],by simp,(Bm.ok i ops[i] es[i] (abh ag) (aaW hi)).dst⟩
 have Hq:∀k y,es[k]? =some y->∀q,q∈y.soft->q∈y.mut->∃z z',dH EI 0 (es.take k) (find st.objs) q=some z/\find y.e.make q=some z'/\fk z z':=λk y hy q h1 h2=>by
  have ag:k<es.length:=(abj.1 hy).1;obtain⟨_,_,b,_,RZ,GA⟩:=Bm.ok k _ y (abh (by omega)) hy
  cases b with
  |true=>exact(RZ rfl).soft q h1 h2
  |false=>
   rw[jg.mut,GA rfl]at h2;simp[oE]at h2
 have CP:∀i o,ops[i]? =some o->∀e∈o.after,acx .any e=acQ->e.on<i:=λi o ho e he hb=>by
  obtain⟨m,h1,_⟩:=(w8 Ma).2.2 i o (by rw[Array.getElem?_toList];exact ho);simp only[abS,aby]at h1;exact CM h1 e (by simpa using he) hb
 intro a hf;refine wp_region_any hm ?_
 have main:∀fuel(listed:Array Bool)(a:Act)(w':World)H' F' cq,listed.size=ops.size->OJ ops.size listed<=fuel->Bj ops (λj=>listed.getD j acR=acQ)->Fr nt a cq->
  Inv G w0 F0 es (find st.ak) (find st.objs) st.nxt H F w ρ (λj=>listed.getD j acR) H' F' w' cq->wpAny P .any ops (λe a' w'=>∃cq,Fr nt a' cq/\Q e cq w') fuel listed a w':=by
  have done:∀(listed:Array Bool)(a:Act)(w':World)H' F' cq,(∀i,i<ops.size->listed.getD i acR=acQ)->Fr nt a cq->Inv G w0 F0 es (find st.ak) (find st.objs) st.nxt H F w ρ (λj=>listed.getD j acR) H' F' w' cq->∃cq,Fr nt a cq/\Q .normal cq w':=by
   intro listed a w' H' F' cq dF hf hinv
   have eS:∀t,ef (λj=>listed.getD j acR) 0 es (find st.ak) t=find cG.ak t:=λt=>by
    rw[Bm.slot t]
    refine jI rfl λk x hx _=>?_
    have:=(abj.1 hx).1;rw[aby];exact dF k (by omega)
   have eO:∀o,dH (λj=>listed.getD j acR) 0 es (find st.objs) o=find cG.objs o:=λo=>by
    rw[Bm.ob o]
    refine jh rfl λk x hx _=>?_
    have:=(abj.1 hx).1;rw[aby];exact dF k (by omega)
   refine⟨cq,hf,hk cG H' F' w' cq LL ⟨⟨λt d hd=>hinv.slot t d (by rw[eS];exact hd),?_,?_⟩,hinv.glob⟩ hinv.keeps λt ht=>hinv.same t λx hx=>?_⟩
   .have:=hinv.ob;rw[funext eO]at this;rw[Bm.nxt];exact this
   .rw[Bm.nxt];exact hinv.all
   .obtain⟨o,ho,e⟩:=zj x hx;rw[e];exact ht o ho
  have EN:∀(listed:Array Bool),listed.size=ops.size->Region.ready .any ops listed=[]->∀i,i<ops.size->listed.getD i acR=acQ:=by
   intro listed hs hr i
   induction i using Nat.strongRecOn with
   |_ i ih=>
    intro hi
    cases hl:listed.getD i acR with
    |true=>rfl
    |false=>
     have:i∈Region.ready .any ops listed:=mem_ready.2 ⟨by
      simp only[abA]at hl⊢;rw[abh (by omega)]at hl⊢
      simpa using hl,ops[i],abh hi,λe he hb=>ih e.on (CP i _ (abh hi) e he hb) (by
       have:=CP i _ (abh hi) e he hb
       omega)⟩
     rw[hr]at this;cases this
  intro fuel
  induction fuel with
  |zero=>
   intro listed a w' H' F' cq hs hu hc hf hinv
   have dF:∀i,i<ops.size->listed.getD i acR=acQ:=λi hi=>by
    cases hl:listed.getD i acR with
    |true=>rfl
    |false=>
     have:=CO hi hs hl;omega
   refine⟨?_,done listed a w' H' F' cq dF hf hinv⟩
   cases hr:Region.ready .any ops listed with
   |nil=>rfl
   |cons i l=>
    have hi:i∈Region.ready .any ops listed:=by rw[hr];simp
    obtain⟨h1,o,h2,_⟩:=mem_ready.1 hi;have ag:=(abx.1 h2).1;have h3:=dF i ag;simp only[abA]at h1 h3;rw[abh (by omega)]at h1 h3;simp at h1 h3;rw[h1]at h3;cases h3
  |succ fuel ih=>
   intro listed a w' H' F' cq hs hu hc hf hinv;refine⟨λhr=>done listed a w' H' F' cq (EN listed hs hr) hf hinv,λi hi=>?_⟩;obtain⟨h1,o,ho,CN⟩:=mem_ready.1 hi;have ag:=(abx.1 ho).1
   have EK:listed.getD i acR=acR:=by
    simp only[abA]at h1⊢;rw[abh (by omega)]at h1⊢;simpa using h1
   have hx:es[i]? =some (es[i]'(by omega)):=aaW (by omega);have uB:=Bm.ok i o _ ho hx;rw[<-Bk (by omega),<-vF (by omega)]at uB
   have tH:(λj=>(listed.setIfInBounds i acQ).getD j acR)=ins (λj=>listed.getD j acR) i:=by
    funext j;by_cases e:j=i
    .subst e;rw[nl];simp[abA,hs,ag]
    .rw[np e];exact getD_set_ne acR (Ne.symm e)
   refine tG Ma jS hlen hc ho hx EK CN Hq uB hf hinv λOF qW rN AX r8 R4 Md=>?_
   refine ih _ OF r8 rN AX qW (by simp[hs]) ?_ ?_ R4 ?_
   .have:=CO ag hs EK;omega
   .intro j hj o' iY e he hb;by_cases ej:j=i
    .subst ej;rw[ho]at iY;obtain rfl:=aaT iY;exact getD_set_true (CN e he hb)
    .have I7:listed.getD j acR=acQ:=by
      have:(listed.setIfInBounds i acQ).getD j acR=listed.getD j acR:=getD_set_ne acR (Ne.symm ej);rw[<-this];exact hj
     exact getD_set_true (hc j I7 o' iY e he hb)
   .rw[tH];exact Md
 have R5:∀j,(Array.replicate ops.size acR).getD j acR=acR:=λj=>by
  simp only[abA];by_cases hj:j<ops.size
  .simp[hj]
  .simp[hj]
 have hw:Step F w F w.drew:=Step.drew F w
 refine main ops.size _ a _ H F ρ (by simp) ?_ (λi hi=>by
  have jF:(Array.replicate ops.size acR).getD i acR=acQ:=hi;rw[R5]at jF
  cases jF) hf ⟨λt d hd=>?_,?_,λm hm=>hh.sat.all m (by omega),λi hi _ m hm _=>hh.sat.all m (by omega),⟨⟨hh.glob.ext.os,⟨hh.glob.ext.tape.1,Nat.le_succ_of_le hh.glob.ext.tape.2⟩,hh.glob.ext.output,hh.glob.ext.size,hh.glob.ext.block⟩,hh.glob.le,hh.glob.new⟩,⟨an.le.refl H,hw⟩,λ_ _=>rfl⟩
 .unfold OJ;exact abi (acb _ _) (by simp)
 .rw[mo λk x _ _=>R5 _]at hd;exact(hh.sat.slot t d hd).keep (an.le.refl H) hw
 .have e:dH (λj=>(Array.replicate ops.size acR).getD j acR) 0 es (find st.objs)=find st.objs:=by
   funext o
   exact lS λk x _ _=>R5 _
  rw[e];have hb:=hh.sat.ob;refine⟨λo s t ho=>?_,hb.apart,λm hm _=>hh.sat.all m (by omega),hb.lt,hb.new,hb.gl.step (λ_ h=>⟨h,rfl⟩)⟩;obtain⟨v,hv,bP⟩:=hb.obj o s t ho;exact⟨v,hv,bP.one,bP.con,bP.ok.heap (an.le.refl H) hw λ_ _=>rfl,bP.no,bP.lt,bP.use⟩
end
end Go.Proofs.YtbladfbbhijpmaaGreat
end
