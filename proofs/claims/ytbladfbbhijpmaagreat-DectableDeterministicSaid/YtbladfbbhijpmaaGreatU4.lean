/- Joined texts: Call2 Ifc Exec Draw2 Draw4. -/
import Derived.Test.YtbladfbbhijpmaaGreatU3
open _root_.Bool renaming false->aaM,true->aaL
open _root_.Option renaming none->aaK,isSome_iff_exists->ZC,none_or->Z4
open _root_.Nat renaming beq->YZ,blt->ZK,le_refl->YY,lt_of_lt_of_le->Zv,le_trans->Zj
open _root_.Option.some renaming inj->YU,injEq->Y3
open _root_.Prod.mk renaming injEq->ZV,inj->aan
open _root_.List renaming getElem?_drop->Zc,getElem?_take->Zo,mem_cons_of_mem->Zm
open _root_.Go.Result renaming andThen->Za
open _root_.Go.Sem renaming run_bind->Zs
open _root_.Array renaming toArray_toList->ZF
open _root_.List.cons renaming injEq->Z8
namespace Go.Proofs.YtbladfbbhijpmaaGreat
open Go Go.RowKit
set_option maxRecDepth 100000
set_option linter.unusedSimpArgs false
set_option linter.unusedVariables false
set_option linter.defProp false
section
def fo:Nat->List ag->List (Nat×ag)
 |_,[]=>[]
 |k,d::ds=>(k,d)::fo (k+1) ds
def J3(n:Nat)(bs:Bs)(aD:List (Nat×(Nat×Th)))(m:Nat)(j:Nat):Nat:=
 bif ZK j m then(match find bs j with
  |some (some o)=>(match find aD o with
   |some _=>o
   |none=>n+j)
  |_=>n+j)else n+j
def lG(aD:List (Nat×(Nat×Th))):List Nat->List (Nat×(Nat×Th))
 |[]=>[]
 |o::os=>match find aD o with
  |some (s,t)=>bif c7 t then(o,(s,t))::lG aD os else lG aD os
  |none=>lG aD os
def always(_:Row):Bool:=aaL
def BO(sg:oq):Bool:=nR Row.xH sg.out.ah&&uq Row.xH sg.out.objs
def pO{R:Type}(sg:oq)(n:Nat)(bs:Bs)(aD:List (Nat×(Nat×Th)))(nd:List Nat)(y:ct sg.out.rows)(k:cU->Option R):Option R:=
 match Gj (cn (oK (J3 n bs aD sg.inn.nxt) sg.out.ah) (cA _ y)).1 with
 |some D=>bif BO sg then k {dst:=D,eat:=e8 bs,make:=eV n (xG (J3 n bs aD sg.inn.nxt) sg.out.objs) (cn (oK (J3 n bs aD sg.inn.nxt) sg.out.ah) (cA _ y)).2}
   else k {dst:=D,eat:=e8 bs++nd,make:=eV n (xG (J3 n bs aD sg.inn.nxt) sg.out.objs) (cn (oK (J3 n bs aD sg.inn.nxt) sg.out.ah) (cA _ y)).2++lG aD nd}
 |none=>aaK
def la{R:Type}(objs:List (Nat×(Nat×Th)))(n:Nat)(f:FuncId)(ds:List ag)(k:cU->Option R):List (Nat×oq)->Option R
 |[]=>aaK
 |(g,sg)::tab=>bif YZ g f then(match um 0 [] sg.inn (fo 0 ds) objs with
    |some (x,bs,aD)=>bif YZ ds.length sg.inn.ah.length&&pM 0 sg.out.ah&&Nat.ble sg.out.nxt 16&&Nat.ble sg.out.objs.length 16&&(nR always sg.out.ah)then
      (sg.fn x).bind λy=>pO sg n bs aD (ul 0 sg.inn (fo 0 ds) objs) y k else aaK
    |none=>la objs n f ds k tab)else la objs n f ds k tab
def Nz(c:Nat×List Bool×Nat):ag:= .ptr c.1 c.2.1 c.2.2
theorem r9{H:aj}{F:Nat->Prop}{w:World}:{cs:List (Nat×List Bool×Nat)}->{vs:List Value}->il H cs vs->dK H F w (cs.map Nz) vs
 |[],_,h=>h
 |_::_,_,h=>by obtain⟨v,us,e,h1,h3⟩:=h;exact⟨v,us,e,h1,r9 h3⟩
theorem oM{H:aj}{F:Nat->Prop}{w:World}:{ds es:List ag}->{vs us:List Value}->dK H F w ds vs->dK H F w es us->dK H F w (ds++es) (vs++us)
 |[],_,vs,_,h,h'=>by rw[show vs=[]from h];exact h'
 |_::_,_,_,_,h,h'=>by obtain⟨v,us,rfl,h1,h2⟩:=h;exact⟨v,_,rfl,h1,oM h2 h'⟩
def BP(rd:Operand->Option ag)(x:Operand):Option (FuncId×List (Nat×List Bool×Nat)):=
 match rd x with
 |some (.fn f caps)=>some (f,caps)
 |_=>aaK
def uw{R:Type}(tab:List (Nat×oq))(rd:Operand->Option ag)(objs:List (Nat×(Nat×Th)))(n:Nat)(x:Operand)(args:List Operand)(k:cU->Option R):Option R:=
 match BP rd x with
 |some (f,caps)=>match oC rd args with
  |some ds=>la objs n f (ds++caps.map Nz) k tab
  |none=>aaK
 |none=>aaK
section
variable {P:Program} {ρ:Nat->Value} {w w':World} {H H':aj} {F F':Nat->Prop} {U:Nat->Prop} {n:Nat} {R:Type}
variable {ty:TypeId} {pos:String} {aft:Array Edge} {dst:Option Nat}
theorem lX:{ds:List ag}->{vs:List Value}->{k:Nat}->dK H F w ds vs->∀t d,find (fo k ds) t=some d->k<=t/\af H F w d (vs.getD (t-k) undef)
 |[],_,_,_,_,_,h=>by cases h
 |d0::ds,vs,k,h,t,d,hf=>by
  obtain⟨v,us,rfl,h1,h2⟩:=h;have ni:find ((k,d0)::fo (k+1) ds) t=some d:=hf;rw[ax]at ni;split at ni
  .rename_i e;subst e;obtain rfl:=YU ni;exact⟨YY _,by simpa using h1⟩
  .obtain⟨h3,h4⟩:=lX h2 t d ni;refine⟨by omega,?_⟩;rw[show t-k=(t-(k+1))+1 from by omega];simpa using h4
theorem jy{aD:List (Nat×(Nat×Th))}:{nd:List Nat}->{o s:Nat}->{t:Th}->find (lG aD nd) o=some (s,t)->o∈nd/\find aD o=some (s,t)/\c7 t=aaL
 |[],_,_,_,h=>by cases h
 |o0::nd,o,s,t,h=>by
  unfold lG at h;split at h
  .rename_i s0 t0 h0
   cases hb:c7 t0 with
   |true=>
    rw[hb,cond_true,ax]at h;split at h
    .rename_i e;simp only[Y3,ZV]at h;obtain⟨rfl,rfl⟩:=h;subst e;exact⟨by simp,h0,hb⟩
    .obtain⟨a,b⟩:=jy h;exact⟨by simp[a],b⟩
   |false=>
    rw[hb,cond_false]at h;obtain⟨a,b⟩:=jy h;exact⟨by simp[a],b⟩
  .obtain⟨a,b⟩:=jy h;exact⟨by simp[a],b⟩
theorem oN:{l:List (Nat×OS)}->uq always l=aaL
 |[]=>rfl
 |(t,s)::l=>by
  have ht:∀sh:Sh,sh.fP always=aaL:=by
   intro sh
   induction sh with
   |leaf r=>rfl
   |own j=>rfl
   |nil=>rfl
   |junk n=>rfl
   |pair a b QC QD=>show(a.fP always&&b.fP always)=aaL;rw[QC,QD];rfl
  have:s.fP always=aaL:=by
   cases s with
   |box T t=>exact ht t
   |own T r=>rfl
   |map T K agg V=>rfl
   |deep T d=>
    have hd:∀d:DR,d.fP always=aaL:=by
     intro d
     induction d with
     |leaf r=>rfl
     |sl T d ih=>exact ih
     |pair a b QC QD=>show(a.fP always&&b.fP always)=aaL;rw[QC,QD];rfl
    exact hd d
   |smap T K agg V it=>rfl
  show(s.fP always&&uq always l)=aaL
  rw[this,oN];rfl
def je(H H':aj)(n:Nat)(cons:List (Nat×(Nat×Th)))(m0:Nat):aj where
 val m:=if n<=m/\m<n+16 then H'.val (m-n)else H.val m
 con m:=if n<=m/\m<n+16 then oJ cons m else H.con m
 sub m:=if n<=m/\m<n+16 then H'.sub (m-n+m0)else H.sub m
theorem DA{dd:Option Nat}{f:FuncId}{fn:Func}{g:Operand}{args:Array Operand}{vs us:List Value}{qv:Array TypeId}(hf:P.funcs[f]? =some fn)(hn:(fn.name== "runtime.NumGoroutine")=aaM)(hb:fn.body.isNone=aaM)(P6:args.toList.map (ev ρ)=vs)(hg:ev ρ g= .func (.func f) #[] us.toArray):
 (execOp (ev ρ) ⟨dd, .call {callee:= .value g,args:=args,argTypes:=qv},ty,pos,aft,aaK⟩).run P w= .ok (.enter f (vs++us).toArray) w:=by
 subst P6
 have Ft:¬fn.name= "runtime.NumGoroutine" :=by simpa using hn
 have qX:¬fn.body=aaK:=by
  intro e;rw[e]at hb;cases hb
 have e:(Array.map (ev ρ) args++us.toArray)=(args.toList.map (ev ρ)++us).toArray:=by simp
 simp[execOp,resolve,hg,Deferred.ofValue,invoke,callFunc,hf,Ft,qX,go_sem,e]
theorem DB{sg:oq}{f:FuncId}(th:gK P f sg){objs:List (Nat×(Nat×Th))}{op:Op}{k:cU->Option R}{q:R}{ds:List ag}{vs:List Value}{x:ct sg.inn.rows}{bs:Bs}{aD:List (Nat×(Nat×Th))}
 (ux:dK H F w ds vs)(bn:∀fn,P.funcs[f]? =some fn->(fn.name== "runtime.NumGoroutine")=aaM->fn.body.isNone=aaM->(execOp (ev ρ) ⟨dst,op,ty,pos,aft,aaK⟩).run P w= .ok (.enter f vs.toArray) w)(hs:al U H F w (find objs) n)
 (QE:um 0 [] sg.inn (fo 0 ds) objs=some (x,bs,aD))
 (h':(bif YZ ds.length sg.inn.ah.length&&pM 0 sg.out.ah&&Nat.ble sg.out.nxt 16&&Nat.ble sg.out.objs.length 16&&(nR always sg.out.ah)then
   (sg.fn x).bind λy=>pO sg n bs aD (ul 0 sg.inn (fo 0 ds) objs) y k else aaK)=some q):
 ∃e,k e=some q/\bK P U H F w ρ (find objs) n ⟨dst,op,ty,pos,aft,aaK⟩ e:=by
 obtain⟨hc,h'⟩:=ay h';obtain⟨hc,VD⟩:=bO hc;obtain⟨hc,JY⟩:=bO hc;obtain⟨hc,IG⟩:=bO hc;obtain⟨sZ,wP⟩:=bO hc;have sZ:=beq_true sZ
 have IG:sg.out.nxt<=16:=by simpa using IG
 have JY:sg.out.objs.length<=16:=by simpa using JY
 obtain⟨y,hy,h⟩:=bind_some h';clear h';obtain⟨⟨fn,Qr,VE,VF⟩,jL⟩:=th;have TK:=gM ux
 let H0:aj:=⟨λ_=>aaK,λ_=>aaK,λ_ _=>False⟩
 have IX:al U H0 F w (find (del [] [])) 0:=⟨λ_ _ _ h=>(by cases h),λ_ _ _ _ _ _ _ _ _ h=>(by cases h),λ_ _ _=>⟨rfl,rfl⟩,hs.lt,hs.new,hs.gl⟩
 have VG:bM H0 F w H F w:=⟨⟨λ_ _ h=>(by cases h),λ_ _ h=>(by cases h),λ_ _ h=>(by cases h)⟩,Step.refl F w⟩
 have fc:∀t d,find (fo 0 ds) t=some d->af H F w d (vs.getD t undef):=λt d hd=>by simpa using(lX ux t d hd).2
 obtain⟨F1,H1,pA,zw,If,tf,xF,pK,BM,K3,xL⟩:=r7 (U':=λk=>w.heap.size<=k\/∃o∈e8 bs,∃s t v,find aD o=some (s,t)/\H.val o=some v/\fp (H.sub s) v t k) (ns:=[]) (objs0:=[]) (ρ:=λt=>vs.getD t undef) QE IX (λ_ _=>⟨rfl,rfl⟩) VG hs fc;have xL:=xL (λb hb=> .inl hb) (λo s t v k h1 h2 h3 h4=> .inr ⟨o,h1,s,t,v,h2,h3,h4⟩) (λ_ _ _ _ _ h=>by cases h);generalize hG:(λk=>∃o∈e8 bs,∃s t v,find aD o=some (s,t)/\H.val o=some v/\fp (H.sub s) v t k)=G
 have NA:∀k,G k->¬F1 k:=by
  rw[<-hG]
  rintro k ⟨o,_,s,t,v,h1,h2,h3⟩
  obtain⟨v',cV,bL⟩:=pA.obj _ _ _ h1;rw[h2]at cV;obtain rfl:=YU cV;exact bL.no k h3
 have QF:∀k,G k->bE H (find objs) (e8 bs) k:=by
  rw[<-hG]
  rintro k ⟨o,ho,s,t,v,h1,h2,h3⟩
  rcases gC tf o s t h1 with h4|h4
  .exact⟨o,ho,s,t,v,h4,h2,h3⟩
  .exact(eZ h4 h3).elim
 have NB:al (λk=>w.heap.size<=k\/G k) H1 F1 w (find (eV 0 sg.inn.objs (cn sg.inn.ah (cA sg.inn.rows x)).2)) sg.inn.nxt:=by
  rw[show del [] ([]:List (Nat×(Nat×Th)))=[]from rfl,List.append_nil]at xL;rw[<-hG];exact xL
 have NC:=jL x y hy vs w H1 F1 G (by omega) K3 NB BM NA;generalize zS:ul 0 sg.inn (fo 0 ds) objs=nd at h If tf;generalize QG:J3 n bs aD sg.inn.nxt=φ at h;unfold pO at h;rw[QG]at h;split at h
 case h_2=>cases h
 rename_i D hD
 have px:∀(e:cU),e.dst=D->(∀(w':World)(us:List Value)(H':aj)(F':Nat->Prop),us.length=sg.out.ah.length->Ext G w w'->H1.le H'->(∀b,F1 b->F' b)->(∀b,F' b->F1 b\/w.heap.size<=b\/G b)->
  (∀t d,find (cn sg.out.ah (cA sg.out.rows y)).1 t=some d->af H' F' w' d (us.getD t undef))->al (λk=>w.heap.size<=k\/G k) H' F' w' (find (eV sg.inn.nxt sg.out.objs (cn sg.out.ah (cA sg.out.rows y)).2)) sg.out.nxt->fj H' sg.out.nxt->jc H F w (find objs) n e (tg us) w')->
  bK P U H F w ρ (find objs) n ⟨dst,op,ty,pos,aft,aaK⟩ e:=by
  intro e he nw;have bn:=bn fn Qr VE VF;unfold bK bD;rw[bn]
  refine NC.mono λe' w' ⟨us,he',Gl,H',F',a1,a2,a3,a4,a5,a6,a7⟩=>⟨_,he',nw w' us H' F' Gl a1 a2 a3 a4 a5 a6 a7⟩
 generalize xE:eV n (xG φ sg.out.objs) (cn (oK φ sg.out.ah) (cA sg.out.rows y)).2=cons at h;have QH:=xI (φ:=φ) sg.out.ah (cA sg.out.rows y)
 have K4:∀{H':aj},H1.le H'->fj H' sg.out.nxt->Ren H' (je H H' n cons sg.inn.nxt) φ/\H.le (je H H' n cons sg.inn.nxt)/\∀m,(m<n\/n+16<=m)->(H.val m=aaK->(je H H' n cons sg.inn.nxt).val m=aaK)/\(H.con m=aaK->(je H H' n cons sg.inn.nxt).con m=aaK):=by
  intro H' hle vf
  have Ah:∀j v,H'.val j=some v->j<sg.out.nxt:=λj v hj=>by
   rcases Nat.lt_or_ge j sg.out.nxt with g|g
   .exact g
   .rw[(vf j g).1]at hj;cases hj
  have hold:∀o v,H.val o=some v->¬(n<=o/\o<n+16):=λo v ho hc=>by
   rw[(hs.fresh o hc.1 hc.2).1]at ho;cases ho
  refine⟨λj v hj=>?_,⟨λo v ho=>?_,λs t dZ=>?_,λs t dZ=>?_⟩,λm hm=>?_⟩
  .rw[<-QG];have QI:=Ah j v hj
   have gen:(je H H' n cons sg.inn.nxt).val (n+j)=some v:=by
    simp only[je];rw[aaP (by omega),Nat.add_sub_cancel_left];exact hj
   unfold J3
   cases hb:ZK j sg.inn.nxt with
   |false=>simpa using gen
   |true=>
    rw[cond_true];split
    .rename_i o ho;split
     case h_2=>exact gen
     rename_i e he;obtain⟨u,hu,_⟩:=pA.obj o e.1 e.2 he;have h1:=hle.val _ _ (pK j (some o) ho u hu);rw[hj]at h1;obtain rfl:=YU h1;simp only[je];rw[aaO (hold o _ hu)];exact hu
    .exact gen
  .simp only[je];rw[aaO (hold o v ho)];exact ho
  .simp only[je];rw[aaO (λhc=>by rw[(hs.fresh s hc.1 hc.2).2]at dZ;cases dZ)];exact dZ
  .simp only[je];rw[aaO (λhc=>by rw[(hs.fresh s hc.1 hc.2).2]at dZ;cases dZ)]
  .simp only[je];rw[aaO (by omega),aaO (by omega)];exact⟨id,id⟩
 have made:∀{p:Row->Bool}{us:List Value}{w':World}{H':aj}{F' F2:Nat->Prop}{eat:List Nat},us.length=sg.out.ah.length->nR p sg.out.ah=aaL->uq p sg.out.objs=aaL->qs p F' F2 w'->Ext G w w'->H1.le H'->(∀b,F2 b->F' b)->(∀o,o∈e8 bs->o∈eat)->
  (∀t d,find (cn sg.out.ah (cA sg.out.rows y)).1 t=some d->af H' F' w' d (us.getD t undef))->al (λk=>w.heap.size<=k\/G k) H' F' w' (find (eV sg.inn.nxt sg.out.objs (cn sg.out.ah (cA sg.out.rows y)).2)) sg.out.nxt->fj H' sg.out.nxt->
  af (je H H' n cons sg.inn.nxt) F2 w' D (tg us)/\Made (je H H' n cons sg.inn.nxt) F2 w w' (bE H (find objs) eat) cons/\∀o,(find cons o).isSome->o∈eat\/n<=o:=by
  intro p us w' H' F' F2 eat Gl M4 Ic Px bl hle If eU vh IZ ND;obtain⟨hr,_,_⟩:=K4 hle ND
  have BQ:∀o s t,find cons o=some (s,t)->∃j s' us sh,φ j=o/\t=(b9 (sh.nv φ) us).1/\find (eV sg.inn.nxt sg.out.objs (cn sg.out.ah (cA sg.out.rows y)).2) j=some (s',(b9 sh us).1)/\sh.fP p=aaL/\oJ cons s=some t/\n<=s/\s<n+16/\(je H H' n cons sg.inn.nxt).sub s=H'.sub s':=by
   intro o s t ho;rw[<-xE]at ho⊢;rw[QH]at ho⊢;obtain⟨j,s',QJ,sh,a1,a2,a3,a4,a5,a6,a7,a8⟩:=xJ (m':=sg.inn.nxt) ho
   have ai:s<n+16:=by omega
   refine⟨j,s',QJ,sh,a1,a2,a3,a4 Ic,a5,a6,ai,?_⟩;simp only[je];rw[aaP ⟨a6,ai⟩,a8]
  refine⟨?_,⟨λo s t ho=>?_,λo o' s s' t t' v v' cq ho ij hv cV k hk jd=>?_⟩,λo ho=>?_⟩
  .exact K2 (by rw[xK];exact wP) (by rw[qt];exact Gl) (Gi hr Px M4 vh) hD
  .obtain⟨j,s',QJ,sh,rfl,rfl,a3,a4,a5,a6,a7,a8⟩:=BQ o s t ho;rw[a8];obtain⟨v,hv,bL⟩:=IZ.obj _ _ _ a3;obtain⟨b1,b2,b3⟩:=pL hr Px a4 bL.ok;refine⟨v,hr j v hv,bL.one,?_,b1,λk hk=>⟨λe=>bL.no k (b3 k hk) (If k e),bL.lt k (b3 k hk),?_⟩⟩
   .rw[b2];simp only[je];rw[aaP ⟨a6,a7⟩];exact a5
   .rcases bL.use k (b3 k hk)with h1|h1
    .exact .inl h1
    .obtain⟨o',ij,rest⟩:=QF k h1;exact .inr ⟨o',eU o' ij,rest⟩
  .obtain⟨j,s1,Yj,sh,rfl,rfl,a3,a4,a5,a6,_,a8⟩:=BQ o s t ho;obtain⟨j',Yk,VH,TJ,rfl,rfl,TL,VI,Yl,Ym,_,VJ⟩:=BQ o' s' t' ij;rw[a8]at hk;rw[VJ]at jd;obtain⟨u,hu,bL⟩:=IZ.obj _ _ _ a3;obtain⟨u',BD,xw⟩:=IZ.obj _ _ _ TL;have e1:=hr j u hu;rw[hv]at e1;obtain rfl:=YU e1;have e2:=hr j' u' BD;rw[cV]at e2;obtain rfl:=YU e2;exact IZ.apart j j' _ _ _ _ _ _ (λe=>cq (by rw[e])) a3 TL hu BD k ((pL hr Px a4 bL.ok).2.2 k hk) ((pL hr Px VI xw.ok).2.2 k jd)
  .obtain⟨e,he⟩:=ZC.1 ho;obtain⟨j,s',QJ,sh,rfl,_⟩:=BQ o e.1 e.2 he;rw[<-QG];unfold J3
   cases ZK j sg.inn.nxt with
   |false=>exact .inr (by simp)
   |true=>
    rw[cond_true];split
    .rename_i o ho;split
     .exact .inl (eU o (gu ho))
     .exact .inr (by omega)
    .exact .inr (by omega)
 have NE:∀{w':World}{eat:List Nat},Ext G w w'->(∀o,o∈e8 bs->o∈eat)->Ext (bE H (find objs) eat) w w':=λbl eU=>⟨bl.os,bl.tape,bl.output,bl.size,λk hk hn=>bl.block k hk λhG=>hn (by
  obtain⟨o,ho,rest⟩:=QF k hG
  exact⟨o,eU o ho,rest⟩)⟩
 cases J4:BO sg with
 |true=>
  rw[J4,cond_true]at h;obtain⟨p1,p2⟩:=bO J4;refine⟨_,h,px _ rfl λw' us H' F' Gl a1 a2 a3 a4 a5 a6 a7=>?_⟩;obtain⟨_,g2,g3⟩:=K4 a2 a7;obtain⟨m1,m2,m3⟩:=made (F2:=F) (eat:=e8 bs) Gl p1 p2 (λr hr cs x hx=>bN.Ad hr hx) a1 a2 (λb hb=>a3 b (zw b hb)) (λ_ h=>h) a5 a6 a7;exact⟨_,F,⟨g2,NE a1 (λ_ h=>h),λ_ h=>h,λ_ h=> .inl h,λb hb=>Zv (hs.lt b hb) a1.size⟩,g3,m1,m2,m3⟩
 |false=>
  rw[J4,cond_false]at h;refine⟨_,h,px _ rfl λw' us H' F' Gl a1 a2 a3 a4 a5 a6 a7=>?_⟩;obtain⟨_,g2,g3⟩:=K4 a2 a7;obtain⟨m1,m2,m3⟩:=made (F2:=F') (eat:=e8 bs++nd) Gl VD oN (λr _ cs x hx=>hx) a1 a2 (λ_ h=>h) (λo h=>by simp[h]) a5 a6 a7
  have dZ:Step F1 w F' w':=λb hb=>⟨a3 b hb,a1.block b (pA.lt b hb) λe=>NA b e hb⟩
  have pf:∀o s t,find (lG aD nd) o=some (s,t)->o∈nd/\c7 t=aaL/\∃v,H.val o=some v/\v.oneCell'=aaL/\H.con s=some t.base/\fg H F1 w (H.sub s) v t:=by
   intro o s t ho;obtain⟨b1,b2,b3⟩:=jy ho;obtain⟨v,hv,bL⟩:=pA.obj _ _ _ b2;exact⟨b1,b3,v,hv,bL.one,bL.con,bL.ok⟩
  have part:∀o s t,find (cons++lG aD nd) o=some (s,t)->find cons o=some (s,t)\/find (lG aD nd) o=some (s,t):=by
   intro o s t ho;rw[fh]at ho
   cases hm:find cons o with
   |some e=>rw[hm]at ho;exact .inl ho
   |none=>rw[hm,Z4]at ho;exact .inr ho
  refine⟨_,F',⟨g2,NE a1 (λo h=>by simp[h]),λb hb=>a3 b (zw b hb),λb hb=>?_,a6.lt⟩,g3,m1,⟨λo s t ho=>?_,λo o' s s' t t' v v' cq ho ij hv cV k hk jd=>?_⟩,λo ho=>?_⟩
  .rcases a4 b hb with h1|h1|h1
   .rcases If b h1 with h2|⟨o,ho,rest⟩
    .exact .inl h2
    .exact .inr (.inr ⟨o,by simp[ho],rest⟩)
   .exact .inr (.inl h1)
   .obtain⟨o,ho,rest⟩:=QF b h1;exact .inr (.inr ⟨o,by simp[ho],rest⟩)
  .rcases part o s t ho with h1|h1
   .exact m2.obj o s t h1
   .obtain⟨b1,b2,v,b3,b4,b5,b6⟩:=pf o s t h1;refine⟨v,g2.val _ _ b3,b4,g2.con _ _ b5,by rw[g2.sub _ _ b5];exact b6.heap g2 dZ (λk hk=>(eZ b2 hk).elim),λk hk=>(eZ b2 hk).elim⟩
  .rcases part o s t ho with h1|h1<;>rcases part o' s' t' ij with h2|h2
   .exact m2.apart o o' s s' t t' v v' cq h1 h2 hv cV k hk jd
   .exact eZ (pf o' s' t' h2).2.1 jd
   .exact eZ (pf o s t h1).2.1 hk
   .exact eZ (pf o s t h1).2.1 hk
  .obtain⟨e,he⟩:=ZC.1 ho
   rcases part o e.1 e.2 he with h1|h1
   .exact m3 o (by rw[h1];rfl)
   .exact .inl (by simp[(pf o _ _ h1).1])
theorem kN{NF:List (Nat×oq)}(th:∀p∈NF,gK P p.1 p.2){objs:List (Nat×(Nat×Th))}{f:FuncId}{op:Op}{k:cU->Option R}{q:R}{ds:List ag}{vs:List Value}
 (ux:dK H F w ds vs)(bn:∀fn,P.funcs[f]? =some fn->(fn.name== "runtime.NumGoroutine")=aaM->fn.body.isNone=aaM->(execOp (ev ρ) ⟨dst,op,ty,pos,aft,aaK⟩).run P w= .ok (.enter f vs.toArray) w)(hs:al U H F w (find objs) n):{tab:List (Nat×oq)}->(∀p∈tab,p∈NF)->la objs n f ds k tab=some q->
 ∃e,k e=some q/\bK P U H F w ρ (find objs) n ⟨dst,op,ty,pos,aft,aaK⟩ e
 |[],_,h=>by cases h
 |(f0,sg)::tab,bL,h=>by
  unfold la at h
  cases hb:YZ f0 f with
  |false=>rw[hb,cond_false]at h;exact kN th ux bn hs (λp hp=>bL p (by simp[hp])) h
  |true=>
   rw[hb,cond_true]at h;obtain rfl:=beq_true hb;split at h
   case h_2=>exact kN th ux bn hs (λp hp=>bL p (by simp[hp])) h
   rename_i x bs aD QE;exact DB (th (f0,sg) (bL _ (by simp))) ux bn hs QE h
theorem xM{tab:List (Nat×oq)}(th:∀p∈tab,gK P p.1 p.2){rd:Operand->Option ag}(dD:∀x d,rd x=some d->af H F w d (ev ρ x)){objs:List (Nat×(Nat×Th))}{g:Operand}{args:Array Operand}{qv:Array TypeId}{k:cU->Option R}{q:R}
 (h:uw tab rd objs n g args.toList k=some q)(hs:al U H F w (find objs) n):
 ∃e,k e=some q/\bK P U H F w ρ (find objs) n ⟨dst, .call {callee:= .value g,args:=args,argTypes:=qv},ty,pos,aft,aaK⟩ e:=by
 unfold uw at h;split at h
 case h_2=>cases h
 rename_i f caps hc;split at h
 case h_2=>cases h
 rename_i ds q9;unfold BP at hc;split at hc
 case h_2=>cases hc
 rename_i f' TM hg;cases hc;obtain⟨us,h1,h2⟩:=dD _ _ hg;exact kN th (oM (kD (w:=w) (H:=H) (F:=F) (ρ:=ρ) dD q9) (r9 (F:=F) (w:=w) h2)) (λfn g1 g2 g3=>DA g1 g2 g3 rfl h1) hs (λ_ h=>h) h
end
end
section
section
variable {P:Program} {ρ:Nat->Value} {w w':World} {H H':aj} {F F':Nat->Prop} {U:Nat->Prop} {ob:Nat->Option (Nat×Th)} {n:Nat} {R:Type}
variable {op:Op} {ty:TypeId} {pos:String} {aft:Array Edge} {d:Nat} {dst:Option Nat}
def EN.BR:EN->Bool
 | .other=>aaM
 |_=>aaL
theorem tR.BR{t:TypeId}{k:EN}(h:tR P t k)(hk:k.BR=aaL):∃D,P.underlying t=some D/\∀ms,D≠ .interface ms:=by
 cases k with
 |other=>cases hk
 |struct fs=>obtain⟨arr,h,_⟩:=h;exact⟨_,h,λ_ e=>by cases e⟩
 |_=>exact⟨_,h,λ_ e=>by cases e⟩
def vD(T:aJ P)(t:TypeId):Bool:=match find T.und t with
 |some k=>k.BR
 |none=>aaM
theorem uy(T:aJ P){t:TypeId}(h:vD T t=aaL):∃D,P.underlying t=some D/\∀ms,D≠ .interface ms:=by
 unfold vD at h;split at h
 .rename_i k hk;exact(T.und_ok _ _ hk).BR h
 .cases h
def DC(T:aJ P)(t:TypeId)(D:ag)(k:cU->Option R):Option R:=bif vD T t then k {dst:= .ifc t D}else aaK
theorem I0(T:aJ P){t:TypeId}{D:ag}{x:Operand}{k:cU->Option R}{q:R}(h:DC T t D k=some q)(hs:al U H F w ob n)(hx:af H F w D (ev ρ x)):
 ∃e,k e=some q/\bK P U H F w ρ ob n ⟨some d, .makeInterface t x,ty,pos,aft,aaK⟩ e:=by
 unfold DC at h;obtain⟨h1,h2⟩:=ay h;obtain⟨D0,hD,hn⟩:=uy T h1;refine⟨_,h2,bj hs (v:= .iface t (ev ρ x)) ?_ ⟨_,rfl,hx⟩⟩
 cases D0 with
 |interface ms=>exact absurd rfl (hn ms)
 |_=>simp[execOp,Instr.makeInterface,run_underlying hD,Za]
def mV(T:aJ P)(t:TypeId)(ok:Bool)(D:ag)(k:cU->Option R):Option R:=
 match D with
 | .ifc t' d=>bif YZ t' t&&vD T t then(match ok,d with
   |true, .val agg tr=>k {dst:= .tup [(agg,tr),(aaM, .leaf .bool aaL)]}
   |true,_=>aaK
   |false,d=>k {dst:=d})else aaK
 |_=>aaK
theorem Ai(T:aJ P){xt t:TypeId}{ok:Bool}{D:ag}{x:Operand}{k:cU->Option R}{q:R}(h:mV T t ok D k=some q)(hs:al U H F w ob n)(hx:af H F w D (ev ρ x)):
 ∃e,k e=some q/\bK P U H F w ρ ob n ⟨some d, .typeAssert x xt t ok,ty,pos,aft,aaK⟩ e:=by
 unfold mV at h;split at h
 case h_2=>cases h
 rename_i t' dd;obtain⟨h1,h2⟩:=ay h;obtain⟨h1,h3⟩:=bO h1;obtain rfl:=beq_true h1;obtain⟨D0,hD,hn⟩:=uy T h3;obtain⟨u,hu,hd⟩:=hx
 have bn:(Instr.typeAssert (ev ρ x) xt t' ok).run P w= .ok (if ok then .tuple #[u, .bool aaL]else u) w:=by
  rw[hu]
  cases D0 with
  |interface ms=>exact absurd rfl (hn ms)
  |_=>simp[Instr.typeAssert,run_underlying hD,Za]
 split at h2
 .exact⟨_,h2,bj hs (v:= .tuple #[u, .bool aaL]) (by simp[execOp,bn,Za]) ⟨[u, .bool aaL],rfl,_,_,rfl,hd,_,_,rfl,aw.dR ..,rfl⟩⟩
 .cases h2
 .exact⟨_,h2,bj hs (v:=u) (by simp[execOp,bn,Za]) hd⟩
def BS:List (TypeId×(String×(FuncId×Bool)))->TypeId->String->Option (FuncId×Bool)
 |[],_,_=>aaK
 |(t',(nm,p))::l,t,name=>bif YZ t' t&&(nm==name)then some p else BS l t name
theorem xN{t:TypeId}{name:String}{f:FuncId}{pr:Bool}:{l:List (TypeId×(String×(FuncId×Bool)))}->BS l t name=some (f,pr)->(t,(name,(f,pr)))∈l
 |[],h=>by cases h
 |(t',(nm,p))::l,h=>by
  unfold BS at h
  cases hb:YZ t' t&&(nm==name)with
  |true=>
   rw[hb,cond_true]at h;obtain⟨h1,h2⟩:=bO hb;obtain rfl:=beq_true h1
   obtain rfl:nm=name:=by simpa using h2
   cases h;simp
  |false=>
   rw[hb,cond_false]at h;exact Zm _ (xN h)
theorem Aj{t:TypeId}{name:String}{f:FuncId}{pr:Bool}{v u:Value}{fuel:Nat}(h:Bo P t name f pr)(hr:∀nm,(receiverAt t (.val v) pr (some nm)).run P w= .ok u w):(method (fuel+1) t v name).run P w= .ok (f,u) w:=by
 unfold Bo at h
 cases hi:P.info? t with
 |none=>rw[hi]at h;cases h
 |some ti=>
  rw[hi]at h;have h:(ti.methods.find? λm=>m.name==name).map (λm=>(m.path.toList.length,m.func))=some (0,some (f,pr)):=h
  cases hm:ti.methods.find? λm=>m.name==name with
  |none=>rw[hm]at h;cases h
  |some m=>
   rw[hm]at h;simp only[Option.map_some,Y3,ZV]at h
   have hp:m.path= #[]:=by
    have:=h.1;simpa using this
   simp[method,typeInfo,hi,hm,hp,follow,h.2,hr,Za,Zs]
theorem DD{t e:TypeId}{nm:String}{v:Value}(hu:P.underlying t=some (.pointer e)):(receiverAt t (.val v) aaL (some nm)).run P w= .ok v w:=by
 simp[receiverAt,run_underlying hu,Place.get,Za,Zs]
theorem DE{t e:TypeId}{nm:String}{a:Addr}{u:Value}(hu:P.underlying t=some (.pointer e))(hl:(loadVar e a).run P w= .ok u w):(receiverAt t (.val (.pointer (some a))) aaM (some nm)).run P w= .ok u w:=by
 have hw:Builtin.ssaWrapNilChk_ #[t] t #[.pointer (some a),strVal "",strVal nm]=pure (.pointer (some a)):=rfl;simp[receiverAt,run_underlying hu,Place.get,hw,asAddr,hl,Za,Zs]
theorem sa{t:TypeId}{name:String}{f:FuncId}{fn:Func}{pr:Bool}{v u:Value}{x:Operand}{args:Array Operand}{qv:Array TypeId}(h:Bo P t name f pr)(hx:ev ρ x= .iface t v)(hr:∀nm,(receiverAt t (.val v) pr (some nm)).run P w= .ok u w)
 (hf:P.funcs[f]? =some fn)(hn:(fn.name== "runtime.NumGoroutine")=aaM)(hb:fn.body.isNone=aaM):
 (execOp (ev ρ) ⟨dst, .call {callee:= .invoke x name,args:=args,argTypes:=qv},ty,pos,aft,aaK⟩).run P w= .ok (.enter f (u::args.toList.map (ev ρ)).toArray) w:=by
 have Ft:¬fn.name= "runtime.NumGoroutine" :=by simpa using hn
 have qX:¬fn.body=aaK:=by
  intro e;rw[e]at hb;cases hb
 have hm:=Aj (fuel:=P.types.size+99) h hr;have VK:P.types.size+100=P.types.size+99+1:=rfl
 have e1:(#[Value.iface t v]++Array.map (ev ρ) args).extract 1 (1+args.size)=Array.map (ev ρ) args:=by
  apply Array.ext';simp;exact List.take_of_length_le (by simp)
 have e0:(#[Value.iface t v]++Array.map (ev ρ) args)[0]? =some (Value.iface t v):=by simp[Array.getElem?_append]
 have e2:(#[u]++Array.map (ev ρ) args)=(u::args.toList.map (ev ρ)).toArray:=by apply Array.ext';simp
 simp[execOp,resolve,hx,invoke,callMethod,VK,hm,callFunc,hf,Ft,qX,go_sem,e0,e1,e2]
def rh(T:aJ P)(ob:Nat->Option (Nat×Th))(e:TypeId)(D:ag):Option ag:=
 match find T.und e with
 |none=>aaK
 |some kk=>match D with
  | .ptr o p off=>match ob o with
    |some (_, .box _ tr)=>match tr.get p with
     |some (s,cN)=>bif YZ cN off&&jv T e kk s.size then some (.val (gJ kk) s)else aaK
     |none=>aaK
    |_=>aaK
  |_=>aaK
theorem Ak(T:aJ P){e:TypeId}{D D':ag}{v:Value}(h:rh T ob e D=some D')(hs:al U H F w ob n)(hx:af H F w D v):∃a u,v= .pointer (some a)/\(loadVar e a).run P w= .ok u w/\af H F w D' u:=by
 unfold rh at h;split at h
 .cases h
 rename_i kk hu;split at h
 case h_2=>cases h
 rename_i o p off;split at h
 case h_2=>cases h
 rename_i UW T0 tr bR;split at h
 case h_2=>cases h
 rename_i s cN hg;obtain⟨h1,h2⟩:=ay h;cases h2;obtain⟨h1,h3⟩:=bO h1;obtain rfl:=beq_true h1;obtain⟨b,hb,rfl⟩:=hx;obtain⟨es,hh,JV⟩:=hs.box bR hb;obtain⟨g1,g2⟩:=JV.get hg
 have hc:∀j u,((es.drop cN).take s.size)[j]? =some u->w.cell? ⟨b,cN+j,aaK⟩=some u:=λj u hj=>by
  rw[rF hh];rw[Zo]at hj;split at hj
  .rwa [Zc]at hj
  .cases hj
 obtain⟨dd,tQ,sW⟩:=(T.und_ok _ _ hu).agg;have hz:=gz T h3;have hl:=g1.length;generalize(es.drop cN).take s.size=cs at g1 hc hl
 cases ha:gJ kk with
 |true=>
  rw[aaP ha]at hz;obtain⟨r,hr,Ia⟩:=hz;obtain⟨ti,z,h1,_,_,h4,_⟩:=T.row_ok _ _ hr;have QK:(loadCells ⟨b,cN,aaK⟩ cs.length).run P w= .ok cs.toArray w:=run_loadCells_list (P:=P) w ⟨b,cN,aaK⟩ cs (λj v hv=>by rw[bT];exact hc j v hv)
  have iA:ti.size=cs.length:=by omega
  exact⟨_, .agg cs.toArray,rfl,by simp[loadVar,Zs,dG tQ,sW,ha,sizeOf,typeInfo,h1,iA,QK],⟨cs,g1,rfl,by simp⟩⟩
 |false=>
  rw[aaO (by simp[ha])]at hz
  obtain⟨v,rfl⟩:∃v,cs=[v]:=by
   match cs,hl.trans hz with
   |[v],_=>exact⟨v,rfl⟩
  have VL:w.cell? ⟨b,cN,aaK⟩=some v:=hc 0 v rfl;exact⟨_,v,rfl,by simp[loadVar,Zs,dG tQ,sW,ha,VL,go_sem],⟨[v],g1,rfl,λ_=>rfl⟩⟩
def mW(T:aJ P)(tab:List (Nat×oq))(rd:Operand->Option ag)(objs:List (Nat×(Nat×Th)))(n:Nat)(x:Operand)(name:String)(args:List Operand)(k:cU->Option R):Option R:=
 match rd x with
 |some (.ifc t d)=>match BS T.mth t name with
  |some (f,pr)=>match find T.und t with
   |some (.ptr e)=>match(bif pr then some d else rh T (find objs) e d)with
    |some d'=>match oC rd args with
     |some ds=>la objs n f (d'::ds) k tab
     |none=>aaK
    |none=>aaK
   |_=>aaK
  |none=>aaK
 |_=>aaK
theorem sd(T:aJ P){tab:List (Nat×oq)}(th:∀p∈tab,gK P p.1 p.2){rd:Operand->Option ag}(dD:∀x d,rd x=some d->af H F w d (ev ρ x)){objs:List (Nat×(Nat×Th))}{x:Operand}{name:String}{args:Array Operand}{qv:Array TypeId}{k:cU->Option R}{q:R}
 (h:mW T tab rd objs n x name args.toList k=some q)(hs:al U H F w (find objs) n):
 ∃e,k e=some q/\bK P U H F w ρ (find objs) n ⟨dst, .call {callee:= .invoke x name,args:=args,argTypes:=qv},ty,pos,aft,aaK⟩ e:=by
 unfold mW at h;split at h
 case h_2=>cases h
 rename_i t d0 hx;split at h
 case h_2=>cases h
 rename_i f pr hm;split at h
 case h_2=>cases h
 rename_i e hu;split at h
 case h_2=>cases h
 rename_i d' tK;split at h
 case h_2=>cases h
 rename_i ds q9;obtain⟨v,hv,TO⟩:=dD _ _ hx;have hM:=T.mth_ok _ (xN hm);have hu:=T.und_ok _ _ hu;have TP:=kD (w:=w) (H:=H) (F:=F) (ρ:=ρ) dD q9
 cases pr with
 |true=>
  cases tK
  have Mv:dK H F w (d0::ds) (v::args.toList.map (ev ρ)):=⟨v,_,rfl,TO,TP⟩
  exact kN th Mv (λfn g1 g2 g3=>sa hM hv (λnm=>DD hu) g1 g2 g3) hs (λ_ h=>h) h
 |false=>
  obtain⟨a,u,rfl,hl,VM⟩:=Ak T (show rh T (find objs) e d0=some d' from tK) hs TO
  have Mv:dK H F w (d'::ds) (u::args.toList.map (ev ρ)):=⟨u,_,rfl,VM,TP⟩
  exact kN th Mv (λfn g1 g2 g3=>sa hM hv (λnm=>DE hu hl) g1 g2 g3) hs (λ_ h=>h) h
end
end
section
structure Env(P:Program)where
 T:aJ P
 tab:List (Nat×oq)
 ok:∀p∈tab,gK P p.1 p.2
 mix:P.follows .mixedOrders=aaL
 deep:Bool
 drop:Bool
def vE(rd:Operand->Option ag):List Operand->Option (List (Nat×List Bool×Nat))
 |[]=>some []
 |x::xs=>match rd x with
  |some (.ptr o p off)=>match vE rd xs with
   |some cs=>some ((o,p,off)::cs)
   |none=>aaK
  |_=>aaK
theorem uz{H:aj}{F:Nat->Prop}{w:World}{ρ:Nat->Value}{rd:Operand->Option ag}(dD:∀x d,rd x=some d->af H F w d (ev ρ x)):{xs:List Operand}->{cs:List (Nat×List Bool×Nat)}->vE rd xs=some cs->il H cs (xs.map (ev ρ))
 |[],cs,h=>by obtain rfl:=YU h;rfl
 |x::xs,cs,h=>by
  unfold vE at h;split at h
  case h_2=>cases h
  rename_i o p off hx;split at h
  case h_2=>cases h
  rename_i nH nG;obtain rfl:=YU h;exact⟨_,_,rfl,dD _ _ hx,uz dD nG⟩
def jn{R:Type}(rd:Operand->Option ag)(fn:Fn)(first caps:Array Operand)(k:cU->Option R):Option R:=
 match fn,first.toList with
 | .func f,[]=>match vE rd caps.toList with
   |some cs=>k {dst:= .fn f cs}
   |none=>aaK
 |_,_=>aaK
theorem vF{R:Type}{P:Program}{U:Nat->Prop}{H:aj}{F:Nat->Prop}{w:World}{ρ:Nat->Value}{ob:Nat->Option (Nat×Th)}{n d:Nat}{ty:TypeId}{pos:String}{aft:Array Edge}{rd:Operand->Option ag}(dD:∀x d,rd x=some d->af H F w d (ev ρ x)){fn:Fn}{first caps:Array Operand}{k:cU->Option R}{q:R}
 (h:jn rd fn first caps k=some q)(hs:al U H F w ob n):∃e,k e=some q/\bK P U H F w ρ ob n ⟨some d, .makeFunc fn first caps,ty,pos,aft,aaK⟩ e:=by
 unfold jn at h;split at h
 case h_2=>cases h
 rename_i f hf;split at h
 case h_2=>cases h
 rename_i cs nG
 have K5:first= #[]:=by rw[<-ZF (xs:=first),hf]
 subst K5
 have e:caps.map (ev ρ)=(caps.toList.map (ev ρ)).toArray:=by rw[<-List.map_toArray,ZF]
 exact⟨_,h,bj hs (v:= .func (.func f) #[] (caps.toList.map (ev ρ)).toArray) (by simp[execOp,Instr.makeFunc,e]) ⟨_,rfl,uz dD nG⟩⟩
noncomputable def kO{R:Type}{P:Program}(E:Env P)(rd:Operand->Option ag)(objs:List (Nat×(Nat×Th)))(n:Nat)(callee:Callee)(args:Array Operand)(qv:Array TypeId)(k:cU->Option R):Option R:=
 match callee with
 | .builtin .len=>match args.toList,qv.toList with
   |[x],[t]=>match rd x with
    |some D=>match C9 E.T (find objs) t D with
     |some D'=>k {dst:=D'}
     |none=>aaK
    |none=>aaK
   |_,_=>aaK
 | .builtin .append=>match args.toList,qv.toList with
   |[x,y],[t,t']=>bif YZ t t' then(match rd x with
    |some X=>match rd y with
     |some Y=>kK E.T (find objs) n t X Y k
     |none=>aaK
    |none=>aaK)else aaK
   |_,_=>aaK
 | .builtin .max=>match args.toList,qv.toList with
   |[x,y],[_,_]=>match rd x with
    |some X=>match rd y with
     |some Y=>match rb aaL X Y with
      |some D=>k {dst:=D}
      |none=>aaK
     |none=>aaK
    |none=>aaK
   |_,_=>aaK
 | .builtin .min=>match args.toList,qv.toList with
   |[x,y],[_,_]=>match rd x with
    |some X=>match rd y with
     |some Y=>match rb aaM X Y with
      |some D=>k {dst:=D}
      |none=>aaK
     |none=>aaK
    |none=>aaK
   |_,_=>aaK
 | .builtin .delete=>match args.toList,qv.toList with
   |[m,x],[t,_]=>match rd m with
    |some M=>match rd x with
     |some X=>mL E.T (find objs) n t M X k
     |none=>aaK
    |none=>aaK
   |_,_=>aaK
 | .value g=>uw E.tab rd objs n g args.toList k
 | .invoke x name=>mW E.T E.tab rd objs n x name args.toList k
 |_=>aaK
noncomputable def I1{R:Type}{P:Program}(E:Env P)(rd:Operand->Option ag)(objs:List (Nat×(Nat×Th)))(n:Nat)(dst:Option Nat)(op:Op)(k:cU->Option R):Option R:=
 match dst with
 |none=>match op with
  | .store t x y=>match rd x with
    |some X=>match rd y with
     |some Y=>mS E.T (find objs) n t X Y k
     |none=>aaK
    |none=>aaK
  | .call c=>kO E rd objs n c.callee c.args c.argTypes k
  | .mapUpdate t m x y=>match rd m with
    |some M=>match rd x with
     |some X=>match rd y with
      |some Y=>gB E.T (find objs) n t M X Y k
      |none=>aaK
     |none=>aaK
    |none=>aaK
  |_=>aaK
 |some _=>match op with
  | .move x=>match rd x with
    |some D=>k {dst:=D}
    |none=>aaK
  | .assign x=>match rd x with
    |some D=>k {dst:=D}
    |none=>aaK
  | .pick c x y=>match rd c with
    |some C=>match asBool C with
     |some b=>match(if b=aaL then rd x else rd y)with
      |some D=>k {dst:=D}
      |none=>aaK
     |none=>aaK
    |none=>aaK
  | .alloc t=>pn E.T n t k
  | .box t x=>match rd x with
    |some X=>C8 n t X k
    |none=>aaK
  | .build t ps=>pq E.T rd t ps k
  | .buildSlice t m ps=>rf E.deep E.T rd (find objs) n t m ps k
  | .load t x=>match rd x with
    |some X=>lU E.T (find objs) n t X k
    |none=>aaK
  | .nilCheck x=>match rd x with
    |some (.ptr o p off)=>k {dst:= .ptr o p off}
    |some (.elem o s r i z p off)=>k {dst:= .elem o s r i z p off}
    |some (.dlm o d i p off)=>k {dst:= .dlm o d i p off}
    |some (.at r z)=>k {dst:= .at r z}
    |_=>aaK
  | .binOp o t x y _=>match rd x with
    |some X=>match rd y with
     |some Y=>Df E.T (find objs) o t (MZ y) X Y k
     |none=>aaK
    |none=>aaK
  | .unOp o _ x=>match rd x with
    |some X=>match Qa o X with
     |some D=>k {dst:=D}
     |none=>aaK
    |none=>aaK
  | .convert s t x=>match rd x with
    |some X=>match FM E.T s t X with
     |some D=>k {dst:=D}
     |none=>aaK
    |none=>aaK
  | .makeSlice t a b=>match rd a with
    |some A=>match asInt A with
     |some (_,i)=>match rd b with
      |some B=>match asInt B with
       |some (_,j)=>rW E.deep E.T n t (lS a b) i j k
       |none=>aaK
      |none=>aaK
     |none=>aaK
    |none=>aaK
  | .slice t x lo hi aaK=>match rd x with
    |some X=>pt E.drop E.T rd (find objs) n t X lo hi k
    |none=>aaK
  | .fieldAddr t x f=>match rd x with
    |some X=>match zE E.T t f X with
     |some D=>k {dst:=D}
     |none=>aaK
    |none=>aaK
  | .field t x f=>match rd x with
    |some X=>match vj E.T t f X with
     |some D=>k {dst:=D}
     |none=>aaK
    |none=>aaK
  | .indexAddr t x y=>match rd x with
    |some X=>match rd y with
     |some Y=>match asInt Y with
      |some (_,i)=>pj E.T (find objs) t X i k
      |none=>aaK
     |none=>aaK
    |none=>aaK
  | .index t x y=>match rd x with
    |some X=>match rd y with
     |some Y=>match asInt Y with
      |some (_,i)=>mN E.T (find objs) t X i k
      |none=>aaK
     |none=>aaK
    |none=>aaK
  | .extract x i=>match rd x with
    |some X=>match rN X i with
     |some D=>k {dst:=D}
     |none=>aaK
    |none=>aaK
  | .call c=>kO E rd objs n c.callee c.args c.argTypes k
  | .makeFunc fn first caps=>jn rd fn first caps k
  | .makeMap t aaK=>jm E.deep E.T n t k
  | .lookup t m x ok=>match rd m with
    |some M=>match rd x with
     |some X=>kJ E.T (find objs) n t ok M X k
     |none=>aaK
    |none=>aaK
  | .range t x=>match rd x with
    |some X=>pD E.T (find objs) n t X k
    |none=>aaK
  | .entry x=>match rd x with
    |some X=>match zY objs X with
     |some D=>k {dst:=D}
     |none=>aaK
    |none=>aaK
  | .makeInterface t x=>match rd x with
    |some X=>DC E.T t X k
    |none=>aaK
  | .typeAssert x _ t ok=>match rd x with
    |some X=>mV E.T t ok X k
    |none=>aaK
  |_=>aaK
section
variable {P:Program} {ρ:Nat->Value} {w w':World} {H H':aj} {F F':Nat->Prop} {U:Nat->Prop} {n:Nat} {R:Type}
variable {ty:TypeId} {pos:String} {aft:Array Edge} {dst:Option Nat} {d:Nat}
theorem cO{α:Type}{a:Array α}{l:List α}(h:a.toList=l):a=l.toArray:=by rw[<-h,ZF]
theorem uA(E:Env P){rd:Operand->Option ag}(dD:∀x d,rd x=some d->af H F w d (ev ρ x)){objs:List (Nat×(Nat×Th))}{args:Array Operand}{qv:Array TypeId}{k:cU->Option R}{q:R}{dst:Option Nat}
 (h:kO E rd objs n (.builtin .delete) args qv k=some q)(hs:al U H F w (find objs) n):∃e,k e=some q/\bK P U H F w ρ (find objs) n ⟨dst, .call {callee:= .builtin .delete,args:=args,argTypes:=qv},ty,pos,aft,aaK⟩ e:=by
 unfold kO at h;simp only at h;split at h
 case h_2=>cases h
 rename_i m x t t' ha ht;obtain rfl:=cO ha;obtain rfl:=cO ht;split at h
 case h_2=>cases h
 rename_i M hM;split at h
 case h_2=>cases h
 rename_i X hX;exact zK E.T h hs (dD _ _ hM) (dD _ _ hX)
theorem Gm(E:Env P){rd:Operand->Option ag}(dD:∀x d,rd x=some d->af H F w d (ev ρ x)){objs:List (Nat×(Nat×Th))}{c:Call}{k:cU->Option R}{q:R}
 (h:kO E rd objs n c.callee c.args c.argTypes k=some q)(hs:al U H F w (find objs) n):∃e,k e=some q/\bK P U H F w ρ (find objs) n ⟨some d, .call c,ty,pos,aft,aaK⟩ e:=by
 obtain⟨callee,args,qv⟩:=c;simp only at h;unfold kO at h;split at h
 .split at h
  case h_2=>cases h
  rename_i x t ha ht;obtain rfl:=cO ha;obtain rfl:=cO ht;split at h
  case h_2=>cases h
  rename_i D hD;split at h
  case h_2=>cases h
  rename_i D' Ix;exact⟨_,h,Bu E.T Ix hs (dD _ _ hD)⟩
 .split at h
  case h_2=>cases h
  rename_i x y t t' ha ht;obtain rfl:=cO ha;obtain rfl:=cO ht;obtain⟨hb,h'⟩:=ay h;clear h;obtain rfl:=beq_true hb;split at h'
  case h_2=>cases h'
  rename_i X hX;split at h'
  case h_2=>cases h'
  rename_i Y hY;exact xv E.T h' hs (dD _ _ hX) (dD _ _ hY)
 .split at h
  case h_2=>cases h
  rename_i x y t t' ha ht;obtain rfl:=cO ha;obtain rfl:=cO ht;split at h
  case h_2=>cases h
  rename_i X hX;split at h
  case h_2=>cases h
  rename_i Y hY;split at h
  case h_2=>cases h
  rename_i D hD;exact⟨_,h,rO (mx:=aaL) hD hs (dD _ _ hX) (dD _ _ hY)⟩
 .split at h
  case h_2=>cases h
  rename_i x y t t' ha ht;obtain rfl:=cO ha;obtain rfl:=cO ht;split at h
  case h_2=>cases h
  rename_i X hX;split at h
  case h_2=>cases h
  rename_i Y hY;split at h
  case h_2=>cases h
  rename_i D hD;exact⟨_,h,rO (mx:=aaM) hD hs (dD _ _ hX) (dD _ _ hY)⟩
 .refine uA E dD ?_ hs;unfold kO;exact h
 .exact xM E.ok dD h hs
 .exact sd E.T E.ok dD h hs
 .cases h
def NG:Callee->Bool
 | .value _=>aaL
 | .invoke .. =>aaL
 |_=>aaM
def Gn:Callee->Bool
 | .builtin .delete=>aaL
 |c=>NG c
theorem tj(E:Env P){rd:Operand->Option ag}(dD:∀x d,rd x=some d->af H F w d (ev ρ x)){objs:List (Nat×(Nat×Th))}{c:Call}{k:cU->Option R}{q:R}(hc:Gn c.callee=aaL)
 (h:kO E rd objs n c.callee c.args c.argTypes k=some q)(hs:al U H F w (find objs) n):∃e,k e=some q/\bK P U H F w ρ (find objs) n ⟨aaK, .call c,ty,pos,aft,aaK⟩ e:=by
 obtain⟨callee,args,qv⟩:=c;simp only at h hc
 cases callee with
 |value g=>exact xM E.ok dD h hs
 |invoke x name=>exact sd E.T E.ok dD h hs
 |builtin b=>cases b<;>first|(cases hc;done)|exact uA E dD h hs
end
section
variable {P:Program} {ρ:Nat->Value} {w w':World} {H H':aj} {F F':Nat->Prop} {U:Nat->Prop} {n:Nat} {R:Type}
variable {ty:TypeId} {pos:String} {aft:Array Edge} {dst:Option Nat} {d:Nat}
theorem DF{c x y:Operand}{b:Bool}{D:ag}{ob:Nat->Option (Nat×Th)}(hs:al U H F w ob n)(hc:ev ρ c= .bool b)(hx:af H F w D (ev ρ (if b=aaL then x else y))):bK P U H F w ρ ob n ⟨some d, .pick c x y,ty,pos,aft,aaK⟩ {dst:=D}:=by
 cases b with
 |true=>exact aB hs (rq hc rfl) hx
 |false=>exact aB hs (qJ hc rfl) hx
theorem Gp(E:Env P){rd:Operand->Option ag}(dD:∀x d,rd x=some d->af H F w d (ev ρ x)){objs:List (Nat×(Nat×Th))}{op:Op}{k:cU->Option R}{q:R}
 (Al:dst=aaK->∀c,op= .call c->Gn c.callee=aaL)(h:I1 E rd objs n dst op k=some q)(hs:al U H F w (find objs) n):∃e,k e=some q/\bK P U H F w ρ (find objs) n ⟨dst,op,ty,pos,aft,aaK⟩ e:=by
 cases dst with
 |none=>
  unfold I1 at h;simp only at h;split at h
  .split at h
   case h_2=>cases h
   rename_i X hX;split at h
   case h_2=>cases h
   rename_i Y hY;exact zU E.T h hs (dD _ _ hX) (dD _ _ hY)
  .rename_i c;exact tj E dD (Al rfl c rfl) h hs
  .split at h
   case h_2=>cases h
   rename_i M hM;split at h
   case h_2=>cases h
   rename_i X hX;split at h
   case h_2=>cases h
   rename_i Y hY;exact rY E.T h hs (dD _ _ hM) (dD _ _ hX) (dD _ _ hY)
  .cases h
 |some d=>
  unfold I1 at h;simp only at h;split at h
  .split at h
   case h_2=>cases h
   rename_i D hD;exact⟨_,h,Dg hs (dD _ _ hD)⟩
  .split at h
   case h_2=>cases h
   rename_i D hD;exact⟨_,h,w9 hs (dD _ _ hD)⟩
  .split at h
   case h_2=>cases h
   rename_i C hC;split at h
   case h_2=>cases h
   rename_i b hb;split at h
   case h_2=>cases h
   rename_i D hD;refine⟨_,h,DF hs (kA hb (dD _ _ hC)) ?_⟩;split at hD
   .rename_i e;rw[aaP e];exact dD _ _ hD
   .rename_i e;rw[aaO e];exact dD _ _ hD
  .exact C7 E.T h hs
  .split at h
   case h_2=>cases h
   rename_i X hX;exact IC h hs (dD _ _ hX)
  .exact Da E.T dD h hs
  .exact zV E.deep E.T dD h hs
  .split at h
   case h_2=>cases h
   rename_i X hX;exact Dt E.T h hs (dD _ _ hX)
  .split at h
   .rename_i o p off hX;obtain⟨b,h1,h2⟩:=dD _ _ hX;exact⟨_,h,bj hs (v:= .pointer (some ⟨b,off,aaK⟩)) (by simp[execOp,h2]) ⟨b,h1,rfl⟩⟩
   .rename_i o s r i z p off hX;have hd:=dD _ _ hX;obtain⟨g,o0,q,T,m,cap,l,_,_,_,_,h2⟩:=id hd;exact⟨_,h,bj hs (v:= .pointer (some ⟨g,o0+q*r.size+off,aaK⟩)) (by simp[execOp,h2]) (by rw[<-h2];exact hd)⟩
   .rename_i o d i p off hX;have hd:=dD _ _ hX;obtain⟨g,o0,q,m,cap,_,_,h2⟩:=id hd;exact⟨_,h,bj hs (v:= .pointer (some ⟨g,o0+q*d.low.size+off,aaK⟩)) (by simp[execOp,h2]) (by rw[<-h2];exact hd)⟩
   .rename_i r z hX;have hd:=dD _ _ hX;obtain⟨b,off,h2,_⟩:=id hd;exact⟨_,h,bj hs (v:= .pointer (some ⟨b,off,aaK⟩)) (by simp[execOp,h2]) (by rw[<-h2];exact hd)⟩
   .cases h
  .split at h
   case h_2=>cases h
   rename_i X hX;split at h
   case h_2=>cases h
   rename_i Y hY;exact IF E.T h hs (dD _ _ hX) (dD _ _ hY)
  .split at h
   case h_2=>cases h
   rename_i X hX;split at h
   case h_2=>cases h
   rename_i D hD;exact⟨_,h,KM hD hs (dD _ _ hX)⟩
  .split at h
   case h_2=>cases h
   rename_i X hX;split at h
   case h_2=>cases h
   rename_i D hD;exact⟨_,h,FN E.T hD hs (dD _ _ hX)⟩
  .split at h
   case h_2=>cases h
   rename_i A hA;split at h
   case h_2=>cases h
   rename_i i hi;split at h
   case h_2=>cases h
   rename_i B hB;split at h
   case h_2=>cases h
   rename_i j hj;exact Ds E.deep E.T h hs (fk hi (dD _ _ hA)) (fk hj (dD _ _ hB))
  .split at h
   case h_2=>cases h
   rename_i X hX;exact De E.drop E.T dD h hs (dD _ _ hX)
  .split at h
   case h_2=>cases h
   rename_i X hX;split at h
   case h_2=>cases h
   rename_i D hD;exact⟨_,h,C2 E.T hD hs (dD _ _ hX)⟩
  .split at h
   case h_2=>cases h
   rename_i X hX;split at h
   case h_2=>cases h
   rename_i D hD;exact⟨_,h,zJ E.T hD hs (dD _ _ hX)⟩
  .split at h
   case h_2=>cases h
   rename_i X hX;split at h
   case h_2=>cases h
   rename_i Y hY;split at h
   case h_2=>cases h
   rename_i i hi;exact C3 E.T h hs (dD _ _ hX) (fk hi (dD _ _ hY))
  .split at h
   case h_2=>cases h
   rename_i X hX;split at h
   case h_2=>cases h
   rename_i Y hY;split at h
   case h_2=>cases h
   rename_i k' i hi;exact zN E.T h hs (dD _ _ hX) (fk hi (dD _ _ hY))
  .split at h
   case h_2=>cases h
   rename_i X hX;split at h
   case h_2=>cases h
   rename_i D hD;exact⟨_,h,w8 hD hs (dD _ _ hX)⟩
  .exact Gm E dD h hs
  .exact vF dD h hs
  .exact vz E.deep E.T h hs
  .split at h
   case h_2=>cases h
   rename_i M hM;split at h
   case h_2=>cases h
   rename_i X hX;exact xp E.T h hs (dD _ _ hM) (dD _ _ hX)
  .split at h
   case h_2=>cases h
   rename_i X hX;exact Dv E.T h hs (dD _ _ hX)
  .split at h
   case h_2=>cases h
   rename_i X hX;split at h
   case h_2=>cases h
   rename_i D hD;exact⟨_,h,Dw hD hs (dD _ _ hX)⟩
  .split at h
   case h_2=>cases h
   rename_i X hX;exact I0 E.T h hs (dD _ _ hX)
  .split at h
   case h_2=>cases h
   rename_i X hX;exact Ai E.T h hs (dD _ _ hX)
  .cases h
end
def nS(rd:Operand->Option ag)(x:Operand):List Nat:=
 match rd x with
 |some (.val _ t)=>t.owns
 |_=>[]
def vG(rd:Operand->Option ag)(x:Operand):List Nat:=
 match rd x with
 |some (.val _ (.view o _ _ _))=>[o]
 |_=>[]
def BU(rd:Operand->Option ag):List Operand->List Nat
 |[]=>[]
 |x::xs=>nS rd x++BU rd xs
def pP:Operand->Bool
 | .const (.slice aaK 0 0)=>aaL
 |_=>aaM
def I2(rd:Operand->Option ag):Op->List Nat
 | .store _ x y=>match rd x with
   |some (.elem ..)=>nS rd y
   |_=>[]
 | .buildSlice _ _ ps=>BU rd (ps.toList.map (·.2))
 | .binOp .eql _ x y _=>bif pP y then[]else nS rd x++nS rd y
 | .binOp .neq _ x y _=>bif pP y then[]else nS rd x++nS rd y
 | .slice _ x _ _ _=>vG rd x
 | .indexAddr _ x _=>vG rd x
 | .call c=>match c.callee,c.args.toList with
   | .builtin .append,[_,y]=>vG rd y
   |_,_=>[]
 | .mapUpdate _ _ _ y=>nS rd y
 |_=>[]
def xO(nt:Nat):Option Nat->Bool
 |some d=>ZK d nt
 |none=>aaL
def TQ(dst:Option Nat)(op:Op):Bool:=
 match dst with
 |some _=>aaL
 |none=>match op with
  | .call c=>Gn c.callee
  |_=>aaL
open Classical in
noncomputable def xP{α:Type}(a b:Option α):Option α:=if a=b then a else aaK
theorem Gq{α:Type}{a b:Option α}{q:α}(h:xP a b=some q):a=some q:=by
 unfold xP at h;split at h
 .exact h
 .cases h
theorem K6{α:Type}{a b:Option α}{q:α}(h:xP a b=some q):b=some q:=by
 have ha:=Gq h;unfold xP at h;split at h
 .rename_i e;rw[<-e];exact ha
 .cases h
def Gr{P:Program}(T:aJ P)(rd:Operand->Option ag)(ob:Nat->Option (Nat×Th)):Op->Option (Bool×Nat)
 | .binOp o t x y _=>match o with
   | .eql=>bif pP y then(match find T.und t with
     |some (.slice _)=>match rd x with
      |some X=>match qN ob X with
       |some (.read _ l)=>some (aaM,l.length)
       |some (.own _ _ _ _ l)=>some (aaM,l.length)
       |_=>aaK
      |none=>aaK
     |_=>aaK)else aaK
   | .neq=>bif pP y then(match find T.und t with
     |some (.slice _)=>match rd x with
      |some X=>match qN ob X with
       |some (.read _ l)=>some (aaL,l.length)
       |some (.own _ _ _ _ l)=>some (aaL,l.length)
       |_=>aaK
      |none=>aaK
     |_=>aaK)else aaK
   |_=>aaK
 |_=>aaK
def nT{P:Program}(E:Env P)(rd:Operand->Option ag)(objs:List (Nat×(Nat×Th)))(op:Op):List Nat:=
 match E.deep,op with
 |true, .buildSlice .. =>[]
 |_,_=>I2 rd op
noncomputable def se(st:State)(o:Nat):State:=
 match J0 (find st.objs) st.nxt o with
 |some e=>st.apply aaK e
 |none=>st
noncomputable def qw(st:State):List Nat->State
 |[]=>st
 |o::os=>qw (se st o) os
def J5:List (Nat×(Nat×Th))->Bool
 |[]=>aaM
 |(_,(_, .deep _ _ _ (some _)))::_=>aaL
 |_::l=>J5 l
noncomputable def lH(st:State):State:=
 match J5 st.objs with
 |true=>qw (qw st (st.objs.map (·.1))) (st.objs.map (·.1))
 |false=>st
def NH:Op->Bool
 | .call c=>NG c.callee
 |_=>aaM
def Am(o:Nat):List (Nat×(Nat×Th))->Bool
 |[]=>aaM
 |(_,(_, .deep _ _ _ (some h)))::l=>YZ h.o o||Am o l
 |_::l=>Am o l
def I3(st:State)(x:Operand):Bool:=
 match C0 st.ah x with
 |some (.val _ (.own o))=>Am o st.objs
 |_=>aaM
def Gs(st:State):Op->Bool
 | .call c=>c.args.toList.any (I3 st)
 |_=>aaM
def Gt:Op->Option Operand
 | .next x aaM=>some x
 |_=>aaK
noncomputable def BV{R:Type}{P:Program}(E:Env P)(dst:Option Nat)(op:Op)(st:State)(k:State->Option R):Option R:=
 match dS st.objs (nT E (C0 st.ah) st.objs op)with
 |some aD=>match Gr E.T (C0 st.ah) (find aD) op with
  |some (b,m)=>match dst with
   |some d=>if YZ m 0=aaL then xP (k (State.apply {st with objs:=aD} (some d) {dst:=cR aaL})) (k (State.apply {st with objs:=aD} (some d) {dst:=cR aaM}))
     else k (State.apply {st with objs:=aD} (some d) {dst:=cR b})
   |none=>aaK
  |none=>match Gt op with
   |some x=>match dst with
    |some d=>match C0 st.ah x with
     |some X=>FX aD st.nxt X (λe=>k (State.apply {st with objs:=aD} (some d) e))
     |none=>aaK
    |none=>aaK
   |none=>bif TQ dst op then I1 E (C0 st.ah) aD st.nxt dst op (λe=>k (State.apply {st with objs:=aD} dst e))else aaK
 |none=>aaK
noncomputable def sf{R:Type}{P:Program}(E:Env P)(dst:Option Nat)(op:Op)(st:State)(k:State->Option R):Option R:=
 match E.deep&&NH op&& !Gs st op with
 |true=>BV E dst op (lH st) k
 |false=>BV E dst op st k
def BW(all:Array Oper)(j:Nat):Option Nat:=(all[j]?).bind (·.dst)
def State.put(st:State)(dst:Option Nat)(d:ag):State:=
 match dst with
 |some t=>{st with ah:=(t,d)::st.ah}
 |none=>st
def si(dst:Option Nat)(kn:List (Nat×Bool)):List (Nat×Bool):=
 match dst with
 |some d=>del [d] kn
 |none=>kn
noncomputable def runs{R:Type}{P:Program}(E:Env P)(nt:Nat)(all:Array Oper):List Oper->List (Nat×Bool)->State->(State->Option R)->Option R
 |[],_,st,k=>k st
 |o::os,kn,st,k=>bif xO nt o.dst then(match o.guard with
  |none=>sf E o.dst o.op st (λcy=>runs E nt all os (si o.dst kn) cy k)
  |some (j,b)=>match BW all j with
   |none=>aaK
   |some g=>bif ZK g nt then(match find kn g with
    |some v=>bif (bif v then b else !b)then sf E o.dst o.op st (λcy=>runs E nt all os (si o.dst kn) cy k)else runs E nt all os (si o.dst kn) (st.put o.dst .undef) k
    |none=>match find st.ah g with
     |some .undef=>runs E nt all os (si o.dst kn) (st.put o.dst .undef) k
     |some d=>match asBool d with
      |some t=>if t=aaL then
        (bif b then sf E o.dst o.op (st.put (some g) (cR aaL)) (λcy=>runs E nt all os (si o.dst ((g,aaL)::kn)) cy k)
          else runs E nt all os (si o.dst ((g,aaL)::kn)) ((st.put (some g) (cR aaL)).put o.dst .undef) k)
       else
        (bif b then runs E nt all os (si o.dst ((g,aaM)::kn)) ((st.put (some g) (cR aaM)).put o.dst .undef) k
          else sf E o.dst o.op (st.put (some g) (cR aaM)) (λcy=>runs E nt all os (si o.dst ((g,aaM)::kn)) cy k))
      |none=>aaK
     |none=>aaK)else aaK)else aaK
section
variable {P:Program} {nt:Nat} {ops:Array Oper} {K:(Nat->Value)->World->Prop} {rest:List Oper} {R:Type}
variable {ρ:Nat->Value} {w w0:World} {H:aj} {F F0 G:Nat->Prop}
abbrev UU(G:Nat->Prop)(w0:World):Nat->Prop:=λk=>w0.heap.size<=k\/G k
theorem F7.iB{H':aj}{F':Nat->Prop}{w':World}{g:Nat->Prop}(hg:F7 G w0 F0 w F)(he:HW H F w H' F' w' g)(hu:∀k,g k->UU G w0 k):F7 G w0 F0 w' F':=by
 have iA:=hg.ext.size;refine⟨⟨he.ext.os.trans hg.ext.os,⟨he.ext.tape.1.trans hg.ext.tape.1,Zj hg.ext.tape.2 he.ext.tape.2⟩,he.ext.output.trans hg.ext.output,Zj iA he.ext.size,λk hk hn=>?_⟩,λb hb=>he.le b (hg.le b hb),λb hb=>?_⟩
 .rw[he.ext.block k (by omega) λh=>?_]
  .exact hg.ext.block k hk hn
  .rcases hu k h with h1|h1
   .omega
   .exact hn h1
 .rcases he.grow b hb with h1|h1|h1
  .exact hg.new b h1
  .exact .inr (.inl (Zj iA h1))
  .exact .inr (hu b h1)
structure bX(G:Nat->Prop)(w0:World)(F0:Nat->Prop)(H:aj)(F:Nat->Prop)(w:World)(ρ:Nat->Value)(st:State):Prop where
 sat:Sat (UU G w0) H F w ρ st
 glob:F7 G w0 F0 w F
theorem bM.uB{H':aj}{F':Nat->Prop}{w':World}{g:Nat->Prop}(he:HW H F w H' F' w' g)(hF:∀b,F b->b<w.heap.size)(hg:∀k,g k->¬F k):bM H F w H' F' w':=⟨he.eL,he.step hF hg⟩
theorem bX.pf{st:State}{os:List Nat}{aD:List (Nat×(Nat×Th))}(h:bX G w0 F0 H F w ρ st)(hf:dS st.objs os=some aD):
 ∃F',bX G w0 F0 H F' w ρ {st with objs:=aD}/\bM H F w H F' w:=by
 obtain⟨F',a1,a2,a3⟩:=kL hf h.sat.ob
 have dZ:Step F w F' w:=λb hb=>⟨a2 b hb,rfl⟩
 refine⟨F',⟨⟨λt d hd=>(h.sat.slot t d hd).keep (aj.le.refl H) dZ,a1,h.sat.all⟩,⟨h.glob.ext,λb hb=>a2 b (h.glob.le b hb),λb hb=>?_⟩⟩,⟨aj.le.refl H,dZ⟩⟩
 rcases a3 b hb with h1|h1
 .exact h.glob.new b h1
 .exact .inr (h.sat.ob.eh b h1)
theorem An{P:Program}{ρ:Nat->Value}{w:World}{o:BinOp}(tl:o= .eql\/o= .neq){t u e:TypeId}{x y:Operand}{d:Nat}{ty:TypeId}{pos:String}{aft:Array Edge}(hu:P.underlying t=some (.slice e)){A:Option Addr}{m c:Nat}(hx:ev ρ x= .slice A m c)(hy:ev ρ y= .slice aaK 0 0):
 (execOp (ev ρ) ⟨some d, .binOp o t x y u,ty,pos,aft,aaK⟩).run P w= .ok (.value (.bool (bif decide (o= .eql)then A.isNone else !A.isNone))) w:=by
 have hm:Op.maxDepth=9999+1:=rfl
 have he:(Op.equal t (.slice A m c) (.slice aaK 0 0)).run P w= .ok A.isNone w:=by
  unfold Op.equal;rw[hm];unfold Op.equalIn;rw[Zs,run_underlying hu]
  cases A<;>rfl
 rcases tl with rfl|rfl
 .simp[execOp,eqGuard,binOp,hx,hy,he]
 .simp[execOp,eqGuard,binOp,hx,hy,he]
theorem Gu{P:Program}(T:aJ P){U:Nat->Prop}{H:aj}{F:Nat->Prop}{w:World}{ρ:Nat->Value}{n:Nat}{ob:Nat->Option (Nat×Th)}{rd:Operand->Option ag}(dD:∀x d,rd x=some d->af H F w d (ev ρ x))(hs:al U H F w ob n){op:Op}{b:Bool}{m:Nat}(h:Gr T rd ob op=some (b,m)){d:Nat}{ty:TypeId}{pos:String}{aft:Array Edge}:
 ∃r:Bool,(m≠0->r=b)/\(execOp (ev ρ) ⟨some d,op,ty,pos,aft,aaK⟩).run P w= .ok (.value (.bool r)) w:=by
 have VN:∀{y:Operand},pP y=aaL->ev ρ y= .slice aaK 0 0:=by
  intro y hy;unfold pP at hy;split at hy
  .rfl
  .cases hy
 have key:∀{k:FE}{v:Value},IA U H F w ob v k->∀m,(match k with| .read _ l=>l.length=m| .own _ _ _ _ l=>l.length=m|_=>False)->∃A n c,v= .slice A n c/\(m≠0->A.isNone=aaM):=by
  intro k v hk m hm
  cases k with
  |read r l=>
   obtain⟨A,cap,hv,_,_,h3⟩:=hk;simp only[Z8,and_true]at hv;refine⟨A,_,cap,hv,λh0=>?_⟩;obtain⟨b,off,es,rfl,_⟩:=h3 0 (by dsimp only at hm;omega);rfl
  |own o s T r l=>
   obtain⟨xs,hx,_⟩:=hk.2.2.2
   rcases hx.2 with⟨rfl,h0⟩|⟨g,o0,cap,cur,rfl,_⟩
   .exact⟨aaK,0,0,rfl,λh=>absurd (hm.symm.trans h0) h⟩
   .exact⟨_,_,_,rfl,λ_=>rfl⟩
  |nil=>exact hm.elim
  |view o s r m=>exact hm.elim
  |deep=>exact hm.elim
 unfold Gr at h;split at h
 case h_2=>cases h
 rename_i o t x y u;split at h
 case h_3=>cases h
 all_goals
  obtain⟨hy,h⟩:=ay h;split at h
  case h_2=>cases h
  rename_i e hu;have hu:=T.und_ok _ _ hu;split at h
  case h_2=>cases h
  rename_i X hX;split at h
  case h_3=>cases h
  all_goals
   rename_i fc;obtain⟨rfl,rfl⟩:=aan (YU h);obtain⟨A,n',c,hv,hA⟩:=key (fD hs fc (dD _ _ hX)) _ rfl;refine⟨_,λh0=>?_,An (by first|exact .inl rfl|exact .inr rfl) hu hv (VN hy)⟩;rw[hA h0];rfl
theorem bX.se{st:State}(h:bX G w0 F0 H F w ρ st)(o:Nat):∃H' F',bX G w0 F0 H' F' w ρ (se st o)/\bM H F w H' F' w:=by
 unfold Go.Proofs.YtbladfbbhijpmaaGreat.se;split
 .rename_i e he;obtain⟨H',F',hp⟩:=zZ h.sat.ob he;have hs:=h.sat.apply (d:=aaK) hp;exact⟨H',F',⟨hs,h.glob.iB hp.iB h.sat.ob.eh⟩,bM.uB hp.iB h.sat.ob.lt h.sat.ob.dx⟩
 .exact⟨H,F,h,bM.refl H F w⟩
theorem bX.qw:{os:List Nat}->{st:State}->{H:aj}->{F:Nat->Prop}->bX G w0 F0 H F w ρ st->∃H' F',bX G w0 F0 H' F' w ρ (qw st os)/\bM H F w H' F' w
 |[],_,H,F,h=>⟨H,F,h,bM.refl H F w⟩
 |o::os,st,H,F,h=>by
  obtain⟨H1,F1,h1,k1⟩:=h.se o;obtain⟨H2,F2,h2,k2⟩:=bX.qw (os:=os) h1;exact⟨H2,F2,h2,k1.trans k2⟩
theorem bX.lH{st:State}(h:bX G w0 F0 H F w ρ st):∃H' F',bX G w0 F0 H' F' w ρ (lH st)/\bM H F w H' F' w:=by
 unfold Go.Proofs.YtbladfbbhijpmaaGreat.lH;split
 case h_2=>exact⟨H,F,h,bM.refl H F w⟩
 obtain⟨H1,F1,h1,k1⟩:=h.qw (os:=st.objs.map (·.1));obtain⟨H2,F2,h2,k2⟩:=h1.qw (os:=st.objs.map (·.1));exact⟨H2,F2,h2,k1.trans k2⟩
theorem xQ{E:Env P}{dst:Option Nat}{op:Op}{ty:TypeId}{pos:String}{aft:Array Edge}{st:State}{k:State->Option R}{q:R}(h:BV E dst op st k=some q)(hd:xO nt dst=aaL)(hh:bX G w0 F0 H F w ρ st)
 (hk:∀cy H' F' w' bZ,k cy=some q->bX G w0 F0 H' F' w' bZ cy->bM H F w H' F' w'->(∀t,dst≠some t->bZ t=ρ t)->wpS P nt ops K rest bZ w'):wpS P nt ops K (⟨dst,op,ty,pos,aft,aaK⟩::rest) ρ w:=by
 unfold BV at h;split at h
 case h_2=>cases h
 rename_i aD tf;obtain⟨F1,jN,QL⟩:=hh.pf tf;split at h
 .rename_i b m hn;split at h
  case h_2=>cases h
  rename_i d;obtain⟨r,hr,bn⟩:=Gu E.T (ρ:=ρ) (d:=d) (ty:=ty) (pos:=pos) (aft:=aft) (λx d hx=>pg jN.sat.ob.gl jN.sat.slot x d hx) jN.sat.ob hn
  have VO:k (State.apply {st with objs:=aD} (some d) {dst:=cR r})=some q:=by
   split at h
   .cases r with
    |true=>exact Gq h
    |false=>exact K6 h
   .rename_i h0;rw[hr λe=>h0 (by rw[e];rfl)];exact h
  have sj:bK P (UU G w0) H F1 w ρ (find aD) st.nxt ⟨some d,op,ty,pos,aft,aaK⟩ {dst:=cR r}:=bj jN.sat.ob bn (aw.dR ..)
  refine rD sj (λd' tK=>by rw[tK]at hd;exact hd) λv w' ⟨H',F',hp⟩=>?_
  have hs:=jN.sat.apply (d:=some d) hp
  refine hk _ H' F' w' _ VO ⟨hs,jN.glob.iB hp.iB jN.sat.ob.eh⟩ (QL.trans (bM.uB hp.iB jN.sat.ob.lt jN.sat.ob.dx)) λt ht=>?_
  show za ρ d v t=ρ t
  rw[k7,aaO (λe=>ht (by rw[e]))]
 split at h
 .rename_i x Py;split at h
  case h_2=>cases h
  rename_i d;split at h
  case h_2=>cases h
  rename_i X hX
  have tl:op= .next x aaM:=by
   unfold Gt at Py;split at Py
   .rw[YU Py]
   .cases Py
  subst tl;obtain⟨e,he,sj⟩:=FY (ρ:=ρ) (d:=d) (ty:=ty) (pos:=pos) (aft:=aft) (P:=P) (U:=UU G w0) h jN.sat.ob (pg jN.sat.ob.gl jN.sat.slot _ _ hX)
  refine rD sj (λd' tK=>by rw[tK]at hd;exact hd) λv w' ⟨H',F',hp⟩=>?_
  have hs:=jN.sat.apply (d:=some d) hp
  refine hk _ H' F' w' _ he ⟨hs,jN.glob.iB hp.iB jN.sat.ob.eh⟩ (QL.trans (bM.uB hp.iB jN.sat.ob.lt jN.sat.ob.dx)) λt ht=>?_
  show za ρ d v t=ρ t
  rw[k7,aaO (λe=>ht (by rw[e]))]
 obtain⟨Al,h'⟩:=ay h;clear h;obtain⟨e,he,sj⟩:=Gp (ρ:=ρ) (ty:=ty) (pos:=pos) (aft:=aft) E (λx d hx=>pg jN.sat.ob.gl jN.sat.slot x d hx) (λhn c hc=>by subst hn;subst hc;exact Al) h' jN.sat.ob
 refine rD sj (λd tK=>by rw[tK]at hd;exact hd) λv w' ⟨H',F',hp⟩=>?_
 have hs:=jN.sat.apply (d:=dst) hp
 refine hk _ H' F' w' _ he ⟨hs,jN.glob.iB hp.iB jN.sat.ob.eh⟩ (QL.trans (bM.uB hp.iB jN.sat.ob.lt jN.sat.ob.dx)) λt ht=>?_
 cases dst with
 |none=>rfl
 |some d=>
  show za ρ d v t=ρ t
  rw[k7,aaO (λe=>ht (by rw[e]))]
theorem Gv{E:Env P}{dst:Option Nat}{op:Op}{ty:TypeId}{pos:String}{aft:Array Edge}{st:State}{k:State->Option R}{q:R}(h:sf E dst op st k=some q)(hd:xO nt dst=aaL)(hh:bX G w0 F0 H F w ρ st)
 (hk:∀cy H' F' w' bZ,k cy=some q->bX G w0 F0 H' F' w' bZ cy->bM H F w H' F' w'->(∀t,dst≠some t->bZ t=ρ t)->wpS P nt ops K rest bZ w'):wpS P nt ops K (⟨dst,op,ty,pos,aft,aaK⟩::rest) ρ w:=by
 unfold sf at h;split at h
 .obtain⟨H1,F1,h1,k1⟩:=hh.lH
  exact xQ h hd h1 λcy H' F' w' bZ a b c d=>hk cy H' F' w' bZ a b (k1.trans c) d
 .exact xQ h hd hh hk
theorem bX.put{st:State}{dst:Option Nat}{d:ag}{v:Value}(h:bX G w0 F0 H F w ρ st)(hd:af H F w d v):bX G w0 F0 H F w (qM ρ dst v) (st.put dst d):=by
 refine⟨⟨λt q hq=>?_,?_,by cases dst<;>exact h.sat.all⟩,h.glob⟩
 .cases dst with
  |none=>exact h.sat.slot t q hq
  |some s=>
   have qi:find ((s,d)::st.ah) t=some q:=hq;rw[ax]at qi
   show af H F w q (za ρ s v t)
   rw[k7];by_cases e:s=t
   .rw[aaP e]at qi;rw[aaP e.symm];obtain rfl:=YU qi;exact hd
   .rw[aaO e]at qi;rw[aaO (Ne.symm e)];exact h.sat.slot t q qi
 .cases dst<;>exact h.sat.ob
theorem bX.lit{st:State}{g:Nat}{d:ag}(h:bX G w0 F0 H F w ρ st)(hd:af H F w d (ρ g)):bX G w0 F0 H F w ρ (st.put (some g) d):=by
 refine⟨⟨λt q hq=>?_,h.sat.ob,h.sat.all⟩,h.glob⟩;have qi:find ((g,d)::st.ah) t=some q:=hq;rw[ax]at qi;split at qi
 .rename_i e;subst e;obtain rfl:=YU qi;exact hd
 .exact h.sat.slot t q qi
def oO(ρ:Nat->Value)(kn:List (Nat×Bool)):Prop:=∀g b,find kn g=some b->ρ g= .bool b
theorem oO.del{bZ:Nat->Value}{dst:Option Nat}{kn:List (Nat×Bool)}(h:oO ρ kn)(J6:∀t,dst≠some t->bZ t=ρ t):oO bZ (si dst kn):=by
 intro g b hg
 cases dst with
 |none=>rw[J6 g (by simp)];exact h g b hg
 |some d=>
  obtain⟨h1,h2⟩:=fi.1 hg;rw[J6 g (λe=>h1 (by simp[YU e]))];exact h g b h2
theorem oO.cons{kn:List (Nat×Bool)}{g:Nat}{b:Bool}(h:oO ρ kn)(hb:ρ g= .bool b):oO ρ ((g,b)::kn):=by
 intro g' b' hg;rw[ax]at hg;split at hg
 .rename_i e;subst e;obtain rfl:=YU hg;exact hb
 .exact h g' b' hg
theorem mX{dst:Option Nat}{v:Value}{t:Nat}(h:dst≠some t):qM ρ dst v t=ρ t:=by
 cases dst with
 |none=>rfl
 |some d=>
  show za ρ d v t=ρ t
  rw[k7,aaO (λe=>h (by rw[e]))]
theorem vH{E:Env P}{q:R}:{l:List Oper}->{kn:List (Nat×Bool)}->{st:State}->{k:State->Option R}->{H:aj}->{F:Nat->Prop}->{w:World}->{ρ:Nat->Value}->runs E nt ops l kn st k=some q->oO ρ kn->bX G w0 F0 H F w ρ st->
 (∀cy H' F' w' bZ,k cy=some q->bX G w0 F0 H' F' w' bZ cy->bM H F w H' F' w'->(∀t,(∀o∈l,o.dst≠some t)->bZ t=ρ t)->K bZ w')->wpS P nt ops K l ρ w
 |[],kn,st,k,H,F,w,ρ,h,_,hh,hk=>Iq (hk st H F w ρ h hh (bM.refl H F w) λ_ _=>rfl)
 |o::l,kn,st,k,H,F,w,ρ,h,I4,hh,hk=>by
  unfold runs at h;obtain⟨hd,h'⟩:=ay h;clear h
  have QM:∀d,o.dst=some d->ZK d nt=aaL:=λd e=>by rw[e]at hd;exact hd
  have on:∀{st1:State}{K7:List (Nat×Bool)},sf E o.dst o.op st1 (λcy=>runs E nt ops l (si o.dst K7) cy k)=some q->oO ρ K7->bX G w0 F0 H F w ρ st1->wpS P nt ops K (⟨o.dst,o.op,o.type,o.pos,o.after,aaK⟩::l) ρ w:=by
   intro st1 K7 hs vI jN
   refine Gv hs hd jN λcy H' F' w' bZ e1 e2 e3 e4=>?_
   refine vH e1 (vI.del e4) e2 λst2 H2 F2 w2 QN f1 f2 f3 f4=>?_
   exact hk st2 H2 F2 w2 QN f1 f2 (e3.trans f3) λt ht=>(f4 t λo' ij=>ht o' (by simp[ij])).trans (e4 t (ht o (by simp)))
  have off:∀{st1:State}{K7:List (Nat×Bool)},runs E nt ops l (si o.dst K7) (st1.put o.dst .undef) k=some q->oO ρ K7->bX G w0 F0 H F w ρ st1->wpS P nt ops K l (qM ρ o.dst undef) w:=by
   intro st1 K7 hs vI jN
   refine vH hs (vI.del λt ht=>mX ht) (jN.put rfl) λst2 H2 F2 w2 QN f1 f2 f3 f4=>?_
   exact hk st2 H2 F2 w2 QN f1 f2 f3 λt ht=>(f4 t λo' ij=>ht o' (by simp[ij])).trans (mX (ht o (by simp)))
  obtain⟨dst,op,ty,pos,aft,guard⟩:=o;simp only at h' on off QM;split at h'
  .exact on h' I4 hh
  .rename_i j b;split at h'
   case h_1=>cases h'
   rename_i g J7;obtain⟨J8,h⟩:=ay h';clear h'
   have QO:ρ g= .bool b->wpS P nt ops K (⟨dst,op,ty,pos,aft,aaK⟩::l) ρ w->wpS P nt ops K (⟨dst,op,ty,pos,aft,some (j,b)⟩::l) ρ w:=λhb hw=>KA g J7 J8 hb hw
   have K8:∀b',ρ g= .bool b'->b'≠b->wpS P nt ops K l (qM ρ dst undef) w->wpS P nt ops K (⟨dst,op,ty,pos,aft,some (j,b)⟩::l) ρ w:=λb' hb cq hw=>by
    cases dst with
    |none=>exact u7 g J7 J8 hb cq hw
    |some d=>exact Ir g J7 J8 hb cq (QM d rfl) hw
   split at h
   .rename_i v hv;have TR:=I4 g v hv
    cases Nt:(bif v then b else !b)with
    |true=>
     rw[Nt,cond_true]at h
     have:v=b:=by cases v<;>cases b<;>simp_all
     subst this;exact QO TR (on h I4 hh)
    |false=>
     rw[Nt,cond_false]at h
     have:v≠b:=by intro e;subst e;cases v<;>simp_all
     exact K8 v TR this (off h I4 hh)
   .split at h
    .rename_i hu;have TS:ρ g=undef:=hh.sat.slot _ _ hu
     cases dst with
     |none=>exact sY g J7 J8 TS (off h I4 hh)
     |some d=>exact EX g J7 J8 TS (QM d rfl) (off h I4 hh)
    .rename_i d tK;split at h
     case h_2=>cases h
     rename_i t ht;have hgt:=kA ht (hh.sat.slot _ _ tK);split at h
     .rename_i I5;subst I5;have jN:bX G w0 F0 H F w ρ (st.put (some g) (cR aaL)):=hh.lit (by rw[hgt];exact aw.dR ..);have vI:=I4.cons hgt
      cases b with
      |true=>rw[cond_true]at h;exact QO hgt (on h vI jN)
      |false=>rw[cond_false]at h;exact K8 aaL hgt (by simp) (off h vI jN)
     .rename_i I5
      have I5:t=aaM:=by cases t<;>simp_all
      subst I5;have jN:bX G w0 F0 H F w ρ (st.put (some g) (cR aaM)):=hh.lit (by rw[hgt];exact aw.dR ..);have vI:=I4.cons hgt
      cases b with
      |true=>rw[cond_true]at h;exact K8 aaM hgt (by simp) (off h vI jN)
      |false=>rw[cond_false]at h;exact QO hgt (on h vI jN)
    .cases h
end
end
end Go.Proofs.YtbladfbbhijpmaaGreat
section
open _root_.Bool renaming false->aaM,true->aaL,cond_eq_ite->Zl
open _root_.Option renaming none->aaK,bind_assoc->ZI,isSome_iff_exists->ZC,none_or->Z4
open _root_.Array renaming getElem?_eq_getElem->Zi,getElem?_eq_some_iff->Zx
open _root_.List renaming length_append->Zf,length_cons->Ze,mem_cons->Y6,mem_cons_of_mem->Zm,mem_cons_self->Zz,mem_singleton->Y5
open _root_.Nat renaming add_zero->Z1,beq->YZ,blt->ZK,testBit_or->aao,zero_add->Zy
open _root_.Option.some renaming inj->YU
open _root_.Go.Region renaming binds->aau
namespace Go.Proofs.YtbladfbbhijpmaaGreat
open Go Go.RowKit
section
variable {P:Program} {R:Type} {ob:Nat->Option (Nat×Th)} {n:Nat} (k:cU->Option R)
theorem sq{rd:Operand->Option ag}{fn:Fn}{first caps:Array Operand}:jn rd fn first caps k=(jn rd fn first caps some).bind k:=by
 unfold jn
 repeat' first|rfl|split
theorem vJ(T:aJ P){m:Nat}{e:TypeId}{D:ag}{i:Int}:mH T m e D i k=(mH T m e D i some).bind k:=by
 unfold mH;simp only[Zl]
 repeat' first|rfl|(rw[ZI];rfl)|split
theorem vK(T:aJ P){t:TypeId}{D:ag}{i:Int}:mN T ob t D i k=(mN T ob t D i some).bind k:=by
 unfold mN;simp only[Zl]
 repeat' first|rfl|(rw[ZI];rfl)|split
theorem xR(T:aJ P){t:TypeId}{D:ag}{i:Int}:pj T ob t D i k=(pj T ob t D i some).bind k:=by
 unfold pj;simp only[Zl]
 repeat' first|rfl|exact vJ k T|(rw[ZI];rfl)|split
theorem Ao(T:aJ P){t:TypeId}{D:ag}:tU T ob t D k=(tU T ob t D some).bind k:=by
 unfold tU;simp only[Zl]
 repeat' first|rfl|split|(rw[ZI];congr 1;funext x;repeat' first|rfl|split)
theorem xS(T:aJ P){t:TypeId}{D V:ag}:pk T ob n t D V k=(pk T ob n t D V some).bind k:=by
 unfold pk;simp only[Zl]
 repeat' first|rfl|split|(rw[ZI];rfl)|(rw[ZI];congr 1;funext x;repeat' first|rfl|split)
theorem xT(T:aJ P){t:TypeId}{D:ag}:nO T ob n t D k=(nO T ob n t D some).bind k:=by
 unfold nO;simp only[Zl]
 repeat' first|rfl|split|(rw[ZI];rfl)
theorem xU(T:aJ P){t:TypeId}{D:ag}:lU T ob n t D k=(lU T ob n t D some).bind k:=by
 unfold lU;split
 .exact xT k T
 .exact Ao k T
theorem vL(T:aJ P){t:TypeId}{D V:ag}:mP T ob n t D V k=(mP T ob n t D V some).bind k:=by
 unfold mP;simp only[Zl]
 repeat' first|rfl|split|(rw[ZI];rfl)
theorem vM(T:aJ P){t:TypeId}{D V:ag}:mS T ob n t D V k=(mS T ob n t D V some).bind k:=by
 unfold mS;split
 .exact vL k T
 .exact xS k T
theorem tm{e:TypeId}{dr:DR}{ds:List ag}:lT e dr ob n ds k=(lT e dr ob n ds some).bind k:=by
 unfold lT;simp only[Zl]
 repeat' first|rfl|split
theorem xV(T:aJ P){t:TypeId}:pn T n t k=(pn T n t some).bind k:=by
 unfold pn
 repeat' first|rfl|split
theorem DG{t:TypeId}{V:ag}:C8 n t V k=(C8 n t V some).bind k:=by
 unfold C8
 repeat' first|rfl|split
theorem sr(T:aJ P){t:TypeId}{s:Bool}{a b:Int}:rI T n t s a b k=(rI T n t s a b some).bind k:=by
 unfold rI
 repeat' first|rfl|split|(rw[ZI];rfl)
theorem xW(T:aJ P){b:Bool}{t:TypeId}{s:Bool}{x y:Int}:rW b T n t s x y k=(rW b T n t s x y some).bind k:=by
 unfold rW;split
 .unfold vw
  repeat' first|rfl|exact sr k T|split|(rw[ZI];rfl)
 .exact sr k T
theorem vN(T:aJ P){t:TypeId}{X Y:ag}:mK T ob n t X Y k=(mK T ob n t X Y some).bind k:=by
 unfold mK;simp only[Zl]
 repeat' first|rfl|split|(rw[ZI];rfl)
theorem pQ(T:aJ P){rd:Operand->Option ag}{t:TypeId}{m:Nat}{ps:Array (Nat×Operand)}:gA T rd ob n t m ps k=(gA T rd ob n t m ps some).bind k:=by
 unfold gA;simp only[Zl]
 repeat' first|rfl|split
theorem vO{b:Bool}(T:aJ P){rd:Operand->Option ag}{t:TypeId}{m:Nat}{ps:Array (Nat×Operand)}:rf b T rd ob n t m ps k=(rf b T rd ob n t m ps some).bind k:=by
 cases b with
 |false=>exact pQ k T
 |true=>
  show mR T rd ob n t m ps k=(mR T rd ob n t m ps some).bind k
  unfold mR;simp only[Zl]
  repeat' first|rfl|exact tm k|split
theorem xX(T:aJ P){rd:Operand->Option ag}{t:TypeId}{ps:Array (Nat×Operand)}:pq T rd t ps k=(pq T rd t ps some).bind k:=by
 unfold pq;simp only[Zl]
 repeat' first|rfl|split
theorem xY(dr:Bool)(T:aJ P){rd:Operand->Option ag}{t:TypeId}{D:ag}{lo hi:Option Operand}:pt dr T rd ob n t D lo hi k=(pt dr T rd ob n t D lo hi some).bind k:=by
 unfold pt;simp only[Zl]
 repeat' first|rfl|split|(rw[ZI];rfl)
theorem DH(T:aJ P){o:BinOp}{t:TypeId}{lit:Bool}{X Y:ag}:Df T ob o t lit X Y k=(Df T ob o t lit X Y some).bind k:=by
 unfold Df;simp only[Zl]
 repeat' first|rfl|split|(rw[ZI];rfl)
theorem qP(T:aJ P){t:TypeId}{M X Y:ag}:iq T ob n t M X Y k=(iq T ob n t M X Y some).bind k:=by
 unfold iq;simp only[Zl]
 repeat' first|rfl|split
theorem tn(T:aJ P){t:TypeId}:kF T n t k=(kF T n t some).bind k:=by
 unfold kF
 repeat' first|rfl|split
theorem vP(T:aJ P){t:TypeId}{ok:Bool}{M X:ag}:mM T ob t ok M X k=(mM T ob t ok M X some).bind k:=by
 unfold mM;simp only[Zl]
 repeat' first|rfl|split
theorem tq(T:aJ P){t:TypeId}{X Y:ag}:kK T ob n t X Y k=(kK T ob n t X Y some).bind k:=by
 unfold kK
 cases F6 ob Y with
 |false=>exact vN k T
 |true=>
  simp only[cond_true];unfold oI;simp only[Zl]
  repeat' first|rfl|split|(rw[ZI];rfl)
theorem pR(T:aJ P){t:TypeId}{M X Y:ag}:gB T ob n t M X Y k=(gB T ob n t M X Y some).bind k:=by
 unfold gB;simp only[Zl]
 repeat' first|rfl|exact qP k _|split
theorem su(b:Bool)(T:aJ P){t:TypeId}:jm b T n t k=(jm b T n t some).bind k:=by
 unfold jm;simp only[Zl]
 repeat' first|rfl|exact tn k _|split
theorem tt(T:aJ P){t:TypeId}{ok:Bool}{M X:ag}:kJ T ob n t ok M X k=(kJ T ob n t ok M X some).bind k:=by
 unfold kJ;simp only[Zl]
 repeat' first|rfl|exact vP k _|split
theorem xZ{sg:oq}{bs:Bs}{aD:List (Nat×(Nat×Th))}{nd:List Nat}{y:ct sg.out.rows}:pO sg n bs aD nd y k=(pO sg n bs aD nd y some).bind k:=by
 unfold pO;simp only[Zl]
 repeat' first|rfl|split
theorem lY{objs:List (Nat×(Nat×Th))}{f:FuncId}{ds:List ag}:{tab:List (Nat×oq)}->la objs n f ds k tab=(la objs n f ds some tab).bind k
 |[]=>rfl
 |(g,sg)::tab=>by
  unfold la;have ih:=lY (objs:=objs) (f:=f) (ds:=ds) (tab:=tab);simp only[Zl]
  repeat' first|rfl|exact ih|split|(rw[ZI];congr 1;funext y;exact xZ k)
theorem Ap{tab:List (Nat×oq)}{rd:Operand->Option ag}{objs:List (Nat×(Nat×Th))}{g:Operand}{args:List Operand}:uw tab rd objs n g args k=(uw tab rd objs n g args some).bind k:=by
 unfold uw
 repeat' first|rfl|exact lY k|split
theorem vQ(T:aJ P){tab:List (Nat×oq)}{rd:Operand->Option ag}{objs:List (Nat×(Nat×Th))}{g:Operand}{name:String}{args:List Operand}:mW T tab rd objs n g name args k=(mW T tab rd objs n g name args some).bind k:=by
 unfold mW
 repeat' first|rfl|exact lY k|split
theorem ya(T:aJ P){t:TypeId}{M:ag}:pD T ob n t M k=(pD T ob n t M some).bind k:=by
 unfold pD
 repeat' first|rfl|split
theorem DJ(T:aJ P){t:TypeId}{D:ag}:DC T t D k=(DC T t D some).bind k:=by
 unfold DC;simp only[Zl]
 repeat' first|rfl|split
theorem vR(T:aJ P){t:TypeId}{ok:Bool}{D:ag}:mV T t ok D k=(mV T t ok D some).bind k:=by
 unfold mV;simp only[Zl]
 repeat' first|rfl|split
theorem vS(T:aJ P){t:TypeId}{M X:ag}:mL T ob n t M X k=(mL T ob n t M X some).bind k:=by
 unfold mL;simp only[Zl]
 repeat' first|rfl|split
theorem Aq(E:Env P){rd:Operand->Option ag}{objs:List (Nat×(Nat×Th))}{c:Callee}{args:Array Operand}{qv:Array TypeId}:kO E rd objs n c args qv k=(kO E rd objs n c args qv some).bind k:=by
 unfold kO;simp only[Zl]
 repeat' first|rfl|exact tq k _|exact vS k _|exact Ap k|exact vQ k _|split
theorem Gw(E:Env P){rd:Operand->Option ag}{objs:List (Nat×(Nat×Th))}{dst:Option Nat}{op:Op}:I1 E rd objs n dst op k=(I1 E rd objs n dst op some).bind k:=by
 unfold I1
 repeat' first|rfl|exact vM k _|exact pR k _|exact su k _ _|exact tt k _|exact ya k _|exact DJ k _|exact vR k _|exact Aq k _|exact xV k _|exact DG k|exact xX k _|exact vO k _|exact xU k _|exact DH k _|exact xW k _|exact xY k _ _|exact xR k _|exact vK k _|exact sq k|split
end
def fO{α:Type}(ns:List Nat):List (Nat×α)->List (Nat×α)
 |[]=>[]
 |(m,a)::l=>bif jx m ns then(m,a)::fO ns l else fO ns l
theorem uC{α:Type}{ns:List Nat}{l:List (Nat×α)}{n:Nat}{a:α}:find (fO ns l) n=some a↔n∈ns/\find l n=some a:=by
 induction l with
 |nil=>simp[fO,find]
 |cons p l ih=>
  obtain⟨m,b⟩:=p;unfold fO
  cases hm:jx m ns with
  |true=>
   have bL:=cW.1 hm;rw[cond_true,ax,ax];by_cases h:m=n
   .subst h;simp[bL]
   .simp only[aaO h];exact ih
  |false=>
   have bL:m∉ns:=λe=>by rw[cW.2 e]at hm;cases hm
   rw[cond_false,ih,ax];constructor
   .rintro⟨h1,h2⟩
    have cq:m≠n:=λe=>bL (e▸h1)
    exact⟨h1,by rw[aaO cq];exact h2⟩
   .rintro⟨h1,h2⟩
    have cq:m≠n:=λe=>bL (e▸h1)
    rw[aaO cq]at h2;exact⟨h1,h2⟩
def tmpsOf:List Operand->List Nat
 |[]=>[]
 | .tmp t::l=>t::tmpsOf l
 |_::l=>tmpsOf l
def J9:List (Bool×Tree)->List Nat
 |[]=>[]
 |p::l=>p.2.owns++J9 l
def NI:ag->List Nat
 | .val _ t=>t.owns
 | .ptr o _ _=>[o]
 | .elem o .. =>[o]
 | .dlm o .. =>[o]
 | .tup ds=>J9 ds
 | .fn _ caps=>caps.map (·.1)
 | .ifc _ d=>NI d
 |_=>[]
def Ka(ah:List (Nat×ag)):List Nat->List Nat
 |[]=>[]
 |t::l=>(match find ah t with
  |some d=>NI d
  |none=>[])++Ka ah l
def within(objs:List (Nat×(Nat×Th))):List Nat->List Nat
 |[]=>[]
 |o::l=>(match find objs o with
  |some (_, .box _ t)=>t.owns
  |_=>[])++within objs l
def I6(ah:List (Nat×ag))(objs:List (Nat×(Nat×Th)))(ts:List Nat):List Nat:=
 (λl=>l++within objs l) (Ka ah ts)
def uD(aD:List (Nat×(Nat×Th)))(nd:List Nat)(e:cU):cU:=
 {dst:=e.dst,eat:=nd++e.eat,make:=e.make++del e.eat (lG aD nd)}
section
variable {U:Nat->Prop} {H:aj} {F:Nat->Prop} {w:World} {n:Nat}
theorem DK{obj aD:List (Nat×(Nat×Th))}{nd:List Nat}{e:cU}{v:Value}{w':World}{F1:Nat->Prop}(tf:dS obj nd=some aD)(pA:al U H F1 w (find aD) n)(zw:∀b,F b->F1 b)(If:∀b,F1 b->F b\/bE H (find obj) nd b)
 (h:jc H F1 w (find aD) n e v w'):jc H F w (find obj) n (uD aD nd e) v w':=by
 obtain⟨H',F',hp⟩:=h
 have eU:∀k,bE H (find aD) e.eat k->bE H (find obj) (nd++e.eat) k:=by
  rintro k ⟨o,ho,s,t,u,h1,h2,h3⟩
  rcases gC tf o s t h1 with h4|h4
  .exact⟨o,by simp[ho],s,t,u,h4,h2,h3⟩
  .exact(eZ h4 h3).elim
 have part:∀o s t,find (e.make++del e.eat (lG aD nd)) o=some (s,t)->find e.make o=some (s,t)\/(o∉e.eat/\o∈nd/\find aD o=some (s,t)/\c7 t=aaL):=by
  intro o s t ho;rw[fh]at ho
  cases hm:find e.make o with
  |some x=>rw[hm]at ho;exact .inl ho
  |none=>
   rw[hm,Z4]at ho;obtain⟨h1,h2⟩:=fi.1 ho;obtain⟨h3,h4,h5⟩:=jy h2;exact .inr ⟨h1,h3,h4,h5⟩
 refine⟨H',F',⟨hp.iB.eL,⟨hp.iB.ext.os,hp.iB.ext.tape,hp.iB.ext.output,hp.iB.ext.size,λk hk hn=>hp.iB.ext.block k hk λhh=>hn (eU k hh)⟩,λb hb=>hp.iB.le b (zw b hb),λb hb=>?_,hp.iB.lt⟩,hp.fresh,hp.dst,⟨λo s t ho=>?_,λo o' s s' t t' v v' cq ho ij hv cV k hk jd=>?_⟩,λo ho=>?_⟩
 .rcases hp.iB.grow b hb with h1|h1|h1
  .rcases If b h1 with h2|⟨o,ho,rest⟩
   .exact .inl h2
   .exact .inr (.inr ⟨o,by simp[uD,ho],rest⟩)
  .exact .inr (.inl h1)
  .exact .inr (.inr (eU b h1))
 .rcases part o s t ho with h1|⟨h1,h2,h3,h4⟩
  .obtain⟨u,a1,a2,a3,a4,a5⟩:=hp.made.obj o s t h1;exact⟨u,a1,a2,a3,a4,λk hk=>⟨(a5 k hk).1,(a5 k hk).2.1,(a5 k hk).2.2.imp id (eU k)⟩⟩
  .obtain⟨u,hu,bL⟩:=pA.obj _ _ _ h3;have:=bL.iB pA hp.iB h3 h1 hu;exact⟨u,hp.iB.eL.val _ _ hu,this.one,this.con,this.ok,λk hk=>(eZ h4 hk).elim⟩
 .rcases part o s t ho with h1|⟨_,_,_,h4⟩
  .rcases part o' s' t' ij with h2|⟨_,_,_,QP⟩
   .exact hp.made.apart o o' s s' t t' v v' cq h1 h2 hv cV k hk jd
   .exact eZ QP jd
  .exact eZ h4 hk
 .obtain⟨x,hx⟩:=ZC.1 ho
  rcases part o x.1 x.2 hx with h1|⟨_,h2,_⟩
  .exact(hp.ids o (by rw[h1];rfl)).imp (λh=>by simp[uD,h]) id
  .exact .inl (by simp[uD,h2])
end
def fa(x y:Nat×Th):Prop:=x=y\/∃T d l h h',x.2= .deep T d l h/\y.2= .deep T d l h'
theorem fa.symm{x y:Nat×Th}(h:fa x y):fa y x:=by
 rcases h with rfl|⟨T,d,l,h,h',h1,h2⟩
 .exact .inl rfl
 .exact .inr ⟨T,d,l,h',h,h2,h1⟩
theorem fa.trans{x y z:Nat×Th}(h:fa x y)(h':fa y z):fa x z:=by
 rcases h with rfl|⟨T,d,l,a,b,h1,h2⟩
 .exact h'
 .rcases h' with rfl|⟨T',d',l',a',b',h3,h4⟩
  .exact .inr ⟨T,d,l,a,b,h1,h2⟩
  .rw[h2]at h3;cases h3;exact .inr ⟨T,d,l,a,b',h1,h4⟩
structure iu where
 dst:Option Nat
 ts:List Nat
 os:List Nat
 e:cU
 ls:List Nat:=[]
 soft:List Nat:=[]
def nz:List (Nat×(Nat×Th))->List Nat
 |[]=>[]
 |(o,_)::l=>o::nz l
def iu.mut(x:iu):List Nat:=x.e.eat++nz x.e.make
def vT:Op->Bool
 | .call c=>match c.callee with
   | .builtin .len=>aaL
   |_=>aaM
 |_=>aaM
def Kb(rd:Operand->Option ag):Op->List Nat
 | .load _ x=>match rd x with
   |some (.dlm o _ _ _ _)=>[o]
   |_=>[]
 |_=>[]
def eW(st:State)(op:Op):List Nat:=
 match op with
 | .move _=>[]
 | .assign _=>[]
 |_=>I6 st.ah st.objs (tmpsOf op.operands.toList)
noncomputable def uE{R:Type}{P:Program}(E:Env P)(dst:Option Nat)(op:Op)(gs:List Nat)(st:State)(k:cU->iu->Option R):Option R:=
 match dS (fO (eW st op) st.objs) (nT E (C0 (fO (tmpsOf op.operands.toList) st.ah)) (fO (eW st op) st.objs) op)with
 |some aD=>bif TQ dst op then I1 E (C0 (fO (tmpsOf op.operands.toList) st.ah)) aD st.nxt dst op (λe=>
   (λe'=>k e' {dst:=dst,ts:=tmpsOf op.operands.toList++gs,os:=bif vT op then[]else eW st op,e:=e',ls:=bif vT op then eW st op else[],soft:=Kb (C0 (fO (tmpsOf op.operands.toList) st.ah)) op}) (uD aD (nT E (C0 (fO (tmpsOf op.operands.toList) st.ah)) (fO (eW st op) st.objs) op) e))else aaK
 |none=>aaK
structure Kc(P:Program)(U:Nat->Prop)(o:Oper)(sl:Nat->Option ag)(ob:Nat->Option (Nat×Th))(n:Nat)(BX:iu):Prop where
 dst:BX.dst=o.dst
 run:∃(QR:Nat->Option ag)(HX:Nat->Option (Nat×Th)),(∀t d,QR t=some d->t∈BX.ts/\sl t=some d)/\(∀q x,HX q=some x->(q∈BX.os\/q∈BX.ls)/\ob q=some x)/\
  ∀(H:aj)(F:Nat->Prop)(w:World)(ρ:Nat->Value)(DL:Nat->Option (Nat×Th)),(∀q x,HX q=some x->∃x',DL q=some x'/\fa x x'/\(q∈BX.os->x'=x))->(∀t d,QR t=some d->af H F w d (ρ t))->al U H F w DL n->
   ∃QS:Nat->Option (Nat×Th),(∀q x,QS q=some x->DL q=some x)/\bD P ρ ⟨o.dst,o.op,o.type,o.pos,o.after,aaK⟩ w (jc H F w QS n BX.e)
 soft:∀q∈BX.soft,q∈BX.mut->∃x y,ob q=some x/\find BX.e.make q=some y/\fa x y
theorem DM{ob Fy:Nat->Option (Nat×Th)}{D:ag}{k:FE}(K9:∀q x,ob q=some x->∃x',Fy q=some x'/\fa x x')(h:qN ob D=some k):∃k',qN Fy D=some k'/\oB k'=oB k:=by
 unfold qN at h;split at h
 .cases h;exact⟨_,rfl,rfl⟩
 .cases h;exact⟨_,rfl,rfl⟩
 .rename_i o
  cases ho:ob o with
  |none=>rw[ho]at h;cases h
  |some x=>
   obtain⟨s,t⟩:=x;obtain⟨⟨s',t'⟩,h1,h2⟩:=K9 o _ ho;rw[ho]at h
   rcases h2 with e|⟨T,d,l,a,b,e1,e2⟩
   .cases e;exact⟨k,by show(match Fy o with|some (s, .own T r l)=>_|some (_, .pf _ r l)=>_|some (_, .fdeep _ d l)=>_|some (s, .deep T d l h)=>_|_=>_)=_;rw[h1];exact h,rfl⟩
   .simp only at e1 e2;subst e1 e2;cases h;exact⟨.deep o s' T d l b,by show(match Fy o with|some (s, .own T r l)=>_|some (_, .pf _ r l)=>_|some (_, .fdeep _ d l)=>_|some (s, .deep T d l h)=>_|_=>_)=_;rw[h1],rfl⟩
 .rename_i o s r m
  have hk:oB k=(m.length:Int):=by
   split at h
   .rename_i s' _ _ _ _
    cases hb:YZ s' s<;>rw[hb]at h<;>cases h<;>rfl
   .cases h;rfl
  rw[hk]
  show∃k',(match Fy o with|some (s', .pf ..)=>bif YZ s' s then some (FE.read r m)else some (.view o s r m)|_=>some (.view o s r m))=some k'/\oB k'=_
  split
  .rename_i s' _ _ _ _
   cases hb:YZ s' s with
   |true=>exact⟨FE.read r m,rfl,rfl⟩
   |false=>exact⟨FE.view o s r m,rfl,rfl⟩
  .exact⟨FE.view o s r m,rfl,rfl⟩
 .cases h
theorem DN{P:Program}(T:aJ P){ob Fy:Nat->Option (Nat×Th)}{t:TypeId}{D D':ag}(K9:∀q x,ob q=some x->∃x',Fy q=some x'/\fa x x')(h:C9 T ob t D=some D'):C9 T Fy t D=some D':=by
 unfold C9 at h⊢;split at h
 .split at h
  case h_2=>cases h
  rename_i k hk;obtain⟨k',h1,h2⟩:=DM K9 hk;rw[h1];simp only[h2];exact h
 .exact h
 .cases h
theorem DO{P:Program}(T:aJ P){ob:Nat->Option (Nat×Th)}{n:Nat}{t:TypeId}{o:Nat}{d:DR}{i:Int}{p:List Bool}{off:Nat}{e:cU}(h:lU T ob n t (.dlm o d i p off) some=some e)(hm:o∈e.eat++nz e.make):
 ∃x y,ob o=some x/\find e.make o=some y/\fa x y:=by
 unfold lU nO at h;simp only at h;split at h
 .cases h
 split at h
 case h_2=>cases h
 rename_i s T0 dr l hh ho;obtain⟨_,h⟩:=ay h;split at h
 .obtain⟨_,h⟩:=ay h;obtain⟨_,_,h⟩:=bind_some h;cases h;simp[nz]at hm
 .obtain⟨_,h⟩:=ay h;split at h
  .obtain⟨_,_,h⟩:=bind_some h;cases h;exact⟨_,(n, .deep T0 dr l _),ho,by rw[ax,aaP rfl], .inr ⟨T0,dr,l,aaK,_,rfl,rfl⟩⟩
  .obtain⟨_,h⟩:=ay h;split at h
   .obtain⟨_,_,h⟩:=bind_some h;cases h;simp[nz]at hm
   .cases h
 .cases h
theorem Gx{P:Program}{E:Env P}{U:Nat->Prop}{R:Type}{o:Oper}{gs:List Nat}{st:State}{k:cU->iu->Option R}{q:R}(h:uE E o.dst o.op gs st k=some q):
 ∃e BX,k e BX=some q/\BX.e=e/\(∀g∈gs,g∈BX.ts)/\Kc P U o (find st.ah) (find st.objs) st.nxt BX:=by
 unfold uE at h;split at h
 case h_2=>cases h
 rename_i aD tf;obtain⟨Al,h'⟩:=ay h;clear h;rw[Gw]at h';obtain⟨e,he,hk⟩:=bind_some h'
 have I7:∀t d,find (fO (tmpsOf o.op.operands.toList) st.ah) t=some d->t∈tmpsOf o.op.operands.toList/\find st.ah t=some d:=λt d ht=>uC.1 ht
 have Ar:∀q x,find (fO (eW st o.op) st.objs) q=some x->q∈eW st o.op/\find st.objs q=some x:=λq x hx=>uC.1 hx
 refine⟨_,_,hk,rfl,λg hg=>by simp[hg],rfl,⟨find (fO (tmpsOf o.op.operands.toList) st.ah),find (fO (eW st o.op) st.objs),λt d ht=>⟨by simp[(I7 t d ht).1],(I7 t d ht).2⟩,λq x hx=>⟨?_,(Ar q x hx).2⟩,λH F w ρ DL K9 fc bR=>?_⟩,λq hq hm=>?_⟩
 .cases hl:vT o.op with
  |true=>exact .inr (by simp only[cond_true];exact(Ar q x hx).1)
  |false=>exact .inl (by simp only[cond_false];exact(Ar q x hx).1)
 .cases hl:vT o.op with
  |false=>
   simp only[hl,cond_false]at K9
   have eH:∀q x,find (fO (eW st o.op) st.objs) q=some x->DL q=some x:=λq x hx=>by
    obtain⟨x',h1,_,h2⟩:=K9 q x hx;rw[h1,h2 (Ar q x hx).1]
   have qO:al U H F w (find (fO (eW st o.op) st.objs)) st.nxt:=⟨λo s t ho=>bR.obj o s t (eH _ _ ho),λo o' s s' t t' v v' cq ho ij=>bR.apart o o' s s' t t' v v' cq (eH _ _ ho) (eH _ _ ij),bR.fresh,bR.lt,bR.new,bR.gl⟩
   refine⟨_,eH,?_⟩;obtain⟨F1,pA,zw,If⟩:=kL tf qO
   have dZ:Step F w F1 w:=λb hb=>⟨zw b hb,rfl⟩
   obtain⟨e',he',hs⟩:=Gp (ρ:=ρ) (ty:=o.type) (pos:=o.pos) (aft:=o.after) E (λx d hx=>pg pA.gl (λt d ht=>(fc t d ht).keep (aj.le.refl H) dZ) x d hx) (λhn c hc=>by rw[hn,hc]at Al;exact Al) he pA;obtain rfl:=YU he'
   exact hs.mono λv w' hp=>DK tf pA zw If hp
  |true=>
   refine⟨DL,λ_ _ h=>h,?_⟩;obtain⟨La,QT,VP,QU,QV,VQ⟩:=o;simp only at*
   cases QT<;>try(cases hl;done)
   rename_i c;obtain⟨callee,args,qv⟩:=c
   cases callee<;>try(cases hl;done)
   rename_i b
   cases b<;>try(cases hl;done)
   cases La with
   |none=>cases Al
   |some d=>
    have zS:nT E (C0 (fO (tmpsOf (Op.operands (.call {callee:= .builtin .len,args:=args,argTypes:=qv})).toList) st.ah)) (fO (eW st (.call {callee:= .builtin .len,args:=args,argTypes:=qv})) st.objs) (.call {callee:= .builtin .len,args:=args,argTypes:=qv})=[]:=by unfold nT;cases E.deep<;>rfl
    rw[zS]at tf⊢;obtain rfl:=YU tf;have Gy:kO E _ _ st.nxt (.builtin .len) args qv some=some e:=he;unfold kO at Gy;simp only at Gy;split at Gy
    case h_2=>cases Gy
    rename_i x t ha ht;obtain rfl:=cO ha;obtain rfl:=cO ht;split at Gy
    case h_2=>cases Gy
    rename_i D hD;split at Gy
    case h_2=>cases Gy
    rename_i D' Ix;cases Gy;have hlen:=DN E.T (λq x hx=>by obtain⟨x',h1,h2,_⟩:=K9 q x hx;exact⟨x',h1,h2⟩) Ix;exact Bu E.T hlen bR (pg bR.gl fc _ _ hD)
 .obtain⟨La,QT,VP,QU,QV,VQ⟩:=o;simp only at*
  cases QT<;>try(cases hq;done)
  rename_i t x;unfold Kb at hq;simp only at hq;split at hq
  case h_2=>cases hq
  rename_i o' d0 i p off dD;obtain rfl:=Y5.1 hq
  have zS:nT E (C0 (fO (tmpsOf (Op.operands (.load t x)).toList) st.ah)) (fO (eW st (.load t x)) st.objs) (.load t x)=[]:=by unfold nT;cases E.deep<;>rfl
  rw[zS]at tf hm⊢;obtain rfl:=YU tf
  cases La with
  |none=>cases he
  |some d=>
   unfold I1 at he;simp only[dD]at he
   have VS:q∈e.eat++nz e.make:=by
    simpa[iu.mut,uD,lG,del]using hm
   obtain⟨x1,y1,h1,h2,h3⟩:=DO E.T he VS;refine⟨x1,y1,(Ar _ _ h1).2,?_,h3⟩
   show find (e.make++_) q=_
   rw[fh,h2];rfl
end Go.Proofs.YtbladfbbhijpmaaGreat
namespace Go.Proofs.YtbladfbbhijpmaaGreat
open Go Go.RowKit
def tv(acc:List Nat)(i:Nat):List Edge->Option Nat
 |[]=>some 0
 |e::l=>match tv acc i l with
  |some m=>bif aau .any e then(bif ZK e.on i then some (m|||2 ^ e.on|||acc.getD e.on 0)else aaK)else some m
  |none=>aaK
def DP(acc:List Nat):List Oper->Option (List Nat)
 |[]=>some acc
 |o::l=>match tv acc acc.length o.after.toList with
  |some m=>DP (acc++[m]) l
  |none=>aaK
def gv(d:Option Nat)(l:List Nat):Bool:=
 match d with
 |some t=>jx t l
 |none=>aaM
def yb(l l':List Nat):Bool:=l.any λo=>jx o l'
def iu.NJ(x:iu):List Nat:=x.mut.filter λo=> !jx o x.soft
def conflict(a b:iu):Bool:=
 gv a.dst b.ts||gv b.dst a.ts||gv a.dst (b.dst.toList)||yb a.mut (b.os++b.mut)||yb a.NJ b.ls||yb (a.os++a.ls++a.mut) b.mut
def vU(ms:List Nat)(i:Nat)(x:iu):Nat->List iu->Bool
 |_,[]=>aaL
 |j,y::l=>(bif conflict x y then Nat.testBit (ms.getD j 0) i else aaL)&&vU ms i x (j+1) l
def ri(ms:List Nat):Nat->List iu->Bool
 |_,[]=>aaL
 |i,x::l=>vU ms i x (i+1) l&&ri ms (i+1) l
def pS(ops:List Oper)(es:List iu):Bool:=
 match DP [] ops with
 |some ms=>ri ms 0 es
 |none=>aaM
section
variable {ops:Array Oper}
def As(ops:Array Oper)(S:Nat->Prop):Prop:=∀i,S i->∀o,ops[i]? =some o->∀e∈o.after,aau .any e=aaL->S e.on
theorem vV{acc:List Nat}{i:Nat}:{l:List Edge}->{m:Nat}->tv acc i l=some m->∀j,m.testBit j=aaL->∃e∈l,aau .any e=aaL/\e.on<i/\(e.on=j\/(acc.getD e.on 0).testBit j=aaL)
 |[],m,h,j,hj=>by
  obtain rfl:=YU h;simp at hj
 |e::l,m,h,j,hj=>by
  unfold tv at h;split at h
  case h_2=>cases h
  rename_i m0 h0
  cases hb:aau .any e with
  |false=>
   rw[hb,cond_false]at h;obtain rfl:=YU h;obtain⟨e',a1,a2⟩:=vV h0 j hj;exact⟨e',by simp[a1],a2⟩
  |true=>
   rw[hb,cond_true]at h
   cases ai:ZK e.on i with
   |false=>rw[ai]at h;cases h
   |true=>
    rw[ai,cond_true]at h;obtain rfl:=YU h;rw[aao,aao,Bool.or_eq_true,Bool.or_eq_true]at hj
    have II:e.on<i:=by simpa using ai
    rcases hj with(hj|hj)|hj
    .obtain⟨e',a1,a2⟩:=vV h0 j hj;exact⟨e',by simp[a1],a2⟩
    .rw[Nat.testBit_two_pow]at hj;exact⟨e,by simp,hb,II, .inl (aaQ hj)⟩
    .exact⟨e,by simp,hb,II, .inr hj⟩
theorem BY{acc:List Nat}{i:Nat}:{l:List Edge}->{m:Nat}->tv acc i l=some m->∀e∈l,aau .any e=aaL->e.on<i
 |[],m,h,e,he,_=>by cases he
 |e0::l,m,h,e,he,hb=>by
  unfold tv at h;split at h
  case h_2=>cases h
  rename_i m0 h0
  rcases Y6.1 he with rfl|he
  .rw[hb,cond_true]at h
   cases ai:ZK e.on i with
   |false=>rw[ai]at h;cases h
   |true=>simpa using ai
  .exact BY h0 e he hb
theorem vW:{l:List Oper}->{acc ms:List Nat}->DP acc l=some ms->ms.length=acc.length+l.length/\(∀i,i<acc.length->ms.getD i 0=acc.getD i 0)/\
 ∀k o,l[k]? =some o->∃m,tv ms (acc.length+k) o.after.toList=some m/\ms.getD (acc.length+k) 0=m
 |[],acc,ms,h=>by
  obtain rfl:=YU h;exact⟨by simp,λ_ _=>rfl,λk o h=>by simp at h⟩
 |o0::l,acc,ms,h=>by
  unfold DP at h;split at h
  case h_2=>cases h
  rename_i m hm;obtain⟨a1,a2,a3⟩:=vW h;rw[Zf,List.length_singleton]at a1 a2 a3
  have Gz:∀i,i<acc.length->ms.getD i 0=acc.getD i 0:=λi hi=>by
   rw[a2 i (by omega)];simp[List.getD,List.getElem?_append_left hi]
  have QW:∀(l:List Edge)(m:Nat),tv acc acc.length l=some m->tv ms acc.length l=some m:=by
   intro l
   induction l with
   |nil=>intro m h;exact h
   |cons e l ih=>
    intro m h;unfold tv at h⊢;split at h
    case h_2=>cases h
    rename_i m0 h0;rw[ih m0 h0];simp only
    cases hb:aau .any e with
    |false=>rw[hb]at h;exact h
    |true=>
     rw[hb,cond_true]at h
     cases ai:ZK e.on acc.length with
     |false=>rw[ai]at h;cases h
     |true=>
      rw[ai,cond_true]at h;rw[cond_true,cond_true,Gz _ (by simpa using ai)];exact h
  refine⟨by rw[a1,Ze];omega,Gz,λk o ho=>?_⟩
  cases k with
  |zero=>
   obtain rfl:o0=o:=by simpa using ho
   refine⟨m,QW _ _ hm,?_⟩;rw[Z1,a2 _ (by omega)];simp[List.getD]
  |succ k=>
   have:=a3 k o (by simpa using ho);rw[show acc.length+1+k=acc.length+(k+1)from by omega]at this;exact this
theorem GA{ms:List Nat}(h:DP [] ops.toList=some ms){S:Nat->Prop}(hS:As ops S):∀i o,ops[i]? =some o->(∀e∈o.after,aau .any e=aaL->S e.on)->∀j,(ms.getD i 0).testBit j=aaL->S j:=by
 obtain⟨_,_,a3⟩:=vW h;intro i
 induction i using Nat.strongRecOn with
 |_ i ih=>
  intro o ho hd j hj;obtain⟨m,h1,h2⟩:=a3 i o (by rw[Array.getElem?_toList];exact ho);simp only[List.length_nil,Zy]at h1 h2;rw[h2]at hj;obtain⟨e,he,hb,ai,h3⟩:=vV h1 j hj;have TT:=hd e (by simpa using he) hb
  rcases h3 with rfl|h3
  .exact TT
  .have I8:e.on<ops.size:=by
    have:=(Zx.1 ho).1;omega
   exact ih e.on ai _ (Zi I8) (λe' he' qX=>hS e.on TT _ (Zi I8) e' he' qX) j h3
end
def dW(S:Nat->Bool):Nat->List iu->(Nat->Option ag)->Nat->Option ag
 |_,[],f=>f
 |i,x::l,f=>dW S (i+1) l (λt=>bif S i&&gv (some t) x.dst.toList then some x.e.dst else f t)
def dE(S:Nat->Bool):Nat->List iu->(Nat->Option (Nat×Th))->Nat->Option (Nat×Th)
 |_,[],f=>f
 |i,x::l,f=>dE S (i+1) l (λo=>bif S i then(find x.e.make o).or (bif jx o x.e.eat then aaK else f o)else f o)
theorem mY{l:List (Nat×(Nat×Th))}{o:Nat}{x:Nat×Th}(h:find l o=some x):o∈nz l:=by
 induction l with
 |nil=>cases h
 |cons p l ih=>
  obtain⟨o',y⟩:=p;rw[ax]at h;split at h
  .rename_i e;subst e;exact Zz
  .exact Zm _ (ih h)
theorem oP{d:Option Nat}{t:Nat}:gv (some t) d.toList=aaL↔d=some t:=by
 unfold gv;simp only[cW,Option.mem_toList]
theorem iN{S S':Nat->Bool}{t:Nat}:{l:List iu}->{i:Nat}->{f f':Nat->Option ag}->f t=f' t->(∀k x,l[k]? =some x->x.dst=some t->S (i+k)=S' (i+k))->dW S i l f t=dW S' i l f' t
 |[],_,_,_,hf,_=>hf
 |x::l,i,f,f',hf,h=>by
  show dW S (i+1) l _ t=dW S' (i+1) l _ t
  refine iN ?_ λk y hy hd=>by
   have:=h (k+1) y (by simpa using hy) hd
   rwa [show i+(k+1)=i+1+k from by omega]at this
  by_cases hd:x.dst=some t
  .have:=h 0 x rfl hd;simp only[Z1]at this;rw[this,hf]
  .have:gv (some t) x.dst.toList=aaM:=by
    cases hb:gv (some t) x.dst.toList with
    |false=>rfl
    |true=>exact absurd (oP.1 hb) hd
   rw[this,Bool.and_false,Bool.and_false,cond_false,cond_false,hf]
theorem iv{S S':Nat->Bool}{o:Nat}:{l:List iu}->{i:Nat}->{f f':Nat->Option (Nat×Th)}->f o=f' o->(∀k x,l[k]? =some x->o∈x.mut->S (i+k)=S' (i+k))->dE S i l f o=dE S' i l f' o
 |[],_,_,_,hf,_=>hf
 |x::l,i,f,f',hf,h=>by
  show dE S (i+1) l _ o=dE S' (i+1) l _ o
  refine iv ?_ λk y hy hd=>by
   have:=h (k+1) y (by simpa using hy) hd
   rwa [show i+(k+1)=i+1+k from by omega]at this
  by_cases hd:o∈x.mut
  .have:=h 0 x rfl hd;simp only[Z1]at this;rw[this,hf]
  .have h1:find x.e.make o=aaK:=by
    cases hm:find x.e.make o with
    |none=>rfl
    |some y=>exact absurd (by simp[iu.mut,mY hm]) hd
   have h2:jx o x.e.eat=aaM:=by
    cases hb:jx o x.e.eat with
    |false=>rfl
    |true=>exact absurd (by simp[iu.mut,cW.1 hb]) hd
   rw[h1,h2,Z4,cond_false]
   cases S i<;>cases S' i<;>simp[hf]
theorem lb{S:Nat->Bool}{t:Nat}:{l:List iu}->{i:Nat}->{f:Nat->Option ag}->(∀k x,l[k]? =some x->x.dst=some t->S (i+k)=aaM)->dW S i l f t=f t
 |[],_,_,_=>rfl
 |x::l,i,f,h=>by
  show dW S (i+1) l _ t=_
  rw[lb λk y hy hd=>by
   have:=h (k+1) y (by simpa using hy) hd
   rwa [show i+(k+1)=i+1+k from by omega]at this]
  by_cases hd:x.dst=some t
  .have:=h 0 x rfl hd;simp only[Z1]at this;simp[this]
  .have:gv (some t) x.dst.toList=aaM:=by
    cases hb:gv (some t) x.dst.toList with
    |false=>rfl
    |true=>exact absurd (oP.1 hb) hd
   simp[this]
theorem kP{S:Nat->Bool}{o:Nat}:{l:List iu}->{i:Nat}->{f:Nat->Option (Nat×Th)}->(∀k x,l[k]? =some x->o∈x.mut->S (i+k)=aaM)->dE S i l f o=f o
 |[],_,_,_=>rfl
 |x::l,i,f,h=>by
  show dE S (i+1) l _ o=_
  rw[kP λk y hy hd=>by
   have:=h (k+1) y (by simpa using hy) hd
   rwa [show i+(k+1)=i+1+k from by omega]at this]
  by_cases hd:o∈x.mut
  .have:=h 0 x rfl hd;simp only[Z1]at this;simp[this]
  .have h1:find x.e.make o=aaK:=by
    cases hm:find x.e.make o with
    |none=>rfl
    |some y=>exact absurd (by simp[iu.mut,mY hm]) hd
   have h2:jx o x.e.eat=aaM:=by
    cases hb:jx o x.e.eat with
    |false=>rfl
    |true=>exact absurd (by simp[iu.mut,cW.1 hb]) hd
   simp only[h1,h2,Z4,cond_false]
   cases S i<;>rfl
theorem lc{S:Nat->Bool}{l l':List iu}{i:Nat}{f:Nat->Option ag}:dW S i (l++l') f=dW S (i+l.length) l' (dW S i l f):=by
 induction l generalizing i f with
 |nil=>rfl
 |cons x l ih=>
  show dW S (i+1) (l++l') _=dW S (i+(l.length+1)) l' (dW S (i+1) l _)
  rw[ih,show i+1+l.length=i+(l.length+1)from by omega]
theorem gD{S:Nat->Bool}{l l':List iu}{i:Nat}{f:Nat->Option (Nat×Th)}:dE S i (l++l') f=dE S (i+l.length) l' (dE S i l f):=by
 induction l generalizing i f with
 |nil=>rfl
 |cons x l ih=>
  show dE S (i+1) (l++l') _=dE S (i+(l.length+1)) l' (dE S (i+1) l _)
  rw[ih,show i+1+l.length=i+(l.length+1)from by omega]
end Go.Proofs.YtbladfbbhijpmaaGreat
end
section
open _root_.Bool renaming false->aaM,true->aaL,false_eq_true->Y8
open _root_.Option renaming none->aaK,none_or->Z4
open _root_.Array renaming getD_eq_getD_getElem?->ZB,getElem?_eq_getElem->Zi,getElem?_eq_some_iff->Zx
open _root_.List renaming drop_eq_getElem_cons->ZA,filter_cons->aax,getElem?_drop->Zc,getElem?_eq_getElem->YX,getElem?_eq_some_iff->Zd,getElem_of_mem->ZJ,length_append->Zf,length_cons->Ze,length_filter_le->aaa,mem_append->Y7,mem_cons->Y6,mem_filter->Zt,range->Y1,take_append_drop->ZQ
open _root_.Nat renaming add_zero->Z1,beq->YZ,blt->ZK,le_refl->YY,le_trans->Zj,zero_add->Zy
open _root_.Option.some renaming inj->YU
open _root_.Go.Region renaming binds->aau,wanted->aal
namespace Go.Proofs.YtbladfbbhijpmaaGreat
open Go Go.RowKit
theorem sv{ms:List Nat}{i:Nat}{x:iu}:{l:List iu}->{j:Nat}->vU ms i x j l=aaL->∀k y,l[k]? =some y->conflict x y=aaL->(ms.getD (j+k) 0).testBit i=aaL
 |[],_,_,k,y,h,_=>by simp at h
 |z::l,j,hl,k,y,h,hc=>by
  obtain⟨h1,h2⟩:=bO hl
  cases k with
  |zero=>
   obtain rfl:z=y:=by simpa using h
   rw[hc,cond_true]at h1;exact h1
  |succ k=>
   have:=sv h2 k y (by simpa using h) hc
   rwa [show j+1+k=j+(k+1)from by omega]at this
theorem nU{ms:List Nat}:{l:List iu}->{i:Nat}->ri ms i l=aaL->∀a b x y,a<b->l[a]? =some x->l[b]? =some y->conflict x y=aaL->(ms.getD (i+b) 0).testBit (i+a)=aaL
 |[],_,_,a,b,x,y,_,h,_,_=>by simp at h
 |z::l,i,hl,a,b,x,y,P4,hx,hy,hc=>by
  obtain⟨h1,h2⟩:=bO hl
  cases a with
  |zero=>
   obtain rfl:z=x:=by simpa using hx
   cases b with
   |zero=>omega
   |succ b=>
    have:=sv h1 b y (by simpa using hy) hc
    rwa [show i+1+b=i+(b+1)from by omega]at this
  |succ a=>
   cases b with
   |zero=>omega
   |succ b=>
    have:=nU h2 a b x y (by omega) (by simpa using hx) (by simpa using hy) hc
    rwa [show i+1+b=i+(b+1)from by omega,show i+1+a=i+(a+1)from by omega]at this
inductive Lb(ops:Array Oper)(nt:Nat)(ts:List Nat)(sl:Nat->Option ag):Option (Nat×Bool)->Bool->Prop
 |none:Lb ops nt ts sl aaK aaL
 |lit {j g:Nat} {b t:Bool} {d:ag} (h1:BW ops j=some g) (h2:ZK g nt=aaL) (h3:g∈ts) (h4:sl g=some d) (h5:asBool d=some t):Lb ops nt ts sl (some (j,b)) (decide (t=b))
 |undef {j g:Nat} {b:Bool} (h1:BW ops j=some g) (h2:ZK g nt=aaL) (h3:g∈ts) (h4:sl g=some .undef):Lb ops nt ts sl (some (j,b)) aaM
structure Lc(P:Program)(ops:Array Oper)(nt:Nat)(U:Nat->Prop)(o:Oper)(sl:Nat->Option ag)(ob:Nat->Option (Nat×Th))(n:Nat)(x:iu):Prop where
 dst:x.dst=o.dst
 DQ:xO nt o.dst=aaL
 on:∃b,Lb ops nt x.ts sl o.guard b/\(b=aaL->Kc P U o sl ob n x)/\(b=aaM->x.e={dst:= .undef})
section
variable {P:Program} {nt:Nat} {ops:Array Oper}
theorem I9{ρ:Nat->Value}{o:Oper}{w:World}{QQ:Value->World->Prop}{a:Act}{K:Act->World->Prop}{Q:Exit->Act->World->Prop}(h:bD P ρ ⟨o.dst,o.op,o.type,o.pos,o.after,aaK⟩ w QQ)(hf:Fr nt a ρ)
 (hk:∀v w',QQ v w'->K (a.put o.dst v) w'):o.wp P a w K Q:=by
 unfold Oper.wp;rw[hf.eval];unfold bD at h;have e:execOp (ev ρ) o=execOp (ev ρ) ⟨o.dst,o.op,o.type,o.pos,o.after,aaK⟩:=rfl;rw[e];generalize(execOp (ev ρ) ⟨o.dst,o.op,o.type,o.pos,o.after,aaK⟩).run P w=r at*
 cases r with
 |halt x w'=>exact h.elim
 |ok x w'=>
  cases x<;>first
   |exact h.elim
   |skip
  case value v=>exact hk v w' h.2
  case skip=>exact hk undef w' h.2
  case enter f args=>
   refine h.mono λe q6 ⟨v,he,hv⟩=>?_
   subst he;exact hk v q6 hv
theorem al.sub{U:Nat->Prop}{H:aj}{F:Nat->Prop}{w:World}{ob HX:Nat->Option (Nat×Th)}{n m:Nat}(h:al U H F w ob n)(hR:∀o x,HX o=some x->ob o=some x)(vf:∀k,m<=k->k<m+16->H.val k=aaK/\H.con k=aaK):al U H F w HX m:=
 ⟨λo s t ho=>h.obj o s t (hR _ _ ho),λo o' s s' t t' v v' cq ho ij=>h.apart o o' s s' t t' v v' cq (hR _ _ ho) (hR _ _ ij),vf,h.lt,h.new,h.gl⟩
structure Inv(G:Nat->Prop)(w0:World)(F0:Nat->Prop)(es:List iu)(sl0:Nat->Option ag)(ob0:Nat->Option (Nat×Th))(n0:Nat)(H:aj)(F:Nat->Prop)(w:World)(ρ:Nat->Value)(S:Nat->Bool)(H':aj)(F':Nat->Prop)(w':World)(bZ:Nat->Value):Prop where
 slot:∀t d,dW S 0 es sl0 t=some d->af H' F' w' d (bZ t)
 ob:al (UU G w0) H' F' w' (dE S 0 es ob0) (n0+16*es.length)
 all:fj H' (n0+16*es.length)
 fresh:∀i,i<es.length->S i=aaM->∀m,n0+16*i<=m->m<n0+16*i+16->H'.val m=aaK/\H'.con m=aaK
 glob:F7 G w0 F0 w' F'
 keeps:bM H F w H' F' w'
 same:∀t,(∀x∈es,x.dst≠some t)->bZ t=ρ t
def ins(S:Nat->Bool)(i:Nat):Nat->Bool:=λj=>bif YZ j i then aaL else S j
theorem lZ{S:Nat->Bool}{i:Nat}:ins S i i=aaL:=by simp[ins]
theorem ma{S:Nat->Bool}{i j:Nat}(h:j≠i):ins S i j=S j:=by
 unfold ins
 cases hb:YZ j i with
 |true=>exact absurd (beq_true hb) h
 |false=>rfl
section
variable {G:Nat->Prop} {w0:World} {F0:Nat->Prop} {es:List iu} {sl0:Nat->Option ag} {ob0:Nat->Option (Nat×Th)} {n0:Nat} {H:aj} {F:Nat->Prop} {w:World} {ρ:Nat->Value} {ms:List Nat}
theorem yc{i:Nat}{x:iu}(h:es[i]? =some x):es=es.take i++x::es.drop (i+1)/\(es.take i).length=i:=by
 have ai:i<es.length:=(Zd.1 h).1;have hx:es[i]=x:=(Zd.1 h).2;refine⟨?_,by simp;omega⟩;rw[<-hx,<-ZA ai,ZQ]
theorem uF{S:Nat->Bool}{i:Nat}{x:iu}(hx:es[i]? =some x)(GB:∀t,x.dst=some t->∀j y,es[j]? =some y->y.dst=some t->S j=aaL->j<i)(t:Nat):
 dW (ins S i) 0 es sl0 t=if x.dst=some t then some x.e.dst else dW S 0 es sl0 t:=by
 by_cases hd:x.dst=some t
 .rw[aaP hd];obtain⟨e1,e2⟩:=yc hx;rw[e1,lc,e2,Zy]
  show dW (ins S i) (i+1) (es.drop (i+1)) _ t=_
  rw[lb λk y hy Ld=>by
   rw[ma (by omega)]
   cases hS:S (i+1+k)with
   |false=>rfl
   |true=>
    have:=GB t hd (i+1+k) y (by rw[<-hy,Zc]) Ld hS
    omega]
  rw[lZ,oP.2 hd];rfl
 .rw[aaO hd]
  refine iN rfl λk y hy Ld=>?_
  rw[Zy]
  refine ma λe=>?_
  subst e;rw[hx]at hy;obtain rfl:=YU hy;exact hd Ld
theorem yd{S:Nat->Bool}{i:Nat}{x:iu}(hx:es[i]? =some x)(hS:S i=aaM)(GB:∀o,o∈x.mut->∀j y,es[j]? =some y->o∈y.mut->S j=aaL->j<i)(o s:Nat)(t:Th)(h:dE (ins S i) 0 es ob0 o=some (s,t)):
 find x.e.make o=some (s,t)\/(o∉x.e.eat/\dE S 0 es ob0 o=some (s,t)/\find x.e.make o=aaK):=by
 by_cases hd:o∈x.mut
 .obtain⟨e1,e2⟩:=yc hx
  have late:∀S':Nat->Bool,(∀j,j≠i->S' j=S j)->∀f,dE S' (i+1) (es.drop (i+1)) f o=f o:=λS' VT f=>kP λk y hy Ld=>by
   rw[VT _ (by omega)]
   cases NK:S (i+1+k)with
   |false=>rfl
   |true=>
    have:=GB o hd (i+1+k) y (by rw[<-hy,Zc]) Ld NK;omega
  have pre:dE (ins S i) 0 (es.take i) ob0 o=dE S 0 (es.take i) ob0 o:=iv rfl λk y hy _=>by
   rw[Zy]
   refine ma λe=>?_
   have:=(Zd.1 hy).1;omega
  have all:dE S 0 es ob0 o=dE S 0 (es.take i) ob0 o:=by
   conv=>lhs;rw[e1]
   rw[gD,e2,Zy]
   show dE S (i+1) (es.drop (i+1)) _ o=_
   rw[late S (λ_ _=>rfl),hS];rfl
  conv at h=>lhs;rw[e1]
  rw[gD,e2,Zy]at h;change dE (ins S i) (i+1) (es.drop (i+1)) _ o=_ at h;rw[late (ins S i) (λj hj=>ma hj),lZ,cond_true,pre,<-all]at h
  cases hm:find x.e.make o with
  |some y=>rw[hm]at h;exact .inl h
  |none=>
   rw[hm,Z4]at h
   cases he:jx o x.e.eat with
   |true=>rw[he]at h;cases h
   |false=>
    rw[he,cond_false]at h;exact .inr ⟨λe=>(by rw[cW.2 e]at he;cases he),h,rfl⟩
 .right
  have h1:find x.e.make o=aaK:=by
   cases hm:find x.e.make o with
   |none=>rfl
   |some y=>exact absurd (by simp[iu.mut,mY hm]) hd
  refine⟨λe=>hd (by simp[iu.mut,e]),?_,h1⟩;rw[<-h];refine(iv rfl λk y hy Ld=>?_).symm;rw[Zy]
  refine ma λe=>?_
  subst e;rw[hx]at hy;obtain rfl:=YU hy;exact hd Ld
theorem kQ{l l':List Nat}{o:Nat}(h:o∈l)(h':o∈l'):yb l l'=aaL:=by
 unfold yb;rw[List.any_eq_true];exact⟨o,h,cW.2 h'⟩
theorem pT{i j:Nat}(h:i<=j):ZK j i=aaM:=by
 cases hb:ZK j i with
 |false=>rfl
 |true=>have:j<i:=by simpa using hb
        omega
def DS(_:Nat):Bool:=aaL
theorem Au{es:List iu}{i:Nat}(hi:i<=es.length):dW (λj=>ZK j i) 0 es sl0=dW DS 0 (es.take i) sl0:=by
 funext t
 conv=>lhs;rw[<-ZQ i es]
 rw[lc,lb (S:=λj=>ZK j i) λk x _ _=>pT (by simp;omega)]
 refine iN rfl λk x hx _=>?_
 have:=(Zd.1 hx).1;simp at this;simp[DS];omega
theorem uG{es:List iu}{i:Nat}(hi:i<=es.length):dE (λj=>ZK j i) 0 es ob0=dE DS 0 (es.take i) ob0:=by
 funext t
 conv=>lhs;rw[<-ZQ i es]
 rw[gD,kP (S:=λj=>ZK j i) λk x _ _=>pT (by simp;omega)]
 refine iv rfl λk x hx _=>?_
 have:=(Zd.1 hx).1;simp at this;simp[DS];omega
theorem DT{S:Nat->Bool}{i q:Nat}(hA:∀k y,k<i->es[k]? =some y->q∈y.mut->S k=aaL\/q∈y.soft)
 (hs:∀k y,es[k]? =some y->q∈y.soft->q∈y.mut->∃z z',dE DS 0 (es.take k) ob0 q=some z/\find y.e.make q=some z'/\fa z z'):
 ∀m,m<=i->m<=es.length->∀z,dE DS 0 (es.take m) ob0 q=some z->∃z',dE S 0 (es.take m) ob0 q=some z'/\fa z z':=by
 intro m
 induction m with
 |zero=>intro _ _ z hz;exact⟨z,hz, .inl rfl⟩
 |succ m ih=>
  intro hm hl z hz
  have ai:m<es.length:=by omega
  have hy:es[m]? =some es[m]:=YX ai
  have e1:es.take (m+1)=es.take m++[es[m]]:=by rw[List.take_add_one,hy];rfl
  have el:(es.take m).length=m:=by simp;omega
  rw[e1,gD,el,Zy]at hz⊢;generalize Yn:es[m]=y at*;have ez:(find y.e.make q).or (bif jx q y.e.eat then aaK else dE DS 0 (es.take m) ob0 q)=some z:=hz
  show∃z',(bif S m then(find y.e.make q).or (bif jx q y.e.eat then aaK else dE S 0 (es.take m) ob0 q)else dE S 0 (es.take m) ob0 q)=some z'/\fa z z'
  by_cases GC:q∈y.mut
  .cases VU:S m with
   |true=>
    rw[cond_true]
    cases NL:find y.e.make q with
    |some x=>rw[NL]at ez;exact⟨z,ez, .inl rfl⟩
    |none=>
     have hk:q∉nz y.e.make:=λhk=>by
      have:∀l:List (Nat×(Nat×Th)),q∈nz l->find l q≠aaK:=by
       intro l
       induction l with
       |nil=>intro h;cases h
       |cons p l ih=>
        obtain⟨o',x⟩:=p;intro h;rw[ax];split
        .simp
        .rename_i cq
         rcases Y6.1 h with h|h
         .exact absurd h.symm cq
         .exact ih h
      exact this _ hk NL
     have he:jx q y.e.eat=aaL:=cW.2 (by
      rcases Y7.1 GC with h|h
      .exact h
      .exact absurd h hk)
     rw[NL,he]at ez;cases ez
   |false=>
    rw[cond_false]
    rcases hA m y (by omega) hy GC with h|h
    .rw[VU]at h;cases h
    .obtain⟨x,x',h1,h2,h3⟩:=hs m y hy h GC;rw[h2]at ez;obtain rfl:=YU ez;obtain⟨z',h4,h5⟩:=ih (by omega) (by omega) x h1;exact⟨z',h4,h3.symm.trans h5⟩
  .have h1:find y.e.make q=aaK:=by
    cases hm:find y.e.make q with
    |none=>rfl
    |some y=>exact absurd (by simp[iu.mut,mY hm]) GC
   have h2:jx q y.e.eat=aaM:=by
    cases hb:jx q y.e.eat with
    |false=>rfl
    |true=>exact absurd (by simp[iu.mut,cW.1 hb]) GC
   rw[h1,h2,Z4,cond_false]at ez;obtain⟨z',h4,h5⟩:=ih (by omega) (by omega) z ez;refine⟨z',?_,h5⟩;rw[h1,h2,Z4,cond_false,h4]
   cases S m<;>rfl
theorem sw(Le:DP [] ops.toList=some ms)(hp:ri ms 0 es=aaL)(hlen:es.length=ops.size){S:Nat->Bool}(hS:As ops (λj=>S j=aaL)){i:Nat}{o:Oper}{x:iu}(ho:ops[i]? =some o)(hx:es[i]? =some x)(DU:S i=aaM)
 (BZ:∀e∈o.after,aau .any e=aaL->S e.on=aaL)(GD:∀k y,es[k]? =some y->∀q,q∈y.soft->q∈y.mut->∃z z',dE DS 0 (es.take k) ob0 q=some z/\find y.e.make q=some z'/\fa z z')(tl:Lc P ops nt (UU G w0) o (dW (λj=>ZK j i) 0 es sl0) (dE (λj=>ZK j i) 0 es ob0) (n0+16*i) x)
 {H':aj}{F':Nat->Prop}{w':World}{bZ:Nat->Value}{a:Act}(hf:Fr nt a bZ)(hinv:Inv G w0 F0 es sl0 ob0 n0 H F w ρ S H' F' w' bZ){K:Act->World->Prop}{Q:Exit->Act->World->Prop}
 (hk:∀NM pU qL z6 q6,Fr nt NM pU->Inv G w0 F0 es sl0 ob0 n0 H F w ρ (ins S i) qL z6 q6 pU->K NM q6):wpOp P ops Q i K a w':=by
 have ye:i<es.length:=(Zd.1 hx).1
 have up:∀j y,es[j]? =some y->j<i->conflict y x=aaL->S j=aaL:=λj y hy TU hc=>by
  have:=nU hp j i y x TU hy hx hc;rw[Zy,Zy]at this;exact GA Le hS i o ho BZ j this
 have down:∀j y,es[j]? =some y->i<j->conflict x y=aaL->S j=aaL->False:=λj y hy JZ hc hj=>by
  have:=nU hp i j x y JZ hx hy hc;rw[Zy,Zy]at this
  have Ah:j<ops.size:=by have:=(Zd.1 hy).1;omega
  have h2:=GA Le hS j _ (Zi Ah) (λe he hb=>hS j hj _ (Zi Ah) e he hb) i this;rw[DU]at h2;cases h2
 have Kd:∀t,x.dst=some t->∀j y,es[j]? =some y->y.dst=some t->S j=aaL->j<i:=λt ht j y hy Pz hj=>by
  rcases Nat.lt_trichotomy j i with h|h|h
  .exact h
  .subst h;rw[DU]at hj;cases hj
  .exact(down j y hy h (by unfold conflict;simp[gv,ht,Pz,cW]) hj).elim
 have Ke:∀q,q∈x.mut->∀j y,es[j]? =some y->q∈y.mut->S j=aaL->j<i:=λq hq j y hy Kf hj=>by
  rcases Nat.lt_trichotomy j i with h|h|h
  .exact h
  .subst h;rw[DU]at hj;cases hj
  .exact(down j y hy h (by unfold conflict;rw[kQ hq (by simp[Kf])];simp) hj).elim
 have Lf:∀t,t∈x.ts->dW (λj=>ZK j i) 0 es sl0 t=dW S 0 es sl0 t:=λt ht=>iN rfl λj y hy Pz=>by
  rw[Zy]
  rcases Nat.lt_trichotomy j i with h|h|h
  .rw[up j y hy h (by unfold conflict;simp[gv,Pz,cW,ht])];simpa using h
  .subst h;rw[DU];exact pT (YY _)
  .have:S j=aaM:=by
    cases hj:S j with
    |false=>rfl
    |true=>exact(down j y hy h (by unfold conflict;simp[gv,Pz,cW,ht]) hj).elim
   rw[this];exact pT (by omega)
 have QX:∀q,q∈x.os->dE (λj=>ZK j i) 0 es ob0 q=dE S 0 es ob0 q:=λq hq=>iv rfl λj y hy Kf=>by
  rw[Zy]
  rcases Nat.lt_trichotomy j i with h|h|h
  .rw[up j y hy h (by unfold conflict;rw[kQ Kf (by simp[hq])];simp)];simpa using h
  .subst h;rw[DU];exact pT (YY _)
  .have:S j=aaM:=by
    cases hj:S j with
    |false=>rfl
    |true=>exact(down j y hy h (by unfold conflict;rw[kQ (l:=x.os++x.ls++x.mut) (l':=y.mut) (by simp[hq]) Kf];simp) hj).elim
   rw[this];exact pT (by omega)
 have QY:∀q z,q∈x.ls->dE (λj=>ZK j i) 0 es ob0 q=some z->∃z',dE S 0 es ob0 q=some z'/\fa z z':=λq z hq hz=>by
  rw[uG (by omega)]at hz
  obtain⟨z',h1,h2⟩:=DT (S:=S) (i:=i) (q:=q) (λk y hk hy Kf=>by
   by_cases TV:q∈y.soft
   .exact .inr TV
   .refine .inl (up k y hy hk ?_)
    have:q∈y.NJ:=Zt.2 ⟨Kf,by
     cases hb:jx q y.soft with
     |false=>rfl
     |true=>exact absurd (cW.1 hb) TV⟩
    unfold conflict;rw[kQ this hq]
    simp) (λk y hy h1 h2=>GD k y hy q h1 h2) i (YY _) (by omega) z hz
  refine⟨z',?_,h2⟩;rw[<-h1]
  conv=>lhs;rw[<-ZQ i es]
  rw[gD]
  refine kP λk y hy Kf=>?_
  have VV:es[i+k]? =some y:=by rw[<-hy,Zc]
  have el:(es.take i).length=i:=by simp;omega
  rw[el,Zy]
  cases NK:S (i+k)with
  |false=>rfl
  |true=>
   rcases Nat.eq_zero_or_pos k with rfl|hk
   .rw[Z1,DU]at NK;cases NK
   .exact(down (i+k) y VV (by omega) (by unfold conflict;rw[kQ (l:=x.os++x.ls++x.mut) (l':=y.mut) (by simp[hq]) Kf];simp) NK).elim
 obtain⟨b,hg,QZ,FI⟩:=tl.on
 have NN:aal o (yielded ops a.tmps)=b:=by
  generalize Q0:o.guard=gd at hg
  cases hg with
  |none=>unfold aal;rw[Q0]
  |lit h1 h2 h3 h4 h5=>
   rename_i j g b' t d;rw[Lf g h3]at h4;have hy:=kW hf h1 h2 (kA h5 (hinv.slot g _ h4));unfold aal;rw[Q0];simp only[hy]
   cases t<;>cases b'<;>rfl
  |undef h1 h2 h3 h4=>
   rename_i j g b';rw[Lf g h3]at h4;have hy:=kg hf h1 h2 (show bZ g=undef from hinv.slot g _ h4);unfold aal;rw[Q0];simp only[hy]
   cases b'<;>rfl
 have nK:∀v,Fr nt (a.put o.dst v) (qM bZ o.dst v):=λv=>by
  have hb:=tl.DQ
  cases hd:o.dst with
  |none=>exact hf
  |some d=>rw[hd]at hb;exact hf.put hb v
 have yf:∀t,x.dst=some t↔o.dst=some t:=λt=>by rw[tl.dst]
 unfold wpOp;simp only[ho,NN]
 cases b with
 |false=>
  simp only[Y8,if_false];have he:=FI rfl;refine hk _ (qM bZ o.dst undef) H' F' w' (nK undef) ⟨λt d ht=>?_,?_,hinv.all,λk hk sx=>?_,hinv.glob,hinv.keeps,λt ht=>?_⟩
  .rw[uF hx Kd]at ht;split at ht
   .rename_i Lg;obtain rfl:=YU ht;rw[he]
    show qM bZ o.dst undef t=undef
    rw[(yf t).1 Lg]
    show za bZ t undef t=undef
    rw[k7,aaP rfl]
   .rename_i Lg;rw[mX (λe=>Lg ((yf t).2 e))];exact hinv.slot t d ht
  .refine hinv.ob.sub (λq y hq=>?_) (λm hm _=>hinv.all m hm)
   rcases yd hx DU Ke q y.1 y.2 hq with h1|⟨_,h2,_⟩
   .rw[he]at h1;cases h1
   .exact h2
  .by_cases e:k=i
   .subst e;rw[lZ]at sx;cases sx
   .rw[ma e]at sx;exact hinv.fresh k hk sx
  .rw[mX (λe=>ht x (List.mem_of_getElem? hx) ((yf t).2 e))];exact hinv.same t ht
 |true=>
  simp only[if_true]
  left
  obtain⟨_,⟨QR,HX,I7,Ar,bn⟩,_⟩:=QZ rfl
  obtain⟨QS,eH,bn⟩:=bn H' F' w' bZ (dE S 0 es ob0) (λq y hq=>by
   obtain⟨h1,h2⟩:=Ar q y hq;by_cases Q1:q∈x.os
   .exact⟨y,by rw[<-QX q Q1];exact h2, .inl rfl,λ_=>rfl⟩
   .rcases h1 with h1|h1
    .exact absurd h1 Q1
    .obtain⟨z',h3,h4⟩:=QY q y h1 h2
     exact⟨z',h3,h4,λh=>absurd h Q1⟩) (λt d ht=>by
   obtain⟨h1,h2⟩:=I7 t d ht;rw[Lf t h1]at h2
   exact hinv.slot t d h2) (hinv.ob.sub (λ_ _ h=>h) (hinv.fresh i ye DU))
  have xL:=hinv.ob.sub eH (hinv.fresh i ye DU)
  refine I9 bn hf λv q6 ⟨qL,z6,nw⟩=>?_
  .have cQ:=nw.iB.step xL.lt xL.dx
   have dy:fj qL (n0+16*es.length):=λm hm=>by
    have h1:=hinv.all m hm;have h2:=nw.fresh m (.inr (by omega));exact⟨h2.1 h1.1,h2.2 h1.2⟩
   refine hk _ (qM bZ o.dst v) qL z6 q6 (nK v) ⟨λt d ht=>?_,?_,dy,λk hk sx m VW Q2=>?_,hinv.glob.iB nw.iB xL.eh,hinv.keeps.trans ⟨nw.iB.eL,cQ⟩,λt ht=>?_⟩
   .rw[uF hx Kd]at ht;split at ht
    .rename_i Lg;obtain rfl:=YU ht;rw[(yf t).1 Lg]
     show af qL z6 q6 _ (za bZ t v t)
     rw[k7,aaP rfl];exact nw.dst
    .rename_i Lg;rw[mX (λe=>Lg ((yf t).2 e))];exact(hinv.slot t d ht).keep nw.iB.eL cQ
   .exact hinv.ob.Fx eH nw (λq s t hq=>yd hx DU Ke q s t hq) λm hm _=>dy m hm
   .by_cases e:k=i
    .subst e;rw[lZ]at sx;cases sx
    .rw[ma e]at sx;have h1:=hinv.fresh k hk sx m VW Q2;have h2:=nw.fresh m (by omega);exact⟨h2.1 h1.1,h2.2 h1.2⟩
   .rw[mX (λe=>ht x (List.mem_of_getElem? hx) ((yf t).2 e))];exact hinv.same t ht
end
end
end Go.Proofs.YtbladfbbhijpmaaGreat
namespace Go.Proofs.YtbladfbbhijpmaaGreat
open Go Go.RowKit
def pV(dst:Option Nat)(g:Nat):iu:={dst:=dst,ts:=[g],os:=[],e:={dst:= .undef}}
noncomputable def jW{R:Type}{P:Program}(E:Env P)(nt:Nat)(ops:Array Oper):List Oper->State->List iu->(State->Option R)->Option R
 |[],st,acc,k=>bif pS ops.toList acc then k st else aaK
 |o::os,st,acc,k=>bif xO nt o.dst then(match o.guard with
  |none=>uE E o.dst o.op [] st (λe x=>jW E nt ops os (st.apply o.dst e) (acc++[x]) k)
  |some (j,b)=>match BW ops j with
   |none=>aaK
   |some g=>bif ZK g nt then(match find st.ah g with
    |some .undef=>jW E nt ops os (st.apply o.dst {dst:= .undef}) (acc++[pV o.dst g]) k
    |some d=>match asBool d with
     |some t=>if t=aaL then
       (bif b then uE E o.dst o.op [g] (st.put (some g) (cR aaL)) (λe x=>jW E nt ops os ((st.put (some g) (cR aaL)).apply o.dst e) (acc++[x]) k)
         else jW E nt ops os ((st.put (some g) (cR aaL)).apply o.dst {dst:= .undef}) (acc++[pV o.dst g]) k)
      else
       (bif b then jW E nt ops os ((st.put (some g) (cR aaM)).apply o.dst {dst:= .undef}) (acc++[pV o.dst g]) k
         else uE E o.dst o.op [g] (st.put (some g) (cR aaM)) (λe x=>jW E nt ops os ((st.put (some g) (cR aaM)).apply o.dst e) (acc++[x]) k))
     |none=>aaK
    |none=>aaK)else aaK)else aaK
section
variable {P:Program} {nt:Nat} {ops:Array Oper} {R:Type}
variable {G:Nat->Prop} {w0:World} {F0:Nat->Prop} {sl0:Nat->Option ag} {ob0:Nat->Option (Nat×Th)} {n0:Nat}
structure Lex(P:Program)(nt:Nat)(ops:Array Oper)(U:Nat->Prop)(sl0:Nat->Option ag)(ob0:Nat->Option (Nat×Th))(n0:Nat)(es:List iu)(st:State):Prop where
 slot:∀t,find st.ah t=dW DS 0 es sl0 t
 ob:∀o,find st.objs o=dE DS 0 es ob0 o
 nxt:st.nxt=n0+16*es.length
 ok:∀i o x,ops[i]? =some o->es[i]? =some x->Lc P ops nt U o (dW DS 0 (es.take i) sl0) (dE DS 0 (es.take i) ob0) (n0+16*i) x
theorem Av{S:Nat->Bool}{es:List iu}{x:iu}{f:Nat->Option ag}{t:Nat}(h:S es.length=aaL):dW S 0 (es++[x]) f t=if x.dst=some t then some x.e.dst else dW S 0 es f t:=by
 rw[lc,Zy]
 show(bif S es.length&&gv (some t) x.dst.toList then some x.e.dst else dW S 0 es f t)=_
 rw[h,Bool.true_and];by_cases hd:x.dst=some t
 .rw[aaP hd,oP.2 hd];rfl
 .rw[aaO hd]
  cases hb:gv (some t) x.dst.toList with
  |false=>rfl
  |true=>exact absurd (oP.1 hb) hd
theorem DV{S:Nat->Bool}{es:List iu}{x:iu}{f:Nat->Option (Nat×Th)}{o:Nat}(h:S es.length=aaL):dE S 0 (es++[x]) f o=(find x.e.make o).or (bif jx o x.e.eat then aaK else dE S 0 es f o):=by
 rw[gD,Zy]
 show(bif S es.length then _ else _)=_
 rw[h];rfl
theorem pW{st:State}{dst:Option Nat}{e:cU}{t:Nat}:find (st.apply dst e).ah t=if dst=some t then some e.dst else find st.ah t:=by
 cases dst with
 |none=>simp[State.apply]
 |some d=>
  show find ((d,e.dst)::st.ah) t=_
  rw[ax];by_cases h:d=t
  .simp[h]
  .simp[h]
theorem qQ{st:State}{dst:Option Nat}{e:cU}{o:Nat}:find (st.apply dst e).objs o=(find e.make o).or (bif jx o e.eat then aaK else find st.objs o):=by
 show find (e.make++del e.eat st.objs) o=_
 rw[fh]
 congr 1
 cases hb:jx o e.eat with
 |true=>
  rw[cond_true]
  cases h:find (del e.eat st.objs) o with
  |none=>rfl
  |some x=>exact absurd (cW.1 hb) (fi.1 h).1
 |false=>
  rw[cond_false]
  have hn:o∉e.eat:=λh=>by rw[cW.2 h]at hb;cases hb
  cases h:find st.objs o with
  |some x=>exact fi.2 ⟨hn,h⟩
  |none=>
   cases h2:find (del e.eat st.objs) o with
   |none=>rfl
   |some x=>rw[(fi.1 h2).2]at h;cases h
theorem Lex.snoc{U:Nat->Prop}{es:List iu}{st:State}{x:iu}{o:Oper}(h:Lex P nt ops U sl0 ob0 n0 es st)(ho:ops[es.length]? =some o)(hd:x.dst=o.dst)
 (jL:Lc P ops nt U o (find st.ah) (find st.objs) st.nxt x):Lex P nt ops U sl0 ob0 n0 (es++[x]) (st.apply o.dst x.e):=by
 refine⟨λt=>?_,λq=>?_,?_,λi o' y ij hy=>?_⟩
 .rw[pW,Av rfl,hd,h.slot t]
 .rw[qQ,DV rfl,h.ob q]
 .show st.nxt+16=_
  rw[h.nxt,Zf,List.length_singleton];omega
 .rcases Nat.lt_or_ge i es.length with ai|hge
  .rw[List.getElem?_append_left ai]at hy;rw[List.take_append_of_le_length (by omega)];exact h.ok i o' y ij hy
  .have hi:i=es.length:=by
    have:=(Zd.1 hy).1;simp at this;omega
   subst hi;simp at hy;subst hy;rw[ho]at ij;obtain rfl:=YU ij;rw[List.take_left']
   .rw[<-funext h.slot,<-funext h.ob,<-h.nxt];exact jL
   .rfl
theorem Lex.put{U:Nat->Prop}{es:List iu}{st:State}{g:Nat}{d:ag}(h:Lex P nt ops U sl0 ob0 n0 es st)(hg:find st.ah g=some d):Lex P nt ops U sl0 ob0 n0 es (st.put (some g) d):=by
 refine⟨λt=>?_,h.ob,h.nxt,h.ok⟩
 show find ((g,d)::st.ah) t=_
 rw[ax,<-h.slot t];split
 .rename_i e;subst e;exact hg.symm
 .rfl
theorem DW{d:ag}{t:Bool}(h:asBool d=some t):d=cR t:=by
 unfold asBool at h
 split at h<;>cases h
 rfl
theorem yg{E:Env P}{q:R}{k:State->Option R}:{l:List Oper}->{st:State}->{es:List iu}->jW E nt ops l st es k=some q->(∀j,l[j]? =ops[es.length+j]?)->Lex P nt ops (UU G w0) sl0 ob0 n0 es st->
 ∃iK cy,k cy=some q/\pS ops.toList iK=aaL/\Lex P nt ops (UU G w0) sl0 ob0 n0 iK cy/\iK.length=es.length+l.length
 |[],st,es,h,_,hl=>by
  unfold jW at h;obtain⟨h1,h2⟩:=ay h;exact⟨es,st,h2,h1,hl,rfl⟩
 |o::l,st,es,h,k0,hl=>by
  have ho:ops[es.length]? =some o:=by simpa using(k0 0).symm
  have NO:∀x:iu,∀j,l[j]? =ops[(es++[x]).length+j]? :=λx j=>by
   have:=k0 (j+1);rw[Zf,List.length_singleton,show es.length+1+j=es.length+(j+1)from by omega];simpa using this
  have go:∀{st1:State}{x:iu},jW E nt ops l st1 (es++[x]) k=some q->Lex P nt ops (UU G w0) sl0 ob0 n0 (es++[x]) st1->∃iK cy,k cy=some q/\pS ops.toList iK=aaL/\Lex P nt ops (UU G w0) sl0 ob0 n0 iK cy/\iK.length=es.length+(o::l).length:=by
   intro st1 x h1 h2;obtain⟨iK,cy,a1,a2,a3,a4⟩:=yg h1 (NO x) h2;refine⟨iK,cy,a1,a2,a3,?_⟩;rw[a4,Zf,List.length_singleton,Ze];omega
  unfold jW at h;obtain⟨hd,h'⟩:=ay h;clear h
  have on:∀{st1:State}{gs:List Nat},uE E o.dst o.op gs st1 (λe x=>jW E nt ops l (st1.apply o.dst e) (es++[x]) k)=some q->Lex P nt ops (UU G w0) sl0 ob0 n0 es st1->(∀ts:List Nat,(∀g∈gs,g∈ts)->Lb ops nt ts (find st1.ah) o.guard aaL)->∃iK cy,k cy=some q/\pS ops.toList iK=aaL/\Lex P nt ops (UU G w0) sl0 ob0 n0 iK cy/\iK.length=es.length+(o::l).length:=by
   intro st1 gs h1 h2 h3;obtain⟨e,x,a1,a2,a3,a4⟩:=Gx (U:=UU G w0) h1;subst a2;exact go a1 (h2.snoc ho a4.dst ⟨a4.dst,hd,aaL,h3 _ a3,λ_=>a4,λh=>by cases h⟩)
  have off:∀{st1:State}{g:Nat},jW E nt ops l (st1.apply o.dst {dst:= .undef}) (es++[pV o.dst g]) k=some q->Lex P nt ops (UU G w0) sl0 ob0 n0 es st1->Lb ops nt [g] (find st1.ah) o.guard aaM->∃iK cy,k cy=some q/\pS ops.toList iK=aaL/\Lex P nt ops (UU G w0) sl0 ob0 n0 iK cy/\iK.length=es.length+(o::l).length:=by
   intro st1 g h1 h2 h3;exact go (x:=pV o.dst g) h1 (h2.snoc (x:=pV o.dst g) ho rfl ⟨rfl,hd,aaM,h3,λh=>(by cases h),λ_=>rfl⟩)
  split at h'
  .rename_i GF
   exact on h' hl λts _=>by rw[GF];exact .none
  .rename_i j b GF;split at h'
   case h_1=>cases h'
   rename_i g J7;obtain⟨J8,h⟩:=ay h';clear h';split at h
   .rename_i hu;exact off h hl (by rw[GF];exact .undef J7 J8 (by simp) hu)
   .rename_i d fc;split at h
    case h_2=>cases h
    rename_i t ht;obtain rfl:=DW ht
    have NP:∀v:Bool,find (st.put (some g) (cR v)).ah g=some (cR v):=λv=>by
     show find ((g,cR v)::st.ah) g=_
     rw[ax,aaP rfl]
    have Ja:∀(v:Bool)(ts:List Nat)(r:Bool),g∈ts->r=decide (v=b)->Lb ops nt ts (find (st.put (some g) (cR v)).ah) (some (j,b)) r:=λv ts r hg hr=>by
     rw[hr];exact .lit J7 J8 hg (NP v) rfl
    split at h
    .rename_i I5;subst I5;have EO:=hl.put fc
     cases b with
     |true=>rw[cond_true]at h;exact on h EO λts Q3=>by rw[GF];exact Ja aaL ts aaL (Q3 g (by simp)) rfl
     |false=>rw[cond_false]at h;exact off h EO (by rw[GF];exact Ja aaL [g] aaM (by simp) rfl)
    .rename_i I5
     have I5:t=aaM:=by cases t<;>simp_all
     subst I5;have EO:=hl.put fc
     cases b with
     |true=>rw[cond_true]at h;exact off h EO (by rw[GF];exact Ja aaM [g] aaM (by simp) rfl)
     |false=>rw[cond_false]at h;exact on h EO λts Q3=>by rw[GF];exact Ja aaM ts aaL (Q3 g (by simp)) rfl
   .cases h
def NQ(m:Nat)(listed:Array Bool):Nat:=((Y1 m).filter λj=> !listed.getD j aaM).length
theorem B3{m i:Nat}{listed:Array Bool}(hi:i<m)(hs:listed.size=m)(h:listed.getD i aaM=aaM):NQ m (listed.setIfInBounds i aaL)+1<=NQ m listed:=by
 unfold NQ
 have eH:∀l:List Nat,(l.filter λj=> !(listed.setIfInBounds i aaL).getD j aaM).length<=(l.filter λj=> !listed.getD j aaM).length/\(i∈l->(l.filter λj=> !(listed.setIfInBounds i aaL).getD j aaM).length+1<=(l.filter λj=> !listed.getD j aaM).length):=by
  intro l
  induction l with
  |nil=>exact⟨YY _,λh=>by cases h⟩
  |cons j l ih=>
   by_cases hj:i=j
   .subst hj
    have e1:(listed.setIfInBounds i aaL).getD i aaM=aaL:=by simp[ZB,hs,hi]
    rw[aax,aax,e1,h];simp only[Bool.not_true,Y8,if_false,Bool.not_false,if_true,Ze];exact⟨by omega,λ_=>by omega⟩
   .have e1:(listed.setIfInBounds i aaL).getD j aaM=listed.getD j aaM:=getD_set_ne aaM hj;rw[aax,aax,e1]
    cases listed.getD j aaM with
    |true=>
     simp only[Bool.not_true,Y8,if_false];exact⟨ih.1,λhm=>ih.2 (by simpa[hj]using hm)⟩
    |false=>
     simp only[Bool.not_false,if_true,Ze];exact⟨by omega,λhm=>by have:=ih.2 (by simpa[hj]using hm);omega⟩
 exact(eH _).2 (by simpa using hi)
theorem Jb{E:Env P}{id:Nat}{q:R}{k:State->Option R}{st:State}{H:aj}{F:Nat->Prop}{w:World}{ρ:Nat->Value}{Q:Exit->(Nat->Value)->World->Prop}(hm:P.follows .mixedOrders=aaL)
 (h:jW E nt ops ops.toList st [] k=some q)(hh:bX G w0 F0 H F w ρ st)
 (hk:∀cy H' F' w' bZ,k cy=some q->bX G w0 F0 H' F' w' bZ cy->bM H F w H' F' w'->(∀t,(∀o∈ops.toList,o.dst≠some t)->bZ t=ρ t)->Q .normal bZ w'):qW P nt (.region id ops aaL) Q ρ w:=by
 obtain⟨es,cy,KO,iU,Aw,hlen⟩:=yg (G:=G) (w0:=w0) (sl0:=find st.ah) (ob0:=find st.objs) (n0:=st.nxt) h (λj=>by simp) ⟨λ_=>rfl,λ_=>rfl,by simp,λi o x _ hx=>by simp at hx⟩;simp only[List.length_nil,Zy,Array.length_toList]at hlen;unfold pS at iU;split at iU
 case h_2=>cases iU
 rename_i ms Le
 have yf:∀x∈es,∃o∈ops.toList,x.dst=o.dst:=λx hx=>by
  obtain⟨i,hi,rfl⟩:=ZJ hx
  have ai:i<ops.size:=by omega
  exact⟨ops[i],by simp,(Aw.ok i ops[i] es[i] (Zi ai) (YX hi)).dst⟩
 have GD:∀k y,es[k]? =some y->∀q,q∈y.soft->q∈y.mut->∃z z',dE DS 0 (es.take k) (find st.objs) q=some z/\find y.e.make q=some z'/\fa z z':=λk y hy q h1 h2=>by
  have ai:k<es.length:=(Zd.1 hy).1;obtain⟨_,_,b,_,QZ,FI⟩:=Aw.ok k _ y (Zi (by omega)) hy
  cases b with
  |true=>exact(QZ rfl).soft q h1 h2
  |false=>
   rw[iu.mut,FI rfl]at h2;simp[nz]at h2
 have B4:∀i o,ops[i]? =some o->∀e∈o.after,aau .any e=aaL->e.on<i:=λi o ho e he hb=>by
  obtain⟨m,h1,_⟩:=(vW Le).2.2 i o (by rw[Array.getElem?_toList];exact ho);simp only[List.length_nil,Zy]at h1;exact BY h1 e (by simpa using he) hb
 intro a hf;refine wp_region_any hm ?_
 have main:∀fuel(listed:Array Bool)(a:Act)(w':World)H' F' bZ,listed.size=ops.size->NQ ops.size listed<=fuel->As ops (λj=>listed.getD j aaM=aaL)->Fr nt a bZ->
  Inv G w0 F0 es (find st.ah) (find st.objs) st.nxt H F w ρ (λj=>listed.getD j aaM) H' F' w' bZ->wpAny P .any ops (λe a' w'=>∃bZ,Fr nt a' bZ/\Q e bZ w') fuel listed a w':=by
  have done:∀(listed:Array Bool)(a:Act)(w':World)H' F' bZ,(∀i,i<ops.size->listed.getD i aaM=aaL)->Fr nt a bZ->Inv G w0 F0 es (find st.ah) (find st.objs) st.nxt H F w ρ (λj=>listed.getD j aaM) H' F' w' bZ->∃bZ,Fr nt a bZ/\Q .normal bZ w':=by
   intro listed a w' H' F' bZ dy hf hinv
   have eS:∀t,dW (λj=>listed.getD j aaM) 0 es (find st.ah) t=find cy.ah t:=λt=>by
    rw[Aw.slot t]
    refine iN rfl λk x hx _=>?_
    have:=(Zd.1 hx).1;rw[Zy];exact dy k (by omega)
   have eO:∀o,dE (λj=>listed.getD j aaM) 0 es (find st.objs) o=find cy.objs o:=λo=>by
    rw[Aw.ob o]
    refine iv rfl λk x hx _=>?_
    have:=(Zd.1 hx).1;rw[Zy];exact dy k (by omega)
   refine⟨bZ,hf,hk cy H' F' w' bZ KO ⟨⟨λt d hd=>hinv.slot t d (by rw[eS];exact hd),?_,?_⟩,hinv.glob⟩ hinv.keeps λt ht=>hinv.same t λx hx=>?_⟩
   .have:=hinv.ob;rw[funext eO]at this;rw[Aw.nxt];exact this
   .rw[Aw.nxt];exact hinv.all
   .obtain⟨o,ho,e⟩:=yf x hx;rw[e];exact ht o ho
  have DX:∀(listed:Array Bool),listed.size=ops.size->Region.ready .any ops listed=[]->∀i,i<ops.size->listed.getD i aaM=aaL:=by
   intro listed hs hr i
   induction i using Nat.strongRecOn with
   |_ i ih=>
    intro hi
    cases hl:listed.getD i aaM with
    |true=>rfl
    |false=>
     have:i∈Region.ready .any ops listed:=mem_ready.2 ⟨by
      simp only[ZB]at hl⊢;rw[Zi (by omega)]at hl⊢
      simpa using hl,ops[i],Zi hi,λe he hb=>ih e.on (B4 i _ (Zi hi) e he hb) (by
       have:=B4 i _ (Zi hi) e he hb
       omega)⟩
     rw[hr]at this;cases this
  intro fuel
  induction fuel with
  |zero=>
   intro listed a w' H' F' bZ hs hu hc hf hinv
   have dy:∀i,i<ops.size->listed.getD i aaM=aaL:=λi hi=>by
    cases hl:listed.getD i aaM with
    |true=>rfl
    |false=>
     have:=B3 hi hs hl;omega
   refine⟨?_,done listed a w' H' F' bZ dy hf hinv⟩
   cases hr:Region.ready .any ops listed with
   |nil=>rfl
   |cons i l=>
    have hi:i∈Region.ready .any ops listed:=by rw[hr];simp
    obtain⟨h1,o,h2,_⟩:=mem_ready.1 hi;have ai:=(Zx.1 h2).1;have h3:=dy i ai;simp only[ZB]at h1 h3;rw[Zi (by omega)]at h1 h3;simp at h1 h3;rw[h1]at h3;cases h3
  |succ fuel ih=>
   intro listed a w' H' F' bZ hs hu hc hf hinv;refine⟨λhr=>done listed a w' H' F' bZ (DX listed hs hr) hf hinv,λi hi=>?_⟩;obtain⟨h1,o,ho,BZ⟩:=mem_ready.1 hi;have ai:=(Zx.1 ho).1
   have DU:listed.getD i aaM=aaM:=by
    simp only[ZB]at h1⊢;rw[Zi (by omega)]at h1⊢;simpa using h1
   have hx:es[i]? =some (es[i]'(by omega)):=YX (by omega);have tl:=Aw.ok i o _ ho hx;rw[<-Au (by omega),<-uG (by omega)]at tl
   have sx:(λj=>(listed.setIfInBounds i aaL).getD j aaM)=ins (λj=>listed.getD j aaM) i:=by
    funext j;by_cases e:j=i
    .subst e;rw[lZ];simp[ZB,hs,ai]
    .rw[ma e];exact getD_set_ne aaM (Ne.symm e)
   refine sw Le iU hlen hc ho hx DU BZ GD tl hf hinv λNM pU qL z6 q6 Q4 Lh=>?_
   refine ih _ NM q6 qL z6 pU (by simp[hs]) ?_ ?_ Q4 ?_
   .have:=B3 ai hs DU;omega
   .intro j hj o' ij e he hb;by_cases ej:j=i
    .subst ej;rw[ho]at ij;obtain rfl:=YU ij;exact getD_set_true (BZ e he hb)
    .have Ie:listed.getD j aaM=aaL:=by
      have:(listed.setIfInBounds i aaL).getD j aaM=listed.getD j aaM:=getD_set_ne aaM (Ne.symm ej);rw[<-this];exact hj
     exact getD_set_true (hc j Ie o' ij e he hb)
   .rw[sx];exact Lh
 have Q5:∀j,(Array.replicate ops.size aaM).getD j aaM=aaM:=λj=>by
  simp only[ZB];by_cases hj:j<ops.size
  .simp[hj]
  .simp[hj]
 have hw:Step F w F w.drew:=Step.drew F w
 refine main ops.size _ a _ H F ρ (by simp) ?_ (λi hi=>by
  have ik:(Array.replicate ops.size aaM).getD i aaM=aaL:=hi;rw[Q5]at ik
  cases ik) hf ⟨λt d hd=>?_,?_,λm hm=>hh.sat.all m (by omega),λi hi _ m hm _=>hh.sat.all m (by omega),⟨⟨hh.glob.ext.os,⟨hh.glob.ext.tape.1,Nat.le_succ_of_le hh.glob.ext.tape.2⟩,hh.glob.ext.output,hh.glob.ext.size,hh.glob.ext.block⟩,hh.glob.le,hh.glob.new⟩,⟨aj.le.refl H,hw⟩,λ_ _=>rfl⟩
 .unfold NQ;exact Zj (aaa _ _) (by simp)
 .rw[lb λk x _ _=>Q5 _]at hd;exact(hh.sat.slot t d hd).keep (aj.le.refl H) hw
 .have e:dE (λj=>(Array.replicate ops.size aaM).getD j aaM) 0 es (find st.objs)=find st.objs:=by
   funext o
   exact kP λk x _ _=>Q5 _
  rw[e];have hb:=hh.sat.ob;refine⟨λo s t ho=>?_,hb.apart,λm hm _=>hh.sat.all m (by omega),hb.lt,hb.new,hb.gl.step (λ_ h=>⟨h,rfl⟩)⟩;obtain⟨v,hv,bL⟩:=hb.obj o s t ho;exact⟨v,hv,bL.one,bL.con,bL.ok.heap (aj.le.refl H) hw λ_ _=>rfl,bL.no,bL.lt,bL.use⟩
end
end Go.Proofs.YtbladfbbhijpmaaGreat
end
