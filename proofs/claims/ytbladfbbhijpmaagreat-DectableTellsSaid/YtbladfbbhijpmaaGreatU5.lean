/- Joined texts: Call2 Ifc Exec Draw2. -/
import Derived.Test.YtbladfbbhijpmaaGreatU4
section
open _root_.Nat renaming beq->YE,blt->Zl,le_refl->YD,lt_of_lt_of_le->Y8
open _root_.Option renaming isSome_iff_exists->Zg,none_or->ZW
open _root_.Option.some renaming inj->YA,injEq->YH
open _root_.Prod.mk renaming injEq->Zx
namespace Go.Proofs.YtbladfbbhijpmaaGreat
open Go Go.RowKit
def eK:Nat->List ag->List (Nat×ag)
 |_,[]=>[]
 |k,d::ds=>(k,d)::eK (k+1) ds
def Ik(n:Nat)(bs:Bs)(aA:List (Nat×(Nat×Th)))(m:Nat)(j:Nat):Nat:=
 bif Zl j m then(match find bs j with
  |some (some o)=>(match find aA o with
   |some _=>o
   |none=>n+j)
  |_=>n+j)else n+j
def kO(aA:List (Nat×(Nat×Th))):List Nat->List (Nat×(Nat×Th))
 |[]=>[]
 |o::os=>match find aA o with
  |some (s,t)=>bif cR t then(o,(s,t))::kO aA os else kO aA os
  |none=>kO aA os
def always(_:Row):Bool:=true
def Aa(sg:bU):Bool:=mV Row.wh sg.out.ah&&sO Row.wh sg.out.objs
def oO{R:Type}(sg:bU)(n:Nat)(bs:Bs)(aA:List (Nat×(Nat×Th)))(nd:List Nat)(y:cx sg.out.rows)(k:cL->Option R):Option R:=
 match Em (b7 (nO (Ik n bs aA sg.inn.nxt) sg.out.ah) (ct _ y)).1 with
 |some D=>bif Aa sg then k {dst:=D,eat:=ey bs,make:=ef n (wg (Ik n bs aA sg.inn.nxt) sg.out.objs) (b7 (nO (Ik n bs aA sg.inn.nxt) sg.out.ah) (ct _ y)).2}
   else k {dst:=D,eat:=ey bs++nd,make:=ef n (wg (Ik n bs aA sg.inn.nxt) sg.out.objs) (b7 (nO (Ik n bs aA sg.inn.nxt) sg.out.ah) (ct _ y)).2++kO aA nd}
 |none=>none
def kr{R:Type}(objs:List (Nat×(Nat×Th)))(n:Nat)(f:FuncId)(ds:List ag)(k:cL->Option R):List (Nat×bU)->Option R
 |[]=>none
 |(g,sg)::tab=>bif YE g f then(match sM 0 [] sg.inn (eK 0 ds) objs with
    |some (x,bs,aA)=>bif YE ds.length sg.inn.ah.length&&oN 0 sg.out.ah&&Nat.ble sg.out.nxt 16&&Nat.ble sg.out.objs.length 16&&(mV always sg.out.ah)then
      (sg.fn x).bind fun y=>oO sg n bs aA (sL 0 sg.inn (eK 0 ds) objs) y k else none
    |none=>kr objs n f ds k tab)else kr objs n f ds k tab
def LI(c:Nat×List Bool×Nat):ag:= .ptr c.1 c.2.1 c.2.2
theorem qV{H:aj}{F:Nat->Prop}{w:World}:{cs:List (Nat×List Bool×Nat)}->{vs:List Value}->gn H cs vs->du H F w (cs.map LI) vs
 |[],_,h=>h
 |_::_,_,h=>by obtain⟨v,us,e,h1,h3⟩:=h;exact⟨v,us,e,h1,qV h3⟩
theorem nQ{H:aj}{F:Nat->Prop}{w:World}:{ds es:List ag}->{vs us:List Value}->du H F w ds vs->du H F w es us->du H F w (ds++es) (vs++us)
 |[],_,vs,_,h,h'=>by rw[show vs=[]from h];exact h'
 |_::_,_,_,_,h,h'=>by obtain⟨v,us,rfl,h1,h2⟩:=h;exact⟨v,_,rfl,h1,nQ h2 h'⟩
def Ab(rd:Operand->Option ag)(x:Operand):Option (FuncId×List (Nat×List Bool×Nat)):=
 match rd x with
 |some (.fn f caps)=>some (f,caps)
 |_=>none
def sS{R:Type}(tab:List (Nat×bU))(rd:Operand->Option ag)(objs:List (Nat×(Nat×Th)))(n:Nat)(x:Operand)(args:List Operand)(k:cL->Option R):Option R:=
 match Ab rd x with
 |some (f,caps)=>match nG rd args with
  |some ds=>kr objs n f (ds++caps.map LI) k tab
  |none=>none
 |none=>none
section
variable {P:Program} {ρ:Nat->Value} {w w':World} {H H':aj} {F F':Nat->Prop} {U:Nat->Prop} {n:Nat} {R:Type}
variable {ty:TypeId} {pos:String} {aft:Array Edge} {dst:Option Nat}
theorem lg:{ds:List ag}->{vs:List Value}->{k:Nat}->du H F w ds vs->∀t d,find (eK k ds) t=some d->k<=t/\af H F w d (vs.getD (t-k) undef)
 |[],_,_,_,_,_,h=>by cases h
 |d0::ds,vs,k,h,t,d,hf=>by
  obtain⟨v,us,rfl,h1,h2⟩:=h;have mr:find ((k,d0)::eK (k+1) ds) t=some d:=hf;rw[aw]at mr;split at mr
  .rename_i e;subst e;obtain rfl:=YA mr;exact⟨YD _,by simpa using h1⟩
  .obtain⟨h3,h4⟩:=lg h2 t d mr;refine⟨by omega,?_⟩;rw[show t-k=(t-(k+1))+1 from by omega];simpa using h4
theorem iK{aA:List (Nat×(Nat×Th))}:{nd:List Nat}->{o s:Nat}->{t:Th}->find (kO aA nd) o=some (s,t)->o∈nd/\find aA o=some (s,t)/\cR t=true
 |[],_,_,_,h=>by cases h
 |o0::nd,o,s,t,h=>by
  unfold kO at h;split at h
  .rename_i s0 t0 h0
   cases hb:cR t0 with
   |true=>
    rw[hb,cond_true,aw]at h;split at h
    .rename_i e;simp only[YH,Zx]at h;obtain⟨rfl,rfl⟩:=h;subst e;exact⟨by simp,h0,hb⟩
    .obtain⟨a,b⟩:=iK h;exact⟨by simp[a],b⟩
   |false=>
    rw[hb,cond_false]at h;obtain⟨a,b⟩:=iK h;exact⟨by simp[a],b⟩
  .obtain⟨a,b⟩:=iK h;exact⟨by simp[a],b⟩
theorem nR:{l:List (Nat×OS)}->sO always l=true
 |[]=>rfl
 |(t,s)::l=>by
  have ht:∀sh:Sh,sh.ff always=true:=by
   intro sh
   induction sh with
   |leaf r=>rfl
   |own j=>rfl
   |nil=>rfl
   |junk n=>rfl
   |pair a b O5 O6=>show(a.ff always&&b.ff always)=true;rw[O5,O6];rfl
  have:s.ff always=true:=by
   cases s with
   |box T t=>exact ht t
   |own T r=>rfl
   |map T K agg V=>rfl
   |deep T d=>
    have hd:∀d:DR,d.ff always=true:=by
     intro d
     induction d with
     |leaf r=>rfl
     |sl T d ih=>exact ih
     |pair a b O5 O6=>show(a.ff always&&b.ff always)=true;rw[O5,O6];rfl
    exact hd d
   |smap T K agg V it=>rfl
  show(s.ff always&&sO always l)=true
  rw[this,nR];rfl
def ij(H H':aj)(n:Nat)(cons:List (Nat×(Nat×Th)))(m0:Nat):aj where
 val m:=if n<=m/\m<n+16 then H'.val (m-n)else H.val m
 con m:=if n<=m/\m<n+16 then nN cons m else H.con m
 sub m:=if n<=m/\m<n+16 then H'.sub (m-n+m0)else H.sub m
theorem BO{dd:Option Nat}{f:FuncId}{fn:Func}{g:Operand}{args:Array Operand}{vs us:List Value}{pn:Array TypeId}(hf:P.funcs[f]? =some fn)(hn:(fn.name== "runtime.NumGoroutine")=false)(hb:fn.body.isNone=false)(Ow:args.toList.map (ev ρ)=vs)(hg:ev ρ g= .func (.func f) #[] us.toArray):
 (execOp (ev ρ) ⟨dd, .call {callee:= .value g,args:=args,argTypes:=pn},ty,pos,aft,none⟩).run P w= .ok (.enter f (vs++us).toArray) w:=by
 subst Ow
 have Dx:¬fn.name= "runtime.NumGoroutine" :=by simpa using hn
 have pW:¬fn.body=none:=by
  intro e;rw[e]at hb;cases hb
 have e:(Array.map (ev ρ) args++us.toArray)=(args.toList.map (ev ρ)++us).toArray:=by simp
 simp[execOp,resolve,hg,Deferred.ofValue,invoke,callFunc,hf,Dx,pW,go_sem,e]
theorem BP{sg:bU}{f:FuncId}(rS:aL P f sg){objs:List (Nat×(Nat×Th))}{op:Op}{k:cL->Option R}{q:R}{ds:List ag}{vs:List Value}{x:cx sg.inn.rows}{bs:Bs}{aA:List (Nat×(Nat×Th))}
 (sT:du H F w ds vs)(aZ:∀fn,P.funcs[f]? =some fn->(fn.name== "runtime.NumGoroutine")=false->fn.body.isNone=false->(execOp (ev ρ) ⟨dst,op,ty,pos,aft,none⟩).run P w= .ok (.enter f vs.toArray) w)(hs:ak U H F w (find objs) n)
 (O7:sM 0 [] sg.inn (eK 0 ds) objs=some (x,bs,aA))
 (h':(bif YE ds.length sg.inn.ah.length&&oN 0 sg.out.ah&&Nat.ble sg.out.nxt 16&&Nat.ble sg.out.objs.length 16&&(mV always sg.out.ah)then
   (sg.fn x).bind fun y=>oO sg n bs aA (sL 0 sg.inn (eK 0 ds) objs) y k else none)=some q):
 ∃e,k e=some q/\bz P U H F w ρ (find objs) n ⟨dst,op,ty,pos,aft,none⟩ e:=by
 obtain⟨hc,h'⟩:=ax h';obtain⟨hc,Uz⟩:=bE hc;obtain⟨hc,If⟩:=bE hc;obtain⟨hc,GJ⟩:=bE hc;obtain⟨rM,vm⟩:=bE hc;have rM:=beq_true rM
 have GJ:sg.out.nxt<=16:=by simpa using GJ
 have If:sg.out.objs.length<=16:=by simpa using If
 obtain⟨y,hy,h⟩:=bind_some h';clear h';obtain⟨⟨fn,OT,UA,UB⟩,iV⟩:=rS;have SA:=fR sT
 let H0:aj:=⟨fun _=>none,fun _=>none,fun _ _=>False⟩
 have G0:ak U H0 F w (find (del [] [])) 0:=⟨fun _ _ _ h=>(by cases h),fun _ _ _ _ _ _ _ _ _ h=>(by cases h),fun _ _ _=>⟨rfl,rfl⟩,hs.lt,hs.new,hs.gl⟩
 have UC:bA H0 F w H F w:=⟨⟨fun _ _ h=>(by cases h),fun _ _ h=>(by cases h),fun _ _ h=>(by cases h)⟩,Step.refl F w⟩
 have eD:∀t d,find (eK 0 ds) t=some d->af H F w d (vs.getD t undef):=fun t d hd=>by simpa using(lg sT t d hd).2
 obtain⟨F1,H1,oC,xN,Gg,rQ,we,oL,z7,Jc,wm⟩:=qT (U':=fun k=>w.heap.size<=k\/∃o∈ey bs,∃s t v,find aA o=some (s,t)/\H.val o=some v/\fp (H.sub s) v t k) (ns:=[]) (objs0:=[]) (ρ:=fun t=>vs.getD t undef) O7 G0 (fun _ _=>⟨rfl,rfl⟩) UC hs eD;have wm:=wm (fun b hb=> .inl hb) (fun o s t v k h1 h2 h3 h4=> .inr ⟨o,h1,s,t,v,h2,h3,h4⟩) (fun _ _ _ _ _ h=>by cases h);generalize hG:(fun k=>∃o∈ey bs,∃s t v,find aA o=some (s,t)/\H.val o=some v/\fp (H.sub s) v t k)=G
 have LJ:∀k,G k->¬F1 k:=by
  rw[<-hG]
  rintro k ⟨o,_,s,t,v,h1,h2,h3⟩
  obtain⟨v',cQ,bH⟩:=oC.obj _ _ _ h1;rw[h2]at cQ;obtain rfl:=YA cQ;exact bH.no k h3
 have O8:∀k,G k->bq H (find objs) (ey bs) k:=by
  rw[<-hG]
  rintro k ⟨o,ho,s,t,v,h1,h2,h3⟩
  rcases fH rQ o s t h1 with h4|h4
  .exact⟨o,ho,s,t,v,h4,h2,h3⟩
  .exact(eo h4 h3).elim
 have LK:ak (fun k=>w.heap.size<=k\/G k) H1 F1 w (find (ef 0 sg.inn.objs (b7 sg.inn.ah (ct sg.inn.rows x)).2)) sg.inn.nxt:=by
  rw[show del [] ([]:List (Nat×(Nat×Th)))=[]from rfl,List.append_nil]at wm;rw[<-hG];exact wm
 have LL:=iV x y hy vs w H1 F1 G (by omega) Jc LK z7 LJ;generalize yh:sL 0 sg.inn (eK 0 ds) objs=nd at h Gg rQ;generalize O9:Ik n bs aA sg.inn.nxt=φ at h;unfold oO at h;rw[O9]at h;split at h
 case h_2=>cases h
 rename_i D hD
 have oz:∀(e:cL),e.dst=D->(∀(w':World)(us:List Value)(H':aj)(F':Nat->Prop),us.length=sg.out.ah.length->Ext G w w'->H1.le H'->(∀b,F1 b->F' b)->(∀b,F' b->F1 b\/w.heap.size<=b\/G b)->
  (∀t d,find (b7 sg.out.ah (ct sg.out.rows y)).1 t=some d->af H' F' w' d (us.getD t undef))->ak (fun k=>w.heap.size<=k\/G k) H' F' w' (find (ef sg.inn.nxt sg.out.objs (b7 sg.out.ah (ct sg.out.rows y)).2)) sg.out.nxt->eI H' sg.out.nxt->ie H F w (find objs) n e (rR us) w')->
  bz P U H F w ρ (find objs) n ⟨dst,op,ty,pos,aft,none⟩ e:=by
  intro e he mB;have aZ:=aZ fn OT UA UB;unfold bz bl;rw[aZ]
  refine LL.mono fun e' w' ⟨us,he',Ep,H',F',a1,a2,a3,a4,a5,a6,a7⟩=>⟨_,he',mB w' us H' F' Ep a1 a2 a3 a4 a5 a6 a7⟩
 generalize wc:ef n (wg φ sg.out.objs) (b7 (nO φ sg.out.ah) (ct sg.out.rows y)).2=cons at h;have Pa:=wi (φ:=φ) sg.out.ah (ct sg.out.rows y)
 have Jd:∀{H':aj},H1.le H'->eI H' sg.out.nxt->Ren H' (ij H H' n cons sg.inn.nxt) φ/\H.le (ij H H' n cons sg.inn.nxt)/\∀m,(m<n\/n+16<=m)->(H.val m=none->(ij H H' n cons sg.inn.nxt).val m=none)/\(H.con m=none->(ij H H' n cons sg.inn.nxt).con m=none):=by
  intro H' hle tR
  have yA:∀j v,H'.val j=some v->j<sg.out.nxt:=fun j v hj=>by
   rcases Nat.lt_or_ge j sg.out.nxt with g|g
   .exact g
   .rw[(tR j g).1]at hj;cases hj
  have hold:∀o v,H.val o=some v->¬(n<=o/\o<n+16):=fun o v ho hc=>by
   rw[(hs.fresh o hc.1 hc.2).1]at ho;cases ho
  refine⟨fun j v hj=>?_,⟨fun o v ho=>?_,fun s t dC=>?_,fun s t dC=>?_⟩,fun m hm=>?_⟩
  .rw[<-O9];have Pb:=yA j v hj
   have gen:(ij H H' n cons sg.inn.nxt).val (n+j)=some v:=by
    simp only[ij];rw[if_pos (by omega),Nat.add_sub_cancel_left];exact hj
   unfold Ik
   cases hb:Zl j sg.inn.nxt with
   |false=>simpa using gen
   |true=>
    rw[cond_true];split
    .rename_i o ho;split
     case h_2=>exact gen
     rename_i e he;obtain⟨u,hu,_⟩:=oC.obj o e.1 e.2 he;have h1:=hle.val _ _ (oL j (some o) ho u hu);rw[hj]at h1;obtain rfl:=YA h1;simp only[ij];rw[if_neg (hold o _ hu)];exact hu
    .exact gen
  .simp only[ij];rw[if_neg (hold o v ho)];exact ho
  .simp only[ij];rw[if_neg (fun hc=>by rw[(hs.fresh s hc.1 hc.2).2]at dC;cases dC)];exact dC
  .simp only[ij];rw[if_neg (fun hc=>by rw[(hs.fresh s hc.1 hc.2).2]at dC;cases dC)]
  .simp only[ij];rw[if_neg (by omega),if_neg (by omega)];exact⟨id,id⟩
 have made:∀{p:Row->Bool}{us:List Value}{w':World}{H':aj}{F' F2:Nat->Prop}{eat:List Nat},us.length=sg.out.ah.length->mV p sg.out.ah=true->sO p sg.out.objs=true->pj p F' F2 w'->Ext G w w'->H1.le H'->(∀b,F2 b->F' b)->(∀o,o∈ey bs->o∈eat)->
  (∀t d,find (b7 sg.out.ah (ct sg.out.rows y)).1 t=some d->af H' F' w' d (us.getD t undef))->ak (fun k=>w.heap.size<=k\/G k) H' F' w' (find (ef sg.inn.nxt sg.out.objs (b7 sg.out.ah (ct sg.out.rows y)).2)) sg.out.nxt->eI H' sg.out.nxt->
  af (ij H H' n cons sg.inn.nxt) F2 w' D (rR us)/\Made (ij H H' n cons sg.inn.nxt) F2 w w' (bq H (find objs) eat) cons/\∀o,(find cons o).isSome->o∈eat\/n<=o:=by
  intro p us w' H' F' F2 eat Ep Ld Gd NV aY hle Gg ee tT G2 LM;obtain⟨hr,_,_⟩:=Jd hle LM
  have Ac:∀o s t,find cons o=some (s,t)->∃j s' us sh,φ j=o/\t=(bW (sh.mA φ) us).1/\find (ef sg.inn.nxt sg.out.objs (b7 sg.out.ah (ct sg.out.rows y)).2) j=some (s',(bW sh us).1)/\sh.ff p=true/\nN cons s=some t/\n<=s/\s<n+16/\(ij H H' n cons sg.inn.nxt).sub s=H'.sub s':=by
   intro o s t ho;rw[<-wc]at ho⊢;rw[Pa]at ho⊢;obtain⟨j,s',Pd,sh,a1,a2,a3,a4,a5,a6,a7,a8⟩:=wj (m':=sg.inn.nxt) ho
   have av:s<n+16:=by omega
   refine⟨j,s',Pd,sh,a1,a2,a3,a4 Gd,a5,a6,av,?_⟩;simp only[ij];rw[if_pos ⟨a6,av⟩,a8]
  refine⟨?_,⟨fun o s t ho=>?_,fun o o' s s' t t' v v' b8 ho gm hv cQ k hk ig=>?_⟩,fun o ho=>?_⟩
  .exact Jb (by rw[wk];exact vm) (by rw[pk];exact Ep) (El hr NV Ld tT) hD
  .obtain⟨j,s',Pd,sh,rfl,rfl,a3,a4,a5,a6,a7,a8⟩:=Ac o s t ho;rw[a8];obtain⟨v,hv,bH⟩:=G2.obj _ _ _ a3;obtain⟨b1,b2,b3⟩:=oM hr NV a4 bH.ok;refine⟨v,hr j v hv,bH.one,?_,b1,fun k hk=>⟨fun e=>bH.no k (b3 k hk) (Gg k e),bH.lt k (b3 k hk),?_⟩⟩
   .rw[b2];simp only[ij];rw[if_pos ⟨a6,a7⟩];exact a5
   .rcases bH.use k (b3 k hk)with h1|h1
    .exact .inl h1
    .obtain⟨o',gm,rest⟩:=O8 k h1;exact .inr ⟨o',ee o' gm,rest⟩
  .obtain⟨j,s1,XZ,sh,rfl,rfl,a3,a4,a5,a6,_,a8⟩:=Ac o s t ho;obtain⟨j',X0,UD,Sz,rfl,rfl,SB,UE,X1,X2,_,UF⟩:=Ac o' s' t' gm;rw[a8]at hk;rw[UF]at ig;obtain⟨u,hu,bH⟩:=G2.obj _ _ _ a3;obtain⟨u',zS,vW⟩:=G2.obj _ _ _ SB;have e1:=hr j u hu;rw[hv]at e1;obtain rfl:=YA e1;have e2:=hr j' u' zS;rw[cQ]at e2;obtain rfl:=YA e2;exact G2.apart j j' _ _ _ _ _ _ (fun e=>b8 (by rw[e])) a3 SB hu zS k ((oM hr NV a4 bH.ok).2.2 k hk) ((oM hr NV UE vW.ok).2.2 k ig)
  .obtain⟨e,he⟩:=Zg.1 ho;obtain⟨j,s',Pd,sh,rfl,_⟩:=Ac o e.1 e.2 he;rw[<-O9];unfold Ik
   cases Zl j sg.inn.nxt with
   |false=>exact .inr (by simp)
   |true=>
    rw[cond_true];split
    .rename_i o ho;split
     .exact .inl (ee o (fA ho))
     .exact .inr (by omega)
    .exact .inr (by omega)
 have LN:∀{w':World}{eat:List Nat},Ext G w w'->(∀o,o∈ey bs->o∈eat)->Ext (bq H (find objs) eat) w w':=fun aY ee=>⟨aY.os,aY.tape,aY.output,aY.size,fun k hk hn=>aY.block k hk fun hG=>hn (by
  obtain⟨o,ho,rest⟩:=O8 k hG
  exact⟨o,ee o ho,rest⟩)⟩
 cases KI:Aa sg with
 |true=>
  rw[KI,cond_true]at h;obtain⟨p1,p2⟩:=bE KI;refine⟨_,h,oz _ rfl fun w' us H' F' Ep a1 a2 a3 a4 a5 a6 a7=>?_⟩;obtain⟨_,g2,g3⟩:=Jd a2 a7;obtain⟨m1,m2,m3⟩:=made (F2:=F) (eat:=ey bs) Ep p1 p2 (fun r hr cs x hx=>bF.yw hr hx) a1 a2 (fun b hb=>a3 b (xN b hb)) (fun _ h=>h) a5 a6 a7;exact⟨_,F,⟨g2,LN a1 (fun _ h=>h),fun _ h=>h,fun _ h=> .inl h,fun b hb=>Y8 (hs.lt b hb) a1.size⟩,g3,m1,m2,m3⟩
 |false=>
  rw[KI,cond_false]at h;refine⟨_,h,oz _ rfl fun w' us H' F' Ep a1 a2 a3 a4 a5 a6 a7=>?_⟩;obtain⟨_,g2,g3⟩:=Jd a2 a7;obtain⟨m1,m2,m3⟩:=made (F2:=F') (eat:=ey bs++nd) Ep Uz nR (fun r _ cs x hx=>hx) a1 a2 (fun _ h=>h) (fun o h=>by simp[h]) a5 a6 a7
  have dC:Step F1 w F' w':=fun b hb=>⟨a3 b hb,a1.block b (oC.lt b hb) fun e=>LJ b e hb⟩
  have oj:∀o s t,find (kO aA nd) o=some (s,t)->o∈nd/\cR t=true/\∃v,H.val o=some v/\v.oneCell'=true/\H.con s=some t.base/\eF H F1 w (H.sub s) v t:=by
   intro o s t ho;obtain⟨b1,b2,b3⟩:=iK ho;obtain⟨v,hv,bH⟩:=oC.obj _ _ _ b2;exact⟨b1,b3,v,hv,bH.one,bH.con,bH.ok⟩
  have part:∀o s t,find (cons++kO aA nd) o=some (s,t)->find cons o=some (s,t)\/find (kO aA nd) o=some (s,t):=by
   intro o s t ho;rw[eG]at ho
   cases hm:find cons o with
   |some e=>rw[hm]at ho;exact .inl ho
   |none=>rw[hm,ZW]at ho;exact .inr ho
  refine⟨_,F',⟨g2,LN a1 (fun o h=>by simp[h]),fun b hb=>a3 b (xN b hb),fun b hb=>?_,a6.lt⟩,g3,m1,⟨fun o s t ho=>?_,fun o o' s s' t t' v v' b8 ho gm hv cQ k hk ig=>?_⟩,fun o ho=>?_⟩
  .rcases a4 b hb with h1|h1|h1
   .rcases Gg b h1 with h2|⟨o,ho,rest⟩
    .exact .inl h2
    .exact .inr (.inr ⟨o,by simp[ho],rest⟩)
   .exact .inr (.inl h1)
   .obtain⟨o,ho,rest⟩:=O8 b h1;exact .inr (.inr ⟨o,by simp[ho],rest⟩)
  .rcases part o s t ho with h1|h1
   .exact m2.obj o s t h1
   .obtain⟨b1,b2,v,b3,b4,b5,b6⟩:=oj o s t h1;refine⟨v,g2.val _ _ b3,b4,g2.con _ _ b5,by rw[g2.sub _ _ b5];exact b6.heap g2 dC (fun k hk=>(eo b2 hk).elim),fun k hk=>(eo b2 hk).elim⟩
  .rcases part o s t ho with h1|h1<;>rcases part o' s' t' gm with h2|h2
   .exact m2.apart o o' s s' t t' v v' b8 h1 h2 hv cQ k hk ig
   .exact eo (oj o' s' t' h2).2.1 ig
   .exact eo (oj o s t h1).2.1 hk
   .exact eo (oj o s t h1).2.1 hk
  .obtain⟨e,he⟩:=Zg.1 ho
   rcases part o e.1 e.2 he with h1|h1
   .exact m3 o (by rw[h1];rfl)
   .exact .inl (by simp[(oj o _ _ h1).1])
theorem jT{LO:List (Nat×bU)}(rS:∀p∈LO,aL P p.1 p.2){objs:List (Nat×(Nat×Th))}{f:FuncId}{op:Op}{k:cL->Option R}{q:R}{ds:List ag}{vs:List Value}
 (sT:du H F w ds vs)(aZ:∀fn,P.funcs[f]? =some fn->(fn.name== "runtime.NumGoroutine")=false->fn.body.isNone=false->(execOp (ev ρ) ⟨dst,op,ty,pos,aft,none⟩).run P w= .ok (.enter f vs.toArray) w)(hs:ak U H F w (find objs) n):{tab:List (Nat×bU)}->(∀p∈tab,p∈LO)->kr objs n f ds k tab=some q->
 ∃e,k e=some q/\bz P U H F w ρ (find objs) n ⟨dst,op,ty,pos,aft,none⟩ e
 |[],_,h=>by cases h
 |(f0,sg)::tab,bH,h=>by
  unfold kr at h
  cases hb:YE f0 f with
  |false=>rw[hb,cond_false]at h;exact jT rS sT aZ hs (fun p hp=>bH p (by simp[hp])) h
  |true=>
   rw[hb,cond_true]at h;obtain rfl:=beq_true hb;split at h
   case h_2=>exact jT rS sT aZ hs (fun p hp=>bH p (by simp[hp])) h
   rename_i x bs aA O7;exact BP (rS (f0,sg) (bH _ (by simp))) sT aZ hs O7 h
theorem wo{tab:List (Nat×bU)}(rS:∀p∈tab,aL P p.1 p.2){rd:Operand->Option ag}(dj:∀x d,rd x=some d->af H F w d (ev ρ x)){objs:List (Nat×(Nat×Th))}{g:Operand}{args:Array Operand}{pn:Array TypeId}{k:cL->Option R}{q:R}
 (h:sS tab rd objs n g args.toList k=some q)(hs:ak U H F w (find objs) n):
 ∃e,k e=some q/\bz P U H F w ρ (find objs) n ⟨dst, .call {callee:= .value g,args:=args,argTypes:=pn},ty,pos,aft,none⟩ e:=by
 unfold sS at h;split at h
 case h_2=>cases h
 rename_i f caps hc;split at h
 case h_2=>cases h
 rename_i ds p6;unfold Ab at hc;split at hc
 case h_2=>cases hc
 rename_i f' SC hg;cases hc;obtain⟨us,h1,h2⟩:=dj _ _ hg;exact jT rS (nQ (jJ (w:=w) (H:=H) (F:=F) (ρ:=ρ) dj p6) (qV (F:=F) (w:=w) h2)) (fun fn g1 g2 g3=>BO g1 g2 g3 rfl h1) hs (fun _ h=>h) h
end
end Go.Proofs.YtbladfbbhijpmaaGreat
end
section
open _root_.List renaming getElem?_drop->YR,getElem?_take->Y0,mem_cons_of_mem->Zc
open _root_.Nat renaming beq->YE
open _root_.Option.some renaming injEq->YH
open _root_.Prod.mk renaming injEq->Zx
open _root_.Go.Result renaming andThen->YO
open _root_.Go.Sem renaming run_bind->Y6
namespace Go.Proofs.YtbladfbbhijpmaaGreat
open Go Go.RowKit
section
variable {P:Program} {ρ:Nat->Value} {w w':World} {H H':aj} {F F':Nat->Prop} {U:Nat->Prop} {ob:Nat->Option (Nat×Th)} {n:Nat} {R:Type}
variable {op:Op} {ty:TypeId} {pos:String} {aft:Array Edge} {d:Nat} {dst:Option Nat}
def CV.Ad:CV->Bool
 | .other=>false
 |_=>true
theorem sj.Ad{t:TypeId}{k:CV}(h:sj P t k)(hk:k.Ad=true):∃D,P.underlying t=some D/\∀ms,D≠ .interface ms:=by
 cases k with
 |other=>cases hk
 |struct fs=>obtain⟨arr,h,_⟩:=h;exact⟨_,h,fun _ e=>by cases e⟩
 |_=>exact⟨_,h,fun _ e=>by cases e⟩
def um(T:aI P)(t:TypeId):Bool:=match find T.und t with
 |some k=>k.Ad
 |none=>false
theorem sU(T:aI P){t:TypeId}(h:um T t=true):∃D,P.underlying t=some D/\∀ms,D≠ .interface ms:=by
 unfold um at h;split at h
 .rename_i k hk;exact(T.und_ok _ _ hk).Ad h
 .cases h
def BQ(T:aI P)(t:TypeId)(D:ag)(k:cL->Option R):Option R:=bif um T t then k {dst:= .ifc t D}else none
theorem G3(T:aI P){t:TypeId}{D:ag}{x:Operand}{k:cL->Option R}{q:R}(h:BQ T t D k=some q)(hs:ak U H F w ob n)(hx:af H F w D (ev ρ x)):
 ∃e,k e=some q/\bz P U H F w ρ ob n ⟨some d, .makeInterface t x,ty,pos,aft,none⟩ e:=by
 unfold BQ at h;obtain⟨h1,h2⟩:=ax h;obtain⟨D0,hD,hn⟩:=sU T h1;refine⟨_,h2,aW hs (v:= .iface t (ev ρ x)) ?_ ⟨_,rfl,hx⟩⟩
 cases D0 with
 |interface ms=>exact absurd rfl (hn ms)
 |_=>simp[execOp,Instr.makeInterface,run_underlying hD,YO]
def mc(T:aI P)(t:TypeId)(ok:Bool)(D:ag)(k:cL->Option R):Option R:=
 match D with
 | .ifc t' d=>bif YE t' t&&um T t then(match ok,d with
   |true, .val agg tr=>k {dst:= .tup [(agg,tr),(false, .leaf .bool true)]}
   |true,_=>none
   |false,d=>k {dst:=d})else none
 |_=>none
theorem yB(T:aI P){xt t:TypeId}{ok:Bool}{D:ag}{x:Operand}{k:cL->Option R}{q:R}(h:mc T t ok D k=some q)(hs:ak U H F w ob n)(hx:af H F w D (ev ρ x)):
 ∃e,k e=some q/\bz P U H F w ρ ob n ⟨some d, .typeAssert x xt t ok,ty,pos,aft,none⟩ e:=by
 unfold mc at h;split at h
 case h_2=>cases h
 rename_i t' dd;obtain⟨h1,h2⟩:=ax h;obtain⟨h1,h3⟩:=bE h1;obtain rfl:=beq_true h1;obtain⟨D0,hD,hn⟩:=sU T h3;obtain⟨u,hu,hd⟩:=hx
 have aZ:(Instr.typeAssert (ev ρ x) xt t' ok).run P w= .ok (if ok then .tuple #[u, .bool true]else u) w:=by
  rw[hu]
  cases D0 with
  |interface ms=>exact absurd rfl (hn ms)
  |_=>simp[Instr.typeAssert,run_underlying hD,YO]
 split at h2
 .exact⟨_,h2,aW hs (v:= .tuple #[u, .bool true]) (by simp[execOp,aZ,YO]) ⟨[u, .bool true],rfl,_,_,rfl,hd,_,_,rfl,au.dy ..,rfl⟩⟩
 .cases h2
 .exact⟨_,h2,aW hs (v:=u) (by simp[execOp,aZ,YO]) hd⟩
def Ae:List (TypeId×(String×(FuncId×Bool)))->TypeId->String->Option (FuncId×Bool)
 |[],_,_=>none
 |(t',(nm,p))::l,t,name=>bif YE t' t&&(nm==name)then some p else Ae l t name
theorem wq{t:TypeId}{name:String}{f:FuncId}{pr:Bool}:{l:List (TypeId×(String×(FuncId×Bool)))}->Ae l t name=some (f,pr)->(t,(name,(f,pr)))∈l
 |[],h=>by cases h
 |(t',(nm,p))::l,h=>by
  unfold Ae at h
  cases hb:YE t' t&&(nm==name)with
  |true=>
   rw[hb,cond_true]at h;obtain⟨h1,h2⟩:=bE hb;obtain rfl:=beq_true h1
   obtain rfl:nm=name:=by simpa using h2
   cases h;simp
  |false=>
   rw[hb,cond_false]at h;exact Zc _ (wq h)
theorem yC{t:TypeId}{name:String}{f:FuncId}{pr:Bool}{v u:Value}{fuel:Nat}(h:zG P t name f pr)(hr:∀nm,(receiverAt t (.val v) pr (some nm)).run P w= .ok u w):(method (fuel+1) t v name).run P w= .ok (f,u) w:=by
 unfold zG at h
 cases hi:P.info? t with
 |none=>rw[hi]at h;cases h
 |some ti=>
  rw[hi]at h;have h:(ti.methods.find? fun m=>m.name==name).map (fun m=>(m.path.toList.length,m.func))=some (0,some (f,pr)):=h
  cases hm:ti.methods.find? fun m=>m.name==name with
  |none=>rw[hm]at h;cases h
  |some m=>
   rw[hm]at h;simp only[Option.map_some,YH,Zx]at h
   have hp:m.path= #[]:=by
    have:=h.1;simpa using this
   simp[method,typeInfo,hi,hm,hp,follow,h.2,hr,YO,Y6]
theorem BR{t e:TypeId}{nm:String}{v:Value}(hu:P.underlying t=some (.pointer e)):(receiverAt t (.val v) true (some nm)).run P w= .ok v w:=by
 simp[receiverAt,run_underlying hu,Place.get,YO,Y6]
theorem BS{t e:TypeId}{nm:String}{a:Addr}{u:Value}(hu:P.underlying t=some (.pointer e))(hl:(loadVar e a).run P w= .ok u w):(receiverAt t (.val (.pointer (some a))) false (some nm)).run P w= .ok u w:=by
 have hw:Builtin.ssaWrapNilChk_ #[t] t #[.pointer (some a),strVal "",strVal nm]=pure (.pointer (some a)):=rfl;simp[receiverAt,run_underlying hu,Place.get,hw,asAddr,hl,YO,Y6]
theorem qW{t:TypeId}{name:String}{f:FuncId}{fn:Func}{pr:Bool}{v u:Value}{x:Operand}{args:Array Operand}{pn:Array TypeId}(h:zG P t name f pr)(hx:ev ρ x= .iface t v)(hr:∀nm,(receiverAt t (.val v) pr (some nm)).run P w= .ok u w)
 (hf:P.funcs[f]? =some fn)(hn:(fn.name== "runtime.NumGoroutine")=false)(hb:fn.body.isNone=false):
 (execOp (ev ρ) ⟨dst, .call {callee:= .invoke x name,args:=args,argTypes:=pn},ty,pos,aft,none⟩).run P w= .ok (.enter f (u::args.toList.map (ev ρ)).toArray) w:=by
 have Dx:¬fn.name= "runtime.NumGoroutine" :=by simpa using hn
 have pW:¬fn.body=none:=by
  intro e;rw[e]at hb;cases hb
 have hm:=yC (fuel:=P.types.size+99) h hr;have UG:P.types.size+100=P.types.size+99+1:=rfl
 have e1:(#[Value.iface t v]++Array.map (ev ρ) args).extract 1 (1+args.size)=Array.map (ev ρ) args:=by
  apply Array.ext';simp;exact List.take_of_length_le (by simp)
 have e0:(#[Value.iface t v]++Array.map (ev ρ) args)[0]? =some (Value.iface t v):=by simp[Array.getElem?_append]
 have e2:(#[u]++Array.map (ev ρ) args)=(u::args.toList.map (ev ρ)).toArray:=by apply Array.ext';simp
 simp[execOp,resolve,hx,invoke,callMethod,UG,hm,callFunc,hf,Dx,pW,go_sem,e0,e1,e2]
def qb(T:aI P)(ob:Nat->Option (Nat×Th))(e:TypeId)(D:ag):Option ag:=
 match find T.und e with
 |none=>none
 |some kk=>match D with
  | .ptr o p off=>match ob o with
    |some (_, .box _ tr)=>match tr.get p with
     |some (s,cF)=>bif YE cF off&&iH T e kk s.size then some (.val (fP kk) s)else none
     |none=>none
    |_=>none
  |_=>none
theorem yD(T:aI P){e:TypeId}{D D':ag}{v:Value}(h:qb T ob e D=some D')(hs:ak U H F w ob n)(hx:af H F w D v):∃a u,v= .pointer (some a)/\(loadVar e a).run P w= .ok u w/\af H F w D' u:=by
 unfold qb at h;split at h
 .cases h
 rename_i kk hu;split at h
 case h_2=>cases h
 rename_i o p off;split at h
 case h_2=>cases h
 rename_i TL T0 tr bJ;split at h
 case h_2=>cases h
 rename_i s cF hg;obtain⟨h1,h2⟩:=ax h;cases h2;obtain⟨h1,h3⟩:=bE h1;obtain rfl:=beq_true h1;obtain⟨b,hb,rfl⟩:=hx;obtain⟨es,hh,Ic⟩:=hs.box bJ hb;obtain⟨g1,g2⟩:=Ic.get hg
 have hc:∀j u,((es.drop cF).take s.size)[j]? =some u->w.cell? ⟨b,cF+j,none⟩=some u:=fun j u hj=>by
  rw[qv hh];rw[Y0]at hj;split at hj
  .rwa [YR]at hj
  .cases hj
 obtain⟨dd,si,rI⟩:=(T.und_ok _ _ hu).agg;have hz:=fE T h3;have hl:=g1.length;generalize(es.drop cF).take s.size=cs at g1 hc hl
 cases ha:fP kk with
 |true=>
  rw[if_pos ha]at hz;obtain⟨r,hr,Ga⟩:=hz;obtain⟨ti,z,h1,_,_,h4,_⟩:=T.row_ok _ _ hr;have Pe:(loadCells ⟨b,cF,none⟩ cs.length).run P w= .ok cs.toArray w:=run_loadCells_list (P:=P) w ⟨b,cF,none⟩ cs (fun j v hv=>by rw[bM];exact hc j v hv)
  have iz:ti.size=cs.length:=by omega
  exact⟨_, .agg cs.toArray,rfl,by simp[loadVar,Y6,dn si,rI,ha,sizeOf,typeInfo,h1,iz,Pe],⟨cs,g1,rfl,by simp⟩⟩
 |false=>
  rw[if_neg (by simp[ha])]at hz
  obtain⟨v,rfl⟩:∃v,cs=[v]:=by
   match cs,hl.trans hz with
   |[v],_=>exact⟨v,rfl⟩
  have UH:w.cell? ⟨b,cF,none⟩=some v:=hc 0 v rfl;exact⟨_,v,rfl,by simp[loadVar,Y6,dn si,rI,ha,UH,go_sem],⟨[v],g1,rfl,fun _=>rfl⟩⟩
def me(T:aI P)(tab:List (Nat×bU))(rd:Operand->Option ag)(objs:List (Nat×(Nat×Th)))(n:Nat)(x:Operand)(name:String)(args:List Operand)(k:cL->Option R):Option R:=
 match rd x with
 |some (.ifc t d)=>match Ae T.mth t name with
  |some (f,pr)=>match find T.und t with
   |some (.ptr e)=>match(bif pr then some d else qb T (find objs) e d)with
    |some d'=>match nG rd args with
     |some ds=>kr objs n f (d'::ds) k tab
     |none=>none
    |none=>none
   |_=>none
  |none=>none
 |_=>none
theorem qX(T:aI P){tab:List (Nat×bU)}(rS:∀p∈tab,aL P p.1 p.2){rd:Operand->Option ag}(dj:∀x d,rd x=some d->af H F w d (ev ρ x)){objs:List (Nat×(Nat×Th))}{x:Operand}{name:String}{args:Array Operand}{pn:Array TypeId}{k:cL->Option R}{q:R}
 (h:me T tab rd objs n x name args.toList k=some q)(hs:ak U H F w (find objs) n):
 ∃e,k e=some q/\bz P U H F w ρ (find objs) n ⟨dst, .call {callee:= .invoke x name,args:=args,argTypes:=pn},ty,pos,aft,none⟩ e:=by
 unfold me at h;split at h
 case h_2=>cases h
 rename_i t d0 hx;split at h
 case h_2=>cases h
 rename_i f pr hm;split at h
 case h_2=>cases h
 rename_i e hu;split at h
 case h_2=>cases h
 rename_i d' sb;split at h
 case h_2=>cases h
 rename_i ds p6;obtain⟨v,hv,SD⟩:=dj _ _ hx;have hM:=T.mth_ok _ (wq hm);have hu:=T.und_ok _ _ hu;have SE:=jJ (w:=w) (H:=H) (F:=F) (ρ:=ρ) dj p6
 cases pr with
 |true=>
  cases sb
  have KB:du H F w (d0::ds) (v::args.toList.map (ev ρ)):=⟨v,_,rfl,SD,SE⟩
  exact jT rS KB (fun fn g1 g2 g3=>qW hM hv (fun nm=>BR hu) g1 g2 g3) hs (fun _ h=>h) h
 |false=>
  obtain⟨a,u,rfl,hl,UI⟩:=yD T (show qb T (find objs) e d0=some d' from sb) hs SD
  have KB:du H F w (d'::ds) (u::args.toList.map (ev ρ)):=⟨u,_,rfl,UI,SE⟩
  exact jT rS KB (fun fn g1 g2 g3=>qW hM hv (fun nm=>BS hu hl) g1 g2 g3) hs (fun _ h=>h) h
end
end Go.Proofs.YtbladfbbhijpmaaGreat
end
section
open _root_.Array renaming toArray_toList->Zi
open _root_.List.cons renaming injEq->ZM
open _root_.Nat renaming beq->YE,blt->Zl,le_trans->Y3
open _root_.Option.some renaming inj->YA
open _root_.Prod.mk renaming inj->Z3
open _root_.Go.Sem renaming run_bind->Y6
namespace Go.Proofs.YtbladfbbhijpmaaGreat
open Go Go.RowKit
structure Env(P:Program)where
 T:aI P
 tab:List (Nat×bU)
 ok:∀p∈tab,aL P p.1 p.2
 mix:P.follows .mixedOrders=true
 deep:Bool
 drop:Bool
def uo(rd:Operand->Option ag):List Operand->Option (List (Nat×List Bool×Nat))
 |[]=>some []
 |x::xs=>match rd x with
  |some (.ptr o p off)=>match uo rd xs with
   |some cs=>some ((o,p,off)::cs)
   |none=>none
  |_=>none
theorem sV{H:aj}{F:Nat->Prop}{w:World}{ρ:Nat->Value}{rd:Operand->Option ag}(dj:∀x d,rd x=some d->af H F w d (ev ρ x)):{xs:List Operand}->{cs:List (Nat×List Bool×Nat)}->uo rd xs=some cs->gn H cs (xs.map (ev ρ))
 |[],cs,h=>by obtain rfl:=YA h;rfl
 |x::xs,cs,h=>by
  unfold uo at h;split at h
  case h_2=>cases h
  rename_i o p off hx;split at h
  case h_2=>cases h
  rename_i mL mK;obtain rfl:=YA h;exact⟨_,_,rfl,dj _ _ hx,sV dj mK⟩
def iB{R:Type}(rd:Operand->Option ag)(fn:Fn)(first caps:Array Operand)(k:cL->Option R):Option R:=
 match fn,first.toList with
 | .func f,[]=>match uo rd caps.toList with
   |some cs=>k {dst:= .fn f cs}
   |none=>none
 |_,_=>none
theorem uq{R:Type}{P:Program}{U:Nat->Prop}{H:aj}{F:Nat->Prop}{w:World}{ρ:Nat->Value}{ob:Nat->Option (Nat×Th)}{n d:Nat}{ty:TypeId}{pos:String}{aft:Array Edge}{rd:Operand->Option ag}(dj:∀x d,rd x=some d->af H F w d (ev ρ x)){fn:Fn}{first caps:Array Operand}{k:cL->Option R}{q:R}
 (h:iB rd fn first caps k=some q)(hs:ak U H F w ob n):∃e,k e=some q/\bz P U H F w ρ ob n ⟨some d, .makeFunc fn first caps,ty,pos,aft,none⟩ e:=by
 unfold iB at h;split at h
 case h_2=>cases h
 rename_i f hf;split at h
 case h_2=>cases h
 rename_i cs mK
 have Je:first= #[]:=by rw[<-Zi (xs:=first),hf]
 subst Je
 have e:caps.map (ev ρ)=(caps.toList.map (ev ρ)).toArray:=by rw[<-List.map_toArray,Zi]
 exact⟨_,h,aW hs (v:= .func (.func f) #[] (caps.toList.map (ev ρ)).toArray) (by simp[execOp,Instr.makeFunc,e]) ⟨_,rfl,sV dj mK⟩⟩
noncomputable def jU{R:Type}{P:Program}(E:Env P)(rd:Operand->Option ag)(objs:List (Nat×(Nat×Th)))(n:Nat)(callee:Callee)(args:Array Operand)(pn:Array TypeId)(k:cL->Option R):Option R:=
 match callee with
 | .builtin .len=>match args.toList,pn.toList with
   |[x],[t]=>match rd x with
    |some D=>match Bn E.T (find objs) t D with
     |some D'=>k {dst:=D'}
     |none=>none
    |none=>none
   |_,_=>none
 | .builtin .append=>match args.toList,pn.toList with
   |[x,y],[t,t']=>bif YE t t' then(match rd x with
    |some X=>match rd y with
     |some Y=>jQ E.T (find objs) n t X Y k
     |none=>none
    |none=>none)else none
   |_,_=>none
 | .builtin .max=>match args.toList,pn.toList with
   |[x,y],[_,_]=>match rd x with
    |some X=>match rd y with
     |some Y=>match p8 true X Y with
      |some D=>k {dst:=D}
      |none=>none
     |none=>none
    |none=>none
   |_,_=>none
 | .builtin .min=>match args.toList,pn.toList with
   |[x,y],[_,_]=>match rd x with
    |some X=>match rd y with
     |some Y=>match p8 false X Y with
      |some D=>k {dst:=D}
      |none=>none
     |none=>none
    |none=>none
   |_,_=>none
 | .builtin .delete=>match args.toList,pn.toList with
   |[m,x],[t,_]=>match rd m with
    |some M=>match rd x with
     |some X=>lS E.T (find objs) n t M X k
     |none=>none
    |none=>none
   |_,_=>none
 | .value g=>sS E.tab rd objs n g args.toList k
 | .invoke x name=>me E.T E.tab rd objs n x name args.toList k
 |_=>none
noncomputable def G4{R:Type}{P:Program}(E:Env P)(rd:Operand->Option ag)(objs:List (Nat×(Nat×Th)))(n:Nat)(dst:Option Nat)(op:Op)(k:cL->Option R):Option R:=
 match dst with
 |none=>match op with
  | .store t x y=>match rd x with
    |some X=>match rd y with
     |some Y=>lZ E.T (find objs) n t X Y k
     |none=>none
    |none=>none
  | .call c=>jU E rd objs n c.callee c.args c.argTypes k
  | .mapUpdate t m x y=>match rd m with
    |some M=>match rd x with
     |some X=>match rd y with
      |some Y=>fG E.T (find objs) n t M X Y k
      |none=>none
     |none=>none
    |none=>none
  |_=>none
 |some _=>match op with
  | .move x=>match rd x with
    |some D=>k {dst:=D}
    |none=>none
  | .assign x=>match rd x with
    |some D=>k {dst:=D}
    |none=>none
  | .pick c x y=>match rd c with
    |some C=>match asBool C with
     |some b=>match(if b=true then rd x else rd y)with
      |some D=>k {dst:=D}
      |none=>none
     |none=>none
    |none=>none
  | .alloc t=>ot E.T n t k
  | .box t x=>match rd x with
    |some X=>Bm n t X k
    |none=>none
  | .build t ps=>ov E.T rd t ps k
  | .buildSlice t m ps=>qa E.deep E.T rd (find objs) n t m ps k
  | .load t x=>match rd x with
    |some X=>lb E.T (find objs) n t X k
    |none=>none
  | .nilCheck x=>match rd x with
    |some (.ptr o p off)=>k {dst:= .ptr o p off}
    |some (.elem o s r i z p off)=>k {dst:= .elem o s r i z p off}
    |some (.dlm o d i p off)=>k {dst:= .dlm o d i p off}
    |some (.at r z)=>k {dst:= .at r z}
    |_=>none
  | .binOp o t x y _=>match rd x with
    |some X=>match rd y with
     |some Y=>Bu E.T (find objs) o t (K9 y) X Y k
     |none=>none
    |none=>none
  | .unOp o _ x=>match rd x with
    |some X=>match OA o X with
     |some D=>k {dst:=D}
     |none=>none
    |none=>none
  | .convert s t x=>match rd x with
    |some X=>match DT E.T s t X with
     |some D=>k {dst:=D}
     |none=>none
    |none=>none
  | .makeSlice t a b=>match rd a with
    |some A=>match asInt A with
     |some (_,i)=>match rd b with
      |some B=>match asInt B with
       |some (_,j)=>qM E.deep E.T n t (k8 a b) i j k
       |none=>none
      |none=>none
     |none=>none
    |none=>none
  | .slice t x lo hi none=>match rd x with
    |some X=>ow E.drop E.T rd (find objs) n t X lo hi k
    |none=>none
  | .fieldAddr t x f=>match rd x with
    |some X=>match xT E.T t f X with
     |some D=>k {dst:=D}
     |none=>none
    |none=>none
  | .field t x f=>match rd x with
    |some X=>match tV E.T t f X with
     |some D=>k {dst:=D}
     |none=>none
    |none=>none
  | .indexAddr t x y=>match rd x with
    |some X=>match rd y with
     |some Y=>match asInt Y with
      |some (_,i)=>oo E.T (find objs) t X i k
      |none=>none
     |none=>none
    |none=>none
  | .index t x y=>match rd x with
    |some X=>match rd y with
     |some Y=>match asInt Y with
      |some (_,i)=>lU E.T (find objs) t X i k
      |none=>none
     |none=>none
    |none=>none
  | .extract x i=>match rd x with
    |some X=>match qD X i with
     |some D=>k {dst:=D}
     |none=>none
    |none=>none
  | .call c=>jU E rd objs n c.callee c.args c.argTypes k
  | .makeFunc fn first caps=>iB rd fn first caps k
  | .makeMap t none=>iA E.deep E.T n t k
  | .lookup t m x ok=>match rd m with
    |some M=>match rd x with
     |some X=>jP E.T (find objs) n t ok M X k
     |none=>none
    |none=>none
  | .range t x=>match rd x with
    |some X=>oF E.T (find objs) n t X k
    |none=>none
  | .entry x=>match rd x with
    |some X=>match yn objs X with
     |some D=>k {dst:=D}
     |none=>none
    |none=>none
  | .makeInterface t x=>match rd x with
    |some X=>BQ E.T t X k
    |none=>none
  | .typeAssert x _ t ok=>match rd x with
    |some X=>mc E.T t ok X k
    |none=>none
  |_=>none
section
variable {P:Program} {ρ:Nat->Value} {w w':World} {H H':aj} {F F':Nat->Prop} {U:Nat->Prop} {n:Nat} {R:Type}
variable {ty:TypeId} {pos:String} {aft:Array Edge} {dst:Option Nat} {d:Nat}
theorem cG{α:Type}{a:Array α}{l:List α}(h:a.toList=l):a=l.toArray:=by rw[<-h,Zi]
theorem sW(E:Env P){rd:Operand->Option ag}(dj:∀x d,rd x=some d->af H F w d (ev ρ x)){objs:List (Nat×(Nat×Th))}{args:Array Operand}{pn:Array TypeId}{k:cL->Option R}{q:R}{dst:Option Nat}
 (h:jU E rd objs n (.builtin .delete) args pn k=some q)(hs:ak U H F w (find objs) n):∃e,k e=some q/\bz P U H F w ρ (find objs) n ⟨dst, .call {callee:= .builtin .delete,args:=args,argTypes:=pn},ty,pos,aft,none⟩ e:=by
 unfold jU at h;simp only at h;split at h
 case h_2=>cases h
 rename_i m x t t' ha ht;obtain rfl:=cG ha;obtain rfl:=cG ht;split at h
 case h_2=>cases h
 rename_i M hM;split at h
 case h_2=>cases h
 rename_i X hX;exact xZ E.T h hs (dj _ _ hM) (dj _ _ hX)
theorem Er(E:Env P){rd:Operand->Option ag}(dj:∀x d,rd x=some d->af H F w d (ev ρ x)){objs:List (Nat×(Nat×Th))}{c:Call}{k:cL->Option R}{q:R}
 (h:jU E rd objs n c.callee c.args c.argTypes k=some q)(hs:ak U H F w (find objs) n):∃e,k e=some q/\bz P U H F w ρ (find objs) n ⟨some d, .call c,ty,pos,aft,none⟩ e:=by
 obtain⟨callee,args,pn⟩:=c;simp only at h;unfold jU at h;split at h
 .split at h
  case h_2=>cases h
  rename_i x t ha ht;obtain rfl:=cG ha;obtain rfl:=cG ht;split at h
  case h_2=>cases h
  rename_i D hD;split at h
  case h_2=>cases h
  rename_i D' Gy;exact⟨_,h,zK E.T Gy hs (dj _ _ hD)⟩
 .split at h
  case h_2=>cases h
  rename_i x y t t' ha ht;obtain rfl:=cG ha;obtain rfl:=cG ht;obtain⟨hb,h'⟩:=ax h;clear h;obtain rfl:=beq_true hb;split at h'
  case h_2=>cases h'
  rename_i X hX;split at h'
  case h_2=>cases h'
  rename_i Y hY;exact vV E.T h' hs (dj _ _ hX) (dj _ _ hY)
 .split at h
  case h_2=>cases h
  rename_i x y t t' ha ht;obtain rfl:=cG ha;obtain rfl:=cG ht;split at h
  case h_2=>cases h
  rename_i X hX;split at h
  case h_2=>cases h
  rename_i Y hY;split at h
  case h_2=>cases h
  rename_i D hD;exact⟨_,h,qE (mx:=true) hD hs (dj _ _ hX) (dj _ _ hY)⟩
 .split at h
  case h_2=>cases h
  rename_i x y t t' ha ht;obtain rfl:=cG ha;obtain rfl:=cG ht;split at h
  case h_2=>cases h
  rename_i X hX;split at h
  case h_2=>cases h
  rename_i Y hY;split at h
  case h_2=>cases h
  rename_i D hD;exact⟨_,h,qE (mx:=false) hD hs (dj _ _ hX) (dj _ _ hY)⟩
 .refine sW E dj ?_ hs;unfold jU;exact h
 .exact wo E.ok dj h hs
 .exact qX E.T E.ok dj h hs
 .cases h
def LP:Callee->Bool
 | .value _=>true
 | .invoke .. =>true
 |_=>false
def Es:Callee->Bool
 | .builtin .delete=>true
 |c=>LP c
theorem rT(E:Env P){rd:Operand->Option ag}(dj:∀x d,rd x=some d->af H F w d (ev ρ x)){objs:List (Nat×(Nat×Th))}{c:Call}{k:cL->Option R}{q:R}(hc:Es c.callee=true)
 (h:jU E rd objs n c.callee c.args c.argTypes k=some q)(hs:ak U H F w (find objs) n):∃e,k e=some q/\bz P U H F w ρ (find objs) n ⟨none, .call c,ty,pos,aft,none⟩ e:=by
 obtain⟨callee,args,pn⟩:=c;simp only at h hc
 cases callee with
 |value g=>exact wo E.ok dj h hs
 |invoke x name=>exact qX E.T E.ok dj h hs
 |builtin b=>cases b<;>first|(cases hc;done)|exact sW E dj h hs
end
section
variable {P:Program} {ρ:Nat->Value} {w w':World} {H H':aj} {F F':Nat->Prop} {U:Nat->Prop} {n:Nat} {R:Type}
variable {ty:TypeId} {pos:String} {aft:Array Edge} {dst:Option Nat} {d:Nat}
theorem BT{c x y:Operand}{b:Bool}{D:ag}{ob:Nat->Option (Nat×Th)}(hs:ak U H F w ob n)(hc:ev ρ c= .bool b)(hx:af H F w D (ev ρ (if b=true then x else y))):bz P U H F w ρ ob n ⟨some d, .pick c x y,ty,pos,aft,none⟩ {dst:=D}:=by
 cases b with
 |true=>exact ay hs (qh hc rfl) hx
 |false=>exact ay hs (pG hc rfl) hx
theorem Et(E:Env P){rd:Operand->Option ag}(dj:∀x d,rd x=some d->af H F w d (ev ρ x)){objs:List (Nat×(Nat×Th))}{op:Op}{k:cL->Option R}{q:R}
 (BU:dst=none->∀c,op= .call c->Es c.callee=true)(h:G4 E rd objs n dst op k=some q)(hs:ak U H F w (find objs) n):∃e,k e=some q/\bz P U H F w ρ (find objs) n ⟨dst,op,ty,pos,aft,none⟩ e:=by
 cases dst with
 |none=>
  unfold G4 at h;simp only at h;split at h
  .split at h
   case h_2=>cases h
   rename_i X hX;split at h
   case h_2=>cases h
   rename_i Y hY;exact yj E.T h hs (dj _ _ hX) (dj _ _ hY)
  .rename_i c;exact rT E dj (BU rfl c rfl) h hs
  .split at h
   case h_2=>cases h
   rename_i M hM;split at h
   case h_2=>cases h
   rename_i X hX;split at h
   case h_2=>cases h
   rename_i Y hY;exact qO E.T h hs (dj _ _ hM) (dj _ _ hX) (dj _ _ hY)
  .cases h
 |some d=>
  unfold G4 at h;simp only at h;split at h
  .split at h
   case h_2=>cases h
   rename_i D hD;exact⟨_,h,Bv hs (dj _ _ hD)⟩
  .split at h
   case h_2=>cases h
   rename_i D hD;exact⟨_,h,vD hs (dj _ _ hD)⟩
  .split at h
   case h_2=>cases h
   rename_i C hC;split at h
   case h_2=>cases h
   rename_i b hb;split at h
   case h_2=>cases h
   rename_i D hD;refine⟨_,h,BT hs (jG hb (dj _ _ hC)) ?_⟩;split at hD
   .rename_i e;rw[if_pos e];exact dj _ _ hD
   .rename_i e;rw[if_neg e];exact dj _ _ hD
  .exact Bl E.T h hs
  .split at h
   case h_2=>cases h
   rename_i X hX;exact GF h hs (dj _ _ hX)
  .exact Bo E.T dj h hs
  .exact yk E.deep E.T dj h hs
  .split at h
   case h_2=>cases h
   rename_i X hX;exact BH E.T h hs (dj _ _ hX)
  .split at h
   .rename_i o p off hX;obtain⟨b,h1,h2⟩:=dj _ _ hX;exact⟨_,h,aW hs (v:= .pointer (some ⟨b,off,none⟩)) (by simp[execOp,h2]) ⟨b,h1,rfl⟩⟩
   .rename_i o s r i z p off hX;have hd:=dj _ _ hX;obtain⟨g,o0,q,T,m,cap,l,_,_,_,_,h2⟩:=id hd;exact⟨_,h,aW hs (v:= .pointer (some ⟨g,o0+q*r.size+off,none⟩)) (by simp[execOp,h2]) (by rw[<-h2];exact hd)⟩
   .rename_i o d i p off hX;have hd:=dj _ _ hX;obtain⟨g,o0,q,m,cap,_,_,h2⟩:=id hd;exact⟨_,h,aW hs (v:= .pointer (some ⟨g,o0+q*d.low.size+off,none⟩)) (by simp[execOp,h2]) (by rw[<-h2];exact hd)⟩
   .rename_i r z hX;have hd:=dj _ _ hX;obtain⟨b,off,h2,_⟩:=id hd;exact⟨_,h,aW hs (v:= .pointer (some ⟨b,off,none⟩)) (by simp[execOp,h2]) (by rw[<-h2];exact hd)⟩
   .cases h
  .split at h
   case h_2=>cases h
   rename_i X hX;split at h
   case h_2=>cases h
   rename_i Y hY;exact GI E.T h hs (dj _ _ hX) (dj _ _ hY)
  .split at h
   case h_2=>cases h
   rename_i X hX;split at h
   case h_2=>cases h
   rename_i D hD;exact⟨_,h,IX hD hs (dj _ _ hX)⟩
  .split at h
   case h_2=>cases h
   rename_i X hX;split at h
   case h_2=>cases h
   rename_i D hD;exact⟨_,h,DU E.T hD hs (dj _ _ hX)⟩
  .split at h
   case h_2=>cases h
   rename_i A hA;split at h
   case h_2=>cases h
   rename_i i hi;split at h
   case h_2=>cases h
   rename_i B hB;split at h
   case h_2=>cases h
   rename_i j hj;exact BG E.deep E.T h hs (eJ hi (dj _ _ hA)) (eJ hj (dj _ _ hB))
  .split at h
   case h_2=>cases h
   rename_i X hX;exact Bt E.drop E.T dj h hs (dj _ _ hX)
  .split at h
   case h_2=>cases h
   rename_i X hX;split at h
   case h_2=>cases h
   rename_i D hD;exact⟨_,h,Bg E.T hD hs (dj _ _ hX)⟩
  .split at h
   case h_2=>cases h
   rename_i X hX;split at h
   case h_2=>cases h
   rename_i D hD;exact⟨_,h,xY E.T hD hs (dj _ _ hX)⟩
  .split at h
   case h_2=>cases h
   rename_i X hX;split at h
   case h_2=>cases h
   rename_i Y hY;split at h
   case h_2=>cases h
   rename_i i hi;exact Bh E.T h hs (dj _ _ hX) (eJ hi (dj _ _ hY))
  .split at h
   case h_2=>cases h
   rename_i X hX;split at h
   case h_2=>cases h
   rename_i Y hY;split at h
   case h_2=>cases h
   rename_i k' i hi;exact yc E.T h hs (dj _ _ hX) (eJ hi (dj _ _ hY))
  .split at h
   case h_2=>cases h
   rename_i X hX;split at h
   case h_2=>cases h
   rename_i D hD;exact⟨_,h,vC hD hs (dj _ _ hX)⟩
  .exact Er E dj h hs
  .exact uq dj h hs
  .exact ui E.deep E.T h hs
  .split at h
   case h_2=>cases h
   rename_i M hM;split at h
   case h_2=>cases h
   rename_i X hX;exact vR E.T h hs (dj _ _ hM) (dj _ _ hX)
  .split at h
   case h_2=>cases h
   rename_i X hX;exact BJ E.T h hs (dj _ _ hX)
  .split at h
   case h_2=>cases h
   rename_i X hX;split at h
   case h_2=>cases h
   rename_i D hD;exact⟨_,h,BK hD hs (dj _ _ hX)⟩
  .split at h
   case h_2=>cases h
   rename_i X hX;exact G3 E.T h hs (dj _ _ hX)
  .split at h
   case h_2=>cases h
   rename_i X hX;exact yB E.T h hs (dj _ _ hX)
  .cases h
end
def mW(rd:Operand->Option ag)(x:Operand):List Nat:=
 match rd x with
 |some (.val _ t)=>t.owns
 |_=>[]
def ur(rd:Operand->Option ag)(x:Operand):List Nat:=
 match rd x with
 |some (.val _ (.view o _ _ _))=>[o]
 |_=>[]
def Af(rd:Operand->Option ag):List Operand->List Nat
 |[]=>[]
 |x::xs=>mW rd x++Af rd xs
def oP:Operand->Bool
 | .const (.slice none 0 0)=>true
 |_=>false
def G5(rd:Operand->Option ag):Op->List Nat
 | .store _ x y=>match rd x with
   |some (.elem ..)=>mW rd y
   |_=>[]
 | .buildSlice _ _ ps=>Af rd (ps.toList.map (·.2))
 | .binOp .eql _ x y _=>bif oP y then[]else mW rd x++mW rd y
 | .binOp .neq _ x y _=>bif oP y then[]else mW rd x++mW rd y
 | .slice _ x _ _ _=>ur rd x
 | .indexAddr _ x _=>ur rd x
 | .call c=>match c.callee,c.args.toList with
   | .builtin .append,[_,y]=>ur rd y
   |_,_=>[]
 | .mapUpdate _ _ _ y=>mW rd y
 |_=>[]
def wu(nt:Nat):Option Nat->Bool
 |some d=>Zl d nt
 |none=>true
def SF(dst:Option Nat)(op:Op):Bool:=
 match dst with
 |some _=>true
 |none=>match op with
  | .call c=>Es c.callee
  |_=>true
open Classical in
noncomputable def wv{α:Type}(a b:Option α):Option α:=if a=b then a else none
theorem Eu{α:Type}{a b:Option α}{q:α}(h:wv a b=some q):a=some q:=by
 unfold wv at h;split at h
 .exact h
 .cases h
theorem Jf{α:Type}{a b:Option α}{q:α}(h:wv a b=some q):b=some q:=by
 have ha:=Eu h;unfold wv at h;split at h
 .rename_i e;rw[<-e];exact ha
 .cases h
def Ev{P:Program}(T:aI P)(rd:Operand->Option ag)(ob:Nat->Option (Nat×Th)):Op->Option (Bool×Nat)
 | .binOp o t x y _=>match o with
   | .eql=>bif oP y then(match find T.und t with
     |some (.slice _)=>match rd x with
      |some X=>match pL ob X with
       |some (.read _ l)=>some (false,l.length)
       |some (.own _ _ _ _ l)=>some (false,l.length)
       |_=>none
      |none=>none
     |_=>none)else none
   | .neq=>bif oP y then(match find T.und t with
     |some (.slice _)=>match rd x with
      |some X=>match pL ob X with
       |some (.read _ l)=>some (true,l.length)
       |some (.own _ _ _ _ l)=>some (true,l.length)
       |_=>none
      |none=>none
     |_=>none)else none
   |_=>none
 |_=>none
def mX{P:Program}(E:Env P)(rd:Operand->Option ag)(objs:List (Nat×(Nat×Th)))(op:Op):List Nat:=
 match E.deep,op with
 |true, .buildSlice .. =>[]
 |_,_=>G5 rd op
noncomputable def qY(st:State)(o:Nat):State:=
 match Ih (find st.objs) st.nxt o with
 |some e=>st.apply none e
 |none=>st
noncomputable def po(st:State):List Nat->State
 |[]=>st
 |o::os=>po (qY st o) os
def Il:List (Nat×(Nat×Th))->Bool
 |[]=>false
 |(_,(_, .deep _ _ _ (some _)))::_=>true
 |_::l=>Il l
noncomputable def kP(st:State):State:=
 match Il st.objs with
 |true=>po (po st (st.objs.map (·.1))) (st.objs.map (·.1))
 |false=>st
def LQ:Op->Bool
 | .call c=>LP c.callee
 |_=>false
def yE(o:Nat):List (Nat×(Nat×Th))->Bool
 |[]=>false
 |(_,(_, .deep _ _ _ (some h)))::l=>YE h.o o||yE o l
 |_::l=>yE o l
def G6(st:State)(x:Operand):Bool:=
 match Bd st.ah x with
 |some (.val _ (.own o))=>yE o st.objs
 |_=>false
def Ew(st:State):Op->Bool
 | .call c=>c.args.toList.any (G6 st)
 |_=>false
def Ey:Op->Option Operand
 | .next x false=>some x
 |_=>none
noncomputable def Ag{R:Type}{P:Program}(E:Env P)(dst:Option Nat)(op:Op)(st:State)(k:State->Option R):Option R:=
 match dz st.objs (mX E (Bd st.ah) st.objs op)with
 |some aA=>match Ev E.T (Bd st.ah) (find aA) op with
  |some (b,m)=>match dst with
   |some d=>if YE m 0=true then wv (k (State.apply {st with objs:=aA} (some d) {dst:=cJ true})) (k (State.apply {st with objs:=aA} (some d) {dst:=cJ false}))
     else k (State.apply {st with objs:=aA} (some d) {dst:=cJ b})
   |none=>none
  |none=>match Ey op with
   |some x=>match dst with
    |some d=>match Bd st.ah x with
     |some X=>D5 aA st.nxt X (fun e=>k (State.apply {st with objs:=aA} (some d) e))
     |none=>none
    |none=>none
   |none=>bif SF dst op then G4 E (Bd st.ah) aA st.nxt dst op (fun e=>k (State.apply {st with objs:=aA} dst e))else none
 |none=>none
noncomputable def qZ{R:Type}{P:Program}(E:Env P)(dst:Option Nat)(op:Op)(st:State)(k:State->Option R):Option R:=
 match E.deep&&LQ op&& !Ew st op with
 |true=>Ag E dst op (kP st) k
 |false=>Ag E dst op st k
def Ah(all:Array Oper)(j:Nat):Option Nat:=(all[j]?).bind (·.dst)
def State.put(st:State)(dst:Option Nat)(d:ag):State:=
 match dst with
 |some t=>{st with ah:=(t,d)::st.ah}
 |none=>st
def q6(dst:Option Nat)(kn:List (Nat×Bool)):List (Nat×Bool):=
 match dst with
 |some d=>del [d] kn
 |none=>kn
noncomputable def runs{R:Type}{P:Program}(E:Env P)(nt:Nat)(all:Array Oper):List Oper->List (Nat×Bool)->State->(State->Option R)->Option R
 |[],_,st,k=>k st
 |o::os,kn,st,k=>bif wu nt o.dst then(match o.guard with
  |none=>qZ E o.dst o.op st (fun cg=>runs E nt all os (q6 o.dst kn) cg k)
  |some (j,b)=>match Ah all j with
   |none=>none
   |some g=>bif Zl g nt then(match find kn g with
    |some v=>bif (bif v then b else !b)then qZ E o.dst o.op st (fun cg=>runs E nt all os (q6 o.dst kn) cg k)else runs E nt all os (q6 o.dst kn) (st.put o.dst .undef) k
    |none=>match find st.ah g with
     |some .undef=>runs E nt all os (q6 o.dst kn) (st.put o.dst .undef) k
     |some d=>match asBool d with
      |some t=>if t=true then
        (bif b then qZ E o.dst o.op (st.put (some g) (cJ true)) (fun cg=>runs E nt all os (q6 o.dst ((g,true)::kn)) cg k)
          else runs E nt all os (q6 o.dst ((g,true)::kn)) ((st.put (some g) (cJ true)).put o.dst .undef) k)
       else
        (bif b then runs E nt all os (q6 o.dst ((g,false)::kn)) ((st.put (some g) (cJ false)).put o.dst .undef) k
          else qZ E o.dst o.op (st.put (some g) (cJ false)) (fun cg=>runs E nt all os (q6 o.dst ((g,false)::kn)) cg k))
      |none=>none
     |none=>none)else none)else none
section
variable {P:Program} {nt:Nat} {ops:Array Oper} {K:(Nat->Value)->World->Prop} {rest:List Oper} {R:Type}
variable {ρ:Nat->Value} {w w0:World} {H:aj} {F F0 G:Nat->Prop}
abbrev UU(G:Nat->Prop)(w0:World):Nat->Prop:=fun k=>w0.heap.size<=k\/G k
theorem Ea.gz{H':aj}{F':Nat->Prop}{w':World}{g:Nat->Prop}(hg:Ea G w0 F0 w F)(he:F6 H F w H' F' w' g)(hu:∀k,g k->UU G w0 k):Ea G w0 F0 w' F':=by
 have iz:=hg.ext.size;refine⟨⟨he.ext.os.trans hg.ext.os,⟨he.ext.tape.1.trans hg.ext.tape.1,Y3 hg.ext.tape.2 he.ext.tape.2⟩,he.ext.output.trans hg.ext.output,Y3 iz he.ext.size,fun k hk hn=>?_⟩,fun b hb=>he.le b (hg.le b hb),fun b hb=>?_⟩
 .rw[he.ext.block k (by omega) fun h=>?_]
  .exact hg.ext.block k hk hn
  .rcases hu k h with h1|h1
   .omega
   .exact hn h1
 .rcases he.grow b hb with h1|h1|h1
  .exact hg.new b h1
  .exact .inr (.inl (Y3 iz h1))
  .exact .inr (hu b h1)
structure bR(G:Nat->Prop)(w0:World)(F0:Nat->Prop)(H:aj)(F:Nat->Prop)(w:World)(ρ:Nat->Value)(st:State):Prop where
 sat:Sat (UU G w0) H F w ρ st
 glob:Ea G w0 F0 w F
theorem bA.sX{H':aj}{F':Nat->Prop}{w':World}{g:Nat->Prop}(he:F6 H F w H' F' w' g)(hF:∀b,F b->b<w.heap.size)(hg:∀k,g k->¬F k):bA H F w H' F' w':=⟨he.dU,he.step hF hg⟩
theorem bR.oj{st:State}{os:List Nat}{aA:List (Nat×(Nat×Th))}(h:bR G w0 F0 H F w ρ st)(hf:dz st.objs os=some aA):
 ∃F',bR G w0 F0 H F' w ρ {st with objs:=aA}/\bA H F w H F' w:=by
 obtain⟨F',a1,a2,a3⟩:=jR hf h.sat.ob
 have dC:Step F w F' w:=fun b hb=>⟨a2 b hb,rfl⟩
 refine⟨F',⟨⟨fun t d hd=>(h.sat.slot t d hd).keep (aj.le.refl H) dC,a1,h.sat.all⟩,⟨h.glob.ext,fun b hb=>a2 b (h.glob.le b hb),fun b hb=>?_⟩⟩,⟨aj.le.refl H,dC⟩⟩
 rcases a3 b hb with h1|h1
 .exact h.glob.new b h1
 .exact .inr (h.sat.ob.dG b h1)
theorem yF{P:Program}{ρ:Nat->Value}{w:World}{o:BinOp}(rU:o= .eql\/o= .neq){t u e:TypeId}{x y:Operand}{d:Nat}{ty:TypeId}{pos:String}{aft:Array Edge}(hu:P.underlying t=some (.slice e)){A:Option Addr}{m c:Nat}(hx:ev ρ x= .slice A m c)(hy:ev ρ y= .slice none 0 0):
 (execOp (ev ρ) ⟨some d, .binOp o t x y u,ty,pos,aft,none⟩).run P w= .ok (.value (.bool (bif decide (o= .eql)then A.isNone else !A.isNone))) w:=by
 have hm:Op.maxDepth=9999+1:=rfl
 have he:(Op.equal t (.slice A m c) (.slice none 0 0)).run P w= .ok A.isNone w:=by
  unfold Op.equal;rw[hm];unfold Op.equalIn;rw[Y6,run_underlying hu]
  cases A<;>rfl
 rcases rU with rfl|rfl
 .simp[execOp,eqGuard,binOp,hx,hy,he]
 .simp[execOp,eqGuard,binOp,hx,hy,he]
theorem Ez{P:Program}(T:aI P){U:Nat->Prop}{H:aj}{F:Nat->Prop}{w:World}{ρ:Nat->Value}{n:Nat}{ob:Nat->Option (Nat×Th)}{rd:Operand->Option ag}(dj:∀x d,rd x=some d->af H F w d (ev ρ x))(hs:ak U H F w ob n){op:Op}{b:Bool}{m:Nat}(h:Ev T rd ob op=some (b,m)){d:Nat}{ty:TypeId}{pos:String}{aft:Array Edge}:
 ∃r:Bool,(m≠0->r=b)/\(execOp (ev ρ) ⟨some d,op,ty,pos,aft,none⟩).run P w= .ok (.value (.bool r)) w:=by
 have UJ:∀{y:Operand},oP y=true->ev ρ y= .slice none 0 0:=by
  intro y hy;unfold oP at hy;split at hy
  .rfl
  .cases hy
 have key:∀{k:DJ}{v:Value},GC U H F w ob v k->∀m,(match k with| .read _ l=>l.length=m| .own _ _ _ _ l=>l.length=m|_=>False)->∃A n c,v= .slice A n c/\(m≠0->A.isNone=false):=by
  intro k v hk m hm
  cases k with
  |read r l=>
   obtain⟨A,cap,hv,_,_,h3⟩:=hk;simp only[ZM,and_true]at hv;refine⟨A,_,cap,hv,fun h0=>?_⟩;obtain⟨b,off,es,rfl,_⟩:=h3 0 (by dsimp only at hm;omega);rfl
  |own o s T r l=>
   obtain⟨xs,hx,_⟩:=hk.2.2.2
   rcases hx.2 with⟨rfl,h0⟩|⟨g,o0,cap,cur,rfl,_⟩
   .exact⟨none,0,0,rfl,fun h=>absurd (hm.symm.trans h0) h⟩
   .exact⟨_,_,_,rfl,fun _=>rfl⟩
  |nil=>exact hm.elim
  |view o s r m=>exact hm.elim
  |deep=>exact hm.elim
 unfold Ev at h;split at h
 case h_2=>cases h
 rename_i o t x y u;split at h
 case h_3=>cases h
 all_goals
  obtain⟨hy,h⟩:=ax h;split at h
  case h_2=>cases h
  rename_i e hu;have hu:=T.und_ok _ _ hu;split at h
  case h_2=>cases h
  rename_i X hX;split at h
  case h_3=>cases h
  all_goals
   rename_i eD;obtain⟨rfl,rfl⟩:=Z3 (YA h);obtain⟨A,n',c,hv,hA⟩:=key (eT hs eD (dj _ _ hX)) _ rfl;refine⟨_,fun h0=>?_,yF (by first|exact .inl rfl|exact .inr rfl) hu hv (UJ hy)⟩;rw[hA h0];rfl
theorem bR.qY{st:State}(h:bR G w0 F0 H F w ρ st)(o:Nat):∃H' F',bR G w0 F0 H' F' w ρ (qY st o)/\bA H F w H' F' w:=by
 unfold Go.Proofs.YtbladfbbhijpmaaGreat.qY;split
 .rename_i e he;obtain⟨H',F',hp⟩:=yo h.sat.ob he;have hs:=h.sat.apply (d:=none) hp;exact⟨H',F',⟨hs,h.glob.gz hp.gz h.sat.ob.dG⟩,bA.sX hp.gz h.sat.ob.lt h.sat.ob.de⟩
 .exact⟨H,F,h,bA.refl H F w⟩
theorem bR.po:{os:List Nat}->{st:State}->{H:aj}->{F:Nat->Prop}->bR G w0 F0 H F w ρ st->∃H' F',bR G w0 F0 H' F' w ρ (po st os)/\bA H F w H' F' w
 |[],_,H,F,h=>⟨H,F,h,bA.refl H F w⟩
 |o::os,st,H,F,h=>by
  obtain⟨H1,F1,h1,k1⟩:=h.qY o;obtain⟨H2,F2,h2,k2⟩:=bR.po (os:=os) h1;exact⟨H2,F2,h2,k1.trans k2⟩
theorem bR.kP{st:State}(h:bR G w0 F0 H F w ρ st):∃H' F',bR G w0 F0 H' F' w ρ (kP st)/\bA H F w H' F' w:=by
 unfold Go.Proofs.YtbladfbbhijpmaaGreat.kP;split
 case h_2=>exact⟨H,F,h,bA.refl H F w⟩
 obtain⟨H1,F1,h1,k1⟩:=h.po (os:=st.objs.map (·.1));obtain⟨H2,F2,h2,k2⟩:=h1.po (os:=st.objs.map (·.1));exact⟨H2,F2,h2,k1.trans k2⟩
theorem wy{E:Env P}{dst:Option Nat}{op:Op}{ty:TypeId}{pos:String}{aft:Array Edge}{st:State}{k:State->Option R}{q:R}(h:Ag E dst op st k=some q)(hd:wu nt dst=true)(hh:bR G w0 F0 H F w ρ st)
 (hk:∀cg H' F' w' bT,k cg=some q->bR G w0 F0 H' F' w' bT cg->bA H F w H' F' w'->(∀t,dst≠some t->bT t=ρ t)->wpS P nt ops K rest bT w'):wpS P nt ops K (⟨dst,op,ty,pos,aft,none⟩::rest) ρ w:=by
 unfold Ag at h;split at h
 case h_2=>cases h
 rename_i aA rQ;obtain⟨F1,iX,Pf⟩:=hh.oj rQ;split at h
 .rename_i b m hn;split at h
  case h_2=>cases h
  rename_i d;obtain⟨r,hr,aZ⟩:=Ez E.T (ρ:=ρ) (d:=d) (ty:=ty) (pos:=pos) (aft:=aft) (fun x d hx=>ol iX.sat.ob.gl iX.sat.slot x d hx) iX.sat.ob hn
  have UK:k (State.apply {st with objs:=aA} (some d) {dst:=cJ r})=some q:=by
   split at h
   .cases r with
    |true=>exact Eu h
    |false=>exact Jf h
   .rename_i h0;rw[hr fun e=>h0 (by rw[e];rfl)];exact h
  have wz:bz P (UU G w0) H F1 w ρ (find aA) st.nxt ⟨some d,op,ty,pos,aft,none⟩ {dst:=cJ r}:=aW iX.sat.ob aZ (au.dy ..)
  refine qs wz (fun d' sb=>by rw[sb]at hd;exact hd) fun v w' ⟨H',F',hp⟩=>?_
  have hs:=iX.sat.apply (d:=some d) hp
  refine hk _ H' F' w' _ UK ⟨hs,iX.glob.gz hp.gz iX.sat.ob.dG⟩ (Pf.trans (bA.sX hp.gz iX.sat.ob.lt iX.sat.ob.de)) fun t ht=>?_
  show xw ρ d v t=ρ t
  rw[ko,if_neg (fun e=>ht (by rw[e]))]
 split at h
 .rename_i x NW;split at h
  case h_2=>cases h
  rename_i d;split at h
  case h_2=>cases h
  rename_i X hX
  have rU:op= .next x false:=by
   unfold Ey at NW;split at NW
   .rw[YA NW]
   .cases NW
  subst rU;obtain⟨e,he,wz⟩:=D6 (ρ:=ρ) (d:=d) (ty:=ty) (pos:=pos) (aft:=aft) (P:=P) (U:=UU G w0) h iX.sat.ob (ol iX.sat.ob.gl iX.sat.slot _ _ hX)
  refine qs wz (fun d' sb=>by rw[sb]at hd;exact hd) fun v w' ⟨H',F',hp⟩=>?_
  have hs:=iX.sat.apply (d:=some d) hp
  refine hk _ H' F' w' _ he ⟨hs,iX.glob.gz hp.gz iX.sat.ob.dG⟩ (Pf.trans (bA.sX hp.gz iX.sat.ob.lt iX.sat.ob.de)) fun t ht=>?_
  show xw ρ d v t=ρ t
  rw[ko,if_neg (fun e=>ht (by rw[e]))]
 obtain⟨BU,h'⟩:=ax h;clear h;obtain⟨e,he,wz⟩:=Et (ρ:=ρ) (ty:=ty) (pos:=pos) (aft:=aft) E (fun x d hx=>ol iX.sat.ob.gl iX.sat.slot x d hx) (fun hn c hc=>by subst hn;subst hc;exact BU) h' iX.sat.ob
 refine qs wz (fun d sb=>by rw[sb]at hd;exact hd) fun v w' ⟨H',F',hp⟩=>?_
 have hs:=iX.sat.apply (d:=dst) hp
 refine hk _ H' F' w' _ he ⟨hs,iX.glob.gz hp.gz iX.sat.ob.dG⟩ (Pf.trans (bA.sX hp.gz iX.sat.ob.lt iX.sat.ob.de)) fun t ht=>?_
 cases dst with
 |none=>rfl
 |some d=>
  show xw ρ d v t=ρ t
  rw[ko,if_neg (fun e=>ht (by rw[e]))]
theorem EA{E:Env P}{dst:Option Nat}{op:Op}{ty:TypeId}{pos:String}{aft:Array Edge}{st:State}{k:State->Option R}{q:R}(h:qZ E dst op st k=some q)(hd:wu nt dst=true)(hh:bR G w0 F0 H F w ρ st)
 (hk:∀cg H' F' w' bT,k cg=some q->bR G w0 F0 H' F' w' bT cg->bA H F w H' F' w'->(∀t,dst≠some t->bT t=ρ t)->wpS P nt ops K rest bT w'):wpS P nt ops K (⟨dst,op,ty,pos,aft,none⟩::rest) ρ w:=by
 unfold qZ at h;split at h
 .obtain⟨H1,F1,h1,k1⟩:=hh.kP
  exact wy h hd h1 fun cg H' F' w' bT a b c d=>hk cg H' F' w' bT a b (k1.trans c) d
 .exact wy h hd hh hk
theorem bR.put{st:State}{dst:Option Nat}{d:ag}{v:Value}(h:bR G w0 F0 H F w ρ st)(hd:af H F w d v):bR G w0 F0 H F w (pK ρ dst v) (st.put dst d):=by
 refine⟨⟨fun t q hq=>?_,?_,by cases dst<;>exact h.sat.all⟩,h.glob⟩
 .cases dst with
  |none=>exact h.sat.slot t q hq
  |some s=>
   have pc:find ((s,d)::st.ah) t=some q:=hq;rw[aw]at pc
   show af H F w q (xw ρ s v t)
   rw[ko];by_cases e:s=t
   .rw[if_pos e]at pc;rw[if_pos e.symm];obtain rfl:=YA pc;exact hd
   .rw[if_neg e]at pc;rw[if_neg (Ne.symm e)];exact h.sat.slot t q pc
 .cases dst<;>exact h.sat.ob
theorem bR.lit{st:State}{g:Nat}{d:ag}(h:bR G w0 F0 H F w ρ st)(hd:af H F w d (ρ g)):bR G w0 F0 H F w ρ (st.put (some g) d):=by
 refine⟨⟨fun t q hq=>?_,h.sat.ob,h.sat.all⟩,h.glob⟩;have pc:find ((g,d)::st.ah) t=some q:=hq;rw[aw]at pc;split at pc
 .rename_i e;subst e;obtain rfl:=YA pc;exact hd
 .exact h.sat.slot t q pc
def nS(ρ:Nat->Value)(kn:List (Nat×Bool)):Prop:=∀g b,find kn g=some b->ρ g= .bool b
theorem nS.del{bT:Nat->Value}{dst:Option Nat}{kn:List (Nat×Bool)}(h:nS ρ kn)(Im:∀t,dst≠some t->bT t=ρ t):nS bT (q6 dst kn):=by
 intro g b hg
 cases dst with
 |none=>rw[Im g (by simp)];exact h g b hg
 |some d=>
  obtain⟨h1,h2⟩:=eH.1 hg;rw[Im g (fun e=>h1 (by simp[YA e]))];exact h g b h2
theorem nS.cons{kn:List (Nat×Bool)}{g:Nat}{b:Bool}(h:nS ρ kn)(hb:ρ g= .bool b):nS ρ ((g,b)::kn):=by
 intro g' b' hg;rw[aw]at hg;split at hg
 .rename_i e;subst e;obtain rfl:=YA hg;exact hb
 .exact h g' b' hg
theorem mf{dst:Option Nat}{v:Value}{t:Nat}(h:dst≠some t):pK ρ dst v t=ρ t:=by
 cases dst with
 |none=>rfl
 |some d=>
  show xw ρ d v t=ρ t
  rw[ko,if_neg (fun e=>h (by rw[e]))]
theorem uu{E:Env P}{q:R}:{l:List Oper}->{kn:List (Nat×Bool)}->{st:State}->{k:State->Option R}->{H:aj}->{F:Nat->Prop}->{w:World}->{ρ:Nat->Value}->runs E nt ops l kn st k=some q->nS ρ kn->bR G w0 F0 H F w ρ st->
 (∀cg H' F' w' bT,k cg=some q->bR G w0 F0 H' F' w' bT cg->bA H F w H' F' w'->(∀t,(∀o∈l,o.dst≠some t)->bT t=ρ t)->K bT w')->wpS P nt ops K l ρ w
 |[],kn,st,k,H,F,w,ρ,h,_,hh,hk=>Gr (hk st H F w ρ h hh (bA.refl H F w) fun _ _=>rfl)
 |o::l,kn,st,k,H,F,w,ρ,h,G7,hh,hk=>by
  unfold runs at h;obtain⟨hd,h'⟩:=ax h;clear h
  have Pg:∀d,o.dst=some d->Zl d nt=true:=fun d e=>by rw[e]at hd;exact hd
  have on:∀{st1:State}{Jg:List (Nat×Bool)},qZ E o.dst o.op st1 (fun cg=>runs E nt ops l (q6 o.dst Jg) cg k)=some q->nS ρ Jg->bR G w0 F0 H F w ρ st1->wpS P nt ops K (⟨o.dst,o.op,o.type,o.pos,o.after,none⟩::l) ρ w:=by
   intro st1 Jg hs uv iX
   refine EA hs hd iX fun cg H' F' w' bT e1 e2 e3 e4=>?_
   refine uu e1 (uv.del e4) e2 fun st2 H2 F2 w2 Ph f1 f2 f3 f4=>?_
   exact hk st2 H2 F2 w2 Ph f1 f2 (e3.trans f3) fun t ht=>(f4 t fun o' gm=>ht o' (by simp[gm])).trans (e4 t (ht o (by simp)))
  have off:∀{st1:State}{Jg:List (Nat×Bool)},runs E nt ops l (q6 o.dst Jg) (st1.put o.dst .undef) k=some q->nS ρ Jg->bR G w0 F0 H F w ρ st1->wpS P nt ops K l (pK ρ o.dst undef) w:=by
   intro st1 Jg hs uv iX
   refine uu hs (uv.del fun t ht=>mf ht) (iX.put rfl) fun st2 H2 F2 w2 Ph f1 f2 f3 f4=>?_
   exact hk st2 H2 F2 w2 Ph f1 f2 f3 fun t ht=>(f4 t fun o' gm=>ht o' (by simp[gm])).trans (mf (ht o (by simp)))
  obtain⟨dst,op,ty,pos,aft,guard⟩:=o;simp only at h' on off Pg;split at h'
  .exact on h' G7 hh
  .rename_i j b;split at h'
   case h_1=>cases h'
   rename_i g Io;obtain⟨Ip,h⟩:=ax h';clear h'
   have Pj:ρ g= .bool b->wpS P nt ops K (⟨dst,op,ty,pos,aft,none⟩::l) ρ w->wpS P nt ops K (⟨dst,op,ty,pos,aft,some (j,b)⟩::l) ρ w:=fun hb hw=>IL g Io Ip hb hw
   have Jh:∀b',ρ g= .bool b'->b'≠b->wpS P nt ops K l (pK ρ dst undef) w->wpS P nt ops K (⟨dst,op,ty,pos,aft,some (j,b)⟩::l) ρ w:=fun b' hb b8 hw=>by
    cases dst with
    |none=>exact tL g Io Ip hb b8 hw
    |some d=>exact Gs g Io Ip hb b8 (Pg d rfl) hw
   split at h
   .rename_i v hv;have SG:=G7 g v hv
    cases LB:(bif v then b else !b)with
    |true=>
     rw[LB,cond_true]at h
     have:v=b:=by cases v<;>cases b<;>simp_all
     subst this;exact Pj SG (on h G7 hh)
    |false=>
     rw[LB,cond_false]at h
     have:v≠b:=by intro e;subst e;cases v<;>simp_all
     exact Jh v SG this (off h G7 hh)
   .split at h
    .rename_i hu;have SH:ρ g=undef:=hh.sat.slot _ _ hu
     cases dst with
     |none=>exact rL g Io Ip SH (off h G7 hh)
     |some d=>exact C3 g Io Ip SH (Pg d rfl) (off h G7 hh)
    .rename_i d sb;split at h
     case h_2=>cases h
     rename_i t ht;have hgt:=jG ht (hh.sat.slot _ _ sb);split at h
     .rename_i G8;subst G8;have iX:bR G w0 F0 H F w ρ (st.put (some g) (cJ true)):=hh.lit (by rw[hgt];exact au.dy ..);have uv:=G7.cons hgt
      cases b with
      |true=>rw[cond_true]at h;exact Pj hgt (on h uv iX)
      |false=>rw[cond_false]at h;exact Jh true hgt (by simp) (off h uv iX)
     .rename_i G8
      have G8:t=false:=by cases t<;>simp_all
      subst G8;have iX:bR G w0 F0 H F w ρ (st.put (some g) (cJ false)):=hh.lit (by rw[hgt];exact au.dy ..);have uv:=G7.cons hgt
      cases b with
      |true=>rw[cond_true]at h;exact Jh false hgt (by simp) (off h uv iX)
      |false=>rw[cond_false]at h;exact Pj hgt (on h uv iX)
    .cases h
end
end Go.Proofs.YtbladfbbhijpmaaGreat
end
section
open _root_.Array renaming getElem?_eq_getElem->YU,getElem?_eq_some_iff->Zb
open _root_.Bool renaming cond_eq_ite->YZ
open _root_.List renaming length_append->YV,length_cons->YT,mem_cons->YM,mem_cons_of_mem->Zc,mem_cons_self->Zp,mem_singleton->YJ
open _root_.Nat renaming add_zero->ZD,beq->YE,blt->Zl,testBit_or->Z4,zero_add->Ze
open _root_.Option renaming bind_assoc->Zk,isSome_iff_exists->Zg,none_or->ZW
open _root_.Option.some renaming inj->YA
open _root_.Go.Region renaming binds->aab
namespace Go.Proofs.YtbladfbbhijpmaaGreat
open Go Go.RowKit
section
variable {P:Program} {R:Type} {ob:Nat->Option (Nat×Th)} {n:Nat} (k:cL->Option R)
theorem q7{rd:Operand->Option ag}{fn:Fn}{first caps:Array Operand}:iB rd fn first caps k=(iB rd fn first caps some).bind k:=by
 unfold iB
 repeat' first|rfl|split
theorem uw(T:aI P){m:Nat}{e:TypeId}{D:ag}{i:Int}:lO T m e D i k=(lO T m e D i some).bind k:=by
 unfold lO;simp only[YZ]
 repeat' first|rfl|(rw[Zk];rfl)|split
theorem ux(T:aI P){t:TypeId}{D:ag}{i:Int}:lU T ob t D i k=(lU T ob t D i some).bind k:=by
 unfold lU;simp only[YZ]
 repeat' first|rfl|(rw[Zk];rfl)|split
theorem wA(T:aI P){t:TypeId}{D:ag}{i:Int}:oo T ob t D i k=(oo T ob t D i some).bind k:=by
 unfold oo;simp only[YZ]
 repeat' first|rfl|exact uw k T|(rw[Zk];rfl)|split
theorem yG(T:aI P){t:TypeId}{D:ag}:su T ob t D k=(su T ob t D some).bind k:=by
 unfold su;simp only[YZ]
 repeat' first|rfl|split|(rw[Zk];congr 1;funext x;repeat' first|rfl|split)
theorem wB(T:aI P){t:TypeId}{D V:ag}:oq T ob n t D V k=(oq T ob n t D V some).bind k:=by
 unfold oq;simp only[YZ]
 repeat' first|rfl|split|(rw[Zk];rfl)|(rw[Zk];congr 1;funext x;repeat' first|rfl|split)
theorem wC(T:aI P){t:TypeId}{D:ag}:mS T ob n t D k=(mS T ob n t D some).bind k:=by
 unfold mS;simp only[YZ]
 repeat' first|rfl|split|(rw[Zk];rfl)
theorem wD(T:aI P){t:TypeId}{D:ag}:lb T ob n t D k=(lb T ob n t D some).bind k:=by
 unfold lb;split
 .exact wC k T
 .exact yG k T
theorem uy(T:aI P){t:TypeId}{D V:ag}:lW T ob n t D V k=(lW T ob n t D V some).bind k:=by
 unfold lW;simp only[YZ]
 repeat' first|rfl|split|(rw[Zk];rfl)
theorem uz(T:aI P){t:TypeId}{D V:ag}:lZ T ob n t D V k=(lZ T ob n t D V some).bind k:=by
 unfold lZ;split
 .exact uy k T
 .exact wB k T
theorem rV{e:TypeId}{dr:DR}{ds:List ag}:la e dr ob n ds k=(la e dr ob n ds some).bind k:=by
 unfold la;simp only[YZ]
 repeat' first|rfl|split
theorem wE(T:aI P){t:TypeId}:ot T n t k=(ot T n t some).bind k:=by
 unfold ot
 repeat' first|rfl|split
theorem BV{t:TypeId}{V:ag}:Bm n t V k=(Bm n t V some).bind k:=by
 unfold Bm
 repeat' first|rfl|split
theorem q8(T:aI P){t:TypeId}{s:Bool}{a b:Int}:qy T n t s a b k=(qy T n t s a b some).bind k:=by
 unfold qy
 repeat' first|rfl|split|(rw[Zk];rfl)
theorem wF(T:aI P){b:Bool}{t:TypeId}{s:Bool}{x y:Int}:qM b T n t s x y k=(qM b T n t s x y some).bind k:=by
 unfold qM;split
 .unfold uf
  repeat' first|rfl|exact q8 k T|split|(rw[Zk];rfl)
 .exact q8 k T
theorem uA(T:aI P){t:TypeId}{X Y:ag}:lR T ob n t X Y k=(lR T ob n t X Y some).bind k:=by
 unfold lR;simp only[YZ]
 repeat' first|rfl|split|(rw[Zk];rfl)
theorem oQ(T:aI P){rd:Operand->Option ag}{t:TypeId}{m:Nat}{ps:Array (Nat×Operand)}:fF T rd ob n t m ps k=(fF T rd ob n t m ps some).bind k:=by
 unfold fF;simp only[YZ]
 repeat' first|rfl|split
theorem uB{b:Bool}(T:aI P){rd:Operand->Option ag}{t:TypeId}{m:Nat}{ps:Array (Nat×Operand)}:qa b T rd ob n t m ps k=(qa b T rd ob n t m ps some).bind k:=by
 cases b with
 |false=>exact oQ k T
 |true=>
  show lY T rd ob n t m ps k=(lY T rd ob n t m ps some).bind k
  unfold lY;simp only[YZ]
  repeat' first|rfl|exact rV k|split
theorem wG(T:aI P){rd:Operand->Option ag}{t:TypeId}{ps:Array (Nat×Operand)}:ov T rd t ps k=(ov T rd t ps some).bind k:=by
 unfold ov;simp only[YZ]
 repeat' first|rfl|split
theorem wH(dr:Bool)(T:aI P){rd:Operand->Option ag}{t:TypeId}{D:ag}{lo hi:Option Operand}:ow dr T rd ob n t D lo hi k=(ow dr T rd ob n t D lo hi some).bind k:=by
 unfold ow;simp only[YZ]
 repeat' first|rfl|split|(rw[Zk];rfl)
theorem BW(T:aI P){o:BinOp}{t:TypeId}{lit:Bool}{X Y:ag}:Bu T ob o t lit X Y k=(Bu T ob o t lit X Y some).bind k:=by
 unfold Bu;simp only[YZ]
 repeat' first|rfl|split|(rw[Zk];rfl)
theorem pO(T:aI P){t:TypeId}{M X Y:ag}:gp T ob n t M X Y k=(gp T ob n t M X Y some).bind k:=by
 unfold gp;simp only[YZ]
 repeat' first|rfl|split
theorem rW(T:aI P){t:TypeId}:jL T n t k=(jL T n t some).bind k:=by
 unfold jL
 repeat' first|rfl|split
theorem uC(T:aI P){t:TypeId}{ok:Bool}{M X:ag}:lT T ob t ok M X k=(lT T ob t ok M X some).bind k:=by
 unfold lT;simp only[YZ]
 repeat' first|rfl|split
theorem rX(T:aI P){t:TypeId}{X Y:ag}:jQ T ob n t X Y k=(jQ T ob n t X Y some).bind k:=by
 unfold jQ
 cases D9 ob Y with
 |false=>exact uA k T
 |true=>
  simp only[cond_true];unfold nM;simp only[YZ]
  repeat' first|rfl|split|(rw[Zk];rfl)
theorem oR(T:aI P){t:TypeId}{M X Y:ag}:fG T ob n t M X Y k=(fG T ob n t M X Y some).bind k:=by
 unfold fG;simp only[YZ]
 repeat' first|rfl|exact pO k _|split
theorem q9(b:Bool)(T:aI P){t:TypeId}:iA b T n t k=(iA b T n t some).bind k:=by
 unfold iA;simp only[YZ]
 repeat' first|rfl|exact rW k _|split
theorem rY(T:aI P){t:TypeId}{ok:Bool}{M X:ag}:jP T ob n t ok M X k=(jP T ob n t ok M X some).bind k:=by
 unfold jP;simp only[YZ]
 repeat' first|rfl|exact uC k _|split
theorem wI{sg:bU}{bs:Bs}{aA:List (Nat×(Nat×Th))}{nd:List Nat}{y:cx sg.out.rows}:oO sg n bs aA nd y k=(oO sg n bs aA nd y some).bind k:=by
 unfold oO;simp only[YZ]
 repeat' first|rfl|split
theorem lj{objs:List (Nat×(Nat×Th))}{f:FuncId}{ds:List ag}:{tab:List (Nat×bU)}->kr objs n f ds k tab=(kr objs n f ds some tab).bind k
 |[]=>rfl
 |(g,sg)::tab=>by
  unfold kr;have ih:=lj (objs:=objs) (f:=f) (ds:=ds) (tab:=tab);simp only[YZ]
  repeat' first|rfl|exact ih|split|(rw[Zk];congr 1;funext y;exact wI k)
theorem yH{tab:List (Nat×bU)}{rd:Operand->Option ag}{objs:List (Nat×(Nat×Th))}{g:Operand}{args:List Operand}:sS tab rd objs n g args k=(sS tab rd objs n g args some).bind k:=by
 unfold sS
 repeat' first|rfl|exact lj k|split
theorem uD(T:aI P){tab:List (Nat×bU)}{rd:Operand->Option ag}{objs:List (Nat×(Nat×Th))}{g:Operand}{name:String}{args:List Operand}:me T tab rd objs n g name args k=(me T tab rd objs n g name args some).bind k:=by
 unfold me
 repeat' first|rfl|exact lj k|split
theorem wJ(T:aI P){t:TypeId}{M:ag}:oF T ob n t M k=(oF T ob n t M some).bind k:=by
 unfold oF
 repeat' first|rfl|split
theorem BX(T:aI P){t:TypeId}{D:ag}:BQ T t D k=(BQ T t D some).bind k:=by
 unfold BQ;simp only[YZ]
 repeat' first|rfl|split
theorem uE(T:aI P){t:TypeId}{ok:Bool}{D:ag}:mc T t ok D k=(mc T t ok D some).bind k:=by
 unfold mc;simp only[YZ]
 repeat' first|rfl|split
theorem uF(T:aI P){t:TypeId}{M X:ag}:lS T ob n t M X k=(lS T ob n t M X some).bind k:=by
 unfold lS;simp only[YZ]
 repeat' first|rfl|split
theorem yI(E:Env P){rd:Operand->Option ag}{objs:List (Nat×(Nat×Th))}{c:Callee}{args:Array Operand}{pn:Array TypeId}:jU E rd objs n c args pn k=(jU E rd objs n c args pn some).bind k:=by
 unfold jU;simp only[YZ]
 repeat' first|rfl|exact rX k _|exact uF k _|exact yH k|exact uD k _|split
theorem EB(E:Env P){rd:Operand->Option ag}{objs:List (Nat×(Nat×Th))}{dst:Option Nat}{op:Op}:G4 E rd objs n dst op k=(G4 E rd objs n dst op some).bind k:=by
 unfold G4
 repeat' first|rfl|exact uz k _|exact oR k _|exact q9 k _ _|exact rY k _|exact wJ k _|exact BX k _|exact uE k _|exact yI k _|exact wE k _|exact BV k|exact wG k _|exact uB k _|exact wD k _|exact BW k _|exact wF k _|exact wH k _ _|exact wA k _|exact ux k _|exact q7 k|split
end
def fb{α:Type}(ns:List Nat):List (Nat×α)->List (Nat×α)
 |[]=>[]
 |(m,a)::l=>bif iJ m ns then(m,a)::fb ns l else fb ns l
theorem sY{α:Type}{ns:List Nat}{l:List (Nat×α)}{n:Nat}{a:α}:find (fb ns l) n=some a↔n∈ns/\find l n=some a:=by
 induction l with
 |nil=>simp[fb,find]
 |cons p l ih=>
  obtain⟨m,b⟩:=p;unfold fb
  cases hm:iJ m ns with
  |true=>
   have bH:=cN.1 hm;rw[cond_true,aw,aw];by_cases h:m=n
   .subst h;simp[bH]
   .simp only[if_neg h];exact ih
  |false=>
   have bH:m∉ns:=fun e=>by rw[cN.2 e]at hm;cases hm
   rw[cond_false,ih,aw];constructor
   .rintro⟨h1,h2⟩
    have b8:m≠n:=fun e=>bH (e▸h1)
    exact⟨h1,by rw[if_neg b8];exact h2⟩
   .rintro⟨h1,h2⟩
    have b8:m≠n:=fun e=>bH (e▸h1)
    rw[if_neg b8]at h2;exact⟨h1,h2⟩
def tmpsOf:List Operand->List Nat
 |[]=>[]
 | .tmp t::l=>t::tmpsOf l
 |_::l=>tmpsOf l
def Iq:List (Bool×Tree)->List Nat
 |[]=>[]
 |p::l=>p.2.owns++Iq l
def LR:ag->List Nat
 | .val _ t=>t.owns
 | .ptr o _ _=>[o]
 | .elem o .. =>[o]
 | .dlm o .. =>[o]
 | .tup ds=>Iq ds
 | .fn _ caps=>caps.map (·.1)
 | .ifc _ d=>LR d
 |_=>[]
def Ir(ah:List (Nat×ag)):List Nat->List Nat
 |[]=>[]
 |t::l=>(match find ah t with
  |some d=>LR d
  |none=>[])++Ir ah l
def within(objs:List (Nat×(Nat×Th))):List Nat->List Nat
 |[]=>[]
 |o::l=>(match find objs o with
  |some (_, .box _ t)=>t.owns
  |_=>[])++within objs l
def G9(ah:List (Nat×ag))(objs:List (Nat×(Nat×Th)))(ts:List Nat):List Nat:=
 (fun l=>l++within objs l) (Ir ah ts)
def sZ(aA:List (Nat×(Nat×Th)))(nd:List Nat)(e:cL):cL:=
 {dst:=e.dst,eat:=nd++e.eat,make:=e.make++del e.eat (kO aA nd)}
section
variable {U:Nat->Prop} {H:aj} {F:Nat->Prop} {w:World} {n:Nat}
theorem BY{obj aA:List (Nat×(Nat×Th))}{nd:List Nat}{e:cL}{v:Value}{w':World}{F1:Nat->Prop}(rQ:dz obj nd=some aA)(oC:ak U H F1 w (find aA) n)(xN:∀b,F b->F1 b)(Gg:∀b,F1 b->F b\/bq H (find obj) nd b)
 (h:ie H F1 w (find aA) n e v w'):ie H F w (find obj) n (sZ aA nd e) v w':=by
 obtain⟨H',F',hp⟩:=h
 have ee:∀k,bq H (find aA) e.eat k->bq H (find obj) (nd++e.eat) k:=by
  rintro k ⟨o,ho,s,t,u,h1,h2,h3⟩
  rcases fH rQ o s t h1 with h4|h4
  .exact⟨o,by simp[ho],s,t,u,h4,h2,h3⟩
  .exact(eo h4 h3).elim
 have part:∀o s t,find (e.make++del e.eat (kO aA nd)) o=some (s,t)->find e.make o=some (s,t)\/(o∉e.eat/\o∈nd/\find aA o=some (s,t)/\cR t=true):=by
  intro o s t ho;rw[eG]at ho
  cases hm:find e.make o with
  |some x=>rw[hm]at ho;exact .inl ho
  |none=>
   rw[hm,ZW]at ho;obtain⟨h1,h2⟩:=eH.1 ho;obtain⟨h3,h4,h5⟩:=iK h2;exact .inr ⟨h1,h3,h4,h5⟩
 refine⟨H',F',⟨hp.gz.dU,⟨hp.gz.ext.os,hp.gz.ext.tape,hp.gz.ext.output,hp.gz.ext.size,fun k hk hn=>hp.gz.ext.block k hk fun hh=>hn (ee k hh)⟩,fun b hb=>hp.gz.le b (xN b hb),fun b hb=>?_,hp.gz.lt⟩,hp.fresh,hp.dst,⟨fun o s t ho=>?_,fun o o' s s' t t' v v' b8 ho gm hv cQ k hk ig=>?_⟩,fun o ho=>?_⟩
 .rcases hp.gz.grow b hb with h1|h1|h1
  .rcases Gg b h1 with h2|⟨o,ho,rest⟩
   .exact .inl h2
   .exact .inr (.inr ⟨o,by simp[sZ,ho],rest⟩)
  .exact .inr (.inl h1)
  .exact .inr (.inr (ee b h1))
 .rcases part o s t ho with h1|⟨h1,h2,h3,h4⟩
  .obtain⟨u,a1,a2,a3,a4,a5⟩:=hp.made.obj o s t h1;exact⟨u,a1,a2,a3,a4,fun k hk=>⟨(a5 k hk).1,(a5 k hk).2.1,(a5 k hk).2.2.imp id (ee k)⟩⟩
  .obtain⟨u,hu,bH⟩:=oC.obj _ _ _ h3;have:=bH.gz oC hp.gz h3 h1 hu;exact⟨u,hp.gz.dU.val _ _ hu,this.one,this.con,this.ok,fun k hk=>(eo h4 hk).elim⟩
 .rcases part o s t ho with h1|⟨_,_,_,h4⟩
  .rcases part o' s' t' gm with h2|⟨_,_,_,Pk⟩
   .exact hp.made.apart o o' s s' t t' v v' b8 h1 h2 hv cQ k hk ig
   .exact eo Pk ig
  .exact eo h4 hk
 .obtain⟨x,hx⟩:=Zg.1 ho
  rcases part o x.1 x.2 hx with h1|⟨_,h2,_⟩
  .exact(hp.ids o (by rw[h1];rfl)).imp (fun h=>by simp[sZ,h]) id
  .exact .inl (by simp[sZ,h2])
end
def eA(x y:Nat×Th):Prop:=x=y\/∃T d l h h',x.2= .deep T d l h/\y.2= .deep T d l h'
theorem eA.symm{x y:Nat×Th}(h:eA x y):eA y x:=by
 rcases h with rfl|⟨T,d,l,h,h',h1,h2⟩
 .exact .inl rfl
 .exact .inr ⟨T,d,l,h',h,h2,h1⟩
theorem eA.trans{x y z:Nat×Th}(h:eA x y)(h':eA y z):eA x z:=by
 rcases h with rfl|⟨T,d,l,a,b,h1,h2⟩
 .exact h'
 .rcases h' with rfl|⟨T',d',l',a',b',h3,h4⟩
  .exact .inr ⟨T,d,l,a,b,h1,h2⟩
  .rw[h2]at h3;cases h3;exact .inr ⟨T,d,l,a,b',h1,h4⟩
structure gr where
 dst:Option Nat
 ts:List Nat
 os:List Nat
 e:cL
 ls:List Nat:=[]
 soft:List Nat:=[]
def mC:List (Nat×(Nat×Th))->List Nat
 |[]=>[]
 |(o,_)::l=>o::mC l
def gr.mut(x:gr):List Nat:=x.e.eat++mC x.e.make
def uG:Op->Bool
 | .call c=>match c.callee with
   | .builtin .len=>true
   |_=>false
 |_=>false
def Is(rd:Operand->Option ag):Op->List Nat
 | .load _ x=>match rd x with
   |some (.dlm o _ _ _ _)=>[o]
   |_=>[]
 |_=>[]
def eh(st:State)(op:Op):List Nat:=
 match op with
 | .move _=>[]
 | .assign _=>[]
 |_=>G9 st.ah st.objs (tmpsOf op.operands.toList)
noncomputable def ta{R:Type}{P:Program}(E:Env P)(dst:Option Nat)(op:Op)(gs:List Nat)(st:State)(k:cL->gr->Option R):Option R:=
 match dz (fb (eh st op) st.objs) (mX E (Bd (fb (tmpsOf op.operands.toList) st.ah)) (fb (eh st op) st.objs) op)with
 |some aA=>bif SF dst op then G4 E (Bd (fb (tmpsOf op.operands.toList) st.ah)) aA st.nxt dst op (fun e=>
   (fun e'=>k e' {dst:=dst,ts:=tmpsOf op.operands.toList++gs,os:=bif uG op then[]else eh st op,e:=e',ls:=bif uG op then eh st op else[],soft:=Is (Bd (fb (tmpsOf op.operands.toList) st.ah)) op}) (sZ aA (mX E (Bd (fb (tmpsOf op.operands.toList) st.ah)) (fb (eh st op) st.objs) op) e))else none
 |none=>none
structure It(P:Program)(U:Nat->Prop)(o:Oper)(sl:Nat->Option ag)(ob:Nat->Option (Nat×Th))(n:Nat)(Ai:gr):Prop where
 dst:Ai.dst=o.dst
 run:∃(Pm:Nat->Option ag)(F7:Nat->Option (Nat×Th)),(∀t d,Pm t=some d->t∈Ai.ts/\sl t=some d)/\(∀q x,F7 q=some x->(q∈Ai.os\/q∈Ai.ls)/\ob q=some x)/\
  ∀(H:aj)(F:Nat->Prop)(w:World)(ρ:Nat->Value)(BZ:Nat->Option (Nat×Th)),(∀q x,F7 q=some x->∃x',BZ q=some x'/\eA x x'/\(q∈Ai.os->x'=x))->(∀t d,Pm t=some d->af H F w d (ρ t))->ak U H F w BZ n->
   ∃Pn:Nat->Option (Nat×Th),(∀q x,Pn q=some x->BZ q=some x)/\bl P ρ ⟨o.dst,o.op,o.type,o.pos,o.after,none⟩ w (ie H F w Pn n Ai.e)
 soft:∀q∈Ai.soft,q∈Ai.mut->∃x y,ob q=some x/\find Ai.e.make q=some y/\eA x y
theorem B3{ob DC:Nat->Option (Nat×Th)}{D:ag}{k:DJ}(Ji:∀q x,ob q=some x->∃x',DC q=some x'/\eA x x')(h:pL ob D=some k):∃k',pL DC D=some k'/\nF k'=nF k:=by
 unfold pL at h;split at h
 .cases h;exact⟨_,rfl,rfl⟩
 .cases h;exact⟨_,rfl,rfl⟩
 .rename_i o
  cases ho:ob o with
  |none=>rw[ho]at h;cases h
  |some x=>
   obtain⟨s,t⟩:=x;obtain⟨⟨s',t'⟩,h1,h2⟩:=Ji o _ ho;rw[ho]at h
   rcases h2 with e|⟨T,d,l,a,b,e1,e2⟩
   .cases e;exact⟨k,by show(match DC o with|some (s, .own T r l)=>_|some (_, .oj _ r l)=>_|some (_, .fdeep _ d l)=>_|some (s, .deep T d l h)=>_|_=>_)=_;rw[h1];exact h,rfl⟩
   .simp only at e1 e2;subst e1 e2;cases h;exact⟨.deep o s' T d l b,by show(match DC o with|some (s, .own T r l)=>_|some (_, .oj _ r l)=>_|some (_, .fdeep _ d l)=>_|some (s, .deep T d l h)=>_|_=>_)=_;rw[h1],rfl⟩
 .rename_i o s r m
  have hk:nF k=(m.length:Int):=by
   split at h
   .rename_i s' _ _ _ _
    cases hb:YE s' s<;>rw[hb]at h<;>cases h<;>rfl
   .cases h;rfl
  rw[hk]
  show∃k',(match DC o with|some (s', .oj ..)=>bif YE s' s then some (DJ.read r m)else some (.view o s r m)|_=>some (.view o s r m))=some k'/\nF k'=_
  split
  .rename_i s' _ _ _ _
   cases hb:YE s' s with
   |true=>exact⟨DJ.read r m,rfl,rfl⟩
   |false=>exact⟨DJ.view o s r m,rfl,rfl⟩
  .exact⟨DJ.view o s r m,rfl,rfl⟩
 .cases h
theorem B4{P:Program}(T:aI P){ob DC:Nat->Option (Nat×Th)}{t:TypeId}{D D':ag}(Ji:∀q x,ob q=some x->∃x',DC q=some x'/\eA x x')(h:Bn T ob t D=some D'):Bn T DC t D=some D':=by
 unfold Bn at h⊢;split at h
 .split at h
  case h_2=>cases h
  rename_i k hk;obtain⟨k',h1,h2⟩:=B3 Ji hk;rw[h1];simp only[h2];exact h
 .exact h
 .cases h
theorem B5{P:Program}(T:aI P){ob:Nat->Option (Nat×Th)}{n:Nat}{t:TypeId}{o:Nat}{d:DR}{i:Int}{p:List Bool}{off:Nat}{e:cL}(h:lb T ob n t (.dlm o d i p off) some=some e)(hm:o∈e.eat++mC e.make):
 ∃x y,ob o=some x/\find e.make o=some y/\eA x y:=by
 unfold lb mS at h;simp only at h;split at h
 .cases h
 split at h
 case h_2=>cases h
 rename_i s T0 dr l hh ho;obtain⟨_,h⟩:=ax h;split at h
 .obtain⟨_,h⟩:=ax h;obtain⟨_,_,h⟩:=bind_some h;cases h;simp[mC]at hm
 .obtain⟨_,h⟩:=ax h;split at h
  .obtain⟨_,_,h⟩:=bind_some h;cases h;exact⟨_,(n, .deep T0 dr l _),ho,by rw[aw,if_pos rfl], .inr ⟨T0,dr,l,none,_,rfl,rfl⟩⟩
  .obtain⟨_,h⟩:=ax h;split at h
   .obtain⟨_,_,h⟩:=bind_some h;cases h;simp[mC]at hm
   .cases h
 .cases h
theorem EC{P:Program}{E:Env P}{U:Nat->Prop}{R:Type}{o:Oper}{gs:List Nat}{st:State}{k:cL->gr->Option R}{q:R}(h:ta E o.dst o.op gs st k=some q):
 ∃e Ai,k e Ai=some q/\Ai.e=e/\(∀g∈gs,g∈Ai.ts)/\It P U o (find st.ah) (find st.objs) st.nxt Ai:=by
 unfold ta at h;split at h
 case h_2=>cases h
 rename_i aA rQ;obtain⟨BU,h'⟩:=ax h;clear h;rw[EB]at h';obtain⟨e,he,hk⟩:=bind_some h'
 have Ha:∀t d,find (fb (tmpsOf o.op.operands.toList) st.ah) t=some d->t∈tmpsOf o.op.operands.toList/\find st.ah t=some d:=fun t d ht=>sY.1 ht
 have yJ:∀q x,find (fb (eh st o.op) st.objs) q=some x->q∈eh st o.op/\find st.objs q=some x:=fun q x hx=>sY.1 hx
 refine⟨_,_,hk,rfl,fun g hg=>by simp[hg],rfl,⟨find (fb (tmpsOf o.op.operands.toList) st.ah),find (fb (eh st o.op) st.objs),fun t d ht=>⟨by simp[(Ha t d ht).1],(Ha t d ht).2⟩,fun q x hx=>⟨?_,(yJ q x hx).2⟩,fun H F w ρ BZ Ji eD bJ=>?_⟩,fun q hq hm=>?_⟩
 .cases hl:uG o.op with
  |true=>exact .inr (by simp only[cond_true];exact(yJ q x hx).1)
  |false=>exact .inl (by simp only[cond_false];exact(yJ q x hx).1)
 .cases hl:uG o.op with
  |false=>
   simp only[hl,cond_false]at Ji
   have dQ:∀q x,find (fb (eh st o.op) st.objs) q=some x->BZ q=some x:=fun q x hx=>by
    obtain⟨x',h1,_,h2⟩:=Ji q x hx;rw[h1,h2 (yJ q x hx).1]
   have pM:ak U H F w (find (fb (eh st o.op) st.objs)) st.nxt:=⟨fun o s t ho=>bJ.obj o s t (dQ _ _ ho),fun o o' s s' t t' v v' b8 ho gm=>bJ.apart o o' s s' t t' v v' b8 (dQ _ _ ho) (dQ _ _ gm),bJ.fresh,bJ.lt,bJ.new,bJ.gl⟩
   refine⟨_,dQ,?_⟩;obtain⟨F1,oC,xN,Gg⟩:=jR rQ pM
   have dC:Step F w F1 w:=fun b hb=>⟨xN b hb,rfl⟩
   obtain⟨e',he',hs⟩:=Et (ρ:=ρ) (ty:=o.type) (pos:=o.pos) (aft:=o.after) E (fun x d hx=>ol oC.gl (fun t d ht=>(eD t d ht).keep (aj.le.refl H) dC) x d hx) (fun hn c hc=>by rw[hn,hc]at BU;exact BU) he oC;obtain rfl:=YA he'
   exact hs.mono fun v w' hp=>BY rQ oC xN Gg hp
  |true=>
   refine⟨BZ,fun _ _ h=>h,?_⟩;obtain⟨Jj,Po,UL,Pp,Pq,UM⟩:=o;simp only at*
   cases Po<;>try(cases hl;done)
   rename_i c;obtain⟨callee,args,pn⟩:=c
   cases callee<;>try(cases hl;done)
   rename_i b
   cases b<;>try(cases hl;done)
   cases Jj with
   |none=>cases BU
   |some d=>
    have yh:mX E (Bd (fb (tmpsOf (Op.operands (.call {callee:= .builtin .len,args:=args,argTypes:=pn})).toList) st.ah)) (fb (eh st (.call {callee:= .builtin .len,args:=args,argTypes:=pn})) st.objs) (.call {callee:= .builtin .len,args:=args,argTypes:=pn})=[]:=by unfold mX;cases E.deep<;>rfl
    rw[yh]at rQ⊢;obtain rfl:=YA rQ;have ED:jU E _ _ st.nxt (.builtin .len) args pn some=some e:=he;unfold jU at ED;simp only at ED;split at ED
    case h_2=>cases ED
    rename_i x t ha ht;obtain rfl:=cG ha;obtain rfl:=cG ht;split at ED
    case h_2=>cases ED
    rename_i D hD;split at ED
    case h_2=>cases ED
    rename_i D' Gy;cases ED;have hlen:=B4 E.T (fun q x hx=>by obtain⟨x',h1,h2,_⟩:=Ji q x hx;exact⟨x',h1,h2⟩) Gy;exact zK E.T hlen bJ (ol bJ.gl eD _ _ hD)
 .obtain⟨Jj,Po,UL,Pp,Pq,UM⟩:=o;simp only at*
  cases Po<;>try(cases hq;done)
  rename_i t x;unfold Is at hq;simp only at hq;split at hq
  case h_2=>cases hq
  rename_i o' d0 i p off dj;obtain rfl:=YJ.1 hq
  have yh:mX E (Bd (fb (tmpsOf (Op.operands (.load t x)).toList) st.ah)) (fb (eh st (.load t x)) st.objs) (.load t x)=[]:=by unfold mX;cases E.deep<;>rfl
  rw[yh]at rQ hm⊢;obtain rfl:=YA rQ
  cases Jj with
  |none=>cases he
  |some d=>
   unfold G4 at he;simp only[dj]at he
   have UN:q∈e.eat++mC e.make:=by
    simpa[gr.mut,sZ,kO,del]using hm
   obtain⟨x1,y1,h1,h2,h3⟩:=B5 E.T he UN;refine⟨x1,y1,(yJ _ _ h1).2,?_,h3⟩
   show find (e.make++_) q=_
   rw[eG,h2];rfl
end Go.Proofs.YtbladfbbhijpmaaGreat
namespace Go.Proofs.YtbladfbbhijpmaaGreat
open Go Go.RowKit
def rZ(acc:List Nat)(i:Nat):List Edge->Option Nat
 |[]=>some 0
 |e::l=>match rZ acc i l with
  |some m=>bif aab .any e then(bif Zl e.on i then some (m|||2 ^ e.on|||acc.getD e.on 0)else none)else some m
  |none=>none
def B6(acc:List Nat):List Oper->Option (List Nat)
 |[]=>some acc
 |o::l=>match rZ acc acc.length o.after.toList with
  |some m=>B6 (acc++[m]) l
  |none=>none
def fB(d:Option Nat)(l:List Nat):Bool:=
 match d with
 |some t=>iJ t l
 |none=>false
def wK(l l':List Nat):Bool:=l.any fun o=>iJ o l'
def gr.LS(x:gr):List Nat:=x.mut.filter fun o=> !iJ o x.soft
def conflict(a b:gr):Bool:=
 fB a.dst b.ts||fB b.dst a.ts||fB a.dst (b.dst.toList)||wK a.mut (b.os++b.mut)||wK a.LS b.ls||wK (a.os++a.ls++a.mut) b.mut
def uH(ms:List Nat)(i:Nat)(x:gr):Nat->List gr->Bool
 |_,[]=>true
 |j,y::l=>(bif conflict x y then Nat.testBit (ms.getD j 0) i else true)&&uH ms i x (j+1) l
def qc(ms:List Nat):Nat->List gr->Bool
 |_,[]=>true
 |i,x::l=>uH ms i x (i+1) l&&qc ms (i+1) l
def oS(ops:List Oper)(es:List gr):Bool:=
 match B6 [] ops with
 |some ms=>qc ms 0 es
 |none=>false
section
variable {ops:Array Oper}
def yK(ops:Array Oper)(S:Nat->Prop):Prop:=∀i,S i->∀o,ops[i]? =some o->∀e∈o.after,aab .any e=true->S e.on
theorem uI{acc:List Nat}{i:Nat}:{l:List Edge}->{m:Nat}->rZ acc i l=some m->∀j,m.testBit j=true->∃e∈l,aab .any e=true/\e.on<i/\(e.on=j\/(acc.getD e.on 0).testBit j=true)
 |[],m,h,j,hj=>by
  obtain rfl:=YA h;simp at hj
 |e::l,m,h,j,hj=>by
  unfold rZ at h;split at h
  case h_2=>cases h
  rename_i m0 h0
  cases hb:aab .any e with
  |false=>
   rw[hb,cond_false]at h;obtain rfl:=YA h;obtain⟨e',a1,a2⟩:=uI h0 j hj;exact⟨e',by simp[a1],a2⟩
  |true=>
   rw[hb,cond_true]at h
   cases av:Zl e.on i with
   |false=>rw[av]at h;cases h
   |true=>
    rw[av,cond_true]at h;obtain rfl:=YA h;rw[Z4,Z4,Bool.or_eq_true,Bool.or_eq_true]at hj
    have GL:e.on<i:=by simpa using av
    rcases hj with(hj|hj)|hj
    .obtain⟨e',a1,a2⟩:=uI h0 j hj;exact⟨e',by simp[a1],a2⟩
    .rw[Nat.testBit_two_pow]at hj;exact⟨e,by simp,hb,GL, .inl (of_decide_eq_true hj)⟩
    .exact⟨e,by simp,hb,GL, .inr hj⟩
theorem Aj{acc:List Nat}{i:Nat}:{l:List Edge}->{m:Nat}->rZ acc i l=some m->∀e∈l,aab .any e=true->e.on<i
 |[],m,h,e,he,_=>by cases he
 |e0::l,m,h,e,he,hb=>by
  unfold rZ at h;split at h
  case h_2=>cases h
  rename_i m0 h0
  rcases YM.1 he with rfl|he
  .rw[hb,cond_true]at h
   cases av:Zl e.on i with
   |false=>rw[av]at h;cases h
   |true=>simpa using av
  .exact Aj h0 e he hb
theorem uJ:{l:List Oper}->{acc ms:List Nat}->B6 acc l=some ms->ms.length=acc.length+l.length/\(∀i,i<acc.length->ms.getD i 0=acc.getD i 0)/\
 ∀k o,l[k]? =some o->∃m,rZ ms (acc.length+k) o.after.toList=some m/\ms.getD (acc.length+k) 0=m
 |[],acc,ms,h=>by
  obtain rfl:=YA h;exact⟨by simp,fun _ _=>rfl,fun k o h=>by simp at h⟩
 |o0::l,acc,ms,h=>by
  unfold B6 at h;split at h
  case h_2=>cases h
  rename_i m hm;obtain⟨a1,a2,a3⟩:=uJ h;rw[YV,List.length_singleton]at a1 a2 a3
  have EE:∀i,i<acc.length->ms.getD i 0=acc.getD i 0:=fun i hi=>by
   rw[a2 i (by omega)];simp[List.getD,List.getElem?_append_left hi]
  have Ps:∀(l:List Edge)(m:Nat),rZ acc acc.length l=some m->rZ ms acc.length l=some m:=by
   intro l
   induction l with
   |nil=>intro m h;exact h
   |cons e l ih=>
    intro m h;unfold rZ at h⊢;split at h
    case h_2=>cases h
    rename_i m0 h0;rw[ih m0 h0];simp only
    cases hb:aab .any e with
    |false=>rw[hb]at h;exact h
    |true=>
     rw[hb,cond_true]at h
     cases av:Zl e.on acc.length with
     |false=>rw[av]at h;cases h
     |true=>
      rw[av,cond_true]at h;rw[cond_true,cond_true,EE _ (by simpa using av)];exact h
  refine⟨by rw[a1,YT];omega,EE,fun k o ho=>?_⟩
  cases k with
  |zero=>
   obtain rfl:o0=o:=by simpa using ho
   refine⟨m,Ps _ _ hm,?_⟩;rw[ZD,a2 _ (by omega)];simp[List.getD]
  |succ k=>
   have:=a3 k o (by simpa using ho);rw[show acc.length+1+k=acc.length+(k+1)from by omega]at this;exact this
theorem EF{ms:List Nat}(h:B6 [] ops.toList=some ms){S:Nat->Prop}(hS:yK ops S):∀i o,ops[i]? =some o->(∀e∈o.after,aab .any e=true->S e.on)->∀j,(ms.getD i 0).testBit j=true->S j:=by
 obtain⟨_,_,a3⟩:=uJ h;intro i
 induction i using Nat.strongRecOn with
 |_ i ih=>
  intro o ho hd j hj;obtain⟨m,h1,h2⟩:=a3 i o (by rw[Array.getElem?_toList];exact ho);simp only[List.length_nil,Ze]at h1 h2;rw[h2]at hj;obtain⟨e,he,hb,av,h3⟩:=uI h1 j hj;have SI:=hd e (by simpa using he) hb
  rcases h3 with rfl|h3
  .exact SI
  .have Jk:e.on<ops.size:=by
    have:=(Zb.1 ho).1;omega
   exact ih e.on av _ (YU Jk) (fun e' he' pW=>hS e.on SI _ (YU Jk) e' he' pW) j h3
end
def dB(S:Nat->Bool):Nat->List gr->(Nat->Option ag)->Nat->Option ag
 |_,[],f=>f
 |i,x::l,f=>dB S (i+1) l (fun t=>bif S i&&fB (some t) x.dst.toList then some x.e.dst else f t)
def dl(S:Nat->Bool):Nat->List gr->(Nat->Option (Nat×Th))->Nat->Option (Nat×Th)
 |_,[],f=>f
 |i,x::l,f=>dl S (i+1) l (fun o=>bif S i then(find x.e.make o).or (bif iJ o x.e.eat then none else f o)else f o)
theorem mg{l:List (Nat×(Nat×Th))}{o:Nat}{x:Nat×Th}(h:find l o=some x):o∈mC l:=by
 induction l with
 |nil=>cases h
 |cons p l ih=>
  obtain⟨o',y⟩:=p;rw[aw]at h;split at h
  .rename_i e;subst e;exact Zp
  .exact Zc _ (ih h)
theorem nT{d:Option Nat}{t:Nat}:fB (some t) d.toList=true↔d=some t:=by
 unfold fB;simp only[cN,Option.mem_toList]
theorem gL{S S':Nat->Bool}{t:Nat}:{l:List gr}->{i:Nat}->{f f':Nat->Option ag}->f t=f' t->(∀k x,l[k]? =some x->x.dst=some t->S (i+k)=S' (i+k))->dB S i l f t=dB S' i l f' t
 |[],_,_,_,hf,_=>hf
 |x::l,i,f,f',hf,h=>by
  show dB S (i+1) l _ t=dB S' (i+1) l _ t
  refine gL ?_ fun k y hy hd=>by
   have:=h (k+1) y (by simpa using hy) hd
   rwa [show i+(k+1)=i+1+k from by omega]at this
  by_cases hd:x.dst=some t
  .have:=h 0 x rfl hd;simp only[ZD]at this;rw[this,hf]
  .have:fB (some t) x.dst.toList=false:=by
    cases hb:fB (some t) x.dst.toList with
    |false=>rfl
    |true=>exact absurd (nT.1 hb) hd
   rw[this,Bool.and_false,Bool.and_false,cond_false,cond_false,hf]
theorem gu{S S':Nat->Bool}{o:Nat}:{l:List gr}->{i:Nat}->{f f':Nat->Option (Nat×Th)}->f o=f' o->(∀k x,l[k]? =some x->o∈x.mut->S (i+k)=S' (i+k))->dl S i l f o=dl S' i l f' o
 |[],_,_,_,hf,_=>hf
 |x::l,i,f,f',hf,h=>by
  show dl S (i+1) l _ o=dl S' (i+1) l _ o
  refine gu ?_ fun k y hy hd=>by
   have:=h (k+1) y (by simpa using hy) hd
   rwa [show i+(k+1)=i+1+k from by omega]at this
  by_cases hd:o∈x.mut
  .have:=h 0 x rfl hd;simp only[ZD]at this;rw[this,hf]
  .have h1:find x.e.make o=none:=by
    cases hm:find x.e.make o with
    |none=>rfl
    |some y=>exact absurd (by simp[gr.mut,mg hm]) hd
   have h2:iJ o x.e.eat=false:=by
    cases hb:iJ o x.e.eat with
    |false=>rfl
    |true=>exact absurd (by simp[gr.mut,cN.1 hb]) hd
   rw[h1,h2,ZW,cond_false]
   cases S i<;>cases S' i<;>simp[hf]
theorem ku{S:Nat->Bool}{t:Nat}:{l:List gr}->{i:Nat}->{f:Nat->Option ag}->(∀k x,l[k]? =some x->x.dst=some t->S (i+k)=false)->dB S i l f t=f t
 |[],_,_,_=>rfl
 |x::l,i,f,h=>by
  show dB S (i+1) l _ t=_
  rw[ku fun k y hy hd=>by
   have:=h (k+1) y (by simpa using hy) hd
   rwa [show i+(k+1)=i+1+k from by omega]at this]
  by_cases hd:x.dst=some t
  .have:=h 0 x rfl hd;simp only[ZD]at this;simp[this]
  .have:fB (some t) x.dst.toList=false:=by
    cases hb:fB (some t) x.dst.toList with
    |false=>rfl
    |true=>exact absurd (nT.1 hb) hd
   simp[this]
theorem jV{S:Nat->Bool}{o:Nat}:{l:List gr}->{i:Nat}->{f:Nat->Option (Nat×Th)}->(∀k x,l[k]? =some x->o∈x.mut->S (i+k)=false)->dl S i l f o=f o
 |[],_,_,_=>rfl
 |x::l,i,f,h=>by
  show dl S (i+1) l _ o=_
  rw[jV fun k y hy hd=>by
   have:=h (k+1) y (by simpa using hy) hd
   rwa [show i+(k+1)=i+1+k from by omega]at this]
  by_cases hd:o∈x.mut
  .have:=h 0 x rfl hd;simp only[ZD]at this;simp[this]
  .have h1:find x.e.make o=none:=by
    cases hm:find x.e.make o with
    |none=>rfl
    |some y=>exact absurd (by simp[gr.mut,mg hm]) hd
   have h2:iJ o x.e.eat=false:=by
    cases hb:iJ o x.e.eat with
    |false=>rfl
    |true=>exact absurd (by simp[gr.mut,cN.1 hb]) hd
   simp only[h1,h2,ZW,cond_false]
   cases S i<;>rfl
theorem kw{S:Nat->Bool}{l l':List gr}{i:Nat}{f:Nat->Option ag}:dB S i (l++l') f=dB S (i+l.length) l' (dB S i l f):=by
 induction l generalizing i f with
 |nil=>rfl
 |cons x l ih=>
  show dB S (i+1) (l++l') _=dB S (i+(l.length+1)) l' (dB S (i+1) l _)
  rw[ih,show i+1+l.length=i+(l.length+1)from by omega]
theorem fI{S:Nat->Bool}{l l':List gr}{i:Nat}{f:Nat->Option (Nat×Th)}:dl S i (l++l') f=dl S (i+l.length) l' (dl S i l f):=by
 induction l generalizing i f with
 |nil=>rfl
 |cons x l ih=>
  show dl S (i+1) (l++l') _=dl S (i+(l.length+1)) l' (dl S (i+1) l _)
  rw[ih,show i+1+l.length=i+(l.length+1)from by omega]
end Go.Proofs.YtbladfbbhijpmaaGreat
end
