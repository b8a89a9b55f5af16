/- Joined texts: Grp Pack2 Call Call2 Ifc. -/
import Derived.Test.YtleifhfeahnocaaGreatDoorU2
set_option linter.defProp false
open _root_.Bool renaming false->ag,true->af
open _root_.Option renaming none->ae,some->aa,isSome_iff_exists->ajE
open _root_.Go.Instr renaming findNow->akh,mapUpdate->akN
open _root_.List renaming getElem_append_left->ajM,getElem_append_right->ajU,mem_cons->ajQ,append_nil->ajS
open _root_.Go.MapKept renaming run_checkKey->akr,run_findKey->akw,run_getObj_map->aku
open _root_.Nat renaming beq->ajf,le_refl->ajh,lt_of_lt_of_le->ajA,zero_add->ajL,zero_le->ajB,blt->ajK
open _root_.Option.some renaming inj->aja,injEq->ajj
open _root_.Prod.mk renaming inj->akA
open _root_.Go.Result renaming andThen->ajz
open _root_.Go.Value renaming ownBlock->ajo
open _root_.List.cons renaming injEq->aj3
open _root_.Go.Value.slice renaming injEq->akn
open _root_.Go.Sem renaming run_bind->ajw
namespace Go.Proofs.YtleifhfeahnocaaGreatDoor
open Go Go.RowKit
set_option maxRecDepth 100000
set_option linter.unusedSimpArgs false
set_option linter.unusedVariables false
set_option linter.defProp false
section
open Go Go.RowKit Go.MapKept
noncomputable def yw{α:Type}(K:Row):List (K.den×α)->K.den->α->List (K.den×α)
 |[],_,_=>[]
 |p::l,k,v=>if c9 K p.1 k=af then(p.1,v)::l else p::yw K l k v
def CC{K:Row}{a b:K.den}(h:c9 K a b=af):a=b:=by
 unfold c9 at h
 split at h<;>first|exact an h|cases h
section
variable {P:Program} {ρ:Nat->Value} {w w':World} {H H':aK} {F F':Nat->Prop} {U:Nat->Prop} {ob:Nat->Option (Nat×Th)} {n:Nat} {R:Type}
variable {op:Op} {ty:TypeId} {pos:String} {aft:Array Edge} {d:Nat}
variable {K:Row} {E:TypeId} {r:Row}
def sD.none(A:Nat->Prop):sD (λ_=>False) A A:=⟨λk=>by simp,λ_ h=>h.elim⟩
def sD.mk'{A B:Nat->Prop}(h:∀k,A k->¬B k):sD A B (λk=>A k\/B k):=⟨λ_=>Iff.rfl,h⟩
def r9{dd:TypeDesc}{x:K.den}{kv:Value}(hK:∀x v,p5 K x=aa v->IsKey dd v)(hx:p5 K x=aa kv):{h:Option (K.den×Nat)}->(∀a o,h=aa (a,o)->a=x)->{es:List MapEntry}->{l:List (K.den×List r.den)}->{S:Nat->Prop}->(i:Nat)->gM H F w K E r h es l S->
 (akh dd kv es i=aa ae/\bn K l x=ae/\(∀e∈es,e.key≠kv)/\
   (∀H' F' w' y(e:MapEntry)A,e.key=kv->Step F w F' w'->(∀k,S k->w'.heap[k]? =w.heap[k]?)->sN F' w' E r e.val y A->(∀k,A k->¬S k)->∃S2,gM H' F' w' K E r ae (es++[e]) (fL K l x y) S2/\∀k,S2 k->S k\/A k)/\
   (h=ae->∀H' o,gM H' F w K E r (aa (x,o)) es l S))\/
 ∃j e y0,akh dd kv es i=aa (aa (i+j,e.val))/\es[j]? =aa e/\e.key=kv/\bn K l x=aa y0/\
  (∀H' F' w' y(f:MapEntry->MapEntry)A,(f e).key=kv->Step F w F' w'->(∀k,S k->w'.heap[k]? =w.heap[k]?)->sN F' w' E r (f e).val y A->(∀k,A k->¬S k)->∃S2,gM H' F' w' K E r ae (es.modify j f) (fL K l x y) S2/\∀k,S2 k->S k\/A k)/\
  (h=ae->∃A B,sN F w E r e.val y0 A/\sD A B S/\∀H' o,H'.val o=aa e.val->gM H' F w K E r (aa (x,o)) es l B)
 |h,hh,[],l,S,i,hd=>by
  have BV:l=[]/\∀k,¬S k:=by cases h<;>exact hd
  obtain⟨rfl,hS⟩:=BV;refine .inl ⟨rfl,rfl,by simp,λH' F' w' y e A he hs hb hv hA=>⟨A,⟨x,y,[],A,λ_=>False,rfl,by rw[he];exact hx,hv,⟨rfl,λ_ h=>h⟩,⟨λk=>by simp,λ_ _ h=>h⟩⟩,λk hk=> .inr hk⟩,λ_ H' o=>⟨rfl,hS⟩⟩
 |h,hh,e::es,l,S,i,hd=>by
  have gen:∃k y l' A B,l=(k,y)::l'/\p5 K k=aa e.key/\sD A B S/\((h=ae->sN F w E r e.val y A)/\(c9 K k x=ag->sN F w E r e.val y A/\gM H F w K E r h es l' B)/\(c9 K k x=af->gM H F w K E r ae es l' B)):=by
   cases h with
   |none=>
    obtain⟨k,y,l',A,B,e0,h1,h2,h3,h4⟩:=hd;exact⟨k,y,l',A,B,e0,h1,h4,λ_=>h2,λ_=>⟨h2,h3⟩,λ_=>h3⟩
   |some p=>
    obtain⟨a,o⟩:=p;obtain rfl:=hh a o rfl;obtain⟨k,y,l',A,B,e0,h1,h2,h4⟩:=hd;refine⟨k,y,l',A,B,e0,h1,h4,λe=>(by cases e),λhk=>?_,λhk=>?_⟩
    .rcases h2 with⟨g,_⟩|⟨_,g2,g3⟩
     .rw[hk]at g;cases g
     .exact⟨g2,g3⟩
    .rcases h2 with⟨_,_,_,g⟩|⟨g,_⟩
     .exact g
     .rw[hk]at g;cases g
  obtain⟨k,y,l',A,B,rfl,h1,h4,UN,UO,UP⟩:=gen;obtain⟨q,N9,Oc⟩:=sameNow_of_keys (hK x kv hx) (hK k _ h1);have Ld:=ze h1 hx
  cases q with
  |true=>
   have T4:kv=e.key:=Oc.1 rfl;have hq:c9 K k x=af:=Ld.2 T4.symm;obtain rfl:=CC hq;refine .inr ⟨0,e,y,by simp[akh,N9],rfl,T4.symm,by simp[bn,hq],λH' F' w' y' f A' hf hs hb hv hA=>?_,λhn=>?_⟩
   .have sY:∀j,A' j->¬B j:=λj hj hB=>hA j hj (h4.right j hB)
    refine⟨λj=>A' j\/B j,?_,λj hj=>hj.elim .inr λhB=> .inl (h4.right j hB)⟩
    show gM H' F' w' K E r ae (f e::es) (if c9 K k k=af then(k,y')::l' else(k,y)::fL K l' k y') _
    rw[aj hq];exact⟨k,y',l',A',B,rfl,by rw[hf,h1,T4],hv,(UP hq).keep hs (λ_ _ _ e=>by cases e) λj hj=>hb j (h4.right j hj),sD.mk' sY⟩
   .subst hn;exact⟨A,B,UN rfl,h4,λH' o ho=>⟨k,y,l',λ_=>False,B,rfl,h1, .inl ⟨hq,ho,λ_ h=>h,(UP hq).keep (Step.refl F w) (λ_ _ _ e=>by cases e) λ_ _=>rfl⟩,sD.none B⟩⟩
  |false=>
   have dw:¬e.key=kv:=λq=>by have:=Oc.2 q.symm;cases this
   have hq:c9 K k x=ag:=by
    cases hc:c9 K k x with
    |false=>rfl
    |true=>exact absurd (Ld.1 hc) dw
   obtain⟨eh,UQ⟩:=UO hq
   have yg:¬c9 K k x=af:=by rw[hq];exact λh=>by cases h
   rcases r9 hK hx hh (i+1) UQ with⟨a1,a2,a3,a4,a5⟩|⟨j,e',z,a1,a2,a3,a4,a5,a6⟩
   .refine .inl ⟨by simp[akh,N9,a1],by simp[bn,yg,a2],λe' he'=>?_,λH' F' w' y' e' A' he' hs hb hv hA=>?_,λhn H' o=>?_⟩
    .rcases ajQ.1 he' with rfl|he'
     .exact dw
     .exact a3 e' he'
    .obtain⟨S2,b1,b2⟩:=a4 H' F' w' y' e' A' he' hs (λj hj=>hb j (h4.right j hj)) hv (λj hj hB=>hA j hj (h4.right j hB))
     have sY:∀j,A j->¬S2 j:=λj hj h2=>(b2 j h2).elim (h4.off j hj) λOn=>hA j On (h4.left j hj)
     refine⟨λj=>A j\/S2 j,?_,λj hj=>hj.elim (λh=> .inl (h4.left j h)) λh=>(b2 j h).imp (h4.right j) id⟩
     show gM H' F' w' K E r ae (e::(es++[e'])) (if c9 K k x=af then(k,y')::l' else(k,y)::fL K l' x y') _
     rw[ai yg];exact⟨k,y,_,A,S2,rfl,h1,eh.keep hs λj hj=>hb j (h4.left j hj),b1,sD.mk' sY⟩
    .subst hn;exact⟨k,y,l',A,B,rfl,h1, .inr ⟨hq,eh,a5 rfl H' o⟩,h4⟩
   .refine .inr ⟨j+1,e',z,by simp[akh,N9,a1];omega,by simpa using a2,a3,by simp[bn,yg,a4],λH' F' w' y' f A' hf hs hb hv hA=>?_,λhn=>?_⟩
    .obtain⟨S2,b1,b2⟩:=a5 H' F' w' y' f A' hf hs (λj hj=>hb j (h4.right j hj)) hv (λj hj hB=>hA j hj (h4.right j hB))
     have sY:∀j,A j->¬S2 j:=λj hj h2=>(b2 j h2).elim (h4.off j hj) λOn=>hA j On (h4.left j hj)
     refine⟨λj=>A j\/S2 j,?_,λj hj=>hj.elim (λh=> .inl (h4.left j h)) λh=>(b2 j h).imp (h4.right j) id⟩
     show gM H' F' w' K E r ae (e::es.modify j f) (if c9 K k x=af then(k,y')::l' else(k,y)::fL K l' x y') _
     rw[ai yg];exact⟨k,y,_,A,S2,rfl,h1,eh.keep hs λj hj=>hb j (h4.left j hj),b1,sD.mk' sY⟩
    .subst hn;obtain⟨A2,B2,c1,c2,c3⟩:=a6 rfl
     have sY:∀j,A j->¬B2 j:=λj hj h2=>h4.off j hj (c2.right j h2)
     refine⟨A2,λj=>A j\/B2 j,c1,⟨λj=>?_,λj hj h2=>?_⟩,λH' o ho=>⟨k,y,l',A,B2,rfl,h1, .inr ⟨hq,eh,c3 H' o ho⟩,sD.mk' sY⟩⟩
     .rw[h4.all,c2.all]
      constructor<;>(intro h;rcases h with h|h|h<;>simp[h])
     .exact h2.elim (λh=>h4.off j h (c2.left j hj)) (c2.off j hj)
def wO{a:K.den}{o:Nat}{u:Value}{y:List r.den}{A0:Nat->Prop}(hu:H.val o=aa u)(hy:sN F w E r u y A0):{es:List MapEntry}->{l:List (K.den×List r.den)}->{S:Nat->Prop}->(∀k,A0 k->¬S k)->gM H F w K E r (aa (a,o)) es l S->
 ∃S2,(∀H',gM H' F w K E r ae es (yw K l a y) S2)/\∀k,S2 k->S k\/A0 k
 |[],l,S,_,h=>by
  obtain⟨rfl,hS⟩:=h;exact⟨S,λ_=>⟨rfl,hS⟩,λk hk=> .inl hk⟩
 |e::es,l,S,hA,h=>by
  obtain⟨k,y0,l',A,B,rfl,h1,h2,h4⟩:=h
  rcases h2 with⟨g1,g2,g3,g4⟩|⟨g1,g2,g3⟩
  .rw[hu]at g2;obtain rfl:=aja g2;refine⟨λj=>A0 j\/B j,λH'=>?_,λj hj=>hj.elim .inr λh=> .inl (h4.right j h)⟩
   show gM H' F w K E r ae (e::es) (if c9 K k a=af then(k,y)::l' else(k,y0)::yw K l' a y) _
   rw[aj g1];exact⟨k,y,l',A0,B,rfl,h1,hy,g4.keep (Step.refl F w) (λ_ _ _ e=>by cases e) (λ_ _=>rfl),sD.mk' λj hj hB=>hA j hj (h4.right j hB)⟩
  .obtain⟨S2,b1,b2⟩:=wO hu hy (λj hj hB=>hA j hj (h4.right j hB)) g3
   have sY:∀j,A j->¬S2 j:=λj hj h2=>(b2 j h2).elim (h4.off j hj) λOn=>hA j On (h4.left j hj)
   refine⟨λj=>A j\/S2 j,λH'=>?_,λj hj=>hj.elim (λh=> .inl (h4.left j h)) λh=>(b2 j h).imp (h4.right j) id⟩
   show gM H' F w K E r ae (e::es) (if c9 K k a=af then(k,y)::l' else(k,y0)::yw K l' a y) _
   rw[ai (by rw[g1];exact λh=>by cases h)];exact⟨k,y0,_,A,S2,rfl,h1,g2,b1 H',sD.mk' sY⟩
def CD:{es:List MapEntry}->{l:List (K.den×List r.den)}->{S:Nat->Prop}->gM H F w K E r ae es l S->es.length=l.length/\∀i(h:i<l.length),∃(e:MapEntry)(A:Nat->Prop),es[i]? =aa e/\p5 K l[i].1=aa e.key/\sN F w E r e.val l[i].2 A/\∀k,A k->S k
 |[],l,S,h=>by obtain⟨rfl,_⟩:=h;exact⟨rfl,λi h=>by simp at h⟩
 |e::es,l,S,h=>by
  obtain⟨k,y,l',A,B,rfl,h1,h2,h3,h4⟩:=h;obtain⟨g1,g2⟩:=CD h3;refine⟨by simp[g1],λi hi=>?_⟩
  cases i with
  |zero=>exact⟨e,A,rfl,h1,h2,h4.left⟩
  |succ i=>
   obtain⟨e',A',q1,q2,q3,q4⟩:=g2 i (by simpa using hi);exact⟨e',A',by simpa only[List.getElem?_cons_succ]using q1,q2,q3,λk hk=>h4.right k (q4 k hk)⟩
def wP(hs:aL U H F w ob n){o s:Nat}{t0 t1 t2:Th}(cJ:ob o=aa (s,t0)){v:Value}(hv:H.val o=aa v)(e1:t1.base=t1)(e2:t2.base=t2){u:Value}(l4:u.oneCell'=af){So A:Nat->Prop}
 (f1:∀k,fp So v t1 k->fp (H.sub s) v t0 k)(f2:∀k,fp A u t2 k->fp (H.sub s) v t0 k)(f12:∀k,fp So v t1 k->¬fp A u t2 k)
 (k1:∀H1,H.le H1->H1.val n=aa u->kf H1 F w So v t1)(k2:∀H1,H.le H1->kf H1 F w A u t2){D:aI}{dv:Value}(kd:∀H1,H.le H1->H1.val n=aa u->aH H1 F w D dv):
 ma H F w ob n {dst:=D,eat:=[o],make:=[(o,(n,t1)),(n,(n+1,t2))]} dv w:=by
 obtain⟨v1,vD,cT⟩:=hs.obj _ _ _ cJ;rw[hv]at vD;obtain rfl:=aja vD;obtain⟨g1,g2⟩:=hs.fresh n (ajh _) (by omega);obtain⟨g3,g4⟩:=hs.fresh (n+1) (by omega) (by omega)
 let H1:aK:=⟨λm=>if m=n then aa u else H.val m,λm=>if m=n then aa t1 else if m=n+1 then aa t2 else H.con m,λm=>if m=n then So else if m=n+1 then A else H.sub m⟩
 have hle:H.le H1:=by
  refine⟨λo v ho=>?_,λs t gD=>?_,λs t gD=>?_⟩
  .have:o≠n:=λe=>by rw[e,g1]at ho;cases ho
   simp[H1,this,ho]
  .have a1:s≠n:=λe=>by rw[e,g2]at gD;cases gD
   have a2:s≠n+1:=λe=>by rw[e,g4]at gD;cases gD
   simp[H1,a1,a2,gD]
  .have a1:s≠n:=λe=>by rw[e,g2]at gD;cases gD
   have a2:s≠n+1:=λe=>by rw[e,g4]at gD;cases gD
   simp[H1,a1,a2]
 have AI:H1.val n=aa u:=by simp[H1]
 have mj:∀k,fp (H.sub s) v t0 k->cD H ob [o] k:=λk hk=>⟨o,by simp,s,_,v,cJ,hv,hk⟩
 have sZ:H1.sub n=So:=by simp[H1]
 have T8:H1.sub (n+1)=A:=by simp[H1]
 have two:∀{o' s' t'},find [(o,(n,t1)),(n,(n+1,t2))] o'=aa (s',t')->(o'=o/\s'=n/\t'=t1)\/(o'=n/\s'=n+1/\t'=t2):=by
  intro o' s' t' hf;rw[aZ]at hf;split at hf
  .rename_i e;simp only[ajj,Prod.mk.injEq]at hf;exact .inl ⟨e.symm,hf.1.symm,hf.2.symm⟩
  .obtain⟨e1,e⟩:=ee hf;obtain⟨e2,e3⟩:=akA e;exact .inr ⟨e1,e2,e3⟩
 refine⟨H1,F,⟨hle,⟨rfl,rfl,rfl,ajh _,λ_ _ _=>rfl⟩,λ_ h=>h,λ_ h=> .inl h,hs.lt⟩,λm hm=>?_,kd H1 hle AI,⟨λo' s' t hf=>?_,λo1 o2 s1 s2 q1 q2 u1 u2 dw g1 g2 e1 e2 k hk iU=>?_⟩,λo' jY=>?_⟩
 .have a1:m≠n:=by omega
  have a2:m≠n+1:=by omega
  simp[H1,a1,a2]
 .rcases two hf with⟨rfl,rfl,rfl⟩|⟨rfl,rfl,rfl⟩
  .refine⟨v,hle.val _ _ hv,cT.one,by rw[e1];simp[H1],by rw[sZ];exact k1 H1 hle AI,λk hk=>?_⟩;rw[sZ]at hk;have:=f1 k hk;exact⟨cT.no k this,cT.lt k this, .inr (mj k this)⟩
  .refine⟨u,AI,l4,by rw[e2];simp[H1],by rw[T8];exact k2 H1 hle,λk hk=>?_⟩;rw[T8]at hk;have:=f2 k hk;exact⟨cT.no k this,cT.lt k this, .inr (mj k this)⟩
 .rcases two g1 with⟨rfl,rfl,rfl⟩|⟨rfl,rfl,rfl⟩<;>rcases two g2 with⟨rfl,rfl,rfl⟩|⟨rfl,rfl,rfl⟩
  .exact dw rfl
  .rw[sZ]at hk;rw[T8]at iU;rw[AI]at e2;obtain rfl:=aja e2;rw[hle.val _ _ hv]at e1;obtain rfl:=aja e1;exact f12 k hk iU
  .rw[sZ]at iU;rw[T8]at hk;rw[AI]at e1;obtain rfl:=aja e1;rw[hle.val _ _ hv]at e2;obtain rfl:=aja e2;exact f12 k iU hk
  .exact dw rfl
 .obtain⟨y,hy⟩:=ajE.1 jY
  rcases two (s':=y.1) (t':=y.2) hy with⟨rfl,_⟩|⟨rfl,_⟩
  .exact .inl (by simp)
  .exact .inr (ajh _)
def UR(T:bj P)(t:TypeId):Option (Row×TypeId×Row):=
 match find T.und t with
 |some (.map kt vt)=>match find T.row kt with
  |some K=>match find T.und vt with
   |some (.slice e)=>match find T.row e with
    |some r=>aa (K,e,r)
    |none=>ae
   |_=>ae
  |none=>ae
 |_=>ae
def nD(deep:Bool)(T:bj P)(n:Nat)(t:TypeId)(k:eD->Option R):Option R:=
 match(bif deep then UR T t else ae)with
 |some (K,e,r)=>k {dst:= .val ag (.own n),make:=[(n,(n, .dmap t K e r [] ae))]}
 |none=>oV T n t k
def AP(deep:Bool)(T:bj P){t:TypeId}{k:eD->Option R}{q:R}(h:nD deep T n t k=aa q)(hs:aL U H F w ob n):
 ∃e,k e=aa q/\cO P U H F w ρ ob n ⟨aa d, .makeMap t ae,ty,pos,aft,ae⟩ e:=by
 unfold nD at h;split at h
 case h_2=>exact Cw T h hs
 rename_i K e r _
 have bJ:(execOp (ev ρ) ⟨aa d, .makeMap t ae,ty,pos,aft,ae⟩).run P w= .ok (.value (.map (aa w.heap.size))) (w.alloc (.map #[] 0)):=by
  simp[execOp,Instr.makeMap,ajz]
 refine⟨_,h,cA.val bJ ?_⟩;have hf:=hs.fresh n (ajh _) (by omega)
 let H1:aK:=((H.fK n (is w.heap.size)).bU n (.dmap t K e r [] ae)).cF n (.map (aa w.heap.size))
 have hle:H.le H1:=(aK.vR hf.2).trans (aK.qV (by simpa[aK.bU,aK.fK]using hf.1))
 have hv:H1.val n=aa (.map (aa w.heap.size)):=by simp[H1,aK.cF]
 have iL:H1.sub n=is w.heap.size:=by simp[H1,aK.cF,aK.bU,aK.fK]
 refine⟨H1,F,⟨hle,qX _,λ_ h=>h,λ_ h=> .inl h,λb hb=>by have:=hs.lt b hb;simp;omega⟩,λm hm=>?_,n9 hv rfl,⟨λo' s' q hq=>?_,λo1 o2 s1 s2 q1 q2 u1 u2 dw h1 h2=>?_⟩,λo' h=>?_⟩
 .have:m≠n:=by omega
  simp[H1,aK.cF,aK.bU,aK.fK,this]
 .obtain⟨rfl,e⟩:=ee hq;obtain⟨rfl,rfl⟩:=akA e;refine⟨_,hv,rfl,by simp[H1,aK.cF,aK.bU,aK.fK,Th.base],?_,λk hk=>?_⟩
  .rw[iL];exact⟨_, #[],0,λ_=>False,rfl,(heap_alloc w _).1,stamped_empty 0,⟨rfl,λ_ h=>h⟩,⟨λk=>by simp,λ_ _ h=>h⟩,λ_ _ e=>by cases e⟩
  .rw[iL]at hk;have hk:k=w.heap.size:=hk;subst hk;exact⟨λe=>by have:=hs.lt _ e;omega,by simp, .inl (ajh _)⟩
 .exact absurd ((ee h1).1.trans (ee h2).1.symm) dw
 .right
  obtain⟨y,hy⟩:=ajE.1 h;rw[(ee hy).1];exact ajh _
noncomputable def oX(T:bj P)(ob:Nat->Option (Nat×Th))(n:Nat)(t:TypeId)(ok:Bool)(M X:aI)(k:eD->Option R):Option R:=
 match M with
 | .val ag (.own o)=>match ob o with
   |some (_, .dmap T0 K E r l ae)=>match find T.und t with
    |some (.map kt vt)=>match find T.zer vt with
     |some (ag, .slice _)=>bif wE T kt K&&ok then(match asKey ob K X with
      |some x=>k {dst:= .tup [(ag, .own n),(ag, .leaf .bool (bn K l x).isSome)],eat:=[o],make:=[(o,(n, .dmap T0 K E r l (aa (x,n)))),(n,(n+1, .own E r ((bn K l x).getD [])))]}
      |none=>ae)else ae
     |_=>ae
    |_=>ae
   |_=>pz T ob t ok M X k
 |_=>pz T ob t ok M X k
def CE(T:bj P){t:TypeId}{ok:Bool}{M X:aI}{m x:Operand}{k:eD->Option R}{q:R}(h:oX T ob n t ok M X k=aa q)(hs:aL U H F w ob n)(hm:aH H F w M (ev ρ m))(hx:aH H F w X (ev ρ x)):
 ∃e,k e=aa q/\cO P U H F w ρ ob n ⟨aa d, .lookup t m x ok,ty,pos,aft,ae⟩ e:=by
 unfold oX at h;split at h
 case h_2=>exact wF T h hs hm hx
 rename_i o;split at h
 case h_2=>exact wF T h hs hm hx
 rename_i s T0 K E r l cJ;split at h
 case h_2=>cases h
 rename_i kt vt hu;split at h
 case h_2=>cases h
 rename_i re hz;obtain⟨hc,h'⟩:=be h;clear h;obtain⟨yV,yc⟩:=de hc;subst yc;split at h'
 case h_2=>cases h'
 rename_i a ha;refine⟨_,h',?_⟩;obtain⟨dd,hd,hK,hR⟩:=sT (F:=F) (w:=w) T yV;have ua:=hR _ _ (sU hs ha hx);have T5:=hK _ _ ua;have AB:=T.und_ok _ _ hu
 have wu:(zeroValue vt).run P w= .ok (.slice ae 0 0) w:=by
  obtain⟨z,wu,e⟩:=T.zer_ok _ _ _ hz
  cases hi:P.info? vt with
  |none=>rw[hi]at wu;cases wu
  |some ti=>
   rw[hi]at wu;have YN:ti.zero=aa z:=wu;rw[cond_false]at e;have e':z= .slice ae 0 0:=e;subst e';simp[zeroValue,typeInfo,hi,YN,ajz]
 obtain⟨cs,⟨v,hv,acE,e⟩,_,h3⟩:=hm;rw[h3 rfl]at e
 obtain rfl:ev ρ m=v:=by simpa using e
 obtain⟨v',dZ,cT⟩:=hs.obj _ _ _ cJ;rw[hv]at dZ;obtain rfl:=aja dZ;obtain⟨b,es,clock,B,Kx,hh,gD,IS,oY,_⟩:=cT.ok
 have tup:∀(H1:aK)(u:Value)(q:Bool),H1.val n=aa u->u.oneCell'=af->aH H1 F w (.tup [(ag, .own n),(ag, .leaf .bool q)]) (.tuple #[u, .bool q]):=λH1 u q hu h1=>
  ⟨[u, .bool q],rfl,_,_,rfl,⟨[u],⟨u,hu,h1,rfl⟩,rfl,λ_=>rfl⟩,_,_,rfl,aV.ig ..,rfl⟩
 rcases r9 (H:=H) hK ua (h:=ae) (λ_ _ e=>by cases e) 0 IS with⟨a1,a2,_,_,a5⟩|⟨j,e,y0,a1,_,_,a4,_,a6⟩
 .have bJ:(execOp (ev ρ) ⟨aa d, .lookup t m x af,ty,pos,aft,ae⟩).run P w= .ok (.value (.tuple #[.slice ae 0 0, .bool (bn K l a).isSome])) w:=by
   rw[a2];simp[execOp,Kx,Instr.lookup,run_underlying AB,aku hh,akr hd T5,akw hd a1,wu,ajz]
  refine cA.val bJ ?_;rw[a2]
  refine wP (t1:= .dmap T0 K E r l (aa (a,n))) (t2:= .own E r []) (u:= .slice ae 0 0) (So:=H.sub s) (A:=λ_=>False) hs cJ hv rfl rfl rfl (λk hk=>hk) (λk hk=>?_) (λk hk iU=>?_) (λH1 hle AI=>?_) (λH1 hle=>l5.nil F w E r) λH1 hle AI=>tup H1 _ _ AI rfl
  .have iU:bH (.slice ae 0 0) k:=hk;simp[bH,ajo]at iU
  .have iU:bH (.slice ae 0 0) k:=iU;simp[bH,ajo]at iU
  .exact⟨b,es,clock,B,Kx,hh,gD,a5 rfl H1 n,oY,λa' o' e'=>by cases e';exact⟨_,AI⟩⟩
 .rw[ajL]at a1;obtain⟨A,B2,c1,c2,c3⟩:=a6 rfl
  have bJ:(execOp (ev ρ) ⟨aa d, .lookup t m x af,ty,pos,aft,ae⟩).run P w= .ok (.value (.tuple #[e.val, .bool (bn K l a).isSome])) w:=by
   rw[a4];simp[execOp,Kx,Instr.lookup,run_underlying AB,aku hh,akr hd T5,akw hd a1,ajz]
  refine cA.val bJ ?_;rw[a4]
  have Og:∀k,A k->H.sub s k:=λk hk=>oY.right k (c2.left k hk)
  refine wP (t1:= .dmap T0 K E r l (aa (a,n))) (t2:= .own E r y0) (u:=e.val) (So:=λk=>is b k\/B2 k) (A:=A) hs cJ hv rfl rfl c1.1.one (λk hk=>?_) (λk hk=>?_) (λk hk iU=>?_) (λH1 hle AI=>?_) (λH1 hle=>c1.1) λH1 hle AI=>tup H1 _ _ AI c1.1.one
  .have hk:is b k\/B2 k:=hk
   exact hk.elim (oY.left k) λh=>oY.right k (c2.right k h)
  .exact Og k ((c1.2 k).2 hk)
  .have hk:is b k\/B2 k:=hk;have iU:A k:=(c1.2 k).2 iU;exact hk.elim (λh=>oY.off k h (c2.left k iU)) (c2.off k iU)
  .exact⟨b,es,clock,B2,Kx,hh,gD,c3 H1 n AI,sD.mk' λk h1 h2=>oY.off k h1 (c2.right k h2),λa' o' e'=>by cases e';exact⟨_,AI⟩⟩
noncomputable def Qh(K:Row)(h:Option (K.den×Nat))(x:K.den):Bool:=
 match h with
 |none=>af
 |some p=>c9 K p.1 x
noncomputable def lj(T:bj P)(ob:Nat->Option (Nat×Th))(n:Nat)(t:TypeId)(M X Y:aI)(k:eD->Option R):Option R:=
 match M with
 | .val ag (.own o)=>match ob o with
   |some (_, .dmap T0 K E r l h)=>match find T.und t with
    |some (.map kt _)=>bif wE T kt K then(match asKey ob K X with
     |some x=>if Qh K h x=af then(match Y with
      | .val ag .nil=>k {dst:= .dead,eat:=[o],make:=[(o,(n, .dmap T0 K E r (fL K l x []) ae))]}
      | .val ag (.own o1)=>match ob o1 with
        |some (_,t1)=>bif ajf o1 o then ae else(match Rn E (.leaf r) t1 with
         |some y=>k {dst:= .dead,eat:=[o,o1],make:=[(o,(n, .dmap T0 K E r (fL K l x y) ae))]}
         |none=>ae)
        |none=>ae
      |_=>ae)else ae
     |none=>ae)else ae
    |_=>ae
   |_=>kU T ob n t M X Y k
 |_=>kU T ob n t M X Y k
def wQ(T:bj P){t:TypeId}{m x y:Operand}{o s:Nat}{T0:TypeId}{K:Row}{E:TypeId}{r:Row}{l:List (K.den×List r.den)}{h:Option (K.den×Nat)}{kt vt:TypeId}{a:K.den}{z:List r.den}{A:Nat->Prop}{eat:List Nat}
 (hs:aL U H F w ob n)(cJ:ob o=aa (s, .dmap T0 K E r l h))(hv:H.val o=aa (ev ρ m))(hu:find T.und t=aa (.map kt vt))(hk:wE T kt K=af)(ua:cI F w K [ev ρ x] a)(hh:Qh K h a=af)(hy:sN F w E r (ev ρ y) z A)
 (ho:o∈eat)(hA:∀k,A k->cD H ob eat k)(Og:∀k,A k->¬H.sub s k):
 cO P U H F w ρ ob n ⟨ae, .mapUpdate t m x y,ty,pos,aft,ae⟩ {dst:= .dead,eat:=eat,make:=[(o,(n, .dmap T0 K E r (fL K l a z) ae))]}:=by
 obtain⟨dd,hd,hK,hR⟩:=sT (F:=F) (w:=w) T hk;have hkv:=hR _ _ ua;obtain⟨v',dZ,cT⟩:=hs.obj _ _ _ cJ;rw[hv]at dZ;obtain rfl:=aja dZ;obtain⟨b,es,clock,B,Kx,hb,gD,IS,oY,_⟩:=cT.ok;have hbF:¬F b:=cT.no b (oY.left b rfl);have hbB:¬B b:=oY.off b rfl
 have hbA:¬A b:=λh=>Og b h (oY.left b rfl)
 have Oo:∀k,H.sub s k->cD H ob eat k:=λk hk=>⟨o,ho,s,_,_,cJ,hv,hk⟩
 have hax:∀a' o',h=aa (a',o')->a'=a:=λa' o' e=>by subst e;exact CC hh
 have fin:∀o',(akN t (.map (aa b)) (ev ρ x) (ev ρ y)).run P w= .ok () {w with heap:=w.heap.setIfInBounds b o'}->
  (∀H' w',Step F w F w'->(∀k,B k->w'.heap[k]? =w.heap[k]?)->sN F w' E r (ev ρ y) z A->∃oP oH S2,o'= .map oP oH/\Stamped oP oH/\gM H' F w' K E r ae oP.toList (fL K l a z) S2/\∀k,S2 k->B k\/A k)->
  cO P U H F w ρ ob n ⟨ae, .mapUpdate t m x y,ty,pos,aft,ae⟩ {dst:= .dead,eat:=eat,make:=[(o,(n, .dmap T0 K E r (fL K l a z) ae))]}:=by
  intro o' bJ Rm;refine cA.unit (w':={w with heap:=w.heap.setIfInBounds b o'}) (by simp[execOp,Kx,bJ,ajz]) ?_;have ub:∀k,k≠b->(w.heap.setIfInBounds b o')[k]? =w.heap[k]? :=(heap_set hb).2
  have nh:Step F w F {w with heap:=w.heap.setIfInBounds b o'}:=λk hk=>⟨hk,ub k λe=>hbF (e▸hk)⟩
  have Oh:∀{S:Nat->Prop},¬S b->∀k,S k->({w with heap:=w.heap.setIfInBounds b o'}:World).heap[k]? =w.heap[k]? :=λhn k hk=>ub k λe=>hn (e▸hk)
  obtain⟨oP,oH,S2,rfl,g1,g2,g3⟩:=Rm H {w with heap:=w.heap.setIfInBounds b o'} nh (Oh hbB) (hy.keep nh (Oh hbA))
  have Rq:¬S2 b:=λh=>(g3 b h).elim hbB hbA
  refine mY.AH (t':= .dmap T0 K E r (fL K l a z) ae) hs cJ hv rfl ho (λk=>is b k\/S2 k) (λk hk=>?_) ⟨rfl,rfl,rfl,by simp,λk hk hn=>ub k λe=>hn (by subst e;exact Oo _ (oY.left _ rfl))⟩ ⟨b,oP,oH,S2,Kx,(heap_set hb).1,g1,?_,sD.mk' λk h1 h2=>Rq (by rw[<-show k=b from h1];exact h2),λ_ _ e=>by cases e⟩ trivial
  .have hk:is b k\/S2 k:=hk
   rcases hk with hk|hk
   .exact Oo k (oY.left k hk)
   .exact(g3 k hk).elim (λh=>Oo k (oY.right k h)) (hA k)
  .exact g2.keep (Step.refl F _) (λ_ _ _ e=>by cases e) λ_ _=>rfl
 obtain⟨r1,r2⟩:=oW (val:=ev ρ y) (T.und_ok _ _ hu) hd hb (hK _ _ hkv)
 have hAB:∀k,A k->¬B k:=λk hk hB=>Og k hk (oY.right k hB)
 rcases r9 (H:=H) hK hkv hax 0 IS with⟨a1,a2,a3,a4,_⟩|⟨j,e,z0,a1,a2,a3,a4,a5,_⟩
 .refine fin _ (r1 a1) λH' w' E4 hB hy'=>?_
  obtain⟨S2,b1,b2⟩:=a4 H' F w' z {key:=ev ρ x,val:=ev ρ y,born:=clock} A rfl E4 hB hy' hAB;exact⟨_,_,S2,rfl,stamped_push gD a3,by rw[Array.toList_push];exact b1,b2⟩
 .rw[ajL]at a1
  have hj:es[j]? =aa e:=by simpa using a2
  refine fin _ (r2 j _ a1 (by rw[hj];exact a3)) λH' w' E4 hB hy'=>?_
  obtain⟨S2,b1,b2⟩:=a5 H' F w' z (λe=>{e with key:=ev ρ x,val:=ev ρ y}) A rfl E4 hB hy' hAB;refine⟨_,_,S2,rfl,stamped_modify gD _ _ (λ_ _=>rfl) (λe' _ he'=>?_),by rw[Array.toList_modify];exact b1,b2⟩;rw[hj]at he';cases he';exact a3.symm
def wR(T:bj P){t:TypeId}{M X Y:aI}{m x y:Operand}{k:eD->Option R}{q:R}(h:lj T ob n t M X Y k=aa q)(hs:aL U H F w ob n)(hm:aH H F w M (ev ρ m))(hx:aH H F w X (ev ρ x))(hy:aH H F w Y (ev ρ y)):
 ∃e,k e=aa q/\cO P U H F w ρ ob n ⟨ae, .mapUpdate t m x y,ty,pos,aft,ae⟩ e:=by
 unfold lj at h;split at h
 case h_2=>exact rI T h hs hm hx hy
 rename_i o;split at h
 case h_2=>exact rI T h hs hm hx hy
 rename_i s T0 K E r l hh cJ;split at h
 case h_2=>cases h
 rename_i kt vt hu;obtain⟨hk,h'⟩:=be h;clear h;split at h'
 case h_2=>cases h'
 rename_i a ha;split at h'
 case isFalse=>cases h'
 rename_i uY;obtain⟨cs,⟨v,hv,_,e⟩,_,h3⟩:=hm;rw[h3 rfl]at e
 obtain rfl:ev ρ m=v:=by simpa using e
 have ua:=sU hs ha hx;split at h'
 .refine⟨_,h',wQ (A:=λ_=>False) T hs cJ hv hu hk ua uY ?_ (by simp) (λ_ h=>h.elim) λ_ h=>h.elim⟩;obtain⟨cs,h1,_,h3⟩:=hy;rw[h3 rfl]at h1;have Aw:[ev ρ y]=[Value.slice ae 0 0]:=h1;rw[show ev ρ y= .slice ae 0 0 by simpa using Aw];exact⟨l5.nil F w E r,λk=>by simp[bH,ajo]⟩
 .rename_i o1;split at h'
  case h_2=>cases h'
  rename_i s1 t1 qf
  cases dw:ajf o1 o with
  |true=>rw[dw]at h';cases h'
  |false=>
   rw[dw,cond_false]at h'
   have dw:o≠o1:=λe=>by rw[e]at dw;simp at dw
   split at h'
   case h_2=>cases h'
   rename_i z hD;obtain rfl:=wL hD;obtain⟨cs,⟨u,Et,_,e⟩,_,h3⟩:=hy;rw[h3 rfl]at e
   obtain rfl:ev ρ y=u:=by simpa using e
   obtain⟨u',AB,nL⟩:=hs.obj _ _ _ qf;rw[Et]at AB;obtain rfl:=aja AB;exact⟨_,h',wQ (A:=bH (ev ρ y)) T hs cJ hv hu hk ua uY ⟨nL.ok,λ_=>Iff.rfl⟩ (by simp) (λk hk=>⟨o1,by simp,s1,_,_,qf,Et,hk⟩) λk hk h2=>hs.apart _ _ _ _ _ _ _ _ dw cJ qf hv Et k h2 hk⟩
 .cases h'
noncomputable def LA(ob:Nat->Option (Nat×Th))(n o:Nat):Option eD:=
 match ob o with
 |some (_, .dmap T0 K E r l (aa (a,o1)))=>match ob o1 with
  |some (_,t1)=>bif ajf o1 o then ae else(match Rn E (.leaf r) t1 with
   |some y=>aa {dst:= .dead,eat:=[o,o1],make:=[(o,(n, .dmap T0 K E r (yw K l a y) ae))]}
   |none=>ae)
  |none=>ae
 |_=>ae
def E5(hs:aL U H F w ob n){o:Nat}{e:eD}(h:LA ob n o=aa e):ma H F w ob n e undef w:=by
 unfold LA at h;split at h
 case h_2=>cases h
 rename_i s T0 K E r l a o1 cJ;split at h
 case h_2=>cases h
 rename_i s1 t1 qf
 cases dw:ajf o1 o with
 |true=>rw[dw]at h;cases h
 |false=>
  rw[dw,cond_false]at h
  have dw:o≠o1:=λe=>by rw[e]at dw;simp at dw
  split at h
  case h_2=>cases h
  rename_i y hD;obtain rfl:=aja h;obtain rfl:=wL hD;obtain⟨v,hv,cT⟩:=hs.obj _ _ _ cJ;obtain⟨u,hu,nL⟩:=hs.obj _ _ _ qf;obtain⟨b,es,clock,B,Kx,hh,gD,IS,oY,_⟩:=cT.ok
  have hA:∀k,bH u k->¬H.sub s k:=λk hk h2=>hs.apart _ _ _ _ _ _ _ _ dw cJ qf hv hu k h2 hk
  obtain⟨S2,b1,b2⟩:=wO (A0:=bH u) hu ⟨nL.ok,λ_=>Iff.rfl⟩ (λk hk hB=>hA k hk (oY.right k hB)) IS
  have Rq:¬S2 b:=λh=>(b2 b h).elim (oY.off b rfl) λh=>hA b h (oY.left b rfl)
  refine mY.AH (t':= .dmap T0 K E r (yw K l a y) ae) hs cJ hv rfl (by simp) (λk=>is b k\/S2 k) (λk hk=>?_) ⟨rfl,rfl,rfl,ajh _,λ_ _ _=>rfl⟩ ⟨b,es,clock,S2,Kx,hh,gD,b1 _,sD.mk' λk h1 h2=>Rq (by rw[<-show k=b from h1];exact h2),λ_ _ e=>by cases e⟩ trivial;have hk:is b k\/S2 k:=hk
  have Oo:∀k,H.sub s k->cD H ob [o,o1] k:=λk hk=>⟨o,by simp,s,_,_,cJ,hv,hk⟩
  rcases hk with hk|hk
  .exact Oo k (oY.left k hk)
  .exact(b2 k hk).elim (λh=>Oo k (oY.right k h)) λh=>⟨o1,by simp,s1,_,_,qf,hu,h⟩
noncomputable def LB(ob:Nat->Option (Nat×Th))(n o:Nat):Option eD:=
 match Lz ob n o with
 |some e=>aa e
 |none=>LA ob n o
def E6(hs:aL U H F w ob n){o:Nat}{e:eD}(h:LB ob n o=aa e):ma H F w ob n e undef w:=by
 unfold LB at h;split at h
 .rename_i e' he;cases h;exact IX hs he
 .exact E5 hs h
def DR.ue:(d:DR)->d.low.dI=d.row.dI
 | .leaf _=>rfl
 | .sl _ _=>rfl
 | .pair a b=>by show a.low.dI++b.low.dI=a.row.dI++b.row.dI;rw[a.ue,b.ue]
def LC{α β:Type}{l m out:List α}{lx ly:List β}(h:cu l m=aa out)(h1:lx.length=l.length)(h2:ly.length=m.length):cu lx ly=aa (lx++ly)/\out=l++m:=by
 unfold cu at h⊢;split at h
 case isFalse=>cases h
 rename_i hle;exact⟨by rw[aj (by omega)],(aja h).symm⟩
def u9(T:bj P){t e:TypeId}{r:Row}(hu:find T.und t=aa (.slice e))(hr:find T.row e=aa r){dr:DR}(lZ:dr.row=r){x y:Operand}{l m out:List dr.row.den}{Sx:Nat->Prop}{eat:List Nat}{o2 s2:Nat}
 (hs:aL U H F w ob n)(hx:Ix F w e dr.low (λ_=>lr F w dr) (ev ρ x) l Sx)(YT:∀k,Sx k->¬F k)(hxe:∀k,Sx k->cD H ob eat k)(K6:∀k,Sx k->k<w.heap.size)
 (vE:ob o2=aa (s2, .deep e dr m ae))(sJ:H.val o2=aa (ev ρ y))(Rr:o2∈eat)(sY:∀k,Sx k->¬H.sub s2 k)(ha:cu l m=aa out):
 cO P U H F w ρ ob n ⟨aa d, .call {callee:= .builtin .append,args:= #[x,y],argTypes:= #[t,t]},ty,pos,aft,ae⟩ {dst:= .val ag (.own n),eat:=eat,make:=[(n,(n, .deep e dr out ae))]}:=by
 obtain⟨lx,XR,NL,Ut,hrx,Ky⟩:=hx;obtain⟨ly,Sy,hoy,Yr,hry,Rs⟩:=hs.low vE sJ;obtain⟨v2,Is,Oq⟩:=hs.obj _ _ _ vE;rw[sJ]at Is;obtain rfl:=aja Is;obtain⟨US,rfl⟩:=LC ha Ut Yr;obtain⟨ti,z,h1,h2,h3,h4,h5⟩:=T.row_ok _ _ hr;have ht:=T.und_ok _ _ hu;subst lZ;obtain⟨v',w',bJ,bY,hZ,hm⟩:=wc ty ht h1 h2 (h3.trans dr.ue.symm) (h4.trans dr.size.symm) h5 (base:=0) (l:=lx) ⟨λk hk=>YT k (Ky.bH k hk),NL⟩ hoy.reads US hs.lt (ajB _)
 have gD:Step F w F w':=Step.ext bY hs.lt λk hk=>YT k (Ky.bH k hk)
 have XS:∀k,H.sub s2 k->cD H ob eat k:=λk hk=>⟨o2,Rr,s2,_,_,vE,sJ,hk⟩
 have UT:∀i,i<l.length->∀k,XR i k->w'.heap[k]? =w.heap[k]? :=λi hi k hk=>bY.block k (K6 k (Ky.part hi k hk)) (Ky.out i k hi hk)
 have UW:∀i,i<m.length->∀k,Sy i k->w'.heap[k]? =w.heap[k]? :=λi hi k hk=>bY.block k (Oq.lt k (Rs.part hi k hk)) λCF=>sY k (Ky.bH k CF) (Rs.part hi k hk)
 have hlen:(l++m).length=l.length+m.length:=List.length_append
 have Kx:∀k,bH v' k->(Sx k/\bH (ev ρ x) k)\/k=w.heap.size:=by
  intro k hk
  rcases hm with g|g
  .rw[g]at hk;exact .inl ⟨Ky.bH k hk,hk⟩
  .rw[g]at hk;exact .inr hk.symm
 let SS:Nat->Nat->Prop:=λi=>if i<l.length then XR i else Sy (i-l.length)
 have T9:∀i k,i<l.length->SS i k->XR i k:=λi k hi hk=>by simpa only[SS,aj hi]using hk
 have Ua:∀i k,¬i<l.length->SS i k->Sy (i-l.length) k:=λi k hi hk=>by simpa only[SS,ai hi]using hk
 have hSS:∀i k,i<(l++m).length->SS i k->Sx k\/H.sub s2 k:=by
  intro i k hi hk;by_cases aG:i<l.length
  .exact .inl (Ky.part aG k (T9 i k aG hk))
  .exact .inr (Rs.part (by omega) k (Ua i k aG hk))
 have l4:v'.oneCell'=af:=l5.one (T:=e) (r:=dr.low) hZ.2;refine cA.val (v:=v') (w':=w') (by simp[execOp,resolve,invoke,builtin,bJ]) (mY.Rp (t:= .deep e dr (l++m) ae) (S:=rZ (bH v') SS (l++m).length) hs rfl l4 ⟨bY.os,bY.tape,bY.output,bY.size,λk hk hn=>bY.block k hk λQ7=>hn (hxe k (Ky.bH k Q7))⟩ ?_ (λk hk=>?_) (n9 (o:=n) (v:=v') (by simp[aK.cF]) l4))
 .refine⟨lx++ly,SS,hZ.2,by simp[Ut,Yr],λi a b=>?_,⟨λk=>Iff.rfl,λi j k hi hj dw hk iU=>?_,λi k hi hk Q7=>?_⟩⟩
  .show lr F w' dr (lx++ly)[i] (l++m)[i] (SS i)
   by_cases aG:i<l.length
   .have e1:(lx++ly)[i]=lx[i]'(by omega):=ajM (by omega);have e2:(l++m)[i]=l[i]:=ajM aG
    have e3:SS i=XR i:=by simp only[SS,aj aG]
    rw[e1,e2,e3];exact lr.keep gD (hrx i (by omega) aG) (UT i aG)
   .have e1:(lx++ly)[i]=ly[i-l.length]'(by simp at a;omega):=by rw[ajU (by omega)];simp only[Ut]
    have e2:(l++m)[i]=m[i-l.length]'(by omega):=ajU (by omega)
    have e3:SS i=Sy (i-l.length):=by simp only[SS,ai aG]
    rw[e1,e2,e3];exact lr.keep gD (hry (i-l.length) _ (by omega)) (UW _ (by omega))
  .by_cases h1:i<l.length<;>by_cases h2:j<l.length
   .exact Ky.two i j k h1 h2 dw (T9 i k h1 hk) (T9 j k h2 iU)
   .exact sY k (Ky.part h1 k (T9 i k h1 hk)) (Rs.part (by omega) k (Ua j k h2 iU))
   .exact sY k (Ky.part h2 k (T9 j k h2 iU)) (Rs.part (by omega) k (Ua i k h1 hk))
   .exact Rs.two (i-l.length) (j-l.length) k (by omega) (by omega) (by omega) (Ua i k h1 hk) (Ua j k h2 iU)
  .rcases Kx k Q7 with⟨g1,g2⟩|g
   .by_cases h1:i<l.length
    .exact Ky.out i k h1 (T9 i k h1 hk) g2
    .exact sY k g1 (Rs.part (by omega) k (Ua i k h1 hk))
   .rcases hSS i k hi hk with h1|h1
    .have:=K6 k h1;omega
    .have:=Oq.lt k h1;omega
 .have hk:rZ (bH v') SS (l++m).length k:=hk
  have fin:Sx k\/H.sub s2 k->¬F k/\k<w'.heap.size/\(w.heap.size<=k\/cD H ob eat k):=by
   rintro(h1|h1)
   .exact⟨YT k h1,ajA (K6 k h1) bY.size, .inr (hxe k h1)⟩
   .exact⟨Oq.no k h1,ajA (Oq.lt k h1) bY.size, .inr (XS k h1)⟩
  rcases hk with hk|⟨i,hi,hk⟩
  .rcases Kx k hk with⟨g,_⟩|g
   .exact fin (.inl g)
   .exact⟨λe=>by have:=hs.lt k e;omega,hZ.lt k hk, .inl (by omega)⟩
  .exact fin (hSS i k hi hk)
def s6(T:bj P)(ob:Nat->Option (Nat×Th))(n:Nat)(t:TypeId)(X Y:aI)(k:eD->Option R):Option R:=
 match find T.und t with
 |some (.slice e)=>match find T.row e with
  |some r=>match Y with
   | .val ag (.own o2)=>match ob o2 with
     |some (_, .deep T2 d2 m ae)=>bif ajf T2 e&&d2.row.beq r then(match X with
      | .val ag .nil=>(cu ([]:List d2.row.den) m).bind λl=>k {dst:= .val ag (.own n),eat:=[o2],make:=[(n,(n, .deep e d2 l ae))]}
      | .val ag (.own o1)=>match ob o1 with
        |some (_, .deep T1 d1 l0 ae)=>bif ajf o1 o2 then ae else bif ajf T1 e then(if h:d1.beq d2=af then(cu (DR.eq_of_beq h▸l0) m).bind λl=>k {dst:= .val ag (.own n),eat:=[o1,o2],make:=[(n,(n, .deep e d2 l ae))]}else ae)else ae
        |_=>ae
      |_=>ae)else ae
     |_=>ae
   |_=>ae
  |none=>ae
 |_=>ae
def CG(T:bj P){t:TypeId}{X Y:aI}{x y:Operand}{k:eD->Option R}{q:R}(h:s6 T ob n t X Y k=aa q)(hs:aL U H F w ob n)(hx:aH H F w X (ev ρ x))(hy:aH H F w Y (ev ρ y)):
 ∃e,k e=aa q/\cO P U H F w ρ ob n ⟨aa d, .call {callee:= .builtin .append,args:= #[x,y],argTypes:= #[t,t]},ty,pos,aft,ae⟩ e:=by
 unfold s6 at h;split at h
 case h_2=>cases h
 rename_i e hu;split at h
 case h_2=>cases h
 rename_i r hr;split at h
 case h_2=>cases h
 rename_i o2;split at h
 case h_2=>cases h
 rename_i s2 T2 d2 m vE;obtain⟨hc,h'⟩:=be h;clear h;obtain⟨yV,yc⟩:=de hc;obtain rfl:=beq_true yV;have lZ:=Row.eq_of_beq yc;obtain⟨cs,⟨u,N3,_,e2⟩,_,h3⟩:=hy;rw[h3 rfl]at e2
 obtain rfl:ev ρ y=u:=by simpa using e2
 split at h'
 .obtain⟨l,hl,hk⟩:=bind_some h';refine⟨_,hk,u9 (Sx:=λ_=>False) T hu hr lZ hs ?_ (λ_ h=>h.elim) (λ_ h=>h.elim) (λ_ h=>h.elim) vE N3 (by simp) (λ_ h=>h.elim) hl⟩;obtain⟨cs,h1,_,h4⟩:=hx;rw[h4 rfl]at h1;have Aw:[ev ρ x]=[Value.slice ae 0 0]:=h1;rw[show ev ρ x= .slice ae 0 0 by simpa using Aw];exact⟨[],λ_ _=>False,l5.nil F w T2 d2.low,rfl,λi h=>absurd h (by simp),⟨λk=>by simp[bH,ajo],λ_ _ _ h=>absurd h (by simp),λ_ _ h=>absurd h (by simp)⟩⟩
 .rename_i o1;split at h'
  case h_2=>cases h'
  rename_i s1 T1 d1 l0 qf
  cases dw:ajf o1 o2 with
  |true=>rw[dw]at h';cases h'
  |false=>
   rw[dw,cond_false]at h'
   have dw:o1≠o2:=λe=>by rw[e]at dw;simp at dw
   obtain⟨hT,h⟩:=be h';clear h';obtain rfl:=beq_true hT;split at h
   case isFalse=>cases h
   rename_i hb;obtain rfl:=DR.eq_of_beq hb;obtain⟨l,hl,hk⟩:=bind_some h;obtain⟨cs,⟨v,vD,_,e1⟩,_,h4⟩:=hx;rw[h4 rfl]at e1
   obtain rfl:ev ρ x=v:=by simpa using e1
   obtain⟨v',dZ,nL⟩:=hs.obj _ _ _ qf;rw[vD]at dZ;obtain rfl:=aja dZ;exact⟨_,hk,u9 (Sx:=H.sub s1) T hu hr lZ hs nL.ok nL.no (λk hk=>⟨o1,by simp,s1,_,_,qf,vD,hk⟩) nL.lt vE N3 (by simp) (λk hk=>hs.apart _ _ _ _ _ _ _ _ dw qf vE vD N3 k hk) hl⟩
 .cases h'
def LD(ob:Nat->Option (Nat×Th)):aI->Bool
 | .val ag (.own o)=>match ob o with
   |some (_, .deep ..)=>af
   |_=>ag
 |_=>ag
def oZ(T:bj P)(ob:Nat->Option (Nat×Th))(n:Nat)(t:TypeId)(X Y:aI)(k:eD->Option R):Option R:=
 bif LD ob Y then s6 T ob n t X Y k else qY T ob n t X Y k
def CH(T:bj P){t:TypeId}{X Y:aI}{x y:Operand}{k:eD->Option R}{q:R}(h:oZ T ob n t X Y k=aa q)(hs:aL U H F w ob n)(hx:aH H F w X (ev ρ x))(hy:aH H F w Y (ev ρ y)):
 ∃e,k e=aa q/\cO P U H F w ρ ob n ⟨aa d, .call {callee:= .builtin .append,args:= #[x,y],argTypes:= #[t,t]},ty,pos,aft,ae⟩ e:=by
 unfold oZ at h
 cases hb:LD ob Y with
 |true=>rw[hb,cond_true]at h;exact CG T h hs hx hy
 |false=>rw[hb,cond_false]at h;exact ER T h hs hx hy
end
end
end Go.Proofs.YtleifhfeahnocaaGreatDoor
section
open _root_.Bool renaming false->ag,true->af
open _root_.Option renaming none->ae,some->aa
open _root_.List renaming length_cons->ajp
open _root_.Nat renaming beq->ajf,blt->ajK,le_refl->ajh
open _root_.Option.some renaming inj->aja,injEq->ajj
open _root_.Go.Value renaming ownBlock->ajo
namespace Go.Proofs.YtleifhfeahnocaaGreatDoor
open Go Go.RowKit
def fy(objs:List (Nat×(Nat×Th))):List Nat->Option (List (Nat×(Nat×Th)))
 |[]=>aa objs
 |o::os=>match find objs o with
  |some (s, .own T r l)=>fy ((o,(s, .vB T r l))::del [o] objs) os
  |some (s, .map T K agg V l)=>fy ((o,(s, .fmap T K agg V l))::del [o] objs) os
  |some (s, .deep T d l ae)=>fy ((o,(s, .fdeep T d l))::del [o] objs) os
  |some (s, .dmap T K E r l ae)=>fy ((o,(s, .fdmap T K E r l))::del [o] objs) os
  |some (_, .vB ..)=>fy objs os
  |some (_, .fmap ..)=>fy objs os
  |some (_, .fdeep ..)=>fy objs os
  |some (_, .fdmap ..)=>fy objs os
  |_=>ae
def fE:Th->Bool
 | .vB .. =>af
 | .fmap .. =>af
 | .fdeep .. =>af
 | .fdmap .. =>af
 |_=>ag
structure Ub(t t':Th):Prop where
 froz:fE t'=af
 base:t'.base=t.base
 fp:∀S v k,¬fp S v t' k
 ok:∀{H:aK}{F:Nat->Prop}{w:World}{S:Nat->Prop}{v:Value},(∀k,Go.Proofs.YtleifhfeahnocaaGreatDoor.fp S v t k->¬F k)->kf H F w S v t->kf H (λb=>F b\/Go.Proofs.YtleifhfeahnocaaGreatDoor.fp S v t b) w S v t'
structure cU(H:aK)(F:Nat->Prop)(w:World)(H':aK)(F':Nat->Prop)(w':World):Prop where
 kr:H.le H'
 step:Step F w F' w'
def cU.refl(H:aK)(F:Nat->Prop)(w:World):cU H F w H F w:=⟨aK.le.refl H,Step.refl F w⟩
def cU.trans{H H' yp:aK}{F F' LF:Nat->Prop}{w w' BX:World}(h:cU H F w H' F' w')(k:cU H' F' w' yp LF BX):cU H F w yp LF BX:=⟨h.kr.trans k.kr,h.step.trans k.step⟩
structure LG(G:Nat->Prop)(w0:World)(F0:Nat->Prop)(w:World)(F:Nat->Prop):Prop where
 ext:Ext G w0 w
 le:∀b,F0 b->F b
 new:∀b,F b->F0 b\/w0.heap.size<=b\/G b
section
variable {U:Nat->Prop} {H:aK} {F:Nat->Prop} {w:World} {n:Nat}
def Ot(T:TypeId)(r:Row)(l:List r.den):Ub (.own T r l) (.vB T r l) where
 froz:=rfl
 base:=rfl
 fp _ _ _ h:=h
 ok hn h:=Own.freeze (base:=0) (T:=T) (l:=l) ⟨hn,h⟩
def Ou(T:TypeId)(K:Row)(agg:Bool)(V:Row)(l:List (K.den×V.den)):Ub (.map T K agg V l) (.fmap T K agg V l) where
 froz:=rfl
 base:=rfl
 fp _ _ _ h:=h
 ok {H F w S v} _ h:=by
  obtain⟨b,es,clock,h1,h2,h3,h4⟩:=h;obtain⟨g1,g2⟩:=GY h4;refine⟨v,rfl, .inr ⟨b,es,clock,h1, .inr h1,h2,h3,by simpa using g1,λi hi=>?_⟩⟩;obtain⟨e,cs,q1,q2,q3,q4,q5⟩:=g2 i hi;exact⟨e,cs,by simpa using q1,q2,q3.step (Step.freeze F w _),q4,q5⟩
def l5.lZ{F:Nat->Prop}{w:World}{T:TypeId}{r:Row}{v:Value}{l:List r.den}(h:l5 F w T r v l):cI F w .lZ [v] v:=by
 obtain⟨xs,⟨_,h⟩,_⟩:=h
 rcases h with⟨rfl,_⟩|⟨gg,o0,cap,cur,rfl,_⟩<;>exact⟨rfl,_,_,_,rfl⟩
def LH(T:TypeId)(d:DR)(l:List d.row.den):Ub (.deep T d l ae) (.fdeep T d l) where
 froz:=rfl
 base:=rfl
 fp _ _ _ h:=h
 ok {H F w S v} hn h:=by
  have h':lr F w (.sl T d) v l S:=h;obtain⟨lh,Ss,h1,_⟩:=h;exact lr.freeze h' hn h1.lZ
def LI(T:TypeId)(K:Row)(E:TypeId)(r:Row)(l:List (K.den×List r.den)):Ub (.dmap T K E r l ae) (.fdmap T K E r l) where
 froz:=rfl
 base:=rfl
 fp _ _ _ h:=h
 ok {H F w S v} hn h:=by
  obtain⟨b,es,clock,B,h1,h2,h3,h4,h5,_⟩:=h;obtain⟨g1,g2⟩:=CD h4;refine⟨v,rfl, .inr ⟨b,es,clock,h1, .inr (h5.left b rfl),h2,h3,by simpa using g1,λi hi=>?_⟩⟩;obtain⟨e,A,q1,q2,q3,q4⟩:=g2 i hi
  have Og:∀k,A k->S k:=λk hk=>h5.right k (q4 k hk)
  have hf:=Own.freeze (base:=0) (T:=E) (l:=l[i].2) ⟨λk hk=>hn k (Og k ((q3.2 k).2 hk)),q3.1⟩;exact⟨e,[e.val],by simpa using q1,q2,hf.step (r:= .slice r) λk hk=>⟨hk.imp id λh=>Og k ((q3.2 k).2 h),rfl⟩,rfl,λ_=>rfl⟩
def Ov{objs:List (Nat×(Nat×Th))}{o s:Nat}{t0 t1:Th}(hf:Ub t0 t1)(hs:aL U H F w (find objs) n)(ho:find objs o=aa (s,t0)):
 ∃F',aL U H F' w (find ((o,(s,t1))::del [o] objs)) n/\(∀b,F b->F' b)/\(∀b,F' b->F b\/∃v,H.val o=aa v/\fp (H.sub s) v t0 b):=by
 obtain⟨v,hv,cT⟩:=hs.obj _ _ _ ho;refine⟨λb=>F b\/fp (H.sub s) v t0 b,?_,λ_ h=> .inl h,(by grind)⟩
 have part:∀o' s' t',find ((o,(s,t1))::del [o] objs) o'=aa (s',t')->(o'=o/\s'=s/\t'=t1)\/(o'≠o/\find objs o'=aa (s',t')):=by
  intro o' s' t' h;rw[aZ]at h;split at h
  .grind
  .grind [jq]
 have fz:Step F w (λb=>F b\/fp (H.sub s) v t0 b) w:=Step.freeze F w _;refine⟨λo' s' t' h=>?_,λo1 o2 s1 s2 t1' t2 v1 v2 dw h1 h2 e1 e2 k hk iU=>?_,hs.fresh,λb hb=>hb.elim (hs.lt b) (cT.lt b),hs.new,hs.gl.step fz⟩
 .rcases part o' s' t' h with⟨rfl,rfl,rfl⟩|⟨dw,h'⟩
  .exact⟨v,hv,cT.one,by rw[hf.base];exact cT.con,hf.ok cT.no cT.ok,λk hk=>(hf.fp _ _ _ hk).elim,λk hk=>(hf.fp _ _ _ hk).elim,λk hk=>(hf.fp _ _ _ hk).elim⟩
  .obtain⟨v',dZ,CI⟩:=hs.obj _ _ _ h';refine⟨v',dZ,CI.one,CI.con,CI.ok.heap (aK.le.refl H) fz λ_ _=>rfl,λk hk hF=>?_,CI.lt,CI.use⟩
   rcases hF with hF|hF
   .exact CI.no k hk hF
   .exact hs.apart _ _ _ _ _ _ _ _ dw h' ho dZ hv k hk hF
 .rcases part o1 s1 t1' h1 with⟨rfl,rfl,rfl⟩|⟨aev,Aw⟩
  .exact hf.fp _ _ _ hk
  .rcases part o2 s2 t2 h2 with⟨rfl,rfl,rfl⟩|⟨aew,Kr⟩
   .exact hf.fp _ _ _ iU
   .exact hs.apart _ _ _ _ _ _ _ _ dw Aw Kr e1 e2 k hk iU
def o3:{os:List Nat}->{F:Nat->Prop}->{objs oa:List (Nat×(Nat×Th))}->fy objs os=aa oa->aL U H F w (find objs) n->
 ∃F',aL U H F' w (find oa) n/\(∀b,F b->F' b)/\(∀b,F' b->F b\/cD H (find objs) os b)
 |[],F,objs,oa,h,hs=>by obtain rfl:=aja h;grind
 |o::os,F,objs,oa,h,hs=>by
  have main:∀s t t',Ub t t'->find objs o=aa (s,t)->fy ((o,(s,t'))::del [o] objs) os=aa oa->
   ∃F',aL U H F' w (find oa) n/\(∀b,F b->F' b)/\(∀b,F' b->F b\/cD H (find objs) (o::os) b):=by
   intro s t t' hf ho h;obtain⟨F1,a1,a2,a3⟩:=Ov hf hs ho;obtain⟨F2,b1,b2,b3⟩:=o3 h a1;refine⟨F2,b1,λb hb=>b2 b (a2 b hb),λb hb=>?_⟩
   rcases b3 b hb with h1|⟨o',jY,s',t',v,h1,h2,h3⟩
   .rcases a3 b h1 with h2|⟨v,hv,hm⟩
    .exact .inl h2
    .exact .inr ⟨o,by simp,s,_,v,ho,hv,hm⟩
   .rw[aZ]at h1;split at h1
    .simp only[ajj,Prod.mk.injEq]at h1;rw[<-h1.2]at h3;exact(hf.fp _ _ _ h3).elim
    .exact .inr ⟨o',by simp[jY],s',t',v,(jq.1 h1).2,h2,h3⟩
  have same:fy objs os=aa oa->∃F',aL U H F' w (find oa) n/\(∀b,F b->F' b)/\(∀b,F' b->F b\/cD H (find objs) (o::os) b):=by
   intro h;obtain⟨F2,b1,b2,b3⟩:=o3 h hs;exact⟨F2,b1,b2,λb hb=>(b3 b hb).imp id λ⟨o',jY,rest⟩=>⟨o',by simp[jY],rest⟩⟩
  unfold fy at h;split at h
  .rename_i ho;exact main _ _ _ (Ot ..) ho h
  .rename_i ho;exact main _ _ _ (Ou ..) ho h
  .rename_i ho;exact main _ _ _ (LH ..) ho h
  .rename_i ho;exact main _ _ _ (LI ..) ho h
  .exact same h
  .exact same h
  .exact same h
  .exact same h
  .cases h
end
theorem iQ{S:Nat->Prop}{v:Value}{t:Th}{k:Nat}(h:fE t=af)(hk:fp S v t k):False:=by
 cases t<;>first|(exact hk)|(cases h)
def jv:{os:List Nat}->{objs oa:List (Nat×(Nat×Th))}->fy objs os=aa oa->∀o s t,find oa o=aa (s,t)->
 find objs o=aa (s,t)\/fE t=af
 |[],objs,oa,h,o,s,t,ho=>by obtain rfl:=aja h;exact .inl ho
 |o0::os,objs,oa,h,o,s,t,ho=>by
  have main:∀s0 t1,fE t1=af->fy ((o0,(s0,t1))::del [o0] objs) os=aa oa->find objs o=aa (s,t)\/fE t=af:=by
   intro s0 t1 hf h
   rcases jv h o s t ho with h1|g
   .grind [aZ,jq]
   .exact .inr g
  unfold fy at h;split at h
  .exact main _ _ rfl h
  .exact main _ _ rfl h
  .exact main _ _ rfl h
  .exact main _ _ rfl h
  .exact jv h o s t ho
  .exact jv h o s t ho
  .exact jv h o s t ho
  .exact jv h o s t ho
  .cases h
inductive Sh where
 |leaf (r:Row)
 |own (j:Nat)
 |nil
 |pair (a b:Sh)
 |junk (n:Nat)
inductive SS where
 |val (agg:Bool) (t:Sh)
 |ptr (j:Nat) (p:List Bool) (off:Nat)
 |at (r:Row)
 |undef
 |fn (f:FuncId) (js:List (Nat×List Bool×Nat))
 |ifc (T:TypeId) (s:SS)
inductive OS where
 |box (T:TypeId) (t:Sh)
 |own (T:TypeId) (r:Row)
 |map (T:TypeId) (K:Row) (agg:Bool) (V:Row)
 |deep (T:TypeId) (d:DR)
 |dmap (T:TypeId) (K:Row) (E:TypeId) (r:Row)
structure JS where
 aJ:List (Nat×SS)
 objs:List (Nat×OS):=[]
 drop:List Nat:=[]
 nxt:Nat
def Sh.rows:Sh->List Row
 | .leaf r=>[r]
 | .own _=>[]
 | .nil=>[]
 | .pair a b=>a.rows++b.rows
 | .junk _=>[]
def SS.rows:SS->List Row
 | .val _ t=>t.rows
 | .ptr .. =>[]
 | .at r=>[r]
 | .undef=>[]
 | .fn .. =>[]
 | .ifc _ s=>s.rows
def OS.rows:OS->List Row
 | .box _ t=>t.rows
 | .own _ r=>[.slice r]
 | .map _ K _ V=>[.slice (.pair K V)]
 | .deep _ d=>[.slice d.row]
 | .dmap _ K _ r=>[.slice (.pair K (.slice r))]
def CJ:List (Nat×SS)->List Row
 |[]=>[]
 |p::l=>p.2.rows++CJ l
def G0:List (Nat×OS)->List Row
 |[]=>[]
 |p::l=>p.2.rows++G0 l
def JS.rows(J:JS):List Row:=CJ J.aJ++G0 J.objs
abbrev kg:=(r:Row)×r.den
@[reducible] def dC:List Row->Type
  |[]=>Unit
  |[r]=>r.den
  |r::s::rs=>r.den×dC (s::rs)
def dJ:(rs:List Row)->dC rs->List kg
 |[],_=>[]
 |[r],x=>[⟨r,x⟩]
 |r::s::rs,x=>⟨r,x.1⟩::dJ (s::rs) x.2
def CK:(rs:List Row)->List kg->Option (dC rs)
 |[],[]=>aa ()
 |[r],[⟨s,x⟩]=>if h:s.beq r=af then aa (jZ (Row.eq_of_beq h) x)else ae
 |r::r'::rs,⟨s,x⟩::vs=>if h:s.beq r=af then(match CK (r'::rs) vs with
  |some y=>aa (jZ (Row.eq_of_beq h) x,y)
  |none=>ae)else ae
 |_,_=>ae
def zh{r s:Row}(h:s=r)(x:s.den):(⟨r,jZ h x⟩:kg)=⟨s,x⟩:=by subst h;rfl
def va:{rs:List Row}->{vs:List kg}->{x:dC rs}->CK rs vs=aa x->dJ rs x=vs
 |[],[],x,_=>rfl
 |[],_::_,_,h=>by cases h
 |[r],[],_,h=>by cases h
 |[r],[⟨s,x⟩],y,h=>by
  unfold CK at h;split at h
  .rename_i hb;obtain rfl:=aja h
   show[(⟨r,_⟩:kg)]=_
   rw[zh]
  .cases h
 |[r],_::_::_,_,h=>by cases h
 |r::r'::rs,[],_,h=>by cases h
 |r::r'::rs,⟨s,x⟩::vs,y,h=>by
  unfold CK at h;split at h
  .rename_i hb;split at h
   .rename_i z hz;obtain rfl:=aja h;have:=va hz
    show(⟨r,_⟩:kg)::dJ (r'::rs) z=_
    rw[zh,this]
   .cases h
  .cases h
def p7:Sh->List kg->Tree×List kg
 | .leaf r,⟨s,x⟩::vs=>(bif s.beq r then .leaf s x else .nil,vs)
 | .leaf _,[]=>(.nil,[])
 | .own j,vs=>(.own j,vs)
 | .nil,vs=>(.nil,vs)
 | .pair a b,vs=>(.pair (p7 a vs).1 (p7 b (p7 a vs).2).1,(p7 b (p7 a vs).2).2)
 | .junk n,vs=>(.junk n,vs)
def eZ:SS->List kg->aI×List kg
 | .val agg t,vs=>(.val agg (p7 t vs).1,(p7 t vs).2)
 | .ptr j p off,vs=>(.ptr j p off,vs)
 | .at r,⟨s,x⟩::vs=>(bif s.beq r then .at s x else .dead,vs)
 | .at _,[]=>(.dead,[])
 | .undef,vs=>(.undef,vs)
 | .fn f js,vs=>(.fn f js,vs)
 | .ifc T s,vs=>(.ifc T (eZ s vs).1,(eZ s vs).2)
def dg:List (Nat×SS)->List kg->List (Nat×aI)×List kg
 |[],vs=>([],vs)
 |(t,s)::l,vs=>((t,(eZ s vs).1)::(dg l (eZ s vs).2).1,(dg l (eZ s vs).2).2)
def cE:OS->List kg->Th×List kg
 | .box T t,vs=>(.box T (p7 t vs).1,(p7 t vs).2)
 | .own T r,⟨.slice s,l⟩::vs=>(bif s.beq r then .own T s l else .own T r [],vs)
 | .own T r,vs=>(.own T r [],vs)
 | .map T K agg V,⟨.slice (.pair K' V'),l⟩::vs=>(if h:K'.beq K=af/\V'.beq V=af then .map T K agg V (jZ (r:= .slice (.pair K' V')) (s:= .slice (.pair K V)) (by rw[Row.eq_of_beq h.1,Row.eq_of_beq h.2]) l)else .map T K agg V [],vs)
 | .map T K agg V,vs=>(.map T K agg V [],vs)
 | .deep T d,⟨.slice s,l⟩::vs=>(if h:s.beq d.row=af then .deep T d (jZ (r:= .slice s) (s:= .slice d.row) (ay Row.slice (Row.eq_of_beq h)) l) ae else .deep T d [] ae,vs)
 | .deep T d,vs=>(.deep T d [] ae,vs)
 | .dmap T K E r,⟨.slice (.pair K' (.slice s)),l⟩::vs=>(if h:K'.beq K=af/\s.beq r=af then .dmap T K E r (jZ (r:= .slice (.pair K' (.slice s))) (s:= .slice (.pair K (.slice r))) (by rw[Row.eq_of_beq h.1,Row.eq_of_beq h.2]) l) ae else .dmap T K E r [] ae,vs)
 | .dmap T K E r,vs=>(.dmap T K E r [] ae,vs)
def iV(m:Nat):List (Nat×OS)->List kg->List (Nat×(Nat×Th))
 |[],_=>[]
 |(j,s)::l,vs=>(j,(m,(cE s vs).1))::iV (m+1) l (cE s vs).2
abbrev Bs:=List (Nat×Option Nat)
def E7:Option Nat->Option Nat->Bool
 |some a,aa b=>ajf a b
 |none,ae=>af
 |_,_=>ag
theorem zi{a b:Option Nat}(h:E7 a b=af):a=b:=by
 cases a<;>cases b<;>first|rfl|cases h|(rw[beq_true h])
def zj(bs:Bs)(j:Nat)(v:Option Nat):Option Bs:=
 match find bs j with
 |none=>aa ((j,v)::bs)
 |some u=>bif E7 u v then aa bs else ae
def Ew(ob:Nat->Option (Nat×Th)):Sh->Tree->Bs->Option (List kg×Bs)
 | .leaf r,t,bs=>match flat ob r t with
   |some x=>aa ([⟨r,x⟩],bs)
   |none=>ae
 | .own j, .own o,bs=>match zj bs j (aa o)with
   |some gZ=>aa ([],gZ)
   |none=>ae
 | .own j, .nil,bs=>match zj bs j ae with
   |some gZ=>aa ([],gZ)
   |none=>ae
 | .nil, .nil,bs=>aa ([],bs)
 | .junk n,t,bs=>bif ajf t.size n then aa ([],bs)else ae
 | .pair a b,t,bs=>match t.split with
   |some (x,y)=>match Ew ob a x bs with
    |some (vs,E8)=>match Ew ob b y E8 with
     |some (us,G1)=>aa (vs++us,G1)
     |none=>ae
    |none=>ae
   |none=>ae
 |_,_,_=>ae
def uf:List (Nat×List Bool×Nat)->List (Nat×List Bool×Nat)->Bs->Option Bs
 |[],[],bs=>aa bs
 |(j,_,off)::js,(o,_,eE)::cs,bs=>bif ajf off eE then(match zj bs j (aa o)with
  |some gZ=>uf js cs gZ
  |none=>ae)else ae
 |_,_,_=>ae
def LJ(ob:Nat->Option (Nat×Th))(s:SS)(d:aI)(bs:Bs):Option (List kg×Bs):=
 match s,d with
 | .val agg sh, .val mL t=>bif (bif agg then mL else !mL)then Ew ob sh t bs else ae
 | .ptr j _ off, .ptr o _ eE=>bif ajf off eE then(match zj bs j (aa o)with
   |some gZ=>aa ([],gZ)
   |none=>ae)else ae
 | .at r, .at s x=>if h:s.beq r=af then aa ([⟨r,jZ (Row.eq_of_beq h) x⟩],bs)else ae
 | .undef, .undef=>aa ([],bs)
 | .fn f js, .fn f' cs=>bif ajf f f' then(match uf js cs bs with
   |some gZ=>aa ([],gZ)
   |none=>ae)else ae
 |_,_=>ae
def I1(ob:Nat->Option (Nat×Th)):SS->aI->Bs->Option (List kg×Bs)
 | .ifc T s,d,bs=>match d with
   | .ifc T' d'=>bif ajf T T' then I1 ob s d' bs else ae
   |_=>ae
 |s,d,bs=>LJ ob s d bs
def Uc(ob:Nat->Option (Nat×Th))(aJ:List (Nat×aI)):List (Nat×SS)->Bs->Option (List kg×Bs)
 |[],bs=>aa ([],bs)
 |(t,s)::l,bs=>match find aJ t with
  |some d=>match I1 ob s d bs with
   |some (vs,E8)=>match Uc ob aJ l E8 with
    |some (us,G1)=>aa (vs++us,G1)
    |none=>ae
   |none=>ae
  |none=>ae
def LK(ob:Nat->Option (Nat×Th))(j:Nat)(s:OS)(bs:Bs):Option (List kg×Bs):=
 match find bs j with
 |some (aa o)=>match ob o with
  |some (_,t)=>match s,t with
   | .own T r, .own T' r' l=>bif ajf T T' then(if h:r'.beq r=af then aa ([⟨.slice r,jZ (r:= .slice r') (s:= .slice r) (ay Row.slice (Row.eq_of_beq h)) l⟩],bs)else ae)else ae
   | .box T sh, .box T' t=>bif ajf T T' then Ew ob sh t bs else ae
   | .map T K agg V, .map T' K' mL V' l=>bif ajf T T'&&(bif agg then mL else !mL)then(if h:K'.beq K=af/\V'.beq V=af then aa ([⟨.slice (.pair K V),jZ (r:= .slice (.pair K' V')) (s:= .slice (.pair K V)) (by rw[Row.eq_of_beq h.1,Row.eq_of_beq h.2]) l⟩],bs)else ae)else ae
   | .deep T d, .deep T' d' l ae=>bif ajf T T'&&d'.beq d then aa ([⟨.slice d'.row,l⟩],bs)else ae
   | .dmap T K E r, .dmap T' K' E' r' l ae=>bif ajf T T'&&ajf E E'&&K'.beq K&&r'.beq r then aa ([⟨.slice (.pair K' (.slice r')),l⟩],bs)else ae
   |_,_=>ae
  |none=>ae
 |some ae=>match s with
  | .own _ r=>aa ([⟨.slice r,([]:List r.den)⟩],bs)
  | .deep _ d=>aa ([⟨.slice d.row,([]:List d.row.den)⟩],bs)
  |_=>ae
 |none=>ae
def Ud(ob:Nat->Option (Nat×Th)):List (Nat×OS)->Bs->Option (List kg×Bs)
 |[],bs=>aa ([],bs)
 |(j,s)::l,bs=>match LK ob j s bs with
  |some (vs,E8)=>match Ud ob l E8 with
   |some (us,G1)=>aa (vs++us,G1)
   |none=>ae
  |none=>ae
section
variable {U:Nat->Prop} {H H':aK} {F:Nat->Prop} {w:World} {n:Nat} {ob:Nat->Option (Nat×Th)}
def CL(bs gZ:Bs):Prop:=∀j v,find bs j=aa v->find gZ j=aa v
def mM{bs gZ:Bs}{j:Nat}{v:Option Nat}(h:zj bs j v=aa gZ):CL bs gZ/\find gZ j=aa v:=by
 unfold zj at h;split at h
 .rename_i hn;obtain rfl:=aja h;refine⟨λi u hu=>?_,by rw[aZ,aj rfl]⟩
  grind [aZ]
 .rename_i u hu;obtain⟨h1,rfl⟩:=sP h;obtain rfl:=zi h1;exact⟨λ_ _ h=>h,hu⟩
def valOf(H:aK):Option Nat->Option Value
 |some o=>H.val o
 |none=>aa (.slice ae 0 0)
def o4(H H':aK)(bs:Bs):Prop:=∀j v,find bs j=aa v->∀u,valOf H v=aa u->H'.val j=aa u
def wS:{sh:Sh}->{t:Tree}->{bs gZ:Bs}->{vs:List kg}->Ew ob sh t bs=aa (vs,gZ)->CL bs gZ
 | .leaf r,t,bs,gZ,vs,h=>by
   unfold Ew at h
   split at h<;>cases h
   exact λ_ _ h=>h
 | .own j, .own o,bs,gZ,vs,h=>by
   unfold Ew at h
   split at h<;>cases h
   rename_i hb;exact(mM hb).1
 | .own j, .nil,bs,gZ,vs,h=>by
   unfold Ew at h
   split at h<;>cases h
   rename_i hb;exact(mM hb).1
 | .nil, .nil,bs,gZ,vs,h=>by cases h;exact λ_ _ h=>h
 | .pair a b,t,bs,gZ,vs,h=>by
   unfold Ew at h;split at h
   case h_2=>cases h
   split at h
   case h_2=>cases h
   rename_i h1;split at h
   case h_2=>cases h
   rename_i h2;cases h
   exact λj v hj=>wS h2 j v (wS h1 j v hj)
 | .own _, .leaf _ _,_,_,_,h=>by cases h
 | .own _, .pair _ _,_,_,_,h=>by cases h
 | .nil, .leaf _ _,_,_,_,h=>by cases h
 | .nil, .own _,_,_,_,h=>by cases h
 | .nil, .pair _ _,_,_,_,h=>by cases h
 | .own _, .view ..,_,_,_,h=>by cases h
 | .nil, .view ..,_,_,_,h=>by cases h
 | .own _, .junk _,_,_,_,h=>by cases h
 | .nil, .junk _,_,_,_,h=>by cases h
 | .junk n,t,bs,gZ,vs,h=>by
   unfold Ew at h;obtain⟨_,h⟩:=be h;cases h
   exact λ_ _ h=>h
def AQ(hs:aL U H F w ob n):{sh:Sh}->{t:Tree}->{bs gZ:Bs}->{vs:List kg}->{cs:List Value}->Ew ob sh t bs=aa (vs,gZ)->Holds H F w t cs->o4 H H' gZ->∀rest,
 Holds H' F w (p7 sh (vs++rest)).1 cs/\(p7 sh (vs++rest)).2=rest
 | .leaf r,t,bs,gZ,vs,cs,h,hh,hb,rest=>by
   unfold Ew at h
   split at h<;>cases h
   rename_i x hf;refine⟨?_,rfl⟩
   show Holds H' F w (bif r.beq r then Tree.leaf r x else .nil) cs
   rw[Row.beq_refl,cond_true];exact jL hs hf hh
 | .own j, .own o,bs,gZ,vs,cs,h,hh,hb,rest=>by
   unfold Ew at h
   split at h<;>cases h
   rename_i HZ;obtain⟨v,hv,h1,rfl⟩:=hh;exact⟨⟨v,hb _ _ (mM HZ).2 v hv,h1,rfl⟩,rfl⟩
 | .own j, .nil,bs,gZ,vs,cs,h,hh,hb,rest=>by
   unfold Ew at h
   split at h<;>cases h
   rename_i HZ;rw[show cs=_ from hh];exact⟨⟨_,hb _ _ (mM HZ).2 _ rfl,rfl,rfl⟩,rfl⟩
 | .nil, .nil,bs,gZ,vs,cs,h,hh,hb,rest=>by cases h;exact⟨hh,rfl⟩
 | .pair a b,t,bs,gZ,vs,cs,h,hh,hb,rest=>by
   unfold Ew at h;split at h
   case h_2=>cases h
   rename_i x y tT;split at h
   case h_2=>cases h
   rename_i YU E8 h1;split at h
   case h_2=>cases h
   rename_i us G1 h2;cases h;obtain⟨c1,c2,rfl,g1,g2,_⟩:=hh.split tT
   have Ku:o4 H H' E8:=λj v hj=>hb j v (wS h2 j v hj)
   obtain⟨k1,k2⟩:=AQ hs h1 g1 Ku (us++rest);obtain⟨m1,m2⟩:=AQ hs h2 g2 hb rest;rw[List.append_assoc];unfold p7;rw[k2];exact⟨⟨c1,c2,rfl,k1,m1⟩,m2⟩
 | .own _, .leaf _ _,_,_,_,_,h,_,_,_=>by cases h
 | .own _, .pair _ _,_,_,_,_,h,_,_,_=>by cases h
 | .nil, .leaf _ _,_,_,_,_,h,_,_,_=>by cases h
 | .nil, .own _,_,_,_,_,h,_,_,_=>by cases h
 | .nil, .pair _ _,_,_,_,_,h,_,_,_=>by cases h
 | .own _, .view ..,_,_,_,_,h,_,_,_=>by cases h
 | .nil, .view ..,_,_,_,_,h,_,_,_=>by cases h
 | .own _, .junk _,_,_,_,_,h,_,_,_=>by cases h
 | .nil, .junk _,_,_,_,_,h,_,_,_=>by cases h
 | .junk n,t,bs,gZ,vs,cs,h,hh,hb,rest=>by
   unfold Ew at h;obtain⟨hn,h⟩:=be h;cases h;exact⟨⟨hh.length.trans (Nat.eq_of_beq_eq_true hn),hh.kD⟩,rfl⟩
theorem ug:{js cs:List (Nat×List Bool×Nat)}->{bs gZ:Bs}->uf js cs bs=aa gZ->CL bs gZ
 |[],[],bs,gZ,h=>by obtain rfl:=aja h;exact λ_ _ h=>h
 |(j,p,off)::js,(o,p',eE)::cs,bs,gZ,h=>by
  unfold uf at h;obtain⟨_,h⟩:=be h;split at h
  case h_2=>cases h
  rename_i hb
  exact λi v hi=>ug h i v ((mM hb).1 i v hi)
 |[],_::_,_,_,h=>by cases h
 |_::_,[],_,_,h=>by cases h
def zk:{js cs:List (Nat×List Bool×Nat)}->{bs gZ:Bs}->{vs:List Value}->uf js cs bs=aa gZ->mh H cs vs->o4 H H' gZ->mh H' js vs
 |[],[],bs,gZ,vs,h,hc,hb=>hc
 |(j,p,off)::js,(o,p',eE)::cs,bs,gZ,vs,h,hc,hb=>by
  unfold uf at h;obtain⟨ho,h'⟩:=be h;clear h;split at h'
  case h_2=>cases h'
  rename_i b1 HZ;obtain⟨v,us,rfl,⟨b,h1,rfl⟩,h2⟩:=hc;have ho:=beq_true ho;subst ho;exact⟨_,us,rfl,⟨b,hb _ _ (ug h' _ _ (mM HZ).2) _ h1,rfl⟩,zk h' h2 hb⟩
 |[],_::_,_,_,_,h,_,_=>by cases h
 |_::_,[],_,_,_,h,_,_=>by cases h
def Ow{s:SS}{d:aI}{bs gZ:Bs}{vs:List kg}(h:LJ ob s d bs=aa (vs,gZ)):CL bs gZ:=by
 unfold LJ at h;split at h
 .obtain⟨_,h⟩:=be h;exact wS h
 .obtain⟨_,h⟩:=be h
  split at h<;>cases h
  rename_i hb;exact(mM hb).1
 .split at h<;>cases h
  exact λ_ _ h=>h
 .cases h
  exact λ_ _ h=>h
 .obtain⟨_,h'⟩:=be h
  grind [ug]
 .cases h
def Ox{s:SS}{d:aI}{bs gZ:Bs}{vs:List kg}(h:I1 ob s d bs=aa (vs,gZ)):CL bs gZ:=by
 induction s generalizing d with
 |ifc T s ih=>
  cases d with
  |ifc T' d'=>
   obtain⟨_,h'⟩:=be (show(bif ajf T T' then I1 ob s d' bs else ae)=aa (vs,gZ)from h);exact ih h'
  |_=>cases h
 |_=>exact Ow h
def Oy(hs:aL U H F w ob n){s:SS}{d:aI}{bs gZ:Bs}{vs:List kg}{v:Value}(h:LJ ob s d bs=aa (vs,gZ))(hd:aH H F w d v)(hb:o4 H H' gZ)(rest:List kg):
 aH H' F w (eZ s (vs++rest)).1 v/\(eZ s (vs++rest)).2=rest:=by
 unfold LJ at h;split at h
 .rename_i agg sh mL t;obtain⟨ha,h'⟩:=be h;clear h
  have:agg=mL:=by cases agg<;>cases mL<;>simp_all
  subst this;obtain⟨cs,h1,h2⟩:=hd;obtain⟨k1,k2⟩:=AQ hs h' h1 hb rest;exact⟨⟨cs,k1,h2⟩,k2⟩
 .rename_i j p off o p' eE;obtain⟨ho,h'⟩:=be h;clear h
  split at h'<;>cases h'
  rename_i HZ;obtain⟨b,h1,h2⟩:=hd;refine⟨⟨b,hb _ _ (mM HZ).2 _ h1,?_⟩,rfl⟩
  simp_all
 .rename_i r s x
  split at h<;>cases h
  rename_i Cm;obtain rfl:=Row.eq_of_beq Cm;refine⟨?_,rfl⟩
  show aH H' F w (bif s.beq s then aI.at s x else .dead) v
  rw[Row.beq_refl,cond_true];exact hd
 .cases h;exact⟨hd,rfl⟩
 .rename_i f js f' cs;obtain⟨hf,h'⟩:=be h
  split at h'<;>cases h'
  rename_i HZ;obtain⟨us,h1,h2⟩:=hd;refine⟨⟨us,?_,zk HZ h2 hb⟩,rfl⟩
  simp_all
 .cases h
def Oz(hs:aL U H F w ob n){s:SS}{d:aI}{bs gZ:Bs}{vs:List kg}{v:Value}(h:I1 ob s d bs=aa (vs,gZ))(hd:aH H F w d v)(hb:o4 H H' gZ)(rest:List kg):
 aH H' F w (eZ s (vs++rest)).1 v/\(eZ s (vs++rest)).2=rest:=by
 induction s generalizing d v with
 |ifc T s ih=>
  cases d with
  |ifc T' d'=>
   obtain⟨hT,h'⟩:=be (show(bif ajf T T' then I1 ob s d' bs else ae)=aa (vs,gZ)from h);obtain⟨u,e,h2⟩:=hd;obtain⟨k1,k2⟩:=ih h' h2;exact⟨⟨u,by simp_all,k1⟩,k2⟩
  |_=>cases h
 |_=>exact Oy hs h hd hb rest
def LL:{l:List (Nat×SS)}->{aJ:List (Nat×aI)}->{bs gZ:Bs}->{vs:List kg}->Uc ob aJ l bs=aa (vs,gZ)->CL bs gZ
 |[],_,_,_,_,h=>by cases h;exact λ_ _ h=>h
 |(t,s)::l,aJ,bs,gZ,vs,h=>by
  unfold Uc at h;split at h
  case h_2=>cases h
  split at h
  case h_2=>cases h
  rename_i h1;split at h
  case h_2=>cases h
  rename_i h2;cases h
  exact λj v hj=>LL h2 j v (Ox h1 j v hj)
def LM(hs:aL U H F w ob n){aJ:List (Nat×aI)}{ρ:Nat->Value}(gY:∀t d,find aJ t=aa d->aH H F w d (ρ t)):{l:List (Nat×SS)}->{bs gZ:Bs}->{vs:List kg}->Uc ob aJ l bs=aa (vs,gZ)->o4 H H' gZ->∀rest,
 (∀t d,find (dg l (vs++rest)).1 t=aa d->aH H' F w d (ρ t))/\(dg l (vs++rest)).2=rest
 |[],bs,gZ,vs,h,_,rest=>by cases h;exact⟨λ_ _ h=>(by cases h),rfl⟩
 |(t,s)::l,bs,gZ,vs,h,hb,rest=>by
  unfold Uc at h;split at h
  case h_2=>cases h
  rename_i d hd;split at h
  case h_2=>cases h
  rename_i YU E8 h1;split at h
  case h_2=>cases h
  rename_i us G1 h2;cases h
  have Ku:o4 H H' E8:=λj v hj=>hb j v (LL h2 j v hj)
  obtain⟨k1,k2⟩:=Oz hs h1 (gY t d hd) Ku (us++rest);obtain⟨m1,m2⟩:=LM hs gY h2 hb rest
  grind [dg,aZ]
end
end Go.Proofs.YtleifhfeahnocaaGreatDoor
namespace Go.Proofs.YtleifhfeahnocaaGreatDoor
open Go Go.RowKit
def Tree.owns:Tree->List Nat
 | .own o=>[o]
 | .pair a b=>a.owns++b.owns
 | .view o _ _ _=>[o]
 |_=>[]
def CM:Sh->Tree->List Nat
 | .leaf _,t=>t.owns
 | .pair a b,t=>match t.split with
   |some (x,y)=>CM a x++CM b y
   |none=>[]
 |_,_=>[]
def G2(aJ:List (Nat×aI)):List (Nat×SS)->List Nat
 |[]=>[]
 |(t, .val _ sh)::l=>(match find aJ t with
  |some (.val _ tr)=>CM sh tr
  |_=>[])++G2 aJ l
 |(t, .ifc _ (.val _ sh))::l=>(match find aJ t with
  |some (.ifc _ (.val _ tr))=>CM sh tr
  |_=>[])++G2 aJ l
 |_::l=>G2 aJ l
def Qi(j:Nat):List (Nat×List Bool×Nat)->List (Nat×List Bool×Nat)->Option Nat
 |(j',_)::js,(o,_)::cs=>bif ajf j' j then aa o else Qi j js cs
 |_,_=>ae
def CN(aJ:List (Nat×aI))(j:Nat):List (Nat×SS)->Option Nat
 |[]=>ae
 |(t, .ptr j' _ _)::l=>bif ajf j' j then(match find aJ t with
  |some (.ptr o _ _)=>aa o
  |_=>ae)else CN aJ j l
 |(t, .ifc _ (.ptr j' _ _))::l=>bif ajf j' j then(match find aJ t with
  |some (.ifc _ (.ptr o _ _))=>aa o
  |_=>ae)else CN aJ j l
 |(t, .fn _ js)::l=>match(match find aJ t with
    |some (.fn _ cs)=>Qi j js cs
    |_=>ae)with
  |some o=>aa o
  |none=>CN aJ j l
 |_::l=>CN aJ j l
def LN(nb:Nat)(aJ:List (Nat×aI))(ss:List (Nat×SS))(objs:List (Nat×(Nat×Th))):List (Nat×OS)->List Nat
 |[]=>[]
 |(j, .box _ sh)::l=>(match(bif ajK j nb then aa j else CN aJ j ss)with
  |some o=>(match find objs o with
   |some (_, .box _ tr)=>CM sh tr
   |_=>[])
  |none=>[])++LN nb aJ ss objs l
 |_::l=>LN nb aJ ss objs l
def YV(nb:Nat):List (Nat×OS)->Bs
 |[]=>[]
 |(j,_)::l=>bif ajK j nb then(j,aa j)::YV nb l else YV nb l
def iW:Bs->List Nat
 |[]=>[]
 |(_,aa o)::l=>o::iW l
 |(_,ae)::l=>iW l
def pA(o:Nat)(l:List Nat):Bool:=l.any (ajf o)
def E9:List Nat->Bool
 |[]=>af
 |o::l=> !pA o l&&E9 l
def LO(nb nxt:Nat):Bs->Bool
 |[]=>af
 |(j,u)::l=>(bif ajK j nb then E7 u (aa j)else ajK j nxt)&&LO nb nxt l
def Fa(objs:List (Nat×(Nat×Th)))(CO:List Nat):List (Nat×(Nat×Th))->Bool
 |[]=>af
 |(o,(s,t))::l=>(match find objs o with
  |some (s',t')=>ajf s s'&&(bif fE t then fE t' else !fE t')
  |none=>ag)&& !pA o CO&&Fa objs CO l
def zn(nb:Nat)(J:JS)(aJ:List (Nat×aI))(objs:List (Nat×(Nat×Th))):List Nat:=G2 aJ J.aJ++LN nb aJ J.aJ objs J.objs
def zo(nb:Nat)(frame:List (Nat×(Nat×Th)))(J:JS)(aJ:List (Nat×aI))(objs:List (Nat×(Nat×Th))):Option (dC J.rows×Bs×List (Nat×(Nat×Th))):=
 match fy objs (zn nb J aJ objs)with
 |none=>ae
 |some bh=>match Uc (find bh) aJ J.aJ (YV nb J.objs)with
  |none=>ae
  |some (vs,E8)=>match Ud (find bh) J.objs E8 with
   |none=>ae
   |some (us,G1)=>bif E9 (iW G1)&&LO nb J.nxt G1&&Nat.ble (nb+J.objs.length) J.nxt&&Fa bh (iW G1) frame then
     (match CK J.rows (vs++us)with
     |some x=>aa (x,G1,bh)
     |none=>ae)else ae
def s7:List (Nat×(Nat×Th))->Nat->Option Th
 |[],_=>ae
 |(_,(s,t))::l,m=>bif ajf s m then aa t else s7 l m
def Rt:List (Nat×(Nat×Th))->Nat->Option Nat
 |[],_=>ae
 |(j,(s,_))::l,m=>bif ajf s m then aa j else Rt l m
def wT(H:aK)(ob:Nat->Option (Nat×Th)):Option (Option Nat)->Nat->Prop
 |some (aa o)=>match ob o with
  |some (s,_)=>H.sub s
  |none=>λ_=>False
 |_=>λ_=>False
def eG(H:aK)(nb:Nat)(bs:Bs)(cons:List (Nat×(Nat×Th)))(ob:Nat->Option (Nat×Th)):aK where
 val m:=if m<nb then H.val m else match find bs m with
  |some u=>valOf H u
  |none=>ae
 con m:=if m<nb then H.con m else s7 cons m
 sub m:=if m<nb then H.sub m else match Rt cons m with
  |some j=>wT H ob (find bs j)
  |none=>λ_=>False
section
variable {U:Nat->Prop} {H H':aK} {F:Nat->Prop} {w:World} {n:Nat} {ob:Nat->Option (Nat×Th)}
def G3{j:Nat}{s:OS}{bs gZ:Bs}{vs:List kg}(h:LK ob j s bs=aa (vs,gZ)):CL bs gZ:=by
 unfold LK at h;split at h
 .split at h
  case h_2=>cases h
  split at h
  .obtain⟨_,h'⟩:=be h
   split at h'<;>cases h'
   exact λ_ _ h=>h
  .obtain⟨_,h'⟩:=be h;exact wS h'
  .obtain⟨_,h'⟩:=be h
   split at h'<;>cases h'
   exact λ_ _ h=>h
  .obtain⟨_,h'⟩:=be h;cases h'
   exact λ_ _ h=>h
  .obtain⟨_,h'⟩:=be h;cases h'
   exact λ_ _ h=>h
  .cases h
 .split at h<;>cases h
  .exact λ_ _ h=>h
  .exact λ_ _ h=>h
 .cases h
def AR:{l:List (Nat×OS)}->{bs gZ:Bs}->{vs:List kg}->Ud ob l bs=aa (vs,gZ)->CL bs gZ
 |[],_,_,_,h=>by cases h;exact λ_ _ h=>h
 |(j,s)::l,bs,gZ,vs,h=>by
  unfold Ud at h;split at h
  case h_2=>cases h
  rename_i h1;split at h
  case h_2=>cases h
  rename_i h2;cases h
  exact λj v hj=>AR h2 j v (G3 h1 j v hj)
def nq(H H':aK)(F:Nat->Prop)(w:World)(ob:Nat->Option (Nat×Th))(bs:Bs)(j:Nat)(t:Th):Prop:=
 ∃u v,find bs j=aa u/\valOf H u=aa v/\v.oneCell'=af/\t.base=t/\kf H' F w (wT H ob (find bs j)) v t/\∀k,fp (wT H ob (find bs j)) v t k->∃o s0 t0,u=aa o/\ob o=aa (s0,t0)/\H.val o=aa v/\fp (H.sub s0) v t0 k
def OA(hs:aL U H F w ob n){j:Nat}{s:OS}{bs gZ:Bs}{vs:List kg}(h:LK ob j s bs=aa (vs,gZ))(hb:o4 H H' gZ)(rest:List kg):
 nq H H' F w ob bs j (cE s (vs++rest)).1/\(cE s (vs++rest)).2=rest:=by
 unfold LK at h;split at h
 .rename_i o Ue;split at h
  case h_2=>cases h
  rename_i s0 t0 cJ;obtain⟨v,hv,cT⟩:=hs.obj _ _ _ cJ
  have iL:wT H ob (find bs j)=H.sub s0:=by rw[Ue];simp[wT,cJ]
  have mk:∀t,t.base=t->kf H' F w (H.sub s0) v t->(∀k,fp (H.sub s0) v t k->fp (H.sub s0) v t0 k)->nq H H' F w ob bs j t:=by
   intro t hb sL hf;refine⟨aa o,v,Ue,hv,cT.one,hb,by rw[iL];exact sL,λk hk=>?_⟩;rw[iL]at hk;exact⟨o,_,_,rfl,cJ,hv,hf k hk⟩
  split at h
  .rename_i T r T' r' l;obtain⟨hT,h'⟩:=be h;clear h
   split at h'<;>cases h'
   rename_i Cm;obtain rfl:=Row.eq_of_beq Cm;obtain rfl:=beq_true hT;refine⟨?_,rfl⟩
   show nq H H' F w ob bs j (bif r'.beq r' then Th.own T r' l else .own T r' [])
   rw[Row.beq_refl,cond_true]
   exact mk _ rfl cT.ok λk hk=>hk
  .rename_i T sh T' t;obtain⟨hT,h'⟩:=be h;clear h;obtain rfl:=beq_true hT;obtain⟨b,es,e,h1,h2⟩:=cT.ok;obtain⟨k1,k2⟩:=AQ hs h' h2 hb rest;exact⟨mk _ rfl ⟨b,es,e,h1,k1⟩ λk hk=>hk,k2⟩
  .rename_i T K agg V T' K' mL V' l;obtain⟨hT,h'⟩:=be h;clear h
   split at h'<;>cases h'
   rename_i Cm;obtain⟨UX,ha⟩:=de hT;clear hT
   have ha:agg=mL:=by cases agg<;>cases mL<;>simp_all
   subst ha;obtain⟨hK,hV⟩:=Cm;obtain rfl:=Row.eq_of_beq hK;obtain rfl:=Row.eq_of_beq hV;obtain rfl:=beq_true UX;refine⟨?_,rfl⟩
   show nq H H' F w ob bs j (if h:K'.beq K'=af/\V'.beq V'=af then Th.map T K' agg V' l else .map T K' agg V' [])
   rw[dif_pos ⟨Row.beq_refl _,Row.beq_refl _⟩];obtain⟨b,es,clock,e,h1,h2,h3⟩:=cT.ok
   exact mk _ rfl ⟨b,es,clock,e,h1,h2,h3.kr⟩ λk hk=>hk
  .rename_i T d T' d' l;obtain⟨hT,h'⟩:=be h;clear h;obtain⟨UX,hd⟩:=de hT;obtain rfl:=DR.eq_of_beq hd;obtain rfl:=beq_true UX;cases h';refine⟨?_,rfl⟩
   show nq H H' F w ob bs j (if h:d'.row.beq d'.row=af then Th.deep T d' l ae else .deep T d' [] ae)
   rw[dif_pos (Row.beq_refl _)]
   exact mk _ rfl cT.ok λk hk=>hk
  .rename_i T K E r T' K' E' r' l;obtain⟨hT,h'⟩:=be h;clear h;obtain⟨hT,hd⟩:=de hT;obtain⟨hT,ye⟩:=de hT;obtain⟨UX,hE⟩:=de hT;obtain rfl:=Row.eq_of_beq hd;obtain rfl:=Row.eq_of_beq ye;obtain rfl:=beq_true UX;obtain rfl:=beq_true hE;cases h';refine⟨?_,rfl⟩
   show nq H H' F w ob bs j (if h:K'.beq K'=af/\r'.beq r'=af then Th.dmap T K' E r' l ae else .dmap T K' E r' [] ae)
   rw[dif_pos ⟨Row.beq_refl _,Row.beq_refl _⟩];obtain⟨b,es,clock,B,e,h1,h2,h3,h4,_⟩:=cT.ok
   exact mk _ rfl ⟨b,es,clock,B,e,h1,h2,h3.keep (Step.refl F w) (λ_ _ _ e=>by cases e) (λ_ _=>rfl),h4,λ_ _ e=>by cases e⟩ λk hk=>hk
  .cases h
 .rename_i Ue
  split at h<;>cases h
  .rename_i T r;refine⟨?_,rfl⟩
   show nq H H' F w ob bs j (bif r.beq r then Th.own T r []else .own T r [])
   rw[Row.beq_refl,cond_true];refine⟨ae,_,Ue,rfl,rfl,rfl,(Own.nil 0 F w T r).2,λk hk=>?_⟩;have iU:bH (.slice ae 0 0) k:=hk;simp[bH,ajo]at iU
  .rename_i T d;refine⟨?_,rfl⟩
   show nq H H' F w ob bs j (if h:d.row.beq d.row=af then Th.deep T d [] ae else .deep T d [] ae)
   rw[dif_pos (Row.beq_refl _)]
   have iL:wT H ob (find bs j)=λ_=>False:=by rw[Ue];rfl
   refine⟨ae,_,Ue,rfl,rfl,rfl,?_,λk hk=>?_⟩
   .rw[iL];exact⟨[],λ_ _=>False,l5.nil F w T d.low,rfl,λi h=>absurd h (by simp),⟨λk=>by simp[bH,ajo],λ_ _ _ h=>absurd h (by simp),λ_ _ h=>absurd h (by simp)⟩⟩
   .rw[iL]at hk;exact hk.elim
 .cases h
theorem CP:{l:List (Nat×OS)}->{m k:Nat}->{vs:List kg}->m+l.length<=k->s7 (iV m l vs) k=ae
 |[],_,_,_,_=>rfl
 |(j,s)::l,m,k,vs,h=>by
  show(bif ajf m k then _ else s7 (iV (m+1) l _) k)=ae
  rw[ajp]at h
  have:ajf m k=ag:=by
   cases hb:ajf m k with
   |false=>rfl
   |true=>have:=beq_true hb;omega
  rw[this,cond_false];exact CP (by omega)
def LP(hs:aL U H F w ob n):{l:List (Nat×OS)}->{bs gZ:Bs}->{vs:List kg}->Ud ob l bs=aa (vs,gZ)->o4 H H' gZ->∀m,
 ∀j s t,find (iV m l vs) j=aa (s,t)->m<=s/\s<m+l.length/\s7 (iV m l vs) s=aa t/\Rt (iV m l vs) s=aa j/\nq H H' F w ob gZ j t
 |[],_,_,_,h,_,m=>by cases h;intro j s t h;cases h
 |(j0,s0)::l,bs,gZ,vs,h,hb,m=>by
  unfold Ud at h;split at h
  case h_2=>cases h
  rename_i YU E8 h1;split at h
  case h_2=>cases h
  rename_i us G1 h2;cases h
  have Ku:o4 H H' E8:=λj v hj=>hb j v (AR h2 j v hj)
  obtain⟨⟨u,v,g1,g2⟩,k2⟩:=OA hs h1 Ku us;intro j s t hf;unfold iV at hf⊢;rw[aZ]at hf;rw[k2]at hf⊢;split at hf
  .rename_i e;subst e;simp only[ajj,Prod.mk.injEq]at hf;obtain⟨rfl,rfl⟩:=hf;have e1:=AR h2 _ _ (G3 h1 _ _ g1);rw[g1]at g2;refine⟨ajh _,by simp,?_,?_,u,v,e1,?_⟩
   .show(bif ajf m m then _ else _)=_
    simp
   .show(bif ajf m m then _ else _)=_
    simp
   grind
  .obtain⟨a1,a2,a3,a4,a5⟩:=LP hs h2 hb (m+1) j s t hf
   have:ajf m s=ag:=by
    cases hb:ajf m s with
    |false=>rfl
    |true=>have:=beq_true hb;omega
   refine⟨by omega,by grind,?_,?_,a5⟩
   .show(bif ajf m s then _ else _)=_
    grind
   .show(bif ajf m s then _ else _)=_
    grind
theorem fY{o:Nat}{l:List Nat}:pA o l=af↔o∈l:=any_beq
theorem kV:{bs:Bs}->{j o:Nat}->find bs j=aa (aa o)->o∈iW bs
 |[],_,_,h=>by cases h
 |(i,u)::bs,j,o,h=>by
  rw[aZ]at h;split at h
  .obtain rfl:=aja h;exact List.mem_cons_self
  .have:=kV h
   cases u with
   |none=>exact this
   |some q=>exact List.mem_cons_of_mem _ this
def uh:{bs:Bs}->E9 (iW bs)=af->{j j' o:Nat}->find bs j=aa (aa o)->find bs j'=aa (aa o)->j=j'
 |[],_,_,_,_,h,_=>by cases h
 |(i,u)::bs,hn,j,j',o,h,h'=>by
  rw[aZ]at h h'
  cases u with
  |none=>
   split at h
   .cases h
   .split at h'
    .cases h'
    .exact uh (bs:=bs) hn h h'
  |some q=>
   obtain⟨hq,N2⟩:=de hn
   have hq:q∉iW bs:=λe=>by rw[fY.2 e]at hq;cases hq
   split at h
   .grind [kV]
   .split at h'
    .grind [kV]
    .exact uh N2 h h'
def wU{nb nxt:Nat}:{bs:Bs}->LO nb nxt bs=af->{j:Nat}->{u:Option Nat}->find bs j=aa u->(j<nb->u=aa j)/\(nb<=j->j<nxt)
 |[],_,_,_,h=>by cases h
 |(i,v)::bs,hk,j,u,h=>by
  obtain⟨h1,h2⟩:=de hk;rw[aZ]at h;split at h
  .rename_i e;subst e;obtain rfl:=aja h
   cases hb:ajK i nb with
   |true=>
    rw[hb,cond_true]at h1
    have:i<nb:=by simpa using hb
    grind [zi]
   |false=>
    rw[hb,cond_false]at h1
    have hge:¬i<nb:=λe=>by have:ajK i nb=af:=by simpa using e
                           grind
    exact⟨λe=>absurd e hge,λ_=>by simpa using h1⟩
  .exact wU h2 h
def zp{objs:List (Nat×(Nat×Th))}{CO:List Nat}:{fr:List (Nat×(Nat×Th))}->Fa objs CO fr=af->{o s:Nat}->{t:Th}->find fr o=aa (s,t)->
 o∉CO/\∃t',find objs o=aa (s,t')/\fE t'=fE t
 |[],_,_,_,_,h=>by cases h
 |(i,(s0,t0))::fr,hf,o,s,t,h=>by
  obtain⟨h1,h2⟩:=de hf;obtain⟨h1,h3⟩:=de h1;rw[aZ]at h;split at h
  .rename_i e;subst e;simp only[ajj,Prod.mk.injEq]at h;obtain⟨rfl,rfl⟩:=h;split at h1
   .rename_i s' t' ho;obtain⟨h4,h5⟩:=de h1
    grind [beq_true,fY]
   .cases h1
  .exact zp h2 h
def LQ{t t':Th}(h:t.base=t'.base)(hf:fE t=fE t'):t=t':=by
 cases t<;>cases t'<;>simp_all[Th.base,fE]
def wV{U':Nat->Prop}{H0:aK}{F0:Nat->Prop}{w0:World}{objs0:List (Nat×(Nat×Th))}{nb:Nat}{ns:List Nat}{J:JS}{aJ:List (Nat×aI)}{objs bh:List (Nat×(Nat×Th))}{x:dC J.rows}{bs:Bs}{ρ:Nat->Value}
 (h:zo nb (del ns objs0) J aJ objs=aa (x,bs,bh))(Ru:aL U H0 F0 w0 (find objs0) nb)(Qj:jr H0 nb)(hk:cU H0 F0 w0 H F w)(hs:aL U H F w (find objs) n)(gY:∀t d,find aJ t=aa d->aH H F w d (ρ t)):
 ∃F1 H1,aL U H F1 w (find bh) n/\(∀b,F b->F1 b)/\(∀b,F1 b->F b\/cD H (find objs) (zn nb J aJ objs) b)/\fy objs (zn nb J aJ objs)=aa bh/\H0.le H1/\o4 H H1 bs/\jr H1 J.nxt/\
  (∀t d,find (dg J.aJ (dJ J.rows x)).1 t=aa d->aH H1 F1 w d (ρ t))/\
  ((∀b,w.heap.size<=b->U' b)->(∀o s t v k,o∈iW bs->find bh o=aa (s,t)->H.val o=aa v->fp (H.sub s) v t k->U' k)->(∀o s t v k,find (del ns objs0) o=aa (s,t)->H.val o=aa v->fp (H.sub s) v t k->U' k)->
    aL U' H1 F1 w (find (iV nb J.objs (dg J.aJ (dJ J.rows x)).2++del ns objs0)) J.nxt):=by
 unfold zo at h;split at h
 case h_1=>cases h
 rename_i YW yx;split at h
 case h_1=>cases h
 rename_i vs E8 hS;split at h
 case h_1=>cases h
 rename_i us G1 hO;obtain⟨hc,h'⟩:=be h;clear h;split at h'
 case h_2=>cases h'
 rename_i x' hx;cases h';obtain⟨hc,UI⟩:=de hc;obtain⟨hc,Oe⟩:=de hc;obtain⟨yV,yc⟩:=de hc
 have Oe:nb+J.objs.length<=J.nxt:=by simpa using Oe
 obtain⟨F1,sZ,EF,NM⟩:=o3 yx hs
 have gD:Step F w F1 w:=λb hb=>⟨EF b hb,rfl⟩
 have YX:∀t d,find aJ t=aa d->aH H F1 w d (ρ t):=λt d hd=>(gY t d hd).keep (aK.le.refl H) gD
 rw[va hx]
 have LR:∃cons,cons=iV nb J.objs us:=⟨_,rfl⟩
 obtain⟨cons,G4⟩:=LR
 have CQ:H0.le (eG H nb bs cons (find bh)):=by
  have aG:∀s t,H0.con s=aa t->s<nb:=λs t gD=>by
   rcases Nat.lt_or_ge s nb with h|h
   .exact h
   .rw[(Qj s h).2]at gD;cases gD
  refine⟨λo v ho=>?_,λs t gD=>?_,λs t gD=>?_⟩
  .have:o<nb:=by
    rcases Nat.lt_or_ge o nb with h|h
    .exact h
    .rw[(Qj o h).1]at ho;cases ho
   simp[eG,this,hk.kr.val _ _ ho]
  .simp[eG,aG s t gD,hk.kr.con _ _ gD]
  .simp[eG,aG s t gD,hk.kr.sub _ _ gD]
 have ui:o4 H (eG H nb bs cons (find bh)) bs:=by
  intro j u hj v hv;obtain⟨a1,a2⟩:=wU yc hj;by_cases aG:j<nb
  .grind [eG,valOf]
  .simpa[eG,aG,hj]using hv
 have OB:o4 H (eG H nb bs cons (find bh)) E8:=λj v hj=>ui j v (AR hO j v hj)
 obtain⟨p1,p2⟩:=LM sZ YX hS OB us
 have G5:jr (eG H nb bs cons (find bh)) J.nxt:=λm hm=>by
  have TV:¬m<nb:=by omega
  refine⟨?_,?_⟩
  .simp only[eG,ai TV];split
   .rename_i u hu;have:=(wU yc hu).2 (by omega);omega
   .rfl
  grind [eG,CP]
 refine⟨F1,eG H nb bs cons (find bh),sZ,EF,NM,yx,CQ,ui,G5,p1,λhU1 hU2 hU3=>?_⟩;rw[p2,<-G4];have UY:=LP (H':=eG H nb bs cons (find bh)) sZ hO ui nb;rw[<-G4]at UY
 have part:∀o s t,find (cons++del ns objs0) o=aa (s,t)->find cons o=aa (s,t)\/find (del ns objs0) o=aa (s,t):=by
  intro o s t ho;rw[jo]at ho
  cases hm:find cons o with
  |some y=>grind
  |none=>grind
 have yf:∀o s t,find (del ns objs0) o=aa (s,t)->o∉iW bs/\find bh o=aa (s,t)/\∃v,H.val o=aa v/\(eG H nb bs cons (find bh)).val o=aa v/\v.oneCell'=af/\(eG H nb bs cons (find bh)).con s=aa t.base/\(eG H nb bs cons (find bh)).sub s=H.sub s/\kf (eG H nb bs cons (find bh)) F1 w (H.sub s) v t:=by
  intro o s t ho;obtain⟨q1,t',q2,q3⟩:=zp UI ho;have ho0:=(jq.1 ho).2;obtain⟨v0,Re,Fb⟩:=Ru.obj _ _ _ ho0;obtain⟨v1,vD,nL⟩:=sZ.obj _ _ _ q2;have e1:=hk.kr.val _ _ Re;rw[vD]at e1;obtain rfl:=aja e1;have e2:=hk.kr.con _ _ Fb.con;rw[nL.con]at e2;have ht:=LQ (aja e2) q3;subst ht;refine⟨q1,q2,v1,vD,CQ.val _ _ Re,nL.one,CQ.con _ _ Fb.con,(CQ.sub _ _ Fb.con).trans (hk.kr.sub _ _ Fb.con).symm,?_⟩
  cases t' with
  |fdeep T d l=>exact nL.ok
  |deep T d l hh=>
   obtain⟨lh0,_,_,e0,r0,_⟩:=Fb.ok
   refine Ix.mono (show Ix F1 w T d.low _ v1 l (H.sub s)from nL.ok) (Step.refl F1 w) (λ_ _=>rfl) λi x' hi A hA hr=>?_
   cases hh with
   |none=>exact hr
   |some h=>
    refine⟨hr.1,λhh=>?_⟩;obtain⟨T',e,q,g1,g2,g3⟩:=hr.2 hh;obtain⟨_,_,q0,_,_,k3⟩:=(r0 i (by omega) hi).2 hh;have e3:=hk.kr.val _ _ k3;rw[g3]at e3;exact⟨T',e,q,g1,g2,by rw[aja e3];exact CQ.val _ _ k3⟩
  |box T tr=>
   obtain⟨b,es,e,g1,g2⟩:=nL.ok;obtain⟨b',oP,e',Uz,g2'⟩:=Fb.ok;exact⟨b,es,e,g1,Holds.back hk.kr CQ g2' g2⟩
  |own T r l=>exact nL.ok
  |vB T r l=>exact nL.ok
  |fmap T K agg V l=>exact nL.ok
  |fdmap T K E r l=>exact nL.ok
  |dmap T K E r l hh=>
   obtain⟨b,es,clock,B,e,g1,g2,g3,g4,g5⟩:=nL.ok;obtain⟨_,_,_,_,_,_,_,_,_,r5⟩:=Fb.ok
   have key:∀a o u,hh=aa (a,o)->H.val o=aa u->(eG H nb bs cons (find bh)).val o=aa u:=by
    intro a o u e hu;obtain⟨u0,XD⟩:=r5 a o e;have e3:=hk.kr.val _ _ XD;rw[hu]at e3;rw[aja e3];exact CQ.val _ _ XD
   exact⟨b,es,clock,B,e,g1,g2,g3.keep (Step.refl F1 w) key (λ_ _=>rfl),g4,λa o e=>(g5 a o e).imp λu hu=>key a o u e hu⟩
  |map T K agg V l=>
   obtain⟨b,es,clock,e,g1,g2,g3⟩:=nL.ok;exact⟨b,es,clock,e,g1,g2,g3.kr⟩
 have UZ:∀o s t,find cons o=aa (s,t)->∃v,(eG H nb bs cons (find bh)).val o=aa v/\v.oneCell'=af/\(eG H nb bs cons (find bh)).con s=aa t.base/\kf (eG H nb bs cons (find bh)) F1 w ((eG H nb bs cons (find bh)).sub s) v t/\
  ∀k,fp ((eG H nb bs cons (find bh)).sub s) v t k->∃o' s0 t0,find bs o=aa (aa o')/\find bh o'=aa (s0,t0)/\H.val o'=aa v/\fp (H.sub s0) v t0 k:=by
  intro o s t ho;obtain⟨a1,a2,a3,a4,u,v,b1,b2,b3,b4,b5,b6⟩:=UY o s t ho
  have iL:(eG H nb bs cons (find bh)).sub s=wT H (find bh) (find bs o):=by
   simp only[eG];rw[ai (by omega),a4]
  rw[iL];refine⟨v,ui o u b1 v b2,b3,?_,b5,λk hk=>?_⟩
  .grind [eG]
  .grind
 refine⟨λo s t ho=>?_,λo o' s s' t t' v v' dw ho jY hv dZ k hk iU=>?_,λm hm _=>G5 m hm,sZ.lt,hU1,sZ.gl⟩
 .rcases part o s t ho with h1|h1
  .obtain⟨v,a1,a2,a3,a4,a5⟩:=UZ o s t h1
   refine⟨v,a1,a2,a3,a4,λk hk hF=>?_,λk hk=>?_,λk hk=>?_⟩<;>obtain⟨o',s0,t0,b1,b2,b3,b4⟩:=a5 k hk<;>obtain⟨v',dZ,cT⟩:=sZ.obj _ _ _ b2
   all_goals
    rw[b3]at dZ;obtain rfl:=aja dZ
   .exact cT.no k b4 hF
   .exact cT.lt k b4
   grind [kV]
  .obtain⟨q1,q2,v,a1,a2,a3,a4,a6,a5⟩:=yf o s t h1;obtain⟨v',dZ,cT⟩:=sZ.obj _ _ _ q2;rw[a1]at dZ;obtain rfl:=aja dZ;exact⟨v,a2,a3,a4,by rw[a6];exact a5,by rw[a6];exact cT.no,by rw[a6];exact cT.lt,(by grind)⟩
 .rcases part o s t ho with h1|h1<;>rcases part o' s' t' jY with h2|h2
  .obtain⟨u,a1,_,_,_,a5⟩:=UZ o s t h1;obtain⟨u',c1,_,_,_,c5⟩:=UZ o' s' t' h2;rw[hv]at a1;rw[dZ]at c1;obtain rfl:=aja a1;obtain rfl:=aja c1;obtain⟨p,s0,t0,d1,d2,d3,d4⟩:=a5 k hk;obtain⟨p',s0',t0',e1,e2,e3,e4⟩:=c5 k iU;refine sZ.apart p p' _ _ _ _ _ _ (λe=>dw ?_) d2 e2 d3 e3 k d4 e4;subst e;exact uh yV d1 e1
  .obtain⟨u,a1,_,_,_,a5⟩:=UZ o s t h1;obtain⟨q1,q2,u',c1,c2,_,_,c6,_⟩:=yf o' s' t' h2;rw[c6]at iU;rw[hv]at a1;rw[dZ]at c2;obtain rfl:=aja a1;obtain rfl:=aja c2;obtain⟨p,s0,t0,d1,d2,d3,d4⟩:=a5 k hk;exact sZ.apart p o' _ _ _ _ _ _ (λe=>q1 (e▸kV d1)) d2 q2 d3 c1 k d4 iU
  .obtain⟨u,a1,_,_,_,a5⟩:=UZ o' s' t' h2;obtain⟨q1,q2,u',c1,c2,_,_,c6,_⟩:=yf o s t h1;rw[c6]at hk;rw[dZ]at a1;rw[hv]at c2;obtain rfl:=aja a1;obtain rfl:=aja c2;obtain⟨p,s0,t0,d1,d2,d3,d4⟩:=a5 k iU;exact sZ.apart o p _ _ _ _ _ _ (λe=>q1 (e▸kV d1)) q2 d2 c1 d3 k hk d4
  .obtain⟨q1,q2,u,c1,c2,_,_,c6,_⟩:=yf o s t h1;obtain⟨q1',q2',u',XT,U0,_,_,c6',_⟩:=yf o' s' t' h2;rw[c6]at hk;rw[c6']at iU;rw[hv]at c2;rw[dZ]at U0;obtain rfl:=aja c2;obtain rfl:=aja U0;exact sZ.apart o o' _ _ _ _ _ _ dw q2 q2' c1 XT k hk iU
end
end Go.Proofs.YtleifhfeahnocaaGreatDoor
end
namespace Go.Proofs.YtleifhfeahnocaaGreatDoor
open Go Go.RowKit
set_option maxRecDepth 100000
set_option linter.unusedSimpArgs false
set_option linter.unusedVariables false
set_option linter.defProp false
section
structure oN where
 inn:JS
 out:JS
 fn:dC inn.rows->Option (dC out.rows)
def yy:List Value->Value
 |[v]=>v
 |vs=> .tuple vs.toArray
structure fZ(P:Program)(f:FuncId)(sg:oN):Prop where
 fn:∃fn,P.funcs[f]? =aa fn/\(fn.name== "runtime.NumGoroutine")=ag/\fn.body.isNone=ag
 ok:∀x y,sg.fn x=aa y->∀(args:List Value)(w:World)(H:aK)(F G:Nat->Prop),args.length=sg.inn.aJ.length->
  (∀t d,find (dg sg.inn.aJ (dJ _ x)).1 t=aa d->aH H F w d (args.getD t undef))->
  aL (λk=>w.heap.size<=k\/G k) H F w (find (iV 0 sg.inn.objs (dg sg.inn.aJ (dJ _ x)).2)) sg.inn.nxt->jr H sg.inn.nxt->(∀k,G k->¬F k)->
  Calls P f args.toArray w λe w'=>∃vs,e= .returned (yy vs)/\vs.length=sg.out.aJ.length/\∃H' F',Ext G w w'/\H.le H'/\(∀b,F b->F' b)/\(∀b,F' b->F b\/w.heap.size<=b\/G b)/\
   (∀t d,find (dg sg.out.aJ (dJ _ y)).1 t=aa d->aH H' F' w' d (vs.getD t undef))/\
   aL (λk=>w.heap.size<=k\/G k) H' F' w' (find (iV sg.inn.nxt sg.out.objs (dg sg.out.aJ (dJ _ y)).2)) sg.out.nxt/\jr H' sg.out.nxt
def Sh.sa(φ:Nat->Nat):Sh->Sh
 | .leaf r=> .leaf r
 | .own j=> .own (φ j)
 | .nil=> .nil
 | .pair a b=> .pair (a.sa φ) (b.sa φ)
 | .junk n=> .junk n
def SS.sa(φ:Nat->Nat):SS->SS
 | .val agg t=> .val agg (t.sa φ)
 | .ptr j p off=> .ptr (φ j) p off
 | .at r=> .at r
 | .undef=> .undef
 | .fn f js=> .fn f (js.map λc=>(φ c.1,c.2))
 | .ifc T s=> .ifc T (s.sa φ)
def OS.sa(φ:Nat->Nat):OS->OS
 | .box T t=> .box T (t.sa φ)
 | .own T r=> .own T r
 | .map T K agg V=> .map T K agg V
 | .deep T d=> .deep T d
 | .dmap T K E r=> .dmap T K E r
def s8(φ:Nat->Nat):List (Nat×SS)->List (Nat×SS)
 |[]=>[]
 |(t,s)::l=>(t,s.sa φ)::s8 φ l
def CR(φ:Nat->Nat):List (Nat×OS)->List (Nat×OS)
 |[]=>[]
 |(j,s)::l=>(φ j,s.sa φ)::CR φ l
def Row.CS:Row->Bool
 | .slice _=>ag
 | .map .. =>ag
 | .pair a b=>a.CS&&b.CS
 |_=>af
def DR.kh(p:Row->Bool):DR->Bool
 | .leaf r=>p r
 | .sl _ d=>d.kh p
 | .pair a b=>a.kh p&&b.kh p
def Sh.kh(p:Row->Bool):Sh->Bool
 | .leaf r=>p r
 | .pair a b=>a.kh p&&b.kh p
 |_=>af
def SS.kh(p:Row->Bool):SS->Bool
 | .val _ t=>t.kh p
 | .at r=>p (.slice r)
 | .ifc _ s=>s.kh p
 |_=>af
def OS.kh(p:Row->Bool):OS->Bool
 | .box _ t=>t.kh p
 | .own _ r=>p r
 | .map _ _ _ V=>p V
 | .deep _ d=>d.kh p
 | .dmap _ _ _ r=>p r
def sd(p:Row->Bool):List (Nat×SS)->Bool
 |[]=>af
 |(_,s)::l=>s.kh p&&sd p l
def zq(p:Row->Bool):List (Nat×OS)->Bool
 |[]=>af
 |(_,s)::l=>s.kh p&&zq p l
section
variable {H H':aK} {F F':Nat->Prop} {w w':World} {φ:Nat->Nat} {p:Row->Bool}
def cI.Fc:{r:Row}->{cs:List Value}->{x:r.den}->r.CS=af->cI F w r cs x->cI F' w' r cs x
 | .int _,_,_,_,h=>h
 | .bool,_,_,_,h=>h
 | .str,_,_,_,h=>h
 | .lZ,_,_,_,h=>h
 | .nul _,_,_,_,h=>h
 | .map ..,_,_,hf,_=>by cases hf
 | .slice _,_,_,hf,_=>by cases hf
 | .pair a b,_,_,hf,h=>by
   obtain⟨c1,c2,e,h1,h2⟩:=h;obtain⟨f1,f2⟩:=de hf;exact⟨c1,c2,e,cI.Fc f1 h1,cI.Fc f2 h2⟩
def Ren(H H':aK)(φ:Nat->Nat):Prop:=∀j v,H.val j=aa v->H'.val (φ j)=aa v
def s9(p:Row->Bool)(F F':Nat->Prop)(w:World):Prop:=∀r,p r=af->∀cs x,cI F w r cs x->cI F' w r cs x
def qi:(sh:Sh)->(vs:List kg)->(p7 (sh.sa φ) vs).2=(p7 sh vs).2
 | .leaf r,[]=>rfl
 | .leaf r,_::_=>rfl
 | .own j,vs=>rfl
 | .nil,vs=>rfl
 | .pair a b,vs=>by
   show(p7 (b.sa φ) (p7 (a.sa φ) vs).2).2=_
   rw[qi a,qi b];rfl
 | .junk _,_=>rfl
def zt(s:SS)(vs:List kg):(eZ (s.sa φ) vs).2=(eZ s vs).2:=by
 induction s with
 |ifc T s ih=>exact ih
 |val agg t=>exact qi t vs
 |ptr j p off=>rfl
 |«at» r=>cases vs<;>rfl
 |undef=>rfl
 |fn f js=>rfl
theorem zu(s:OS)(vs:List kg):(cE (s.sa φ) vs).2=(cE s vs).2:=by
 cases s with
 |box T t=>exact qi t vs
 |own T r=>rfl
 |map T K agg V=>rfl
 |deep T d=>rfl
 |dmap T K E r=>rfl
def CU:(l:List (Nat×SS))->(vs:List kg)->(dg (s8 φ l) vs).2=(dg l vs).2
 |[],_=>rfl
 |(t,s)::l,vs=>by
  show(dg (s8 φ l) (eZ (s.sa φ) vs).2).2=(dg l (eZ s vs).2).2
  rw[zt,CU l]
def ta(hr:Ren H H' φ)(hm:s9 p F F' w):{sh:Sh}->{vs:List kg}->{cs:List Value}->sh.kh p=af->Holds H F w (p7 sh vs).1 cs->Holds H' F' w (p7 (sh.sa φ) vs).1 cs
 | .leaf r,[],cs,_,h=>h
 | .leaf r,⟨s,x⟩::vs,cs,hp,h=>by
   have h':Holds H F w (bif s.beq r then Tree.leaf s x else .nil) cs:=h
   show Holds H' F' w (bif s.beq r then Tree.leaf s x else .nil) cs
   cases hb:s.beq r with
   |true=>
    rw[hb,cond_true]at h';obtain rfl:=Row.eq_of_beq hb;exact hm _ hp _ _ h'
   |false=>rw[hb]at h';exact h'
 | .own j,vs,cs,_,h=>by obtain⟨v,h1,h2⟩:=h;exact⟨v,hr j v h1,h2⟩
 | .nil,vs,cs,_,h=>h
 | .pair a b,vs,cs,hp,h=>by
   obtain⟨c1,c2,e,h1,h2⟩:=h;obtain⟨p1,p2⟩:=de hp;refine⟨c1,c2,e,ta hr hm p1 h1,?_⟩;rw[qi a];exact ta hr hm p2 h2
 | .junk _,vs,cs,_,h=>h
def mh.sa(hr:Ren H H' φ):{cs:List (Nat×List Bool×Nat)}->{vs:List Value}->mh H cs vs->mh H' (cs.map λc=>(φ c.1,c.2)) vs
 |[],_,h=>h
 |_::_,_,h=>by obtain⟨v,us,e,⟨b,h1,h2⟩,h3⟩:=h;exact⟨v,us,e,⟨b,hr _ _ h1,h2⟩,mh.sa hr h3⟩
theorem I2(hr:Ren H H' φ)(hm:s9 p F F' w){s:SS}{vs:List kg}{v:Value}(hp:s.kh p=af)(h:aH H F w (eZ s vs).1 v):aH H' F' w (eZ (s.sa φ) vs).1 v:=by
 induction s generalizing v with
 |ifc T s ih=>
  obtain⟨u,e,h2⟩:=h;exact⟨u,e,ih hp h2⟩
 |val agg t=>
  obtain⟨cs,h1,h2⟩:=h;exact⟨cs,ta hr hm hp h1,h2⟩
 |ptr j p off=>
  obtain⟨b,h1,h2⟩:=h;exact⟨b,hr _ _ h1,h2⟩
 |«at» r=>
  match vs,h with
  |[],h=>exact h
  |⟨s,x⟩::vs,h=>
   have h':aH H F w (bif s.beq r then aI.at s x else .dead) v:=h
   show aH H' F' w (bif s.beq r then aI.at s x else .dead) v
   cases hb:s.beq r with
   |false=>trivial
   |true=>
    rw[hb,cond_true]at h';obtain rfl:=Row.eq_of_beq hb;obtain⟨b,off,rfl,hF,es,h1,h2,h3⟩:=h'
    have gY:cI F w (.slice s) [.slice (aa ⟨b,off,ae⟩) 1 1] [x]:=⟨aa ⟨b,off,ae⟩,1,rfl,ajh _,by unfold maxLen;omega,λi hi=>by
     have e:i=0:=by simp at hi;omega
     subst e
     grind⟩
    obtain⟨A,cap,e1,_,_,vy⟩:=hm (.slice s) hp _ _ gY;obtain⟨b',eE,oP,hA,g1,g2,g3,g4⟩:=vy 0 (by simp);simp only[aj3,akn,and_true]at e1;obtain⟨e1,_,_⟩:=e1;rw[<-e1]at hA;simp only[ajj,Addr.mk.injEq,and_true]at hA;obtain⟨rfl,rfl⟩:=hA;exact⟨b,off,rfl,g1,oP,g2,(by grind),g4⟩
 |undef=>exact h
 |fn f js=>
  obtain⟨us,h1,h2⟩:=h;exact⟨us,h1,h2.sa hr⟩
def nl.pW{K:Row}{agg:Bool}{V:Row}(hm:∀cs x,cI F w V cs x->cI F' w' V cs x):{es:List MapEntry}->{l:List (K.den×V.den)}->nl H F w K agg V es l->nl H' F' w' K agg V es l
 |[],_,h=>h
 |_::_,_,h=>by
  obtain⟨k,x,l',e,h1,⟨cs,h2,Kr⟩,h3⟩:=h;exact⟨k,x,l',e,h1,⟨cs,hm _ _ h2,Kr⟩,nl.pW hm h3⟩
def cI.wW(hm:s9 p F F' w):{d:DR}->{cs:List Value}->{x:d.low.den}->d.kh p=af->cI F w d.low cs x->cI F' w d.low cs x
 | .leaf r,_,_,hp,h=>hm r hp _ _ h
 | .sl _ _,_,_,_,h=>h
 | .pair a b,_,_,hp,h=>by
   obtain⟨p1,p2⟩:=de hp;obtain⟨c1,c2,e,h1,h2⟩:=h;exact⟨c1,c2,e,cI.wW hm p1 h1,cI.wW hm p2 h2⟩
def l5.pW(hm:s9 p F F' w){d:DR}(hp:d.kh p=af){T:TypeId}{v:Value}{l:List d.low.den}(h:l5 F w T d.low v l):l5 F' w T d.low v l:=by
 obtain⟨xs,h1,h2⟩:=h;exact⟨xs,h1,λi hi=>cI.wW hm hp (h2 i hi)⟩
def lr.pW(hm:s9 p F F' w):{d:DR}->{x':d.low.den}->{x:d.row.den}->{S:Nat->Prop}->d.kh p=af->lr F w d x' x S->lr F' w d x' x S
 | .leaf _,_,_,_,_,h=>h
 | .sl _ d,_,_,_,hp,h=>by
   obtain⟨lh,Ss,h1,h2,h3,h4⟩:=h;exact⟨lh,Ss,h1.pW hm (show d.kh p=af from hp),h2,λi a b=>lr.pW hm (show d.kh p=af from hp) (h3 i a b),h4⟩
 | .pair a b,_,_,_,hp,h=>by
   obtain⟨p1,p2⟩:=de hp;obtain⟨A,B,h1,h2,h3⟩:=h;exact⟨A,B,lr.pW hm p1 h1,lr.pW hm p2 h2,h3⟩
def Fe(T:TypeId)(d:DR):(vs:List kg)->∃l,(cE (.deep T d) vs).1= .deep T d l ae
 |[]=>⟨[],rfl⟩
 |⟨.slice s,l⟩::vs=>by
  unfold cE;simp only
  split<;>exact⟨_,rfl⟩
 |⟨.int _,_⟩::_|⟨.bool,_⟩::_|⟨.str,_⟩::_|⟨.lZ,_⟩::_|⟨.nul _,_⟩::_|⟨.pair _ _,_⟩::_|⟨.map ..,_⟩::_=>⟨[],rfl⟩
def I3(T:TypeId)(K:Row)(agg:Bool)(V:Row):(vs:List kg)->∃l,(cE (.map T K agg V) vs).1= .map T K agg V l
 |[]=>⟨[],rfl⟩
 |⟨.slice (.pair K' V'),l⟩::vs=>by
  unfold cE;simp only
  split<;>exact⟨_,rfl⟩
 |⟨.slice (.int _),_⟩::_|⟨.slice .bool,_⟩::_|⟨.slice .str,_⟩::_|⟨.slice (.slice _),_⟩::_|⟨.slice .lZ,_⟩::_|⟨.slice (.nul _),_⟩::_|⟨.slice (.map ..),_⟩::_=>⟨[],rfl⟩
 |⟨.int _,_⟩::_|⟨.bool,_⟩::_|⟨.str,_⟩::_|⟨.lZ,_⟩::_|⟨.nul _,_⟩::_|⟨.pair _ _,_⟩::_|⟨.map ..,_⟩::_=>⟨[],rfl⟩
def gM.pW(hm:s9 p F F' w){K:Row}{E:TypeId}{r:Row}(hp:p r=af):{es:List MapEntry}->{l:List (K.den×List r.den)}->{S:Nat->Prop}->gM H F w K E r ae es l S->gM H' F' w K E r ae es l S
 |[],_,_,h=>h
 |_::_,_,_,h=>by
  obtain⟨k,y,l',A,B,e,h1,⟨⟨xs,h2,h3⟩,h4⟩,h5,h6⟩:=h;exact⟨k,y,l',A,B,e,h1,⟨⟨xs,h2,λi hi=>hm r hp _ _ (h3 i hi)⟩,h4⟩,gM.pW hm hp h5,h6⟩
def Ff(T:TypeId)(K:Row)(E:TypeId)(r:Row):(vs:List kg)->∃l,(cE (.dmap T K E r) vs).1= .dmap T K E r l ae
 |[]=>⟨[],rfl⟩
 |⟨.slice (.pair K' (.slice s)),l⟩::vs=>by
  unfold cE;simp only
  split<;>exact⟨_,rfl⟩
 |⟨.slice (.pair _ (.int _)),_⟩::_|⟨.slice (.pair _ .bool),_⟩::_|⟨.slice (.pair _ .str),_⟩::_|⟨.slice (.pair _ .lZ),_⟩::_|⟨.slice (.pair _ (.nul _)),_⟩::_|⟨.slice (.pair _ (.pair _ _)),_⟩::_|⟨.slice (.pair _ (.map ..)),_⟩::_=>⟨[],rfl⟩
 |⟨.slice (.int _),_⟩::_|⟨.slice .bool,_⟩::_|⟨.slice .str,_⟩::_|⟨.slice (.slice _),_⟩::_|⟨.slice .lZ,_⟩::_|⟨.slice (.nul _),_⟩::_|⟨.slice (.map ..),_⟩::_=>⟨[],rfl⟩
 |⟨.int _,_⟩::_|⟨.bool,_⟩::_|⟨.str,_⟩::_|⟨.lZ,_⟩::_|⟨.nul _,_⟩::_|⟨.pair _ _,_⟩::_|⟨.map ..,_⟩::_=>⟨[],rfl⟩
def uj(hr:Ren H H' φ)(hm:s9 p F F' w){s:OS}{vs:List kg}{S:Nat->Prop}{v:Value}(hp:s.kh p=af)(h:kf H F w S v (cE s vs).1):
 kf H' F' w S v (cE (s.sa φ) vs).1/\(cE (s.sa φ) vs).1.base=(cE (s.sa φ) vs).1/\(∀k,fp S v (cE (s.sa φ) vs).1 k->fp S v (cE s vs).1 k):=by
 have own:∀(T:TypeId)(q:Row)(l:List q.den),p q=af->kf H F w S v (.own T q l)->kf H' F' w S v (.own T q l):=λT q l hq ⟨xs,hx,h3⟩=>⟨xs,hx,λi hi=>hm q hq _ _ (h3 i hi)⟩
 cases s with
 |box T t=>
  obtain⟨b,es,e,h1,h2⟩:=h;exact⟨⟨b,es,e,h1,ta hr hm hp h2⟩,rfl,λk hk=>hk⟩
 |own T r=>
  match vs,h with
  |[],h=>exact⟨own T r [] hp h,rfl,λ_ h=>h⟩
  |⟨.slice s,l⟩::vs,h=>
   have h':kf H F w S v (bif s.beq r then Th.own T s l else .own T r []):=h
   show kf H' F' w S v (bif s.beq r then Th.own T s l else .own T r [])/\Th.base (bif s.beq r then Th.own T s l else .own T r [])=(bif s.beq r then Th.own T s l else .own T r [])/\∀k,fp S v (bif s.beq r then Th.own T s l else .own T r []) k->fp S v (bif s.beq r then Th.own T s l else .own T r []) k
   cases hb:s.beq r with
   |true=>
    rw[hb,cond_true]at h';obtain rfl:=Row.eq_of_beq hb;exact⟨own T s l hp h',rfl,λ_ h=>h⟩
   |false=>
    rw[hb,cond_false]at h';exact⟨own T r [] hp h',rfl,λ_ h=>h⟩
  |⟨.int _,_⟩::vs,h=>exact⟨own T r [] hp h,rfl,λ_ h=>h⟩
  |⟨.bool,_⟩::vs,h=>exact⟨own T r [] hp h,rfl,λ_ h=>h⟩
  |⟨.str,_⟩::vs,h=>exact⟨own T r [] hp h,rfl,λ_ h=>h⟩
  |⟨.lZ,_⟩::vs,h=>exact⟨own T r [] hp h,rfl,λ_ h=>h⟩
  |⟨.nul _,_⟩::vs,h=>exact⟨own T r [] hp h,rfl,λ_ h=>h⟩
  |⟨.map ..,_⟩::vs,h=>exact⟨own T r [] hp h,rfl,λ_ h=>h⟩
  |⟨.pair _ _,_⟩::vs,h=>exact⟨own T r [] hp h,rfl,λ_ h=>h⟩
 |map T K agg V=>
  have gen:∀l:List (K.den×V.den),kf H F w S v (.map T K agg V l)->kf H' F' w S v (.map T K agg V l):=by
   rintro l ⟨b,es,clock,e,h1,h2,h3⟩
   exact⟨b,es,clock,e,h1,h2,nl.pW (λcs x hr=>hm V hp cs x hr) h3⟩
  obtain⟨l,hl⟩:=I3 T K agg V vs
  show kf H' F' w S v (cE (OS.map T K agg V) vs).1/\(cE (OS.map T K agg V) vs).1.base=(cE (OS.map T K agg V) vs).1/\∀k,fp S v (cE (OS.map T K agg V) vs).1 k->fp S v (cE (OS.map T K agg V) vs).1 k
  rw[hl]at h⊢;exact⟨gen l h,rfl,λ_ h=>h⟩
 |deep T d=>
  obtain⟨l,hl⟩:=Fe T d vs
  show kf H' F' w S v (cE (OS.deep T d) vs).1/\(cE (OS.deep T d) vs).1.base=(cE (OS.deep T d) vs).1/\∀k,fp S v (cE (OS.deep T d) vs).1 k->fp S v (cE (OS.deep T d) vs).1 k
  rw[hl]at h⊢;refine⟨?_,rfl,λ_ h=>h⟩;have h':lr F w (.sl T d) v l S:=h;exact(lr.pW (d:= .sl T d) hm hp h':lr F' w (.sl T d) v l S)
 |dmap T K E r=>
  obtain⟨l,hl⟩:=Ff T K E r vs
  show kf H' F' w S v (cE (OS.dmap T K E r) vs).1/\(cE (OS.dmap T K E r) vs).1.base=(cE (OS.dmap T K E r) vs).1/\∀k,fp S v (cE (OS.dmap T K E r) vs).1 k->fp S v (cE (OS.dmap T K E r) vs).1 k
  rw[hl]at h⊢;refine⟨?_,rfl,λ_ h=>h⟩;obtain⟨b,es,clock,B,e,h1,h2,h3,h4,_⟩:=h;exact⟨b,es,clock,B,e,h1,h2,h3.pW hm hp,h4,λ_ _ e=>by cases e⟩
theorem zv:{l:List (Nat×SS)}->{vs:List kg}->{t:Nat}->{d:aI}->sd p l=af->find (dg (s8 φ l) vs).1 t=aa d->∃s us,d=(eZ (s.sa φ) us).1/\find (dg l vs).1 t=aa (eZ s us).1/\s.kh p=af
 |[],_,_,_,_,h=>by cases h
 |(t0,s)::l,vs,t,d,hp,h=>by
  obtain⟨p1,p2⟩:=de hp;have h':find ((t0,(eZ (s.sa φ) vs).1)::(dg (s8 φ l) (eZ (s.sa φ) vs).2).1) t=aa d:=h
  show∃s' us,d=_/\find ((t0,(eZ s vs).1)::(dg l (eZ s vs).2).1) t=_/\_
  rw[aZ]at h';by_cases e:t0=t
  .grind [aZ]
  .rw[ai e]at h';rw[zt]at h';obtain⟨s',us,a1,a2,a3⟩:=zv p2 h'
   grind [aZ]
def LS(hr:Ren H H' φ)(hm:s9 p F F' w){ρ:Nat->Value}{l:List (Nat×SS)}{vs:List kg}(hp:sd p l=af)(h:∀t d,find (dg l vs).1 t=aa d->aH H F w d (ρ t)):∀t d,find (dg (s8 φ l) vs).1 t=aa d->aH H' F' w d (ρ t):=by
 grind [zv,I2]
def CV{m m':Nat}:{l:List (Nat×OS)}->{vs:List kg}->{o s:Nat}->{t:Th}->find (iV m (CR φ l) vs) o=aa (s,t)->∃j s' us sh,φ j=o/\t=(cE (sh.sa φ) us).1/\find (iV m' l vs) j=aa (s',(cE sh us).1)/\(zq p l=af->sh.kh p=af)/\s7 (iV m (CR φ l) vs) s=aa t/\m<=s/\s<m+l.length/\s'=s-m+m'
 |[],_,_,_,_,h=>by cases h
 |(j,sh)::l,vs,o,s,t,h=>by
  have h':find ((φ j,(m,(cE (sh.sa φ) vs).1))::iV (m+1) (CR φ l) (cE (sh.sa φ) vs).2) o=aa (s,t):=h;rw[aZ]at h';split at h'
  .rename_i e;simp only[ajj,Prod.mk.injEq]at h';obtain⟨rfl,rfl⟩:=h';refine⟨j,m',vs,sh,e,rfl,?_,λhp=>(de hp).1,?_,ajh _,by simp,by omega⟩
   .show find ((j,(m',(cE sh vs).1))::_) j=_
    rw[aZ,aj rfl]
   .show(bif ajf m m then _ else _)=_
    simp
  .rename_i e;rw[zu]at h';obtain⟨j',s',us,sh',a1,a2,a3,a4,a5,a6,a7,a8⟩:=CV (m':=m'+1) h';refine⟨j',s',us,sh',a1,a2,?_,λhp=>a4 (de hp).2,?_,by omega,by grind,by omega⟩
   all_goals grind [iV,aZ,s7,CR,beq_true,zu]
def Fg:List (Nat×aI)->Option (List (Bool×Tree))
 |[]=>aa []
 |(_, .val a t)::l=>match Fg l with
  |some ds=>aa ((a,t)::ds)
  |none=>ae
 |_::_=>ae
def LU:List (Nat×aI)->Option aI
 |[]=>aa .dead
 |[(_,d)]=>aa d
 |l=>match Fg l with
  |some ds=>aa (.tup ds)
  |none=>ae
def uk:Nat->List (Nat×SS)->Bool
 |_,[]=>af
 |k,(t,_)::l=>ajf t k&&uk (k+1) l
def G6:{l:List (Nat×SS)}->{vs:List kg}->{k t:Nat}->{d:aI}->uk k l=af->find (dg l vs).1 t=aa d->k<=t
 |[],_,_,_,_,_,h=>by cases h
 |(t0,s)::l,vs,k,t,d,hi,h=>by
  obtain⟨h1,h2⟩:=de hi;have h':find ((t0,(eZ s vs).1)::(dg l (eZ s vs).2).1) t=aa d:=h;rw[aZ]at h';have:=beq_true h1;split at h'
  .omega
  .have:=G6 h2 h';omega
def LV{f:Nat->Value}:{l:List (Nat×SS)}->{vs:List kg}->{k:Nat}->{ds:List (Bool×Tree)}->uk k l=af->(∀t d,find (dg l vs).1 t=aa d->aH H F w d (f t))->Fg (dg l vs).1=aa ds->sM H F w ds ((List.range' k l.length).map f)
 |[],_,_,_,_,_,h=>by cases h;rfl
 |(t0,s)::l,vs,k,ds,hi,sL,h=>by
  obtain⟨h1,h2⟩:=de hi;obtain rfl:=beq_true h1;have h':Fg ((t0,(eZ s vs).1)::(dg l (eZ s vs).2).1)=aa ds:=h;have U1:∀t d,find ((t0,(eZ s vs).1)::(dg l (eZ s vs).2).1) t=aa d->aH H F w d (f t):=sL;have h0:=U1 t0 _ (by rw[aZ,aj rfl]);generalize(eZ s vs).1=d0 at*
  cases d0<;>unfold Fg at h'<;>try cases h'
  rename_i a t
  split at h'<;>cases h'
  rename_i YB yt;refine⟨f t0,(List.range' (t0+1) l.length).map f,by simp[List.range'_succ],h0,LV h2 (λt d hf=>U1 t d ?_) yt⟩;have:=G6 h2 hf
  grind [aZ]
def CW:{l:List (Nat×SS)}->{k:Nat}->uk k (s8 φ l)=uk k l
 |[],_=>rfl
 |(t,s)::l,k=>by
  show(ajf t k&&uk (k+1) (s8 φ l))=_
  rw[CW];rfl
def vb:{l:List (Nat×SS)}->(s8 φ l).length=l.length
 |[]=>rfl
 |(t,s)::l=>by
  show(s8 φ l).length+1=l.length+1
  rw[vb]
def Fh(us:List Value):(List.range' 0 us.length).map (λt=>us.getD t undef)=us:=by
 apply List.ext_getElem (by simp)
 grind
def Rv{l:List (Nat×SS)}{vs:List kg}{us:List Value}{D:aI}(hi:uk 0 l=af)(hl:us.length=l.length)(sL:∀t d,find (dg l vs).1 t=aa d->aH H F w d (us.getD t undef))(h:LU (dg l vs).1=aa D):aH H F w D (yy us):=by
 have tup:∀ds,Fg (dg l vs).1=aa ds->us.length≠1->aH H F w (.tup ds) (yy us):=by
  intro ds yt dw;have:=LV hi sL yt;rw[<-hl,Fh]at this;refine⟨us,?_,this⟩
  match us,dw with
  |[],_=>rfl
  |[_],h=>exact absurd rfl h
  |_::_::_,_=>rfl
 match l,hl,h with
 |[],_,h=>obtain rfl:=aja h;trivial
 |[(t,s)],hl,h=>
  have h':LU [(t,(eZ s vs).1)]=aa D:=h;obtain rfl:=aja h';have ht:=beq_true (de hi).1
  match us,hl with
  |[u],_=>
   have:=sL t (eZ s vs).1 (by
    show find [(t,(eZ s vs).1)] t=_
    rw[aZ,aj rfl])
   rw[ht]at this;exact this
 |(t,s)::(t',s')::l,hl,h=>
  have h':(match Fg (dg ((t,s)::(t',s')::l) vs).1 with|some ds=>aa (aI.tup ds)|none=>ae)=aa D:=h
  grind
end
end
section
def jw:Nat->List aI->List (Nat×aI)
 |_,[]=>[]
 |k,d::ds=>(k,d)::jw (k+1) ds
def Qk(n:Nat)(bs:Bs)(bh:List (Nat×(Nat×Th)))(m:Nat)(j:Nat):Nat:=
 bif ajK j m then(match find bs j with
  |some (aa o)=>(match find bh o with
   |some _=>o
   |none=>n+j)
  |_=>n+j)else n+j
def pX(bh:List (Nat×(Nat×Th))):List Nat->List (Nat×(Nat×Th))
 |[]=>[]
 |o::os=>match find bh o with
  |some (s,t)=>bif fE t then(o,(s,t))::pX bh os else pX bh os
  |none=>pX bh os
def always(_:Row):Bool:=af
def G7(sg:oN):Bool:=sd Row.CS sg.out.aJ&&zq Row.CS sg.out.objs
def um{R:Type}(sg:oN)(n:Nat)(bs:Bs)(bh:List (Nat×(Nat×Th)))(nd:List Nat)(y:dC sg.out.rows)(k:eD->Option R):Option R:=
 match LU (dg (s8 (Qk n bs bh sg.inn.nxt) sg.out.aJ) (dJ _ y)).1 with
 |some D=>bif G7 sg then k {dst:=D,eat:=iW bs,make:=iV n (CR (Qk n bs bh sg.inn.nxt) sg.out.objs) (dg (s8 (Qk n bs bh sg.inn.nxt) sg.out.aJ) (dJ _ y)).2}
   else k {dst:=D,eat:=iW bs++nd,make:=iV n (CR (Qk n bs bh sg.inn.nxt) sg.out.objs) (dg (s8 (Qk n bs bh sg.inn.nxt) sg.out.aJ) (dJ _ y)).2++pX bh nd}
 |none=>ae
def pB{R:Type}(objs:List (Nat×(Nat×Th)))(n:Nat)(f:FuncId)(ds:List aI)(k:eD->Option R):List (Nat×oN)->Option R
 |[]=>ae
 |(g,sg)::tab=>bif ajf g f then(match zo 0 [] sg.inn (jw 0 ds) objs with
    |some (x,bs,bh)=>bif ajf ds.length sg.inn.aJ.length&&uk 0 sg.out.aJ&&Nat.ble sg.out.nxt 16&&Nat.ble sg.out.objs.length 16&&(sd always sg.out.aJ)then
      (sg.fn x).bind λy=>um sg n bs bh (zn 0 sg.inn (jw 0 ds) objs) y k else ae
    |none=>pB objs n f ds k tab)else pB objs n f ds k tab
def U2(c:Nat×List Bool×Nat):aI:= .ptr c.1 c.2.1 c.2.2
def wX{H:aK}{F:Nat->Prop}{w:World}:{cs:List (Nat×List Bool×Nat)}->{vs:List Value}->mh H cs vs->fX H F w (cs.map U2) vs
 |[],_,h=>h
 |_::_,_,h=>by obtain⟨v,us,e,h1,h3⟩:=h;exact⟨v,us,e,h1,wX h3⟩
def tc{H:aK}{F:Nat->Prop}{w:World}:{ds es:List aI}->{vs us:List Value}->fX H F w ds vs->fX H F w es us->fX H F w (ds++es) (vs++us)
 |[],_,vs,_,h,h'=>by rw[show vs=[]from h];exact h'
 |_::_,_,_,_,h,h'=>by obtain⟨v,us,rfl,h1,h2⟩:=h;exact⟨v,_,rfl,h1,tc h2 h'⟩
def G8(rd:Operand->Option aI)(x:Operand):Option (FuncId×List (Nat×List Bool×Nat)):=
 match rd x with
 |some (.fn f caps)=>aa (f,caps)
 |_=>ae
def zw{R:Type}(tab:List (Nat×oN))(rd:Operand->Option aI)(objs:List (Nat×(Nat×Th)))(n:Nat)(x:Operand)(args:List Operand)(k:eD->Option R):Option R:=
 match G8 rd x with
 |some (f,caps)=>match sS rd args with
  |some ds=>pB objs n f (ds++caps.map U2) k tab
  |none=>ae
 |none=>ae
section
variable {P:Program} {ρ:Nat->Value} {w w':World} {H H':aK} {F F':Nat->Prop} {U:Nat->Prop} {n:Nat} {R:Type}
variable {ty:TypeId} {pos:String} {aft:Array Edge} {dst:Option Nat}
def qj:{ds:List aI}->{vs:List Value}->{k:Nat}->fX H F w ds vs->∀t d,find (jw k ds) t=aa d->k<=t/\aH H F w d (vs.getD (t-k) undef)
 |[],_,_,_,_,_,h=>by cases h
 |d0::ds,vs,k,h,t,d,hf=>by
  obtain⟨v,us,rfl,h1,h2⟩:=h;have uW:find ((k,d0)::jw (k+1) ds) t=aa d:=hf;rw[aZ]at uW;split at uW
  .grind
  .obtain⟨h3,h4⟩:=qj h2 t d uW
   grind
theorem nM{bh:List (Nat×(Nat×Th))}:{nd:List Nat}->{o s:Nat}->{t:Th}->find (pX bh nd) o=aa (s,t)->o∈nd/\find bh o=aa (s,t)/\fE t=af
 |[],_,_,_,h=>by cases h
 |o0::nd,o,s,t,h=>by
  unfold pX at h;split at h
  .rename_i s0 t0 h0
   cases hb:fE t0 with
   |true=>
    rw[hb,cond_true,aZ]at h;split at h
    .grind
    .obtain⟨a,b⟩:=nM h;exact⟨by simp[a],b⟩
   |false=>
    rw[hb,cond_false]at h;obtain⟨a,b⟩:=nM h;exact⟨by simp[a],b⟩
  .obtain⟨a,b⟩:=nM h;exact⟨by simp[a],b⟩
def td:{l:List (Nat×OS)}->zq always l=af
 |[]=>rfl
 |(t,s)::l=>by
  have ht:∀sh:Sh,sh.kh always=af:=by
   intro sh
   induction sh with
   |leaf r=>rfl
   |own j=>rfl
   |nil=>rfl
   |junk n=>rfl
   |pair a b YY YZ=>show(a.kh always&&b.kh always)=af;rw[YY,YZ];rfl
  have:s.kh always=af:=by
   cases s with
   |box T t=>exact ht t
   |own T r=>rfl
   |map T K agg V=>rfl
   |deep T d=>
    have hd:∀d:DR,d.kh always=af:=by
     intro d
     induction d with
     |leaf r=>rfl
     |sl T d ih=>exact ih
     |pair a b YY YZ=>show(a.kh always&&b.kh always)=af;rw[YY,YZ];rfl
    exact hd d
   |dmap T K E r=>rfl
  show(s.kh always&&zq always l)=af
  rw[this,td];rfl
def ni(H H':aK)(n:Nat)(cons:List (Nat×(Nat×Th)))(m0:Nat):aK where
 val m:=if n<=m/\m<n+16 then H'.val (m-n)else H.val m
 con m:=if n<=m/\m<n+16 then s7 cons m else H.con m
 sub m:=if n<=m/\m<n+16 then H'.sub (m-n+m0)else H.sub m
def I4{dd:Option Nat}{f:FuncId}{fn:Func}{g:Operand}{args:Array Operand}{vs us:List Value}{wY:Array TypeId}(hf:P.funcs[f]? =aa fn)(hn:(fn.name== "runtime.NumGoroutine")=ag)(hb:fn.body.isNone=ag)(UD:args.toList.map (ev ρ)=vs)(hg:ev ρ g= .func (.func f) #[] us.toArray):
 (execOp (ev ρ) ⟨dd, .call {callee:= .value g,args:=args,argTypes:=wY},ty,pos,aft,ae⟩).run P w= .ok (.enter f (vs++us).toArray) w:=by
 subst UD
 have N2:¬fn.name= "runtime.NumGoroutine" :=by simpa using hn
 have qR:¬fn.body=ae:=by
  intro e;rw[e]at hb;cases hb
 have e:(Array.map (ev ρ) args++us.toArray)=(args.toList.map (ev ρ)++us).toArray:=by simp
 simp[execOp,resolve,hg,Deferred.ofValue,invoke,callFunc,hf,N2,qR,go_sem,e]
def I5{sg:oN}{f:FuncId}(yz:fZ P f sg){objs:List (Nat×(Nat×Th))}{op:Op}{k:eD->Option R}{q:R}{ds:List aI}{vs:List Value}{x:dC sg.inn.rows}{bs:Bs}{bh:List (Nat×(Nat×Th))}
 (zx:fX H F w ds vs)(bJ:∀fn,P.funcs[f]? =aa fn->(fn.name== "runtime.NumGoroutine")=ag->fn.body.isNone=ag->(execOp (ev ρ) ⟨dst,op,ty,pos,aft,ae⟩).run P w= .ok (.enter f vs.toArray) w)(hs:aL U H F w (find objs) n)
 (vU:zo 0 [] sg.inn (jw 0 ds) objs=aa (x,bs,bh))
 (h':(bif ajf ds.length sg.inn.aJ.length&&uk 0 sg.out.aJ&&Nat.ble sg.out.nxt 16&&Nat.ble sg.out.objs.length 16&&(sd always sg.out.aJ)then
   (sg.fn x).bind λy=>um sg n bs bh (zn 0 sg.inn (jw 0 ds) objs) y k else ae)=aa q):
 ∃e,k e=aa q/\cO P U H F w ρ (find objs) n ⟨dst,op,ty,pos,aft,ae⟩ e:=by
 obtain⟨hc,h'⟩:=be h';obtain⟨hc,hc5⟩:=de hc;obtain⟨hc,UI⟩:=de hc;obtain⟨hc,Oe⟩:=de hc;obtain⟨yV,yc⟩:=de hc;have yV:=beq_true yV
 have Oe:sg.out.nxt<=16:=by simpa using Oe
 have UI:sg.out.objs.length<=16:=by simpa using UI
 obtain⟨y,hy,h⟩:=bind_some h';clear h';obtain⟨⟨fn,hf1,hf2,hf3⟩,sL⟩:=yz;have acM:=lu zx
 let H0:aK:=⟨λ_=>ae,λ_=>ae,λ_ _=>False⟩
 have Ru:aL U H0 F w (find (del [] [])) 0:=⟨λ_ _ _ h=>(by cases h),λ_ _ _ _ _ _ _ _ _ h=>(by cases h),λ_ _ _=>⟨rfl,rfl⟩,hs.lt,hs.new,hs.gl⟩
 have hk0:cU H0 F w H F w:=⟨⟨λ_ _ h=>(by cases h),λ_ _ h=>(by cases h),λ_ _ h=>(by cases h)⟩,Step.refl F w⟩
 have gY:∀t d,find (jw 0 ds) t=aa d->aH H F w d (vs.getD t undef):=λt d hd=>by simpa using(qj zx t d hd).2
 obtain⟨F1,H1,sZ,EF,NM,yx,CQ,ui,G5,Rx,CX⟩:=wV (U':=λk=>w.heap.size<=k\/∃o∈iW bs,∃s t v,find bh o=aa (s,t)/\H.val o=aa v/\fp (H.sub s) v t k) (ns:=[]) (objs0:=[]) (ρ:=λt=>vs.getD t undef) vU Ru (λ_ _=>⟨rfl,rfl⟩) hk0 hs gY;have CX:=CX (λb hb=> .inl hb) (by grind) (λ_ _ _ _ _ h=>by cases h);generalize hG:(λk=>∃o∈iW bs,∃s t v,find bh o=aa (s,t)/\H.val o=aa v/\fp (H.sub s) v t k)=G
 have U3:∀k,G k->¬F1 k:=by
  rw[<-hG]
  rintro k ⟨o,_,s,t,v,h1,h2,h3⟩
  obtain⟨v',dZ,cT⟩:=sZ.obj _ _ _ h1;rw[h2]at dZ;obtain rfl:=aja dZ;exact cT.no k h3
 have Y0:∀k,G k->cD H (find objs) (iW bs) k:=by
  rw[<-hG]
  rintro k ⟨o,ho,s,t,v,h1,h2,h3⟩
  rcases jv yx o s t h1 with h4|h4
  .exact⟨o,ho,s,t,v,h4,h2,h3⟩
  .exact(iQ h4 h3).elim
 have U4:aL (λk=>w.heap.size<=k\/G k) H1 F1 w (find (iV 0 sg.inn.objs (dg sg.inn.aJ (dJ sg.inn.rows x)).2)) sg.inn.nxt:=by
  rw[show del [] ([]:List (Nat×(Nat×Th)))=[]from rfl,ajS]at CX;rw[<-hG];exact CX
 have U5:=sL x y hy vs w H1 F1 G (by omega) Rx U4 G5 U3;generalize Om:zn 0 sg.inn (jw 0 ds) objs=nd at h NM yx;generalize Y1:Qk n bs bh sg.inn.nxt=φ at h;unfold um at h;rw[Y1]at h;split at h
 case h_2=>cases h
 rename_i D hD
 have IS:∀(e:eD),e.dst=D->(∀(w':World)(us:List Value)(H':aK)(F':Nat->Prop),us.length=sg.out.aJ.length->Ext G w w'->H1.le H'->(∀b,F1 b->F' b)->(∀b,F' b->F1 b\/w.heap.size<=b\/G b)->
  (∀t d,find (dg sg.out.aJ (dJ sg.out.rows y)).1 t=aa d->aH H' F' w' d (us.getD t undef))->aL (λk=>w.heap.size<=k\/G k) H' F' w' (find (iV sg.inn.nxt sg.out.objs (dg sg.out.aJ (dJ sg.out.rows y)).2)) sg.out.nxt->jr H' sg.out.nxt->ma H F w (find objs) n e (yy us) w')->
  cO P U H F w ρ (find objs) n ⟨dst,op,ty,pos,aft,ae⟩ e:=by
  intro e he vd;have bJ:=bJ fn hf1 hf2 hf3;unfold cO cA;rw[bJ];refine U5.mono (by grind)
 generalize G4:iV n (CR φ sg.out.objs) (dg (s8 φ sg.out.aJ) (dJ sg.out.rows y)).2=cons at h;have Y2:=CU (φ:=φ) sg.out.aJ (dJ sg.out.rows y)
 have Ry:∀{H':aK},H1.le H'->jr H' sg.out.nxt->Ren H' (ni H H' n cons sg.inn.nxt) φ/\H.le (ni H H' n cons sg.inn.nxt)/\∀m,(m<n\/n+16<=m)->(H.val m=ae->(ni H H' n cons sg.inn.nxt).val m=ae)/\(H.con m=ae->(ni H H' n cons sg.inn.nxt).con m=ae):=by
  intro H' hle yf
  have OC:∀j v,H'.val j=aa v->j<sg.out.nxt:=λj v hj=>by
   rcases Nat.lt_or_ge j sg.out.nxt with g|g
   .exact g
   .rw[(yf j g).1]at hj;cases hj
  have hold:∀o v,H.val o=aa v->¬(n<=o/\o<n+16):=λo v ho hc=>by
   rw[(hs.fresh o hc.1 hc.2).1]at ho;cases ho
  refine⟨λj v hj=>?_,⟨λo v ho=>?_,λs t gD=>?_,λs t gD=>?_⟩,λm hm=>?_⟩
  .rw[<-Y1];have hjn:=OC j v hj
   have gen:(ni H H' n cons sg.inn.nxt).val (n+j)=aa v:=by
    simp only[ni];rw[aj (by omega),Nat.add_sub_cancel_left];exact hj
   unfold Qk
   cases hb:ajK j sg.inn.nxt with
   |false=>simpa using gen
   |true=>
    rw[cond_true];split
    .rename_i o ho;split
     case h_2=>exact gen
     rename_i e he;obtain⟨u,hu,_⟩:=sZ.obj o e.1 e.2 he;have h1:=hle.val _ _ (ui j (aa o) ho u hu)
     grind [ni]
    .exact gen
  .grind [ni]
  .simp only[ni];rw[ai (λhc=>by rw[(hs.fresh s hc.1 hc.2).2]at gD;cases gD)];exact gD
  .simp only[ni];rw[ai (λhc=>by rw[(hs.fresh s hc.1 hc.2).2]at gD;cases gD)]
  .grind [ni]
 have made:∀{p:Row->Bool}{us:List Value}{w':World}{H':aK}{F' F2:Nat->Prop}{eat:List Nat},us.length=sg.out.aJ.length->sd p sg.out.aJ=af->zq p sg.out.objs=af->s9 p F' F2 w'->Ext G w w'->H1.le H'->(∀b,F2 b->F' b)->(∀o,o∈iW bs->o∈eat)->
  (∀t d,find (dg sg.out.aJ (dJ sg.out.rows y)).1 t=aa d->aH H' F' w' d (us.getD t undef))->aL (λk=>w.heap.size<=k\/G k) H' F' w' (find (iV sg.inn.nxt sg.out.objs (dg sg.out.aJ (dJ sg.out.rows y)).2)) sg.out.nxt->jr H' sg.out.nxt->
  aH (ni H H' n cons sg.inn.nxt) F2 w' D (yy us)/\Made (ni H H' n cons sg.inn.nxt) F2 w w' (cD H (find objs) eat) cons/\∀o,(find cons o).isSome->o∈eat\/n<=o:=by
  intro p us w' H' F' F2 eat Rz XJ XK XU bY hle NM mj IE OD U6;obtain⟨hr,_,_⟩:=Ry hle U6
  have G9:∀o s t,find cons o=aa (s,t)->∃j s' us sh,φ j=o/\t=(cE (sh.sa φ) us).1/\find (iV sg.inn.nxt sg.out.objs (dg sg.out.aJ (dJ sg.out.rows y)).2) j=aa (s',(cE sh us).1)/\sh.kh p=af/\s7 cons s=aa t/\n<=s/\s<n+16/\(ni H H' n cons sg.inn.nxt).sub s=H'.sub s':=by
   intro o s t ho;rw[<-G4]at ho⊢;rw[Y2]at ho⊢;obtain⟨j,s',Y3,sh,a1,a2,a3,a4,a5,a6,a7,a8⟩:=CV (m':=sg.inn.nxt) ho
   have aG:s<n+16:=by omega
   refine⟨j,s',Y3,sh,a1,a2,a3,a4 XK,a5,a6,aG,?_⟩;simp only[ni];rw[aj ⟨a6,aG⟩,a8]
  refine⟨?_,⟨λo s t ho=>?_,λo o' s s' t t' v v' dw ho jY hv dZ k hk iU=>?_⟩,λo ho=>?_⟩
  .exact Rv (by rw[CW];exact yc) (by rw[vb];exact Rz) (LS hr XU XJ IE) hD
  .obtain⟨j,s',Y3,sh,rfl,rfl,a3,a4,a5,a6,a7,a8⟩:=G9 o s t ho;rw[a8];obtain⟨v,hv,cT⟩:=OD.obj _ _ _ a3;obtain⟨b1,b2,b3⟩:=uj hr XU a4 cT.ok;refine⟨v,hr j v hv,cT.one,?_,b1,λk hk=>⟨λe=>cT.no k (b3 k hk) (NM k e),cT.lt k (b3 k hk),?_⟩⟩
   .grind [ni]
   .rcases cT.use k (b3 k hk)with h1|h1
    .exact .inl h1
    .obtain⟨o',jY,rest⟩:=Y0 k h1;exact .inr ⟨o',mj o' jY,rest⟩
  .obtain⟨j,s1,us1,sh,rfl,rfl,a3,a4,a5,a6,_,a8⟩:=G9 o s t ho;obtain⟨j',s1',aeH,sh',rfl,rfl,a3',a4',a5',a6',_,a8'⟩:=G9 o' s' t' jY;rw[a8]at hk;rw[a8']at iU;obtain⟨u,hu,cT⟩:=OD.obj _ _ _ a3;obtain⟨u',AB,CI⟩:=OD.obj _ _ _ a3';have e1:=hr j u hu;rw[hv]at e1;obtain rfl:=aja e1;have e2:=hr j' u' AB;rw[dZ]at e2;obtain rfl:=aja e2;exact OD.apart j j' _ _ _ _ _ _ (λe=>dw (by rw[e])) a3 a3' hu AB k ((uj hr XU a4 cT.ok).2.2 k hk) ((uj hr XU a4' CI.ok).2.2 k iU)
  .obtain⟨e,he⟩:=ajE.1 ho;obtain⟨j,s',Y3,sh,rfl,_⟩:=G9 o e.1 e.2 he;rw[<-Y1];unfold Qk
   cases ajK j sg.inn.nxt with
   |false=>exact .inr (by simp)
   |true=>
    grind [kV]
 have U7:∀{w':World}{eat:List Nat},Ext G w w'->(∀o,o∈iW bs->o∈eat)->Ext (cD H (find objs) eat) w w':=λbY mj=>⟨bY.os,bY.tape,bY.output,bY.size,λk hk hn=>bY.block k hk λhG=>hn (by
  obtain⟨o,ho,rest⟩:=Y0 k hG
  exact⟨o,mj o ho,rest⟩)⟩
 cases XV:G7 sg with
 |true=>
  rw[XV,cond_true]at h;obtain⟨p1,p2⟩:=de XV;refine⟨_,h,IS _ rfl λw' us H' F' Rz a1 a2 a3 a4 a5 a6 a7=>?_⟩;obtain⟨_,g2,g3⟩:=Ry a2 a7;obtain⟨m1,m2,m3⟩:=made (F2:=F) (eat:=iW bs) Rz p1 p2 (λr hr cs x hx=>cI.Fc hr hx) a1 a2 (λb hb=>a3 b (EF b hb)) (λ_ h=>h) a5 a6 a7;exact⟨_,F,⟨g2,U7 a1 (λ_ h=>h),λ_ h=>h,λ_ h=> .inl h,λb hb=>ajA (hs.lt b hb) a1.size⟩,g3,m1,m2,m3⟩
 |false=>
  rw[XV,cond_false]at h;refine⟨_,h,IS _ rfl λw' us H' F' Rz a1 a2 a3 a4 a5 a6 a7=>?_⟩;obtain⟨_,g2,g3⟩:=Ry a2 a7;obtain⟨m1,m2,m3⟩:=made (F2:=F') (eat:=iW bs++nd) Rz hc5 td (λr _ cs x hx=>hx) a1 a2 (λ_ h=>h) (λo h=>by simp[h]) a5 a6 a7
  have gD:Step F1 w F' w':=λb hb=>⟨a3 b hb,a1.block b (sZ.lt b hb) λe=>U3 b e hb⟩
  have vB:∀o s t,find (pX bh nd) o=aa (s,t)->o∈nd/\fE t=af/\∃v,H.val o=aa v/\v.oneCell'=af/\H.con s=aa t.base/\kf H F1 w (H.sub s) v t:=by
   intro o s t ho;obtain⟨b1,b2,b3⟩:=nM ho;obtain⟨v,hv,cT⟩:=sZ.obj _ _ _ b2;exact⟨b1,b3,v,hv,cT.one,cT.con,cT.ok⟩
  have part:∀o s t,find (cons++pX bh nd) o=aa (s,t)->find cons o=aa (s,t)\/find (pX bh nd) o=aa (s,t):=by
   intro o s t ho;rw[jo]at ho
   cases hm:find cons o with
   |some e=>grind
   |none=>grind
  refine⟨_,F',⟨g2,U7 a1 (λo h=>by simp[h]),λb hb=>a3 b (EF b hb),λb hb=>?_,a6.lt⟩,g3,m1,⟨λo s t ho=>?_,λo o' s s' t t' v v' dw ho jY hv dZ k hk iU=>?_⟩,λo ho=>?_⟩
  .rcases a4 b hb with h1|h1|h1
   .rcases NM b h1 with h2|⟨o,ho,rest⟩
    .exact .inl h2
    .exact .inr (.inr ⟨o,by simp[ho],rest⟩)
   .exact .inr (.inl h1)
   .obtain⟨o,ho,rest⟩:=Y0 b h1;exact .inr (.inr ⟨o,by simp[ho],rest⟩)
  .rcases part o s t ho with h1|h1
   .exact m2.obj o s t h1
   .obtain⟨b1,b2,v,b3,b4,b5,b6⟩:=vB o s t h1;refine⟨v,g2.val _ _ b3,b4,g2.con _ _ b5,by rw[g2.sub _ _ b5];exact b6.heap g2 gD (λk hk=>(iQ b2 hk).elim),λk hk=>(iQ b2 hk).elim⟩
  .rcases part o s t ho with h1|h1<;>rcases part o' s' t' jY with h2|h2
   .exact m2.apart o o' s s' t t' v v' dw h1 h2 hv dZ k hk iU
   .grind [iQ]
   .exact iQ (vB o s t h1).2.1 hk
   .exact iQ (vB o s t h1).2.1 hk
  grind [ajE]
def o5{U8:List (Nat×oN)}(yz:∀p∈U8,fZ P p.1 p.2){objs:List (Nat×(Nat×Th))}{f:FuncId}{op:Op}{k:eD->Option R}{q:R}{ds:List aI}{vs:List Value}
 (zx:fX H F w ds vs)(bJ:∀fn,P.funcs[f]? =aa fn->(fn.name== "runtime.NumGoroutine")=ag->fn.body.isNone=ag->(execOp (ev ρ) ⟨dst,op,ty,pos,aft,ae⟩).run P w= .ok (.enter f vs.toArray) w)(hs:aL U H F w (find objs) n):{tab:List (Nat×oN)}->(∀p∈tab,p∈U8)->pB objs n f ds k tab=aa q->
 ∃e,k e=aa q/\cO P U H F w ρ (find objs) n ⟨dst,op,ty,pos,aft,ae⟩ e
 |[],_,h=>by cases h
 |(f0,sg)::tab,cT,h=>by
  unfold pB at h
  cases hb:ajf f0 f with
  |false=>rw[hb,cond_false]at h;exact o5 yz zx bJ hs (λp hp=>cT p (by simp[hp])) h
  |true=>
   rw[hb,cond_true]at h;obtain rfl:=beq_true hb;split at h
   case h_2=>exact o5 yz zx bJ hs (λp hp=>cT p (by simp[hp])) h
   rename_i x bs bh vU;exact I5 (yz (f0,sg) (cT _ (by simp))) zx bJ hs vU h
def CY{tab:List (Nat×oN)}(yz:∀p∈tab,fZ P p.1 p.2){rd:Operand->Option aI}(gO:∀x d,rd x=aa d->aH H F w d (ev ρ x)){objs:List (Nat×(Nat×Th))}{g:Operand}{args:Array Operand}{wY:Array TypeId}{k:eD->Option R}{q:R}
 (h:zw tab rd objs n g args.toList k=aa q)(hs:aL U H F w (find objs) n):
 ∃e,k e=aa q/\cO P U H F w ρ (find objs) n ⟨dst, .call {callee:= .value g,args:=args,argTypes:=wY},ty,pos,aft,ae⟩ e:=by
 unfold zw at h;split at h
 case h_2=>cases h
 rename_i f caps hc;split at h
 case h_2=>cases h
 rename_i ds yt;unfold G8 at hc;split at hc
 case h_2=>cases hc
 rename_i f' acP hg;cases hc;obtain⟨us,h1,h2⟩:=gO _ _ hg;exact o5 yz (tc (oU (w:=w) (H:=H) (F:=F) (ρ:=ρ) gO yt) (wX (F:=F) (w:=w) h2)) (λfn g1 g2 g3=>I4 g1 g2 g3 rfl h1) hs (λ_ h=>h) h
end
end
section
section
variable {P:Program} {ρ:Nat->Value} {w w':World} {H H':aK} {F F':Nat->Prop} {U:Nat->Prop} {ob:Nat->Option (Nat×Th)} {n:Nat} {R:Type}
variable {op:Op} {ty:TypeId} {pos:String} {aft:Array Edge} {d:Nat} {dst:Option Nat}
def Ks.Ha:Ks->Bool
 | .other=>ag
 |_=>af
def yW.Ha{t:TypeId}{k:Ks}(h:yW P t k)(hk:k.Ha=af):∃D,P.underlying t=aa D/\∀ms,D≠ .interface ms:=by
 cases k with
 |other=>cases hk
 |struct fs=>obtain⟨arr,h,_⟩:=h;grind
 |_=>exact⟨_,h,λ_ e=>by cases e⟩
def AS(T:bj P)(t:TypeId):Bool:=match find T.und t with
 |some k=>k.Ha
 |none=>ag
def zy(T:bj P){t:TypeId}(h:AS T t=af):∃D,P.underlying t=aa D/\∀ms,D≠ .interface ms:=by
 unfold AS at h;split at h
 .rename_i k hk;exact(T.und_ok _ _ hk).Ha h
 .cases h
def I6(T:bj P)(t:TypeId)(D:aI)(k:eD->Option R):Option R:=bif AS T t then k {dst:= .ifc t D}else ae
def OE(T:bj P){t:TypeId}{D:aI}{x:Operand}{k:eD->Option R}{q:R}(h:I6 T t D k=aa q)(hs:aL U H F w ob n)(hx:aH H F w D (ev ρ x)):
 ∃e,k e=aa q/\cO P U H F w ρ ob n ⟨aa d, .makeInterface t x,ty,pos,aft,ae⟩ e:=by
 unfold I6 at h;obtain⟨h1,h2⟩:=be h;obtain⟨D0,hD,hn⟩:=zy T h1;refine⟨_,h2,cn hs (v:= .iface t (ev ρ x)) ?_ ⟨_,rfl,hx⟩⟩
 cases D0 with
 |interface ms=>grind
 |_=>simp[execOp,Instr.makeInterface,run_underlying hD,ajz]
def rf(T:bj P)(t:TypeId)(ok:Bool)(D:aI)(k:eD->Option R):Option R:=
 match D with
 | .ifc t' d=>bif ajf t' t&&AS T t then(match ok,d with
   |true, .val agg tr=>k {dst:= .tup [(agg,tr),(ag, .leaf .bool af)]}
   |true,_=>ae
   |false,d=>k {dst:=d})else ae
 |_=>ae
def Fi(T:bj P){xt t:TypeId}{ok:Bool}{D:aI}{x:Operand}{k:eD->Option R}{q:R}(h:rf T t ok D k=aa q)(hs:aL U H F w ob n)(hx:aH H F w D (ev ρ x)):
 ∃e,k e=aa q/\cO P U H F w ρ ob n ⟨aa d, .typeAssert x xt t ok,ty,pos,aft,ae⟩ e:=by
 unfold rf at h;split at h
 case h_2=>cases h
 rename_i t' dd;obtain⟨h1,h2⟩:=be h;obtain⟨h1,h3⟩:=de h1;obtain rfl:=beq_true h1;obtain⟨D0,hD,hn⟩:=zy T h3;obtain⟨u,hu,hd⟩:=hx
 have bJ:(Instr.typeAssert (ev ρ x) xt t' ok).run P w= .ok (if ok then .tuple #[u, .bool af]else u) w:=by
  rw[hu]
  cases D0 with
  |interface ms=>grind
  |_=>simp[Instr.typeAssert,run_underlying hD,ajz]
 split at h2
 .exact⟨_,h2,cn hs (v:= .tuple #[u, .bool af]) (by simp[execOp,bJ,ajz]) ⟨[u, .bool af],rfl,_,_,rfl,hd,_,_,rfl,aV.ig ..,rfl⟩⟩
 .cases h2
 .exact⟨_,h2,cn hs (v:=u) (by simp[execOp,bJ,ajz]) hd⟩
def Hb:List (TypeId×(String×(FuncId×Bool)))->TypeId->String->Option (FuncId×Bool)
 |[],_,_=>ae
 |(t',(nm,p))::l,t,name=>bif ajf t' t&&(nm==name)then aa p else Hb l t name
def CZ{t:TypeId}{name:String}{f:FuncId}{pr:Bool}:{l:List (TypeId×(String×(FuncId×Bool)))}->Hb l t name=aa (f,pr)->(t,(name,(f,pr)))∈l
 |[],h=>by cases h
 |(t',(nm,p))::l,h=>by
  unfold Hb at h
  cases hb:ajf t' t&&(nm==name)with
  |true=>
   simp_all
  |false=>
   rw[hb,cond_false]at h;exact List.mem_cons_of_mem _ (CZ h)
def Fj{t:TypeId}{name:String}{f:FuncId}{pr:Bool}{v u:Value}{fuel:Nat}(h:rG P t name f pr)(hr:∀nm,(receiverAt t (.val v) pr (aa nm)).run P w= .ok u w):(method (fuel+1) t v name).run P w= .ok (f,u) w:=by
 unfold rG at h
 cases hi:P.info? t with
 |none=>grind
 |some ti=>
  rw[hi]at h;have h:(ti.methods.find? λm=>m.name==name).map (λm=>(m.path.toList.length,m.func))=aa (0,aa (f,pr)):=h
  cases hm:ti.methods.find? λm=>m.name==name with
  |none=>grind
  |some m=>
   rw[hm]at h;simp only[Option.map_some,ajj,Prod.mk.injEq]at h
   have hp:m.path= #[]:=by
    have:=h.1;simpa using this
   simp[method,typeInfo,hi,hm,hp,follow,h.2,hr,ajz,ajw]
def I7{t e:TypeId}{nm:String}{v:Value}(hu:P.underlying t=aa (.pointer e)):(receiverAt t (.val v) af (aa nm)).run P w= .ok v w:=by
 simp[receiverAt,run_underlying hu,Place.get,ajz,ajw]
def I8{t e:TypeId}{nm:String}{a:Addr}{u:Value}(hu:P.underlying t=aa (.pointer e))(hl:(loadVar e a).run P w= .ok u w):(receiverAt t (.val (.pointer (aa a))) ag (aa nm)).run P w= .ok u w:=by
 have hw:Builtin.ssaWrapNilChk_ #[t] t #[.pointer (aa a),strVal "",strVal nm]=pure (.pointer (aa a)):=rfl;simp[receiverAt,run_underlying hu,Place.get,hw,asAddr,hl,ajz,ajw]
def wZ{t:TypeId}{name:String}{f:FuncId}{fn:Func}{pr:Bool}{v u:Value}{x:Operand}{args:Array Operand}{wY:Array TypeId}(h:rG P t name f pr)(hx:ev ρ x= .iface t v)(hr:∀nm,(receiverAt t (.val v) pr (aa nm)).run P w= .ok u w)
 (hf:P.funcs[f]? =aa fn)(hn:(fn.name== "runtime.NumGoroutine")=ag)(hb:fn.body.isNone=ag):
 (execOp (ev ρ) ⟨dst, .call {callee:= .invoke x name,args:=args,argTypes:=wY},ty,pos,aft,ae⟩).run P w= .ok (.enter f (u::args.toList.map (ev ρ)).toArray) w:=by
 have N2:¬fn.name= "runtime.NumGoroutine" :=by simpa using hn
 have qR:¬fn.body=ae:=by
  intro e;rw[e]at hb;cases hb
 have hm:=Fj (fuel:=P.types.size+99) h hr;have hfu:P.types.size+100=P.types.size+99+1:=rfl
 have e1:(#[Value.iface t v]++Array.map (ev ρ) args).extract 1 (1+args.size)=Array.map (ev ρ) args:=by
  apply Array.ext';simp;exact List.take_of_length_le (by simp)
 have e0:(#[Value.iface t v]++Array.map (ev ρ) args)[0]? =aa (Value.iface t v):=by simp[Array.getElem?_append]
 have e2:(#[u]++Array.map (ev ρ) args)=(u::args.toList.map (ev ρ)).toArray:=by apply Array.ext';simp
 simp[execOp,resolve,hx,invoke,callMethod,hfu,hm,callFunc,hf,N2,qR,go_sem,e0,e1,e2]
def vV(T:bj P)(ob:Nat->Option (Nat×Th))(e:TypeId)(D:aI):Option aI:=
 match find T.und e with
 |none=>ae
 |some kk=>match D with
  | .ptr o p off=>match ob o with
    |some (_, .box _ tr)=>match tr.get p with
     |some (s,eE)=>bif ajf eE off&&nK T e kk s.size then aa (.val (mi kk) s)else ae
     |none=>ae
    |_=>ae
  |_=>ae
def Fk(T:bj P){e:TypeId}{D D':aI}{v:Value}(h:vV T ob e D=aa D')(hs:aL U H F w ob n)(hx:aH H F w D v):∃a u,v= .pointer (aa a)/\(loadVar e a).run P w= .ok u w/\aH H F w D' u:=by
 unfold vV at h;split at h
 .cases h
 rename_i kk hu;split at h
 case h_2=>cases h
 rename_i o p off;split at h
 case h_2=>cases h
 rename_i st0 T0 tr cJ;split at h
 case h_2=>cases h
 rename_i s eE hg;obtain⟨h1,h2⟩:=be h;cases h2;obtain⟨h1,h3⟩:=de h1;obtain rfl:=beq_true h1;obtain⟨b,hb,rfl⟩:=hx;obtain⟨es,hh,Qc⟩:=hs.box cJ hb;obtain⟨g1,g2⟩:=Qc.get hg
 have hc:∀j u,((es.drop eE).take s.size)[j]? =aa u->w.cell? ⟨b,eE+j,ae⟩=aa u:=λj u hj=>by
  grind [wo]
 obtain⟨dd,yd,ye⟩:=(T.und_ok _ _ hu).agg;have hz:=lf T h3;have hl:=g1.length;generalize(es.drop eE).take s.size=cs at g1 hc hl
 cases ha:mi kk with
 |true=>
  rw[aj ha]at hz;obtain⟨r,hr,NJ⟩:=hz;obtain⟨ti,z,h1,_,_,h4,_⟩:=T.row_ok _ _ hr;have Y4:(loadCells ⟨b,eE,ae⟩ cs.length).run P w= .ok cs.toArray w:=run_loadCells_list (P:=P) w ⟨b,eE,ae⟩ cs (λj v hv=>by rw[dh];exact hc j v hv)
  have kS:ti.size=cs.length:=by omega
  exact⟨_, .agg cs.toArray,rfl,by simp[loadVar,ajw,fN yd,ye,ha,sizeOf,typeInfo,h1,kS,Y4],⟨cs,g1,rfl,by simp⟩⟩
 |false=>
  rw[ai (by simp[ha])]at hz
  obtain⟨v,rfl⟩:∃v,cs=[v]:=by
   match cs,hl.trans hz with
   |[v],_=>grind
  have hcv:w.cell? ⟨b,eE,ae⟩=aa v:=hc 0 v rfl;exact⟨_,v,rfl,by simp[loadVar,ajw,fN yd,ye,ha,hcv,go_sem],⟨[v],g1,rfl,λ_=>rfl⟩⟩
def ri(T:bj P)(tab:List (Nat×oN))(rd:Operand->Option aI)(objs:List (Nat×(Nat×Th)))(n:Nat)(x:Operand)(name:String)(args:List Operand)(k:eD->Option R):Option R:=
 match rd x with
 |some (.ifc t d)=>match Hb T.mth t name with
  |some (f,pr)=>match find T.und t with
   |some (.ptr e)=>match(bif pr then aa d else vV T (find objs) e d)with
    |some d'=>match sS rd args with
     |some ds=>pB objs n f (d'::ds) k tab
     |none=>ae
    |none=>ae
   |_=>ae
  |none=>ae
 |_=>ae
def w4(T:bj P){tab:List (Nat×oN)}(yz:∀p∈tab,fZ P p.1 p.2){rd:Operand->Option aI}(gO:∀x d,rd x=aa d->aH H F w d (ev ρ x)){objs:List (Nat×(Nat×Th))}{x:Operand}{name:String}{args:Array Operand}{wY:Array TypeId}{k:eD->Option R}{q:R}
 (h:ri T tab rd objs n x name args.toList k=aa q)(hs:aL U H F w (find objs) n):
 ∃e,k e=aa q/\cO P U H F w ρ (find objs) n ⟨dst, .call {callee:= .invoke x name,args:=args,argTypes:=wY},ty,pos,aft,ae⟩ e:=by
 unfold ri at h;split at h
 case h_2=>cases h
 rename_i t d0 hx;split at h
 case h_2=>cases h
 rename_i f pr hm;split at h
 case h_2=>cases h
 rename_i e hu;split at h
 case h_2=>cases h
 rename_i d' BV;split at h
 case h_2=>cases h
 rename_i ds yt;obtain⟨v,hv,hdv⟩:=gO _ _ hx;have hM:=T.mth_ok _ (CZ hm);have hu:=T.und_ok _ _ hu;have hdo:=oU (w:=w) (H:=H) (F:=F) (ρ:=ρ) gO yt
 cases pr with
 |true=>
  cases BV
  have Qg:fX H F w (d0::ds) (v::args.toList.map (ev ρ)):=⟨v,_,rfl,hdv,hdo⟩
  exact o5 yz Qg (λfn g1 g2 g3=>wZ hM hv (λnm=>I7 hu) g1 g2 g3) hs (λ_ h=>h) h
 |false=>
  obtain⟨a,u,rfl,hl,hdu⟩:=Fk T (show vV T (find objs) e d0=aa d' from BV) hs hdv
  have Qg:fX H F w (d'::ds) (u::args.toList.map (ev ρ)):=⟨u,_,rfl,hdu,hdo⟩
  exact o5 yz Qg (λfn g1 g2 g3=>wZ hM hv (λnm=>I8 hu hl) g1 g2 g3) hs (λ_ h=>h) h
end
end
end Go.Proofs.YtleifhfeahnocaaGreatDoor
