/- Joined texts: Grp Pack2 Call Call2 Ifc. -/
import Derived.Test.YtleifhfeahnocaaGreatDoorU2
set_option linter.defProp false
open _root_.Bool renaming false->ag,true->af
open _root_.Option renaming none->ae,some->aa,isSome_iff_exists->ai8
open _root_.Go.Instr renaming findNow->ajM,mapUpdate->akh
open _root_.List renaming getElem_append_left->ai7,getElem_append_right->ajc,mem_cons->aju,append_nil->ajv,take_of_length_le->ajD
open _root_.Go.MapKept renaming run_checkKey->ajX,run_findKey->aj2,run_getObj_map->aj0
open _root_.Nat renaming beq->aiK,le_refl->aiM,lt_of_lt_of_le->ai4,zero_add->ajh,zero_le->ai6,blt->ajg
open _root_.Option.some renaming inj->aiF,injEq->aiO
open _root_.Prod.mk renaming inj->aj5
open _root_.Go.Result renaming andThen->ai3
open _root_.Go.Value renaming ownBlock->aiT
open _root_.List.cons renaming injEq->ajw
open _root_.Go.Value.slice renaming injEq->ajS
open _root_.Go.Sem renaming run_bind->ai1
namespace Go.Proofs.YtleifhfeahnocaaGreatDoor
open Go Go.RowKit
set_option maxRecDepth 100000
set_option linter.unusedSimpArgs false
set_option linter.unusedVariables false
set_option linter.defProp false
section
open Go Go.RowKit Go.MapKept
noncomputable def ya{α:Type}(K:Row):List (K.den×α)->K.den->α->List (K.den×α)
 |[],_,_=>[]
 |p::l,k,v=>if cZ K p.1 k=af then(p.1,v)::l else p::ya K l k v
def Cm{K:Row}{a b:K.den}(h:cZ K a b=af):a=b:=by
 unfold cZ at h
 split at h<;>first|exact an h|cases h
section
variable {P:Program} {ρ:Nat->Value} {w w':World} {H H':aK} {F F':Nat->Prop} {U:Nat->Prop} {ob:Nat->Option (Nat×Th)} {n:Nat} {R:Type}
variable {op:Op} {ty:TypeId} {pos:String} {aft:Array Edge} {d:Nat}
variable {K:Row} {E:TypeId} {r:Row}
def r7.none(A:Nat->Prop):r7 (λ_=>False) A A:=⟨λk=>by simp,λ_ h=>h.elim⟩
def r7.mk'{A B:Nat->Prop}(h:∀k,A k->¬B k):r7 A B (λk=>A k\/B k):=⟨λ_=>Iff.rfl,h⟩
def rK{dd:TypeDesc}{x:K.den}{kv:Value}(hK:∀x v,pS K x=aa v->IsKey dd v)(hx:pS K x=aa kv):{h:Option (K.den×Nat)}->(∀a o,h=aa (a,o)->a=x)->{es:List MapEntry}->{l:List (K.den×List r.den)}->{S:Nat->Prop}->(i:Nat)->gC H F w K E r h es l S->
 (ajM dd kv es i=aa ae/\bo K l x=ae/\(∀e∈es,e.key≠kv)/\
   (∀H' F' w' y(e:MapEntry)A,e.key=kv->Step F w F' w'->(∀k,S k->w'.heap[k]? =w.heap[k]?)->su F' w' E r e.val y A->(∀k,A k->¬S k)->∃S2,gC H' F' w' K E r ae (es++[e]) (fC K l x y) S2/\∀k,S2 k->S k\/A k)/\
   (h=ae->∀H' o,gC H' F w K E r (aa (x,o)) es l S))\/
 ∃j e y0,ajM dd kv es i=aa (aa (i+j,e.val))/\es[j]? =aa e/\e.key=kv/\bo K l x=aa y0/\
  (∀H' F' w' y(f:MapEntry->MapEntry)A,(f e).key=kv->Step F w F' w'->(∀k,S k->w'.heap[k]? =w.heap[k]?)->su F' w' E r (f e).val y A->(∀k,A k->¬S k)->∃S2,gC H' F' w' K E r ae (es.modify j f) (fC K l x y) S2/\∀k,S2 k->S k\/A k)/\
  (h=ae->∃A B,su F w E r e.val y0 A/\r7 A B S/\∀H' o,H'.val o=aa e.val->gC H' F w K E r (aa (x,o)) es l B)
 |h,hh,[],l,S,i,hd=>by
  have BG:l=[]/\∀k,¬S k:=by cases h<;>exact hd
  obtain⟨rfl,hS⟩:=BG;refine .inl ⟨rfl,rfl,by simp,λH' F' w' y e A he hs hb hv hA=>⟨A,⟨x,y,[],A,λ_=>False,rfl,by rw[he];exact hx,hv,⟨rfl,λ_ h=>h⟩,⟨λk=>by simp,λ_ _ h=>h⟩⟩,λk hk=> .inr hk⟩,λ_ H' o=>⟨rfl,hS⟩⟩
 |h,hh,e::es,l,S,i,hd=>by
  have gen:∃k y l' A B,l=(k,y)::l'/\pS K k=aa e.key/\r7 A B S/\((h=ae->su F w E r e.val y A)/\(cZ K k x=ag->su F w E r e.val y A/\gC H F w K E r h es l' B)/\(cZ K k x=af->gC H F w K E r ae es l' B)):=by
   cases h with
   |none=>
    obtain⟨k,y,l',A,B,e0,h1,h2,h3,h4⟩:=hd;exact⟨k,y,l',A,B,e0,h1,h4,λ_=>h2,λ_=>⟨h2,h3⟩,λ_=>h3⟩
   |some p=>
    obtain⟨a,o⟩:=p;obtain rfl:=hh a o rfl;obtain⟨k,y,l',A,B,e0,h1,h2,h4⟩:=hd;refine⟨k,y,l',A,B,e0,h1,h4,λe=>(by cases e),λhk=>?_,λhk=>?_⟩
    .rcases h2 with⟨g,_⟩|⟨_,g2,g3⟩
     .rw[hk]at g;cases g
     .exact⟨g2,g3⟩
    .rcases h2 with⟨_,_,_,g⟩|⟨g,_⟩
     .exact g
     .rw[hk]at g;cases g
  obtain⟨k,y,l',A,B,rfl,h1,h4,Uk,Ul,Um⟩:=gen;obtain⟨q,NQ,NT⟩:=sameNow_of_keys (hK x kv hx) (hK k _ h1);have KT:=yK h1 hx
  cases q with
  |true=>
   have Tx:kv=e.key:=NT.1 rfl;have hq:cZ K k x=af:=KT.2 Tx.symm;obtain rfl:=Cm hq;refine .inr ⟨0,e,y,by simp[ajM,NQ],rfl,Tx.symm,by simp[bo,hq],λH' F' w' y' f A' hf hs hb hv hA=>?_,λhn=>?_⟩
   .have sE:∀j,A' j->¬B j:=λj hj hB=>hA j hj (h4.right j hB)
    refine⟨λj=>A' j\/B j,?_,λj hj=>hj.elim .inr λhB=> .inl (h4.right j hB)⟩
    show gC H' F' w' K E r ae (f e::es) (if cZ K k k=af then(k,y')::l' else(k,y)::fC K l' k y') _
    rw[aj hq];exact⟨k,y',l',A',B,rfl,by rw[hf,h1,Tx],hv,(Um hq).keep hs (λ_ _ _ e=>by cases e) λj hj=>hb j (h4.right j hj),r7.mk' sE⟩
   .subst hn;exact⟨A,B,Uk rfl,h4,λH' o ho=>⟨k,y,l',λ_=>False,B,rfl,h1, .inl ⟨hq,ho,λ_ h=>h,(Um hq).keep (Step.refl F w) (λ_ _ _ e=>by cases e) λ_ _=>rfl⟩,r7.none B⟩⟩
  |false=>
   have du:¬e.key=kv:=λq=>by have:=NT.2 q.symm;cases this
   have hq:cZ K k x=ag:=by
    cases hc:cZ K k x with
    |false=>rfl
    |true=>exact absurd (KT.1 hc) du
   obtain⟨ed,Un⟩:=Ul hq
   have xN:¬cZ K k x=af:=by rw[hq];exact λh=>by cases h
   rcases rK hK hx hh (i+1) Un with⟨a1,a2,a3,a4,a5⟩|⟨j,e',z,a1,a2,a3,a4,a5,a6⟩
   .refine .inl ⟨by simp[ajM,NQ,a1],by simp[bo,xN,a2],λe' he'=>?_,λH' F' w' y' e' A' he' hs hb hv hA=>?_,λhn H' o=>?_⟩
    .rcases aju.1 he' with rfl|he'
     .exact du
     .exact a3 e' he'
    .obtain⟨S2,b1,b2⟩:=a4 H' F' w' y' e' A' he' hs (λj hj=>hb j (h4.right j hj)) hv (λj hj hB=>hA j hj (h4.right j hB))
     have sE:∀j,A j->¬S2 j:=λj hj h2=>(b2 j h2).elim (h4.off j hj) λN3=>hA j N3 (h4.left j hj)
     refine⟨λj=>A j\/S2 j,?_,λj hj=>hj.elim (λh=> .inl (h4.left j h)) λh=>(b2 j h).imp (h4.right j) id⟩
     show gC H' F' w' K E r ae (e::(es++[e'])) (if cZ K k x=af then(k,y')::l' else(k,y)::fC K l' x y') _
     rw[ai xN];exact⟨k,y,_,A,S2,rfl,h1,ed.keep hs λj hj=>hb j (h4.left j hj),b1,r7.mk' sE⟩
    .subst hn;exact⟨k,y,l',A,B,rfl,h1, .inr ⟨hq,ed,a5 rfl H' o⟩,h4⟩
   .refine .inr ⟨j+1,e',z,by simp[ajM,NQ,a1];omega,by simpa using a2,a3,by simp[bo,xN,a4],λH' F' w' y' f A' hf hs hb hv hA=>?_,λhn=>?_⟩
    .obtain⟨S2,b1,b2⟩:=a5 H' F' w' y' f A' hf hs (λj hj=>hb j (h4.right j hj)) hv (λj hj hB=>hA j hj (h4.right j hB))
     have sE:∀j,A j->¬S2 j:=λj hj h2=>(b2 j h2).elim (h4.off j hj) λN3=>hA j N3 (h4.left j hj)
     refine⟨λj=>A j\/S2 j,?_,λj hj=>hj.elim (λh=> .inl (h4.left j h)) λh=>(b2 j h).imp (h4.right j) id⟩
     show gC H' F' w' K E r ae (e::es.modify j f) (if cZ K k x=af then(k,y')::l' else(k,y)::fC K l' x y') _
     rw[ai xN];exact⟨k,y,_,A,S2,rfl,h1,ed.keep hs λj hj=>hb j (h4.left j hj),b1,r7.mk' sE⟩
    .subst hn;obtain⟨A2,B2,c1,c2,c3⟩:=a6 rfl
     have sE:∀j,A j->¬B2 j:=λj hj h2=>h4.off j hj (c2.right j h2)
     refine⟨A2,λj=>A j\/B2 j,c1,⟨λj=>?_,λj hj h2=>?_⟩,λH' o ho=>⟨k,y,l',A,B2,rfl,h1, .inr ⟨hq,ed,c3 H' o ho⟩,r7.mk' sE⟩⟩
     .rw[h4.all,c2.all]
      constructor<;>(intro h;rcases h with h|h|h<;>simp[h])
     .exact h2.elim (λh=>h4.off j h (c2.left j hj)) (c2.off j hj)
def wu{a:K.den}{o:Nat}{u:Value}{y:List r.den}{A0:Nat->Prop}(hu:H.val o=aa u)(hy:su F w E r u y A0):{es:List MapEntry}->{l:List (K.den×List r.den)}->{S:Nat->Prop}->(∀k,A0 k->¬S k)->gC H F w K E r (aa (a,o)) es l S->
 ∃S2,(∀H',gC H' F w K E r ae es (ya K l a y) S2)/\∀k,S2 k->S k\/A0 k
 |[],l,S,_,h=>by
  obtain⟨rfl,hS⟩:=h;exact⟨S,λ_=>⟨rfl,hS⟩,λk hk=> .inl hk⟩
 |e::es,l,S,hA,h=>by
  obtain⟨k,y0,l',A,B,rfl,h1,h2,h4⟩:=h
  rcases h2 with⟨g1,g2,g3,g4⟩|⟨g1,g2,g3⟩
  .rw[hu]at g2;obtain rfl:=aiF g2;refine⟨λj=>A0 j\/B j,λH'=>?_,λj hj=>hj.elim .inr λh=> .inl (h4.right j h)⟩
   show gC H' F w K E r ae (e::es) (if cZ K k a=af then(k,y)::l' else(k,y0)::ya K l' a y) _
   rw[aj g1];exact⟨k,y,l',A0,B,rfl,h1,hy,g4.keep (Step.refl F w) (λ_ _ _ e=>by cases e) (λ_ _=>rfl),r7.mk' λj hj hB=>hA j hj (h4.right j hB)⟩
  .obtain⟨S2,b1,b2⟩:=wu hu hy (λj hj hB=>hA j hj (h4.right j hB)) g3
   have sE:∀j,A j->¬S2 j:=λj hj h2=>(b2 j h2).elim (h4.off j hj) λN3=>hA j N3 (h4.left j hj)
   refine⟨λj=>A j\/S2 j,λH'=>?_,λj hj=>hj.elim (λh=> .inl (h4.left j h)) λh=>(b2 j h).imp (h4.right j) id⟩
   show gC H' F w K E r ae (e::es) (if cZ K k a=af then(k,y)::l' else(k,y0)::ya K l' a y) _
   rw[ai (by rw[g1];exact λh=>by cases h)];exact⟨k,y0,_,A,S2,rfl,h1,g2,b1 H',r7.mk' sE⟩
def Cn:{es:List MapEntry}->{l:List (K.den×List r.den)}->{S:Nat->Prop}->gC H F w K E r ae es l S->es.length=l.length/\∀i(h:i<l.length),∃(e:MapEntry)(A:Nat->Prop),es[i]? =aa e/\pS K l[i].1=aa e.key/\su F w E r e.val l[i].2 A/\∀k,A k->S k
 |[],l,S,h=>by obtain⟨rfl,_⟩:=h;exact⟨rfl,λi h=>by simp at h⟩
 |e::es,l,S,h=>by
  obtain⟨k,y,l',A,B,rfl,h1,h2,h3,h4⟩:=h;obtain⟨g1,g2⟩:=Cn h3;refine⟨by simp[g1],λi hi=>?_⟩
  cases i with
  |zero=>exact⟨e,A,rfl,h1,h2,h4.left⟩
  |succ i=>
   obtain⟨e',A',q1,q2,q3,q4⟩:=g2 i (by simpa using hi);exact⟨e',A',by simpa only[List.getElem?_cons_succ]using q1,q2,q3,λk hk=>h4.right k (q4 k hk)⟩
def wx(hs:aL U H F w ob n){o s:Nat}{t0 t1 t2:Th}(cH:ob o=aa (s,t0)){v:Value}(hv:H.val o=aa v)(e1:t1.base=t1)(e2:t2.base=t2){u:Value}(lT:u.oneCell'=af){So A:Nat->Prop}
 (f1:∀k,fp So v t1 k->fp (H.sub s) v t0 k)(f2:∀k,fp A u t2 k->fp (H.sub s) v t0 k)(f12:∀k,fp So v t1 k->¬fp A u t2 k)
 (k1:∀H1,H.le H1->H1.val n=aa u->jV H1 F w So v t1)(k2:∀H1,H.le H1->jV H1 F w A u t2){D:aI}{dv:Value}(kd:∀H1,H.le H1->H1.val n=aa u->aG H1 F w D dv):
 lV H F w ob n {dst:=D,eat:=[o],make:=[(o,(n,t1)),(n,(n+1,t2))]} dv w:=by
 obtain⟨v1,vj,cP⟩:=hs.obj _ _ _ cH;rw[hv]at vj;obtain rfl:=aiF vj;obtain⟨g1,g2⟩:=hs.fresh n (aiM _) (by omega);obtain⟨g3,g4⟩:=hs.fresh (n+1) (by omega) (by omega)
 let H1:aK:=⟨λm=>if m=n then aa u else H.val m,λm=>if m=n then aa t1 else if m=n+1 then aa t2 else H.con m,λm=>if m=n then So else if m=n+1 then A else H.sub m⟩
 have hle:H.le H1:=by
  refine⟨λo v ho=>?_,λs t gq=>?_,λs t gq=>?_⟩
  .have:o≠n:=λe=>by rw[e,g1]at ho;cases ho
   simp[H1,this,ho]
  .have a1:s≠n:=λe=>by rw[e,g2]at gq;cases gq
   have a2:s≠n+1:=λe=>by rw[e,g4]at gq;cases gq
   simp[H1,a1,a2,gq]
  .have a1:s≠n:=λe=>by rw[e,g2]at gq;cases gq
   have a2:s≠n+1:=λe=>by rw[e,g4]at gq;cases gq
   simp[H1,a1,a2]
 have Al:H1.val n=aa u:=by simp[H1]
 have l5:∀k,fp (H.sub s) v t0 k->cC H ob [o] k:=λk hk=>⟨o,by simp,s,_,v,cH,hv,hk⟩
 have sF:H1.sub n=So:=by simp[H1]
 have TC:H1.sub (n+1)=A:=by simp[H1]
 have two:∀{o' s' t'},find [(o,(n,t1)),(n,(n+1,t2))] o'=aa (s',t')->(o'=o/\s'=n/\t'=t1)\/(o'=n/\s'=n+1/\t'=t2):=by
  intro o' s' t' hf;rw[ba]at hf;split at hf
  .rename_i e;simp only[aiO,Prod.mk.injEq]at hf;exact .inl ⟨e.symm,hf.1.symm,hf.2.symm⟩
  .obtain⟨e1,e⟩:=dX hf;obtain⟨e2,e3⟩:=aj5 e;exact .inr ⟨e1,e2,e3⟩
 refine⟨H1,F,⟨hle,⟨rfl,rfl,rfl,aiM _,λ_ _ _=>rfl⟩,λ_ h=>h,λ_ h=> .inl h,hs.lt⟩,λm hm=>?_,kd H1 hle Al,⟨λo' s' t hf=>?_,λo1 o2 s1 s2 q1 q2 u1 u2 du g1 g2 e1 e2 k hk iK=>?_⟩,λo' jS=>?_⟩
 .have a1:m≠n:=by omega
  have a2:m≠n+1:=by omega
  simp[H1,a1,a2]
 .rcases two hf with⟨rfl,rfl,rfl⟩|⟨rfl,rfl,rfl⟩
  .refine⟨v,hle.val _ _ hv,cP.one,by rw[e1];simp[H1],by rw[sF];exact k1 H1 hle Al,λk hk=>?_⟩;rw[sF]at hk;have:=f1 k hk;exact⟨cP.no k this,cP.lt k this, .inr (l5 k this)⟩
  .refine⟨u,Al,lT,by rw[e2];simp[H1],by rw[TC];exact k2 H1 hle,λk hk=>?_⟩;rw[TC]at hk;have:=f2 k hk;exact⟨cP.no k this,cP.lt k this, .inr (l5 k this)⟩
 .rcases two g1 with⟨rfl,rfl,rfl⟩|⟨rfl,rfl,rfl⟩<;>rcases two g2 with⟨rfl,rfl,rfl⟩|⟨rfl,rfl,rfl⟩
  .exact du rfl
  .rw[sF]at hk;rw[TC]at iK;rw[Al]at e2;obtain rfl:=aiF e2;rw[hle.val _ _ hv]at e1;obtain rfl:=aiF e1;exact f12 k hk iK
  .rw[sF]at iK;rw[TC]at hk;rw[Al]at e1;obtain rfl:=aiF e1;rw[hle.val _ _ hv]at e2;obtain rfl:=aiF e2;exact f12 k iK hk
  .exact du rfl
 .obtain⟨y,hy⟩:=ai8.1 jS
  rcases two (s':=y.1) (t':=y.2) hy with⟨rfl,_⟩|⟨rfl,_⟩
  .exact .inl (by simp)
  .exact .inr (aiM _)
def Uo(T:bk P)(t:TypeId):Option (Row×TypeId×Row):=
 match find T.und t with
 |some (.map kt vt)=>match find T.row kt with
  |some K=>match find T.und vt with
   |some (.slice e)=>match find T.row e with
    |some r=>aa (K,e,r)
    |none=>ae
   |_=>ae
  |none=>ae
 |_=>ae
def nu(deep:Bool)(T:bk P)(n:Nat)(t:TypeId)(k:eB->Option R):Option R:=
 match(bif deep then Uo T t else ae)with
 |some (K,e,r)=>k {dst:= .val ag (.own n),make:=[(n,(n, .dmap t K e r [] ae))]}
 |none=>oJ T n t k
def Au(deep:Bool)(T:bk P){t:TypeId}{k:eB->Option R}{q:R}(h:nu deep T n t k=aa q)(hs:aL U H F w ob n):
 ∃e,k e=aa q/\cK P U H F w ρ ob n ⟨aa d, .makeMap t ae,ty,pos,aft,ae⟩ e:=by
 unfold nu at h;split at h
 case h_2=>exact Cc T h hs
 rename_i K e r _
 have bG:(execOp (ev ρ) ⟨aa d, .makeMap t ae,ty,pos,aft,ae⟩).run P w= .ok (.value (.map (aa w.heap.size))) (w.alloc (.map #[] 0)):=by
  simp[execOp,Instr.makeMap,ai3]
 refine⟨_,h,cz.val bG ?_⟩;have hf:=hs.fresh n (aiM _) (by omega)
 let H1:aK:=((H.fB n (is w.heap.size)).bR n (.dmap t K e r [] ae)).cE n (.map (aa w.heap.size))
 have hle:H.le H1:=(aK.vA hf.2).trans (aK.qF (by simpa[aK.bR,aK.fB]using hf.1))
 have hv:H1.val n=aa (.map (aa w.heap.size)):=by simp[H1,aK.cE]
 have iA:H1.sub n=is w.heap.size:=by simp[H1,aK.cE,aK.bR,aK.fB]
 refine⟨H1,F,⟨hle,qH _,λ_ h=>h,λ_ h=> .inl h,λb hb=>by have:=hs.lt b hb;simp;omega⟩,λm hm=>?_,nR hv rfl,⟨λo' s' q hq=>?_,λo1 o2 s1 s2 q1 q2 u1 u2 du h1 h2=>?_⟩,λo' h=>?_⟩
 .have:m≠n:=by omega
  simp[H1,aK.cE,aK.bR,aK.fB,this]
 .obtain⟨rfl,e⟩:=dX hq;obtain⟨rfl,rfl⟩:=aj5 e;refine⟨_,hv,rfl,by simp[H1,aK.cE,aK.bR,aK.fB,Th.base],?_,λk hk=>?_⟩
  .rw[iA];exact⟨_, #[],0,λ_=>False,rfl,(heap_alloc w _).1,stamped_empty 0,⟨rfl,λ_ h=>h⟩,⟨λk=>by simp,λ_ _ h=>h⟩,λ_ _ e=>by cases e⟩
  .rw[iA]at hk;have hk:k=w.heap.size:=hk;subst hk;exact⟨λe=>by have:=hs.lt _ e;omega,by simp, .inl (aiM _)⟩
 .exact absurd ((dX h1).1.trans (dX h2).1.symm) du
 .right
  obtain⟨y,hy⟩:=ai8.1 h;rw[(dX hy).1];exact aiM _
noncomputable def oL(T:bk P)(ob:Nat->Option (Nat×Th))(n:Nat)(t:TypeId)(ok:Bool)(M X:aI)(k:eB->Option R):Option R:=
 match M with
 | .val ag (.own o)=>match ob o with
   |some (_, .dmap T0 K E r l ae)=>match find T.und t with
    |some (.map kt vt)=>match find T.zer vt with
     |some (ag, .slice _)=>bif wc T kt K&&ok then(match asKey ob K X with
      |some x=>k {dst:= .tup [(ag, .own n),(ag, .leaf .bool (bo K l x).isSome)],eat:=[o],make:=[(o,(n, .dmap T0 K E r l (aa (x,n)))),(n,(n+1, .own E r ((bo K l x).getD [])))]}
      |none=>ae)else ae
     |_=>ae
    |_=>ae
   |_=>pf T ob t ok M X k
 |_=>pf T ob t ok M X k
def Co(T:bk P){t:TypeId}{ok:Bool}{M X:aI}{m x:Operand}{k:eB->Option R}{q:R}(h:oL T ob n t ok M X k=aa q)(hs:aL U H F w ob n)(hm:aG H F w M (ev ρ m))(hx:aG H F w X (ev ρ x)):
 ∃e,k e=aa q/\cK P U H F w ρ ob n ⟨aa d, .lookup t m x ok,ty,pos,aft,ae⟩ e:=by
 unfold oL at h;split at h
 case h_2=>exact we T h hs hm hx
 rename_i o;split at h
 case h_2=>exact we T h hs hm hx
 rename_i s T0 K E r l cH;split at h
 case h_2=>cases h
 rename_i kt vt hu;split at h
 case h_2=>cases h
 rename_i re hz;obtain⟨hc,h'⟩:=bf h;clear h;obtain⟨yB,xJ⟩:=dc hc;subst xJ;split at h'
 case h_2=>cases h'
 rename_i a ha;refine⟨_,h',?_⟩;obtain⟨dd,hd,hK,hR⟩:=sA (F:=F) (w:=w) T yB;have tL:=hR _ _ (sB hs ha hx);have Tz:=hK _ _ tL;have Af:=T.und_ok _ _ hu
 have vW:(zeroValue vt).run P w= .ok (.slice ae 0 0) w:=by
  obtain⟨z,vW,e⟩:=T.zer_ok _ _ _ hz
  cases hi:P.info? vt with
  |none=>rw[hi]at vW;cases vW
  |some ti=>
   rw[hi]at vW;have Yi:ti.zero=aa z:=vW;rw[cond_false]at e;have e':z= .slice ae 0 0:=e;subst e';simp[zeroValue,typeInfo,hi,Yi,ai3]
 obtain⟨cs,⟨v,hv,ab8,e⟩,_,h3⟩:=hm;rw[h3 rfl]at e
 obtain rfl:ev ρ m=v:=by simpa using e
 obtain⟨v',dZ,cP⟩:=hs.obj _ _ _ cH;rw[hv]at dZ;obtain rfl:=aiF dZ;obtain⟨b,es,clock,B,Kc,hh,gq,IB,oM,_⟩:=cP.ok
 have tup:∀(H1:aK)(u:Value)(q:Bool),H1.val n=aa u->u.oneCell'=af->aG H1 F w (.tup [(ag, .own n),(ag, .leaf .bool q)]) (.tuple #[u, .bool q]):=λH1 u q hu h1=>
  ⟨[u, .bool q],rfl,_,_,rfl,⟨[u],⟨u,hu,h1,rfl⟩,rfl,λ_=>rfl⟩,_,_,rfl,aW.gS ..,rfl⟩
 rcases rK (H:=H) hK tL (h:=ae) (λ_ _ e=>by cases e) 0 IB with⟨a1,a2,_,_,a5⟩|⟨j,e,y0,a1,_,_,a4,_,a6⟩
 .have bG:(execOp (ev ρ) ⟨aa d, .lookup t m x af,ty,pos,aft,ae⟩).run P w= .ok (.value (.tuple #[.slice ae 0 0, .bool (bo K l a).isSome])) w:=by
   rw[a2];simp[execOp,Kc,Instr.lookup,run_underlying Af,aj0 hh,ajX hd Tz,aj2 hd a1,vW,ai3]
  refine cz.val bG ?_;rw[a2]
  refine wx (t1:= .dmap T0 K E r l (aa (a,n))) (t2:= .own E r []) (u:= .slice ae 0 0) (So:=H.sub s) (A:=λ_=>False) hs cH hv rfl rfl rfl (λk hk=>hk) (λk hk=>?_) (λk hk iK=>?_) (λH1 hle Al=>?_) (λH1 hle=>lU.nil F w E r) λH1 hle Al=>tup H1 _ _ Al rfl
  .have iK:bF (.slice ae 0 0) k:=hk;simp[bF,aiT]at iK
  .have iK:bF (.slice ae 0 0) k:=iK;simp[bF,aiT]at iK
  .exact⟨b,es,clock,B,Kc,hh,gq,a5 rfl H1 n,oM,λa' o' e'=>by cases e';exact⟨_,Al⟩⟩
 .rw[ajh]at a1;obtain⟨A,B2,c1,c2,c3⟩:=a6 rfl
  have bG:(execOp (ev ρ) ⟨aa d, .lookup t m x af,ty,pos,aft,ae⟩).run P w= .ok (.value (.tuple #[e.val, .bool (bo K l a).isSome])) w:=by
   rw[a4];simp[execOp,Kc,Instr.lookup,run_underlying Af,aj0 hh,ajX hd Tz,aj2 hd a1,ai3]
  refine cz.val bG ?_;rw[a4]
  have NX:∀k,A k->H.sub s k:=λk hk=>oM.right k (c2.left k hk)
  refine wx (t1:= .dmap T0 K E r l (aa (a,n))) (t2:= .own E r y0) (u:=e.val) (So:=λk=>is b k\/B2 k) (A:=A) hs cH hv rfl rfl c1.1.one (λk hk=>?_) (λk hk=>?_) (λk hk iK=>?_) (λH1 hle Al=>?_) (λH1 hle=>c1.1) λH1 hle Al=>tup H1 _ _ Al c1.1.one
  .have hk:is b k\/B2 k:=hk
   exact hk.elim (oM.left k) λh=>oM.right k (c2.right k h)
  .exact NX k ((c1.2 k).2 hk)
  .have hk:is b k\/B2 k:=hk;have iK:A k:=(c1.2 k).2 iK;exact hk.elim (λh=>oM.off k h (c2.left k iK)) (c2.off k iK)
  .exact⟨b,es,clock,B2,Kc,hh,gq,c3 H1 n Al,r7.mk' λk h1 h2=>oM.off k h1 (c2.right k h2),λa' o' e'=>by cases e';exact⟨_,Al⟩⟩
noncomputable def PO(K:Row)(h:Option (K.den×Nat))(x:K.den):Bool:=
 match h with
 |none=>af
 |some p=>cZ K p.1 x
noncomputable def ld(T:bk P)(ob:Nat->Option (Nat×Th))(n:Nat)(t:TypeId)(M X Y:aI)(k:eB->Option R):Option R:=
 match M with
 | .val ag (.own o)=>match ob o with
   |some (_, .dmap T0 K E r l h)=>match find T.und t with
    |some (.map kt _)=>bif wc T kt K then(match asKey ob K X with
     |some x=>if PO K h x=af then(match Y with
      | .val ag .nil=>k {dst:= .dead,eat:=[o],make:=[(o,(n, .dmap T0 K E r (fC K l x []) ae))]}
      | .val ag (.own o1)=>match ob o1 with
        |some (_,t1)=>bif aiK o1 o then ae else(match QZ E (.leaf r) t1 with
         |some y=>k {dst:= .dead,eat:=[o,o1],make:=[(o,(n, .dmap T0 K E r (fC K l x y) ae))]}
         |none=>ae)
        |none=>ae
      |_=>ae)else ae
     |none=>ae)else ae
    |_=>ae
   |_=>kR T ob n t M X Y k
 |_=>kR T ob n t M X Y k
def wy(T:bk P){t:TypeId}{m x y:Operand}{o s:Nat}{T0:TypeId}{K:Row}{E:TypeId}{r:Row}{l:List (K.den×List r.den)}{h:Option (K.den×Nat)}{kt vt:TypeId}{a:K.den}{z:List r.den}{A:Nat->Prop}{eat:List Nat}
 (hs:aL U H F w ob n)(cH:ob o=aa (s, .dmap T0 K E r l h))(hv:H.val o=aa (ev ρ m))(hu:find T.und t=aa (.map kt vt))(hk:wc T kt K=af)(tL:cG F w K [ev ρ x] a)(hh:PO K h a=af)(hy:su F w E r (ev ρ y) z A)
 (ho:o∈eat)(hA:∀k,A k->cC H ob eat k)(NX:∀k,A k->¬H.sub s k):
 cK P U H F w ρ ob n ⟨ae, .mapUpdate t m x y,ty,pos,aft,ae⟩ {dst:= .dead,eat:=eat,make:=[(o,(n, .dmap T0 K E r (fC K l a z) ae))]}:=by
 obtain⟨dd,hd,hK,hR⟩:=sA (F:=F) (w:=w) T hk;have hkv:=hR _ _ tL;obtain⟨v',dZ,cP⟩:=hs.obj _ _ _ cH;rw[hv]at dZ;obtain rfl:=aiF dZ;obtain⟨b,es,clock,B,Kc,hb,gq,IB,oM,_⟩:=cP.ok;have hbF:¬F b:=cP.no b (oM.left b rfl);have hbB:¬B b:=oM.off b rfl
 have hbA:¬A b:=λh=>NX b h (oM.left b rfl)
 have N4:∀k,H.sub s k->cC H ob eat k:=λk hk=>⟨o,ho,s,_,_,cH,hv,hk⟩
 have hax:∀a' o',h=aa (a',o')->a'=a:=λa' o' e=>by subst e;exact Cm hh
 have fin:∀o',(akh t (.map (aa b)) (ev ρ x) (ev ρ y)).run P w= .ok () {w with heap:=w.heap.setIfInBounds b o'}->
  (∀H' w',Step F w F w'->(∀k,B k->w'.heap[k]? =w.heap[k]?)->su F w' E r (ev ρ y) z A->∃oD ou S2,o'= .map oD ou/\Stamped oD ou/\gC H' F w' K E r ae oD.toList (fC K l a z) S2/\∀k,S2 k->B k\/A k)->
  cK P U H F w ρ ob n ⟨ae, .mapUpdate t m x y,ty,pos,aft,ae⟩ {dst:= .dead,eat:=eat,make:=[(o,(n, .dmap T0 K E r (fC K l a z) ae))]}:=by
  intro o' bG QY;refine cz.unit (w':={w with heap:=w.heap.setIfInBounds b o'}) (by simp[execOp,Kc,bG,ai3]) ?_;have tM:∀k,k≠b->(w.heap.setIfInBounds b o')[k]? =w.heap[k]? :=(heap_set hb).2
  have mU:Step F w F {w with heap:=w.heap.setIfInBounds b o'}:=λk hk=>⟨hk,tM k λe=>hbF (e▸hk)⟩
  have NY:∀{S:Nat->Prop},¬S b->∀k,S k->({w with heap:=w.heap.setIfInBounds b o'}:World).heap[k]? =w.heap[k]? :=λhn k hk=>tM k λe=>hn (e▸hk)
  obtain⟨oD,ou,S2,rfl,g1,g2,g3⟩:=QY H {w with heap:=w.heap.setIfInBounds b o'} mU (NY hbB) (hy.keep mU (NY hbA))
  have Q2:¬S2 b:=λh=>(g3 b h).elim hbB hbA
  refine mP.Ak (t':= .dmap T0 K E r (fC K l a z) ae) hs cH hv rfl ho (λk=>is b k\/S2 k) (λk hk=>?_) ⟨rfl,rfl,rfl,by simp,λk hk hn=>tM k λe=>hn (by subst e;exact N4 _ (oM.left _ rfl))⟩ ⟨b,oD,ou,S2,Kc,(heap_set hb).1,g1,?_,r7.mk' λk h1 h2=>Q2 (by rw[<-show k=b from h1];exact h2),λ_ _ e=>by cases e⟩ trivial
  .have hk:is b k\/S2 k:=hk
   rcases hk with hk|hk
   .exact N4 k (oM.left k hk)
   .exact(g3 k hk).elim (λh=>N4 k (oM.right k h)) (hA k)
  .exact g2.keep (Step.refl F _) (λ_ _ _ e=>by cases e) λ_ _=>rfl
 obtain⟨r1,r2⟩:=oK (val:=ev ρ y) (T.und_ok _ _ hu) hd hb (hK _ _ hkv)
 have hAB:∀k,A k->¬B k:=λk hk hB=>NX k hk (oM.right k hB)
 rcases rK (H:=H) hK hkv hax 0 IB with⟨a1,a2,a3,a4,_⟩|⟨j,e,z0,a1,a2,a3,a4,a5,_⟩
 .refine fin _ (r1 a1) λH' w' EN hB N5=>?_
  obtain⟨S2,b1,b2⟩:=a4 H' F w' z {key:=ev ρ x,val:=ev ρ y,born:=clock} A rfl EN hB N5 hAB;exact⟨_,_,S2,rfl,stamped_push gq a3,by rw[Array.toList_push];exact b1,b2⟩
 .rw[ajh]at a1
  have hj:es[j]? =aa e:=by simpa using a2
  refine fin _ (r2 j _ a1 (by rw[hj];exact a3)) λH' w' EN hB N5=>?_
  obtain⟨S2,b1,b2⟩:=a5 H' F w' z (λe=>{e with key:=ev ρ x,val:=ev ρ y}) A rfl EN hB N5 hAB;refine⟨_,_,S2,rfl,stamped_modify gq _ _ (λ_ _=>rfl) (λe' _ he'=>?_),by rw[Array.toList_modify];exact b1,b2⟩;rw[hj]at he';cases he';exact a3.symm
def wz(T:bk P){t:TypeId}{M X Y:aI}{m x y:Operand}{k:eB->Option R}{q:R}(h:ld T ob n t M X Y k=aa q)(hs:aL U H F w ob n)(hm:aG H F w M (ev ρ m))(hx:aG H F w X (ev ρ x))(hy:aG H F w Y (ev ρ y)):
 ∃e,k e=aa q/\cK P U H F w ρ ob n ⟨ae, .mapUpdate t m x y,ty,pos,aft,ae⟩ e:=by
 unfold ld at h;split at h
 case h_2=>exact rk T h hs hm hx hy
 rename_i o;split at h
 case h_2=>exact rk T h hs hm hx hy
 rename_i s T0 K E r l hh cH;split at h
 case h_2=>cases h
 rename_i kt vt hu;obtain⟨hk,h'⟩:=bf h;clear h;split at h'
 case h_2=>cases h'
 rename_i a ha;split at h'
 case isFalse=>cases h'
 rename_i uF;obtain⟨cs,⟨v,hv,_,e⟩,_,h3⟩:=hm;rw[h3 rfl]at e
 obtain rfl:ev ρ m=v:=by simpa using e
 have tL:=sB hs ha hx;split at h'
 .refine⟨_,h',wy (A:=λ_=>False) T hs cH hv hu hk tL uF ?_ (by simp) (λ_ h=>h.elim) λ_ h=>h.elim⟩;obtain⟨cs,h1,_,h3⟩:=hy;rw[h3 rfl]at h1;have Aa:[ev ρ y]=[Value.slice ae 0 0]:=h1;rw[show ev ρ y= .slice ae 0 0 by simpa using Aa];exact⟨lU.nil F w E r,λk=>by simp[bF,aiT]⟩
 .rename_i o1;split at h'
  case h_2=>cases h'
  rename_i s1 t1 p6
  cases du:aiK o1 o with
  |true=>rw[du]at h';cases h'
  |false=>
   rw[du,cond_false]at h'
   have du:o≠o1:=λe=>by rw[e]at du;simp at du
   split at h'
   case h_2=>cases h'
   rename_i z hD;obtain rfl:=wm hD;obtain⟨cs,⟨u,D9,_,e⟩,_,h3⟩:=hy;rw[h3 rfl]at e
   obtain rfl:ev ρ y=u:=by simpa using e
   obtain⟨u',Af,nC⟩:=hs.obj _ _ _ p6;rw[D9]at Af;obtain rfl:=aiF Af;exact⟨_,h',wy (A:=bF (ev ρ y)) T hs cH hv hu hk tL uF ⟨nC.ok,λ_=>Iff.rfl⟩ (by simp) (λk hk=>⟨o1,by simp,s1,_,_,p6,D9,hk⟩) λk hk h2=>hs.apart _ _ _ _ _ _ _ _ du cH p6 hv D9 k h2 hk⟩
 .cases h'
noncomputable def Lg(ob:Nat->Option (Nat×Th))(n o:Nat):Option eB:=
 match ob o with
 |some (_, .dmap T0 K E r l (aa (a,o1)))=>match ob o1 with
  |some (_,t1)=>bif aiK o1 o then ae else(match QZ E (.leaf r) t1 with
   |some y=>aa {dst:= .dead,eat:=[o,o1],make:=[(o,(n, .dmap T0 K E r (ya K l a y) ae))]}
   |none=>ae)
  |none=>ae
 |_=>ae
def EO(hs:aL U H F w ob n){o:Nat}{e:eB}(h:Lg ob n o=aa e):lV H F w ob n e undef w:=by
 unfold Lg at h;split at h
 case h_2=>cases h
 rename_i s T0 K E r l a o1 cH;split at h
 case h_2=>cases h
 rename_i s1 t1 p6
 cases du:aiK o1 o with
 |true=>rw[du]at h;cases h
 |false=>
  rw[du,cond_false]at h
  have du:o≠o1:=λe=>by rw[e]at du;simp at du
  split at h
  case h_2=>cases h
  rename_i y hD;obtain rfl:=aiF h;obtain rfl:=wm hD;obtain⟨v,hv,cP⟩:=hs.obj _ _ _ cH;obtain⟨u,hu,nC⟩:=hs.obj _ _ _ p6;obtain⟨b,es,clock,B,Kc,hh,gq,IB,oM,_⟩:=cP.ok
  have hA:∀k,bF u k->¬H.sub s k:=λk hk h2=>hs.apart _ _ _ _ _ _ _ _ du cH p6 hv hu k h2 hk
  obtain⟨S2,b1,b2⟩:=wu (A0:=bF u) hu ⟨nC.ok,λ_=>Iff.rfl⟩ (λk hk hB=>hA k hk (oM.right k hB)) IB
  have Q2:¬S2 b:=λh=>(b2 b h).elim (oM.off b rfl) λh=>hA b h (oM.left b rfl)
  refine mP.Ak (t':= .dmap T0 K E r (ya K l a y) ae) hs cH hv rfl (by simp) (λk=>is b k\/S2 k) (λk hk=>?_) ⟨rfl,rfl,rfl,aiM _,λ_ _ _=>rfl⟩ ⟨b,es,clock,S2,Kc,hh,gq,b1 _,r7.mk' λk h1 h2=>Q2 (by rw[<-show k=b from h1];exact h2),λ_ _ e=>by cases e⟩ trivial;have hk:is b k\/S2 k:=hk
  have N4:∀k,H.sub s k->cC H ob [o,o1] k:=λk hk=>⟨o,by simp,s,_,_,cH,hv,hk⟩
  rcases hk with hk|hk
  .exact N4 k (oM.left k hk)
  .exact(b2 k hk).elim (λh=>N4 k (oM.right k h)) λh=>⟨o1,by simp,s1,_,_,p6,hu,h⟩
noncomputable def Lh(ob:Nat->Option (Nat×Th))(n o:Nat):Option eB:=
 match Lf ob n o with
 |some e=>aa e
 |none=>Lg ob n o
def EP(hs:aL U H F w ob n){o:Nat}{e:eB}(h:Lh ob n o=aa e):lV H F w ob n e undef w:=by
 unfold Lh at h;split at h
 .rename_i e' he;cases h;exact IG hs he
 .exact EO hs h
def DR.tP:(d:DR)->d.low.dF=d.row.dF
 | .leaf _=>rfl
 | .sl _ _=>rfl
 | .pair a b=>by show a.low.dF++b.low.dF=a.row.dF++b.row.dF;rw[a.tP,b.tP]
def Li{α β:Type}{l m out:List α}{lx ly:List β}(h:cA l m=aa out)(h1:lx.length=l.length)(h2:ly.length=m.length):cA lx ly=aa (lx++ly)/\out=l++m:=by
 unfold cA at h⊢;split at h
 case isFalse=>cases h
 rename_i hle;exact⟨by rw[aj (by omega)],(aiF h).symm⟩
def uH(T:bk P){t e:TypeId}{r:Row}(hu:find T.und t=aa (.slice e))(hr:find T.row e=aa r){dr:DR}(lS:dr.row=r){x y:Operand}{l m out:List dr.row.den}{Sx:Nat->Prop}{eat:List Nat}{o2 s2:Nat}
 (hs:aL U H F w ob n)(hx:Ig F w e dr.low (λ_=>lk F w dr) (ev ρ x) l Sx)(Yp:∀k,Sx k->¬F k)(hxe:∀k,Sx k->cC H ob eat k)(KM:∀k,Sx k->k<w.heap.size)
 (vl:ob o2=aa (s2, .deep e dr m ae))(si:H.val o2=aa (ev ρ y))(Q3:o2∈eat)(sE:∀k,Sx k->¬H.sub s2 k)(ha:cA l m=aa out):
 cK P U H F w ρ ob n ⟨aa d, .call {callee:= .builtin .append,args:= #[x,y],argTypes:= #[t,t]},ty,pos,aft,ae⟩ {dst:= .val ag (.own n),eat:=eat,make:=[(n,(n, .deep e dr out ae))]}:=by
 obtain⟨lx,Xo,Nq,TW,hrx,Kd⟩:=hx;obtain⟨ly,Sy,hoy,XX,hry,Q4⟩:=hs.low vl si;obtain⟨v2,Ia,N6⟩:=hs.obj _ _ _ vl;rw[si]at Ia;obtain rfl:=aiF Ia;obtain⟨Up,rfl⟩:=Li ha TW XX;obtain⟨ti,z,h1,h2,h3,h4,h5⟩:=T.row_ok _ _ hr;have ht:=T.und_ok _ _ hu;subst lS;obtain⟨v',w',bG,bW,gP,hm⟩:=vM ty ht h1 h2 (h3.trans dr.tP.symm) (h4.trans dr.size.symm) h5 (base:=0) (l:=lx) ⟨λk hk=>Yp k (Kd.bF k hk),Nq⟩ hoy.reads Up hs.lt (ai6 _)
 have gq:Step F w F w':=Step.ext bW hs.lt λk hk=>Yp k (Kd.bF k hk)
 have Xp:∀k,H.sub s2 k->cC H ob eat k:=λk hk=>⟨o2,Q3,s2,_,_,vl,si,hk⟩
 have Uq:∀i,i<l.length->∀k,Xo i k->w'.heap[k]? =w.heap[k]? :=λi hi k hk=>bW.block k (KM k (Kd.part hi k hk)) (Kd.out i k hi hk)
 have Ur:∀i,i<m.length->∀k,Sy i k->w'.heap[k]? =w.heap[k]? :=λi hi k hk=>bW.block k (N6.lt k (Q4.part hi k hk)) λCp=>sE k (Kd.bF k Cp) (Q4.part hi k hk)
 have hlen:(l++m).length=l.length+m.length:=List.length_append
 have Kc:∀k,bF v' k->(Sx k/\bF (ev ρ x) k)\/k=w.heap.size:=by
  intro k hk
  rcases hm with g|g
  .rw[g]at hk;exact .inl ⟨Kd.bF k hk,hk⟩
  .rw[g]at hk;exact .inr hk.symm
 let SS:Nat->Nat->Prop:=λi=>if i<l.length then Xo i else Sy (i-l.length)
 have TD:∀i k,i<l.length->SS i k->Xo i k:=λi k hi hk=>by simpa only[SS,aj hi]using hk
 have TE:∀i k,¬i<l.length->SS i k->Sy (i-l.length) k:=λi k hi hk=>by simpa only[SS,ai hi]using hk
 have hSS:∀i k,i<(l++m).length->SS i k->Sx k\/H.sub s2 k:=by
  intro i k hi hk;by_cases aH:i<l.length
  .exact .inl (Kd.part aH k (TD i k aH hk))
  .exact .inr (Q4.part (by omega) k (TE i k aH hk))
 have lT:v'.oneCell'=af:=lU.one (T:=e) (r:=dr.low) gP.2;refine cz.val (v:=v') (w':=w') (by simp[execOp,resolve,invoke,builtin,bG]) (mP.Q1 (t:= .deep e dr (l++m) ae) (S:=rH (bF v') SS (l++m).length) hs rfl lT ⟨bW.os,bW.tape,bW.output,bW.size,λk hk hn=>bW.block k hk λQI=>hn (hxe k (Kd.bF k QI))⟩ ?_ (λk hk=>?_) (nR (o:=n) (v:=v') (by simp[aK.cE]) lT))
 .refine⟨lx++ly,SS,gP.2,by simp[TW,XX],λi a b=>?_,⟨λk=>Iff.rfl,λi j k hi hj du hk iK=>?_,λi k hi hk QI=>?_⟩⟩
  .show lk F w' dr (lx++ly)[i] (l++m)[i] (SS i)
   by_cases aH:i<l.length
   .have e1:(lx++ly)[i]=lx[i]'(by omega):=ai7 (by omega);have e2:(l++m)[i]=l[i]:=ai7 aH
    have e3:SS i=Xo i:=by simp only[SS,aj aH]
    rw[e1,e2,e3];exact lk.keep gq (hrx i (by omega) aH) (Uq i aH)
   .have e1:(lx++ly)[i]=ly[i-l.length]'(by simp at a;omega):=by rw[ajc (by omega)];simp only[TW]
    have e2:(l++m)[i]=m[i-l.length]'(by omega):=ajc (by omega)
    have e3:SS i=Sy (i-l.length):=by simp only[SS,ai aH]
    rw[e1,e2,e3];exact lk.keep gq (hry (i-l.length) _ (by omega)) (Ur _ (by omega))
  .by_cases h1:i<l.length<;>by_cases h2:j<l.length
   .exact Kd.two i j k h1 h2 du (TD i k h1 hk) (TD j k h2 iK)
   .exact sE k (Kd.part h1 k (TD i k h1 hk)) (Q4.part (by omega) k (TE j k h2 iK))
   .exact sE k (Kd.part h2 k (TD j k h2 iK)) (Q4.part (by omega) k (TE i k h1 hk))
   .exact Q4.two (i-l.length) (j-l.length) k (by omega) (by omega) (by omega) (TE i k h1 hk) (TE j k h2 iK)
  .rcases Kc k QI with⟨g1,g2⟩|g
   .by_cases h1:i<l.length
    .exact Kd.out i k h1 (TD i k h1 hk) g2
    .exact sE k g1 (Q4.part (by omega) k (TE i k h1 hk))
   .rcases hSS i k hi hk with h1|h1
    .have:=KM k h1;omega
    .have:=N6.lt k h1;omega
 .have hk:rH (bF v') SS (l++m).length k:=hk
  have fin:Sx k\/H.sub s2 k->¬F k/\k<w'.heap.size/\(w.heap.size<=k\/cC H ob eat k):=by
   rintro(h1|h1)
   .exact⟨Yp k h1,ai4 (KM k h1) bW.size, .inr (hxe k h1)⟩
   .exact⟨N6.no k h1,ai4 (N6.lt k h1) bW.size, .inr (Xp k h1)⟩
  rcases hk with hk|⟨i,hi,hk⟩
  .rcases Kc k hk with⟨g,_⟩|g
   .exact fin (.inl g)
   .exact⟨λe=>by have:=hs.lt k e;omega,gP.lt k hk, .inl (by omega)⟩
  .exact fin (hSS i k hi hk)
def sG(T:bk P)(ob:Nat->Option (Nat×Th))(n:Nat)(t:TypeId)(X Y:aI)(k:eB->Option R):Option R:=
 match find T.und t with
 |some (.slice e)=>match find T.row e with
  |some r=>match Y with
   | .val ag (.own o2)=>match ob o2 with
     |some (_, .deep T2 d2 m ae)=>bif aiK T2 e&&d2.row.beq r then(match X with
      | .val ag .nil=>(cA ([]:List d2.row.den) m).bind λl=>k {dst:= .val ag (.own n),eat:=[o2],make:=[(n,(n, .deep e d2 l ae))]}
      | .val ag (.own o1)=>match ob o1 with
        |some (_, .deep T1 d1 l0 ae)=>bif aiK o1 o2 then ae else bif aiK T1 e then(if h:d1.beq d2=af then(cA (DR.eq_of_beq h▸l0) m).bind λl=>k {dst:= .val ag (.own n),eat:=[o1,o2],make:=[(n,(n, .deep e d2 l ae))]}else ae)else ae
        |_=>ae
      |_=>ae)else ae
     |_=>ae
   |_=>ae
  |none=>ae
 |_=>ae
def Cq(T:bk P){t:TypeId}{X Y:aI}{x y:Operand}{k:eB->Option R}{q:R}(h:sG T ob n t X Y k=aa q)(hs:aL U H F w ob n)(hx:aG H F w X (ev ρ x))(hy:aG H F w Y (ev ρ y)):
 ∃e,k e=aa q/\cK P U H F w ρ ob n ⟨aa d, .call {callee:= .builtin .append,args:= #[x,y],argTypes:= #[t,t]},ty,pos,aft,ae⟩ e:=by
 unfold sG at h;split at h
 case h_2=>cases h
 rename_i e hu;split at h
 case h_2=>cases h
 rename_i r hr;split at h
 case h_2=>cases h
 rename_i o2;split at h
 case h_2=>cases h
 rename_i s2 T2 d2 m vl;obtain⟨hc,h'⟩:=bf h;clear h;obtain⟨yB,xJ⟩:=dc hc;obtain rfl:=beq_true yB;have lS:=Row.eq_of_beq xJ;obtain⟨cs,⟨u,NJ,_,e2⟩,_,h3⟩:=hy;rw[h3 rfl]at e2
 obtain rfl:ev ρ y=u:=by simpa using e2
 split at h'
 .obtain⟨l,hl,hk⟩:=bind_some h';refine⟨_,hk,uH (Sx:=λ_=>False) T hu hr lS hs ?_ (λ_ h=>h.elim) (λ_ h=>h.elim) (λ_ h=>h.elim) vl NJ (by simp) (λ_ h=>h.elim) hl⟩;obtain⟨cs,h1,_,h4⟩:=hx;rw[h4 rfl]at h1;have Aa:[ev ρ x]=[Value.slice ae 0 0]:=h1;rw[show ev ρ x= .slice ae 0 0 by simpa using Aa];exact⟨[],λ_ _=>False,lU.nil F w T2 d2.low,rfl,λi h=>absurd h (by simp),⟨λk=>by simp[bF,aiT],λ_ _ _ h=>absurd h (by simp),λ_ _ h=>absurd h (by simp)⟩⟩
 .rename_i o1;split at h'
  case h_2=>cases h'
  rename_i s1 T1 d1 l0 p6
  cases du:aiK o1 o2 with
  |true=>rw[du]at h';cases h'
  |false=>
   rw[du,cond_false]at h'
   have du:o1≠o2:=λe=>by rw[e]at du;simp at du
   obtain⟨hT,h⟩:=bf h';clear h';obtain rfl:=beq_true hT;split at h
   case isFalse=>cases h
   rename_i hb;obtain rfl:=DR.eq_of_beq hb;obtain⟨l,hl,hk⟩:=bind_some h;obtain⟨cs,⟨v,vj,_,e1⟩,_,h4⟩:=hx;rw[h4 rfl]at e1
   obtain rfl:ev ρ x=v:=by simpa using e1
   obtain⟨v',dZ,nC⟩:=hs.obj _ _ _ p6;rw[vj]at dZ;obtain rfl:=aiF dZ;exact⟨_,hk,uH (Sx:=H.sub s1) T hu hr lS hs nC.ok nC.no (λk hk=>⟨o1,by simp,s1,_,_,p6,vj,hk⟩) nC.lt vl NJ (by simp) (λk hk=>hs.apart _ _ _ _ _ _ _ _ du p6 vl vj NJ k hk) hl⟩
 .cases h'
def Lj(ob:Nat->Option (Nat×Th)):aI->Bool
 | .val ag (.own o)=>match ob o with
   |some (_, .deep ..)=>af
   |_=>ag
 |_=>ag
def oN(T:bk P)(ob:Nat->Option (Nat×Th))(n:Nat)(t:TypeId)(X Y:aI)(k:eB->Option R):Option R:=
 bif Lj ob Y then sG T ob n t X Y k else qI T ob n t X Y k
def Cr(T:bk P){t:TypeId}{X Y:aI}{x y:Operand}{k:eB->Option R}{q:R}(h:oN T ob n t X Y k=aa q)(hs:aL U H F w ob n)(hx:aG H F w X (ev ρ x))(hy:aG H F w Y (ev ρ y)):
 ∃e,k e=aa q/\cK P U H F w ρ ob n ⟨aa d, .call {callee:= .builtin .append,args:= #[x,y],argTypes:= #[t,t]},ty,pos,aft,ae⟩ e:=by
 unfold oN at h
 cases hb:Lj ob Y with
 |true=>rw[hb,cond_true]at h;exact Cq T h hs hx hy
 |false=>rw[hb,cond_false]at h;exact Ez T h hs hx hy
end
end
end Go.Proofs.YtleifhfeahnocaaGreatDoor
section
open _root_.Bool renaming false->ag,true->af
open _root_.Option renaming none->ae,some->aa
open _root_.List renaming length_cons->aiU
open _root_.Nat renaming beq->aiK,blt->ajg,le_refl->aiM
open _root_.Option.some renaming inj->aiF,injEq->aiO
open _root_.Go.Value renaming ownBlock->aiT
namespace Go.Proofs.YtleifhfeahnocaaGreatDoor
open Go Go.RowKit
def fg(objs:List (Nat×(Nat×Th))):List Nat->Option (List (Nat×(Nat×Th)))
 |[]=>aa objs
 |o::os=>match find objs o with
  |some (s, .own T r l)=>fg ((o,(s, .vh T r l))::del [o] objs) os
  |some (s, .map T K agg V l)=>fg ((o,(s, .fmap T K agg V l))::del [o] objs) os
  |some (s, .deep T d l ae)=>fg ((o,(s, .fdeep T d l))::del [o] objs) os
  |some (s, .dmap T K E r l ae)=>fg ((o,(s, .fdmap T K E r l))::del [o] objs) os
  |some (_, .vh ..)=>fg objs os
  |some (_, .fmap ..)=>fg objs os
  |some (_, .fdeep ..)=>fg objs os
  |some (_, .fdmap ..)=>fg objs os
  |_=>ae
def fo:Th->Bool
 | .vh .. =>af
 | .fmap .. =>af
 | .fdeep .. =>af
 | .fdmap .. =>af
 |_=>ag
structure TF(t t':Th):Prop where
 froz:fo t'=af
 base:t'.base=t.base
 fp:∀S v k,¬fp S v t' k
 ok:∀{H:aK}{F:Nat->Prop}{w:World}{S:Nat->Prop}{v:Value},(∀k,Go.Proofs.YtleifhfeahnocaaGreatDoor.fp S v t k->¬F k)->jV H F w S v t->jV H (λb=>F b\/Go.Proofs.YtleifhfeahnocaaGreatDoor.fp S v t b) w S v t'
structure cQ(H:aK)(F:Nat->Prop)(w:World)(H':aK)(F':Nat->Prop)(w':World):Prop where
 kg:H.le H'
 step:Step F w F' w'
def cQ.refl(H:aK)(F:Nat->Prop)(w:World):cQ H F w H F w:=⟨aK.le.refl H,Step.refl F w⟩
def cQ.trans{H H' xU:aK}{F F' Lk:Nat->Prop}{w w' BI:World}(h:cQ H F w H' F' w')(k:cQ H' F' w' xU Lk BI):cQ H F w xU Lk BI:=⟨h.kg.trans k.kg,h.step.trans k.step⟩
structure Ll(G:Nat->Prop)(w0:World)(F0:Nat->Prop)(w:World)(F:Nat->Prop):Prop where
 ext:Ext G w0 w
 le:∀b,F0 b->F b
 new:∀b,F b->F0 b\/w0.heap.size<=b\/G b
section
variable {U:Nat->Prop} {H:aK} {F:Nat->Prop} {w:World} {n:Nat}
def N7(T:TypeId)(r:Row)(l:List r.den):TF (.own T r l) (.vh T r l) where
 froz:=rfl
 base:=rfl
 fp _ _ _ h:=h
 ok hn h:=Own.freeze (base:=0) (T:=T) (l:=l) ⟨hn,h⟩
def N8(T:TypeId)(K:Row)(agg:Bool)(V:Row)(l:List (K.den×V.den)):TF (.map T K agg V l) (.fmap T K agg V l) where
 froz:=rfl
 base:=rfl
 fp _ _ _ h:=h
 ok {H F w S v} _ h:=by
  obtain⟨b,es,clock,h1,h2,h3,h4⟩:=h;obtain⟨g1,g2⟩:=GG h4;refine⟨v,rfl, .inr ⟨b,es,clock,h1, .inr h1,h2,h3,by simpa using g1,λi hi=>?_⟩⟩;obtain⟨e,cs,q1,q2,q3,q4,q5⟩:=g2 i hi;exact⟨e,cs,by simpa using q1,q2,q3.step (Step.freeze F w _),q4,q5⟩
def lU.lS{F:Nat->Prop}{w:World}{T:TypeId}{r:Row}{v:Value}{l:List r.den}(h:lU F w T r v l):cG F w .lS [v] v:=by
 obtain⟨xs,⟨_,h⟩,_⟩:=h
 rcases h with⟨rfl,_⟩|⟨gg,o0,cap,cur,rfl,_⟩<;>exact⟨rfl,_,_,_,rfl⟩
def Lm(T:TypeId)(d:DR)(l:List d.row.den):TF (.deep T d l ae) (.fdeep T d l) where
 froz:=rfl
 base:=rfl
 fp _ _ _ h:=h
 ok {H F w S v} hn h:=by
  have h':lk F w (.sl T d) v l S:=h;obtain⟨lh,Ss,h1,_⟩:=h;exact lk.freeze h' hn h1.lS
def Ln(T:TypeId)(K:Row)(E:TypeId)(r:Row)(l:List (K.den×List r.den)):TF (.dmap T K E r l ae) (.fdmap T K E r l) where
 froz:=rfl
 base:=rfl
 fp _ _ _ h:=h
 ok {H F w S v} hn h:=by
  obtain⟨b,es,clock,B,h1,h2,h3,h4,h5,_⟩:=h;obtain⟨g1,g2⟩:=Cn h4;refine⟨v,rfl, .inr ⟨b,es,clock,h1, .inr (h5.left b rfl),h2,h3,by simpa using g1,λi hi=>?_⟩⟩;obtain⟨e,A,q1,q2,q3,q4⟩:=g2 i hi
  have NX:∀k,A k->S k:=λk hk=>h5.right k (q4 k hk)
  have hf:=Own.freeze (base:=0) (T:=E) (l:=l[i].2) ⟨λk hk=>hn k (NX k ((q3.2 k).2 hk)),q3.1⟩;exact⟨e,[e.val],by simpa using q1,q2,hf.step (r:= .slice r) λk hk=>⟨hk.imp id λh=>NX k ((q3.2 k).2 h),rfl⟩,rfl,λ_=>rfl⟩
def N9{objs:List (Nat×(Nat×Th))}{o s:Nat}{t0 t1:Th}(hf:TF t0 t1)(hs:aL U H F w (find objs) n)(ho:find objs o=aa (s,t0)):
 ∃F',aL U H F' w (find ((o,(s,t1))::del [o] objs)) n/\(∀b,F b->F' b)/\(∀b,F' b->F b\/∃v,H.val o=aa v/\fp (H.sub s) v t0 b):=by
 obtain⟨v,hv,cP⟩:=hs.obj _ _ _ ho;refine⟨λb=>F b\/fp (H.sub s) v t0 b,?_,λ_ h=> .inl h,(by grind)⟩
 have part:∀o' s' t',find ((o,(s,t1))::del [o] objs) o'=aa (s',t')->(o'=o/\s'=s/\t'=t1)\/(o'≠o/\find objs o'=aa (s',t')):=by
  intro o' s' t' h;rw[ba]at h;split at h
  .grind
  .grind [jc]
 have fz:Step F w (λb=>F b\/fp (H.sub s) v t0 b) w:=Step.freeze F w _;refine⟨λo' s' t' h=>?_,λo1 o2 s1 s2 t1' t2 v1 v2 du h1 h2 e1 e2 k hk iK=>?_,hs.fresh,λb hb=>hb.elim (hs.lt b) (cP.lt b),hs.new,hs.gl.step fz⟩
 .rcases part o' s' t' h with⟨rfl,rfl,rfl⟩|⟨du,h'⟩
  .exact⟨v,hv,cP.one,by rw[hf.base];exact cP.con,hf.ok cP.no cP.ok,λk hk=>(hf.fp _ _ _ hk).elim,λk hk=>(hf.fp _ _ _ hk).elim,λk hk=>(hf.fp _ _ _ hk).elim⟩
  .obtain⟨v',dZ,Ct⟩:=hs.obj _ _ _ h';refine⟨v',dZ,Ct.one,Ct.con,Ct.ok.heap (aK.le.refl H) fz λ_ _=>rfl,λk hk hF=>?_,Ct.lt,Ct.use⟩
   rcases hF with hF|hF
   .exact Ct.no k hk hF
   .exact hs.apart _ _ _ _ _ _ _ _ du h' ho dZ hv k hk hF
 .rcases part o1 s1 t1' h1 with⟨rfl,rfl,rfl⟩|⟨adV,Aa⟩
  .exact hf.fp _ _ _ hk
  .rcases part o2 s2 t2 h2 with⟨rfl,rfl,rfl⟩|⟨adW,J6⟩
   .exact hf.fp _ _ _ iK
   .exact hs.apart _ _ _ _ _ _ _ _ du Aa J6 e1 e2 k hk iK
def oO:{os:List Nat}->{F:Nat->Prop}->{objs nS:List (Nat×(Nat×Th))}->fg objs os=aa nS->aL U H F w (find objs) n->
 ∃F',aL U H F' w (find nS) n/\(∀b,F b->F' b)/\(∀b,F' b->F b\/cC H (find objs) os b)
 |[],F,objs,nS,h,hs=>by obtain rfl:=aiF h;grind
 |o::os,F,objs,nS,h,hs=>by
  have main:∀s t t',TF t t'->find objs o=aa (s,t)->fg ((o,(s,t'))::del [o] objs) os=aa nS->
   ∃F',aL U H F' w (find nS) n/\(∀b,F b->F' b)/\(∀b,F' b->F b\/cC H (find objs) (o::os) b):=by
   intro s t t' hf ho h;obtain⟨F1,a1,a2,a3⟩:=N9 hf hs ho;obtain⟨F2,b1,b2,b3⟩:=oO h a1;refine⟨F2,b1,λb hb=>b2 b (a2 b hb),λb hb=>?_⟩
   rcases b3 b hb with h1|⟨o',jS,s',t',v,h1,h2,h3⟩
   .rcases a3 b h1 with h2|⟨v,hv,hm⟩
    .exact .inl h2
    .exact .inr ⟨o,by simp,s,_,v,ho,hv,hm⟩
   .rw[ba]at h1;split at h1
    .simp only[aiO,Prod.mk.injEq]at h1;rw[<-h1.2]at h3;exact(hf.fp _ _ _ h3).elim
    .exact .inr ⟨o',by simp[jS],s',t',v,(jc.1 h1).2,h2,h3⟩
  have same:fg objs os=aa nS->∃F',aL U H F' w (find nS) n/\(∀b,F b->F' b)/\(∀b,F' b->F b\/cC H (find objs) (o::os) b):=by
   intro h;obtain⟨F2,b1,b2,b3⟩:=oO h hs;exact⟨F2,b1,b2,λb hb=>(b3 b hb).imp id λ⟨o',jS,rest⟩=>⟨o',by simp[jS],rest⟩⟩
  unfold fg at h;split at h
  .rename_i ho;exact main _ _ _ (N7 ..) ho h
  .rename_i ho;exact main _ _ _ (N8 ..) ho h
  .rename_i ho;exact main _ _ _ (Lm ..) ho h
  .rename_i ho;exact main _ _ _ (Ln ..) ho h
  .exact same h
  .exact same h
  .exact same h
  .exact same h
  .cases h
end
theorem iG{S:Nat->Prop}{v:Value}{t:Th}{k:Nat}(h:fo t=af)(hk:fp S v t k):False:=by
 cases t<;>first|(exact hk)|(cases h)
def ji:{os:List Nat}->{objs nS:List (Nat×(Nat×Th))}->fg objs os=aa nS->∀o s t,find nS o=aa (s,t)->
 find objs o=aa (s,t)\/fo t=af
 |[],objs,nS,h,o,s,t,ho=>by obtain rfl:=aiF h;exact .inl ho
 |o0::os,objs,nS,h,o,s,t,ho=>by
  have main:∀s0 t1,fo t1=af->fg ((o0,(s0,t1))::del [o0] objs) os=aa nS->find objs o=aa (s,t)\/fo t=af:=by
   intro s0 t1 hf h
   rcases ji h o s t ho with h1|g
   .grind [ba,jc]
   .exact .inr g
  unfold fg at h;split at h
  .exact main _ _ rfl h
  .exact main _ _ rfl h
  .exact main _ _ rfl h
  .exact main _ _ rfl h
  .exact ji h o s t ho
  .exact ji h o s t ho
  .exact ji h o s t ho
  .exact ji h o s t ho
  .cases h
inductive Sh where
 |leaf (r:Row)
 |own (j:Nat)
 |nil
 |pair (a b:Sh)
 |junk (n:Nat)
inductive SS where
 |val (agg:Bool) (t:Sh)
 |ptr (j:Nat) (p:List Bool) (off:Nat)
 |at (r:Row)
 |undef
 |fn (f:FuncId) (js:List (Nat×List Bool×Nat))
 |ifc (T:TypeId) (s:SS)
inductive OS where
 |box (T:TypeId) (t:Sh)
 |own (T:TypeId) (r:Row)
 |map (T:TypeId) (K:Row) (agg:Bool) (V:Row)
 |deep (T:TypeId) (d:DR)
 |dmap (T:TypeId) (K:Row) (E:TypeId) (r:Row)
structure JS where
 aJ:List (Nat×SS)
 objs:List (Nat×OS):=[]
 drop:List Nat:=[]
 nxt:Nat
def Sh.rows:Sh->List Row
 | .leaf r=>[r]
 | .own _=>[]
 | .nil=>[]
 | .pair a b=>a.rows++b.rows
 | .junk _=>[]
def SS.rows:SS->List Row
 | .val _ t=>t.rows
 | .ptr .. =>[]
 | .at r=>[r]
 | .undef=>[]
 | .fn .. =>[]
 | .ifc _ s=>s.rows
def OS.rows:OS->List Row
 | .box _ t=>t.rows
 | .own _ r=>[.slice r]
 | .map _ K _ V=>[.slice (.pair K V)]
 | .deep _ d=>[.slice d.row]
 | .dmap _ K _ r=>[.slice (.pair K (.slice r))]
def Cu:List (Nat×SS)->List Row
 |[]=>[]
 |p::l=>p.2.rows++Cu l
def GI:List (Nat×OS)->List Row
 |[]=>[]
 |p::l=>p.2.rows++GI l
def JS.rows(J:JS):List Row:=Cu J.aJ++GI J.objs
abbrev jW:=(r:Row)×r.den
@[reducible] def dA:List Row->Type
  |[]=>Unit
  |[r]=>r.den
  |r::s::rs=>r.den×dA (s::rs)
def dG:(rs:List Row)->dA rs->List jW
 |[],_=>[]
 |[r],x=>[⟨r,x⟩]
 |r::s::rs,x=>⟨r,x.1⟩::dG (s::rs) x.2
def Cv:(rs:List Row)->List jW->Option (dA rs)
 |[],[]=>aa ()
 |[r],[⟨s,x⟩]=>if h:s.beq r=af then aa (jT (Row.eq_of_beq h) x)else ae
 |r::r'::rs,⟨s,x⟩::vs=>if h:s.beq r=af then(match Cv (r'::rs) vs with
  |some y=>aa (jT (Row.eq_of_beq h) x,y)
  |none=>ae)else ae
 |_,_=>ae
def yN{r s:Row}(h:s=r)(x:s.den):(⟨r,jT h x⟩:jW)=⟨s,x⟩:=by subst h;rfl
def uI:{rs:List Row}->{vs:List jW}->{x:dA rs}->Cv rs vs=aa x->dG rs x=vs
 |[],[],x,_=>rfl
 |[],_::_,_,h=>by cases h
 |[r],[],_,h=>by cases h
 |[r],[⟨s,x⟩],y,h=>by
  unfold Cv at h;split at h
  .rename_i hb;obtain rfl:=aiF h
   show[(⟨r,_⟩:jW)]=_
   rw[yN]
  .cases h
 |[r],_::_::_,_,h=>by cases h
 |r::r'::rs,[],_,h=>by cases h
 |r::r'::rs,⟨s,x⟩::vs,y,h=>by
  unfold Cv at h;split at h
  .rename_i hb;split at h
   .rename_i z hz;obtain rfl:=aiF h;have:=uI hz
    show(⟨r,_⟩:jW)::dG (r'::rs) z=_
    rw[yN,this]
   .cases h
  .cases h
def pU:Sh->List jW->Tree×List jW
 | .leaf r,⟨s,x⟩::vs=>(bif s.beq r then .leaf s x else .nil,vs)
 | .leaf _,[]=>(.nil,[])
 | .own j,vs=>(.own j,vs)
 | .nil,vs=>(.nil,vs)
 | .pair a b,vs=>(.pair (pU a vs).1 (pU b (pU a vs).2).1,(pU b (pU a vs).2).2)
 | .junk n,vs=>(.junk n,vs)
def eR:SS->List jW->aI×List jW
 | .val agg t,vs=>(.val agg (pU t vs).1,(pU t vs).2)
 | .ptr j p off,vs=>(.ptr j p off,vs)
 | .at r,⟨s,x⟩::vs=>(bif s.beq r then .at s x else .dead,vs)
 | .at _,[]=>(.dead,[])
 | .undef,vs=>(.undef,vs)
 | .fn f js,vs=>(.fn f js,vs)
 | .ifc T s,vs=>(.ifc T (eR s vs).1,(eR s vs).2)
def de:List (Nat×SS)->List jW->List (Nat×aI)×List jW
 |[],vs=>([],vs)
 |(t,s)::l,vs=>((t,(eR s vs).1)::(de l (eR s vs).2).1,(de l (eR s vs).2).2)
def cD:OS->List jW->Th×List jW
 | .box T t,vs=>(.box T (pU t vs).1,(pU t vs).2)
 | .own T r,⟨.slice s,l⟩::vs=>(bif s.beq r then .own T s l else .own T r [],vs)
 | .own T r,vs=>(.own T r [],vs)
 | .map T K agg V,⟨.slice (.pair K' V'),l⟩::vs=>(if h:K'.beq K=af/\V'.beq V=af then .map T K agg V (jT (r:= .slice (.pair K' V')) (s:= .slice (.pair K V)) (by rw[Row.eq_of_beq h.1,Row.eq_of_beq h.2]) l)else .map T K agg V [],vs)
 | .map T K agg V,vs=>(.map T K agg V [],vs)
 | .deep T d,⟨.slice s,l⟩::vs=>(if h:s.beq d.row=af then .deep T d (jT (r:= .slice s) (s:= .slice d.row) (ay Row.slice (Row.eq_of_beq h)) l) ae else .deep T d [] ae,vs)
 | .deep T d,vs=>(.deep T d [] ae,vs)
 | .dmap T K E r,⟨.slice (.pair K' (.slice s)),l⟩::vs=>(if h:K'.beq K=af/\s.beq r=af then .dmap T K E r (jT (r:= .slice (.pair K' (.slice s))) (s:= .slice (.pair K (.slice r))) (by rw[Row.eq_of_beq h.1,Row.eq_of_beq h.2]) l) ae else .dmap T K E r [] ae,vs)
 | .dmap T K E r,vs=>(.dmap T K E r [] ae,vs)
def iL(m:Nat):List (Nat×OS)->List jW->List (Nat×(Nat×Th))
 |[],_=>[]
 |(j,s)::l,vs=>(j,(m,(cD s vs).1))::iL (m+1) l (cD s vs).2
abbrev Bs:=List (Nat×Option Nat)
def EQ:Option Nat->Option Nat->Bool
 |some a,aa b=>aiK a b
 |none,ae=>af
 |_,_=>ag
theorem yO{a b:Option Nat}(h:EQ a b=af):a=b:=by
 cases a<;>cases b<;>first|rfl|cases h|(rw[beq_true h])
def yP(bs:Bs)(j:Nat)(v:Option Nat):Option Bs:=
 match find bs j with
 |none=>aa ((j,v)::bs)
 |some u=>bif EQ u v then aa bs else ae
def Ec(ob:Nat->Option (Nat×Th)):Sh->Tree->Bs->Option (List jW×Bs)
 | .leaf r,t,bs=>match flat ob r t with
   |some x=>aa ([⟨r,x⟩],bs)
   |none=>ae
 | .own j, .own o,bs=>match yP bs j (aa o)with
   |some gO=>aa ([],gO)
   |none=>ae
 | .own j, .nil,bs=>match yP bs j ae with
   |some gO=>aa ([],gO)
   |none=>ae
 | .nil, .nil,bs=>aa ([],bs)
 | .junk n,t,bs=>bif aiK t.size n then aa ([],bs)else ae
 | .pair a b,t,bs=>match t.split with
   |some (x,y)=>match Ec ob a x bs with
    |some (vs,ER)=>match Ec ob b y ER with
     |some (us,GJ)=>aa (vs++us,GJ)
     |none=>ae
    |none=>ae
   |none=>ae
 |_,_,_=>ae
def tQ:List (Nat×List Bool×Nat)->List (Nat×List Bool×Nat)->Bs->Option Bs
 |[],[],bs=>aa bs
 |(j,_,off)::js,(o,_,eC)::cs,bs=>bif aiK off eC then(match yP bs j (aa o)with
  |some gO=>tQ js cs gO
  |none=>ae)else ae
 |_,_,_=>ae
def Lo(ob:Nat->Option (Nat×Th))(s:SS)(d:aI)(bs:Bs):Option (List jW×Bs):=
 match s,d with
 | .val agg sh, .val mE t=>bif (bif agg then mE else !mE)then Ec ob sh t bs else ae
 | .ptr j _ off, .ptr o _ eC=>bif aiK off eC then(match yP bs j (aa o)with
   |some gO=>aa ([],gO)
   |none=>ae)else ae
 | .at r, .at s x=>if h:s.beq r=af then aa ([⟨r,jT (Row.eq_of_beq h) x⟩],bs)else ae
 | .undef, .undef=>aa ([],bs)
 | .fn f js, .fn f' cs=>bif aiK f f' then(match tQ js cs bs with
   |some gO=>aa ([],gO)
   |none=>ae)else ae
 |_,_=>ae
def IK(ob:Nat->Option (Nat×Th)):SS->aI->Bs->Option (List jW×Bs)
 | .ifc T s,d,bs=>match d with
   | .ifc T' d'=>bif aiK T T' then IK ob s d' bs else ae
   |_=>ae
 |s,d,bs=>Lo ob s d bs
def TG(ob:Nat->Option (Nat×Th))(aJ:List (Nat×aI)):List (Nat×SS)->Bs->Option (List jW×Bs)
 |[],bs=>aa ([],bs)
 |(t,s)::l,bs=>match find aJ t with
  |some d=>match IK ob s d bs with
   |some (vs,ER)=>match TG ob aJ l ER with
    |some (us,GJ)=>aa (vs++us,GJ)
    |none=>ae
   |none=>ae
  |none=>ae
def Lp(ob:Nat->Option (Nat×Th))(j:Nat)(s:OS)(bs:Bs):Option (List jW×Bs):=
 match find bs j with
 |some (aa o)=>match ob o with
  |some (_,t)=>match s,t with
   | .own T r, .own T' r' l=>bif aiK T T' then(if h:r'.beq r=af then aa ([⟨.slice r,jT (r:= .slice r') (s:= .slice r) (ay Row.slice (Row.eq_of_beq h)) l⟩],bs)else ae)else ae
   | .box T sh, .box T' t=>bif aiK T T' then Ec ob sh t bs else ae
   | .map T K agg V, .map T' K' mE V' l=>bif aiK T T'&&(bif agg then mE else !mE)then(if h:K'.beq K=af/\V'.beq V=af then aa ([⟨.slice (.pair K V),jT (r:= .slice (.pair K' V')) (s:= .slice (.pair K V)) (by rw[Row.eq_of_beq h.1,Row.eq_of_beq h.2]) l⟩],bs)else ae)else ae
   | .deep T d, .deep T' d' l ae=>bif aiK T T'&&d'.beq d then aa ([⟨.slice d'.row,l⟩],bs)else ae
   | .dmap T K E r, .dmap T' K' E' r' l ae=>bif aiK T T'&&aiK E E'&&K'.beq K&&r'.beq r then aa ([⟨.slice (.pair K' (.slice r')),l⟩],bs)else ae
   |_,_=>ae
  |none=>ae
 |some ae=>match s with
  | .own _ r=>aa ([⟨.slice r,([]:List r.den)⟩],bs)
  | .deep _ d=>aa ([⟨.slice d.row,([]:List d.row.den)⟩],bs)
  |_=>ae
 |none=>ae
def TH(ob:Nat->Option (Nat×Th)):List (Nat×OS)->Bs->Option (List jW×Bs)
 |[],bs=>aa ([],bs)
 |(j,s)::l,bs=>match Lp ob j s bs with
  |some (vs,ER)=>match TH ob l ER with
   |some (us,GJ)=>aa (vs++us,GJ)
   |none=>ae
  |none=>ae
section
variable {U:Nat->Prop} {H H':aK} {F:Nat->Prop} {w:World} {n:Nat} {ob:Nat->Option (Nat×Th)}
def Cw(bs gO:Bs):Prop:=∀j v,find bs j=aa v->find gO j=aa v
def mF{bs gO:Bs}{j:Nat}{v:Option Nat}(h:yP bs j v=aa gO):Cw bs gO/\find gO j=aa v:=by
 unfold yP at h;split at h
 .rename_i hn;obtain rfl:=aiF h;refine⟨λi u hu=>?_,by rw[ba,aj rfl]⟩
  grind [ba]
 .rename_i u hu;obtain⟨h1,rfl⟩:=sx h;obtain rfl:=yO h1;exact⟨λ_ _ h=>h,hu⟩
def valOf(H:aK):Option Nat->Option Value
 |some o=>H.val o
 |none=>aa (.slice ae 0 0)
def oP(H H':aK)(bs:Bs):Prop:=∀j v,find bs j=aa v->∀u,valOf H v=aa u->H'.val j=aa u
def wA:{sh:Sh}->{t:Tree}->{bs gO:Bs}->{vs:List jW}->Ec ob sh t bs=aa (vs,gO)->Cw bs gO
 | .leaf r,t,bs,gO,vs,h=>by
   unfold Ec at h
   split at h<;>cases h
   exact λ_ _ h=>h
 | .own j, .own o,bs,gO,vs,h=>by
   unfold Ec at h
   split at h<;>cases h
   rename_i hb;exact(mF hb).1
 | .own j, .nil,bs,gO,vs,h=>by
   unfold Ec at h
   split at h<;>cases h
   rename_i hb;exact(mF hb).1
 | .nil, .nil,bs,gO,vs,h=>by cases h;exact λ_ _ h=>h
 | .pair a b,t,bs,gO,vs,h=>by
   unfold Ec at h;split at h
   case h_2=>cases h
   split at h
   case h_2=>cases h
   rename_i h1;split at h
   case h_2=>cases h
   rename_i h2;cases h
   exact λj v hj=>wA h2 j v (wA h1 j v hj)
 | .own _, .leaf _ _,_,_,_,h=>by cases h
 | .own _, .pair _ _,_,_,_,h=>by cases h
 | .nil, .leaf _ _,_,_,_,h=>by cases h
 | .nil, .own _,_,_,_,h=>by cases h
 | .nil, .pair _ _,_,_,_,h=>by cases h
 | .own _, .view ..,_,_,_,h=>by cases h
 | .nil, .view ..,_,_,_,h=>by cases h
 | .own _, .junk _,_,_,_,h=>by cases h
 | .nil, .junk _,_,_,_,h=>by cases h
 | .junk n,t,bs,gO,vs,h=>by
   unfold Ec at h;obtain⟨_,h⟩:=bf h;cases h
   exact λ_ _ h=>h
def Av(hs:aL U H F w ob n):{sh:Sh}->{t:Tree}->{bs gO:Bs}->{vs:List jW}->{cs:List Value}->Ec ob sh t bs=aa (vs,gO)->Holds H F w t cs->oP H H' gO->∀rest,
 Holds H' F w (pU sh (vs++rest)).1 cs/\(pU sh (vs++rest)).2=rest
 | .leaf r,t,bs,gO,vs,cs,h,hh,hb,rest=>by
   unfold Ec at h
   split at h<;>cases h
   rename_i x hf;refine⟨?_,rfl⟩
   show Holds H' F w (bif r.beq r then Tree.leaf r x else .nil) cs
   rw[Row.beq_refl,cond_true];exact jF hs hf hh
 | .own j, .own o,bs,gO,vs,cs,h,hh,hb,rest=>by
   unfold Ec at h
   split at h<;>cases h
   rename_i HI;obtain⟨v,hv,h1,rfl⟩:=hh;exact⟨⟨v,hb _ _ (mF HI).2 v hv,h1,rfl⟩,rfl⟩
 | .own j, .nil,bs,gO,vs,cs,h,hh,hb,rest=>by
   unfold Ec at h
   split at h<;>cases h
   rename_i HI;rw[show cs=_ from hh];exact⟨⟨_,hb _ _ (mF HI).2 _ rfl,rfl,rfl⟩,rfl⟩
 | .nil, .nil,bs,gO,vs,cs,h,hh,hb,rest=>by cases h;exact⟨hh,rfl⟩
 | .pair a b,t,bs,gO,vs,cs,h,hh,hb,rest=>by
   unfold Ec at h;split at h
   case h_2=>cases h
   rename_i x y tE;split at h
   case h_2=>cases h
   rename_i Yq ER h1;split at h
   case h_2=>cases h
   rename_i us GJ h2;cases h;obtain⟨c1,c2,rfl,g1,g2,_⟩:=hh.split tE
   have J9:oP H H' ER:=λj v hj=>hb j v (wA h2 j v hj)
   obtain⟨k1,k2⟩:=Av hs h1 g1 J9 (us++rest);obtain⟨m1,m2⟩:=Av hs h2 g2 hb rest;rw[List.append_assoc];unfold pU;rw[k2];exact⟨⟨c1,c2,rfl,k1,m1⟩,m2⟩
 | .own _, .leaf _ _,_,_,_,_,h,_,_,_=>by cases h
 | .own _, .pair _ _,_,_,_,_,h,_,_,_=>by cases h
 | .nil, .leaf _ _,_,_,_,_,h,_,_,_=>by cases h
 | .nil, .own _,_,_,_,_,h,_,_,_=>by cases h
 | .nil, .pair _ _,_,_,_,_,h,_,_,_=>by cases h
 | .own _, .view ..,_,_,_,_,h,_,_,_=>by cases h
 | .nil, .view ..,_,_,_,_,h,_,_,_=>by cases h
 | .own _, .junk _,_,_,_,_,h,_,_,_=>by cases h
 | .nil, .junk _,_,_,_,_,h,_,_,_=>by cases h
 | .junk n,t,bs,gO,vs,cs,h,hh,hb,rest=>by
   unfold Ec at h;obtain⟨hn,h⟩:=bf h;cases h;exact⟨⟨hh.length.trans (Nat.eq_of_beq_eq_true hn),hh.kw⟩,rfl⟩
theorem tR:{js cs:List (Nat×List Bool×Nat)}->{bs gO:Bs}->tQ js cs bs=aa gO->Cw bs gO
 |[],[],bs,gO,h=>by obtain rfl:=aiF h;exact λ_ _ h=>h
 |(j,p,off)::js,(o,p',eC)::cs,bs,gO,h=>by
  unfold tQ at h;obtain⟨_,h⟩:=bf h;split at h
  case h_2=>cases h
  rename_i hb
  exact λi v hi=>tR h i v ((mF hb).1 i v hi)
 |[],_::_,_,_,h=>by cases h
 |_::_,[],_,_,h=>by cases h
def yQ:{js cs:List (Nat×List Bool×Nat)}->{bs gO:Bs}->{vs:List Value}->tQ js cs bs=aa gO->lZ H cs vs->oP H H' gO->lZ H' js vs
 |[],[],bs,gO,vs,h,hc,hb=>hc
 |(j,p,off)::js,(o,p',eC)::cs,bs,gO,vs,h,hc,hb=>by
  unfold tQ at h;obtain⟨ho,h'⟩:=bf h;clear h;split at h'
  case h_2=>cases h'
  rename_i b1 HI;obtain⟨v,us,rfl,⟨b,h1,rfl⟩,h2⟩:=hc;have ho:=beq_true ho;subst ho;exact⟨_,us,rfl,⟨b,hb _ _ (tR h' _ _ (mF HI).2) _ h1,rfl⟩,yQ h' h2 hb⟩
 |[],_::_,_,_,_,h,_,_=>by cases h
 |_::_,[],_,_,_,h,_,_=>by cases h
def Oa{s:SS}{d:aI}{bs gO:Bs}{vs:List jW}(h:Lo ob s d bs=aa (vs,gO)):Cw bs gO:=by
 unfold Lo at h;split at h
 .obtain⟨_,h⟩:=bf h;exact wA h
 .obtain⟨_,h⟩:=bf h
  split at h<;>cases h
  rename_i hb;exact(mF hb).1
 .split at h<;>cases h
  exact λ_ _ h=>h
 .cases h
  exact λ_ _ h=>h
 .obtain⟨_,h'⟩:=bf h
  grind [tR]
 .cases h
def Ob{s:SS}{d:aI}{bs gO:Bs}{vs:List jW}(h:IK ob s d bs=aa (vs,gO)):Cw bs gO:=by
 induction s generalizing d with
 |ifc T s ih=>
  cases d with
  |ifc T' d'=>
   obtain⟨_,h'⟩:=bf (show(bif aiK T T' then IK ob s d' bs else ae)=aa (vs,gO)from h);exact ih h'
  |_=>cases h
 |_=>exact Oa h
def Oc(hs:aL U H F w ob n){s:SS}{d:aI}{bs gO:Bs}{vs:List jW}{v:Value}(h:Lo ob s d bs=aa (vs,gO))(hd:aG H F w d v)(hb:oP H H' gO)(rest:List jW):
 aG H' F w (eR s (vs++rest)).1 v/\(eR s (vs++rest)).2=rest:=by
 unfold Lo at h;split at h
 .rename_i agg sh mE t;obtain⟨ha,h'⟩:=bf h;clear h
  have:agg=mE:=by cases agg<;>cases mE<;>simp_all
  subst this;obtain⟨cs,h1,h2⟩:=hd;obtain⟨k1,k2⟩:=Av hs h' h1 hb rest;exact⟨⟨cs,k1,h2⟩,k2⟩
 .rename_i j p off o p' eC;obtain⟨ho,h'⟩:=bf h;clear h
  split at h'<;>cases h'
  rename_i HI;obtain⟨b,h1,h2⟩:=hd;refine⟨⟨b,hb _ _ (mF HI).2 _ h1,?_⟩,rfl⟩
  simp_all
 .rename_i r s x
  split at h<;>cases h
  rename_i B3;obtain rfl:=Row.eq_of_beq B3;refine⟨?_,rfl⟩
  show aG H' F w (bif s.beq s then aI.at s x else .dead) v
  rw[Row.beq_refl,cond_true];exact hd
 .cases h;exact⟨hd,rfl⟩
 .rename_i f js f' cs;obtain⟨hf,h'⟩:=bf h
  split at h'<;>cases h'
  rename_i HI;obtain⟨us,h1,h2⟩:=hd;refine⟨⟨us,?_,yQ HI h2 hb⟩,rfl⟩
  simp_all
 .cases h
def Od(hs:aL U H F w ob n){s:SS}{d:aI}{bs gO:Bs}{vs:List jW}{v:Value}(h:IK ob s d bs=aa (vs,gO))(hd:aG H F w d v)(hb:oP H H' gO)(rest:List jW):
 aG H' F w (eR s (vs++rest)).1 v/\(eR s (vs++rest)).2=rest:=by
 induction s generalizing d v with
 |ifc T s ih=>
  cases d with
  |ifc T' d'=>
   obtain⟨hT,h'⟩:=bf (show(bif aiK T T' then IK ob s d' bs else ae)=aa (vs,gO)from h);obtain⟨u,e,h2⟩:=hd;obtain⟨k1,k2⟩:=ih h' h2;exact⟨⟨u,by simp_all,k1⟩,k2⟩
  |_=>cases h
 |_=>exact Oc hs h hd hb rest
def Lq:{l:List (Nat×SS)}->{aJ:List (Nat×aI)}->{bs gO:Bs}->{vs:List jW}->TG ob aJ l bs=aa (vs,gO)->Cw bs gO
 |[],_,_,_,_,h=>by cases h;exact λ_ _ h=>h
 |(t,s)::l,aJ,bs,gO,vs,h=>by
  unfold TG at h;split at h
  case h_2=>cases h
  split at h
  case h_2=>cases h
  rename_i h1;split at h
  case h_2=>cases h
  rename_i h2;cases h
  exact λj v hj=>Lq h2 j v (Ob h1 j v hj)
def Lr(hs:aL U H F w ob n){aJ:List (Nat×aI)}{ρ:Nat->Value}(gN:∀t d,find aJ t=aa d->aG H F w d (ρ t)):{l:List (Nat×SS)}->{bs gO:Bs}->{vs:List jW}->TG ob aJ l bs=aa (vs,gO)->oP H H' gO->∀rest,
 (∀t d,find (de l (vs++rest)).1 t=aa d->aG H' F w d (ρ t))/\(de l (vs++rest)).2=rest
 |[],bs,gO,vs,h,_,rest=>by cases h;exact⟨λ_ _ h=>(by cases h),rfl⟩
 |(t,s)::l,bs,gO,vs,h,hb,rest=>by
  unfold TG at h;split at h
  case h_2=>cases h
  rename_i d hd;split at h
  case h_2=>cases h
  rename_i Yq ER h1;split at h
  case h_2=>cases h
  rename_i us GJ h2;cases h
  have J9:oP H H' ER:=λj v hj=>hb j v (Lq h2 j v hj)
  obtain⟨k1,k2⟩:=Od hs h1 (gN t d hd) J9 (us++rest);obtain⟨m1,m2⟩:=Lr hs gN h2 hb rest
  grind [de,ba]
end
end Go.Proofs.YtleifhfeahnocaaGreatDoor
namespace Go.Proofs.YtleifhfeahnocaaGreatDoor
open Go Go.RowKit
def Tree.owns:Tree->List Nat
 | .own o=>[o]
 | .pair a b=>a.owns++b.owns
 | .view o _ _ _=>[o]
 |_=>[]
def Cx:Sh->Tree->List Nat
 | .leaf _,t=>t.owns
 | .pair a b,t=>match t.split with
   |some (x,y)=>Cx a x++Cx b y
   |none=>[]
 |_,_=>[]
def GK(aJ:List (Nat×aI)):List (Nat×SS)->List Nat
 |[]=>[]
 |(t, .val _ sh)::l=>(match find aJ t with
  |some (.val _ tr)=>Cx sh tr
  |_=>[])++GK aJ l
 |(t, .ifc _ (.val _ sh))::l=>(match find aJ t with
  |some (.ifc _ (.val _ tr))=>Cx sh tr
  |_=>[])++GK aJ l
 |_::l=>GK aJ l
def PP(j:Nat):List (Nat×List Bool×Nat)->List (Nat×List Bool×Nat)->Option Nat
 |(j',_)::js,(o,_)::cs=>bif aiK j' j then aa o else PP j js cs
 |_,_=>ae
def Cy(aJ:List (Nat×aI))(j:Nat):List (Nat×SS)->Option Nat
 |[]=>ae
 |(t, .ptr j' _ _)::l=>bif aiK j' j then(match find aJ t with
  |some (.ptr o _ _)=>aa o
  |_=>ae)else Cy aJ j l
 |(t, .ifc _ (.ptr j' _ _))::l=>bif aiK j' j then(match find aJ t with
  |some (.ifc _ (.ptr o _ _))=>aa o
  |_=>ae)else Cy aJ j l
 |(t, .fn _ js)::l=>match(match find aJ t with
    |some (.fn _ cs)=>PP j js cs
    |_=>ae)with
  |some o=>aa o
  |none=>Cy aJ j l
 |_::l=>Cy aJ j l
def Ls(nb:Nat)(aJ:List (Nat×aI))(ss:List (Nat×SS))(objs:List (Nat×(Nat×Th))):List (Nat×OS)->List Nat
 |[]=>[]
 |(j, .box _ sh)::l=>(match(bif ajg j nb then aa j else Cy aJ j ss)with
  |some o=>(match find objs o with
   |some (_, .box _ tr)=>Cx sh tr
   |_=>[])
  |none=>[])++Ls nb aJ ss objs l
 |_::l=>Ls nb aJ ss objs l
def Yr(nb:Nat):List (Nat×OS)->Bs
 |[]=>[]
 |(j,_)::l=>bif ajg j nb then(j,aa j)::Yr nb l else Yr nb l
def iM:Bs->List Nat
 |[]=>[]
 |(_,aa o)::l=>o::iM l
 |(_,ae)::l=>iM l
def pg(o:Nat)(l:List Nat):Bool:=l.any (aiK o)
def ES:List Nat->Bool
 |[]=>af
 |o::l=> !pg o l&&ES l
def Lt(nb nxt:Nat):Bs->Bool
 |[]=>af
 |(j,u)::l=>(bif ajg j nb then EQ u (aa j)else ajg j nxt)&&Lt nb nxt l
def ET(objs:List (Nat×(Nat×Th)))(Cz:List Nat):List (Nat×(Nat×Th))->Bool
 |[]=>af
 |(o,(s,t))::l=>(match find objs o with
  |some (s',t')=>aiK s s'&&(bif fo t then fo t' else !fo t')
  |none=>ag)&& !pg o Cz&&ET objs Cz l
def yR(nb:Nat)(J:JS)(aJ:List (Nat×aI))(objs:List (Nat×(Nat×Th))):List Nat:=GK aJ J.aJ++Ls nb aJ J.aJ objs J.objs
def yS(nb:Nat)(frame:List (Nat×(Nat×Th)))(J:JS)(aJ:List (Nat×aI))(objs:List (Nat×(Nat×Th))):Option (dA J.rows×Bs×List (Nat×(Nat×Th))):=
 match fg objs (yR nb J aJ objs)with
 |none=>ae
 |some bh=>match TG (find bh) aJ J.aJ (Yr nb J.objs)with
  |none=>ae
  |some (vs,ER)=>match TH (find bh) J.objs ER with
   |none=>ae
   |some (us,GJ)=>bif ES (iM GJ)&&Lt nb J.nxt GJ&&Nat.ble (nb+J.objs.length) J.nxt&&ET bh (iM GJ) frame then
     (match Cv J.rows (vs++us)with
     |some x=>aa (x,GJ,bh)
     |none=>ae)else ae
def sH:List (Nat×(Nat×Th))->Nat->Option Th
 |[],_=>ae
 |(_,(s,t))::l,m=>bif aiK s m then aa t else sH l m
def Q5:List (Nat×(Nat×Th))->Nat->Option Nat
 |[],_=>ae
 |(j,(s,_))::l,m=>bif aiK s m then aa j else Q5 l m
def wB(H:aK)(ob:Nat->Option (Nat×Th)):Option (Option Nat)->Nat->Prop
 |some (aa o)=>match ob o with
  |some (s,_)=>H.sub s
  |none=>λ_=>False
 |_=>λ_=>False
def eE(H:aK)(nb:Nat)(bs:Bs)(cons:List (Nat×(Nat×Th)))(ob:Nat->Option (Nat×Th)):aK where
 val m:=if m<nb then H.val m else match find bs m with
  |some u=>valOf H u
  |none=>ae
 con m:=if m<nb then H.con m else sH cons m
 sub m:=if m<nb then H.sub m else match Q5 cons m with
  |some j=>wB H ob (find bs j)
  |none=>λ_=>False
section
variable {U:Nat->Prop} {H H':aK} {F:Nat->Prop} {w:World} {n:Nat} {ob:Nat->Option (Nat×Th)}
def GL{j:Nat}{s:OS}{bs gO:Bs}{vs:List jW}(h:Lp ob j s bs=aa (vs,gO)):Cw bs gO:=by
 unfold Lp at h;split at h
 .split at h
  case h_2=>cases h
  split at h
  .obtain⟨_,h'⟩:=bf h
   split at h'<;>cases h'
   exact λ_ _ h=>h
  .obtain⟨_,h'⟩:=bf h;exact wA h'
  .obtain⟨_,h'⟩:=bf h
   split at h'<;>cases h'
   exact λ_ _ h=>h
  .obtain⟨_,h'⟩:=bf h;cases h'
   exact λ_ _ h=>h
  .obtain⟨_,h'⟩:=bf h;cases h'
   exact λ_ _ h=>h
  .cases h
 .split at h<;>cases h
  .exact λ_ _ h=>h
  .exact λ_ _ h=>h
 .cases h
def Aw:{l:List (Nat×OS)}->{bs gO:Bs}->{vs:List jW}->TH ob l bs=aa (vs,gO)->Cw bs gO
 |[],_,_,_,h=>by cases h;exact λ_ _ h=>h
 |(j,s)::l,bs,gO,vs,h=>by
  unfold TH at h;split at h
  case h_2=>cases h
  rename_i h1;split at h
  case h_2=>cases h
  rename_i h2;cases h
  exact λj v hj=>Aw h2 j v (GL h1 j v hj)
def na(H H':aK)(F:Nat->Prop)(w:World)(ob:Nat->Option (Nat×Th))(bs:Bs)(j:Nat)(t:Th):Prop:=
 ∃u v,find bs j=aa u/\valOf H u=aa v/\v.oneCell'=af/\t.base=t/\jV H' F w (wB H ob (find bs j)) v t/\∀k,fp (wB H ob (find bs j)) v t k->∃o s0 t0,u=aa o/\ob o=aa (s0,t0)/\H.val o=aa v/\fp (H.sub s0) v t0 k
def Oe(hs:aL U H F w ob n){j:Nat}{s:OS}{bs gO:Bs}{vs:List jW}(h:Lp ob j s bs=aa (vs,gO))(hb:oP H H' gO)(rest:List jW):
 na H H' F w ob bs j (cD s (vs++rest)).1/\(cD s (vs++rest)).2=rest:=by
 unfold Lp at h;split at h
 .rename_i o TJ;split at h
  case h_2=>cases h
  rename_i s0 t0 cH;obtain⟨v,hv,cP⟩:=hs.obj _ _ _ cH
  have iA:wB H ob (find bs j)=H.sub s0:=by rw[TJ];simp[wB,cH]
  have mk:∀t,t.base=t->jV H' F w (H.sub s0) v t->(∀k,fp (H.sub s0) v t k->fp (H.sub s0) v t0 k)->na H H' F w ob bs j t:=by
   intro t hb sq hf;refine⟨aa o,v,TJ,hv,cP.one,hb,by rw[iA];exact sq,λk hk=>?_⟩;rw[iA]at hk;exact⟨o,_,_,rfl,cH,hv,hf k hk⟩
  split at h
  .rename_i T r T' r' l;obtain⟨hT,h'⟩:=bf h;clear h
   split at h'<;>cases h'
   rename_i B3;obtain rfl:=Row.eq_of_beq B3;obtain rfl:=beq_true hT;refine⟨?_,rfl⟩
   show na H H' F w ob bs j (bif r'.beq r' then Th.own T r' l else .own T r' [])
   rw[Row.beq_refl,cond_true]
   exact mk _ rfl cP.ok λk hk=>hk
  .rename_i T sh T' t;obtain⟨hT,h'⟩:=bf h;clear h;obtain rfl:=beq_true hT;obtain⟨b,es,e,h1,h2⟩:=cP.ok;obtain⟨k1,k2⟩:=Av hs h' h2 hb rest;exact⟨mk _ rfl ⟨b,es,e,h1,k1⟩ λk hk=>hk,k2⟩
  .rename_i T K agg V T' K' mE V' l;obtain⟨hT,h'⟩:=bf h;clear h
   split at h'<;>cases h'
   rename_i B3;obtain⟨Us,ha⟩:=dc hT;clear hT
   have ha:agg=mE:=by cases agg<;>cases mE<;>simp_all
   subst ha;obtain⟨hK,hV⟩:=B3;obtain rfl:=Row.eq_of_beq hK;obtain rfl:=Row.eq_of_beq hV;obtain rfl:=beq_true Us;refine⟨?_,rfl⟩
   show na H H' F w ob bs j (if h:K'.beq K'=af/\V'.beq V'=af then Th.map T K' agg V' l else .map T K' agg V' [])
   rw[dif_pos ⟨Row.beq_refl _,Row.beq_refl _⟩];obtain⟨b,es,clock,e,h1,h2,h3⟩:=cP.ok
   exact mk _ rfl ⟨b,es,clock,e,h1,h2,h3.kg⟩ λk hk=>hk
  .rename_i T d T' d' l;obtain⟨hT,h'⟩:=bf h;clear h;obtain⟨Us,hd⟩:=dc hT;obtain rfl:=DR.eq_of_beq hd;obtain rfl:=beq_true Us;cases h';refine⟨?_,rfl⟩
   show na H H' F w ob bs j (if h:d'.row.beq d'.row=af then Th.deep T d' l ae else .deep T d' [] ae)
   rw[dif_pos (Row.beq_refl _)]
   exact mk _ rfl cP.ok λk hk=>hk
  .rename_i T K E r T' K' E' r' l;obtain⟨hT,h'⟩:=bf h;clear h;obtain⟨hT,hd⟩:=dc hT;obtain⟨hT,xL⟩:=dc hT;obtain⟨Us,hE⟩:=dc hT;obtain rfl:=Row.eq_of_beq hd;obtain rfl:=Row.eq_of_beq xL;obtain rfl:=beq_true Us;obtain rfl:=beq_true hE;cases h';refine⟨?_,rfl⟩
   show na H H' F w ob bs j (if h:K'.beq K'=af/\r'.beq r'=af then Th.dmap T K' E r' l ae else .dmap T K' E r' [] ae)
   rw[dif_pos ⟨Row.beq_refl _,Row.beq_refl _⟩];obtain⟨b,es,clock,B,e,h1,h2,h3,h4,_⟩:=cP.ok
   exact mk _ rfl ⟨b,es,clock,B,e,h1,h2,h3.keep (Step.refl F w) (λ_ _ _ e=>by cases e) (λ_ _=>rfl),h4,λ_ _ e=>by cases e⟩ λk hk=>hk
  .cases h
 .rename_i TJ
  split at h<;>cases h
  .rename_i T r;refine⟨?_,rfl⟩
   show na H H' F w ob bs j (bif r.beq r then Th.own T r []else .own T r [])
   rw[Row.beq_refl,cond_true];refine⟨ae,_,TJ,rfl,rfl,rfl,(Own.nil 0 F w T r).2,λk hk=>?_⟩;have iK:bF (.slice ae 0 0) k:=hk;simp[bF,aiT]at iK
  .rename_i T d;refine⟨?_,rfl⟩
   show na H H' F w ob bs j (if h:d.row.beq d.row=af then Th.deep T d [] ae else .deep T d [] ae)
   rw[dif_pos (Row.beq_refl _)]
   have iA:wB H ob (find bs j)=λ_=>False:=by rw[TJ];rfl
   refine⟨ae,_,TJ,rfl,rfl,rfl,?_,λk hk=>?_⟩
   .rw[iA];exact⟨[],λ_ _=>False,lU.nil F w T d.low,rfl,λi h=>absurd h (by simp),⟨λk=>by simp[bF,aiT],λ_ _ _ h=>absurd h (by simp),λ_ _ h=>absurd h (by simp)⟩⟩
   .rw[iA]at hk;exact hk.elim
 .cases h
theorem CA:{l:List (Nat×OS)}->{m k:Nat}->{vs:List jW}->m+l.length<=k->sH (iL m l vs) k=ae
 |[],_,_,_,_=>rfl
 |(j,s)::l,m,k,vs,h=>by
  show(bif aiK m k then _ else sH (iL (m+1) l _) k)=ae
  rw[aiU]at h
  have:aiK m k=ag:=by
   cases hb:aiK m k with
   |false=>rfl
   |true=>have:=beq_true hb;omega
  rw[this,cond_false];exact CA (by omega)
def Lu(hs:aL U H F w ob n):{l:List (Nat×OS)}->{bs gO:Bs}->{vs:List jW}->TH ob l bs=aa (vs,gO)->oP H H' gO->∀m,
 ∀j s t,find (iL m l vs) j=aa (s,t)->m<=s/\s<m+l.length/\sH (iL m l vs) s=aa t/\Q5 (iL m l vs) s=aa j/\na H H' F w ob gO j t
 |[],_,_,_,h,_,m=>by cases h;intro j s t h;cases h
 |(j0,s0)::l,bs,gO,vs,h,hb,m=>by
  unfold TH at h;split at h
  case h_2=>cases h
  rename_i Yq ER h1;split at h
  case h_2=>cases h
  rename_i us GJ h2;cases h
  have J9:oP H H' ER:=λj v hj=>hb j v (Aw h2 j v hj)
  obtain⟨⟨u,v,g1,g2⟩,k2⟩:=Oe hs h1 J9 us;intro j s t hf;unfold iL at hf⊢;rw[ba]at hf;rw[k2]at hf⊢;split at hf
  .rename_i e;subst e;simp only[aiO,Prod.mk.injEq]at hf;obtain⟨rfl,rfl⟩:=hf;have e1:=Aw h2 _ _ (GL h1 _ _ g1);rw[g1]at g2;refine⟨aiM _,by simp,?_,?_,u,v,e1,?_⟩
   .show(bif aiK m m then _ else _)=_
    simp
   .show(bif aiK m m then _ else _)=_
    simp
   grind
  .obtain⟨a1,a2,a3,a4,a5⟩:=Lu hs h2 hb (m+1) j s t hf
   have:aiK m s=ag:=by
    cases hb:aiK m s with
    |false=>rfl
    |true=>have:=beq_true hb;omega
   refine⟨by omega,by grind,?_,?_,a5⟩
   .show(bif aiK m s then _ else _)=_
    grind
   .show(bif aiK m s then _ else _)=_
    grind
theorem fM{o:Nat}{l:List Nat}:pg o l=af↔o∈l:=any_beq
theorem kS:{bs:Bs}->{j o:Nat}->find bs j=aa (aa o)->o∈iM bs
 |[],_,_,h=>by cases h
 |(i,u)::bs,j,o,h=>by
  rw[ba]at h;split at h
  .obtain rfl:=aiF h;exact List.mem_cons_self
  .have:=kS h
   cases u with
   |none=>exact this
   |some q=>exact List.mem_cons_of_mem _ this
def tS:{bs:Bs}->ES (iM bs)=af->{j j' o:Nat}->find bs j=aa (aa o)->find bs j'=aa (aa o)->j=j'
 |[],_,_,_,_,h,_=>by cases h
 |(i,u)::bs,hn,j,j',o,h,h'=>by
  rw[ba]at h h'
  cases u with
  |none=>
   split at h
   .cases h
   .split at h'
    .cases h'
    .exact tS (bs:=bs) hn h h'
  |some q=>
   obtain⟨hq,NI⟩:=dc hn
   have hq:q∉iM bs:=λe=>by rw[fM.2 e]at hq;cases hq
   split at h
   .grind [kS]
   .split at h'
    .grind [kS]
    .exact tS NI h h'
def wC{nb nxt:Nat}:{bs:Bs}->Lt nb nxt bs=af->{j:Nat}->{u:Option Nat}->find bs j=aa u->(j<nb->u=aa j)/\(nb<=j->j<nxt)
 |[],_,_,_,h=>by cases h
 |(i,v)::bs,hk,j,u,h=>by
  obtain⟨h1,h2⟩:=dc hk;rw[ba]at h;split at h
  .rename_i e;subst e;obtain rfl:=aiF h
   cases hb:ajg i nb with
   |true=>
    rw[hb,cond_true]at h1
    have:i<nb:=by simpa using hb
    grind [yO]
   |false=>
    rw[hb,cond_false]at h1
    have hge:¬i<nb:=λe=>by have:ajg i nb=af:=by simpa using e
                           grind
    exact⟨λe=>absurd e hge,λ_=>by simpa using h1⟩
  .exact wC h2 h
def yT{objs:List (Nat×(Nat×Th))}{Cz:List Nat}:{fr:List (Nat×(Nat×Th))}->ET objs Cz fr=af->{o s:Nat}->{t:Th}->find fr o=aa (s,t)->
 o∉Cz/\∃t',find objs o=aa (s,t')/\fo t'=fo t
 |[],_,_,_,_,h=>by cases h
 |(i,(s0,t0))::fr,hf,o,s,t,h=>by
  obtain⟨h1,h2⟩:=dc hf;obtain⟨h1,h3⟩:=dc h1;rw[ba]at h;split at h
  .rename_i e;subst e;simp only[aiO,Prod.mk.injEq]at h;obtain⟨rfl,rfl⟩:=h;split at h1
   .rename_i s' t' ho;obtain⟨h4,h5⟩:=dc h1
    grind [beq_true,fM]
   .cases h1
  .exact yT h2 h
def Lv{t t':Th}(h:t.base=t'.base)(hf:fo t=fo t'):t=t':=by
 cases t<;>cases t'<;>simp_all[Th.base,fo]
def wD{U':Nat->Prop}{H0:aK}{F0:Nat->Prop}{w0:World}{objs0:List (Nat×(Nat×Th))}{nb:Nat}{ns:List Nat}{J:JS}{aJ:List (Nat×aI)}{objs bh:List (Nat×(Nat×Th))}{x:dA J.rows}{bs:Bs}{ρ:Nat->Value}
 (h:yS nb (del ns objs0) J aJ objs=aa (x,bs,bh))(Q6:aL U H0 F0 w0 (find objs0) nb)(PQ:jd H0 nb)(hk:cQ H0 F0 w0 H F w)(hs:aL U H F w (find objs) n)(gN:∀t d,find aJ t=aa d->aG H F w d (ρ t)):
 ∃F1 H1,aL U H F1 w (find bh) n/\(∀b,F b->F1 b)/\(∀b,F1 b->F b\/cC H (find objs) (yR nb J aJ objs) b)/\fg objs (yR nb J aJ objs)=aa bh/\H0.le H1/\oP H H1 bs/\jd H1 J.nxt/\
  (∀t d,find (de J.aJ (dG J.rows x)).1 t=aa d->aG H1 F1 w d (ρ t))/\
  ((∀b,w.heap.size<=b->U' b)->(∀o s t v k,o∈iM bs->find bh o=aa (s,t)->H.val o=aa v->fp (H.sub s) v t k->U' k)->(∀o s t v k,find (del ns objs0) o=aa (s,t)->H.val o=aa v->fp (H.sub s) v t k->U' k)->
    aL U' H1 F1 w (find (iL nb J.objs (de J.aJ (dG J.rows x)).2++del ns objs0)) J.nxt):=by
 unfold yS at h;split at h
 case h_1=>cases h
 rename_i Ys yb;split at h
 case h_1=>cases h
 rename_i vs ER hS;split at h
 case h_1=>cases h
 rename_i us GJ hO;obtain⟨hc,h'⟩:=bf h;clear h;split at h'
 case h_2=>cases h'
 rename_i x' hx;cases h';obtain⟨hc,Uf⟩:=dc hc;obtain⟨hc,NV⟩:=dc hc;obtain⟨yB,xJ⟩:=dc hc
 have NV:nb+J.objs.length<=J.nxt:=by simpa using NV
 obtain⟨F1,sF,Ek,Nr⟩:=oO yb hs
 have gq:Step F w F1 w:=λb hb=>⟨Ek b hb,rfl⟩
 have Yt:∀t d,find aJ t=aa d->aG H F1 w d (ρ t):=λt d hd=>(gN t d hd).keep (aK.le.refl H) gq
 rw[uI hx]
 have Lx:∃cons,cons=iL nb J.objs us:=⟨_,rfl⟩
 obtain⟨cons,GM⟩:=Lx
 have CB:H0.le (eE H nb bs cons (find bh)):=by
  have aH:∀s t,H0.con s=aa t->s<nb:=λs t gq=>by
   rcases Nat.lt_or_ge s nb with h|h
   .exact h
   .rw[(PQ s h).2]at gq;cases gq
  refine⟨λo v ho=>?_,λs t gq=>?_,λs t gq=>?_⟩
  .have:o<nb:=by
    rcases Nat.lt_or_ge o nb with h|h
    .exact h
    .rw[(PQ o h).1]at ho;cases ho
   simp[eE,this,hk.kg.val _ _ ho]
  .simp[eE,aH s t gq,hk.kg.con _ _ gq]
  .simp[eE,aH s t gq,hk.kg.sub _ _ gq]
 have tT:oP H (eE H nb bs cons (find bh)) bs:=by
  intro j u hj v hv;obtain⟨a1,a2⟩:=wC xJ hj;by_cases aH:j<nb
  .grind [eE,valOf]
  .simpa[eE,aH,hj]using hv
 have Of:oP H (eE H nb bs cons (find bh)) ER:=λj v hj=>tT j v (Aw hO j v hj)
 obtain⟨p1,p2⟩:=Lr sF Yt hS Of us
 have GN:jd (eE H nb bs cons (find bh)) J.nxt:=λm hm=>by
  have Ts:¬m<nb:=by omega
  refine⟨?_,?_⟩
  .simp only[eE,ai Ts];split
   .rename_i u hu;have:=(wC xJ hu).2 (by omega);omega
   .rfl
  grind [eE,CA]
 refine⟨F1,eE H nb bs cons (find bh),sF,Ek,Nr,yb,CB,tT,GN,p1,λhU1 hU2 hU3=>?_⟩;rw[p2,<-GM];have Ut:=Lu (H':=eE H nb bs cons (find bh)) sF hO tT nb;rw[<-GM]at Ut
 have part:∀o s t,find (cons++del ns objs0) o=aa (s,t)->find cons o=aa (s,t)\/find (del ns objs0) o=aa (s,t):=by
  intro o s t ho;rw[jb]at ho
  cases hm:find cons o with
  |some y=>grind
  |none=>grind
 have xM:∀o s t,find (del ns objs0) o=aa (s,t)->o∉iM bs/\find bh o=aa (s,t)/\∃v,H.val o=aa v/\(eE H nb bs cons (find bh)).val o=aa v/\v.oneCell'=af/\(eE H nb bs cons (find bh)).con s=aa t.base/\(eE H nb bs cons (find bh)).sub s=H.sub s/\jV (eE H nb bs cons (find bh)) F1 w (H.sub s) v t:=by
  intro o s t ho;obtain⟨q1,t',q2,q3⟩:=yT Uf ho;have ho0:=(jc.1 ho).2;obtain⟨v0,QO,EU⟩:=Q6.obj _ _ _ ho0;obtain⟨v1,vj,nC⟩:=sF.obj _ _ _ q2;have e1:=hk.kg.val _ _ QO;rw[vj]at e1;obtain rfl:=aiF e1;have e2:=hk.kg.con _ _ EU.con;rw[nC.con]at e2;have ht:=Lv (aiF e2) q3;subst ht;refine⟨q1,q2,v1,vj,CB.val _ _ QO,nC.one,CB.con _ _ EU.con,(CB.sub _ _ EU.con).trans (hk.kg.sub _ _ EU.con).symm,?_⟩
  cases t' with
  |fdeep T d l=>exact nC.ok
  |deep T d l hh=>
   obtain⟨lh0,_,_,e0,r0,_⟩:=EU.ok
   refine Ig.mono (show Ig F1 w T d.low _ v1 l (H.sub s)from nC.ok) (Step.refl F1 w) (λ_ _=>rfl) λi x' hi A hA hr=>?_
   cases hh with
   |none=>exact hr
   |some h=>
    refine⟨hr.1,λhh=>?_⟩;obtain⟨T',e,q,g1,g2,g3⟩:=hr.2 hh;obtain⟨_,_,q0,_,_,k3⟩:=(r0 i (by omega) hi).2 hh;have e3:=hk.kg.val _ _ k3;rw[g3]at e3;exact⟨T',e,q,g1,g2,by rw[aiF e3];exact CB.val _ _ k3⟩
  |box T tr=>
   obtain⟨b,es,e,g1,g2⟩:=nC.ok;obtain⟨b',oD,e',T6,g2'⟩:=EU.ok;exact⟨b,es,e,g1,Holds.back hk.kg CB g2' g2⟩
  |own T r l=>exact nC.ok
  |vh T r l=>exact nC.ok
  |fmap T K agg V l=>exact nC.ok
  |fdmap T K E r l=>exact nC.ok
  |dmap T K E r l hh=>
   obtain⟨b,es,clock,B,e,g1,g2,g3,g4,g5⟩:=nC.ok;obtain⟨_,_,_,_,_,_,_,_,_,r5⟩:=EU.ok
   have key:∀a o u,hh=aa (a,o)->H.val o=aa u->(eE H nb bs cons (find bh)).val o=aa u:=by
    intro a o u e hu;obtain⟨u0,Xb⟩:=r5 a o e;have e3:=hk.kg.val _ _ Xb;rw[hu]at e3;rw[aiF e3];exact CB.val _ _ Xb
   exact⟨b,es,clock,B,e,g1,g2,g3.keep (Step.refl F1 w) key (λ_ _=>rfl),g4,λa o e=>(g5 a o e).imp λu hu=>key a o u e hu⟩
  |map T K agg V l=>
   obtain⟨b,es,clock,e,g1,g2,g3⟩:=nC.ok;exact⟨b,es,clock,e,g1,g2,g3.kg⟩
 have Uu:∀o s t,find cons o=aa (s,t)->∃v,(eE H nb bs cons (find bh)).val o=aa v/\v.oneCell'=af/\(eE H nb bs cons (find bh)).con s=aa t.base/\jV (eE H nb bs cons (find bh)) F1 w ((eE H nb bs cons (find bh)).sub s) v t/\
  ∀k,fp ((eE H nb bs cons (find bh)).sub s) v t k->∃o' s0 t0,find bs o=aa (aa o')/\find bh o'=aa (s0,t0)/\H.val o'=aa v/\fp (H.sub s0) v t0 k:=by
  intro o s t ho;obtain⟨a1,a2,a3,a4,u,v,b1,b2,b3,b4,b5,b6⟩:=Ut o s t ho
  have iA:(eE H nb bs cons (find bh)).sub s=wB H (find bh) (find bs o):=by
   simp only[eE];rw[ai (by omega),a4]
  rw[iA];refine⟨v,tT o u b1 v b2,b3,?_,b5,λk hk=>?_⟩
  .grind [eE]
  .grind
 refine⟨λo s t ho=>?_,λo o' s s' t t' v v' du ho jS hv dZ k hk iK=>?_,λm hm _=>GN m hm,sF.lt,hU1,sF.gl⟩
 .rcases part o s t ho with h1|h1
  .obtain⟨v,a1,a2,a3,a4,a5⟩:=Uu o s t h1
   refine⟨v,a1,a2,a3,a4,λk hk hF=>?_,λk hk=>?_,λk hk=>?_⟩<;>obtain⟨o',s0,t0,b1,b2,b3,b4⟩:=a5 k hk<;>obtain⟨v',dZ,cP⟩:=sF.obj _ _ _ b2
   all_goals
    rw[b3]at dZ;obtain rfl:=aiF dZ
   .exact cP.no k b4 hF
   .exact cP.lt k b4
   grind [kS]
  .obtain⟨q1,q2,v,a1,a2,a3,a4,a6,a5⟩:=xM o s t h1;obtain⟨v',dZ,cP⟩:=sF.obj _ _ _ q2;rw[a1]at dZ;obtain rfl:=aiF dZ;exact⟨v,a2,a3,a4,by rw[a6];exact a5,by rw[a6];exact cP.no,by rw[a6];exact cP.lt,(by grind)⟩
 .rcases part o s t ho with h1|h1<;>rcases part o' s' t' jS with h2|h2
  .obtain⟨u,a1,_,_,_,a5⟩:=Uu o s t h1;obtain⟨u',c1,_,_,_,c5⟩:=Uu o' s' t' h2;rw[hv]at a1;rw[dZ]at c1;obtain rfl:=aiF a1;obtain rfl:=aiF c1;obtain⟨p,s0,t0,d1,d2,d3,d4⟩:=a5 k hk;obtain⟨p',s0',t0',e1,e2,e3,e4⟩:=c5 k iK;refine sF.apart p p' _ _ _ _ _ _ (λe=>du ?_) d2 e2 d3 e3 k d4 e4;subst e;exact tS yB d1 e1
  .obtain⟨u,a1,_,_,_,a5⟩:=Uu o s t h1;obtain⟨q1,q2,u',c1,c2,_,_,c6,_⟩:=xM o' s' t' h2;rw[c6]at iK;rw[hv]at a1;rw[dZ]at c2;obtain rfl:=aiF a1;obtain rfl:=aiF c2;obtain⟨p,s0,t0,d1,d2,d3,d4⟩:=a5 k hk;exact sF.apart p o' _ _ _ _ _ _ (λe=>q1 (e▸kS d1)) d2 q2 d3 c1 k d4 iK
  .obtain⟨u,a1,_,_,_,a5⟩:=Uu o' s' t' h2;obtain⟨q1,q2,u',c1,c2,_,_,c6,_⟩:=xM o s t h1;rw[c6]at hk;rw[dZ]at a1;rw[hv]at c2;obtain rfl:=aiF a1;obtain rfl:=aiF c2;obtain⟨p,s0,t0,d1,d2,d3,d4⟩:=a5 k iK;exact sF.apart o p _ _ _ _ _ _ (λe=>q1 (e▸kS d1)) q2 d2 c1 d3 k hk d4
  .obtain⟨q1,q2,u,c1,c2,_,_,c6,_⟩:=xM o s t h1;obtain⟨q1',q2',u',Xq,Uv,_,_,c6',_⟩:=xM o' s' t' h2;rw[c6]at hk;rw[c6']at iK;rw[hv]at c2;rw[dZ]at Uv;obtain rfl:=aiF c2;obtain rfl:=aiF Uv;exact sF.apart o o' _ _ _ _ _ _ du q2 q2' c1 Xq k hk iK
end
end Go.Proofs.YtleifhfeahnocaaGreatDoor
end
namespace Go.Proofs.YtleifhfeahnocaaGreatDoor
open Go Go.RowKit
set_option maxRecDepth 100000
set_option linter.unusedSimpArgs false
set_option linter.unusedVariables false
set_option linter.defProp false
section
structure oB where
 inn:JS
 out:JS
 fn:dA inn.rows->Option (dA out.rows)
def yc:List Value->Value
 |[v]=>v
 |vs=> .tuple vs.toArray
structure fN(P:Program)(f:FuncId)(sg:oB):Prop where
 fn:∃fn,P.funcs[f]? =aa fn/\(fn.name== "runtime.NumGoroutine")=ag/\fn.body.isNone=ag
 ok:∀x y,sg.fn x=aa y->∀(args:List Value)(w:World)(H:aK)(F G:Nat->Prop),args.length=sg.inn.aJ.length->
  (∀t d,find (de sg.inn.aJ (dG _ x)).1 t=aa d->aG H F w d (args.getD t undef))->
  aL (λk=>w.heap.size<=k\/G k) H F w (find (iL 0 sg.inn.objs (de sg.inn.aJ (dG _ x)).2)) sg.inn.nxt->jd H sg.inn.nxt->(∀k,G k->¬F k)->
  Calls P f args.toArray w λe w'=>∃vs,e= .returned (yc vs)/\vs.length=sg.out.aJ.length/\∃H' F',Ext G w w'/\H.le H'/\(∀b,F b->F' b)/\(∀b,F' b->F b\/w.heap.size<=b\/G b)/\
   (∀t d,find (de sg.out.aJ (dG _ y)).1 t=aa d->aG H' F' w' d (vs.getD t undef))/\
   aL (λk=>w.heap.size<=k\/G k) H' F' w' (find (iL sg.inn.nxt sg.out.objs (de sg.out.aJ (dG _ y)).2)) sg.out.nxt/\jd H' sg.out.nxt
def Sh.rL(φ:Nat->Nat):Sh->Sh
 | .leaf r=> .leaf r
 | .own j=> .own (φ j)
 | .nil=> .nil
 | .pair a b=> .pair (a.rL φ) (b.rL φ)
 | .junk n=> .junk n
def SS.rL(φ:Nat->Nat):SS->SS
 | .val agg t=> .val agg (t.rL φ)
 | .ptr j p off=> .ptr (φ j) p off
 | .at r=> .at r
 | .undef=> .undef
 | .fn f js=> .fn f (js.map λc=>(φ c.1,c.2))
 | .ifc T s=> .ifc T (s.rL φ)
def OS.rL(φ:Nat->Nat):OS->OS
 | .box T t=> .box T (t.rL φ)
 | .own T r=> .own T r
 | .map T K agg V=> .map T K agg V
 | .deep T d=> .deep T d
 | .dmap T K E r=> .dmap T K E r
def sI(φ:Nat->Nat):List (Nat×SS)->List (Nat×SS)
 |[]=>[]
 |(t,s)::l=>(t,s.rL φ)::sI φ l
def CC(φ:Nat->Nat):List (Nat×OS)->List (Nat×OS)
 |[]=>[]
 |(j,s)::l=>(φ j,s.rL φ)::CC φ l
def Row.CD:Row->Bool
 | .slice _=>ag
 | .map .. =>ag
 | .pair a b=>a.CD&&b.CD
 |_=>af
def DR.jX(p:Row->Bool):DR->Bool
 | .leaf r=>p r
 | .sl _ d=>d.jX p
 | .pair a b=>a.jX p&&b.jX p
def Sh.jX(p:Row->Bool):Sh->Bool
 | .leaf r=>p r
 | .pair a b=>a.jX p&&b.jX p
 |_=>af
def SS.jX(p:Row->Bool):SS->Bool
 | .val _ t=>t.jX p
 | .at r=>p (.slice r)
 | .ifc _ s=>s.jX p
 |_=>af
def OS.jX(p:Row->Bool):OS->Bool
 | .box _ t=>t.jX p
 | .own _ r=>p r
 | .map _ _ _ V=>p V
 | .deep _ d=>d.jX p
 | .dmap _ _ _ r=>p r
def rM(p:Row->Bool):List (Nat×SS)->Bool
 |[]=>af
 |(_,s)::l=>s.jX p&&rM p l
def yU(p:Row->Bool):List (Nat×OS)->Bool
 |[]=>af
 |(_,s)::l=>s.jX p&&yU p l
section
variable {H H':aK} {F F':Nat->Prop} {w w':World} {φ:Nat->Nat} {p:Row->Bool}
def cG.EV:{r:Row}->{cs:List Value}->{x:r.den}->r.CD=af->cG F w r cs x->cG F' w' r cs x
 | .int _,_,_,_,h=>h
 | .bool,_,_,_,h=>h
 | .str,_,_,_,h=>h
 | .lS,_,_,_,h=>h
 | .nul _,_,_,_,h=>h
 | .map ..,_,_,hf,_=>by cases hf
 | .slice _,_,_,hf,_=>by cases hf
 | .pair a b,_,_,hf,h=>by
   obtain⟨c1,c2,e,h1,h2⟩:=h;obtain⟨f1,f2⟩:=dc hf;exact⟨c1,c2,e,cG.EV f1 h1,cG.EV f2 h2⟩
def Ren(H H':aK)(φ:Nat->Nat):Prop:=∀j v,H.val j=aa v->H'.val (φ j)=aa v
def sJ(p:Row->Bool)(F F':Nat->Prop)(w:World):Prop:=∀r,p r=af->∀cs x,cG F w r cs x->cG F' w r cs x
def p9:(sh:Sh)->(vs:List jW)->(pU (sh.rL φ) vs).2=(pU sh vs).2
 | .leaf r,[]=>rfl
 | .leaf r,_::_=>rfl
 | .own j,vs=>rfl
 | .nil,vs=>rfl
 | .pair a b,vs=>by
   show(pU (b.rL φ) (pU (a.rL φ) vs).2).2=_
   rw[p9 a,p9 b];rfl
 | .junk _,_=>rfl
def yV(s:SS)(vs:List jW):(eR (s.rL φ) vs).2=(eR s vs).2:=by
 induction s with
 |ifc T s ih=>exact ih
 |val agg t=>exact p9 t vs
 |ptr j p off=>rfl
 |«at» r=>cases vs<;>rfl
 |undef=>rfl
 |fn f js=>rfl
theorem yW(s:OS)(vs:List jW):(cD (s.rL φ) vs).2=(cD s vs).2:=by
 cases s with
 |box T t=>exact p9 t vs
 |own T r=>rfl
 |map T K agg V=>rfl
 |deep T d=>rfl
 |dmap T K E r=>rfl
def CE:(l:List (Nat×SS))->(vs:List jW)->(de (sI φ l) vs).2=(de l vs).2
 |[],_=>rfl
 |(t,s)::l,vs=>by
  show(de (sI φ l) (eR (s.rL φ) vs).2).2=(de l (eR s vs).2).2
  rw[yV,CE l]
def sK(hr:Ren H H' φ)(hm:sJ p F F' w):{sh:Sh}->{vs:List jW}->{cs:List Value}->sh.jX p=af->Holds H F w (pU sh vs).1 cs->Holds H' F' w (pU (sh.rL φ) vs).1 cs
 | .leaf r,[],cs,_,h=>h
 | .leaf r,⟨s,x⟩::vs,cs,hp,h=>by
   have h':Holds H F w (bif s.beq r then Tree.leaf s x else .nil) cs:=h
   show Holds H' F' w (bif s.beq r then Tree.leaf s x else .nil) cs
   cases hb:s.beq r with
   |true=>
    rw[hb,cond_true]at h';obtain rfl:=Row.eq_of_beq hb;exact hm _ hp _ _ h'
   |false=>rw[hb]at h';exact h'
 | .own j,vs,cs,_,h=>by obtain⟨v,h1,h2⟩:=h;exact⟨v,hr j v h1,h2⟩
 | .nil,vs,cs,_,h=>h
 | .pair a b,vs,cs,hp,h=>by
   obtain⟨c1,c2,e,h1,h2⟩:=h;obtain⟨p1,p2⟩:=dc hp;refine⟨c1,c2,e,sK hr hm p1 h1,?_⟩;rw[p9 a];exact sK hr hm p2 h2
 | .junk _,vs,cs,_,h=>h
def lZ.rL(hr:Ren H H' φ):{cs:List (Nat×List Bool×Nat)}->{vs:List Value}->lZ H cs vs->lZ H' (cs.map λc=>(φ c.1,c.2)) vs
 |[],_,h=>h
 |_::_,_,h=>by obtain⟨v,us,e,⟨b,h1,h2⟩,h3⟩:=h;exact⟨v,us,e,⟨b,hr _ _ h1,h2⟩,lZ.rL hr h3⟩
theorem IL(hr:Ren H H' φ)(hm:sJ p F F' w){s:SS}{vs:List jW}{v:Value}(hp:s.jX p=af)(h:aG H F w (eR s vs).1 v):aG H' F' w (eR (s.rL φ) vs).1 v:=by
 induction s generalizing v with
 |ifc T s ih=>
  obtain⟨u,e,h2⟩:=h;exact⟨u,e,ih hp h2⟩
 |val agg t=>
  obtain⟨cs,h1,h2⟩:=h;exact⟨cs,sK hr hm hp h1,h2⟩
 |ptr j p off=>
  obtain⟨b,h1,h2⟩:=h;exact⟨b,hr _ _ h1,h2⟩
 |«at» r=>
  match vs,h with
  |[],h=>exact h
  |⟨s,x⟩::vs,h=>
   have h':aG H F w (bif s.beq r then aI.at s x else .dead) v:=h
   show aG H' F' w (bif s.beq r then aI.at s x else .dead) v
   cases hb:s.beq r with
   |false=>trivial
   |true=>
    rw[hb,cond_true]at h';obtain rfl:=Row.eq_of_beq hb;obtain⟨b,off,rfl,hF,es,h1,h2,h3⟩:=h'
    have gN:cG F w (.slice s) [.slice (aa ⟨b,off,ae⟩) 1 1] [x]:=⟨aa ⟨b,off,ae⟩,1,rfl,aiM _,by unfold maxLen;omega,λi hi=>by
     have e:i=0:=by simp at hi;omega
     subst e
     grind⟩
    obtain⟨A,cap,e1,_,_,vd⟩:=hm (.slice s) hp _ _ gN;obtain⟨b',eC,oD,hA,g1,g2,g3,g4⟩:=vd 0 (by simp);simp only[ajw,ajS,and_true]at e1;obtain⟨e1,_,_⟩:=e1;rw[<-e1]at hA;simp only[aiO,Addr.mk.injEq,and_true]at hA;obtain⟨rfl,rfl⟩:=hA;exact⟨b,off,rfl,g1,oD,g2,(by grind),g4⟩
 |undef=>exact h
 |fn f js=>
  obtain⟨us,h1,h2⟩:=h;exact⟨us,h1,h2.rL hr⟩
def mY.pM{K:Row}{agg:Bool}{V:Row}(hm:∀cs x,cG F w V cs x->cG F' w' V cs x):{es:List MapEntry}->{l:List (K.den×V.den)}->mY H F w K agg V es l->mY H' F' w' K agg V es l
 |[],_,h=>h
 |_::_,_,h=>by
  obtain⟨k,x,l',e,h1,⟨cs,h2,J6⟩,h3⟩:=h;exact⟨k,x,l',e,h1,⟨cs,hm _ _ h2,J6⟩,mY.pM hm h3⟩
def cG.wE(hm:sJ p F F' w):{d:DR}->{cs:List Value}->{x:d.low.den}->d.jX p=af->cG F w d.low cs x->cG F' w d.low cs x
 | .leaf r,_,_,hp,h=>hm r hp _ _ h
 | .sl _ _,_,_,_,h=>h
 | .pair a b,_,_,hp,h=>by
   obtain⟨p1,p2⟩:=dc hp;obtain⟨c1,c2,e,h1,h2⟩:=h;exact⟨c1,c2,e,cG.wE hm p1 h1,cG.wE hm p2 h2⟩
def lU.pM(hm:sJ p F F' w){d:DR}(hp:d.jX p=af){T:TypeId}{v:Value}{l:List d.low.den}(h:lU F w T d.low v l):lU F' w T d.low v l:=by
 obtain⟨xs,h1,h2⟩:=h;exact⟨xs,h1,λi hi=>cG.wE hm hp (h2 i hi)⟩
def lk.pM(hm:sJ p F F' w):{d:DR}->{x':d.low.den}->{x:d.row.den}->{S:Nat->Prop}->d.jX p=af->lk F w d x' x S->lk F' w d x' x S
 | .leaf _,_,_,_,_,h=>h
 | .sl _ d,_,_,_,hp,h=>by
   obtain⟨lh,Ss,h1,h2,h3,h4⟩:=h;exact⟨lh,Ss,h1.pM hm (show d.jX p=af from hp),h2,λi a b=>lk.pM hm (show d.jX p=af from hp) (h3 i a b),h4⟩
 | .pair a b,_,_,_,hp,h=>by
   obtain⟨p1,p2⟩:=dc hp;obtain⟨A,B,h1,h2,h3⟩:=h;exact⟨A,B,lk.pM hm p1 h1,lk.pM hm p2 h2,h3⟩
def EW(T:TypeId)(d:DR):(vs:List jW)->∃l,(cD (.deep T d) vs).1= .deep T d l ae
 |[]=>⟨[],rfl⟩
 |⟨.slice s,l⟩::vs=>by
  unfold cD;simp only
  split<;>exact⟨_,rfl⟩
 |⟨.int _,_⟩::_|⟨.bool,_⟩::_|⟨.str,_⟩::_|⟨.lS,_⟩::_|⟨.nul _,_⟩::_|⟨.pair _ _,_⟩::_|⟨.map ..,_⟩::_=>⟨[],rfl⟩
def IM(T:TypeId)(K:Row)(agg:Bool)(V:Row):(vs:List jW)->∃l,(cD (.map T K agg V) vs).1= .map T K agg V l
 |[]=>⟨[],rfl⟩
 |⟨.slice (.pair K' V'),l⟩::vs=>by
  unfold cD;simp only
  split<;>exact⟨_,rfl⟩
 |⟨.slice (.int _),_⟩::_|⟨.slice .bool,_⟩::_|⟨.slice .str,_⟩::_|⟨.slice (.slice _),_⟩::_|⟨.slice .lS,_⟩::_|⟨.slice (.nul _),_⟩::_|⟨.slice (.map ..),_⟩::_=>⟨[],rfl⟩
 |⟨.int _,_⟩::_|⟨.bool,_⟩::_|⟨.str,_⟩::_|⟨.lS,_⟩::_|⟨.nul _,_⟩::_|⟨.pair _ _,_⟩::_|⟨.map ..,_⟩::_=>⟨[],rfl⟩
def gC.pM(hm:sJ p F F' w){K:Row}{E:TypeId}{r:Row}(hp:p r=af):{es:List MapEntry}->{l:List (K.den×List r.den)}->{S:Nat->Prop}->gC H F w K E r ae es l S->gC H' F' w K E r ae es l S
 |[],_,_,h=>h
 |_::_,_,_,h=>by
  obtain⟨k,y,l',A,B,e,h1,⟨⟨xs,h2,h3⟩,h4⟩,h5,h6⟩:=h;exact⟨k,y,l',A,B,e,h1,⟨⟨xs,h2,λi hi=>hm r hp _ _ (h3 i hi)⟩,h4⟩,gC.pM hm hp h5,h6⟩
def EX(T:TypeId)(K:Row)(E:TypeId)(r:Row):(vs:List jW)->∃l,(cD (.dmap T K E r) vs).1= .dmap T K E r l ae
 |[]=>⟨[],rfl⟩
 |⟨.slice (.pair K' (.slice s)),l⟩::vs=>by
  unfold cD;simp only
  split<;>exact⟨_,rfl⟩
 |⟨.slice (.pair _ (.int _)),_⟩::_|⟨.slice (.pair _ .bool),_⟩::_|⟨.slice (.pair _ .str),_⟩::_|⟨.slice (.pair _ .lS),_⟩::_|⟨.slice (.pair _ (.nul _)),_⟩::_|⟨.slice (.pair _ (.pair _ _)),_⟩::_|⟨.slice (.pair _ (.map ..)),_⟩::_=>⟨[],rfl⟩
 |⟨.slice (.int _),_⟩::_|⟨.slice .bool,_⟩::_|⟨.slice .str,_⟩::_|⟨.slice (.slice _),_⟩::_|⟨.slice .lS,_⟩::_|⟨.slice (.nul _),_⟩::_|⟨.slice (.map ..),_⟩::_=>⟨[],rfl⟩
 |⟨.int _,_⟩::_|⟨.bool,_⟩::_|⟨.str,_⟩::_|⟨.lS,_⟩::_|⟨.nul _,_⟩::_|⟨.pair _ _,_⟩::_|⟨.map ..,_⟩::_=>⟨[],rfl⟩
def tU(hr:Ren H H' φ)(hm:sJ p F F' w){s:OS}{vs:List jW}{S:Nat->Prop}{v:Value}(hp:s.jX p=af)(h:jV H F w S v (cD s vs).1):
 jV H' F' w S v (cD (s.rL φ) vs).1/\(cD (s.rL φ) vs).1.base=(cD (s.rL φ) vs).1/\(∀k,fp S v (cD (s.rL φ) vs).1 k->fp S v (cD s vs).1 k):=by
 have own:∀(T:TypeId)(q:Row)(l:List q.den),p q=af->jV H F w S v (.own T q l)->jV H' F' w S v (.own T q l):=λT q l hq ⟨xs,hx,h3⟩=>⟨xs,hx,λi hi=>hm q hq _ _ (h3 i hi)⟩
 cases s with
 |box T t=>
  obtain⟨b,es,e,h1,h2⟩:=h;exact⟨⟨b,es,e,h1,sK hr hm hp h2⟩,rfl,λk hk=>hk⟩
 |own T r=>
  match vs,h with
  |[],h=>exact⟨own T r [] hp h,rfl,λ_ h=>h⟩
  |⟨.slice s,l⟩::vs,h=>
   have h':jV H F w S v (bif s.beq r then Th.own T s l else .own T r []):=h
   show jV H' F' w S v (bif s.beq r then Th.own T s l else .own T r [])/\Th.base (bif s.beq r then Th.own T s l else .own T r [])=(bif s.beq r then Th.own T s l else .own T r [])/\∀k,fp S v (bif s.beq r then Th.own T s l else .own T r []) k->fp S v (bif s.beq r then Th.own T s l else .own T r []) k
   cases hb:s.beq r with
   |true=>
    rw[hb,cond_true]at h';obtain rfl:=Row.eq_of_beq hb;exact⟨own T s l hp h',rfl,λ_ h=>h⟩
   |false=>
    rw[hb,cond_false]at h';exact⟨own T r [] hp h',rfl,λ_ h=>h⟩
  |⟨.int _,_⟩::vs,h=>exact⟨own T r [] hp h,rfl,λ_ h=>h⟩
  |⟨.bool,_⟩::vs,h=>exact⟨own T r [] hp h,rfl,λ_ h=>h⟩
  |⟨.str,_⟩::vs,h=>exact⟨own T r [] hp h,rfl,λ_ h=>h⟩
  |⟨.lS,_⟩::vs,h=>exact⟨own T r [] hp h,rfl,λ_ h=>h⟩
  |⟨.nul _,_⟩::vs,h=>exact⟨own T r [] hp h,rfl,λ_ h=>h⟩
  |⟨.map ..,_⟩::vs,h=>exact⟨own T r [] hp h,rfl,λ_ h=>h⟩
  |⟨.pair _ _,_⟩::vs,h=>exact⟨own T r [] hp h,rfl,λ_ h=>h⟩
 |map T K agg V=>
  have gen:∀l:List (K.den×V.den),jV H F w S v (.map T K agg V l)->jV H' F' w S v (.map T K agg V l):=by
   rintro l ⟨b,es,clock,e,h1,h2,h3⟩
   exact⟨b,es,clock,e,h1,h2,mY.pM (λcs x hr=>hm V hp cs x hr) h3⟩
  obtain⟨l,hl⟩:=IM T K agg V vs
  show jV H' F' w S v (cD (OS.map T K agg V) vs).1/\(cD (OS.map T K agg V) vs).1.base=(cD (OS.map T K agg V) vs).1/\∀k,fp S v (cD (OS.map T K agg V) vs).1 k->fp S v (cD (OS.map T K agg V) vs).1 k
  rw[hl]at h⊢;exact⟨gen l h,rfl,λ_ h=>h⟩
 |deep T d=>
  obtain⟨l,hl⟩:=EW T d vs
  show jV H' F' w S v (cD (OS.deep T d) vs).1/\(cD (OS.deep T d) vs).1.base=(cD (OS.deep T d) vs).1/\∀k,fp S v (cD (OS.deep T d) vs).1 k->fp S v (cD (OS.deep T d) vs).1 k
  rw[hl]at h⊢;refine⟨?_,rfl,λ_ h=>h⟩;have h':lk F w (.sl T d) v l S:=h;exact(lk.pM (d:= .sl T d) hm hp h':lk F' w (.sl T d) v l S)
 |dmap T K E r=>
  obtain⟨l,hl⟩:=EX T K E r vs
  show jV H' F' w S v (cD (OS.dmap T K E r) vs).1/\(cD (OS.dmap T K E r) vs).1.base=(cD (OS.dmap T K E r) vs).1/\∀k,fp S v (cD (OS.dmap T K E r) vs).1 k->fp S v (cD (OS.dmap T K E r) vs).1 k
  rw[hl]at h⊢;refine⟨?_,rfl,λ_ h=>h⟩;obtain⟨b,es,clock,B,e,h1,h2,h3,h4,_⟩:=h;exact⟨b,es,clock,B,e,h1,h2,h3.pM hm hp,h4,λ_ _ e=>by cases e⟩
theorem yX:{l:List (Nat×SS)}->{vs:List jW}->{t:Nat}->{d:aI}->rM p l=af->find (de (sI φ l) vs).1 t=aa d->∃s us,d=(eR (s.rL φ) us).1/\find (de l vs).1 t=aa (eR s us).1/\s.jX p=af
 |[],_,_,_,_,h=>by cases h
 |(t0,s)::l,vs,t,d,hp,h=>by
  obtain⟨p1,p2⟩:=dc hp;have h':find ((t0,(eR (s.rL φ) vs).1)::(de (sI φ l) (eR (s.rL φ) vs).2).1) t=aa d:=h
  show∃s' us,d=_/\find ((t0,(eR s vs).1)::(de l (eR s vs).2).1) t=_/\_
  rw[ba]at h';by_cases e:t0=t
  .grind [ba]
  .rw[ai e]at h';rw[yV]at h';obtain⟨s',us,a1,a2,a3⟩:=yX p2 h'
   grind [ba]
def Ly(hr:Ren H H' φ)(hm:sJ p F F' w){ρ:Nat->Value}{l:List (Nat×SS)}{vs:List jW}(hp:rM p l=af)(h:∀t d,find (de l vs).1 t=aa d->aG H F w d (ρ t)):∀t d,find (de (sI φ l) vs).1 t=aa d->aG H' F' w d (ρ t):=by
 grind [yX,IL]
def CF{m m':Nat}:{l:List (Nat×OS)}->{vs:List jW}->{o s:Nat}->{t:Th}->find (iL m (CC φ l) vs) o=aa (s,t)->∃j s' us sh,φ j=o/\t=(cD (sh.rL φ) us).1/\find (iL m' l vs) j=aa (s',(cD sh us).1)/\(yU p l=af->sh.jX p=af)/\sH (iL m (CC φ l) vs) s=aa t/\m<=s/\s<m+l.length/\s'=s-m+m'
 |[],_,_,_,_,h=>by cases h
 |(j,sh)::l,vs,o,s,t,h=>by
  have h':find ((φ j,(m,(cD (sh.rL φ) vs).1))::iL (m+1) (CC φ l) (cD (sh.rL φ) vs).2) o=aa (s,t):=h;rw[ba]at h';split at h'
  .rename_i e;simp only[aiO,Prod.mk.injEq]at h';obtain⟨rfl,rfl⟩:=h';refine⟨j,m',vs,sh,e,rfl,?_,λhp=>(dc hp).1,?_,aiM _,by simp,by omega⟩
   .show find ((j,(m',(cD sh vs).1))::_) j=_
    rw[ba,aj rfl]
   .show(bif aiK m m then _ else _)=_
    simp
  .rename_i e;rw[yW]at h';obtain⟨j',s',us,sh',a1,a2,a3,a4,a5,a6,a7,a8⟩:=CF (m':=m'+1) h';refine⟨j',s',us,sh',a1,a2,?_,λhp=>a4 (dc hp).2,?_,by omega,by grind,by omega⟩
   all_goals grind [iL,ba,sH,CC,beq_true,yW]
def EY:List (Nat×aI)->Option (List (Bool×Tree))
 |[]=>aa []
 |(_, .val a t)::l=>match EY l with
  |some ds=>aa ((a,t)::ds)
  |none=>ae
 |_::_=>ae
def Lz:List (Nat×aI)->Option aI
 |[]=>aa .dead
 |[(_,d)]=>aa d
 |l=>match EY l with
  |some ds=>aa (.tup ds)
  |none=>ae
def tV:Nat->List (Nat×SS)->Bool
 |_,[]=>af
 |k,(t,_)::l=>aiK t k&&tV (k+1) l
def GO:{l:List (Nat×SS)}->{vs:List jW}->{k t:Nat}->{d:aI}->tV k l=af->find (de l vs).1 t=aa d->k<=t
 |[],_,_,_,_,_,h=>by cases h
 |(t0,s)::l,vs,k,t,d,hi,h=>by
  obtain⟨h1,h2⟩:=dc hi;have h':find ((t0,(eR s vs).1)::(de l (eR s vs).2).1) t=aa d:=h;rw[ba]at h';have:=beq_true h1;split at h'
  .omega
  .have:=GO h2 h';omega
def LA{f:Nat->Value}:{l:List (Nat×SS)}->{vs:List jW}->{k:Nat}->{ds:List (Bool×Tree)}->tV k l=af->(∀t d,find (de l vs).1 t=aa d->aG H F w d (f t))->EY (de l vs).1=aa ds->sr H F w ds ((List.range' k l.length).map f)
 |[],_,_,_,_,_,h=>by cases h;rfl
 |(t0,s)::l,vs,k,ds,hi,sq,h=>by
  obtain⟨h1,h2⟩:=dc hi;obtain rfl:=beq_true h1;have h':EY ((t0,(eR s vs).1)::(de l (eR s vs).2).1)=aa ds:=h;have Uw:∀t d,find ((t0,(eR s vs).1)::(de l (eR s vs).2).1) t=aa d->aG H F w d (f t):=sq;have h0:=Uw t0 _ (by rw[ba,aj rfl]);generalize(eR s vs).1=d0 at*
  cases d0<;>unfold EY at h'<;>try cases h'
  rename_i a t
  split at h'<;>cases h'
  rename_i X6 xX;refine⟨f t0,(List.range' (t0+1) l.length).map f,by simp[List.range'_succ],h0,LA h2 (λt d hf=>Uw t d ?_) xX⟩;have:=GO h2 hf
  grind [ba]
def CG:{l:List (Nat×SS)}->{k:Nat}->tV k (sI φ l)=tV k l
 |[],_=>rfl
 |(t,s)::l,k=>by
  show(aiK t k&&tV (k+1) (sI φ l))=_
  rw[CG];rfl
def uJ:{l:List (Nat×SS)}->(sI φ l).length=l.length
 |[]=>rfl
 |(t,s)::l=>by
  show(sI φ l).length+1=l.length+1
  rw[uJ]
def EZ(us:List Value):(List.range' 0 us.length).map (λt=>us.getD t undef)=us:=by
 apply List.ext_getElem (by simp)
 grind
def Q7{l:List (Nat×SS)}{vs:List jW}{us:List Value}{D:aI}(hi:tV 0 l=af)(hl:us.length=l.length)(sq:∀t d,find (de l vs).1 t=aa d->aG H F w d (us.getD t undef))(h:Lz (de l vs).1=aa D):aG H F w D (yc us):=by
 have tup:∀ds,EY (de l vs).1=aa ds->us.length≠1->aG H F w (.tup ds) (yc us):=by
  intro ds xX du;have:=LA hi sq xX;rw[<-hl,EZ]at this;refine⟨us,?_,this⟩
  match us,du with
  |[],_=>rfl
  |[_],h=>exact absurd rfl h
  |_::_::_,_=>rfl
 match l,hl,h with
 |[],_,h=>obtain rfl:=aiF h;trivial
 |[(t,s)],hl,h=>
  have h':Lz [(t,(eR s vs).1)]=aa D:=h;obtain rfl:=aiF h';have ht:=beq_true (dc hi).1
  match us,hl with
  |[u],_=>
   have:=sq t (eR s vs).1 (by
    show find [(t,(eR s vs).1)] t=_
    rw[ba,aj rfl])
   rw[ht]at this;exact this
 |(t,s)::(t',s')::l,hl,h=>
  have h':(match EY (de ((t,s)::(t',s')::l) vs).1 with|some ds=>aa (aI.tup ds)|none=>ae)=aa D:=h
  grind
end
end
section
def jk:Nat->List aI->List (Nat×aI)
 |_,[]=>[]
 |k,d::ds=>(k,d)::jk (k+1) ds
def PR(n:Nat)(bs:Bs)(bh:List (Nat×(Nat×Th)))(m:Nat)(j:Nat):Nat:=
 bif ajg j m then(match find bs j with
  |some (aa o)=>(match find bh o with
   |some _=>o
   |none=>n+j)
  |_=>n+j)else n+j
def pO(bh:List (Nat×(Nat×Th))):List Nat->List (Nat×(Nat×Th))
 |[]=>[]
 |o::os=>match find bh o with
  |some (s,t)=>bif fo t then(o,(s,t))::pO bh os else pO bh os
  |none=>pO bh os
def always(_:Row):Bool:=af
def GP(sg:oB):Bool:=rM Row.CD sg.out.aJ&&yU Row.CD sg.out.objs
def tW{R:Type}(sg:oB)(n:Nat)(bs:Bs)(bh:List (Nat×(Nat×Th)))(nd:List Nat)(y:dA sg.out.rows)(k:eB->Option R):Option R:=
 match Lz (de (sI (PR n bs bh sg.inn.nxt) sg.out.aJ) (dG _ y)).1 with
 |some D=>bif GP sg then k {dst:=D,eat:=iM bs,make:=iL n (CC (PR n bs bh sg.inn.nxt) sg.out.objs) (de (sI (PR n bs bh sg.inn.nxt) sg.out.aJ) (dG _ y)).2}
   else k {dst:=D,eat:=iM bs++nd,make:=iL n (CC (PR n bs bh sg.inn.nxt) sg.out.objs) (de (sI (PR n bs bh sg.inn.nxt) sg.out.aJ) (dG _ y)).2++pO bh nd}
 |none=>ae
def ph{R:Type}(objs:List (Nat×(Nat×Th)))(n:Nat)(f:FuncId)(ds:List aI)(k:eB->Option R):List (Nat×oB)->Option R
 |[]=>ae
 |(g,sg)::tab=>bif aiK g f then(match yS 0 [] sg.inn (jk 0 ds) objs with
    |some (x,bs,bh)=>bif aiK ds.length sg.inn.aJ.length&&tV 0 sg.out.aJ&&Nat.ble sg.out.nxt 16&&Nat.ble sg.out.objs.length 16&&(rM always sg.out.aJ)then
      (sg.fn x).bind λy=>tW sg n bs bh (yR 0 sg.inn (jk 0 ds) objs) y k else ae
    |none=>ph objs n f ds k tab)else ph objs n f ds k tab
def Ux(c:Nat×List Bool×Nat):aI:= .ptr c.1 c.2.1 c.2.2
def wF{H:aK}{F:Nat->Prop}{w:World}:{cs:List (Nat×List Bool×Nat)}->{vs:List Value}->lZ H cs vs->fL H F w (cs.map Ux) vs
 |[],_,h=>h
 |_::_,_,h=>by obtain⟨v,us,e,h1,h3⟩:=h;exact⟨v,us,e,h1,wF h3⟩
def sL{H:aK}{F:Nat->Prop}{w:World}:{ds es:List aI}->{vs us:List Value}->fL H F w ds vs->fL H F w es us->fL H F w (ds++es) (vs++us)
 |[],_,vs,_,h,h'=>by rw[show vs=[]from h];exact h'
 |_::_,_,_,_,h,h'=>by obtain⟨v,us,rfl,h1,h2⟩:=h;exact⟨v,_,rfl,h1,sL h2 h'⟩
def GQ(rd:Operand->Option aI)(x:Operand):Option (FuncId×List (Nat×List Bool×Nat)):=
 match rd x with
 |some (.fn f caps)=>aa (f,caps)
 |_=>ae
def yY{R:Type}(tab:List (Nat×oB))(rd:Operand->Option aI)(objs:List (Nat×(Nat×Th)))(n:Nat)(x:Operand)(args:List Operand)(k:eB->Option R):Option R:=
 match GQ rd x with
 |some (f,caps)=>match sz rd args with
  |some ds=>ph objs n f (ds++caps.map Ux) k tab
  |none=>ae
 |none=>ae
section
variable {P:Program} {ρ:Nat->Value} {w w':World} {H H':aK} {F F':Nat->Prop} {U:Nat->Prop} {n:Nat} {R:Type}
variable {ty:TypeId} {pos:String} {aft:Array Edge} {dst:Option Nat}
def qa:{ds:List aI}->{vs:List Value}->{k:Nat}->fL H F w ds vs->∀t d,find (jk k ds) t=aa d->k<=t/\aG H F w d (vs.getD (t-k) undef)
 |[],_,_,_,_,_,h=>by cases h
 |d0::ds,vs,k,h,t,d,hf=>by
  obtain⟨v,us,rfl,h1,h2⟩:=h;have uD:find ((k,d0)::jk (k+1) ds) t=aa d:=hf;rw[ba]at uD;split at uD
  .grind
  .obtain⟨h3,h4⟩:=qa h2 t d uD
   grind
theorem nD{bh:List (Nat×(Nat×Th))}:{nd:List Nat}->{o s:Nat}->{t:Th}->find (pO bh nd) o=aa (s,t)->o∈nd/\find bh o=aa (s,t)/\fo t=af
 |[],_,_,_,h=>by cases h
 |o0::nd,o,s,t,h=>by
  unfold pO at h;split at h
  .rename_i s0 t0 h0
   cases hb:fo t0 with
   |true=>
    rw[hb,cond_true,ba]at h;split at h
    .grind
    .obtain⟨a,b⟩:=nD h;exact⟨by simp[a],b⟩
   |false=>
    rw[hb,cond_false]at h;obtain⟨a,b⟩:=nD h;exact⟨by simp[a],b⟩
  .obtain⟨a,b⟩:=nD h;exact⟨by simp[a],b⟩
def sM:{l:List (Nat×OS)}->yU always l=af
 |[]=>rfl
 |(t,s)::l=>by
  have ht:∀sh:Sh,sh.jX always=af:=by
   intro sh
   induction sh with
   |leaf r=>rfl
   |own j=>rfl
   |nil=>rfl
   |junk n=>rfl
   |pair a b Yu Yv=>show(a.jX always&&b.jX always)=af;rw[Yu,Yv];rfl
  have:s.jX always=af:=by
   cases s with
   |box T t=>exact ht t
   |own T r=>rfl
   |map T K agg V=>rfl
   |deep T d=>
    have hd:∀d:DR,d.jX always=af:=by
     intro d
     induction d with
     |leaf r=>rfl
     |sl T d ih=>exact ih
     |pair a b Yu Yv=>show(a.jX always&&b.jX always)=af;rw[Yu,Yv];rfl
    exact hd d
   |dmap T K E r=>rfl
  show(s.jX always&&yU always l)=af
  rw[this,sM];rfl
def mV(H H':aK)(n:Nat)(cons:List (Nat×(Nat×Th)))(m0:Nat):aK where
 val m:=if n<=m/\m<n+16 then H'.val (m-n)else H.val m
 con m:=if n<=m/\m<n+16 then sH cons m else H.con m
 sub m:=if n<=m/\m<n+16 then H'.sub (m-n+m0)else H.sub m
def IN{dd:Option Nat}{f:FuncId}{fn:Func}{g:Operand}{args:Array Operand}{vs us:List Value}{wG:Array TypeId}(hf:P.funcs[f]? =aa fn)(hn:(fn.name== "runtime.NumGoroutine")=ag)(hb:fn.body.isNone=ag)(Ua:args.toList.map (ev ρ)=vs)(hg:ev ρ g= .func (.func f) #[] us.toArray):
 (execOp (ev ρ) ⟨dd, .call {callee:= .value g,args:=args,argTypes:=wG},ty,pos,aft,ae⟩).run P w= .ok (.enter f (vs++us).toArray) w:=by
 subst Ua
 have NI:¬fn.name= "runtime.NumGoroutine" :=by simpa using hn
 have pX:¬fn.body=ae:=by
  intro e;rw[e]at hb;cases hb
 have e:(Array.map (ev ρ) args++us.toArray)=(args.toList.map (ev ρ)++us).toArray:=by simp
 simp[execOp,resolve,hg,Deferred.ofValue,invoke,callFunc,hf,NI,pX,go_sem,e]
def IP{sg:oB}{f:FuncId}(yd:fN P f sg){objs:List (Nat×(Nat×Th))}{op:Op}{k:eB->Option R}{q:R}{ds:List aI}{vs:List Value}{x:dA sg.inn.rows}{bs:Bs}{bh:List (Nat×(Nat×Th))}
 (yZ:fL H F w ds vs)(bG:∀fn,P.funcs[f]? =aa fn->(fn.name== "runtime.NumGoroutine")=ag->fn.body.isNone=ag->(execOp (ev ρ) ⟨dst,op,ty,pos,aft,ae⟩).run P w= .ok (.enter f vs.toArray) w)(hs:aL U H F w (find objs) n)
 (vD:yS 0 [] sg.inn (jk 0 ds) objs=aa (x,bs,bh))
 (h':(bif aiK ds.length sg.inn.aJ.length&&tV 0 sg.out.aJ&&Nat.ble sg.out.nxt 16&&Nat.ble sg.out.objs.length 16&&(rM always sg.out.aJ)then
   (sg.fn x).bind λy=>tW sg n bs bh (yR 0 sg.inn (jk 0 ds) objs) y k else ae)=aa q):
 ∃e,k e=aa q/\cK P U H F w ρ (find objs) n ⟨dst,op,ty,pos,aft,ae⟩ e:=by
 obtain⟨hc,h'⟩:=bf h';obtain⟨hc,hc5⟩:=dc hc;obtain⟨hc,Uf⟩:=dc hc;obtain⟨hc,NV⟩:=dc hc;obtain⟨yB,xJ⟩:=dc hc;have yB:=beq_true yB
 have NV:sg.out.nxt<=16:=by simpa using NV
 have Uf:sg.out.objs.length<=16:=by simpa using Uf
 obtain⟨y,hy,h⟩:=bind_some h';clear h';obtain⟨⟨fn,hf1,hf2,hf3⟩,sq⟩:=yd;have ach:=ll yZ
 let H0:aK:=⟨λ_=>ae,λ_=>ae,λ_ _=>False⟩
 have Q6:aL U H0 F w (find (del [] [])) 0:=⟨λ_ _ _ h=>(by cases h),λ_ _ _ _ _ _ _ _ _ h=>(by cases h),λ_ _ _=>⟨rfl,rfl⟩,hs.lt,hs.new,hs.gl⟩
 have hk0:cQ H0 F w H F w:=⟨⟨λ_ _ h=>(by cases h),λ_ _ h=>(by cases h),λ_ _ h=>(by cases h)⟩,Step.refl F w⟩
 have gN:∀t d,find (jk 0 ds) t=aa d->aG H F w d (vs.getD t undef):=λt d hd=>by simpa using(qa yZ t d hd).2
 obtain⟨F1,H1,sF,Ek,Nr,yb,CB,tT,GN,Q8,CH⟩:=wD (U':=λk=>w.heap.size<=k\/∃o∈iM bs,∃s t v,find bh o=aa (s,t)/\H.val o=aa v/\fp (H.sub s) v t k) (ns:=[]) (objs0:=[]) (ρ:=λt=>vs.getD t undef) vD Q6 (λ_ _=>⟨rfl,rfl⟩) hk0 hs gN;have CH:=CH (λb hb=> .inl hb) (by grind) (λ_ _ _ _ _ h=>by cases h);generalize hG:(λk=>∃o∈iM bs,∃s t v,find bh o=aa (s,t)/\H.val o=aa v/\fp (H.sub s) v t k)=G
 have Uy:∀k,G k->¬F1 k:=by
  rw[<-hG]
  rintro k ⟨o,_,s,t,v,h1,h2,h3⟩
  obtain⟨v',dZ,cP⟩:=sF.obj _ _ _ h1;rw[h2]at dZ;obtain rfl:=aiF dZ;exact cP.no k h3
 have Yw:∀k,G k->cC H (find objs) (iM bs) k:=by
  rw[<-hG]
  rintro k ⟨o,ho,s,t,v,h1,h2,h3⟩
  rcases ji yb o s t h1 with h4|h4
  .exact⟨o,ho,s,t,v,h4,h2,h3⟩
  .exact(iG h4 h3).elim
 have Uz:aL (λk=>w.heap.size<=k\/G k) H1 F1 w (find (iL 0 sg.inn.objs (de sg.inn.aJ (dG sg.inn.rows x)).2)) sg.inn.nxt:=by
  rw[show del [] ([]:List (Nat×(Nat×Th)))=[]from rfl,ajv]at CH;rw[<-hG];exact CH
 have UA:=sq x y hy vs w H1 F1 G (by omega) Q8 Uz GN Uy;generalize N2:yR 0 sg.inn (jk 0 ds) objs=nd at h Nr yb;generalize Yx:PR n bs bh sg.inn.nxt=φ at h;unfold tW at h;rw[Yx]at h;split at h
 case h_2=>cases h
 rename_i D hD
 have IB:∀(e:eB),e.dst=D->(∀(w':World)(us:List Value)(H':aK)(F':Nat->Prop),us.length=sg.out.aJ.length->Ext G w w'->H1.le H'->(∀b,F1 b->F' b)->(∀b,F' b->F1 b\/w.heap.size<=b\/G b)->
  (∀t d,find (de sg.out.aJ (dG sg.out.rows y)).1 t=aa d->aG H' F' w' d (us.getD t undef))->aL (λk=>w.heap.size<=k\/G k) H' F' w' (find (iL sg.inn.nxt sg.out.objs (de sg.out.aJ (dG sg.out.rows y)).2)) sg.out.nxt->jd H' sg.out.nxt->lV H F w (find objs) n e (yc us) w')->
  cK P U H F w ρ (find objs) n ⟨dst,op,ty,pos,aft,ae⟩ e:=by
  intro e he uK;have bG:=bG fn hf1 hf2 hf3;unfold cK cz;rw[bG];refine UA.mono (by grind)
 generalize GM:iL n (CC φ sg.out.objs) (de (sI φ sg.out.aJ) (dG sg.out.rows y)).2=cons at h;have Yy:=CE (φ:=φ) sg.out.aJ (dG sg.out.rows y)
 have Q9:∀{H':aK},H1.le H'->jd H' sg.out.nxt->Ren H' (mV H H' n cons sg.inn.nxt) φ/\H.le (mV H H' n cons sg.inn.nxt)/\∀m,(m<n\/n+16<=m)->(H.val m=ae->(mV H H' n cons sg.inn.nxt).val m=ae)/\(H.con m=ae->(mV H H' n cons sg.inn.nxt).con m=ae):=by
  intro H' hle xM
  have Og:∀j v,H'.val j=aa v->j<sg.out.nxt:=λj v hj=>by
   rcases Nat.lt_or_ge j sg.out.nxt with g|g
   .exact g
   .rw[(xM j g).1]at hj;cases hj
  have hold:∀o v,H.val o=aa v->¬(n<=o/\o<n+16):=λo v ho hc=>by
   rw[(hs.fresh o hc.1 hc.2).1]at ho;cases ho
  refine⟨λj v hj=>?_,⟨λo v ho=>?_,λs t gq=>?_,λs t gq=>?_⟩,λm hm=>?_⟩
  .rw[<-Yx];have hjn:=Og j v hj
   have gen:(mV H H' n cons sg.inn.nxt).val (n+j)=aa v:=by
    simp only[mV];rw[aj (by omega),Nat.add_sub_cancel_left];exact hj
   unfold PR
   cases hb:ajg j sg.inn.nxt with
   |false=>simpa using gen
   |true=>
    rw[cond_true];split
    .rename_i o ho;split
     case h_2=>exact gen
     rename_i e he;obtain⟨u,hu,_⟩:=sF.obj o e.1 e.2 he;have h1:=hle.val _ _ (tT j (aa o) ho u hu)
     grind [mV]
    .exact gen
  .grind [mV]
  .simp only[mV];rw[ai (λhc=>by rw[(hs.fresh s hc.1 hc.2).2]at gq;cases gq)];exact gq
  .simp only[mV];rw[ai (λhc=>by rw[(hs.fresh s hc.1 hc.2).2]at gq;cases gq)]
  .grind [mV]
 have made:∀{p:Row->Bool}{us:List Value}{w':World}{H':aK}{F' F2:Nat->Prop}{eat:List Nat},us.length=sg.out.aJ.length->rM p sg.out.aJ=af->yU p sg.out.objs=af->sJ p F' F2 w'->Ext G w w'->H1.le H'->(∀b,F2 b->F' b)->(∀o,o∈iM bs->o∈eat)->
  (∀t d,find (de sg.out.aJ (dG sg.out.rows y)).1 t=aa d->aG H' F' w' d (us.getD t undef))->aL (λk=>w.heap.size<=k\/G k) H' F' w' (find (iL sg.inn.nxt sg.out.objs (de sg.out.aJ (dG sg.out.rows y)).2)) sg.out.nxt->jd H' sg.out.nxt->
  aG (mV H H' n cons sg.inn.nxt) F2 w' D (yc us)/\Made (mV H H' n cons sg.inn.nxt) F2 w w' (cC H (find objs) eat) cons/\∀o,(find cons o).isSome->o∈eat\/n<=o:=by
  intro p us w' H' F' F2 eat Ra Xh Xi Xr bW hle Nr l5 Io Oh UB;obtain⟨hr,_,_⟩:=Q9 hle UB
  have GR:∀o s t,find cons o=aa (s,t)->∃j s' us sh,φ j=o/\t=(cD (sh.rL φ) us).1/\find (iL sg.inn.nxt sg.out.objs (de sg.out.aJ (dG sg.out.rows y)).2) j=aa (s',(cD sh us).1)/\sh.jX p=af/\sH cons s=aa t/\n<=s/\s<n+16/\(mV H H' n cons sg.inn.nxt).sub s=H'.sub s':=by
   intro o s t ho;rw[<-GM]at ho⊢;rw[Yy]at ho⊢;obtain⟨j,s',Yz,sh,a1,a2,a3,a4,a5,a6,a7,a8⟩:=CF (m':=sg.inn.nxt) ho
   have aH:s<n+16:=by omega
   refine⟨j,s',Yz,sh,a1,a2,a3,a4 Xi,a5,a6,aH,?_⟩;simp only[mV];rw[aj ⟨a6,aH⟩,a8]
  refine⟨?_,⟨λo s t ho=>?_,λo o' s s' t t' v v' du ho jS hv dZ k hk iK=>?_⟩,λo ho=>?_⟩
  .exact Q7 (by rw[CG];exact xJ) (by rw[uJ];exact Ra) (Ly hr Xr Xh Io) hD
  .obtain⟨j,s',Yz,sh,rfl,rfl,a3,a4,a5,a6,a7,a8⟩:=GR o s t ho;rw[a8];obtain⟨v,hv,cP⟩:=Oh.obj _ _ _ a3;obtain⟨b1,b2,b3⟩:=tU hr Xr a4 cP.ok;refine⟨v,hr j v hv,cP.one,?_,b1,λk hk=>⟨λe=>cP.no k (b3 k hk) (Nr k e),cP.lt k (b3 k hk),?_⟩⟩
   .grind [mV]
   .rcases cP.use k (b3 k hk)with h1|h1
    .exact .inl h1
    .obtain⟨o',jS,rest⟩:=Yw k h1;exact .inr ⟨o',l5 o' jS,rest⟩
  .obtain⟨j,s1,us1,sh,rfl,rfl,a3,a4,a5,a6,_,a8⟩:=GR o s t ho;obtain⟨j',s1',ad7,sh',rfl,rfl,a3',a4',a5',a6',_,a8'⟩:=GR o' s' t' jS;rw[a8]at hk;rw[a8']at iK;obtain⟨u,hu,cP⟩:=Oh.obj _ _ _ a3;obtain⟨u',Af,Ct⟩:=Oh.obj _ _ _ a3';have e1:=hr j u hu;rw[hv]at e1;obtain rfl:=aiF e1;have e2:=hr j' u' Af;rw[dZ]at e2;obtain rfl:=aiF e2;exact Oh.apart j j' _ _ _ _ _ _ (λe=>du (by rw[e])) a3 a3' hu Af k ((tU hr Xr a4 cP.ok).2.2 k hk) ((tU hr Xr a4' Ct.ok).2.2 k iK)
  .obtain⟨e,he⟩:=ai8.1 ho;obtain⟨j,s',Yz,sh,rfl,_⟩:=GR o e.1 e.2 he;rw[<-Yx];unfold PR
   cases ajg j sg.inn.nxt with
   |false=>exact .inr (by simp)
   |true=>
    grind [kS]
 have UC:∀{w':World}{eat:List Nat},Ext G w w'->(∀o,o∈iM bs->o∈eat)->Ext (cC H (find objs) eat) w w':=λbW l5=>⟨bW.os,bW.tape,bW.output,bW.size,λk hk hn=>bW.block k hk λhG=>hn (by
  obtain⟨o,ho,rest⟩:=Yw k hG
  exact⟨o,l5 o ho,rest⟩)⟩
 cases YA:GP sg with
 |true=>
  rw[YA,cond_true]at h;obtain⟨p1,p2⟩:=dc YA;refine⟨_,h,IB _ rfl λw' us H' F' Ra a1 a2 a3 a4 a5 a6 a7=>?_⟩;obtain⟨_,g2,g3⟩:=Q9 a2 a7;obtain⟨m1,m2,m3⟩:=made (F2:=F) (eat:=iM bs) Ra p1 p2 (λr hr cs x hx=>cG.EV hr hx) a1 a2 (λb hb=>a3 b (Ek b hb)) (λ_ h=>h) a5 a6 a7;exact⟨_,F,⟨g2,UC a1 (λ_ h=>h),λ_ h=>h,λ_ h=> .inl h,λb hb=>ai4 (hs.lt b hb) a1.size⟩,g3,m1,m2,m3⟩
 |false=>
  rw[YA,cond_false]at h;refine⟨_,h,IB _ rfl λw' us H' F' Ra a1 a2 a3 a4 a5 a6 a7=>?_⟩;obtain⟨_,g2,g3⟩:=Q9 a2 a7;obtain⟨m1,m2,m3⟩:=made (F2:=F') (eat:=iM bs++nd) Ra hc5 sM (λr _ cs x hx=>hx) a1 a2 (λ_ h=>h) (λo h=>by simp[h]) a5 a6 a7
  have gq:Step F1 w F' w':=λb hb=>⟨a3 b hb,a1.block b (sF.lt b hb) λe=>Uy b e hb⟩
  have vh:∀o s t,find (pO bh nd) o=aa (s,t)->o∈nd/\fo t=af/\∃v,H.val o=aa v/\v.oneCell'=af/\H.con s=aa t.base/\jV H F1 w (H.sub s) v t:=by
   intro o s t ho;obtain⟨b1,b2,b3⟩:=nD ho;obtain⟨v,hv,cP⟩:=sF.obj _ _ _ b2;exact⟨b1,b3,v,hv,cP.one,cP.con,cP.ok⟩
  have part:∀o s t,find (cons++pO bh nd) o=aa (s,t)->find cons o=aa (s,t)\/find (pO bh nd) o=aa (s,t):=by
   intro o s t ho;rw[jb]at ho
   cases hm:find cons o with
   |some e=>grind
   |none=>grind
  refine⟨_,F',⟨g2,UC a1 (λo h=>by simp[h]),λb hb=>a3 b (Ek b hb),λb hb=>?_,a6.lt⟩,g3,m1,⟨λo s t ho=>?_,λo o' s s' t t' v v' du ho jS hv dZ k hk iK=>?_⟩,λo ho=>?_⟩
  .rcases a4 b hb with h1|h1|h1
   .rcases Nr b h1 with h2|⟨o,ho,rest⟩
    .exact .inl h2
    .exact .inr (.inr ⟨o,by simp[ho],rest⟩)
   .exact .inr (.inl h1)
   .obtain⟨o,ho,rest⟩:=Yw b h1;exact .inr (.inr ⟨o,by simp[ho],rest⟩)
  .rcases part o s t ho with h1|h1
   .exact m2.obj o s t h1
   .obtain⟨b1,b2,v,b3,b4,b5,b6⟩:=vh o s t h1;refine⟨v,g2.val _ _ b3,b4,g2.con _ _ b5,by rw[g2.sub _ _ b5];exact b6.heap g2 gq (λk hk=>(iG b2 hk).elim),λk hk=>(iG b2 hk).elim⟩
  .rcases part o s t ho with h1|h1<;>rcases part o' s' t' jS with h2|h2
   .exact m2.apart o o' s s' t t' v v' du h1 h2 hv dZ k hk iK
   .grind [iG]
   .exact iG (vh o s t h1).2.1 hk
   .exact iG (vh o s t h1).2.1 hk
  grind [ai8]
def oQ{UD:List (Nat×oB)}(yd:∀p∈UD,fN P p.1 p.2){objs:List (Nat×(Nat×Th))}{f:FuncId}{op:Op}{k:eB->Option R}{q:R}{ds:List aI}{vs:List Value}
 (yZ:fL H F w ds vs)(bG:∀fn,P.funcs[f]? =aa fn->(fn.name== "runtime.NumGoroutine")=ag->fn.body.isNone=ag->(execOp (ev ρ) ⟨dst,op,ty,pos,aft,ae⟩).run P w= .ok (.enter f vs.toArray) w)(hs:aL U H F w (find objs) n):{tab:List (Nat×oB)}->(∀p∈tab,p∈UD)->ph objs n f ds k tab=aa q->
 ∃e,k e=aa q/\cK P U H F w ρ (find objs) n ⟨dst,op,ty,pos,aft,ae⟩ e
 |[],_,h=>by cases h
 |(f0,sg)::tab,cP,h=>by
  unfold ph at h
  cases hb:aiK f0 f with
  |false=>rw[hb,cond_false]at h;exact oQ yd yZ bG hs (λp hp=>cP p (by simp[hp])) h
  |true=>
   rw[hb,cond_true]at h;obtain rfl:=beq_true hb;split at h
   case h_2=>exact oQ yd yZ bG hs (λp hp=>cP p (by simp[hp])) h
   rename_i x bs bh vD;exact IP (yd (f0,sg) (cP _ (by simp))) yZ bG hs vD h
def CI{tab:List (Nat×oB)}(yd:∀p∈tab,fN P p.1 p.2){rd:Operand->Option aI}(gE:∀x d,rd x=aa d->aG H F w d (ev ρ x)){objs:List (Nat×(Nat×Th))}{g:Operand}{args:Array Operand}{wG:Array TypeId}{k:eB->Option R}{q:R}
 (h:yY tab rd objs n g args.toList k=aa q)(hs:aL U H F w (find objs) n):
 ∃e,k e=aa q/\cK P U H F w ρ (find objs) n ⟨dst, .call {callee:= .value g,args:=args,argTypes:=wG},ty,pos,aft,ae⟩ e:=by
 unfold yY at h;split at h
 case h_2=>cases h
 rename_i f caps hc;split at h
 case h_2=>cases h
 rename_i ds xX;unfold GQ at hc;split at hc
 case h_2=>cases hc
 rename_i f' ack hg;cases hc;obtain⟨us,h1,h2⟩:=gE _ _ hg;exact oQ yd (sL (oI (w:=w) (H:=H) (F:=F) (ρ:=ρ) gE xX) (wF (F:=F) (w:=w) h2)) (λfn g1 g2 g3=>IN g1 g2 g3 rfl h1) hs (λ_ h=>h) h
end
end
section
section
variable {P:Program} {ρ:Nat->Value} {w w':World} {H H':aK} {F F':Nat->Prop} {U:Nat->Prop} {ob:Nat->Option (Nat×Th)} {n:Nat} {R:Type}
variable {op:Op} {ty:TypeId} {pos:String} {aft:Array Edge} {d:Nat} {dst:Option Nat}
def J7.GS:J7->Bool
 | .other=>ag
 |_=>af
def yC.GS{t:TypeId}{k:J7}(h:yC P t k)(hk:k.GS=af):∃D,P.underlying t=aa D/\∀ms,D≠ .interface ms:=by
 cases k with
 |other=>cases hk
 |struct fs=>obtain⟨arr,h,_⟩:=h;grind
 |_=>exact⟨_,h,λ_ e=>by cases e⟩
def Ax(T:bk P)(t:TypeId):Bool:=match find T.und t with
 |some k=>k.GS
 |none=>ag
def za(T:bk P){t:TypeId}(h:Ax T t=af):∃D,P.underlying t=aa D/\∀ms,D≠ .interface ms:=by
 unfold Ax at h;split at h
 .rename_i k hk;exact(T.und_ok _ _ hk).GS h
 .cases h
def IQ(T:bk P)(t:TypeId)(D:aI)(k:eB->Option R):Option R:=bif Ax T t then k {dst:= .ifc t D}else ae
def Oi(T:bk P){t:TypeId}{D:aI}{x:Operand}{k:eB->Option R}{q:R}(h:IQ T t D k=aa q)(hs:aL U H F w ob n)(hx:aG H F w D (ev ρ x)):
 ∃e,k e=aa q/\cK P U H F w ρ ob n ⟨aa d, .makeInterface t x,ty,pos,aft,ae⟩ e:=by
 unfold IQ at h;obtain⟨h1,h2⟩:=bf h;obtain⟨D0,hD,hn⟩:=za T h1;refine⟨_,h2,cq hs (v:= .iface t (ev ρ x)) ?_ ⟨_,rfl,hx⟩⟩
 cases D0 with
 |interface ms=>grind
 |_=>simp[execOp,Instr.makeInterface,run_underlying hD,ai3]
def qP(T:bk P)(t:TypeId)(ok:Bool)(D:aI)(k:eB->Option R):Option R:=
 match D with
 | .ifc t' d=>bif aiK t' t&&Ax T t then(match ok,d with
   |true, .val agg tr=>k {dst:= .tup [(agg,tr),(ag, .leaf .bool af)]}
   |true,_=>ae
   |false,d=>k {dst:=d})else ae
 |_=>ae
def E0(T:bk P){xt t:TypeId}{ok:Bool}{D:aI}{x:Operand}{k:eB->Option R}{q:R}(h:qP T t ok D k=aa q)(hs:aL U H F w ob n)(hx:aG H F w D (ev ρ x)):
 ∃e,k e=aa q/\cK P U H F w ρ ob n ⟨aa d, .typeAssert x xt t ok,ty,pos,aft,ae⟩ e:=by
 unfold qP at h;split at h
 case h_2=>cases h
 rename_i t' dd;obtain⟨h1,h2⟩:=bf h;obtain⟨h1,h3⟩:=dc h1;obtain rfl:=beq_true h1;obtain⟨D0,hD,hn⟩:=za T h3;obtain⟨u,hu,hd⟩:=hx
 have bG:(Instr.typeAssert (ev ρ x) xt t' ok).run P w= .ok (if ok then .tuple #[u, .bool af]else u) w:=by
  rw[hu]
  cases D0 with
  |interface ms=>grind
  |_=>simp[Instr.typeAssert,run_underlying hD,ai3]
 split at h2
 .exact⟨_,h2,cq hs (v:= .tuple #[u, .bool af]) (by simp[execOp,bG,ai3]) ⟨[u, .bool af],rfl,_,_,rfl,hd,_,_,rfl,aW.gS ..,rfl⟩⟩
 .cases h2
 .exact⟨_,h2,cq hs (v:=u) (by simp[execOp,bG,ai3]) hd⟩
def GU:List (TypeId×(String×(FuncId×Bool)))->TypeId->String->Option (FuncId×Bool)
 |[],_,_=>ae
 |(t',(nm,p))::l,t,name=>bif aiK t' t&&(nm==name)then aa p else GU l t name
def CJ{t:TypeId}{name:String}{f:FuncId}{pr:Bool}:{l:List (TypeId×(String×(FuncId×Bool)))}->GU l t name=aa (f,pr)->(t,(name,(f,pr)))∈l
 |[],h=>by cases h
 |(t',(nm,p))::l,h=>by
  unfold GU at h
  cases hb:aiK t' t&&(nm==name)with
  |true=>
   simp_all
  |false=>
   rw[hb,cond_false]at h;exact List.mem_cons_of_mem _ (CJ h)
def E1{t:TypeId}{name:String}{f:FuncId}{pr:Bool}{v u:Value}{fuel:Nat}(h:ri P t name f pr)(hr:∀nm,(receiverAt t (.val v) pr (aa nm)).run P w= .ok u w):(method (fuel+1) t v name).run P w= .ok (f,u) w:=by
 unfold ri at h
 cases hi:P.info? t with
 |none=>grind
 |some ti=>
  rw[hi]at h;have h:(ti.methods.find? λm=>m.name==name).map (λm=>(m.path.toList.length,m.func))=aa (0,aa (f,pr)):=h
  cases hm:ti.methods.find? λm=>m.name==name with
  |none=>grind
  |some m=>
   rw[hm]at h;simp only[Option.map_some,aiO,Prod.mk.injEq]at h
   have hp:m.path= #[]:=by
    have:=h.1;simpa using this
   simp[method,typeInfo,hi,hm,hp,follow,h.2,hr,ai3,ai1]
def IR{t e:TypeId}{nm:String}{v:Value}(hu:P.underlying t=aa (.pointer e)):(receiverAt t (.val v) af (aa nm)).run P w= .ok v w:=by
 simp[receiverAt,run_underlying hu,Place.get,ai3,ai1]
def IS{t e:TypeId}{nm:String}{a:Addr}{u:Value}(hu:P.underlying t=aa (.pointer e))(hl:(loadVar e a).run P w= .ok u w):(receiverAt t (.val (.pointer (aa a))) ag (aa nm)).run P w= .ok u w:=by
 have hw:Builtin.ssaWrapNilChk_ #[t] t #[.pointer (aa a),strVal "",strVal nm]=pure (.pointer (aa a)):=rfl;simp[receiverAt,run_underlying hu,Place.get,hw,asAddr,hl,ai3,ai1]
def wH{t:TypeId}{name:String}{f:FuncId}{fn:Func}{pr:Bool}{v u:Value}{x:Operand}{args:Array Operand}{wG:Array TypeId}(h:ri P t name f pr)(hx:ev ρ x= .iface t v)(hr:∀nm,(receiverAt t (.val v) pr (aa nm)).run P w= .ok u w)
 (hf:P.funcs[f]? =aa fn)(hn:(fn.name== "runtime.NumGoroutine")=ag)(hb:fn.body.isNone=ag):
 (execOp (ev ρ) ⟨dst, .call {callee:= .invoke x name,args:=args,argTypes:=wG},ty,pos,aft,ae⟩).run P w= .ok (.enter f (u::args.toList.map (ev ρ)).toArray) w:=by
 have NI:¬fn.name= "runtime.NumGoroutine" :=by simpa using hn
 have pX:¬fn.body=ae:=by
  intro e;rw[e]at hb;cases hb
 have hm:=E1 (fuel:=P.types.size+99) h hr;have hfu:P.types.size+100=P.types.size+99+1:=rfl
 have e1:(#[Value.iface t v]++Array.map (ev ρ) args).extract 1 (1+args.size)=Array.map (ev ρ) args:=by
  apply Array.ext';simp;exact ajD (by simp)
 have e0:(#[Value.iface t v]++Array.map (ev ρ) args)[0]? =aa (Value.iface t v):=by simp[Array.getElem?_append]
 have e2:(#[u]++Array.map (ev ρ) args)=(u::args.toList.map (ev ρ)).toArray:=by apply Array.ext';simp
 simp[execOp,resolve,hx,invoke,callMethod,hfu,hm,callFunc,hf,NI,pX,go_sem,e0,e1,e2]
def vE(T:bk P)(ob:Nat->Option (Nat×Th))(e:TypeId)(D:aI):Option aI:=
 match find T.und e with
 |none=>ae
 |some kk=>match D with
  | .ptr o p off=>match ob o with
    |some (_, .box _ tr)=>match tr.get p with
     |some (s,eC)=>bif aiK eC off&&nB T e kk s.size then aa (.val (l4 kk) s)else ae
     |none=>ae
    |_=>ae
  |_=>ae
def E2(T:bk P){e:TypeId}{D D':aI}{v:Value}(h:vE T ob e D=aa D')(hs:aL U H F w ob n)(hx:aG H F w D v):∃a u,v= .pointer (aa a)/\(loadVar e a).run P w= .ok u w/\aG H F w D' u:=by
 unfold vE at h;split at h
 .cases h
 rename_i kk hu;split at h
 case h_2=>cases h
 rename_i o p off;split at h
 case h_2=>cases h
 rename_i st0 T0 tr cH;split at h
 case h_2=>cases h
 rename_i s eC hg;obtain⟨h1,h2⟩:=bf h;cases h2;obtain⟨h1,h3⟩:=dc h1;obtain rfl:=beq_true h1;obtain⟨b,hb,rfl⟩:=hx;obtain⟨es,hh,PK⟩:=hs.box cH hb;obtain⟨g1,g2⟩:=PK.get hg
 have hc:∀j u,((es.drop eC).take s.size)[j]? =aa u->w.cell? ⟨b,eC+j,ae⟩=aa u:=λj u hj=>by
  grind [vU]
 obtain⟨dd,xK,xL⟩:=(T.und_ok _ _ hu).agg;have hz:=la T h3;have hl:=g1.length;generalize(es.drop eC).take s.size=cs at g1 hc hl
 cases ha:l4 kk with
 |true=>
  rw[aj ha]at hz;obtain⟨r,hr,No⟩:=hz;obtain⟨ti,z,h1,_,_,h4,_⟩:=T.row_ok _ _ hr;have YB:(loadCells ⟨b,eC,ae⟩ cs.length).run P w= .ok cs.toArray w:=run_loadCells_list (P:=P) w ⟨b,eC,ae⟩ cs (λj v hv=>by rw[dg];exact hc j v hv)
  have kP:ti.size=cs.length:=by omega
  exact⟨_, .agg cs.toArray,rfl,by simp[loadVar,ai1,fF xK,xL,ha,sizeOf,typeInfo,h1,kP,YB],⟨cs,g1,rfl,by simp⟩⟩
 |false=>
  rw[ai (by simp[ha])]at hz
  obtain⟨v,rfl⟩:∃v,cs=[v]:=by
   match cs,hl.trans hz with
   |[v],_=>grind
  have hcv:w.cell? ⟨b,eC,ae⟩=aa v:=hc 0 v rfl;exact⟨_,v,rfl,by simp[loadVar,ai1,fF xK,xL,ha,hcv,go_sem],⟨[v],g1,rfl,λ_=>rfl⟩⟩
def qQ(T:bk P)(tab:List (Nat×oB))(rd:Operand->Option aI)(objs:List (Nat×(Nat×Th)))(n:Nat)(x:Operand)(name:String)(args:List Operand)(k:eB->Option R):Option R:=
 match rd x with
 |some (.ifc t d)=>match GU T.mth t name with
  |some (f,pr)=>match find T.und t with
   |some (.ptr e)=>match(bif pr then aa d else vE T (find objs) e d)with
    |some d'=>match sz rd args with
     |some ds=>ph objs n f (d'::ds) k tab
     |none=>ae
    |none=>ae
   |_=>ae
  |none=>ae
 |_=>ae
def wI(T:bk P){tab:List (Nat×oB)}(yd:∀p∈tab,fN P p.1 p.2){rd:Operand->Option aI}(gE:∀x d,rd x=aa d->aG H F w d (ev ρ x)){objs:List (Nat×(Nat×Th))}{x:Operand}{name:String}{args:Array Operand}{wG:Array TypeId}{k:eB->Option R}{q:R}
 (h:qQ T tab rd objs n x name args.toList k=aa q)(hs:aL U H F w (find objs) n):
 ∃e,k e=aa q/\cK P U H F w ρ (find objs) n ⟨dst, .call {callee:= .invoke x name,args:=args,argTypes:=wG},ty,pos,aft,ae⟩ e:=by
 unfold qQ at h;split at h
 case h_2=>cases h
 rename_i t d0 hx;split at h
 case h_2=>cases h
 rename_i f pr hm;split at h
 case h_2=>cases h
 rename_i e hu;split at h
 case h_2=>cases h
 rename_i d' BG;split at h
 case h_2=>cases h
 rename_i ds xX;obtain⟨v,hv,hdv⟩:=gE _ _ hx;have hM:=T.mth_ok _ (CJ hm);have hu:=T.und_ok _ _ hu;have hdo:=oI (w:=w) (H:=H) (F:=F) (ρ:=ρ) gE xX
 cases pr with
 |true=>
  cases BG
  have PN:fL H F w (d0::ds) (v::args.toList.map (ev ρ)):=⟨v,_,rfl,hdv,hdo⟩
  exact oQ yd PN (λfn g1 g2 g3=>wH hM hv (λnm=>IR hu) g1 g2 g3) hs (λ_ h=>h) h
 |false=>
  obtain⟨a,u,rfl,hl,hdu⟩:=E2 T (show vE T (find objs) e d0=aa d' from BG) hs hdv
  have PN:fL H F w (d'::ds) (u::args.toList.map (ev ρ)):=⟨u,_,rfl,hdu,hdo⟩
  exact oQ yd PN (λfn g1 g2 g3=>wH hM hv (λnm=>IS hu hl) g1 g2 g3) hs (λ_ h=>h) h
end
end
end Go.Proofs.YtleifhfeahnocaaGreatDoor
