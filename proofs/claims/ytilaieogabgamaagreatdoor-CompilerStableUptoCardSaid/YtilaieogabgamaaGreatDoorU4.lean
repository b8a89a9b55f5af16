/- Joined texts: Grp Pack2 Call Call2. -/
import Derived.Test.YtilaieogabgamaaGreatDoorU3
section
open _root_.Go.Instr renaming findNow->akk,mapUpdate->akN
open _root_.List renaming getElem_append_left->ajf,getElem_append_right->ajn,length_append->ai6,mem_cons->ajq
open _root_.Go.MapKept renaming run_checkKey->ako,run_findKey->akt,run_getObj_map->aks
open _root_.Nat renaming beq->aje,le_refl->ai8,lt_of_lt_of_le->ajJ,zero_add->ajC,zero_le->ajt
open _root_.Option renaming isSome_iff_exists->ajH
open _root_.Option.some renaming inj->ai4,injEq->ajg
open _root_.Prod.mk renaming inj->akx,injEq->aj3
open _root_.Go.Result renaming andThen->ajI
open _root_.Go.Value renaming ownBlock->ajz
namespace Go.Proofs.YtilaieogabgamaaGreatDoor
open Go Go.RowKit Go.MapKept
noncomputable def G9{α:Type}(K:Row):List (K.den×α)->K.den->α->List (K.den×α)
 |[],_,_=>[]
 |p::l,k,v=>if gI K p.1 k=true then(p.1,v)::l else p::G9 K l k v
theorem AP{K:Row}{a b:K.den}(h:gI K a b=true):a=b:=by
 unfold gI at h
 split at h<;>first|exact of_decide_eq_true h|cases h
section
variable {P:Program} {ρ:Nat->Value} {w w':World} {H H':ao} {F F':Nat->Prop} {U:Nat->Prop} {ob:Nat->Option (Nat×Th)} {n:Nat} {R:Type}
variable {op:Op} {ty:TypeId} {pos:String} {aft:Array Edge} {d:Nat}
variable {K:Row} {E:TypeId} {r:Row}
theorem qU.none(A:Nat->Prop):qU (fun _=>False) A A:=⟨fun k=>by simp,fun _ h=>h.elim⟩
theorem qU.mk'{A B:Nat->Prop}(h:∀k,A k->¬B k):qU A B (fun k=>A k\/B k):=⟨fun _=>Iff.rfl,h⟩
theorem qz{dd:TypeDesc}{x:K.den}{kv:Value}(hK:∀x v,nO K x=some v->IsKey dd v)(hx:nO K x=some kv):{h:Option (K.den×Nat)}->(∀a o,h=some (a,o)->a=x)->{es:List MapEntry}->{l:List (K.den×List r.den)}->{S:Nat->Prop}->(i:Nat)->fH H F w K E r h es l S->
 (akk dd kv es i=some none/\gN K l x=none/\(∀e∈es,e.key≠kv)/\
   (∀H' F' w' y(e:MapEntry)A,e.key=kv->Step F w F' w'->(∀k,S k->w'.heap[k]? =w.heap[k]?)->q8 F' w' E r e.val y A->(∀k,A k->¬S k)->∃S2,fH H' F' w' K E r none (es++[e]) (lY K l x y) S2/\∀k,S2 k->S k\/A k)/\
   (h=none->∀H' o,fH H' F w K E r (some (x,o)) es l S))\/
 ∃j e y0,akk dd kv es i=some (some (i+j,e.val))/\es[j]? =some e/\e.key=kv/\gN K l x=some y0/\
  (∀H' F' w' y(f:MapEntry->MapEntry)A,(f e).key=kv->Step F w F' w'->(∀k,S k->w'.heap[k]? =w.heap[k]?)->q8 F' w' E r (f e).val y A->(∀k,A k->¬S k)->∃S2,fH H' F' w' K E r none (es.modify j f) (lY K l x y) S2/\∀k,S2 k->S k\/A k)/\
  (h=none->∃A B,q8 F w E r e.val y0 A/\qU A B S/\∀H' o,H'.val o=some e.val->fH H' F w K E r (some (x,o)) es l B)
 |h,hh,[],l,S,i,hd=>by
  have xu:l=[]/\∀k,¬S k:=by cases h<;>exact hd
  obtain⟨rfl,hS⟩:=xu;refine .inl ⟨rfl,rfl,by simp,fun H' F' w' y e A he hs hb hv hA=>⟨A,⟨x,y,[],A,fun _=>False,rfl,by rw[he];exact hx,hv,⟨rfl,fun _ h=>h⟩,⟨fun k=>by simp,fun _ _ h=>h⟩⟩,fun k hk=> .inr hk⟩,fun _ H' o=>⟨rfl,hS⟩⟩
 |h,hh,e::es,l,S,i,hd=>by
  have gen:∃k y l' A B,l=(k,y)::l'/\nO K k=some e.key/\qU A B S/\((h=none->q8 F w E r e.val y A)/\(gI K k x=false->q8 F w E r e.val y A/\fH H F w K E r h es l' B)/\(gI K k x=true->fH H F w K E r none es l' B)):=by
   cases h with
   |none=>
    obtain⟨k,y,l',A,B,e0,h1,h2,h3,h4⟩:=hd;exact⟨k,y,l',A,B,e0,h1,h4,fun _=>h2,fun _=>⟨h2,h3⟩,fun _=>h3⟩
   |some p=>
    obtain⟨a,o⟩:=p;obtain rfl:=hh a o rfl;obtain⟨k,y,l',A,B,e0,h1,h2,h4⟩:=hd;refine⟨k,y,l',A,B,e0,h1,h4,fun e=>(by cases e),fun hk=>?_,fun hk=>?_⟩
    .rcases h2 with⟨g,_⟩|⟨_,g2,g3⟩
     .rw[hk]at g;cases g
     .exact⟨g2,g3⟩
    .rcases h2 with⟨_,_,_,g⟩|⟨g,_⟩
     .exact g
     .rw[hk]at g;cases g
  obtain⟨k,y,l',A,B,rfl,h1,h4,SG,SH,SI⟩:=gen;obtain⟨q,Ms,JD⟩:=sameNow_of_keys (hK x kv hx) (hK k _ h1);have C5:=xG h1 hx
  cases q with
  |true=>
   have Pg:kv=e.key:=JD.1 rfl;have hq:gI K k x=true:=C5.2 Pg.symm;obtain rfl:=AP hq;refine .inr ⟨0,e,y,by simp[akk,Ms],rfl,Pg.symm,by simp[gN,hq],fun H' F' w' y' f A' hf hs hb hv hA=>?_,fun hn=>?_⟩
   .have rl:∀j,A' j->¬B j:=fun j hj hB=>hA j hj (h4.right j hB)
    refine⟨fun j=>A' j\/B j,?_,fun j hj=>hj.elim .inr fun hB=> .inl (h4.right j hB)⟩
    show fH H' F' w' K E r none (f e::es) (if gI K k k=true then(k,y')::l' else(k,y)::lY K l' k y') _
    rw[if_pos hq];exact⟨k,y',l',A',B,rfl,by rw[hf,h1,Pg],hv,(SI hq).keep hs (fun _ _ _ e=>by cases e) fun j hj=>hb j (h4.right j hj),qU.mk' rl⟩
   .subst hn;exact⟨A,B,SG rfl,h4,fun H' o ho=>⟨k,y,l',fun _=>False,B,rfl,h1, .inl ⟨hq,ho,fun _ h=>h,(SI hq).keep (Step.refl F w) (fun _ _ _ e=>by cases e) fun _ _=>rfl⟩,qU.none B⟩⟩
  |false=>
   have bN:¬e.key=kv:=fun q=>by have:=JD.2 q.symm;cases this
   have hq:gI K k x=false:=by
    cases hc:gI K k x with
    |false=>rfl
    |true=>exact absurd (C5.1 hc) bN
   obtain⟨dH,AQ⟩:=SH hq
   have mz:¬gI K k x=true:=by rw[hq];exact fun h=>by cases h
   rcases qz hK hx hh (i+1) AQ with⟨a1,a2,a3,a4,a5⟩|⟨j,e',z,a1,a2,a3,a4,a5,a6⟩
   .refine .inl ⟨by simp[akk,Ms,a1],by simp[gN,mz,a2],fun e' he'=>?_,fun H' F' w' y' e' A' he' hs hb hv hA=>?_,fun hn H' o=>?_⟩
    .rcases ajq.1 he' with rfl|he'
     .exact bN
     .exact a3 e' he'
    .obtain⟨S2,b1,b2⟩:=a4 H' F' w' y' e' A' he' hs (fun j hj=>hb j (h4.right j hj)) hv (fun j hj hB=>hA j hj (h4.right j hB))
     have rl:∀j,A j->¬S2 j:=fun j hj h2=>(b2 j h2).elim (h4.off j hj) fun Pp=>hA j Pp (h4.left j hj)
     refine⟨fun j=>A j\/S2 j,?_,fun j hj=>hj.elim (fun h=> .inl (h4.left j h)) fun h=>(b2 j h).imp (h4.right j) id⟩
     show fH H' F' w' K E r none (e::(es++[e'])) (if gI K k x=true then(k,y')::l' else(k,y)::lY K l' x y') _
     rw[if_neg mz];exact⟨k,y,_,A,S2,rfl,h1,dH.keep hs fun j hj=>hb j (h4.left j hj),b1,qU.mk' rl⟩
    .subst hn;exact⟨k,y,l',A,B,rfl,h1, .inr ⟨hq,dH,a5 rfl H' o⟩,h4⟩
   .refine .inr ⟨j+1,e',z,by simp[akk,Ms,a1];omega,by simpa using a2,a3,by simp[gN,mz,a4],fun H' F' w' y' f A' hf hs hb hv hA=>?_,fun hn=>?_⟩
    .obtain⟨S2,b1,b2⟩:=a5 H' F' w' y' f A' hf hs (fun j hj=>hb j (h4.right j hj)) hv (fun j hj hB=>hA j hj (h4.right j hB))
     have rl:∀j,A j->¬S2 j:=fun j hj h2=>(b2 j h2).elim (h4.off j hj) fun Pp=>hA j Pp (h4.left j hj)
     refine⟨fun j=>A j\/S2 j,?_,fun j hj=>hj.elim (fun h=> .inl (h4.left j h)) fun h=>(b2 j h).imp (h4.right j) id⟩
     show fH H' F' w' K E r none (e::es.modify j f) (if gI K k x=true then(k,y')::l' else(k,y)::lY K l' x y') _
     rw[if_neg mz];exact⟨k,y,_,A,S2,rfl,h1,dH.keep hs fun j hj=>hb j (h4.left j hj),b1,qU.mk' rl⟩
    .subst hn;obtain⟨A2,B2,c1,c2,c3⟩:=a6 rfl
     have rl:∀j,A j->¬B2 j:=fun j hj h2=>h4.off j hj (c2.right j h2)
     refine⟨A2,fun j=>A j\/B2 j,c1,⟨fun j=>?_,fun j hj h2=>?_⟩,fun H' o ho=>⟨k,y,l',A,B2,rfl,h1, .inr ⟨hq,dH,c3 H' o ho⟩,qU.mk' rl⟩⟩
     .rw[h4.all,c2.all]
      constructor<;>(intro h;rcases h with h|h|h<;>simp[h])
     .exact h2.elim (fun h=>h4.off j h (c2.left j hj)) (c2.off j hj)
theorem vn{a:K.den}{o:Nat}{u:Value}{y:List r.den}{A0:Nat->Prop}(hu:H.val o=some u)(hy:q8 F w E r u y A0):{es:List MapEntry}->{l:List (K.den×List r.den)}->{S:Nat->Prop}->(∀k,A0 k->¬S k)->fH H F w K E r (some (a,o)) es l S->
 ∃S2,(∀H',fH H' F w K E r none es (G9 K l a y) S2)/\∀k,S2 k->S k\/A0 k
 |[],l,S,_,h=>by
  obtain⟨rfl,hS⟩:=h;exact⟨S,fun _=>⟨rfl,hS⟩,fun k hk=> .inl hk⟩
 |e::es,l,S,hA,h=>by
  obtain⟨k,y0,l',A,B,rfl,h1,h2,h4⟩:=h
  rcases h2 with⟨g1,g2,g3,g4⟩|⟨g1,g2,g3⟩
  .rw[hu]at g2;obtain rfl:=ai4 g2;refine⟨fun j=>A0 j\/B j,fun H'=>?_,fun j hj=>hj.elim .inr fun h=> .inl (h4.right j h)⟩
   show fH H' F w K E r none (e::es) (if gI K k a=true then(k,y)::l' else(k,y0)::G9 K l' a y) _
   rw[if_pos g1];exact⟨k,y,l',A0,B,rfl,h1,hy,g4.keep (Step.refl F w) (fun _ _ _ e=>by cases e) (fun _ _=>rfl),qU.mk' fun j hj hB=>hA j hj (h4.right j hB)⟩
  .obtain⟨S2,b1,b2⟩:=vn hu hy (fun j hj hB=>hA j hj (h4.right j hB)) g3
   have rl:∀j,A j->¬S2 j:=fun j hj h2=>(b2 j h2).elim (h4.off j hj) fun Pp=>hA j Pp (h4.left j hj)
   refine⟨fun j=>A j\/S2 j,fun H'=>?_,fun j hj=>hj.elim (fun h=> .inl (h4.left j h)) fun h=>(b2 j h).imp (h4.right j) id⟩
   show fH H' F w K E r none (e::es) (if gI K k a=true then(k,y)::l' else(k,y0)::G9 K l' a y) _
   rw[if_neg (by rw[g1];exact fun h=>by cases h)];exact⟨k,y0,_,A,S2,rfl,h1,g2,b1 H',qU.mk' rl⟩
theorem AR:{es:List MapEntry}->{l:List (K.den×List r.den)}->{S:Nat->Prop}->fH H F w K E r none es l S->es.length=l.length/\∀i(h:i<l.length),∃(e:MapEntry)(A:Nat->Prop),es[i]? =some e/\nO K l[i].1=some e.key/\q8 F w E r e.val l[i].2 A/\∀k,A k->S k
 |[],l,S,h=>by obtain⟨rfl,_⟩:=h;exact⟨rfl,fun i h=>by simp at h⟩
 |e::es,l,S,h=>by
  obtain⟨k,y,l',A,B,rfl,h1,h2,h3,h4⟩:=h;obtain⟨g1,g2⟩:=AR h3;refine⟨by simp[g1],fun i hi=>?_⟩
  cases i with
  |zero=>exact⟨e,A,rfl,h1,h2,h4.left⟩
  |succ i=>
   obtain⟨e',A',q1,q2,q3,q4⟩:=g2 i (by simpa using hi);exact⟨e',A',by simpa only[List.getElem?_cons_succ]using q1,q2,q3,fun k hk=>h4.right k (q4 k hk)⟩
theorem vo(hs:au U H F w ob n){o s:Nat}{t0 t1 t2:Th}(cC:ob o=some (s,t0)){v:Value}(hv:H.val o=some v)(e1:t1.base=t1)(e2:t2.base=t2){u:Value}(k8:u.oneCell'=true){So A:Nat->Prop}
 (f1:∀k,fp So v t1 k->fp (H.sub s) v t0 k)(f2:∀k,fp A u t2 k->fp (H.sub s) v t0 k)(f12:∀k,fp So v t1 k->¬fp A u t2 k)
 (k1:∀H1,H.le H1->H1.val n=some u->il H1 F w So v t1)(k2:∀H1,H.le H1->il H1 F w A u t2){D:ak}{dv:Value}(kd:∀H1,H.le H1->H1.val n=some u->ai H1 F w D dv):
 kE H F w ob n {dst:=D,eat:=[o],make:=[(o,(n,t1)),(n,(n+1,t2))]} dv w:=by
 obtain⟨v1,uv,cc⟩:=hs.obj _ _ _ cC;rw[hv]at uv;obtain rfl:=ai4 uv;obtain⟨g1,g2⟩:=hs.fresh n (ai8 _) (by omega);obtain⟨g3,g4⟩:=hs.fresh (n+1) (by omega) (by omega)
 let H1:ao:=⟨fun m=>if m=n then some u else H.val m,fun m=>if m=n then some t1 else if m=n+1 then some t2 else H.con m,fun m=>if m=n then So else if m=n+1 then A else H.sub m⟩
 have hle:H.le H1:=by
  refine⟨fun o v ho=>?_,fun s t eB=>?_,fun s t eB=>?_⟩
  .have:o≠n:=fun e=>by rw[e,g1]at ho;cases ho
   simp[H1,this,ho]
  .have a1:s≠n:=fun e=>by rw[e,g2]at eB;cases eB
   have a2:s≠n+1:=fun e=>by rw[e,g4]at eB;cases eB
   simp[H1,a1,a2,eB]
  .have a1:s≠n:=fun e=>by rw[e,g2]at eB;cases eB
   have a2:s≠n+1:=fun e=>by rw[e,g4]at eB;cases eB
   simp[H1,a1,a2]
 have wI:H1.val n=some u:=by simp[H1]
 have kB:∀k,fp (H.sub s) v t0 k->cm H ob [o] k:=fun k hk=>⟨o,by simp,s,_,v,cC,hv,hk⟩
 have qa:H1.sub n=So:=by simp[H1]
 have Pk:H1.sub (n+1)=A:=by simp[H1]
 have two:∀{o' s' t'},find [(o,(n,t1)),(n,(n+1,t2))] o'=some (s',t')->(o'=o/\s'=n/\t'=t1)\/(o'=n/\s'=n+1/\t'=t2):=by
  intro o' s' t' hf;rw[aA]at hf;split at hf
  .rename_i e;simp only[ajg,aj3]at hf;exact .inl ⟨e.symm,hf.1.symm,hf.2.symm⟩
  .obtain⟨e1,e⟩:=bT hf;obtain⟨e2,e3⟩:=akx e;exact .inr ⟨e1,e2,e3⟩
 refine⟨H1,F,⟨hle,⟨rfl,rfl,rfl,ai8 _,fun _ _ _=>rfl⟩,fun _ h=>h,fun _ h=> .inl h,hs.lt⟩,fun m hm=>?_,kd H1 hle wI,⟨fun o' s' t hf=>?_,fun o1 o2 s1 s2 q1 q2 u1 u2 bN g1 g2 e1 e2 k hk dO=>?_⟩,fun o' iN=>?_⟩
 .have a1:m≠n:=by omega
  have a2:m≠n+1:=by omega
  simp[H1,a1,a2]
 .rcases two hf with⟨rfl,rfl,rfl⟩|⟨rfl,rfl,rfl⟩
  .refine⟨v,hle.val _ _ hv,cc.one,by rw[e1];simp[H1],by rw[qa];exact k1 H1 hle wI,fun k hk=>?_⟩;rw[qa]at hk;have:=f1 k hk;exact⟨cc.no k this,cc.lt k this, .inr (kB k this)⟩
  .refine⟨u,wI,k8,by rw[e2];simp[H1],by rw[Pk];exact k2 H1 hle,fun k hk=>?_⟩;rw[Pk]at hk;have:=f2 k hk;exact⟨cc.no k this,cc.lt k this, .inr (kB k this)⟩
 .rcases two g1 with⟨rfl,rfl,rfl⟩|⟨rfl,rfl,rfl⟩<;>rcases two g2 with⟨rfl,rfl,rfl⟩|⟨rfl,rfl,rfl⟩
  .exact bN rfl
  .rw[qa]at hk;rw[Pk]at dO;rw[wI]at e2;obtain rfl:=ai4 e2;rw[hle.val _ _ hv]at e1;obtain rfl:=ai4 e1;exact f12 k hk dO
  .rw[qa]at dO;rw[Pk]at hk;rw[wI]at e1;obtain rfl:=ai4 e1;rw[hle.val _ _ hv]at e2;obtain rfl:=ai4 e2;exact f12 k dO hk
  .exact bN rfl
 .obtain⟨y,hy⟩:=ajH.1 iN
  rcases two (s':=y.1) (t':=y.2) hy with⟨rfl,_⟩|⟨rfl,_⟩
  .exact .inl (by simp)
  .exact .inr (ai8 _)
def SJ(T:bc P)(t:TypeId):Option (Row×TypeId×Row):=
 match find T.und t with
 |some (.map kt vt)=>match find T.row kt with
  |some K=>match find T.und vt with
   |some (.slice e)=>match find T.row e with
    |some r=>some (K,e,r)
    |none=>none
   |_=>none
  |none=>none
 |_=>none
def lO(deep:Bool)(T:bc P)(n:Nat)(t:TypeId)(k:dN->Option R):Option R:=
 match(bif deep then SJ T t else none)with
 |some (K,e,r)=>k {dst:= .val false (.own n),make:=[(n,(n, .dmap t K e r [] none))]}
 |none=>np T n t k
theorem yT(deep:Bool)(T:bc P){t:TypeId}{k:dN->Option R}{q:R}(h:lO deep T n t k=some q)(hs:au U H F w ob n):
 ∃e,k e=some q/\cD P U H F w ρ ob n ⟨some d, .makeMap t none,ty,pos,aft,none⟩ e:=by
 unfold lO at h;split at h
 case h_2=>exact AI T h hs
 rename_i K e r _
 have bx:(execOp (ev ρ) ⟨some d, .makeMap t none,ty,pos,aft,none⟩).run P w= .ok (.value (.map (some w.heap.size))) (w.alloc (.map #[] 0)):=by
  simp[execOp,Instr.makeMap,ajI]
 refine⟨_,h,cd.val bx ?_⟩;have hf:=hs.fresh n (ai8 _) (by omega)
 let H1:ao:=((H.eU n (is w.heap.size)).bz n (.dmap t K e r [] none)).cq n (.map (some w.heap.size))
 have hle:H.le H1:=(ao.uA hf.2).trans (ao.po (by simpa[ao.bz,ao.eU]using hf.1))
 have hv:H1.val n=some (.map (some w.heap.size)):=by simp[H1,ao.cq]
 have fN:H1.sub n=is w.heap.size:=by simp[H1,ao.cq,ao.bz,ao.eU]
 refine⟨H1,F,⟨hle,pt _,fun _ h=>h,fun _ h=> .inl h,fun b hb=>by have:=hs.lt b hb;simp;omega⟩,fun m hm=>?_,mC hv rfl,⟨fun o' s' q hq=>?_,fun o1 o2 s1 s2 q1 q2 u1 u2 bN h1 h2=>?_⟩,fun o' h=>?_⟩
 .have:m≠n:=by omega
  simp[H1,ao.cq,ao.bz,ao.eU,this]
 .obtain⟨rfl,e⟩:=bT hq;obtain⟨rfl,rfl⟩:=akx e;refine⟨_,hv,rfl,by simp[H1,ao.cq,ao.bz,ao.eU,Th.base],?_,fun k hk=>?_⟩
  .rw[fN];exact⟨_, #[],0,fun _=>False,rfl,(heap_alloc w _).1,stamped_empty 0,⟨rfl,fun _ h=>h⟩,⟨fun k=>by simp,fun _ _ h=>h⟩,fun _ _ e=>by cases e⟩
  .rw[fN]at hk;have hk:k=w.heap.size:=hk;subst hk;exact⟨fun e=>by have:=hs.lt _ e;omega,by simp, .inl (ai8 _)⟩
 .exact absurd ((bT h1).1.trans (bT h2).1.symm) bN
 .right
  obtain⟨y,hy⟩:=ajH.1 h;rw[(bT hy).1];exact ai8 _
noncomputable def nu(T:bc P)(ob:Nat->Option (Nat×Th))(n:Nat)(t:TypeId)(ok:Bool)(M X:ak)(k:dN->Option R):Option R:=
 match M with
 | .val false (.own o)=>match ob o with
   |some (_, .dmap T0 K E r l none)=>match find T.und t with
    |some (.map kt vt)=>match find T.zer vt with
     |some (false, .slice _)=>bif vb T kt K&&ok then(match asKey ob K X with
      |some x=>k {dst:= .tup [(false, .own n),(false, .leaf .bool (gN K l x).isSome)],eat:=[o],make:=[(o,(n, .dmap T0 K E r l (some (x,n)))),(n,(n+1, .own E r ((gN K l x).getD [])))]}
      |none=>none)else none
     |_=>none
    |_=>none
   |_=>nV T ob t ok M X k
 |_=>nV T ob t ok M X k
theorem AS(T:bc P){t:TypeId}{ok:Bool}{M X:ak}{m x:Operand}{k:dN->Option R}{q:R}(h:nu T ob n t ok M X k=some q)(hs:au U H F w ob n)(hm:ai H F w M (ev ρ m))(hx:ai H F w X (ev ρ x)):
 ∃e,k e=some q/\cD P U H F w ρ ob n ⟨some d, .lookup t m x ok,ty,pos,aft,none⟩ e:=by
 unfold nu at h;split at h
 case h_2=>exact vc T h hs hm hx
 rename_i o;split at h
 case h_2=>exact vc T h hs hm hx
 rename_i s T0 K E r l cC;split at h
 case h_2=>cases h
 rename_i kt vt hu;split at h
 case h_2=>cases h
 rename_i re hz;obtain⟨hc,h'⟩:=aD h;clear h;obtain⟨Aq,uo⟩:=cO hc;subst uo;split at h'
 case h_2=>cases h'
 rename_i a ha;refine⟨_,h',?_⟩;obtain⟨dd,hd,hK,hR⟩:=rf (F:=F) (w:=w) T Aq;have sz:=hR _ _ (ri hs ha hx);have G0:=hK _ _ sz;have AJ:=T.und_ok _ _ hu
 have wW:(zeroValue vt).run P w= .ok (.slice none 0 0) w:=by
  obtain⟨z,wW,e⟩:=T.zer_ok _ _ _ hz
  cases hi:P.info? vt with
  |none=>rw[hi]at wW;cases wW
  |some ti=>
   rw[hi]at wW;have hz':ti.zero=some z:=wW;rw[cond_false]at e;have e':z= .slice none 0 0:=e;subst e';simp[zeroValue,typeInfo,hi,hz',ajI]
 obtain⟨cs,⟨v,hv,ab9,e⟩,_,h3⟩:=hm;rw[h3 rfl]at e
 obtain rfl:ev ρ m=v:=by simpa using e
 obtain⟨v',di,cc⟩:=hs.obj _ _ _ cC;rw[hv]at di;obtain rfl:=ai4 di;obtain⟨b,es,clock,B,Dr,hh,eB,GY,nv,_⟩:=cc.ok
 have tup:∀(H1:ao)(u:Value)(q:Bool),H1.val n=some u->u.oneCell'=true->ai H1 F w (.tup [(false, .own n),(false, .leaf .bool q)]) (.tuple #[u, .bool q]):=fun H1 u q hu h1=>
  ⟨[u, .bool q],rfl,_,_,rfl,⟨[u],⟨u,hu,h1,rfl⟩,rfl,fun _=>rfl⟩,_,_,rfl,aE.fT ..,rfl⟩
 rcases qz (H:=H) hK sz (h:=none) (fun _ _ e=>by cases e) 0 GY with⟨a1,a2,_,_,a5⟩|⟨j,e,y0,a1,_,_,a4,_,a6⟩
 .have bx:(execOp (ev ρ) ⟨some d, .lookup t m x true,ty,pos,aft,none⟩).run P w= .ok (.value (.tuple #[.slice none 0 0, .bool (gN K l a).isSome])) w:=by
   rw[a2];simp[execOp,Dr,Instr.lookup,run_underlying AJ,aks hh,ako hd G0,akt hd a1,wW,ajI]
  refine cd.val bx ?_;rw[a2]
  refine vo (t1:= .dmap T0 K E r l (some (a,n))) (t2:= .own E r []) (u:= .slice none 0 0) (So:=H.sub s) (A:=fun _=>False) hs cC hv rfl rfl rfl (fun k hk=>hk) (fun k hk=>?_) (fun k hk dO=>?_) (fun H1 hle wI=>?_) (fun H1 hle=>jG.nil F w E r) fun H1 hle wI=>tup H1 _ _ wI rfl
  .have dO:bm (.slice none 0 0) k:=hk;simp[bm,ajz]at dO
  .have dO:bm (.slice none 0 0) k:=dO;simp[bm,ajz]at dO
  .exact⟨b,es,clock,B,Dr,hh,eB,a5 rfl H1 n,nv,fun a' o' e'=>by cases e';exact⟨_,wI⟩⟩
 .rw[ajC]at a1;obtain⟨A,B2,c1,c2,c3⟩:=a6 rfl
  have bx:(execOp (ev ρ) ⟨some d, .lookup t m x true,ty,pos,aft,none⟩).run P w= .ok (.value (.tuple #[e.val, .bool (gN K l a).isSome])) w:=by
   rw[a4];simp[execOp,Dr,Instr.lookup,run_underlying AJ,aks hh,ako hd G0,akt hd a1,ajI]
  refine cd.val bx ?_;rw[a4]
  have My:∀k,A k->H.sub s k:=fun k hk=>nv.right k (c2.left k hk)
  refine vo (t1:= .dmap T0 K E r l (some (a,n))) (t2:= .own E r y0) (u:=e.val) (So:=fun k=>is b k\/B2 k) (A:=A) hs cC hv rfl rfl c1.1.one (fun k hk=>?_) (fun k hk=>?_) (fun k hk dO=>?_) (fun H1 hle wI=>?_) (fun H1 hle=>c1.1) fun H1 hle wI=>tup H1 _ _ wI c1.1.one
  .have hk:is b k\/B2 k:=hk
   exact hk.elim (nv.left k) fun h=>nv.right k (c2.right k h)
  .exact My k ((c1.2 k).2 hk)
  .have hk:is b k\/B2 k:=hk;have dO:A k:=(c1.2 k).2 dO;exact hk.elim (fun h=>nv.off k h (c2.left k dO)) (c2.off k dO)
  .exact⟨b,es,clock,B2,Dr,hh,eB,c3 H1 n wI,qU.mk' fun k h1 h2=>nv.off k h1 (c2.right k h2),fun a' o' e'=>by cases e';exact⟨_,wI⟩⟩
noncomputable def Oh(K:Row)(h:Option (K.den×Nat))(x:K.den):Bool:=
 match h with
 |none=>true
 |some p=>gI K p.1 x
noncomputable def jx(T:bc P)(ob:Nat->Option (Nat×Th))(n:Nat)(t:TypeId)(M X Y:ak)(k:dN->Option R):Option R:=
 match M with
 | .val false (.own o)=>match ob o with
   |some (_, .dmap T0 K E r l h)=>match find T.und t with
    |some (.map kt _)=>bif vb T kt K then(match asKey ob K X with
     |some x=>if Oh K h x=true then(match Y with
      | .val false .nil=>k {dst:= .dead,eat:=[o],make:=[(o,(n, .dmap T0 K E r (lY K l x []) none))]}
      | .val false (.own o1)=>match ob o1 with
        |some (_,t1)=>bif aje o1 o then none else(match Pm E (.leaf r) t1 with
         |some y=>k {dst:= .dead,eat:=[o,o1],make:=[(o,(n, .dmap T0 K E r (lY K l x y) none))]}
         |none=>none)
        |none=>none
      |_=>none)else none
     |none=>none)else none
    |_=>none
   |_=>jc T ob n t M X Y k
 |_=>jc T ob n t M X Y k
theorem vp(T:bc P){t:TypeId}{m x y:Operand}{o s:Nat}{T0:TypeId}{K:Row}{E:TypeId}{r:Row}{l:List (K.den×List r.den)}{h:Option (K.den×Nat)}{kt vt:TypeId}{a:K.den}{z:List r.den}{A:Nat->Prop}{eat:List Nat}
 (hs:au U H F w ob n)(cC:ob o=some (s, .dmap T0 K E r l h))(hv:H.val o=some (ev ρ m))(hu:find T.und t=some (.map kt vt))(hk:vb T kt K=true)(sz:cA F w K [ev ρ x] a)(hh:Oh K h a=true)(hy:q8 F w E r (ev ρ y) z A)
 (ho:o∈eat)(hA:∀k,A k->cm H ob eat k)(My:∀k,A k->¬H.sub s k):
 cD P U H F w ρ ob n ⟨none, .mapUpdate t m x y,ty,pos,aft,none⟩ {dst:= .dead,eat:=eat,make:=[(o,(n, .dmap T0 K E r (lY K l a z) none))]}:=by
 obtain⟨dd,hd,hK,hR⟩:=rf (F:=F) (w:=w) T hk;have hkv:=hR _ _ sz;obtain⟨v',di,cc⟩:=hs.obj _ _ _ cC;rw[hv]at di;obtain rfl:=ai4 di;obtain⟨b,es,clock,B,Dr,hb,eB,GY,nv,_⟩:=cc.ok;have hbF:¬F b:=cc.no b (nv.left b rfl);have hbB:¬B b:=nv.off b rfl
 have hbA:¬A b:=fun h=>My b h (nv.left b rfl)
 have ME:∀k,H.sub s k->cm H ob eat k:=fun k hk=>⟨o,ho,s,_,_,cC,hv,hk⟩
 have hax:∀a' o',h=some (a',o')->a'=a:=fun a' o' e=>by subst e;exact AP hh
 have fin:∀o',(akN t (.map (some b)) (ev ρ x) (ev ρ y)).run P w= .ok () {w with heap:=w.heap.setIfInBounds b o'}->
  (∀H' w',Step F w F w'->(∀k,B k->w'.heap[k]? =w.heap[k]?)->q8 F w' E r (ev ρ y) z A->∃mw mW S2,o'= .map mw mW/\Stamped mw mW/\fH H' F w' K E r none mw.toList (lY K l a z) S2/\∀k,S2 k->B k\/A k)->
  cD P U H F w ρ ob n ⟨none, .mapUpdate t m x y,ty,pos,aft,none⟩ {dst:= .dead,eat:=eat,make:=[(o,(n, .dmap T0 K E r (lY K l a z) none))]}:=by
  intro o' bx Ph;refine cd.unit (w':={w with heap:=w.heap.setIfInBounds b o'}) (by simp[execOp,Dr,bx,ajI]) ?_;have sA:∀k,k≠b->(w.heap.setIfInBounds b o')[k]? =w.heap[k]? :=(heap_set hb).2
  have kD:Step F w F {w with heap:=w.heap.setIfInBounds b o'}:=fun k hk=>⟨hk,sA k fun e=>hbF (e▸hk)⟩
  have Mz:∀{S:Nat->Prop},¬S b->∀k,S k->({w with heap:=w.heap.setIfInBounds b o'}:World).heap[k]? =w.heap[k]? :=fun hn k hk=>sA k fun e=>hn (e▸hk)
  obtain⟨mw,mW,S2,rfl,g1,g2,g3⟩:=Ph H {w with heap:=w.heap.setIfInBounds b o'} kD (Mz hbB) (hy.keep kD (Mz hbA))
  have Pq:¬S2 b:=fun h=>(g3 b h).elim hbB hbA
  refine lU.yM (t':= .dmap T0 K E r (lY K l a z) none) hs cC hv rfl ho (fun k=>is b k\/S2 k) (fun k hk=>?_) ⟨rfl,rfl,rfl,by simp,fun k hk hn=>sA k fun e=>hn (by subst e;exact ME _ (nv.left _ rfl))⟩ ⟨b,mw,mW,S2,Dr,(heap_set hb).1,g1,?_,qU.mk' fun k h1 h2=>Pq (by rw[<-show k=b from h1];exact h2),fun _ _ e=>by cases e⟩ trivial
  .have hk:is b k\/S2 k:=hk
   rcases hk with hk|hk
   .exact ME k (nv.left k hk)
   .exact(g3 k hk).elim (fun h=>ME k (nv.right k h)) (hA k)
  .exact g2.keep (Step.refl F _) (fun _ _ _ e=>by cases e) fun _ _=>rfl
 obtain⟨r1,r2⟩:=nq (val:=ev ρ y) (T.und_ok _ _ hu) hd hb (hK _ _ hkv)
 have hAB:∀k,A k->¬B k:=fun k hk hB=>My k hk (nv.right k hB)
 rcases qz (H:=H) hK hkv hax 0 GY with⟨a1,a2,a3,a4,_⟩|⟨j,e,z0,a1,a2,a3,a4,a5,_⟩
 .refine fin _ (r1 a1) fun H' w' JO hB Ds=>?_
  obtain⟨S2,b1,b2⟩:=a4 H' F w' z {key:=ev ρ x,val:=ev ρ y,born:=clock} A rfl JO hB Ds hAB;exact⟨_,_,S2,rfl,stamped_push eB a3,by rw[Array.toList_push];exact b1,b2⟩
 .rw[ajC]at a1
  have hj:es[j]? =some e:=by simpa using a2
  refine fin _ (r2 j _ a1 (by rw[hj];exact a3)) fun H' w' JO hB Ds=>?_
  obtain⟨S2,b1,b2⟩:=a5 H' F w' z (fun e=>{e with key:=ev ρ x,val:=ev ρ y}) A rfl JO hB Ds hAB;refine⟨_,_,S2,rfl,stamped_modify eB _ _ (fun _ _=>rfl) (fun e' _ he'=>?_),by rw[Array.toList_modify];exact b1,b2⟩;rw[hj]at he';cases he';exact a3.symm
theorem vq(T:bc P){t:TypeId}{M X Y:ak}{m x y:Operand}{k:dN->Option R}{q:R}(h:jx T ob n t M X Y k=some q)(hs:au U H F w ob n)(hm:ai H F w M (ev ρ m))(hx:ai H F w X (ev ρ x))(hy:ai H F w Y (ev ρ y)):
 ∃e,k e=some q/\cD P U H F w ρ ob n ⟨none, .mapUpdate t m x y,ty,pos,aft,none⟩ e:=by
 unfold jx at h;split at h
 case h_2=>exact p9 T h hs hm hx hy
 rename_i o;split at h
 case h_2=>exact p9 T h hs hm hx hy
 rename_i s T0 K E r l hh cC;split at h
 case h_2=>cases h
 rename_i kt vt hu;obtain⟨hk,h'⟩:=aD h;clear h;split at h'
 case h_2=>cases h'
 rename_i a ha;split at h'
 case isFalse=>cases h'
 rename_i tD;obtain⟨cs,⟨v,hv,_,e⟩,_,h3⟩:=hm;rw[h3 rfl]at e
 obtain rfl:ev ρ m=v:=by simpa using e
 have sz:=ri hs ha hx;split at h'
 .refine⟨_,h',vp (A:=fun _=>False) T hs cC hv hu hk sz tD ?_ (by simp) (fun _ h=>h.elim) fun _ h=>h.elim⟩;obtain⟨cs,h1,_,h3⟩:=hy;rw[h3 rfl]at h1;have tB:[ev ρ y]=[Value.slice none 0 0]:=h1;rw[show ev ρ y= .slice none 0 0 by simpa using tB];exact⟨jG.nil F w E r,fun k=>by simp[bm,ajz]⟩
 .rename_i o1;split at h'
  case h_2=>cases h'
  rename_i s1 t1 oG
  cases bN:aje o1 o with
  |true=>rw[bN]at h';cases h'
  |false=>
   rw[bN,cond_false]at h'
   have bN:o≠o1:=fun e=>by rw[e]at bN;simp at bN
   split at h'
   case h_2=>cases h'
   rename_i z hD;obtain rfl:=vi hD;obtain⟨cs,⟨u,CH,_,e⟩,_,h3⟩:=hy;rw[h3 rfl]at e
   obtain rfl:ev ρ y=u:=by simpa using e
   obtain⟨u',AJ,lZ⟩:=hs.obj _ _ _ oG;rw[CH]at AJ;obtain rfl:=ai4 AJ;exact⟨_,h',vp (A:=bm (ev ρ y)) T hs cC hv hu hk sz tD ⟨lZ.ok,fun _=>Iff.rfl⟩ (by simp) (fun k hk=>⟨o1,by simp,s1,_,_,oG,CH,hk⟩) fun k hk h2=>hs.apart _ _ _ _ _ _ _ _ bN cC oG hv CH k h2 hk⟩
 .cases h'
noncomputable def JP(ob:Nat->Option (Nat×Th))(n o:Nat):Option dN:=
 match ob o with
 |some (_, .dmap T0 K E r l (some (a,o1)))=>match ob o1 with
  |some (_,t1)=>bif aje o1 o then none else(match Pm E (.leaf r) t1 with
   |some y=>some {dst:= .dead,eat:=[o,o1],make:=[(o,(n, .dmap T0 K E r (G9 K l a y) none))]}
   |none=>none)
  |none=>none
 |_=>none
theorem Dt(hs:au U H F w ob n){o:Nat}{e:dN}(h:JP ob n o=some e):kE H F w ob n e undef w:=by
 unfold JP at h;split at h
 case h_2=>cases h
 rename_i s T0 K E r l a o1 cC;split at h
 case h_2=>cases h
 rename_i s1 t1 oG
 cases bN:aje o1 o with
 |true=>rw[bN]at h;cases h
 |false=>
  rw[bN,cond_false]at h
  have bN:o≠o1:=fun e=>by rw[e]at bN;simp at bN
  split at h
  case h_2=>cases h
  rename_i y hD;obtain rfl:=ai4 h;obtain rfl:=vi hD;obtain⟨v,hv,cc⟩:=hs.obj _ _ _ cC;obtain⟨u,hu,lZ⟩:=hs.obj _ _ _ oG;obtain⟨b,es,clock,B,Dr,hh,eB,GY,nv,_⟩:=cc.ok
  have hA:∀k,bm u k->¬H.sub s k:=fun k hk h2=>hs.apart _ _ _ _ _ _ _ _ bN cC oG hv hu k h2 hk
  obtain⟨S2,b1,b2⟩:=vn (A0:=bm u) hu ⟨lZ.ok,fun _=>Iff.rfl⟩ (fun k hk hB=>hA k hk (nv.right k hB)) GY
  have Pq:¬S2 b:=fun h=>(b2 b h).elim (nv.off b rfl) fun h=>hA b h (nv.left b rfl)
  refine lU.yM (t':= .dmap T0 K E r (G9 K l a y) none) hs cC hv rfl (by simp) (fun k=>is b k\/S2 k) (fun k hk=>?_) ⟨rfl,rfl,rfl,ai8 _,fun _ _ _=>rfl⟩ ⟨b,es,clock,S2,Dr,hh,eB,b1 _,qU.mk' fun k h1 h2=>Pq (by rw[<-show k=b from h1];exact h2),fun _ _ e=>by cases e⟩ trivial;have hk:is b k\/S2 k:=hk
  have ME:∀k,H.sub s k->cm H ob [o,o1] k:=fun k hk=>⟨o,by simp,s,_,_,cC,hv,hk⟩
  rcases hk with hk|hk
  .exact ME k (nv.left k hk)
  .exact(b2 k hk).elim (fun h=>ME k (nv.right k h)) fun h=>⟨o1,by simp,s1,_,_,oG,hu,h⟩
noncomputable def JQ(ob:Nat->Option (Nat×Th))(n o:Nat):Option dN:=
 match JN ob n o with
 |some e=>some e
 |none=>JP ob n o
theorem Du(hs:au U H F w ob n){o:Nat}{e:dN}(h:JQ ob n o=some e):kE H F w ob n e undef w:=by
 unfold JQ at h;split at h
 .rename_i e' he;cases h;exact G5 hs he
 .exact Dt hs h
theorem DR.sE:(d:DR)->d.low.eA=d.row.eA
 | .leaf _=>rfl
 | .sl _ _=>rfl
 | .pair a b=>by show a.low.eA++b.low.eA=a.row.eA++b.row.eA;rw[a.sE,b.sE]
theorem JR{α β:Type}{l m out:List α}{lx ly:List β}(h:bR l m=some out)(h1:lx.length=l.length)(h2:ly.length=m.length):bR lx ly=some (lx++ly)/\out=l++m:=by
 unfold bR at h⊢;split at h
 case isFalse=>cases h
 rename_i hle;exact⟨by rw[if_pos (by omega)],(ai4 h).symm⟩
theorem tF(T:bc P){t e:TypeId}{r:Row}(hu:find T.und t=some (.slice e))(hr:find T.row e=some r){dr:DR}(jJ:dr.row=r){x y:Operand}{l m out:List dr.row.den}{Sx:Nat->Prop}{eat:List Nat}{o2 s2:Nat}
 (hs:au U H F w ob n)(hx:Gz F w e dr.low (fun _=>jH F w dr) (ev ρ x) l Sx)(Wg:∀k,Sx k->¬F k)(hxe:∀k,Sx k->cm H ob eat k)(Ji:∀k,Sx k->k<w.heap.size)
 (ud:ob o2=some (s2, .deep e dr m none))(tA:H.val o2=some (ev ρ y))(ho2:o2∈eat)(rl:∀k,Sx k->¬H.sub s2 k)(ha:bR l m=some out):
 cD P U H F w ρ ob n ⟨some d, .call {callee:= .builtin .append,args:= #[x,y],argTypes:= #[t,t]},ty,pos,aft,none⟩ {dst:= .val false (.own n),eat:=eat,make:=[(n,(n, .deep e dr out none))]}:=by
 obtain⟨lx,Va,Mt,Sc,hrx,AT⟩:=hx;obtain⟨ly,Sy,hoy,U3,hry,Pr⟩:=hs.low ud tA;obtain⟨v2,Gv,MF⟩:=hs.obj _ _ _ ud;rw[tA]at Gv;obtain rfl:=ai4 Gv;obtain⟨Ps,rfl⟩:=JR ha Sc U3;obtain⟨ti,z,h1,h2,h3,h4,h5⟩:=T.row_ok _ _ hr;have ht:=T.und_ok _ _ hu;subst jJ;obtain⟨v',w',bx,bI,fQ,hm⟩:=uM ty ht h1 h2 (h3.trans dr.sE.symm) (h4.trans dr.size.symm) h5 (base:=0) (l:=lx) ⟨fun k hk=>Wg k (AT.bm k hk),Mt⟩ hoy.reads Ps hs.lt (ajt _)
 have eB:Step F w F w':=Step.ext bI hs.lt fun k hk=>Wg k (AT.bm k hk)
 have SK:∀k,H.sub s2 k->cm H ob eat k:=fun k hk=>⟨o2,ho2,s2,_,_,ud,tA,hk⟩
 have SL:∀i,i<l.length->∀k,Va i k->w'.heap[k]? =w.heap[k]? :=fun i hi k hk=>bI.block k (Ji k (AT.part hi k hk)) (AT.out i k hi hk)
 have SM:∀i,i<m.length->∀k,Sy i k->w'.heap[k]? =w.heap[k]? :=fun i hi k hk=>bI.block k (MF.lt k (Pr.part hi k hk)) fun AU=>rl k (AT.bm k AU) (Pr.part hi k hk)
 have hlen:(l++m).length=l.length+m.length:=ai6
 have Dr:∀k,bm v' k->(Sx k/\bm (ev ρ x) k)\/k=w.heap.size:=by
  intro k hk
  rcases hm with g|g
  .rw[g]at hk;exact .inl ⟨AT.bm k hk,hk⟩
  .rw[g]at hk;exact .inr hk.symm
 let SS:Nat->Nat->Prop:=fun i=>if i<l.length then Va i else Sy (i-l.length)
 have RH:∀i k,i<l.length->SS i k->Va i k:=fun i k hi hk=>by simpa only[SS,if_pos hi]using hk
 have RJ:∀i k,¬i<l.length->SS i k->Sy (i-l.length) k:=fun i k hi hk=>by simpa only[SS,if_neg hi]using hk
 have hSS:∀i k,i<(l++m).length->SS i k->Sx k\/H.sub s2 k:=by
  intro i k hi hk;by_cases al:i<l.length
  .exact .inl (AT.part al k (RH i k al hk))
  .exact .inr (Pr.part (by omega) k (RJ i k al hk))
 have k8:v'.oneCell'=true:=jG.one (T:=e) (r:=dr.low) fQ.2;refine cd.val (v:=v') (w':=w') (by simp[execOp,resolve,invoke,builtin,bx]) (lU.Po (t:= .deep e dr (l++m) none) (S:=qw (bm v') SS (l++m).length) hs rfl k8 ⟨bI.os,bI.tape,bI.output,bI.size,fun k hk hn=>bI.block k hk fun Sd=>hn (hxe k (AT.bm k Sd))⟩ ?_ (fun k hk=>?_) (mC (o:=n) (v:=v') (by simp[ao.cq]) k8))
 .refine⟨lx++ly,SS,fQ.2,by simp[Sc,U3],fun i a b=>?_,⟨fun k=>Iff.rfl,fun i j k hi hj bN hk dO=>?_,fun i k hi hk Sd=>?_⟩⟩
  .show jH F w' dr (lx++ly)[i] (l++m)[i] (SS i)
   by_cases al:i<l.length
   .have e1:(lx++ly)[i]=lx[i]'(by omega):=ajf (by omega);have e2:(l++m)[i]=l[i]:=ajf al
    have e3:SS i=Va i:=by simp only[SS,if_pos al]
    rw[e1,e2,e3];exact jH.keep eB (hrx i (by omega) al) (SL i al)
   .have e1:(lx++ly)[i]=ly[i-l.length]'(by simp at a;omega):=by rw[ajn (by omega)];simp only[Sc]
    have e2:(l++m)[i]=m[i-l.length]'(by omega):=ajn (by omega)
    have e3:SS i=Sy (i-l.length):=by simp only[SS,if_neg al]
    rw[e1,e2,e3];exact jH.keep eB (hry (i-l.length) _ (by omega)) (SM _ (by omega))
  .by_cases h1:i<l.length<;>by_cases h2:j<l.length
   .exact AT.two i j k h1 h2 bN (RH i k h1 hk) (RH j k h2 dO)
   .exact rl k (AT.part h1 k (RH i k h1 hk)) (Pr.part (by omega) k (RJ j k h2 dO))
   .exact rl k (AT.part h2 k (RH j k h2 dO)) (Pr.part (by omega) k (RJ i k h1 hk))
   .exact Pr.two (i-l.length) (j-l.length) k (by omega) (by omega) (by omega) (RJ i k h1 hk) (RJ j k h2 dO)
  .rcases Dr k Sd with⟨g1,g2⟩|g
   .by_cases h1:i<l.length
    .exact AT.out i k h1 (RH i k h1 hk) g2
    .exact rl k g1 (Pr.part (by omega) k (RJ i k h1 hk))
   .rcases hSS i k hi hk with h1|h1
    .have:=Ji k h1;omega
    .have:=MF.lt k h1;omega
 .have hk:qw (bm v') SS (l++m).length k:=hk
  have fin:Sx k\/H.sub s2 k->¬F k/\k<w'.heap.size/\(w.heap.size<=k\/cm H ob eat k):=by
   rintro(h1|h1)
   .exact⟨Wg k h1,ajJ (Ji k h1) bI.size, .inr (hxe k h1)⟩
   .exact⟨MF.no k h1,ajJ (MF.lt k h1) bI.size, .inr (SK k h1)⟩
  rcases hk with hk|⟨i,hi,hk⟩
  .rcases Dr k hk with⟨g,_⟩|g
   .exact fin (.inl g)
   .exact⟨fun e=>by have:=hs.lt k e;omega,fQ.lt k hk, .inl (by omega)⟩
  .exact fin (hSS i k hi hk)
def rm(T:bc P)(ob:Nat->Option (Nat×Th))(n:Nat)(t:TypeId)(X Y:ak)(k:dN->Option R):Option R:=
 match find T.und t with
 |some (.slice e)=>match find T.row e with
  |some r=>match Y with
   | .val false (.own o2)=>match ob o2 with
     |some (_, .deep T2 d2 m none)=>bif aje T2 e&&d2.row.beq r then(match X with
      | .val false .nil=>(bR ([]:List d2.row.den) m).bind fun l=>k {dst:= .val false (.own n),eat:=[o2],make:=[(n,(n, .deep e d2 l none))]}
      | .val false (.own o1)=>match ob o1 with
        |some (_, .deep T1 d1 l0 none)=>bif aje o1 o2 then none else bif aje T1 e then(if h:d1.beq d2=true then(bR (DR.eq_of_beq h▸l0) m).bind fun l=>k {dst:= .val false (.own n),eat:=[o1,o2],make:=[(n,(n, .deep e d2 l none))]}else none)else none
        |_=>none
      |_=>none)else none
     |_=>none
   |_=>none
  |none=>none
 |_=>none
theorem AV(T:bc P){t:TypeId}{X Y:ak}{x y:Operand}{k:dN->Option R}{q:R}(h:rm T ob n t X Y k=some q)(hs:au U H F w ob n)(hx:ai H F w X (ev ρ x))(hy:ai H F w Y (ev ρ y)):
 ∃e,k e=some q/\cD P U H F w ρ ob n ⟨some d, .call {callee:= .builtin .append,args:= #[x,y],argTypes:= #[t,t]},ty,pos,aft,none⟩ e:=by
 unfold rm at h;split at h
 case h_2=>cases h
 rename_i e hu;split at h
 case h_2=>cases h
 rename_i r hr;split at h
 case h_2=>cases h
 rename_i o2;split at h
 case h_2=>cases h
 rename_i s2 T2 d2 m ud;obtain⟨hc,h'⟩:=aD h;clear h;obtain⟨Aq,uo⟩:=cO hc;obtain rfl:=beq_true Aq;have jJ:=Row.eq_of_beq uo;obtain⟨cs,⟨u,Ml,_,e2⟩,_,h3⟩:=hy;rw[h3 rfl]at e2
 obtain rfl:ev ρ y=u:=by simpa using e2
 split at h'
 .obtain⟨l,hl,hk⟩:=bind_some h';refine⟨_,hk,tF (Sx:=fun _=>False) T hu hr jJ hs ?_ (fun _ h=>h.elim) (fun _ h=>h.elim) (fun _ h=>h.elim) ud Ml (by simp) (fun _ h=>h.elim) hl⟩;obtain⟨cs,h1,_,h4⟩:=hx;rw[h4 rfl]at h1;have tB:[ev ρ x]=[Value.slice none 0 0]:=h1;rw[show ev ρ x= .slice none 0 0 by simpa using tB];exact⟨[],fun _ _=>False,jG.nil F w T2 d2.low,rfl,fun i h=>absurd h (by simp),⟨fun k=>by simp[bm,ajz],fun _ _ _ h=>absurd h (by simp),fun _ _ h=>absurd h (by simp)⟩⟩
 .rename_i o1;split at h'
  case h_2=>cases h'
  rename_i s1 T1 d1 l0 oG
  cases bN:aje o1 o2 with
  |true=>rw[bN]at h';cases h'
  |false=>
   rw[bN,cond_false]at h'
   have bN:o1≠o2:=fun e=>by rw[e]at bN;simp at bN
   obtain⟨hT,h⟩:=aD h';clear h';obtain rfl:=beq_true hT;split at h
   case isFalse=>cases h
   rename_i hb;obtain rfl:=DR.eq_of_beq hb;obtain⟨l,hl,hk⟩:=bind_some h;obtain⟨cs,⟨v,uv,_,e1⟩,_,h4⟩:=hx;rw[h4 rfl]at e1
   obtain rfl:ev ρ x=v:=by simpa using e1
   obtain⟨v',di,lZ⟩:=hs.obj _ _ _ oG;rw[uv]at di;obtain rfl:=ai4 di;exact⟨_,hk,tF (Sx:=H.sub s1) T hu hr jJ hs lZ.ok lZ.no (fun k hk=>⟨o1,by simp,s1,_,_,oG,uv,hk⟩) lZ.lt ud Ml (by simp) (fun k hk=>hs.apart _ _ _ _ _ _ _ _ bN oG ud uv Ml k hk) hl⟩
 .cases h'
def JT(ob:Nat->Option (Nat×Th)):ak->Bool
 | .val false (.own o)=>match ob o with
   |some (_, .deep ..)=>true
   |_=>false
 |_=>false
def nw(T:bc P)(ob:Nat->Option (Nat×Th))(n:Nat)(t:TypeId)(X Y:ak)(k:dN->Option R):Option R:=
 bif JT ob Y then rm T ob n t X Y k else pu T ob n t X Y k
theorem AW(T:bc P){t:TypeId}{X Y:ak}{x y:Operand}{k:dN->Option R}{q:R}(h:nw T ob n t X Y k=some q)(hs:au U H F w ob n)(hx:ai H F w X (ev ρ x))(hy:ai H F w Y (ev ρ y)):
 ∃e,k e=some q/\cD P U H F w ρ ob n ⟨some d, .call {callee:= .builtin .append,args:= #[x,y],argTypes:= #[t,t]},ty,pos,aft,none⟩ e:=by
 unfold nw at h
 cases hb:JT ob Y with
 |true=>rw[hb,cond_true]at h;exact AV T h hs hx hy
 |false=>rw[hb,cond_false]at h;exact Db T h hs hx hy
end
end Go.Proofs.YtilaieogabgamaaGreatDoor
end
section
open _root_.List renaming append_assoc->ajr,length_cons->ajk
open _root_.Nat renaming beq->aje,blt->ajX,eq_of_beq_eq_true->ajT,le_refl->ai8
open _root_.Option renaming none_or->akc
open _root_.Option.some renaming inj->ai4,injEq->ajg
open _root_.Prod.mk renaming injEq->aj3
open _root_.Go.Value renaming ownBlock->ajz
namespace Go.Proofs.YtilaieogabgamaaGreatDoor
open Go Go.RowKit
def eC(objs:List (Nat×(Nat×Th))):List Nat->Option (List (Nat×(Nat×Th)))
 |[]=>some objs
 |o::os=>match find objs o with
  |some (s, .own T r l)=>eC ((o,(s, .sf T r l))::del [o] objs) os
  |some (s, .map T K agg V l)=>eC ((o,(s, .fmap T K agg V l))::del [o] objs) os
  |some (s, .deep T d l none)=>eC ((o,(s, .fdeep T d l))::del [o] objs) os
  |some (s, .dmap T K E r l none)=>eC ((o,(s, .fdmap T K E r l))::del [o] objs) os
  |some (_, .sf ..)=>eC objs os
  |some (_, .fmap ..)=>eC objs os
  |some (_, .fdeep ..)=>eC objs os
  |some (_, .fdmap ..)=>eC objs os
  |_=>none
def dP:Th->Bool
 | .sf .. =>true
 | .fmap .. =>true
 | .fdeep .. =>true
 | .fdmap .. =>true
 |_=>false
structure RM(t t':Th):Prop where
 froz:dP t'=true
 base:t'.base=t.base
 fp:∀S v k,¬fp S v t' k
 ok:∀{H:ao}{F:Nat->Prop}{w:World}{S:Nat->Prop}{v:Value},(∀k,Go.Proofs.YtilaieogabgamaaGreatDoor.fp S v t k->¬F k)->il H F w S v t->il H (fun b=>F b\/Go.Proofs.YtilaieogabgamaaGreatDoor.fp S v t b) w S v t'
structure cz(H:ao)(F:Nat->Prop)(w:World)(H':ao)(F':Nat->Prop)(w':World):Prop where
 iM:H.le H'
 step:Step F w F' w'
theorem cz.refl(H:ao)(F:Nat->Prop)(w:World):cz H F w H F w:=⟨ao.le.refl H,Step.refl F w⟩
theorem cz.trans{H H' si:ao}{F F' AX:Nat->Prop}{w w' tC:World}(h:cz H F w H' F' w')(k:cz H' F' w' si AX tC):cz H F w si AX tC:=⟨h.iM.trans k.iM,h.step.trans k.step⟩
structure JU(G:Nat->Prop)(w0:World)(F0:Nat->Prop)(w:World)(F:Nat->Prop):Prop where
 ext:Ext G w0 w
 le:∀b,F0 b->F b
 new:∀b,F b->F0 b\/w0.heap.size<=b\/G b
section
variable {U:Nat->Prop} {H:ao} {F:Nat->Prop} {w:World} {n:Nat}
theorem MG(T:TypeId)(r:Row)(l:List r.den):RM (.own T r l) (.sf T r l) where
 froz:=rfl
 base:=rfl
 fp _ _ _ h:=h
 ok hn h:=iE.freeze (base:=0) (T:=T) (l:=l) ⟨hn,h⟩
theorem MH(T:TypeId)(K:Row)(agg:Bool)(V:Row)(l:List (K.den×V.den)):RM (.map T K agg V l) (.fmap T K agg V l) where
 froz:=rfl
 base:=rfl
 fp _ _ _ h:=h
 ok {H F w S v} _ h:=by
  obtain⟨b,es,clock,h1,h2,h3,h4⟩:=h;obtain⟨g1,g2⟩:=E4 h4;refine⟨v,rfl, .inr ⟨b,es,clock,h1, .inr h1,h2,h3,by simpa using g1,fun i hi=>?_⟩⟩;obtain⟨e,cs,q1,q2,q3,q4,q5⟩:=g2 i hi;exact⟨e,cs,by simpa using q1,q2,q3.step (Step.freeze F w _),q4,q5⟩
theorem jG.jJ{F:Nat->Prop}{w:World}{T:TypeId}{r:Row}{v:Value}{l:List r.den}(h:jG F w T r v l):cA F w .jJ [v] v:=by
 obtain⟨xs,⟨_,h⟩,_⟩:=h
 rcases h with⟨rfl,_⟩|⟨gg,o0,cap,cur,rfl,_⟩<;>exact⟨rfl,_,_,_,rfl⟩
theorem JV(T:TypeId)(d:DR)(l:List d.row.den):RM (.deep T d l none) (.fdeep T d l) where
 froz:=rfl
 base:=rfl
 fp _ _ _ h:=h
 ok {H F w S v} hn h:=by
  have h':jH F w (.sl T d) v l S:=h;obtain⟨lh,Ss,h1,_⟩:=h;exact jH.freeze h' hn h1.jJ
theorem JW(T:TypeId)(K:Row)(E:TypeId)(r:Row)(l:List (K.den×List r.den)):RM (.dmap T K E r l none) (.fdmap T K E r l) where
 froz:=rfl
 base:=rfl
 fp _ _ _ h:=h
 ok {H F w S v} hn h:=by
  obtain⟨b,es,clock,B,h1,h2,h3,h4,h5,_⟩:=h;obtain⟨g1,g2⟩:=AR h4;refine⟨v,rfl, .inr ⟨b,es,clock,h1, .inr (h5.left b rfl),h2,h3,by simpa using g1,fun i hi=>?_⟩⟩;obtain⟨e,A,q1,q2,q3,q4⟩:=g2 i hi
  have My:∀k,A k->S k:=fun k hk=>h5.right k (q4 k hk)
  have hf:=iE.freeze (base:=0) (T:=E) (l:=l[i].2) ⟨fun k hk=>hn k (My k ((q3.2 k).2 hk)),q3.1⟩;exact⟨e,[e.val],by simpa using q1,q2,hf.step (r:= .slice r) fun k hk=>⟨hk.imp id fun h=>My k ((q3.2 k).2 h),rfl⟩,rfl,fun _=>rfl⟩
theorem MI{objs:List (Nat×(Nat×Th))}{o s:Nat}{t0 t1:Th}(hf:RM t0 t1)(hs:au U H F w (find objs) n)(ho:find objs o=some (s,t0)):
 ∃F',au U H F' w (find ((o,(s,t1))::del [o] objs)) n/\(∀b,F b->F' b)/\(∀b,F' b->F b\/∃v,H.val o=some v/\fp (H.sub s) v t0 b):=by
 obtain⟨v,hv,cc⟩:=hs.obj _ _ _ ho;refine⟨fun b=>F b\/fp (H.sub s) v t0 b,?_,fun _ h=> .inl h,fun b hb=>hb.imp id fun hm=>⟨v,hv,hm⟩⟩
 have part:∀o' s' t',find ((o,(s,t1))::del [o] objs) o'=some (s',t')->(o'=o/\s'=s/\t'=t1)\/(o'≠o/\find objs o'=some (s',t')):=by
  intro o' s' t' h;rw[aA]at h;split at h
  .rename_i e;simp only[ajg,aj3]at h;exact .inl ⟨e.symm,h.1.symm,h.2.symm⟩
  .rename_i e;exact .inr ⟨fun e'=>e e'.symm,(gH.1 h).2⟩
 have fz:Step F w (fun b=>F b\/fp (H.sub s) v t0 b) w:=Step.freeze F w _;refine⟨fun o' s' t' h=>?_,fun o1 o2 s1 s2 t1' t2 v1 v2 bN h1 h2 e1 e2 k hk dO=>?_,hs.fresh,fun b hb=>hb.elim (hs.lt b) (cc.lt b),hs.new,hs.gl.step fz⟩
 .rcases part o' s' t' h with⟨rfl,rfl,rfl⟩|⟨bN,h'⟩
  .exact⟨v,hv,cc.one,by rw[hf.base];exact cc.con,hf.ok cc.no cc.ok,fun k hk=>(hf.fp _ _ _ hk).elim,fun k hk=>(hf.fp _ _ _ hk).elim,fun k hk=>(hf.fp _ _ _ hk).elim⟩
  .obtain⟨v',di,AY⟩:=hs.obj _ _ _ h';refine⟨v',di,AY.one,AY.con,AY.ok.heap (ao.le.refl H) fz fun _ _=>rfl,fun k hk hF=>?_,AY.lt,AY.use⟩
   rcases hF with hF|hF
   .exact AY.no k hk hF
   .exact hs.apart _ _ _ _ _ _ _ _ bN h' ho di hv k hk hF
 .rcases part o1 s1 t1' h1 with⟨rfl,rfl,rfl⟩|⟨ad3,tB⟩
  .exact hf.fp _ _ _ hk
  .rcases part o2 s2 t2 h2 with⟨rfl,rfl,rfl⟩|⟨ad4,Jm⟩
   .exact hf.fp _ _ _ dO
   .exact hs.apart _ _ _ _ _ _ _ _ bN tB Jm e1 e2 k hk dO
theorem nx:{os:List Nat}->{F:Nat->Prop}->{objs mD:List (Nat×(Nat×Th))}->eC objs os=some mD->au U H F w (find objs) n->
 ∃F',au U H F' w (find mD) n/\(∀b,F b->F' b)/\(∀b,F' b->F b\/cm H (find objs) os b)
 |[],F,objs,mD,h,hs=>by obtain rfl:=ai4 h;exact⟨F,hs,fun _ h=>h,fun _ h=> .inl h⟩
 |o::os,F,objs,mD,h,hs=>by
  have main:∀s t t',RM t t'->find objs o=some (s,t)->eC ((o,(s,t'))::del [o] objs) os=some mD->
   ∃F',au U H F' w (find mD) n/\(∀b,F b->F' b)/\(∀b,F' b->F b\/cm H (find objs) (o::os) b):=by
   intro s t t' hf ho h;obtain⟨F1,a1,a2,a3⟩:=MI hf hs ho;obtain⟨F2,b1,b2,b3⟩:=nx h a1;refine⟨F2,b1,fun b hb=>b2 b (a2 b hb),fun b hb=>?_⟩
   rcases b3 b hb with h1|⟨o',iN,s',t',v,h1,h2,h3⟩
   .rcases a3 b h1 with h2|⟨v,hv,hm⟩
    .exact .inl h2
    .exact .inr ⟨o,by simp,s,_,v,ho,hv,hm⟩
   .rw[aA]at h1;split at h1
    .simp only[ajg,aj3]at h1;rw[<-h1.2]at h3;exact(hf.fp _ _ _ h3).elim
    .exact .inr ⟨o',by simp[iN],s',t',v,(gH.1 h1).2,h2,h3⟩
  have same:eC objs os=some mD->∃F',au U H F' w (find mD) n/\(∀b,F b->F' b)/\(∀b,F' b->F b\/cm H (find objs) (o::os) b):=by
   intro h;obtain⟨F2,b1,b2,b3⟩:=nx h hs;exact⟨F2,b1,b2,fun b hb=>(b3 b hb).imp id fun⟨o',iN,rest⟩=>⟨o',by simp[iN],rest⟩⟩
  unfold eC at h;split at h
  .rename_i ho;exact main _ _ _ (MG ..) ho h
  .rename_i ho;exact main _ _ _ (MH ..) ho h
  .rename_i ho;exact main _ _ _ (JV ..) ho h
  .rename_i ho;exact main _ _ _ (JW ..) ho h
  .exact same h
  .exact same h
  .exact same h
  .exact same h
  .cases h
end
theorem gq{S:Nat->Prop}{v:Value}{t:Th}{k:Nat}(h:dP t=true)(hk:fp S v t k):False:=by
 cases t<;>first|(exact hk)|(cases h)
theorem gP:{os:List Nat}->{objs mD:List (Nat×(Nat×Th))}->eC objs os=some mD->∀o s t,find mD o=some (s,t)->
 find objs o=some (s,t)\/dP t=true
 |[],objs,mD,h,o,s,t,ho=>by obtain rfl:=ai4 h;exact .inl ho
 |o0::os,objs,mD,h,o,s,t,ho=>by
  have main:∀s0 t1,dP t1=true->eC ((o0,(s0,t1))::del [o0] objs) os=some mD->find objs o=some (s,t)\/dP t=true:=by
   intro s0 t1 hf h
   rcases gP h o s t ho with h1|g
   .rw[aA]at h1;split at h1
    .simp only[ajg,aj3]at h1;obtain⟨rfl,rfl⟩:=h1;exact .inr hf
    .exact .inl (gH.1 h1).2
   .exact .inr g
  unfold eC at h;split at h
  .exact main _ _ rfl h
  .exact main _ _ rfl h
  .exact main _ _ rfl h
  .exact main _ _ rfl h
  .exact gP h o s t ho
  .exact gP h o s t ho
  .exact gP h o s t ho
  .exact gP h o s t ho
  .cases h
inductive Sh where
 |leaf (r:Row)
 |own (j:Nat)
 |nil
 |pair (a b:Sh)
 |junk (n:Nat)
inductive SS where
 |val (agg:Bool) (t:Sh)
 |ptr (j:Nat) (p:List Bool) (off:Nat)
 |at (r:Row)
 |undef
 |fn (f:FuncId) (js:List (Nat×List Bool×Nat))
 |ifc (T:TypeId) (s:SS)
inductive OS where
 |box (T:TypeId) (t:Sh)
 |own (T:TypeId) (r:Row)
 |map (T:TypeId) (K:Row) (agg:Bool) (V:Row)
 |deep (T:TypeId) (d:DR)
 |dmap (T:TypeId) (K:Row) (E:TypeId) (r:Row)
structure JS where
 ah:List (Nat×SS)
 objs:List (Nat×OS):=[]
 drop:List Nat:=[]
 nxt:Nat
def Sh.rows:Sh->List Row
 | .leaf r=>[r]
 | .own _=>[]
 | .nil=>[]
 | .pair a b=>a.rows++b.rows
 | .junk _=>[]
def SS.rows:SS->List Row
 | .val _ t=>t.rows
 | .ptr .. =>[]
 | .at r=>[r]
 | .undef=>[]
 | .fn .. =>[]
 | .ifc _ s=>s.rows
def OS.rows:OS->List Row
 | .box _ t=>t.rows
 | .own _ r=>[.slice r]
 | .map _ K _ V=>[.slice (.pair K V)]
 | .deep _ d=>[.slice d.row]
 | .dmap _ K _ r=>[.slice (.pair K (.slice r))]
def AZ:List (Nat×SS)->List Row
 |[]=>[]
 |p::l=>p.2.rows++AZ l
def E6:List (Nat×OS)->List Row
 |[]=>[]
 |p::l=>p.2.rows++E6 l
def JS.rows(J:JS):List Row:=AZ J.ah++E6 J.objs
abbrev ik:=(r:Row)×r.den
@[reducible] def cx:List Row->Type
  |[]=>Unit
  |[r]=>r.den
  |r::s::rs=>r.den×cx (s::rs)
def cY:(rs:List Row)->cx rs->List ik
 |[],_=>[]
 |[r],x=>[⟨r,x⟩]
 |r::s::rs,x=>⟨r,x.1⟩::cY (s::rs) x.2
def A3:(rs:List Row)->List ik->Option (cx rs)
 |[],[]=>some ()
 |[r],[⟨s,x⟩]=>if h:s.beq r=true then some (iC (Row.eq_of_beq h) x)else none
 |r::r'::rs,⟨s,x⟩::vs=>if h:s.beq r=true then(match A3 (r'::rs) vs with
  |some y=>some (iC (Row.eq_of_beq h) x,y)
  |none=>none)else none
 |_,_=>none
theorem xK{r s:Row}(h:s=r)(x:s.den):(⟨r,iC h x⟩:ik)=⟨s,x⟩:=by subst h;rfl
theorem tG:{rs:List Row}->{vs:List ik}->{x:cx rs}->A3 rs vs=some x->cY rs x=vs
 |[],[],x,_=>rfl
 |[],_::_,_,h=>by cases h
 |[r],[],_,h=>by cases h
 |[r],[⟨s,x⟩],y,h=>by
  unfold A3 at h;split at h
  .rename_i hb;obtain rfl:=ai4 h
   show[(⟨r,_⟩:ik)]=_
   rw[xK]
  .cases h
 |[r],_::_::_,_,h=>by cases h
 |r::r'::rs,[],_,h=>by cases h
 |r::r'::rs,⟨s,x⟩::vs,y,h=>by
  unfold A3 at h;split at h
  .rename_i hb;split at h
   .rename_i z hz;obtain rfl:=ai4 h;have:=tG hz
    show(⟨r,_⟩:ik)::cY (r'::rs) z=_
    rw[xK,this]
   .cases h
  .cases h
def ou:Sh->List ik->Tree×List ik
 | .leaf r,⟨s,x⟩::vs=>(bif s.beq r then .leaf s x else .nil,vs)
 | .leaf _,[]=>(.nil,[])
 | .own j,vs=>(.own j,vs)
 | .nil,vs=>(.nil,vs)
 | .pair a b,vs=>(.pair (ou a vs).1 (ou b (ou a vs).2).1,(ou b (ou a vs).2).2)
 | .junk n,vs=>(.junk n,vs)
def dY:SS->List ik->ak×List ik
 | .val agg t,vs=>(.val agg (ou t vs).1,(ou t vs).2)
 | .ptr j p off,vs=>(.ptr j p off,vs)
 | .at r,⟨s,x⟩::vs=>(bif s.beq r then .at s x else .dead,vs)
 | .at _,[]=>(.dead,[])
 | .undef,vs=>(.undef,vs)
 | .fn f js,vs=>(.fn f js,vs)
 | .ifc T s,vs=>(.ifc T (dY s vs).1,(dY s vs).2)
def cS:List (Nat×SS)->List ik->List (Nat×ak)×List ik
 |[],vs=>([],vs)
 |(t,s)::l,vs=>((t,(dY s vs).1)::(cS l (dY s vs).2).1,(cS l (dY s vs).2).2)
def bX:OS->List ik->Th×List ik
 | .box T t,vs=>(.box T (ou t vs).1,(ou t vs).2)
 | .own T r,⟨.slice s,l⟩::vs=>(bif s.beq r then .own T s l else .own T r [],vs)
 | .own T r,vs=>(.own T r [],vs)
 | .map T K agg V,⟨.slice (.pair K' V'),l⟩::vs=>(if h:K'.beq K=true/\V'.beq V=true then .map T K agg V (iC (r:= .slice (.pair K' V')) (s:= .slice (.pair K V)) (by rw[Row.eq_of_beq h.1,Row.eq_of_beq h.2]) l)else .map T K agg V [],vs)
 | .map T K agg V,vs=>(.map T K agg V [],vs)
 | .deep T d,⟨.slice s,l⟩::vs=>(if h:s.beq d.row=true then .deep T d (iC (r:= .slice s) (s:= .slice d.row) (congrArg Row.slice (Row.eq_of_beq h)) l) none else .deep T d [] none,vs)
 | .deep T d,vs=>(.deep T d [] none,vs)
 | .dmap T K E r,⟨.slice (.pair K' (.slice s)),l⟩::vs=>(if h:K'.beq K=true/\s.beq r=true then .dmap T K E r (iC (r:= .slice (.pair K' (.slice s))) (s:= .slice (.pair K (.slice r))) (by rw[Row.eq_of_beq h.1,Row.eq_of_beq h.2]) l) none else .dmap T K E r [] none,vs)
 | .dmap T K E r,vs=>(.dmap T K E r [] none,vs)
def gi(m:Nat):List (Nat×OS)->List ik->List (Nat×(Nat×Th))
 |[],_=>[]
 |(j,s)::l,vs=>(j,(m,(bX s vs).1))::gi (m+1) l (bX s vs).2
abbrev Bs:=List (Nat×Option Nat)
def Dv:Option Nat->Option Nat->Bool
 |some a,some b=>aje a b
 |none,none=>true
 |_,_=>false
theorem xL{a b:Option Nat}(h:Dv a b=true):a=b:=by
 cases a<;>cases b<;>first|rfl|cases h|(rw[beq_true h])
def xM(bs:Bs)(j:Nat)(v:Option Nat):Option Bs:=
 match find bs j with
 |none=>some ((j,v)::bs)
 |some u=>bif Dv u v then some bs else none
def CL(ob:Nat->Option (Nat×Th)):Sh->Tree->Bs->Option (List ik×Bs)
 | .leaf r,t,bs=>match flat ob r t with
   |some x=>some ([⟨r,x⟩],bs)
   |none=>none
 | .own j, .own o,bs=>match xM bs j (some o)with
   |some fP=>some ([],fP)
   |none=>none
 | .own j, .nil,bs=>match xM bs j none with
   |some fP=>some ([],fP)
   |none=>none
 | .nil, .nil,bs=>some ([],bs)
 | .junk n,t,bs=>bif aje t.size n then some ([],bs)else none
 | .pair a b,t,bs=>match t.split with
   |some (x,y)=>match CL ob a x bs with
    |some (vs,Dw)=>match CL ob b y Dw with
     |some (us,E7)=>some (vs++us,E7)
     |none=>none
    |none=>none
   |none=>none
 |_,_,_=>none
def sF:List (Nat×List Bool×Nat)->List (Nat×List Bool×Nat)->Bs->Option Bs
 |[],[],bs=>some bs
 |(j,_,off)::js,(o,_,dx)::cs,bs=>bif aje off dx then(match xM bs j (some o)with
  |some fP=>sF js cs fP
  |none=>none)else none
 |_,_,_=>none
def JX(ob:Nat->Option (Nat×Th))(s:SS)(d:ak)(bs:Bs):Option (List ik×Bs):=
 match s,d with
 | .val agg sh, .val la t=>bif (bif agg then la else !la)then CL ob sh t bs else none
 | .ptr j _ off, .ptr o _ dx=>bif aje off dx then(match xM bs j (some o)with
   |some fP=>some ([],fP)
   |none=>none)else none
 | .at r, .at s x=>if h:s.beq r=true then some ([⟨r,iC (Row.eq_of_beq h) x⟩],bs)else none
 | .undef, .undef=>some ([],bs)
 | .fn f js, .fn f' cs=>bif aje f f' then(match sF js cs bs with
   |some fP=>some ([],fP)
   |none=>none)else none
 |_,_=>none
def Ha(ob:Nat->Option (Nat×Th)):SS->ak->Bs->Option (List ik×Bs)
 | .ifc T s,d,bs=>match d with
   | .ifc T' d'=>bif aje T T' then Ha ob s d' bs else none
   |_=>none
 |s,d,bs=>JX ob s d bs
def RN(ob:Nat->Option (Nat×Th))(ah:List (Nat×ak)):List (Nat×SS)->Bs->Option (List ik×Bs)
 |[],bs=>some ([],bs)
 |(t,s)::l,bs=>match find ah t with
  |some d=>match Ha ob s d bs with
   |some (vs,Dw)=>match RN ob ah l Dw with
    |some (us,E7)=>some (vs++us,E7)
    |none=>none
   |none=>none
  |none=>none
def JY(ob:Nat->Option (Nat×Th))(j:Nat)(s:OS)(bs:Bs):Option (List ik×Bs):=
 match find bs j with
 |some (some o)=>match ob o with
  |some (_,t)=>match s,t with
   | .own T r, .own T' r' l=>bif aje T T' then(if h:r'.beq r=true then some ([⟨.slice r,iC (r:= .slice r') (s:= .slice r) (congrArg Row.slice (Row.eq_of_beq h)) l⟩],bs)else none)else none
   | .box T sh, .box T' t=>bif aje T T' then CL ob sh t bs else none
   | .map T K agg V, .map T' K' la V' l=>bif aje T T'&&(bif agg then la else !la)then(if h:K'.beq K=true/\V'.beq V=true then some ([⟨.slice (.pair K V),iC (r:= .slice (.pair K' V')) (s:= .slice (.pair K V)) (by rw[Row.eq_of_beq h.1,Row.eq_of_beq h.2]) l⟩],bs)else none)else none
   | .deep T d, .deep T' d' l none=>bif aje T T'&&d'.beq d then some ([⟨.slice d'.row,l⟩],bs)else none
   | .dmap T K E r, .dmap T' K' E' r' l none=>bif aje T T'&&aje E E'&&K'.beq K&&r'.beq r then some ([⟨.slice (.pair K' (.slice r')),l⟩],bs)else none
   |_,_=>none
  |none=>none
 |some none=>match s with
  | .own _ r=>some ([⟨.slice r,([]:List r.den)⟩],bs)
  | .deep _ d=>some ([⟨.slice d.row,([]:List d.row.den)⟩],bs)
  |_=>none
 |none=>none
def RO(ob:Nat->Option (Nat×Th)):List (Nat×OS)->Bs->Option (List ik×Bs)
 |[],bs=>some ([],bs)
 |(j,s)::l,bs=>match JY ob j s bs with
  |some (vs,Dw)=>match RO ob l Dw with
   |some (us,E7)=>some (vs++us,E7)
   |none=>none
  |none=>none
section
variable {U:Nat->Prop} {H H':ao} {F:Nat->Prop} {w:World} {n:Nat} {ob:Nat->Option (Nat×Th)}
def A4(bs fP:Bs):Prop:=∀j v,find bs j=some v->find fP j=some v
theorem lc{bs fP:Bs}{j:Nat}{v:Option Nat}(h:xM bs j v=some fP):A4 bs fP/\find fP j=some v:=by
 unfold xM at h;split at h
 .rename_i hn;obtain rfl:=ai4 h;refine⟨fun i u hu=>?_,by rw[aA,if_pos rfl]⟩;rw[aA];by_cases e:j=i
  .subst e;rw[hn]at hu;cases hu
  .rw[if_neg e];exact hu
 .rename_i u hu;obtain⟨h1,rfl⟩:=lW h;obtain rfl:=xL h1;exact⟨fun _ _ h=>h,hu⟩
def valOf(H:ao):Option Nat->Option Value
 |some o=>H.val o
 |none=>some (.slice none 0 0)
def ny(H H':ao)(bs:Bs):Prop:=∀j v,find bs j=some v->∀u,valOf H v=some u->H'.val j=some u
theorem vr:{sh:Sh}->{t:Tree}->{bs fP:Bs}->{vs:List ik}->CL ob sh t bs=some (vs,fP)->A4 bs fP
 | .leaf r,t,bs,fP,vs,h=>by
   unfold CL at h
   split at h<;>cases h
   exact fun _ _ h=>h
 | .own j, .own o,bs,fP,vs,h=>by
   unfold CL at h
   split at h<;>cases h
   rename_i hb;exact(lc hb).1
 | .own j, .nil,bs,fP,vs,h=>by
   unfold CL at h
   split at h<;>cases h
   rename_i hb;exact(lc hb).1
 | .nil, .nil,bs,fP,vs,h=>by cases h;exact fun _ _ h=>h
 | .pair a b,t,bs,fP,vs,h=>by
   unfold CL at h;split at h
   case h_2=>cases h
   split at h
   case h_2=>cases h
   rename_i h1;split at h
   case h_2=>cases h
   rename_i h2;cases h
   exact fun j v hj=>vr h2 j v (vr h1 j v hj)
 | .own _, .leaf _ _,_,_,_,h=>by cases h
 | .own _, .pair _ _,_,_,_,h=>by cases h
 | .nil, .leaf _ _,_,_,_,h=>by cases h
 | .nil, .own _,_,_,_,h=>by cases h
 | .nil, .pair _ _,_,_,_,h=>by cases h
 | .own _, .view ..,_,_,_,h=>by cases h
 | .nil, .view ..,_,_,_,h=>by cases h
 | .own _, .junk _,_,_,_,h=>by cases h
 | .nil, .junk _,_,_,_,h=>by cases h
 | .junk n,t,bs,fP,vs,h=>by
   unfold CL at h;obtain⟨_,h⟩:=aD h;cases h
   exact fun _ _ h=>h
theorem yU(hs:au U H F w ob n):{sh:Sh}->{t:Tree}->{bs fP:Bs}->{vs:List ik}->{cs:List Value}->CL ob sh t bs=some (vs,fP)->Holds H F w t cs->ny H H' fP->∀rest,
 Holds H' F w (ou sh (vs++rest)).1 cs/\(ou sh (vs++rest)).2=rest
 | .leaf r,t,bs,fP,vs,cs,h,hh,hb,rest=>by
   unfold CL at h
   split at h<;>cases h
   rename_i x hf;refine⟨?_,rfl⟩
   show Holds H' F w (bif r.beq r then Tree.leaf r x else .nil) cs
   rw[Row.beq_refl,cond_true];exact im hs hf hh
 | .own j, .own o,bs,fP,vs,cs,h,hh,hb,rest=>by
   unfold CL at h
   split at h<;>cases h
   rename_i CV;obtain⟨v,hv,h1,rfl⟩:=hh;exact⟨⟨v,hb _ _ (lc CV).2 v hv,h1,rfl⟩,rfl⟩
 | .own j, .nil,bs,fP,vs,cs,h,hh,hb,rest=>by
   unfold CL at h
   split at h<;>cases h
   rename_i CV;rw[show cs=_ from hh];exact⟨⟨_,hb _ _ (lc CV).2 _ rfl,rfl,rfl⟩,rfl⟩
 | .nil, .nil,bs,fP,vs,cs,h,hh,hb,rest=>by cases h;exact⟨hh,rfl⟩
 | .pair a b,t,bs,fP,vs,cs,h,hh,hb,rest=>by
   unfold CL at h;split at h
   case h_2=>cases h
   rename_i x y wR;split at h
   case h_2=>cases h
   rename_i Wh Dw h1;split at h
   case h_2=>cases h
   rename_i us E7 h2;cases h;obtain⟨c1,c2,rfl,g1,g2,_⟩:=hh.split wR
   have E1:ny H H' Dw:=fun j v hj=>hb j v (vr h2 j v hj)
   obtain⟨k1,k2⟩:=yU hs h1 g1 E1 (us++rest);obtain⟨m1,m2⟩:=yU hs h2 g2 hb rest;rw[ajr];unfold ou;rw[k2];exact⟨⟨c1,c2,rfl,k1,m1⟩,m2⟩
 | .own _, .leaf _ _,_,_,_,_,h,_,_,_=>by cases h
 | .own _, .pair _ _,_,_,_,_,h,_,_,_=>by cases h
 | .nil, .leaf _ _,_,_,_,_,h,_,_,_=>by cases h
 | .nil, .own _,_,_,_,_,h,_,_,_=>by cases h
 | .nil, .pair _ _,_,_,_,_,h,_,_,_=>by cases h
 | .own _, .view ..,_,_,_,_,h,_,_,_=>by cases h
 | .nil, .view ..,_,_,_,_,h,_,_,_=>by cases h
 | .own _, .junk _,_,_,_,_,h,_,_,_=>by cases h
 | .nil, .junk _,_,_,_,_,h,_,_,_=>by cases h
 | .junk n,t,bs,fP,vs,cs,h,hh,hb,rest=>by
   unfold CL at h;obtain⟨hn,h⟩:=aD h;cases h;exact⟨⟨hh.length.trans (ajT hn),hh.iT⟩,rfl⟩
theorem sG:{js cs:List (Nat×List Bool×Nat)}->{bs fP:Bs}->sF js cs bs=some fP->A4 bs fP
 |[],[],bs,fP,h=>by obtain rfl:=ai4 h;exact fun _ _ h=>h
 |(j,p,off)::js,(o,p',dx)::cs,bs,fP,h=>by
  unfold sF at h;obtain⟨_,h⟩:=aD h;split at h
  case h_2=>cases h
  rename_i hb
  exact fun i v hi=>sG h i v ((lc hb).1 i v hi)
 |[],_::_,_,_,h=>by cases h
 |_::_,[],_,_,h=>by cases h
theorem xN:{js cs:List (Nat×List Bool×Nat)}->{bs fP:Bs}->{vs:List Value}->sF js cs bs=some fP->kJ H cs vs->ny H H' fP->kJ H' js vs
 |[],[],bs,fP,vs,h,hc,hb=>hc
 |(j,p,off)::js,(o,p',dx)::cs,bs,fP,vs,h,hc,hb=>by
  unfold sF at h;obtain⟨ho,h'⟩:=aD h;clear h;split at h'
  case h_2=>cases h'
  rename_i b1 CV;obtain⟨v,us,rfl,⟨b,h1,rfl⟩,h2⟩:=hc;have ho:=beq_true ho;subst ho;exact⟨_,us,rfl,⟨b,hb _ _ (sG h' _ _ (lc CV).2) _ h1,rfl⟩,xN h' h2 hb⟩
 |[],_::_,_,_,_,h,_,_=>by cases h
 |_::_,[],_,_,_,h,_,_=>by cases h
theorem MJ{s:SS}{d:ak}{bs fP:Bs}{vs:List ik}(h:JX ob s d bs=some (vs,fP)):A4 bs fP:=by
 unfold JX at h;split at h
 .obtain⟨_,h⟩:=aD h;exact vr h
 .obtain⟨_,h⟩:=aD h
  split at h<;>cases h
  rename_i hb;exact(lc hb).1
 .split at h<;>cases h
  exact fun _ _ h=>h
 .cases h
  exact fun _ _ h=>h
 .obtain⟨_,h'⟩:=aD h
  split at h'<;>cases h'
  rename_i hb;exact sG hb
 .cases h
theorem MK{s:SS}{d:ak}{bs fP:Bs}{vs:List ik}(h:Ha ob s d bs=some (vs,fP)):A4 bs fP:=by
 induction s generalizing d with
 |ifc T s ih=>
  cases d with
  |ifc T' d'=>
   obtain⟨_,h'⟩:=aD (show(bif aje T T' then Ha ob s d' bs else none)=some (vs,fP)from h);exact ih h'
  |_=>cases h
 |_=>exact MJ h
theorem ML(hs:au U H F w ob n){s:SS}{d:ak}{bs fP:Bs}{vs:List ik}{v:Value}(h:JX ob s d bs=some (vs,fP))(hd:ai H F w d v)(hb:ny H H' fP)(rest:List ik):
 ai H' F w (dY s (vs++rest)).1 v/\(dY s (vs++rest)).2=rest:=by
 unfold JX at h;split at h
 .rename_i agg sh la t;obtain⟨ha,h'⟩:=aD h;clear h
  have:agg=la:=by cases agg<;>cases la<;>simp_all
  subst this;obtain⟨cs,h1,h2⟩:=hd;obtain⟨k1,k2⟩:=yU hs h' h1 hb rest;exact⟨⟨cs,k1,h2⟩,k2⟩
 .rename_i j p off o p' dx;obtain⟨ho,h'⟩:=aD h;clear h
  split at h'<;>cases h'
  rename_i CV;obtain⟨b,h1,h2⟩:=hd;refine⟨⟨b,hb _ _ (lc CV).2 _ h1,?_⟩,rfl⟩;rw[beq_true ho];exact h2
 .rename_i r s x
  split at h<;>cases h
  rename_i Az;obtain rfl:=Row.eq_of_beq Az;refine⟨?_,rfl⟩
  show ai H' F w (bif s.beq s then ak.at s x else .dead) v
  rw[Row.beq_refl,cond_true];exact hd
 .cases h;exact⟨hd,rfl⟩
 .rename_i f js f' cs;obtain⟨hf,h'⟩:=aD h
  split at h'<;>cases h'
  rename_i CV;obtain⟨us,h1,h2⟩:=hd;refine⟨⟨us,?_,xN CV h2 hb⟩,rfl⟩;rw[beq_true hf];exact h1
 .cases h
theorem MM(hs:au U H F w ob n){s:SS}{d:ak}{bs fP:Bs}{vs:List ik}{v:Value}(h:Ha ob s d bs=some (vs,fP))(hd:ai H F w d v)(hb:ny H H' fP)(rest:List ik):
 ai H' F w (dY s (vs++rest)).1 v/\(dY s (vs++rest)).2=rest:=by
 induction s generalizing d v with
 |ifc T s ih=>
  cases d with
  |ifc T' d'=>
   obtain⟨hT,h'⟩:=aD (show(bif aje T T' then Ha ob s d' bs else none)=some (vs,fP)from h);obtain⟨u,e,h2⟩:=hd;obtain⟨k1,k2⟩:=ih h' h2;exact⟨⟨u,by rw[beq_true hT];exact e,k1⟩,k2⟩
  |_=>cases h
 |_=>exact ML hs h hd hb rest
theorem JZ:{l:List (Nat×SS)}->{ah:List (Nat×ak)}->{bs fP:Bs}->{vs:List ik}->RN ob ah l bs=some (vs,fP)->A4 bs fP
 |[],_,_,_,_,h=>by cases h;exact fun _ _ h=>h
 |(t,s)::l,ah,bs,fP,vs,h=>by
  unfold RN at h;split at h
  case h_2=>cases h
  split at h
  case h_2=>cases h
  rename_i h1;split at h
  case h_2=>cases h
  rename_i h2;cases h
  exact fun j v hj=>JZ h2 j v (MK h1 j v hj)
theorem J0(hs:au U H F w ob n){ah:List (Nat×ak)}{ρ:Nat->Value}(fO:∀t d,find ah t=some d->ai H F w d (ρ t)):{l:List (Nat×SS)}->{bs fP:Bs}->{vs:List ik}->RN ob ah l bs=some (vs,fP)->ny H H' fP->∀rest,
 (∀t d,find (cS l (vs++rest)).1 t=some d->ai H' F w d (ρ t))/\(cS l (vs++rest)).2=rest
 |[],bs,fP,vs,h,_,rest=>by cases h;exact⟨fun _ _ h=>(by cases h),rfl⟩
 |(t,s)::l,bs,fP,vs,h,hb,rest=>by
  unfold RN at h;split at h
  case h_2=>cases h
  rename_i d hd;split at h
  case h_2=>cases h
  rename_i Wh Dw h1;split at h
  case h_2=>cases h
  rename_i us E7 h2;cases h
  have E1:ny H H' Dw:=fun j v hj=>hb j v (JZ h2 j v hj)
  obtain⟨k1,k2⟩:=MM hs h1 (fO t d hd) E1 (us++rest);obtain⟨m1,m2⟩:=J0 hs fO h2 hb rest;rw[ajr];unfold cS;rw[k2];refine⟨fun t' d' h'=>?_,m2⟩;rw[aA]at h';split at h'
  .rename_i e;subst e;obtain rfl:=ai4 h';exact k1
  .exact m1 t' d' h'
end
end Go.Proofs.YtilaieogabgamaaGreatDoor
namespace Go.Proofs.YtilaieogabgamaaGreatDoor
open Go Go.RowKit
def Tree.owns:Tree->List Nat
 | .own o=>[o]
 | .pair a b=>a.owns++b.owns
 | .view o _ _ _=>[o]
 |_=>[]
def A5:Sh->Tree->List Nat
 | .leaf _,t=>t.owns
 | .pair a b,t=>match t.split with
   |some (x,y)=>A5 a x++A5 b y
   |none=>[]
 |_,_=>[]
def E8(ah:List (Nat×ak)):List (Nat×SS)->List Nat
 |[]=>[]
 |(t, .val _ sh)::l=>(match find ah t with
  |some (.val _ tr)=>A5 sh tr
  |_=>[])++E8 ah l
 |(t, .ifc _ (.val _ sh))::l=>(match find ah t with
  |some (.ifc _ (.val _ tr))=>A5 sh tr
  |_=>[])++E8 ah l
 |_::l=>E8 ah l
def Oi(j:Nat):List (Nat×List Bool×Nat)->List (Nat×List Bool×Nat)->Option Nat
 |(j',_)::js,(o,_)::cs=>bif aje j' j then some o else Oi j js cs
 |_,_=>none
def A6(ah:List (Nat×ak))(j:Nat):List (Nat×SS)->Option Nat
 |[]=>none
 |(t, .ptr j' _ _)::l=>bif aje j' j then(match find ah t with
  |some (.ptr o _ _)=>some o
  |_=>none)else A6 ah j l
 |(t, .ifc _ (.ptr j' _ _))::l=>bif aje j' j then(match find ah t with
  |some (.ifc _ (.ptr o _ _))=>some o
  |_=>none)else A6 ah j l
 |(t, .fn _ js)::l=>match(match find ah t with
    |some (.fn _ cs)=>Oi j js cs
    |_=>none)with
  |some o=>some o
  |none=>A6 ah j l
 |_::l=>A6 ah j l
def J1(nb:Nat)(ah:List (Nat×ak))(ss:List (Nat×SS))(objs:List (Nat×(Nat×Th))):List (Nat×OS)->List Nat
 |[]=>[]
 |(j, .box _ sh)::l=>(match(bif ajX j nb then some j else A6 ah j ss)with
  |some o=>(match find objs o with
   |some (_, .box _ tr)=>A5 sh tr
   |_=>[])
  |none=>[])++J1 nb ah ss objs l
 |_::l=>J1 nb ah ss objs l
def Wi(nb:Nat):List (Nat×OS)->Bs
 |[]=>[]
 |(j,_)::l=>bif ajX j nb then(j,some j)::Wi nb l else Wi nb l
def gw:Bs->List Nat
 |[]=>[]
 |(_,some o)::l=>o::gw l
 |(_,none)::l=>gw l
def ma(o:Nat)(l:List Nat):Bool:=l.any (aje o)
def Dx:List Nat->Bool
 |[]=>true
 |o::l=> !ma o l&&Dx l
def J2(nb nxt:Nat):Bs->Bool
 |[]=>true
 |(j,u)::l=>(bif ajX j nb then Dv u (some j)else ajX j nxt)&&J2 nb nxt l
def Dy(objs:List (Nat×(Nat×Th)))(A7:List Nat):List (Nat×(Nat×Th))->Bool
 |[]=>true
 |(o,(s,t))::l=>(match find objs o with
  |some (s',t')=>aje s s'&&(bif dP t then dP t' else !dP t')
  |none=>false)&& !ma o A7&&Dy objs A7 l
def xO(nb:Nat)(J:JS)(ah:List (Nat×ak))(objs:List (Nat×(Nat×Th))):List Nat:=E8 ah J.ah++J1 nb ah J.ah objs J.objs
def xP(nb:Nat)(frame:List (Nat×(Nat×Th)))(J:JS)(ah:List (Nat×ak))(objs:List (Nat×(Nat×Th))):Option (cx J.rows×Bs×List (Nat×(Nat×Th))):=
 match eC objs (xO nb J ah objs)with
 |none=>none
 |some aM=>match RN (find aM) ah J.ah (Wi nb J.objs)with
  |none=>none
  |some (vs,Dw)=>match RO (find aM) J.objs Dw with
   |none=>none
   |some (us,E7)=>bif Dx (gw E7)&&J2 nb J.nxt E7&&Nat.ble (nb+J.objs.length) J.nxt&&Dy aM (gw E7) frame then
     (match A3 J.rows (vs++us)with
     |some x=>some (x,E7,aM)
     |none=>none)else none
def rn:List (Nat×(Nat×Th))->Nat->Option Th
 |[],_=>none
 |(_,(s,t))::l,m=>bif aje s m then some t else rn l m
def Pt:List (Nat×(Nat×Th))->Nat->Option Nat
 |[],_=>none
 |(j,(s,_))::l,m=>bif aje s m then some j else Pt l m
def vu(H:ao)(ob:Nat->Option (Nat×Th)):Option (Option Nat)->Nat->Prop
 |some (some o)=>match ob o with
  |some (s,_)=>H.sub s
  |none=>fun _=>False
 |_=>fun _=>False
def dI(H:ao)(nb:Nat)(bs:Bs)(cons:List (Nat×(Nat×Th)))(ob:Nat->Option (Nat×Th)):ao where
 val m:=if m<nb then H.val m else match find bs m with
  |some u=>valOf H u
  |none=>none
 con m:=if m<nb then H.con m else rn cons m
 sub m:=if m<nb then H.sub m else match Pt cons m with
  |some j=>vu H ob (find bs j)
  |none=>fun _=>False
section
variable {U:Nat->Prop} {H H':ao} {F:Nat->Prop} {w:World} {n:Nat} {ob:Nat->Option (Nat×Th)}
theorem E9{j:Nat}{s:OS}{bs fP:Bs}{vs:List ik}(h:JY ob j s bs=some (vs,fP)):A4 bs fP:=by
 unfold JY at h;split at h
 .split at h
  case h_2=>cases h
  split at h
  .obtain⟨_,h'⟩:=aD h
   split at h'<;>cases h'
   exact fun _ _ h=>h
  .obtain⟨_,h'⟩:=aD h;exact vr h'
  .obtain⟨_,h'⟩:=aD h
   split at h'<;>cases h'
   exact fun _ _ h=>h
  .obtain⟨_,h'⟩:=aD h;cases h'
   exact fun _ _ h=>h
  .obtain⟨_,h'⟩:=aD h;cases h'
   exact fun _ _ h=>h
  .cases h
 .split at h<;>cases h
  .exact fun _ _ h=>h
  .exact fun _ _ h=>h
 .cases h
theorem yV:{l:List (Nat×OS)}->{bs fP:Bs}->{vs:List ik}->RO ob l bs=some (vs,fP)->A4 bs fP
 |[],_,_,_,h=>by cases h;exact fun _ _ h=>h
 |(j,s)::l,bs,fP,vs,h=>by
  unfold RO at h;split at h
  case h_2=>cases h
  rename_i h1;split at h
  case h_2=>cases h
  rename_i h2;cases h
  exact fun j v hj=>yV h2 j v (E9 h1 j v hj)
def lE(H H':ao)(F:Nat->Prop)(w:World)(ob:Nat->Option (Nat×Th))(bs:Bs)(j:Nat)(t:Th):Prop:=
 ∃u v,find bs j=some u/\valOf H u=some v/\v.oneCell'=true/\t.base=t/\il H' F w (vu H ob (find bs j)) v t/\∀k,fp (vu H ob (find bs j)) v t k->∃o s0 t0,u=some o/\ob o=some (s0,t0)/\H.val o=some v/\fp (H.sub s0) v t0 k
theorem MN(hs:au U H F w ob n){j:Nat}{s:OS}{bs fP:Bs}{vs:List ik}(h:JY ob j s bs=some (vs,fP))(hb:ny H H' fP)(rest:List ik):
 lE H H' F w ob bs j (bX s (vs++rest)).1/\(bX s (vs++rest)).2=rest:=by
 unfold JY at h;split at h
 .rename_i o RP;split at h
  case h_2=>cases h
  rename_i s0 t0 cC;obtain⟨v,hv,cc⟩:=hs.obj _ _ _ cC
  have fN:vu H ob (find bs j)=H.sub s0:=by rw[RP];simp[vu,cC]
  have mk:∀t,t.base=t->il H' F w (H.sub s0) v t->(∀k,fp (H.sub s0) v t k->fp (H.sub s0) v t0 k)->lE H H' F w ob bs j t:=by
   intro t hb my hf;refine⟨some o,v,RP,hv,cc.one,hb,by rw[fN];exact my,fun k hk=>?_⟩;rw[fN]at hk;exact⟨o,_,_,rfl,cC,hv,hf k hk⟩
  split at h
  .rename_i T r T' r' l;obtain⟨hT,h'⟩:=aD h;clear h
   split at h'<;>cases h'
   rename_i Az;obtain rfl:=Row.eq_of_beq Az;obtain rfl:=beq_true hT;refine⟨?_,rfl⟩
   show lE H H' F w ob bs j (bif r'.beq r' then Th.own T r' l else .own T r' [])
   rw[Row.beq_refl,cond_true]
   exact mk _ rfl cc.ok fun k hk=>hk
  .rename_i T sh T' t;obtain⟨hT,h'⟩:=aD h;clear h;obtain rfl:=beq_true hT;obtain⟨b,es,e,h1,h2⟩:=cc.ok;obtain⟨k1,k2⟩:=yU hs h' h2 hb rest;exact⟨mk _ rfl ⟨b,es,e,h1,k1⟩ fun k hk=>hk,k2⟩
  .rename_i T K agg V T' K' la V' l;obtain⟨hT,h'⟩:=aD h;clear h
   split at h'<;>cases h'
   rename_i Az;obtain⟨SN,ha⟩:=cO hT;clear hT
   have ha:agg=la:=by cases agg<;>cases la<;>simp_all
   subst ha;obtain⟨hK,hV⟩:=Az;obtain rfl:=Row.eq_of_beq hK;obtain rfl:=Row.eq_of_beq hV;obtain rfl:=beq_true SN;refine⟨?_,rfl⟩
   show lE H H' F w ob bs j (if h:K'.beq K'=true/\V'.beq V'=true then Th.map T K' agg V' l else .map T K' agg V' [])
   rw[dif_pos ⟨Row.beq_refl _,Row.beq_refl _⟩];obtain⟨b,es,clock,e,h1,h2,h3⟩:=cc.ok
   exact mk _ rfl ⟨b,es,clock,e,h1,h2,h3.iM⟩ fun k hk=>hk
  .rename_i T d T' d' l;obtain⟨hT,h'⟩:=aD h;clear h;obtain⟨SN,hd⟩:=cO hT;obtain rfl:=DR.eq_of_beq hd;obtain rfl:=beq_true SN;cases h';refine⟨?_,rfl⟩
   show lE H H' F w ob bs j (if h:d'.row.beq d'.row=true then Th.deep T d' l none else .deep T d' [] none)
   rw[dif_pos (Row.beq_refl _)]
   exact mk _ rfl cc.ok fun k hk=>hk
  .rename_i T K E r T' K' E' r' l;obtain⟨hT,h'⟩:=aD h;clear h;obtain⟨hT,hd⟩:=cO hT;obtain⟨hT,xy⟩:=cO hT;obtain⟨SN,hE⟩:=cO hT;obtain rfl:=Row.eq_of_beq hd;obtain rfl:=Row.eq_of_beq xy;obtain rfl:=beq_true SN;obtain rfl:=beq_true hE;cases h';refine⟨?_,rfl⟩
   show lE H H' F w ob bs j (if h:K'.beq K'=true/\r'.beq r'=true then Th.dmap T K' E r' l none else .dmap T K' E r' [] none)
   rw[dif_pos ⟨Row.beq_refl _,Row.beq_refl _⟩];obtain⟨b,es,clock,B,e,h1,h2,h3,h4,_⟩:=cc.ok
   exact mk _ rfl ⟨b,es,clock,B,e,h1,h2,h3.keep (Step.refl F w) (fun _ _ _ e=>by cases e) (fun _ _=>rfl),h4,fun _ _ e=>by cases e⟩ fun k hk=>hk
  .cases h
 .rename_i RP
  split at h<;>cases h
  .rename_i T r;refine⟨?_,rfl⟩
   show lE H H' F w ob bs j (bif r.beq r then Th.own T r []else .own T r [])
   rw[Row.beq_refl,cond_true];refine⟨none,_,RP,rfl,rfl,rfl,(iE.nil 0 F w T r).2,fun k hk=>?_⟩;have dO:bm (.slice none 0 0) k:=hk;simp[bm,ajz]at dO
  .rename_i T d;refine⟨?_,rfl⟩
   show lE H H' F w ob bs j (if h:d.row.beq d.row=true then Th.deep T d [] none else .deep T d [] none)
   rw[dif_pos (Row.beq_refl _)]
   have fN:vu H ob (find bs j)=fun _=>False:=by rw[RP];rfl
   refine⟨none,_,RP,rfl,rfl,rfl,?_,fun k hk=>?_⟩
   .rw[fN];exact⟨[],fun _ _=>False,jG.nil F w T d.low,rfl,fun i h=>absurd h (by simp),⟨fun k=>by simp[bm,ajz],fun _ _ _ h=>absurd h (by simp),fun _ _ h=>absurd h (by simp)⟩⟩
   .rw[fN]at hk;exact hk.elim
 .cases h
theorem A8:{l:List (Nat×OS)}->{m k:Nat}->{vs:List ik}->m+l.length<=k->rn (gi m l vs) k=none
 |[],_,_,_,_=>rfl
 |(j,s)::l,m,k,vs,h=>by
  show(bif aje m k then _ else rn (gi (m+1) l _) k)=none
  rw[ajk]at h
  have:aje m k=false:=by
   cases hb:aje m k with
   |false=>rfl
   |true=>have:=beq_true hb;omega
  rw[this,cond_false];exact A8 (by omega)
theorem J3(hs:au U H F w ob n):{l:List (Nat×OS)}->{bs fP:Bs}->{vs:List ik}->RO ob l bs=some (vs,fP)->ny H H' fP->∀m,
 ∀j s t,find (gi m l vs) j=some (s,t)->m<=s/\s<m+l.length/\rn (gi m l vs) s=some t/\Pt (gi m l vs) s=some j/\lE H H' F w ob fP j t
 |[],_,_,_,h,_,m=>by cases h;intro j s t h;cases h
 |(j0,s0)::l,bs,fP,vs,h,hb,m=>by
  unfold RO at h;split at h
  case h_2=>cases h
  rename_i Wh Dw h1;split at h
  case h_2=>cases h
  rename_i us E7 h2;cases h
  have E1:ny H H' Dw:=fun j v hj=>hb j v (yV h2 j v hj)
  obtain⟨⟨u,v,g1,g2⟩,k2⟩:=MN hs h1 E1 us;intro j s t hf;unfold gi at hf⊢;rw[aA]at hf;rw[k2]at hf⊢;split at hf
  .rename_i e;subst e;simp only[ajg,aj3]at hf;obtain⟨rfl,rfl⟩:=hf;have e1:=yV h2 _ _ (E9 h1 _ _ g1);rw[g1]at g2;refine⟨ai8 _,by simp,?_,?_,u,v,e1,?_⟩
   .show(bif aje m m then _ else _)=_
    simp
   .show(bif aje m m then _ else _)=_
    simp
   .rw[e1];exact g2
  .obtain⟨a1,a2,a3,a4,a5⟩:=J3 hs h2 hb (m+1) j s t hf
   have:aje m s=false:=by
    cases hb:aje m s with
    |false=>rfl
    |true=>have:=beq_true hb;omega
   refine⟨by omega,by rw[ajk];omega,?_,?_,a5⟩
   .show(bif aje m s then _ else _)=_
    rw[this,cond_false];exact a3
   .show(bif aje m s then _ else _)=_
    rw[this,cond_false];exact a4
theorem dJ{o:Nat}{l:List Nat}:ma o l=true↔o∈l:=any_beq
theorem jd:{bs:Bs}->{j o:Nat}->find bs j=some (some o)->o∈gw bs
 |[],_,_,h=>by cases h
 |(i,u)::bs,j,o,h=>by
  rw[aA]at h;split at h
  .obtain rfl:=ai4 h;exact List.mem_cons_self
  .have:=jd h
   cases u with
   |none=>exact this
   |some q=>exact List.mem_cons_of_mem _ this
theorem sH:{bs:Bs}->Dx (gw bs)=true->{j j' o:Nat}->find bs j=some (some o)->find bs j'=some (some o)->j=j'
 |[],_,_,_,_,h,_=>by cases h
 |(i,u)::bs,hn,j,j',o,h,h'=>by
  rw[aA]at h h'
  cases u with
  |none=>
   split at h
   .cases h
   .split at h'
    .cases h'
    .exact sH (bs:=bs) hn h h'
  |some q=>
   obtain⟨hq,Mi⟩:=cO hn
   have hq:q∉gw bs:=fun e=>by rw[dJ.2 e]at hq;cases hq
   split at h
   .rename_i e1;obtain rfl:q=o:=ai4 (ai4 h);split at h'
    .rename_i e2;exact e1.symm.trans e2
    .exact absurd (jd h') hq
   .split at h'
    .obtain rfl:q=o:=ai4 (ai4 h');exact absurd (jd h) hq
    .exact sH Mi h h'
theorem vv{nb nxt:Nat}:{bs:Bs}->J2 nb nxt bs=true->{j:Nat}->{u:Option Nat}->find bs j=some u->(j<nb->u=some j)/\(nb<=j->j<nxt)
 |[],_,_,_,h=>by cases h
 |(i,v)::bs,hk,j,u,h=>by
  obtain⟨h1,h2⟩:=cO hk;rw[aA]at h;split at h
  .rename_i e;subst e;obtain rfl:=ai4 h
   cases hb:ajX i nb with
   |true=>
    rw[hb,cond_true]at h1
    have:i<nb:=by simpa using hb
    exact⟨fun _=>xL h1,fun _=>by omega⟩
   |false=>
    rw[hb,cond_false]at h1
    have hge:¬i<nb:=fun e=>by have:ajX i nb=true:=by simpa using e
                              rw[hb]at this;cases this
    exact⟨fun e=>absurd e hge,fun _=>by simpa using h1⟩
  .exact vv h2 h
theorem xQ{objs:List (Nat×(Nat×Th))}{A7:List Nat}:{fr:List (Nat×(Nat×Th))}->Dy objs A7 fr=true->{o s:Nat}->{t:Th}->find fr o=some (s,t)->
 o∉A7/\∃t',find objs o=some (s,t')/\dP t'=dP t
 |[],_,_,_,_,h=>by cases h
 |(i,(s0,t0))::fr,hf,o,s,t,h=>by
  obtain⟨h1,h2⟩:=cO hf;obtain⟨h1,h3⟩:=cO h1;rw[aA]at h;split at h
  .rename_i e;subst e;simp only[ajg,aj3]at h;obtain⟨rfl,rfl⟩:=h;split at h1
   .rename_i s' t' ho;obtain⟨h4,h5⟩:=cO h1;obtain rfl:=beq_true h4;refine⟨fun e=>(by rw[dJ.2 e]at h3;cases h3),t',ho,?_⟩
    cases ha:dP t0<;>cases hb:dP t'<;>simp_all
   .cases h1
  .exact xQ h2 h
theorem J4{t t':Th}(h:t.base=t'.base)(hf:dP t=dP t'):t=t':=by
 cases t<;>cases t'<;>simp_all[Th.base,dP]
theorem vw{U':Nat->Prop}{H0:ao}{F0:Nat->Prop}{w0:World}{objs0:List (Nat×(Nat×Th))}{nb:Nat}{ns:List Nat}{J:JS}{ah:List (Nat×ak)}{objs aM:List (Nat×(Nat×Th))}{x:cx J.rows}{bs:Bs}{ρ:Nat->Value}
 (h:xP nb (del ns objs0) J ah objs=some (x,bs,aM))(MO:au U H0 F0 w0 (find objs0) nb)(Oj:gJ H0 nb)(hk:cz H0 F0 w0 H F w)(hs:au U H F w (find objs) n)(fO:∀t d,find ah t=some d->ai H F w d (ρ t)):
 ∃F1 H1,au U H F1 w (find aM) n/\(∀b,F b->F1 b)/\(∀b,F1 b->F b\/cm H (find objs) (xO nb J ah objs) b)/\eC objs (xO nb J ah objs)=some aM/\H0.le H1/\ny H H1 bs/\gJ H1 J.nxt/\
  (∀t d,find (cS J.ah (cY J.rows x)).1 t=some d->ai H1 F1 w d (ρ t))/\
  ((∀b,w.heap.size<=b->U' b)->(∀o s t v k,o∈gw bs->find aM o=some (s,t)->H.val o=some v->fp (H.sub s) v t k->U' k)->(∀o s t v k,find (del ns objs0) o=some (s,t)->H.val o=some v->fp (H.sub s) v t k->U' k)->
    au U' H1 F1 w (find (gi nb J.objs (cS J.ah (cY J.rows x)).2++del ns objs0)) J.nxt):=by
 unfold xP at h;split at h
 case h_1=>cases h
 rename_i Wj w4;split at h
 case h_1=>cases h
 rename_i vs Dw hS;split at h
 case h_1=>cases h
 rename_i us E7 hO;obtain⟨hc,h'⟩:=aD h;clear h;split at h'
 case h_2=>cases h'
 rename_i x' hx;cases h';obtain⟨hc,RF⟩:=cO hc;obtain⟨hc,JH⟩:=cO hc;obtain⟨Aq,uo⟩:=cO hc
 have JH:nb+J.objs.length<=J.nxt:=by simpa using JH
 obtain⟨F1,qa,C0,L0⟩:=nx w4 hs
 have eB:Step F w F1 w:=fun b hb=>⟨C0 b hb,rfl⟩
 have Wk:∀t d,find ah t=some d->ai H F1 w d (ρ t):=fun t d hd=>(fO t d hd).keep (ao.le.refl H) eB
 rw[tG hx]
 have J5:∃cons,cons=gi nb J.objs us:=⟨_,rfl⟩
 obtain⟨cons,A9⟩:=J5
 have Ba:H0.le (dI H nb bs cons (find aM)):=by
  have al:∀s t,H0.con s=some t->s<nb:=fun s t eB=>by
   rcases Nat.lt_or_ge s nb with h|h
   .exact h
   .rw[(Oj s h).2]at eB;cases eB
  refine⟨fun o v ho=>?_,fun s t eB=>?_,fun s t eB=>?_⟩
  .have:o<nb:=by
    rcases Nat.lt_or_ge o nb with h|h
    .exact h
    .rw[(Oj o h).1]at ho;cases ho
   simp[dI,this,hk.iM.val _ _ ho]
  .simp[dI,al s t eB,hk.iM.con _ _ eB]
  .simp[dI,al s t eB,hk.iM.sub _ _ eB]
 have sI:ny H (dI H nb bs cons (find aM)) bs:=by
  intro j u hj v hv;obtain⟨a1,a2⟩:=vv uo hj;by_cases al:j<nb
  .obtain rfl:=a1 al;simpa[dI,al,valOf]using hv
  .simpa[dI,al,hj]using hv
 have MP:ny H (dI H nb bs cons (find aM)) Dw:=fun j v hj=>sI j v (yV hO j v hj)
 obtain⟨p1,p2⟩:=J0 qa Wk hS MP us
 have Fa:gJ (dI H nb bs cons (find aM)) J.nxt:=fun m hm=>by
  have Of:¬m<nb:=by omega
  refine⟨?_,?_⟩
  .simp only[dI,if_neg Of];split
   .rename_i u hu;have:=(vv uo hu).2 (by omega);omega
   .rfl
  .simp only[dI,if_neg Of,A9];exact A8 (by omega)
 refine⟨F1,dI H nb bs cons (find aM),qa,C0,L0,w4,Ba,sI,Fa,p1,fun hU1 hU2 hU3=>?_⟩;rw[p2,<-A9];have SO:=J3 (H':=dI H nb bs cons (find aM)) qa hO sI nb;rw[<-A9]at SO
 have part:∀o s t,find (cons++del ns objs0) o=some (s,t)->find cons o=some (s,t)\/find (del ns objs0) o=some (s,t):=by
  intro o s t ho;rw[gG]at ho
  cases hm:find cons o with
  |some y=>rw[hm]at ho;exact .inl ho
  |none=>rw[hm,akc]at ho;exact .inr ho
 have wT:∀o s t,find (del ns objs0) o=some (s,t)->o∉gw bs/\find aM o=some (s,t)/\∃v,H.val o=some v/\(dI H nb bs cons (find aM)).val o=some v/\v.oneCell'=true/\(dI H nb bs cons (find aM)).con s=some t.base/\(dI H nb bs cons (find aM)).sub s=H.sub s/\il (dI H nb bs cons (find aM)) F1 w (H.sub s) v t:=by
  intro o s t ho;obtain⟨q1,t',q2,q3⟩:=xQ RF ho;have ho0:=(gH.1 ho).2;obtain⟨v0,O8,Dz⟩:=MO.obj _ _ _ ho0;obtain⟨v1,uv,lZ⟩:=qa.obj _ _ _ q2;have e1:=hk.iM.val _ _ O8;rw[uv]at e1;obtain rfl:=ai4 e1;have e2:=hk.iM.con _ _ Dz.con;rw[lZ.con]at e2;have ht:=J4 (ai4 e2) q3;subst ht;refine⟨q1,q2,v1,uv,Ba.val _ _ O8,lZ.one,Ba.con _ _ Dz.con,(Ba.sub _ _ Dz.con).trans (hk.iM.sub _ _ Dz.con).symm,?_⟩
  cases t' with
  |fdeep T d l=>exact lZ.ok
  |deep T d l hh=>
   obtain⟨lh0,_,_,e0,r0,_⟩:=Dz.ok
   refine Gz.mono (show Gz F1 w T d.low _ v1 l (H.sub s)from lZ.ok) (Step.refl F1 w) (fun _ _=>rfl) fun i x' hi A hA hr=>?_
   cases hh with
   |none=>exact hr
   |some h=>
    refine⟨hr.1,fun hh=>?_⟩;obtain⟨T',e,q,g1,g2,g3⟩:=hr.2 hh;obtain⟨_,_,q0,_,_,k3⟩:=(r0 i (by omega) hi).2 hh;have e3:=hk.iM.val _ _ k3;rw[g3]at e3;exact⟨T',e,q,g1,g2,by rw[ai4 e3];exact Ba.val _ _ k3⟩
  |box T tr=>
   obtain⟨b,es,e,g1,g2⟩:=lZ.ok;obtain⟨b',mw,e',Sl,g2'⟩:=Dz.ok;exact⟨b,es,e,g1,Holds.back hk.iM Ba g2' g2⟩
  |own T r l=>exact lZ.ok
  |sf T r l=>exact lZ.ok
  |fmap T K agg V l=>exact lZ.ok
  |fdmap T K E r l=>exact lZ.ok
  |dmap T K E r l hh=>
   obtain⟨b,es,clock,B,e,g1,g2,g3,g4,g5⟩:=lZ.ok;obtain⟨_,_,_,_,_,_,_,_,_,r5⟩:=Dz.ok
   have key:∀a o u,hh=some (a,o)->H.val o=some u->(dI H nb bs cons (find aM)).val o=some u:=by
    intro a o u e hu;obtain⟨u0,U0⟩:=r5 a o e;have e3:=hk.iM.val _ _ U0;rw[hu]at e3;rw[ai4 e3];exact Ba.val _ _ U0
   exact⟨b,es,clock,B,e,g1,g2,g3.keep (Step.refl F1 w) key (fun _ _=>rfl),g4,fun a o e=>(g5 a o e).imp fun u hu=>key a o u e hu⟩
  |map T K agg V l=>
   obtain⟨b,es,clock,e,g1,g2,g3⟩:=lZ.ok;exact⟨b,es,clock,e,g1,g2,g3.iM⟩
 have SP:∀o s t,find cons o=some (s,t)->∃v,(dI H nb bs cons (find aM)).val o=some v/\v.oneCell'=true/\(dI H nb bs cons (find aM)).con s=some t.base/\il (dI H nb bs cons (find aM)) F1 w ((dI H nb bs cons (find aM)).sub s) v t/\
  ∀k,fp ((dI H nb bs cons (find aM)).sub s) v t k->∃o' s0 t0,find bs o=some (some o')/\find aM o'=some (s0,t0)/\H.val o'=some v/\fp (H.sub s0) v t0 k:=by
  intro o s t ho;obtain⟨a1,a2,a3,a4,u,v,b1,b2,b3,b4,b5,b6⟩:=SO o s t ho
  have fN:(dI H nb bs cons (find aM)).sub s=vu H (find aM) (find bs o):=by
   simp only[dI];rw[if_neg (by omega),a4]
  rw[fN];refine⟨v,sI o u b1 v b2,b3,?_,b5,fun k hk=>?_⟩
  .rw[b4];simp only[dI];rw[if_neg (by omega)];exact a3
  .obtain⟨o',s0,t0,c1,c2,c3,c4⟩:=b6 k hk;exact⟨o',s0,t0,by rw[b1,c1],c2,c3,c4⟩
 refine⟨fun o s t ho=>?_,fun o o' s s' t t' v v' bN ho iN hv di k hk dO=>?_,fun m hm _=>Fa m hm,qa.lt,hU1,qa.gl⟩
 .rcases part o s t ho with h1|h1
  .obtain⟨v,a1,a2,a3,a4,a5⟩:=SP o s t h1
   refine⟨v,a1,a2,a3,a4,fun k hk hF=>?_,fun k hk=>?_,fun k hk=>?_⟩<;>obtain⟨o',s0,t0,b1,b2,b3,b4⟩:=a5 k hk<;>obtain⟨v',di,cc⟩:=qa.obj _ _ _ b2
   all_goals
    rw[b3]at di;obtain rfl:=ai4 di
   .exact cc.no k b4 hF
   .exact cc.lt k b4
   .exact hU2 _ _ _ _ _ (jd b1) b2 b3 b4
  .obtain⟨q1,q2,v,a1,a2,a3,a4,a6,a5⟩:=wT o s t h1;obtain⟨v',di,cc⟩:=qa.obj _ _ _ q2;rw[a1]at di;obtain rfl:=ai4 di;exact⟨v,a2,a3,a4,by rw[a6];exact a5,by rw[a6];exact cc.no,by rw[a6];exact cc.lt,fun k hk=>hU3 _ _ _ _ _ h1 a1 (by rwa [a6]at hk)⟩
 .rcases part o s t ho with h1|h1<;>rcases part o' s' t' iN with h2|h2
  .obtain⟨u,a1,_,_,_,a5⟩:=SP o s t h1;obtain⟨u',c1,_,_,_,c5⟩:=SP o' s' t' h2;rw[hv]at a1;rw[di]at c1;obtain rfl:=ai4 a1;obtain rfl:=ai4 c1;obtain⟨p,s0,t0,d1,d2,d3,d4⟩:=a5 k hk;obtain⟨p',s0',t0',e1,e2,e3,e4⟩:=c5 k dO;refine qa.apart p p' _ _ _ _ _ _ (fun e=>bN ?_) d2 e2 d3 e3 k d4 e4;subst e;exact sH Aq d1 e1
  .obtain⟨u,a1,_,_,_,a5⟩:=SP o s t h1;obtain⟨q1,q2,u',c1,c2,_,_,c6,_⟩:=wT o' s' t' h2;rw[c6]at dO;rw[hv]at a1;rw[di]at c2;obtain rfl:=ai4 a1;obtain rfl:=ai4 c2;obtain⟨p,s0,t0,d1,d2,d3,d4⟩:=a5 k hk;exact qa.apart p o' _ _ _ _ _ _ (fun e=>q1 (e▸jd d1)) d2 q2 d3 c1 k d4 dO
  .obtain⟨u,a1,_,_,_,a5⟩:=SP o' s' t' h2;obtain⟨q1,q2,u',c1,c2,_,_,c6,_⟩:=wT o s t h1;rw[c6]at hk;rw[di]at a1;rw[hv]at c2;obtain rfl:=ai4 a1;obtain rfl:=ai4 c2;obtain⟨p,s0,t0,d1,d2,d3,d4⟩:=a5 k dO;exact qa.apart o p _ _ _ _ _ _ (fun e=>q1 (e▸jd d1)) q2 d2 c1 d3 k hk d4
  .obtain⟨q1,q2,u,c1,c2,_,_,c6,_⟩:=wT o s t h1;obtain⟨q1',q2',u',Vb,SQ,_,_,c6',_⟩:=wT o' s' t' h2;rw[c6]at hk;rw[c6']at dO;rw[hv]at c2;rw[di]at SQ;obtain rfl:=ai4 c2;obtain rfl:=ai4 SQ;exact qa.apart o o' _ _ _ _ _ _ bN q2 q2' c1 Vb k hk dO
end
end Go.Proofs.YtilaieogabgamaaGreatDoor
end
section
open _root_.Go.Addr.mk renaming injEq->akB
open _root_.List.cons renaming injEq->aka
open _root_.List renaming getD->ajD,length_cons->ajk
open _root_.Nat renaming add_zero->aj7,beq->aje,le_refl->ai8
open _root_.Option.some renaming inj->ai4,injEq->ajg
open _root_.Prod.mk renaming injEq->aj3
open _root_.Go.Value.slice renaming injEq->akr
namespace Go.Proofs.YtilaieogabgamaaGreatDoor
open Go Go.RowKit
structure bp where
 inn:JS
 out:JS
 fn:cx inn.rows->Option (cx out.rows)
def w5:List Value->Value
 |[v]=>v
 |vs=> .tuple vs.toArray
structure aq(P:Program)(f:FuncId)(sg:bp):Prop where
 fn:∃fn,P.funcs[f]? =some fn/\(fn.name== "runtime.NumGoroutine")=false/\fn.body.isNone=false
 ok:∀x y,sg.fn x=some y->∀(args:List Value)(w:World)(H:ao)(F G:Nat->Prop),args.length=sg.inn.ah.length->
  (∀t d,find (cS sg.inn.ah (cY _ x)).1 t=some d->ai H F w d (args.getD t undef))->
  au (fun k=>w.heap.size<=k\/G k) H F w (find (gi 0 sg.inn.objs (cS sg.inn.ah (cY _ x)).2)) sg.inn.nxt->gJ H sg.inn.nxt->(∀k,G k->¬F k)->
  Calls P f args.toArray w fun e w'=>∃vs,e= .returned (w5 vs)/\vs.length=sg.out.ah.length/\∃H' F',Ext G w w'/\H.le H'/\(∀b,F b->F' b)/\(∀b,F' b->F b\/w.heap.size<=b\/G b)/\
   (∀t d,find (cS sg.out.ah (cY _ y)).1 t=some d->ai H' F' w' d (vs.getD t undef))/\
   au (fun k=>w.heap.size<=k\/G k) H' F' w' (find (gi sg.inn.nxt sg.out.objs (cS sg.out.ah (cY _ y)).2)) sg.out.nxt/\gJ H' sg.out.nxt
def Sh.qb(φ:Nat->Nat):Sh->Sh
 | .leaf r=> .leaf r
 | .own j=> .own (φ j)
 | .nil=> .nil
 | .pair a b=> .pair (a.qb φ) (b.qb φ)
 | .junk n=> .junk n
def SS.qb(φ:Nat->Nat):SS->SS
 | .val agg t=> .val agg (t.qb φ)
 | .ptr j p off=> .ptr (φ j) p off
 | .at r=> .at r
 | .undef=> .undef
 | .fn f js=> .fn f (js.map fun c=>(φ c.1,c.2))
 | .ifc T s=> .ifc T (s.qb φ)
def OS.qb(φ:Nat->Nat):OS->OS
 | .box T t=> .box T (t.qb φ)
 | .own T r=> .own T r
 | .map T K agg V=> .map T K agg V
 | .deep T d=> .deep T d
 | .dmap T K E r=> .dmap T K E r
def rp(φ:Nat->Nat):List (Nat×SS)->List (Nat×SS)
 |[]=>[]
 |(t,s)::l=>(t,s.qb φ)::rp φ l
def Bb(φ:Nat->Nat):List (Nat×OS)->List (Nat×OS)
 |[]=>[]
 |(j,s)::l=>(φ j,s.qb φ)::Bb φ l
def Row.Bc:Row->Bool
 | .slice _=>false
 | .map .. =>false
 | .pair a b=>a.Bc&&b.Bc
 |_=>true
def DR.iF(p:Row->Bool):DR->Bool
 | .leaf r=>p r
 | .sl _ d=>d.iF p
 | .pair a b=>a.iF p&&b.iF p
def Sh.iF(p:Row->Bool):Sh->Bool
 | .leaf r=>p r
 | .pair a b=>a.iF p&&b.iF p
 |_=>true
def SS.iF(p:Row->Bool):SS->Bool
 | .val _ t=>t.iF p
 | .at r=>p (.slice r)
 | .ifc _ s=>s.iF p
 |_=>true
def OS.iF(p:Row->Bool):OS->Bool
 | .box _ t=>t.iF p
 | .own _ r=>p r
 | .map _ _ _ V=>p V
 | .deep _ d=>d.iF p
 | .dmap _ _ _ r=>p r
def qA(p:Row->Bool):List (Nat×SS)->Bool
 |[]=>true
 |(_,s)::l=>s.iF p&&qA p l
def xR(p:Row->Bool):List (Nat×OS)->Bool
 |[]=>true
 |(_,s)::l=>s.iF p&&xR p l
section
variable {H H':ao} {F F':Nat->Prop} {w w':World} {φ:Nat->Nat} {p:Row->Bool}
theorem cA.DA:{r:Row}->{cs:List Value}->{x:r.den}->r.Bc=true->cA F w r cs x->cA F' w' r cs x
 | .int _,_,_,_,h=>h
 | .bool,_,_,_,h=>h
 | .str,_,_,_,h=>h
 | .jJ,_,_,_,h=>h
 | .nul _,_,_,_,h=>h
 | .map ..,_,_,hf,_=>by cases hf
 | .slice _,_,_,hf,_=>by cases hf
 | .pair a b,_,_,hf,h=>by
   obtain⟨c1,c2,e,h1,h2⟩:=h;obtain⟨f1,f2⟩:=cO hf;exact⟨c1,c2,e,cA.DA f1 h1,cA.DA f2 h2⟩
def Ren(H H':ao)(φ:Nat->Nat):Prop:=∀j v,H.val j=some v->H'.val (φ j)=some v
def rq(p:Row->Bool)(F F':Nat->Prop)(w:World):Prop:=∀r,p r=true->∀cs x,cA F w r cs x->cA F' w r cs x
theorem oK:(sh:Sh)->(vs:List ik)->(ou (sh.qb φ) vs).2=(ou sh vs).2
 | .leaf r,[]=>rfl
 | .leaf r,_::_=>rfl
 | .own j,vs=>rfl
 | .nil,vs=>rfl
 | .pair a b,vs=>by
   show(ou (b.qb φ) (ou (a.qb φ) vs).2).2=_
   rw[oK a,oK b];rfl
 | .junk _,_=>rfl
theorem xS(s:SS)(vs:List ik):(dY (s.qb φ) vs).2=(dY s vs).2:=by
 induction s with
 |ifc T s ih=>exact ih
 |val agg t=>exact oK t vs
 |ptr j p off=>rfl
 |«at» r=>cases vs<;>rfl
 |undef=>rfl
 |fn f js=>rfl
theorem xT(s:OS)(vs:List ik):(bX (s.qb φ) vs).2=(bX s vs).2:=by
 cases s with
 |box T t=>exact oK t vs
 |own T r=>rfl
 |map T K agg V=>rfl
 |deep T d=>rfl
 |dmap T K E r=>rfl
theorem Be:(l:List (Nat×SS))->(vs:List ik)->(cS (rp φ l) vs).2=(cS l vs).2
 |[],_=>rfl
 |(t,s)::l,vs=>by
  show(cS (rp φ l) (dY (s.qb φ) vs).2).2=(cS l (dY s vs).2).2
  rw[xS,Be l]
theorem rr(hr:Ren H H' φ)(hm:rq p F F' w):{sh:Sh}->{vs:List ik}->{cs:List Value}->sh.iF p=true->Holds H F w (ou sh vs).1 cs->Holds H' F' w (ou (sh.qb φ) vs).1 cs
 | .leaf r,[],cs,_,h=>h
 | .leaf r,⟨s,x⟩::vs,cs,hp,h=>by
   have h':Holds H F w (bif s.beq r then Tree.leaf s x else .nil) cs:=h
   show Holds H' F' w (bif s.beq r then Tree.leaf s x else .nil) cs
   cases hb:s.beq r with
   |true=>
    rw[hb,cond_true]at h';obtain rfl:=Row.eq_of_beq hb;exact hm _ hp _ _ h'
   |false=>rw[hb]at h';exact h'
 | .own j,vs,cs,_,h=>by obtain⟨v,h1,h2⟩:=h;exact⟨v,hr j v h1,h2⟩
 | .nil,vs,cs,_,h=>h
 | .pair a b,vs,cs,hp,h=>by
   obtain⟨c1,c2,e,h1,h2⟩:=h;obtain⟨p1,p2⟩:=cO hp;refine⟨c1,c2,e,rr hr hm p1 h1,?_⟩;rw[oK a];exact rr hr hm p2 h2
 | .junk _,vs,cs,_,h=>h
theorem kJ.qb(hr:Ren H H' φ):{cs:List (Nat×List Bool×Nat)}->{vs:List Value}->kJ H cs vs->kJ H' (cs.map fun c=>(φ c.1,c.2)) vs
 |[],_,h=>h
 |_::_,_,h=>by obtain⟨v,us,e,⟨b,h1,h2⟩,h3⟩:=h;exact⟨v,us,e,⟨b,hr _ _ h1,h2⟩,kJ.qb hr h3⟩
theorem Hb(hr:Ren H H' φ)(hm:rq p F F' w){s:SS}{vs:List ik}{v:Value}(hp:s.iF p=true)(h:ai H F w (dY s vs).1 v):ai H' F' w (dY (s.qb φ) vs).1 v:=by
 induction s generalizing v with
 |ifc T s ih=>
  obtain⟨u,e,h2⟩:=h;exact⟨u,e,ih hp h2⟩
 |val agg t=>
  obtain⟨cs,h1,h2⟩:=h;exact⟨cs,rr hr hm hp h1,h2⟩
 |ptr j p off=>
  obtain⟨b,h1,h2⟩:=h;exact⟨b,hr _ _ h1,h2⟩
 |«at» r=>
  match vs,h with
  |[],h=>exact h
  |⟨s,x⟩::vs,h=>
   have h':ai H F w (bif s.beq r then ak.at s x else .dead) v:=h
   show ai H' F' w (bif s.beq r then ak.at s x else .dead) v
   cases hb:s.beq r with
   |false=>trivial
   |true=>
    rw[hb,cond_true]at h';obtain rfl:=Row.eq_of_beq hb;obtain⟨b,off,rfl,hF,es,h1,h2,h3⟩:=h'
    have fO:cA F w (.slice s) [.slice (some ⟨b,off,none⟩) 1 1] [x]:=⟨some ⟨b,off,none⟩,1,rfl,ai8 _,by unfold maxLen;omega,fun i hi=>by
     have e:i=0:=by simp at hi;omega
     subst e
     exact⟨b,off,es,rfl,hF,h1,fun j u hu=>by rw[Nat.zero_mul,aj7];exact h2 j u hu,h3⟩⟩
    obtain⟨A,cap,e1,_,_,qW⟩:=hm (.slice s) hp _ _ fO;obtain⟨b',dx,mw,hA,g1,g2,g3,g4⟩:=qW 0 (by simp);simp only[aka,akr,and_true]at e1;obtain⟨e1,_,_⟩:=e1;rw[<-e1]at hA;simp only[ajg,akB,and_true]at hA;obtain⟨rfl,rfl⟩:=hA;exact⟨b,off,rfl,g1,mw,g2,fun j u hu=>by have:=g3 j u hu;rwa [Nat.zero_mul,aj7]at this,g4⟩
 |undef=>exact h
 |fn f js=>
  obtain⟨us,h1,h2⟩:=h;exact⟨us,h1,h2.qb hr⟩
theorem lD.om{K:Row}{agg:Bool}{V:Row}(hm:∀cs x,cA F w V cs x->cA F' w' V cs x):{es:List MapEntry}->{l:List (K.den×V.den)}->lD H F w K agg V es l->lD H' F' w' K agg V es l
 |[],_,h=>h
 |_::_,_,h=>by
  obtain⟨k,x,l',e,h1,⟨cs,h2,Jm⟩,h3⟩:=h;exact⟨k,x,l',e,h1,⟨cs,hm _ _ h2,Jm⟩,lD.om hm h3⟩
theorem cA.vx(hm:rq p F F' w):{d:DR}->{cs:List Value}->{x:d.low.den}->d.iF p=true->cA F w d.low cs x->cA F' w d.low cs x
 | .leaf r,_,_,hp,h=>hm r hp _ _ h
 | .sl _ _,_,_,_,h=>h
 | .pair a b,_,_,hp,h=>by
   obtain⟨p1,p2⟩:=cO hp;obtain⟨c1,c2,e,h1,h2⟩:=h;exact⟨c1,c2,e,cA.vx hm p1 h1,cA.vx hm p2 h2⟩
theorem jG.om(hm:rq p F F' w){d:DR}(hp:d.iF p=true){T:TypeId}{v:Value}{l:List d.low.den}(h:jG F w T d.low v l):jG F' w T d.low v l:=by
 obtain⟨xs,h1,h2⟩:=h;exact⟨xs,h1,fun i hi=>cA.vx hm hp (h2 i hi)⟩
theorem jH.om(hm:rq p F F' w):{d:DR}->{x':d.low.den}->{x:d.row.den}->{S:Nat->Prop}->d.iF p=true->jH F w d x' x S->jH F' w d x' x S
 | .leaf _,_,_,_,_,h=>h
 | .sl _ d,_,_,_,hp,h=>by
   obtain⟨lh,Ss,h1,h2,h3,h4⟩:=h;exact⟨lh,Ss,h1.om hm (show d.iF p=true from hp),h2,fun i a b=>jH.om hm (show d.iF p=true from hp) (h3 i a b),h4⟩
 | .pair a b,_,_,_,hp,h=>by
   obtain⟨p1,p2⟩:=cO hp;obtain⟨A,B,h1,h2,h3⟩:=h;exact⟨A,B,jH.om hm p1 h1,jH.om hm p2 h2,h3⟩
theorem DB(T:TypeId)(d:DR):(vs:List ik)->∃l,(bX (.deep T d) vs).1= .deep T d l none
 |[]=>⟨[],rfl⟩
 |⟨.slice s,l⟩::vs=>by
  unfold bX;simp only
  split<;>exact⟨_,rfl⟩
 |⟨.int _,_⟩::_|⟨.bool,_⟩::_|⟨.str,_⟩::_|⟨.jJ,_⟩::_|⟨.nul _,_⟩::_|⟨.pair _ _,_⟩::_|⟨.map ..,_⟩::_=>⟨[],rfl⟩
theorem Hc(T:TypeId)(K:Row)(agg:Bool)(V:Row):(vs:List ik)->∃l,(bX (.map T K agg V) vs).1= .map T K agg V l
 |[]=>⟨[],rfl⟩
 |⟨.slice (.pair K' V'),l⟩::vs=>by
  unfold bX;simp only
  split<;>exact⟨_,rfl⟩
 |⟨.slice (.int _),_⟩::_|⟨.slice .bool,_⟩::_|⟨.slice .str,_⟩::_|⟨.slice (.slice _),_⟩::_|⟨.slice .jJ,_⟩::_|⟨.slice (.nul _),_⟩::_|⟨.slice (.map ..),_⟩::_=>⟨[],rfl⟩
 |⟨.int _,_⟩::_|⟨.bool,_⟩::_|⟨.str,_⟩::_|⟨.jJ,_⟩::_|⟨.nul _,_⟩::_|⟨.pair _ _,_⟩::_|⟨.map ..,_⟩::_=>⟨[],rfl⟩
theorem fH.om(hm:rq p F F' w){K:Row}{E:TypeId}{r:Row}(hp:p r=true):{es:List MapEntry}->{l:List (K.den×List r.den)}->{S:Nat->Prop}->fH H F w K E r none es l S->fH H' F' w K E r none es l S
 |[],_,_,h=>h
 |_::_,_,_,h=>by
  obtain⟨k,y,l',A,B,e,h1,⟨⟨xs,h2,h3⟩,h4⟩,h5,h6⟩:=h;exact⟨k,y,l',A,B,e,h1,⟨⟨xs,h2,fun i hi=>hm r hp _ _ (h3 i hi)⟩,h4⟩,fH.om hm hp h5,h6⟩
theorem DC(T:TypeId)(K:Row)(E:TypeId)(r:Row):(vs:List ik)->∃l,(bX (.dmap T K E r) vs).1= .dmap T K E r l none
 |[]=>⟨[],rfl⟩
 |⟨.slice (.pair K' (.slice s)),l⟩::vs=>by
  unfold bX;simp only
  split<;>exact⟨_,rfl⟩
 |⟨.slice (.pair _ (.int _)),_⟩::_|⟨.slice (.pair _ .bool),_⟩::_|⟨.slice (.pair _ .str),_⟩::_|⟨.slice (.pair _ .jJ),_⟩::_|⟨.slice (.pair _ (.nul _)),_⟩::_|⟨.slice (.pair _ (.pair _ _)),_⟩::_|⟨.slice (.pair _ (.map ..)),_⟩::_=>⟨[],rfl⟩
 |⟨.slice (.int _),_⟩::_|⟨.slice .bool,_⟩::_|⟨.slice .str,_⟩::_|⟨.slice (.slice _),_⟩::_|⟨.slice .jJ,_⟩::_|⟨.slice (.nul _),_⟩::_|⟨.slice (.map ..),_⟩::_=>⟨[],rfl⟩
 |⟨.int _,_⟩::_|⟨.bool,_⟩::_|⟨.str,_⟩::_|⟨.jJ,_⟩::_|⟨.nul _,_⟩::_|⟨.pair _ _,_⟩::_|⟨.map ..,_⟩::_=>⟨[],rfl⟩
theorem sJ(hr:Ren H H' φ)(hm:rq p F F' w){s:OS}{vs:List ik}{S:Nat->Prop}{v:Value}(hp:s.iF p=true)(h:il H F w S v (bX s vs).1):
 il H' F' w S v (bX (s.qb φ) vs).1/\(bX (s.qb φ) vs).1.base=(bX (s.qb φ) vs).1/\(∀k,fp S v (bX (s.qb φ) vs).1 k->fp S v (bX s vs).1 k):=by
 have own:∀(T:TypeId)(q:Row)(l:List q.den),p q=true->il H F w S v (.own T q l)->il H' F' w S v (.own T q l):=fun T q l hq ⟨xs,hx,h3⟩=>⟨xs,hx,fun i hi=>hm q hq _ _ (h3 i hi)⟩
 cases s with
 |box T t=>
  obtain⟨b,es,e,h1,h2⟩:=h;exact⟨⟨b,es,e,h1,rr hr hm hp h2⟩,rfl,fun k hk=>hk⟩
 |own T r=>
  match vs,h with
  |[],h=>exact⟨own T r [] hp h,rfl,fun _ h=>h⟩
  |⟨.slice s,l⟩::vs,h=>
   have h':il H F w S v (bif s.beq r then Th.own T s l else .own T r []):=h
   show il H' F' w S v (bif s.beq r then Th.own T s l else .own T r [])/\Th.base (bif s.beq r then Th.own T s l else .own T r [])=(bif s.beq r then Th.own T s l else .own T r [])/\∀k,fp S v (bif s.beq r then Th.own T s l else .own T r []) k->fp S v (bif s.beq r then Th.own T s l else .own T r []) k
   cases hb:s.beq r with
   |true=>
    rw[hb,cond_true]at h';obtain rfl:=Row.eq_of_beq hb;exact⟨own T s l hp h',rfl,fun _ h=>h⟩
   |false=>
    rw[hb,cond_false]at h';exact⟨own T r [] hp h',rfl,fun _ h=>h⟩
  |⟨.int _,_⟩::vs,h=>exact⟨own T r [] hp h,rfl,fun _ h=>h⟩
  |⟨.bool,_⟩::vs,h=>exact⟨own T r [] hp h,rfl,fun _ h=>h⟩
  |⟨.str,_⟩::vs,h=>exact⟨own T r [] hp h,rfl,fun _ h=>h⟩
  |⟨.jJ,_⟩::vs,h=>exact⟨own T r [] hp h,rfl,fun _ h=>h⟩
  |⟨.nul _,_⟩::vs,h=>exact⟨own T r [] hp h,rfl,fun _ h=>h⟩
  |⟨.map ..,_⟩::vs,h=>exact⟨own T r [] hp h,rfl,fun _ h=>h⟩
  |⟨.pair _ _,_⟩::vs,h=>exact⟨own T r [] hp h,rfl,fun _ h=>h⟩
 |map T K agg V=>
  have gen:∀l:List (K.den×V.den),il H F w S v (.map T K agg V l)->il H' F' w S v (.map T K agg V l):=by
   rintro l ⟨b,es,clock,e,h1,h2,h3⟩
   exact⟨b,es,clock,e,h1,h2,lD.om (fun cs x hr=>hm V hp cs x hr) h3⟩
  obtain⟨l,hl⟩:=Hc T K agg V vs
  show il H' F' w S v (bX (OS.map T K agg V) vs).1/\(bX (OS.map T K agg V) vs).1.base=(bX (OS.map T K agg V) vs).1/\∀k,fp S v (bX (OS.map T K agg V) vs).1 k->fp S v (bX (OS.map T K agg V) vs).1 k
  rw[hl]at h⊢;exact⟨gen l h,rfl,fun _ h=>h⟩
 |deep T d=>
  obtain⟨l,hl⟩:=DB T d vs
  show il H' F' w S v (bX (OS.deep T d) vs).1/\(bX (OS.deep T d) vs).1.base=(bX (OS.deep T d) vs).1/\∀k,fp S v (bX (OS.deep T d) vs).1 k->fp S v (bX (OS.deep T d) vs).1 k
  rw[hl]at h⊢;refine⟨?_,rfl,fun _ h=>h⟩;have h':jH F w (.sl T d) v l S:=h;exact(jH.om (d:= .sl T d) hm hp h':jH F' w (.sl T d) v l S)
 |dmap T K E r=>
  obtain⟨l,hl⟩:=DC T K E r vs
  show il H' F' w S v (bX (OS.dmap T K E r) vs).1/\(bX (OS.dmap T K E r) vs).1.base=(bX (OS.dmap T K E r) vs).1/\∀k,fp S v (bX (OS.dmap T K E r) vs).1 k->fp S v (bX (OS.dmap T K E r) vs).1 k
  rw[hl]at h⊢;refine⟨?_,rfl,fun _ h=>h⟩;obtain⟨b,es,clock,B,e,h1,h2,h3,h4,_⟩:=h;exact⟨b,es,clock,B,e,h1,h2,h3.om hm hp,h4,fun _ _ e=>by cases e⟩
theorem xU:{l:List (Nat×SS)}->{vs:List ik}->{t:Nat}->{d:ak}->qA p l=true->find (cS (rp φ l) vs).1 t=some d->∃s us,d=(dY (s.qb φ) us).1/\find (cS l vs).1 t=some (dY s us).1/\s.iF p=true
 |[],_,_,_,_,h=>by cases h
 |(t0,s)::l,vs,t,d,hp,h=>by
  obtain⟨p1,p2⟩:=cO hp;have h':find ((t0,(dY (s.qb φ) vs).1)::(cS (rp φ l) (dY (s.qb φ) vs).2).1) t=some d:=h
  show∃s' us,d=_/\find ((t0,(dY s vs).1)::(cS l (dY s vs).2).1) t=_/\_
  rw[aA]at h';by_cases e:t0=t
  .rw[if_pos e]at h';exact⟨s,vs,(ai4 h').symm,by rw[aA,if_pos e],p1⟩
  .rw[if_neg e]at h';rw[xS]at h';obtain⟨s',us,a1,a2,a3⟩:=xU p2 h';exact⟨s',us,a1,by rw[aA,if_neg e];exact a2,a3⟩
theorem J6(hr:Ren H H' φ)(hm:rq p F F' w){ρ:Nat->Value}{l:List (Nat×SS)}{vs:List ik}(hp:qA p l=true)(h:∀t d,find (cS l vs).1 t=some d->ai H F w d (ρ t)):∀t d,find (cS (rp φ l) vs).1 t=some d->ai H' F' w d (ρ t):=by
 intro t d hf;obtain⟨s,us,rfl,h2,h3⟩:=xU hp hf;exact Hb hr hm h3 (h t _ h2)
theorem Bf{m m':Nat}:{l:List (Nat×OS)}->{vs:List ik}->{o s:Nat}->{t:Th}->find (gi m (Bb φ l) vs) o=some (s,t)->∃j s' us sh,φ j=o/\t=(bX (sh.qb φ) us).1/\find (gi m' l vs) j=some (s',(bX sh us).1)/\(xR p l=true->sh.iF p=true)/\rn (gi m (Bb φ l) vs) s=some t/\m<=s/\s<m+l.length/\s'=s-m+m'
 |[],_,_,_,_,h=>by cases h
 |(j,sh)::l,vs,o,s,t,h=>by
  have h':find ((φ j,(m,(bX (sh.qb φ) vs).1))::gi (m+1) (Bb φ l) (bX (sh.qb φ) vs).2) o=some (s,t):=h;rw[aA]at h';split at h'
  .rename_i e;simp only[ajg,aj3]at h';obtain⟨rfl,rfl⟩:=h';refine⟨j,m',vs,sh,e,rfl,?_,fun hp=>(cO hp).1,?_,ai8 _,by simp,by omega⟩
   .show find ((j,(m',(bX sh vs).1))::_) j=_
    rw[aA,if_pos rfl]
   .show(bif aje m m then _ else _)=_
    simp
  .rename_i e;rw[xT]at h';obtain⟨j',s',us,sh',a1,a2,a3,a4,a5,a6,a7,a8⟩:=Bf (m':=m'+1) h';refine⟨j',s',us,sh',a1,a2,?_,fun hp=>a4 (cO hp).2,?_,by omega,by rw[ajk];omega,by omega⟩
   .show find ((j,(m',(bX sh vs).1))::gi (m'+1) l (bX sh vs).2) j'=_
    rw[aA,if_neg (fun e'=>e (by rw[e',a1]))];exact a3
   .show(bif aje m s then _ else rn (gi (m+1) (Bb φ l) (bX (sh.qb φ) vs).2) s)=_
    have:aje m s=false:=by
     cases hb:aje m s with
     |false=>rfl
     |true=>have:=beq_true hb;omega
    rw[this,cond_false,xT];exact a5
def DD:List (Nat×ak)->Option (List (Bool×Tree))
 |[]=>some []
 |(_, .val a t)::l=>match DD l with
  |some ds=>some ((a,t)::ds)
  |none=>none
 |_::_=>none
def J7:List (Nat×ak)->Option ak
 |[]=>some .dead
 |[(_,d)]=>some d
 |l=>match DD l with
  |some ds=>some (.tup ds)
  |none=>none
def rv:Nat->List (Nat×SS)->Bool
 |_,[]=>true
 |k,(t,_)::l=>aje t k&&rv (k+1) l
theorem Fb:{l:List (Nat×SS)}->{vs:List ik}->{k t:Nat}->{d:ak}->rv k l=true->find (cS l vs).1 t=some d->k<=t
 |[],_,_,_,_,_,h=>by cases h
 |(t0,s)::l,vs,k,t,d,hi,h=>by
  obtain⟨h1,h2⟩:=cO hi;have h':find ((t0,(dY s vs).1)::(cS l (dY s vs).2).1) t=some d:=h;rw[aA]at h';have:=beq_true h1;split at h'
  .omega
  .have:=Fb h2 h';omega
theorem J8{f:Nat->Value}:{l:List (Nat×SS)}->{vs:List ik}->{k:Nat}->{ds:List (Bool×Tree)}->rv k l=true->(∀t d,find (cS l vs).1 t=some d->ai H F w d (f t))->DD (cS l vs).1=some ds->q7 H F w ds ((List.range' k l.length).map f)
 |[],_,_,_,_,_,h=>by cases h;rfl
 |(t0,s)::l,vs,k,ds,hi,my,h=>by
  obtain⟨h1,h2⟩:=cO hi;obtain rfl:=beq_true h1;have h':DD ((t0,(dY s vs).1)::(cS l (dY s vs).2).1)=some ds:=h;have SR:∀t d,find ((t0,(dY s vs).1)::(cS l (dY s vs).2).1) t=some d->ai H F w d (f t):=my;have h0:=SR t0 _ (by rw[aA,if_pos rfl]);generalize(dY s vs).1=d0 at*
  cases d0<;>unfold DD at h'<;>try cases h'
  rename_i a t
  split at h'<;>cases h'
  rename_i U7 uw;refine⟨f t0,(List.range' (t0+1) l.length).map f,by simp[List.range'_succ],h0,J8 h2 (fun t d hf=>SR t d ?_) uw⟩;have:=Fb h2 hf;rw[aA,if_neg (by omega)];exact hf
theorem Bg:{l:List (Nat×SS)}->{k:Nat}->rv k (rp φ l)=rv k l
 |[],_=>rfl
 |(t,s)::l,k=>by
  show(aje t k&&rv (k+1) (rp φ l))=_
  rw[Bg];rfl
theorem tH:{l:List (Nat×SS)}->(rp φ l).length=l.length
 |[]=>rfl
 |(t,s)::l=>by
  show(rp φ l).length+1=l.length+1
  rw[tH]
theorem DE(us:List Value):(List.range' 0 us.length).map (fun t=>us.getD t undef)=us:=by
 apply List.ext_getElem (by simp);intro i h1 h2;simp[ajD,h2]
theorem Pu{l:List (Nat×SS)}{vs:List ik}{us:List Value}{D:ak}(hi:rv 0 l=true)(hl:us.length=l.length)(my:∀t d,find (cS l vs).1 t=some d->ai H F w d (us.getD t undef))(h:J7 (cS l vs).1=some D):ai H F w D (w5 us):=by
 have tup:∀ds,DD (cS l vs).1=some ds->us.length≠1->ai H F w (.tup ds) (w5 us):=by
  intro ds uw bN;have:=J8 hi my uw;rw[<-hl,DE]at this;refine⟨us,?_,this⟩
  match us,bN with
  |[],_=>rfl
  |[_],h=>exact absurd rfl h
  |_::_::_,_=>rfl
 match l,hl,h with
 |[],_,h=>obtain rfl:=ai4 h;trivial
 |[(t,s)],hl,h=>
  have h':J7 [(t,(dY s vs).1)]=some D:=h;obtain rfl:=ai4 h';have ht:=beq_true (cO hi).1
  match us,hl with
  |[u],_=>
   have:=my t (dY s vs).1 (by
    show find [(t,(dY s vs).1)] t=_
    rw[aA,if_pos rfl])
   rw[ht]at this;exact this
 |(t,s)::(t',s')::l,hl,h=>
  have h':(match DD (cS ((t,s)::(t',s')::l) vs).1 with|some ds=>some (ak.tup ds)|none=>none)=some D:=h;split at h'
  .rename_i ds uw;obtain rfl:=ai4 h';exact tup ds uw (by simp at hl;omega)
  .cases h'
end
end Go.Proofs.YtilaieogabgamaaGreatDoor
end
section
open _root_.List renaming append_nil->ajW
open _root_.Nat renaming beq->aje,blt->ajX,le_refl->ai8,lt_of_lt_of_le->ajJ
open _root_.Option renaming isSome_iff_exists->ajH,none_or->akc
open _root_.Option.some renaming inj->ai4,injEq->ajg
open _root_.Prod.mk renaming injEq->aj3
namespace Go.Proofs.YtilaieogabgamaaGreatDoor
open Go Go.RowKit
def gQ:Nat->List ak->List (Nat×ak)
 |_,[]=>[]
 |k,d::ds=>(k,d)::gQ (k+1) ds
def Ol(n:Nat)(bs:Bs)(aM:List (Nat×(Nat×Th)))(m:Nat)(j:Nat):Nat:=
 bif ajX j m then(match find bs j with
  |some (some o)=>(match find aM o with
   |some _=>o
   |none=>n+j)
  |_=>n+j)else n+j
def oo(aM:List (Nat×(Nat×Th))):List Nat->List (Nat×(Nat×Th))
 |[]=>[]
 |o::os=>match find aM o with
  |some (s,t)=>bif dP t then(o,(s,t))::oo aM os else oo aM os
  |none=>oo aM os
def always(_:Row):Bool:=true
def Fc(sg:bp):Bool:=qA Row.Bc sg.out.ah&&xR Row.Bc sg.out.objs
def sK{R:Type}(sg:bp)(n:Nat)(bs:Bs)(aM:List (Nat×(Nat×Th)))(nd:List Nat)(y:cx sg.out.rows)(k:dN->Option R):Option R:=
 match J7 (cS (rp (Ol n bs aM sg.inn.nxt) sg.out.ah) (cY _ y)).1 with
 |some D=>bif Fc sg then k {dst:=D,eat:=gw bs,make:=gi n (Bb (Ol n bs aM sg.inn.nxt) sg.out.objs) (cS (rp (Ol n bs aM sg.inn.nxt) sg.out.ah) (cY _ y)).2}
   else k {dst:=D,eat:=gw bs++nd,make:=gi n (Bb (Ol n bs aM sg.inn.nxt) sg.out.objs) (cS (rp (Ol n bs aM sg.inn.nxt) sg.out.ah) (cY _ y)).2++oo aM nd}
 |none=>none
def nW{R:Type}(objs:List (Nat×(Nat×Th)))(n:Nat)(f:FuncId)(ds:List ak)(k:dN->Option R):List (Nat×bp)->Option R
 |[]=>none
 |(g,sg)::tab=>bif aje g f then(match xP 0 [] sg.inn (gQ 0 ds) objs with
    |some (x,bs,aM)=>bif aje ds.length sg.inn.ah.length&&rv 0 sg.out.ah&&Nat.ble sg.out.nxt 16&&Nat.ble sg.out.objs.length 16&&(qA always sg.out.ah)then
      (sg.fn x).bind fun y=>sK sg n bs aM (xO 0 sg.inn (gQ 0 ds) objs) y k else none
    |none=>nW objs n f ds k tab)else nW objs n f ds k tab
def SU(c:Nat×List Bool×Nat):ak:= .ptr c.1 c.2.1 c.2.2
theorem vy{H:ao}{F:Nat->Prop}{w:World}:{cs:List (Nat×List Bool×Nat)}->{vs:List Value}->kJ H cs vs->fc H F w (cs.map SU) vs
 |[],_,h=>h
 |_::_,_,h=>by obtain⟨v,us,e,h1,h3⟩:=h;exact⟨v,us,e,h1,vy h3⟩
theorem ry{H:ao}{F:Nat->Prop}{w:World}:{ds es:List ak}->{vs us:List Value}->fc H F w ds vs->fc H F w es us->fc H F w (ds++es) (vs++us)
 |[],_,vs,_,h,h'=>by rw[show vs=[]from h];exact h'
 |_::_,_,_,_,h,h'=>by obtain⟨v,us,rfl,h1,h2⟩:=h;exact⟨v,_,rfl,h1,ry h2 h'⟩
def Fe(rd:Operand->Option ak)(x:Operand):Option (FuncId×List (Nat×List Bool×Nat)):=
 match rd x with
 |some (.fn f caps)=>some (f,caps)
 |_=>none
def xV{R:Type}(tab:List (Nat×bp))(rd:Operand->Option ak)(objs:List (Nat×(Nat×Th)))(n:Nat)(x:Operand)(args:List Operand)(k:dN->Option R):Option R:=
 match Fe rd x with
 |some (f,caps)=>match rb rd args with
  |some ds=>nW objs n f (ds++caps.map SU) k tab
  |none=>none
 |none=>none
section
variable {P:Program} {ρ:Nat->Value} {w w':World} {H H':ao} {F F':Nat->Prop} {U:Nat->Prop} {n:Nat} {R:Type}
variable {ty:TypeId} {pos:String} {aft:Array Edge} {dst:Option Nat}
theorem oL:{ds:List ak}->{vs:List Value}->{k:Nat}->fc H F w ds vs->∀t d,find (gQ k ds) t=some d->k<=t/\ai H F w d (vs.getD (t-k) undef)
 |[],_,_,_,_,_,h=>by cases h
 |d0::ds,vs,k,h,t,d,hf=>by
  obtain⟨v,us,rfl,h1,h2⟩:=h;have pS:find ((k,d0)::gQ (k+1) ds) t=some d:=hf;rw[aA]at pS;split at pS
  .rename_i e;subst e;obtain rfl:=ai4 pS;exact⟨ai8 _,by simpa using h1⟩
  .obtain⟨h3,h4⟩:=oL h2 t d pS;refine⟨by omega,?_⟩;rw[show t-k=(t-(k+1))+1 from by omega];simpa using h4
theorem mb{aM:List (Nat×(Nat×Th))}:{nd:List Nat}->{o s:Nat}->{t:Th}->find (oo aM nd) o=some (s,t)->o∈nd/\find aM o=some (s,t)/\dP t=true
 |[],_,_,_,h=>by cases h
 |o0::nd,o,s,t,h=>by
  unfold oo at h;split at h
  .rename_i s0 t0 h0
   cases hb:dP t0 with
   |true=>
    rw[hb,cond_true,aA]at h;split at h
    .rename_i e;simp only[ajg,aj3]at h;obtain⟨rfl,rfl⟩:=h;subst e;exact⟨by simp,h0,hb⟩
    .obtain⟨a,b⟩:=mb h;exact⟨by simp[a],b⟩
   |false=>
    rw[hb,cond_false]at h;obtain⟨a,b⟩:=mb h;exact⟨by simp[a],b⟩
  .obtain⟨a,b⟩:=mb h;exact⟨by simp[a],b⟩
theorem rz:{l:List (Nat×OS)}->xR always l=true
 |[]=>rfl
 |(t,s)::l=>by
  have ht:∀sh:Sh,sh.iF always=true:=by
   intro sh
   induction sh with
   |leaf r=>rfl
   |own j=>rfl
   |nil=>rfl
   |junk n=>rfl
   |pair a b Wl Wm=>show(a.iF always&&b.iF always)=true;rw[Wl,Wm];rfl
  have:s.iF always=true:=by
   cases s with
   |box T t=>exact ht t
   |own T r=>rfl
   |map T K agg V=>rfl
   |deep T d=>
    have hd:∀d:DR,d.iF always=true:=by
     intro d
     induction d with
     |leaf r=>rfl
     |sl T d ih=>exact ih
     |pair a b Wl Wm=>show(a.iF always&&b.iF always)=true;rw[Wl,Wm];rfl
    exact hd d
   |dmap T K E r=>rfl
  show(s.iF always&&xR always l)=true
  rw[this,rz];rfl
def lC(H H':ao)(n:Nat)(cons:List (Nat×(Nat×Th)))(m0:Nat):ao where
 val m:=if n<=m/\m<n+16 then H'.val (m-n)else H.val m
 con m:=if n<=m/\m<n+16 then rn cons m else H.con m
 sub m:=if n<=m/\m<n+16 then H'.sub (m-n+m0)else H.sub m
theorem Hd{dd:Option Nat}{f:FuncId}{fn:Func}{g:Operand}{args:Array Operand}{vs us:List Value}{wJ:Array TypeId}(hf:P.funcs[f]? =some fn)(hn:(fn.name== "runtime.NumGoroutine")=false)(hb:fn.body.isNone=false)(V3:args.toList.map (ev ρ)=vs)(hg:ev ρ g= .func (.func f) #[] us.toArray):
 (execOp (ev ρ) ⟨dd, .call {callee:= .value g,args:=args,argTypes:=wJ},ty,pos,aft,none⟩).run P w= .ok (.enter f (vs++us).toArray) w:=by
 subst V3
 have Mi:¬fn.name= "runtime.NumGoroutine" :=by simpa using hn
 have p5:¬fn.body=none:=by
  intro e;rw[e]at hb;cases hb
 have e:(Array.map (ev ρ) args++us.toArray)=(args.toList.map (ev ρ)++us).toArray:=by simp
 simp[execOp,resolve,hg,Deferred.ofValue,invoke,callFunc,hf,Mi,p5,go_sem,e]
theorem He{sg:bp}{f:FuncId}(w6:aq P f sg){objs:List (Nat×(Nat×Th))}{op:Op}{k:dN->Option R}{q:R}{ds:List ak}{vs:List Value}{x:cx sg.inn.rows}{bs:Bs}{aM:List (Nat×(Nat×Th))}
 (xW:fc H F w ds vs)(bx:∀fn,P.funcs[f]? =some fn->(fn.name== "runtime.NumGoroutine")=false->fn.body.isNone=false->(execOp (ev ρ) ⟨dst,op,ty,pos,aft,none⟩).run P w= .ok (.enter f vs.toArray) w)(hs:au U H F w (find objs) n)
 (sL:xP 0 [] sg.inn (gQ 0 ds) objs=some (x,bs,aM))
 (h':(bif aje ds.length sg.inn.ah.length&&rv 0 sg.out.ah&&Nat.ble sg.out.nxt 16&&Nat.ble sg.out.objs.length 16&&(qA always sg.out.ah)then
   (sg.fn x).bind fun y=>sK sg n bs aM (xO 0 sg.inn (gQ 0 ds) objs) y k else none)=some q):
 ∃e,k e=some q/\cD P U H F w ρ (find objs) n ⟨dst,op,ty,pos,aft,none⟩ e:=by
 obtain⟨hc,h'⟩:=aD h';obtain⟨hc,hc5⟩:=cO hc;obtain⟨hc,RF⟩:=cO hc;obtain⟨hc,JH⟩:=cO hc;obtain⟨Aq,uo⟩:=cO hc;have Aq:=beq_true Aq
 have JH:sg.out.nxt<=16:=by simpa using JH
 have RF:sg.out.objs.length<=16:=by simpa using RF
 obtain⟨y,hy,h⟩:=bind_some h';clear h';obtain⟨⟨fn,hf1,hf2,hf3⟩,my⟩:=w6;have aci:=jK xW
 let H0:ao:=⟨fun _=>none,fun _=>none,fun _ _=>False⟩
 have MO:au U H0 F w (find (del [] [])) 0:=⟨fun _ _ _ h=>(by cases h),fun _ _ _ _ _ _ _ _ _ h=>(by cases h),fun _ _ _=>⟨rfl,rfl⟩,hs.lt,hs.new,hs.gl⟩
 have hk0:cz H0 F w H F w:=⟨⟨fun _ _ h=>(by cases h),fun _ _ h=>(by cases h),fun _ _ h=>(by cases h)⟩,Step.refl F w⟩
 have fO:∀t d,find (gQ 0 ds) t=some d->ai H F w d (vs.getD t undef):=fun t d hd=>by simpa using(oL xW t d hd).2
 obtain⟨F1,H1,qa,C0,L0,w4,Ba,sI,Fa,Pv,Bh⟩:=vw (U':=fun k=>w.heap.size<=k\/∃o∈gw bs,∃s t v,find aM o=some (s,t)/\H.val o=some v/\fp (H.sub s) v t k) (ns:=[]) (objs0:=[]) (ρ:=fun t=>vs.getD t undef) sL MO (fun _ _=>⟨rfl,rfl⟩) hk0 hs fO;have Bh:=Bh (fun b hb=> .inl hb) (fun o s t v k h1 h2 h3 h4=> .inr ⟨o,h1,s,t,v,h2,h3,h4⟩) (fun _ _ _ _ _ h=>by cases h);generalize hG:(fun k=>∃o∈gw bs,∃s t v,find aM o=some (s,t)/\H.val o=some v/\fp (H.sub s) v t k)=G
 have SV:∀k,G k->¬F1 k:=by
  rw[<-hG]
  rintro k ⟨o,_,s,t,v,h1,h2,h3⟩
  obtain⟨v',di,cc⟩:=qa.obj _ _ _ h1;rw[h2]at di;obtain rfl:=ai4 di;exact cc.no k h3
 have Wn:∀k,G k->cm H (find objs) (gw bs) k:=by
  rw[<-hG]
  rintro k ⟨o,ho,s,t,v,h1,h2,h3⟩
  rcases gP w4 o s t h1 with h4|h4
  .exact⟨o,ho,s,t,v,h4,h2,h3⟩
  .exact(gq h4 h3).elim
 have SW:au (fun k=>w.heap.size<=k\/G k) H1 F1 w (find (gi 0 sg.inn.objs (cS sg.inn.ah (cY sg.inn.rows x)).2)) sg.inn.nxt:=by
  rw[show del [] ([]:List (Nat×(Nat×Th)))=[]from rfl,ajW]at Bh;rw[<-hG];exact Bh
 have SX:=my x y hy vs w H1 F1 G (by omega) Pv SW Fa SV;generalize MC:xO 0 sg.inn (gQ 0 ds) objs=nd at h L0 w4;generalize Wo:Ol n bs aM sg.inn.nxt=φ at h;unfold sK at h;rw[Wo]at h;split at h
 case h_2=>cases h
 rename_i D hD
 have GY:∀(e:dN),e.dst=D->(∀(w':World)(us:List Value)(H':ao)(F':Nat->Prop),us.length=sg.out.ah.length->Ext G w w'->H1.le H'->(∀b,F1 b->F' b)->(∀b,F' b->F1 b\/w.heap.size<=b\/G b)->
  (∀t d,find (cS sg.out.ah (cY sg.out.rows y)).1 t=some d->ai H' F' w' d (us.getD t undef))->au (fun k=>w.heap.size<=k\/G k) H' F' w' (find (gi sg.inn.nxt sg.out.objs (cS sg.out.ah (cY sg.out.rows y)).2)) sg.out.nxt->gJ H' sg.out.nxt->kE H F w (find objs) n e (w5 us) w')->
  cD P U H F w ρ (find objs) n ⟨dst,op,ty,pos,aft,none⟩ e:=by
  intro e he qc;have bx:=bx fn hf1 hf2 hf3;unfold cD cd;rw[bx]
  refine SX.mono fun e' w' ⟨us,he',MQ,H',F',a1,a2,a3,a4,a5,a6,a7⟩=>⟨_,he',qc w' us H' F' MQ a1 a2 a3 a4 a5 a6 a7⟩
 generalize A9:gi n (Bb φ sg.out.objs) (cS (rp φ sg.out.ah) (cY sg.out.rows y)).2=cons at h;have Wq:=Be (φ:=φ) sg.out.ah (cY sg.out.rows y)
 have Pw:∀{H':ao},H1.le H'->gJ H' sg.out.nxt->Ren H' (lC H H' n cons sg.inn.nxt) φ/\H.le (lC H H' n cons sg.inn.nxt)/\∀m,(m<n\/n+16<=m)->(H.val m=none->(lC H H' n cons sg.inn.nxt).val m=none)/\(H.con m=none->(lC H H' n cons sg.inn.nxt).con m=none):=by
  intro H' hle wT
  have MR:∀j v,H'.val j=some v->j<sg.out.nxt:=fun j v hj=>by
   rcases Nat.lt_or_ge j sg.out.nxt with g|g
   .exact g
   .rw[(wT j g).1]at hj;cases hj
  have hold:∀o v,H.val o=some v->¬(n<=o/\o<n+16):=fun o v ho hc=>by
   rw[(hs.fresh o hc.1 hc.2).1]at ho;cases ho
  refine⟨fun j v hj=>?_,⟨fun o v ho=>?_,fun s t eB=>?_,fun s t eB=>?_⟩,fun m hm=>?_⟩
  .rw[<-Wo];have hjn:=MR j v hj
   have gen:(lC H H' n cons sg.inn.nxt).val (n+j)=some v:=by
    simp only[lC];rw[if_pos (by omega),Nat.add_sub_cancel_left];exact hj
   unfold Ol
   cases hb:ajX j sg.inn.nxt with
   |false=>simpa using gen
   |true=>
    rw[cond_true];split
    .rename_i o ho;split
     case h_2=>exact gen
     rename_i e he;obtain⟨u,hu,_⟩:=qa.obj o e.1 e.2 he;have h1:=hle.val _ _ (sI j (some o) ho u hu);rw[hj]at h1;obtain rfl:=ai4 h1;simp only[lC];rw[if_neg (hold o _ hu)];exact hu
    .exact gen
  .simp only[lC];rw[if_neg (hold o v ho)];exact ho
  .simp only[lC];rw[if_neg (fun hc=>by rw[(hs.fresh s hc.1 hc.2).2]at eB;cases eB)];exact eB
  .simp only[lC];rw[if_neg (fun hc=>by rw[(hs.fresh s hc.1 hc.2).2]at eB;cases eB)]
  .simp only[lC];rw[if_neg (by omega),if_neg (by omega)];exact⟨id,id⟩
 have made:∀{p:Row->Bool}{us:List Value}{w':World}{H':ao}{F' F2:Nat->Prop}{eat:List Nat},us.length=sg.out.ah.length->qA p sg.out.ah=true->xR p sg.out.objs=true->rq p F' F2 w'->Ext G w w'->H1.le H'->(∀b,F2 b->F' b)->(∀o,o∈gw bs->o∈eat)->
  (∀t d,find (cS sg.out.ah (cY sg.out.rows y)).1 t=some d->ai H' F' w' d (us.getD t undef))->au (fun k=>w.heap.size<=k\/G k) H' F' w' (find (gi sg.inn.nxt sg.out.objs (cS sg.out.ah (cY sg.out.rows y)).2)) sg.out.nxt->gJ H' sg.out.nxt->
  ai (lC H H' n cons sg.inn.nxt) F2 w' D (w5 us)/\Made (lC H H' n cons sg.inn.nxt) F2 w w' (cm H (find objs) eat) cons/\∀o,(find cons o).isSome->o∈eat\/n<=o:=by
  intro p us w' H' F' F2 eat MQ Sr O6 Vc bI hle L0 kB yG MS SY;obtain⟨hr,_,_⟩:=Pw hle SY
  have Ff:∀o s t,find cons o=some (s,t)->∃j s' us sh,φ j=o/\t=(bX (sh.qb φ) us).1/\find (gi sg.inn.nxt sg.out.objs (cS sg.out.ah (cY sg.out.rows y)).2) j=some (s',(bX sh us).1)/\sh.iF p=true/\rn cons s=some t/\n<=s/\s<n+16/\(lC H H' n cons sg.inn.nxt).sub s=H'.sub s':=by
   intro o s t ho;rw[<-A9]at ho⊢;rw[Wq]at ho⊢;obtain⟨j,s',Wr,sh,a1,a2,a3,a4,a5,a6,a7,a8⟩:=Bf (m':=sg.inn.nxt) ho
   have al:s<n+16:=by omega
   refine⟨j,s',Wr,sh,a1,a2,a3,a4 O6,a5,a6,al,?_⟩;simp only[lC];rw[if_pos ⟨a6,al⟩,a8]
  refine⟨?_,⟨fun o s t ho=>?_,fun o o' s s' t t' v v' bN ho iN hv di k hk dO=>?_⟩,fun o ho=>?_⟩
  .exact Pu (by rw[Bg];exact uo) (by rw[tH];exact MQ) (J6 hr Vc Sr yG) hD
  .obtain⟨j,s',Wr,sh,rfl,rfl,a3,a4,a5,a6,a7,a8⟩:=Ff o s t ho;rw[a8];obtain⟨v,hv,cc⟩:=MS.obj _ _ _ a3;obtain⟨b1,b2,b3⟩:=sJ hr Vc a4 cc.ok;refine⟨v,hr j v hv,cc.one,?_,b1,fun k hk=>⟨fun e=>cc.no k (b3 k hk) (L0 k e),cc.lt k (b3 k hk),?_⟩⟩
   .rw[b2];simp only[lC];rw[if_pos ⟨a6,a7⟩];exact a5
   .rcases cc.use k (b3 k hk)with h1|h1
    .exact .inl h1
    .obtain⟨o',iN,rest⟩:=Wn k h1;exact .inr ⟨o',kB o' iN,rest⟩
  .obtain⟨j,s1,us1,sh,rfl,rfl,a3,a4,a5,a6,_,a8⟩:=Ff o s t ho;obtain⟨j',s1',aeh,sh',rfl,rfl,a3',a4',a5',a6',_,a8'⟩:=Ff o' s' t' iN;rw[a8]at hk;rw[a8']at dO;obtain⟨u,hu,cc⟩:=MS.obj _ _ _ a3;obtain⟨u',AJ,AY⟩:=MS.obj _ _ _ a3';have e1:=hr j u hu;rw[hv]at e1;obtain rfl:=ai4 e1;have e2:=hr j' u' AJ;rw[di]at e2;obtain rfl:=ai4 e2;exact MS.apart j j' _ _ _ _ _ _ (fun e=>bN (by rw[e])) a3 a3' hu AJ k ((sJ hr Vc a4 cc.ok).2.2 k hk) ((sJ hr Vc a4' AY.ok).2.2 k dO)
  .obtain⟨e,he⟩:=ajH.1 ho;obtain⟨j,s',Wr,sh,rfl,_⟩:=Ff o e.1 e.2 he;rw[<-Wo];unfold Ol
   cases ajX j sg.inn.nxt with
   |false=>exact .inr (by simp)
   |true=>
    rw[cond_true];split
    .rename_i o ho;split
     .exact .inl (kB o (jd ho))
     .exact .inr (by omega)
    .exact .inr (by omega)
 have SZ:∀{w':World}{eat:List Nat},Ext G w w'->(∀o,o∈gw bs->o∈eat)->Ext (cm H (find objs) eat) w w':=fun bI kB=>⟨bI.os,bI.tape,bI.output,bI.size,fun k hk hn=>bI.block k hk fun hG=>hn (by
  obtain⟨o,ho,rest⟩:=Wn k hG
  exact⟨o,kB o ho,rest⟩)⟩
 cases Ws:Fc sg with
 |true=>
  rw[Ws,cond_true]at h;obtain⟨p1,p2⟩:=cO Ws;refine⟨_,h,GY _ rfl fun w' us H' F' MQ a1 a2 a3 a4 a5 a6 a7=>?_⟩;obtain⟨_,g2,g3⟩:=Pw a2 a7;obtain⟨m1,m2,m3⟩:=made (F2:=F) (eat:=gw bs) MQ p1 p2 (fun r hr cs x hx=>cA.DA hr hx) a1 a2 (fun b hb=>a3 b (C0 b hb)) (fun _ h=>h) a5 a6 a7;exact⟨_,F,⟨g2,SZ a1 (fun _ h=>h),fun _ h=>h,fun _ h=> .inl h,fun b hb=>ajJ (hs.lt b hb) a1.size⟩,g3,m1,m2,m3⟩
 |false=>
  rw[Ws,cond_false]at h;refine⟨_,h,GY _ rfl fun w' us H' F' MQ a1 a2 a3 a4 a5 a6 a7=>?_⟩;obtain⟨_,g2,g3⟩:=Pw a2 a7;obtain⟨m1,m2,m3⟩:=made (F2:=F') (eat:=gw bs++nd) MQ hc5 rz (fun r _ cs x hx=>hx) a1 a2 (fun _ h=>h) (fun o h=>by simp[h]) a5 a6 a7
  have eB:Step F1 w F' w':=fun b hb=>⟨a3 b hb,a1.block b (qa.lt b hb) fun e=>SV b e hb⟩
  have sf:∀o s t,find (oo aM nd) o=some (s,t)->o∈nd/\dP t=true/\∃v,H.val o=some v/\v.oneCell'=true/\H.con s=some t.base/\il H F1 w (H.sub s) v t:=by
   intro o s t ho;obtain⟨b1,b2,b3⟩:=mb ho;obtain⟨v,hv,cc⟩:=qa.obj _ _ _ b2;exact⟨b1,b3,v,hv,cc.one,cc.con,cc.ok⟩
  have part:∀o s t,find (cons++oo aM nd) o=some (s,t)->find cons o=some (s,t)\/find (oo aM nd) o=some (s,t):=by
   intro o s t ho;rw[gG]at ho
   cases hm:find cons o with
   |some e=>rw[hm]at ho;exact .inl ho
   |none=>rw[hm,akc]at ho;exact .inr ho
  refine⟨_,F',⟨g2,SZ a1 (fun o h=>by simp[h]),fun b hb=>a3 b (C0 b hb),fun b hb=>?_,a6.lt⟩,g3,m1,⟨fun o s t ho=>?_,fun o o' s s' t t' v v' bN ho iN hv di k hk dO=>?_⟩,fun o ho=>?_⟩
  .rcases a4 b hb with h1|h1|h1
   .rcases L0 b h1 with h2|⟨o,ho,rest⟩
    .exact .inl h2
    .exact .inr (.inr ⟨o,by simp[ho],rest⟩)
   .exact .inr (.inl h1)
   .obtain⟨o,ho,rest⟩:=Wn b h1;exact .inr (.inr ⟨o,by simp[ho],rest⟩)
  .rcases part o s t ho with h1|h1
   .exact m2.obj o s t h1
   .obtain⟨b1,b2,v,b3,b4,b5,b6⟩:=sf o s t h1;refine⟨v,g2.val _ _ b3,b4,g2.con _ _ b5,by rw[g2.sub _ _ b5];exact b6.heap g2 eB (fun k hk=>(gq b2 hk).elim),fun k hk=>(gq b2 hk).elim⟩
  .rcases part o s t ho with h1|h1<;>rcases part o' s' t' iN with h2|h2
   .exact m2.apart o o' s s' t t' v v' bN h1 h2 hv di k hk dO
   .exact gq (sf o' s' t' h2).2.1 dO
   .exact gq (sf o s t h1).2.1 hk
   .exact gq (sf o s t h1).2.1 hk
  .obtain⟨e,he⟩:=ajH.1 ho
   rcases part o e.1 e.2 he with h1|h1
   .exact m3 o (by rw[h1];rfl)
   .exact .inl (by simp[(sf o _ _ h1).1])
theorem nz{S0:List (Nat×bp)}(w6:∀p∈S0,aq P p.1 p.2){objs:List (Nat×(Nat×Th))}{f:FuncId}{op:Op}{k:dN->Option R}{q:R}{ds:List ak}{vs:List Value}
 (xW:fc H F w ds vs)(bx:∀fn,P.funcs[f]? =some fn->(fn.name== "runtime.NumGoroutine")=false->fn.body.isNone=false->(execOp (ev ρ) ⟨dst,op,ty,pos,aft,none⟩).run P w= .ok (.enter f vs.toArray) w)(hs:au U H F w (find objs) n):{tab:List (Nat×bp)}->(∀p∈tab,p∈S0)->nW objs n f ds k tab=some q->
 ∃e,k e=some q/\cD P U H F w ρ (find objs) n ⟨dst,op,ty,pos,aft,none⟩ e
 |[],_,h=>by cases h
 |(f0,sg)::tab,cc,h=>by
  unfold nW at h
  cases hb:aje f0 f with
  |false=>rw[hb,cond_false]at h;exact nz w6 xW bx hs (fun p hp=>cc p (by simp[hp])) h
  |true=>
   rw[hb,cond_true]at h;obtain rfl:=beq_true hb;split at h
   case h_2=>exact nz w6 xW bx hs (fun p hp=>cc p (by simp[hp])) h
   rename_i x bs aM sL;exact He (w6 (f0,sg) (cc _ (by simp))) xW bx hs sL h
theorem Bi{tab:List (Nat×bp)}(w6:∀p∈tab,aq P p.1 p.2){rd:Operand->Option ak}(fE:∀x d,rd x=some d->ai H F w d (ev ρ x)){objs:List (Nat×(Nat×Th))}{g:Operand}{args:Array Operand}{wJ:Array TypeId}{k:dN->Option R}{q:R}
 (h:xV tab rd objs n g args.toList k=some q)(hs:au U H F w (find objs) n):
 ∃e,k e=some q/\cD P U H F w ρ (find objs) n ⟨dst, .call {callee:= .value g,args:=args,argTypes:=wJ},ty,pos,aft,none⟩ e:=by
 unfold xV at h;split at h
 case h_2=>cases h
 rename_i f caps hc;split at h
 case h_2=>cases h
 rename_i ds uw;unfold Fe at hc;split at hc
 case h_2=>cases hc
 rename_i f' acm hg;cases hc;obtain⟨us,h1,h2⟩:=fE _ _ hg;exact nz w6 (ry (nn (w:=w) (H:=H) (F:=F) (ρ:=ρ) fE uw) (vy (F:=F) (w:=w) h2)) (fun fn g1 g2 g3=>Hd g1 g2 g3 rfl h1) hs (fun _ h=>h) h
end
end Go.Proofs.YtilaieogabgamaaGreatDoor
end
