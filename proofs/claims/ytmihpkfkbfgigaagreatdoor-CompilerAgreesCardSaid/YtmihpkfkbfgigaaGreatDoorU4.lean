/- Joined texts: Grp Pack2 Call Call2. -/
import Derived.Test.YtmihpkfkbfgigaaGreatDoorU3
section
open _root_.Go.Instr renaming findNow->ang,mapUpdate->anK
open _root_.List renaming getElem_append_left->al5,getElem_append_right->ame,length_append->alY,mem_cons->amg
open _root_.Go.MapKept renaming run_checkKey->ank,run_findKey->anr,run_getObj_map->anp
open _root_.Nat renaming beq->al4,le_refl->alZ,lt_of_lt_of_le->amI,zero_add->amo,zero_le->amj
open _root_.Option renaming isSome_iff_exists->amA
open _root_.Option.some renaming inj->alU,injEq->al7
open _root_.Prod.mk renaming inj->ant,injEq->amZ
open _root_.Go.Result renaming andThen->amB
open _root_.Go.Value renaming ownBlock->amw
namespace Go.Proofs.YtmihpkfkbfgigaaGreatDoor
open Go Go.RowKit Go.MapKept
noncomputable def Ir{α:Type}(K:Row):List (K.den×α)->K.den->α->List (K.den×α)
 |[],_,_=>[]
 |p::l,k,v=>if iQ K p.1 k=true then(p.1,v)::l else p::Ir K l k v
theorem BR{K:Row}{a b:K.den}(h:iQ K a b=true):a=b:=by
 unfold iQ at h
 split at h<;>first|exact of_decide_eq_true h|cases h
section
variable {P:Program} {ρ:Nat->Value} {w w':World} {H H':ay} {F F':Nat->Prop} {U:Nat->Prop} {ob:Nat->Option (Nat×Th)} {n:Nat} {R:Type}
variable {op:Op} {ty:TypeId} {pos:String} {aft:Array Edge} {d:Nat}
variable {K:Row} {E:TypeId} {r:Row}
theorem rL.none(A:Nat->Prop):rL (fun _=>False) A A:=⟨fun k=>by simp,fun _ h=>h.elim⟩
theorem rL.mk'{A B:Nat->Prop}(h:∀k,A k->¬B k):rL A B (fun k=>A k\/B k):=⟨fun _=>Iff.rfl,h⟩
theorem rf{dd:TypeDesc}{x:K.den}{kv:Value}(hK:∀x v,ox K x=some v->IsKey dd v)(hx:ox K x=some kv):{h:Option (K.den×Nat)}->(∀a o,h=some (a,o)->a=x)->{es:List MapEntry}->{l:List (K.den×List r.den)}->{S:Nat->Prop}->(i:Nat)->gz H F w K E r h es l S->
 (ang dd kv es i=some none/\iT K l x=none/\(∀e∈es,e.key≠kv)/\
   (∀H' F' w' y(e:MapEntry)A,e.key=kv->Step F w F' w'->(∀k,S k->w'.heap[k]? =w.heap[k]?)->rW F' w' E r e.val y A->(∀k,A k->¬S k)->∃S2,gz H' F' w' K E r none (es++[e]) (na K l x y) S2/\∀k,S2 k->S k\/A k)/\
   (h=none->∀H' o,gz H' F w K E r (some (x,o)) es l S))\/
 ∃j e y0,ang dd kv es i=some (some (i+j,e.val))/\es[j]? =some e/\e.key=kv/\iT K l x=some y0/\
  (∀H' F' w' y(f:MapEntry->MapEntry)A,(f e).key=kv->Step F w F' w'->(∀k,S k->w'.heap[k]? =w.heap[k]?)->rW F' w' E r (f e).val y A->(∀k,A k->¬S k)->∃S2,gz H' F' w' K E r none (es.modify j f) (na K l x y) S2/\∀k,S2 k->S k\/A k)/\
  (h=none->∃A B,rW F w E r e.val y0 A/\rL A B S/\∀H' o,H'.val o=some e.val->gz H' F w K E r (some (x,o)) es l B)
 |h,hh,[],l,S,i,hd=>by
  have yt:l=[]/\∀k,¬S k:=by cases h<;>exact hd
  obtain⟨rfl,hS⟩:=yt;refine .inl ⟨rfl,rfl,by simp,fun H' F' w' y e A he hs hb hv hA=>⟨A,⟨x,y,[],A,fun _=>False,rfl,by rw[he];exact hx,hv,⟨rfl,fun _ h=>h⟩,⟨fun k=>by simp,fun _ _ h=>h⟩⟩,fun k hk=> .inr hk⟩,fun _ H' o=>⟨rfl,hS⟩⟩
 |h,hh,e::es,l,S,i,hd=>by
  have gen:∃k y l' A B,l=(k,y)::l'/\ox K k=some e.key/\rL A B S/\((h=none->rW F w E r e.val y A)/\(iQ K k x=false->rW F w E r e.val y A/\gz H F w K E r h es l' B)/\(iQ K k x=true->gz H F w K E r none es l' B)):=by
   cases h with
   |none=>
    obtain⟨k,y,l',A,B,e0,h1,h2,h3,h4⟩:=hd;exact⟨k,y,l',A,B,e0,h1,h4,fun _=>h2,fun _=>⟨h2,h3⟩,fun _=>h3⟩
   |some p=>
    obtain⟨a,o⟩:=p;obtain rfl:=hh a o rfl;obtain⟨k,y,l',A,B,e0,h1,h2,h4⟩:=hd;refine⟨k,y,l',A,B,e0,h1,h4,fun e=>(by cases e),fun hk=>?_,fun hk=>?_⟩
    .rcases h2 with⟨g,_⟩|⟨_,g2,g3⟩
     .rw[hk]at g;cases g
     .exact⟨g2,g3⟩
    .rcases h2 with⟨_,_,_,g⟩|⟨g,_⟩
     .exact g
     .rw[hk]at g;cases g
  obtain⟨k,y,l',A,B,rfl,h1,h4,Us,Ut,Uu⟩:=gen;obtain⟨q,N2,KT⟩:=sameNow_of_keys (hK x kv hx) (hK k _ h1);have KC:=yG h1 hx
  cases q with
  |true=>
   have Q4:kv=e.key:=KT.1 rfl;have hq:iQ K k x=true:=KC.2 Q4.symm;obtain rfl:=BR hq;refine .inr ⟨0,e,y,by simp[ang,N2],rfl,Q4.symm,by simp[iT,hq],fun H' F' w' y' f A' hf hs hb hv hA=>?_,fun hn=>?_⟩
   .have sa:∀j,A' j->¬B j:=fun j hj hB=>hA j hj (h4.right j hB)
    refine⟨fun j=>A' j\/B j,?_,fun j hj=>hj.elim .inr fun hB=> .inl (h4.right j hB)⟩
    show gz H' F' w' K E r none (f e::es) (if iQ K k k=true then(k,y')::l' else(k,y)::na K l' k y') _
    rw[if_pos hq];exact⟨k,y',l',A',B,rfl,by rw[hf,h1,Q4],hv,(Uu hq).keep hs (fun _ _ _ e=>by cases e) fun j hj=>hb j (h4.right j hj),rL.mk' sa⟩
   .subst hn;exact⟨A,B,Us rfl,h4,fun H' o ho=>⟨k,y,l',fun _=>False,B,rfl,h1, .inl ⟨hq,ho,fun _ h=>h,(Uu hq).keep (Step.refl F w) (fun _ _ _ e=>by cases e) fun _ _=>rfl⟩,rL.none B⟩⟩
  |false=>
   have bR:¬e.key=kv:=fun q=>by have:=KT.2 q.symm;cases this
   have hq:iQ K k x=false:=by
    cases hc:iQ K k x with
    |false=>rfl
    |true=>exact absurd (KC.1 hc) bR
   obtain⟨eW,BS⟩:=Ut hq
   have nq:¬iQ K k x=true:=by rw[hq];exact fun h=>by cases h
   rcases rf hK hx hh (i+1) BS with⟨a1,a2,a3,a4,a5⟩|⟨j,e',z,a1,a2,a3,a4,a5,a6⟩
   .refine .inl ⟨by simp[ang,N2,a1],by simp[iT,nq,a2],fun e' he'=>?_,fun H' F' w' y' e' A' he' hs hb hv hA=>?_,fun hn H' o=>?_⟩
    .rcases amg.1 he' with rfl|he'
     .exact bR
     .exact a3 e' he'
    .obtain⟨S2,b1,b2⟩:=a4 H' F' w' y' e' A' he' hs (fun j hj=>hb j (h4.right j hj)) hv (fun j hj hB=>hA j hj (h4.right j hB))
     have sa:∀j,A j->¬S2 j:=fun j hj h2=>(b2 j h2).elim (h4.off j hj) fun K4=>hA j K4 (h4.left j hj)
     refine⟨fun j=>A j\/S2 j,?_,fun j hj=>hj.elim (fun h=> .inl (h4.left j h)) fun h=>(b2 j h).imp (h4.right j) id⟩
     show gz H' F' w' K E r none (e::(es++[e'])) (if iQ K k x=true then(k,y')::l' else(k,y)::na K l' x y') _
     rw[if_neg nq];exact⟨k,y,_,A,S2,rfl,h1,eW.keep hs fun j hj=>hb j (h4.left j hj),b1,rL.mk' sa⟩
    .subst hn;exact⟨k,y,l',A,B,rfl,h1, .inr ⟨hq,eW,a5 rfl H' o⟩,h4⟩
   .refine .inr ⟨j+1,e',z,by simp[ang,N2,a1];omega,by simpa using a2,a3,by simp[iT,nq,a4],fun H' F' w' y' f A' hf hs hb hv hA=>?_,fun hn=>?_⟩
    .obtain⟨S2,b1,b2⟩:=a5 H' F' w' y' f A' hf hs (fun j hj=>hb j (h4.right j hj)) hv (fun j hj hB=>hA j hj (h4.right j hB))
     have sa:∀j,A j->¬S2 j:=fun j hj h2=>(b2 j h2).elim (h4.off j hj) fun K4=>hA j K4 (h4.left j hj)
     refine⟨fun j=>A j\/S2 j,?_,fun j hj=>hj.elim (fun h=> .inl (h4.left j h)) fun h=>(b2 j h).imp (h4.right j) id⟩
     show gz H' F' w' K E r none (e::es.modify j f) (if iQ K k x=true then(k,y')::l' else(k,y)::na K l' x y') _
     rw[if_neg nq];exact⟨k,y,_,A,S2,rfl,h1,eW.keep hs fun j hj=>hb j (h4.left j hj),b1,rL.mk' sa⟩
    .subst hn;obtain⟨A2,B2,c1,c2,c3⟩:=a6 rfl
     have sa:∀j,A j->¬B2 j:=fun j hj h2=>h4.off j hj (c2.right j h2)
     refine⟨A2,fun j=>A j\/B2 j,c1,⟨fun j=>?_,fun j hj h2=>?_⟩,fun H' o ho=>⟨k,y,l',A,B2,rfl,h1, .inr ⟨hq,eW,c3 H' o ho⟩,rL.mk' sa⟩⟩
     .rw[h4.all,c2.all]
      constructor<;>(intro h;rcases h with h|h|h<;>simp[h])
     .exact h2.elim (fun h=>h4.off j h (c2.left j hj)) (c2.off j hj)
theorem wB{a:K.den}{o:Nat}{u:Value}{y:List r.den}{A0:Nat->Prop}(hu:H.val o=some u)(hy:rW F w E r u y A0):{es:List MapEntry}->{l:List (K.den×List r.den)}->{S:Nat->Prop}->(∀k,A0 k->¬S k)->gz H F w K E r (some (a,o)) es l S->
 ∃S2,(∀H',gz H' F w K E r none es (Ir K l a y) S2)/\∀k,S2 k->S k\/A0 k
 |[],l,S,_,h=>by
  obtain⟨rfl,hS⟩:=h;exact⟨S,fun _=>⟨rfl,hS⟩,fun k hk=> .inl hk⟩
 |e::es,l,S,hA,h=>by
  obtain⟨k,y0,l',A,B,rfl,h1,h2,h4⟩:=h
  rcases h2 with⟨g1,g2,g3,g4⟩|⟨g1,g2,g3⟩
  .rw[hu]at g2;obtain rfl:=alU g2;refine⟨fun j=>A0 j\/B j,fun H'=>?_,fun j hj=>hj.elim .inr fun h=> .inl (h4.right j h)⟩
   show gz H' F w K E r none (e::es) (if iQ K k a=true then(k,y)::l' else(k,y0)::Ir K l' a y) _
   rw[if_pos g1];exact⟨k,y,l',A0,B,rfl,h1,hy,g4.keep (Step.refl F w) (fun _ _ _ e=>by cases e) (fun _ _=>rfl),rL.mk' fun j hj hB=>hA j hj (h4.right j hB)⟩
  .obtain⟨S2,b1,b2⟩:=wB hu hy (fun j hj hB=>hA j hj (h4.right j hB)) g3
   have sa:∀j,A j->¬S2 j:=fun j hj h2=>(b2 j h2).elim (h4.off j hj) fun K4=>hA j K4 (h4.left j hj)
   refine⟨fun j=>A j\/S2 j,fun H'=>?_,fun j hj=>hj.elim (fun h=> .inl (h4.left j h)) fun h=>(b2 j h).imp (h4.right j) id⟩
   show gz H' F w K E r none (e::es) (if iQ K k a=true then(k,y)::l' else(k,y0)::Ir K l' a y) _
   rw[if_neg (by rw[g1];exact fun h=>by cases h)];exact⟨k,y0,_,A,S2,rfl,h1,g2,b1 H',rL.mk' sa⟩
theorem BT:{es:List MapEntry}->{l:List (K.den×List r.den)}->{S:Nat->Prop}->gz H F w K E r none es l S->es.length=l.length/\∀i(h:i<l.length),∃(e:MapEntry)(A:Nat->Prop),es[i]? =some e/\ox K l[i].1=some e.key/\rW F w E r e.val l[i].2 A/\∀k,A k->S k
 |[],l,S,h=>by obtain⟨rfl,_⟩:=h;exact⟨rfl,fun i h=>by simp at h⟩
 |e::es,l,S,h=>by
  obtain⟨k,y,l',A,B,rfl,h1,h2,h3,h4⟩:=h;obtain⟨g1,g2⟩:=BT h3;refine⟨by simp[g1],fun i hi=>?_⟩
  cases i with
  |zero=>exact⟨e,A,rfl,h1,h2,h4.left⟩
  |succ i=>
   obtain⟨e',A',q1,q2,q3,q4⟩:=g2 i (by simpa using hi);exact⟨e',A',by simpa only[List.getElem?_cons_succ]using q1,q2,q3,fun k hk=>h4.right k (q4 k hk)⟩
theorem wC(hs:az U H F w ob n){o s:Nat}{t0 t1 t2:Th}(dh:ob o=some (s,t0)){v:Value}(hv:H.val o=some v)(e1:t1.base=t1)(e2:t2.base=t2){u:Value}(lC:u.oneCell'=true){So A:Nat->Prop}
 (f1:∀k,fp So v t1 k->fp (H.sub s) v t0 k)(f2:∀k,fp A u t2 k->fp (H.sub s) v t0 k)(f12:∀k,fp So v t1 k->¬fp A u t2 k)
 (k1:∀H1,H.le H1->H1.val n=some u->jn H1 F w So v t1)(k2:∀H1,H.le H1->jn H1 F w A u t2){D:aq}{dv:Value}(kd:∀H1,H.le H1->H1.val n=some u->al H1 F w D dv):
 lH H F w ob n {dst:=D,eat:=[o],make:=[(o,(n,t1)),(n,(n+1,t2))]} dv w:=by
 obtain⟨v1,vo,cx⟩:=hs.obj _ _ _ dh;rw[hv]at vo;obtain rfl:=alU vo;obtain⟨g1,g2⟩:=hs.fresh n (alZ _) (by omega);obtain⟨g3,g4⟩:=hs.fresh (n+1) (by omega) (by omega)
 let H1:ay:=⟨fun m=>if m=n then some u else H.val m,fun m=>if m=n then some t1 else if m=n+1 then some t2 else H.con m,fun m=>if m=n then So else if m=n+1 then A else H.sub m⟩
 have hle:H.le H1:=by
  refine⟨fun o v ho=>?_,fun s t fi=>?_,fun s t fi=>?_⟩
  .have:o≠n:=fun e=>by rw[e,g1]at ho;cases ho
   simp[H1,this,ho]
  .have a1:s≠n:=fun e=>by rw[e,g2]at fi;cases fi
   have a2:s≠n+1:=fun e=>by rw[e,g4]at fi;cases fi
   simp[H1,a1,a2,fi]
  .have a1:s≠n:=fun e=>by rw[e,g2]at fi;cases fi
   have a2:s≠n+1:=fun e=>by rw[e,g4]at fi;cases fi
   simp[H1,a1,a2]
 have xM:H1.val n=some u:=by simp[H1]
 have lF:∀k,fp (H.sub s) v t0 k->cE H ob [o] k:=fun k hk=>⟨o,by simp,s,_,v,dh,hv,hk⟩
 have qM:H1.sub n=So:=by simp[H1]
 have Q7:H1.sub (n+1)=A:=by simp[H1]
 have two:∀{o' s' t'},find [(o,(n,t1)),(n,(n+1,t2))] o'=some (s',t')->(o'=o/\s'=n/\t'=t1)\/(o'=n/\s'=n+1/\t'=t2):=by
  intro o' s' t' hf;rw[aG]at hf;split at hf
  .rename_i e;simp only[al7,amZ]at hf;exact .inl ⟨e.symm,hf.1.symm,hf.2.symm⟩
  .obtain⟨e1,e⟩:=b9 hf;obtain⟨e2,e3⟩:=ant e;exact .inr ⟨e1,e2,e3⟩
 refine⟨H1,F,⟨hle,⟨rfl,rfl,rfl,alZ _,fun _ _ _=>rfl⟩,fun _ h=>h,fun _ h=> .inl h,hs.lt⟩,fun m hm=>?_,kd H1 hle xM,⟨fun o' s' t hf=>?_,fun o1 o2 s1 s2 q1 q2 u1 u2 bR g1 g2 e1 e2 k hk dZ=>?_⟩,fun o' lD=>?_⟩
 .have a1:m≠n:=by omega
  have a2:m≠n+1:=by omega
  simp[H1,a1,a2]
 .rcases two hf with⟨rfl,rfl,rfl⟩|⟨rfl,rfl,rfl⟩
  .refine⟨v,hle.val _ _ hv,cx.one,by rw[e1];simp[H1],by rw[qM];exact k1 H1 hle xM,fun k hk=>?_⟩;rw[qM]at hk;have:=f1 k hk;exact⟨cx.no k this,cx.lt k this, .inr (lF k this)⟩
  .refine⟨u,xM,lC,by rw[e2];simp[H1],by rw[Q7];exact k2 H1 hle,fun k hk=>?_⟩;rw[Q7]at hk;have:=f2 k hk;exact⟨cx.no k this,cx.lt k this, .inr (lF k this)⟩
 .rcases two g1 with⟨rfl,rfl,rfl⟩|⟨rfl,rfl,rfl⟩<;>rcases two g2 with⟨rfl,rfl,rfl⟩|⟨rfl,rfl,rfl⟩
  .exact bR rfl
  .rw[qM]at hk;rw[Q7]at dZ;rw[xM]at e2;obtain rfl:=alU e2;rw[hle.val _ _ hv]at e1;obtain rfl:=alU e1;exact f12 k hk dZ
  .rw[qM]at dZ;rw[Q7]at hk;rw[xM]at e1;obtain rfl:=alU e1;rw[hle.val _ _ hv]at e2;obtain rfl:=alU e2;exact f12 k dZ hk
  .exact bR rfl
 .obtain⟨y,hy⟩:=amA.1 lD
  rcases two (s':=y.1) (t':=y.2) hy with⟨rfl,_⟩|⟨rfl,_⟩
  .exact .inl (by simp)
  .exact .inr (alZ _)
def Uv(T:bg P)(t:TypeId):Option (Row×TypeId×Row):=
 match find T.und t with
 |some (.map kt vt)=>match find T.row kt with
  |some K=>match find T.und vt with
   |some (.slice e)=>match find T.row e with
    |some r=>some (K,e,r)
    |none=>none
   |_=>none
  |none=>none
 |_=>none
def mU(deep:Bool)(T:bg P)(n:Nat)(t:TypeId)(k:eD->Option R):Option R:=
 match(bif deep then Uv T t else none)with
 |some (K,e,r)=>k {dst:= .val false (.own n),make:=[(n,(n, .dmap t K e r [] none))]}
 |none=>n6 T n t k
theorem Aa(deep:Bool)(T:bg P){t:TypeId}{k:eD->Option R}{q:R}(h:mU deep T n t k=some q)(hs:az U H F w ob n):
 ∃e,k e=some q/\cS P U H F w ρ ob n ⟨some d, .makeMap t none,ty,pos,aft,none⟩ e:=by
 unfold mU at h;split at h
 case h_2=>exact BK T h hs
 rename_i K e r _
 have bA:(execOp (ev ρ) ⟨some d, .makeMap t none,ty,pos,aft,none⟩).run P w= .ok (.value (.map (some w.heap.size))) (w.alloc (.map #[] 0)):=by
  simp[execOp,Instr.makeMap,amB]
 refine⟨_,h,cC.val bA ?_⟩;have hf:=hs.fresh n (alZ _) (by omega)
 let H1:ay:=((H.fK n (is w.heap.size)).bN n (.dmap t K e r [] none)).dj n (.map (some w.heap.size))
 have hle:H.le H1:=(ay.vv hf.2).trans (ay.p8 (by simpa[ay.bN,ay.fK]using hf.1))
 have hv:H1.val n=some (.map (some w.heap.size)):=by simp[H1,ay.dj]
 have gI:H1.sub n=is w.heap.size:=by simp[H1,ay.dj,ay.bN,ay.fK]
 refine⟨H1,F,⟨hle,qa _,fun _ h=>h,fun _ h=> .inl h,fun b hb=>by have:=hs.lt b hb;simp;omega⟩,fun m hm=>?_,nz hv rfl,⟨fun o' s' q hq=>?_,fun o1 o2 s1 s2 q1 q2 u1 u2 bR h1 h2=>?_⟩,fun o' h=>?_⟩
 .have:m≠n:=by omega
  simp[H1,ay.dj,ay.bN,ay.fK,this]
 .obtain⟨rfl,e⟩:=b9 hq;obtain⟨rfl,rfl⟩:=ant e;refine⟨_,hv,rfl,by simp[H1,ay.dj,ay.bN,ay.fK,Th.base],?_,fun k hk=>?_⟩
  .rw[gI];exact⟨_, #[],0,fun _=>False,rfl,(heap_alloc w _).1,stamped_empty 0,⟨rfl,fun _ h=>h⟩,⟨fun k=>by simp,fun _ _ h=>h⟩,fun _ _ e=>by cases e⟩
  .rw[gI]at hk;have hk:k=w.heap.size:=hk;subst hk;exact⟨fun e=>by have:=hs.lt _ e;omega,by simp, .inl (alZ _)⟩
 .exact absurd ((b9 h1).1.trans (b9 h2).1.symm) bR
 .right
  obtain⟨y,hy⟩:=amA.1 h;rw[(b9 hy).1];exact alZ _
noncomputable def n8(T:bg P)(ob:Nat->Option (Nat×Th))(n:Nat)(t:TypeId)(ok:Bool)(M X:aq)(k:eD->Option R):Option R:=
 match M with
 | .val false (.own o)=>match ob o with
   |some (_, .dmap T0 K E r l none)=>match find T.und t with
    |some (.map kt vt)=>match find T.zer vt with
     |some (false, .slice _)=>bif wj T kt K&&ok then(match asKey ob K X with
      |some x=>k {dst:= .tup [(false, .own n),(false, .leaf .bool (iT K l x).isSome)],eat:=[o],make:=[(o,(n, .dmap T0 K E r l (some (x,n)))),(n,(n+1, .own E r ((iT K l x).getD [])))]}
      |none=>none)else none
     |_=>none
    |_=>none
   |_=>oE T ob t ok M X k
 |_=>oE T ob t ok M X k
theorem BU(T:bg P){t:TypeId}{ok:Bool}{M X:aq}{m x:Operand}{k:eD->Option R}{q:R}(h:n8 T ob n t ok M X k=some q)(hs:az U H F w ob n)(hm:al H F w M (ev ρ m))(hx:al H F w X (ev ρ x)):
 ∃e,k e=some q/\cS P U H F w ρ ob n ⟨some d, .lookup t m x ok,ty,pos,aft,none⟩ e:=by
 unfold n8 at h;split at h
 case h_2=>exact wk T h hs hm hx
 rename_i o;split at h
 case h_2=>exact wk T h hs hm hx
 rename_i s T0 K E r l dh;split at h
 case h_2=>cases h
 rename_i kt vt hu;split at h
 case h_2=>cases h
 rename_i re hz;obtain⟨hc,h'⟩:=aK h;clear h;obtain⟨Bt,vj⟩:=di hc;subst vj;split at h'
 case h_2=>cases h'
 rename_i a ha;refine⟨_,h',?_⟩;obtain⟨dd,hd,hK,hR⟩:=r6 (F:=F) (w:=w) T Bt;have tz:=hR _ _ (r7 hs ha hx);have Nt:=hK _ _ tz;have BL:=T.und_ok _ _ hu
 have xW:(zeroValue vt).run P w= .ok (.slice none 0 0) w:=by
  obtain⟨z,xW,e⟩:=T.zer_ok _ _ _ hz
  cases hi:P.info? vt with
  |none=>rw[hi]at xW;cases xW
  |some ti=>
   rw[hi]at xW;have hz':ti.zero=some z:=xW;rw[cond_false]at e;have e':z= .slice none 0 0:=e;subst e';simp[zeroValue,typeInfo,hi,hz',amB]
 obtain⟨cs,⟨v,hv,ael,e⟩,_,h3⟩:=hm;rw[h3 rfl]at e
 obtain rfl:ev ρ m=v:=by simpa using e
 obtain⟨v',dM,cx⟩:=hs.obj _ _ _ dh;rw[hv]at dM;obtain rfl:=alU dM;obtain⟨b,es,clock,B,Ey,hh,fi,Ig,n9,_⟩:=cx.ok
 have tup:∀(H1:ay)(u:Value)(q:Bool),H1.val n=some u->u.oneCell'=true->al H1 F w (.tup [(false, .own n),(false, .leaf .bool q)]) (.tuple #[u, .bool q]):=fun H1 u q hu h1=>
  ⟨[u, .bool q],rfl,_,_,rfl,⟨[u],⟨u,hu,h1,rfl⟩,rfl,fun _=>rfl⟩,_,_,rfl,aM.gN ..,rfl⟩
 rcases rf (H:=H) hK tz (h:=none) (fun _ _ e=>by cases e) 0 Ig with⟨a1,a2,_,_,a5⟩|⟨j,e,y0,a1,_,_,a4,_,a6⟩
 .have bA:(execOp (ev ρ) ⟨some d, .lookup t m x true,ty,pos,aft,none⟩).run P w= .ok (.value (.tuple #[.slice none 0 0, .bool (iT K l a).isSome])) w:=by
   rw[a2];simp[execOp,Ey,Instr.lookup,run_underlying BL,anp hh,ank hd Nt,anr hd a1,xW,amB]
  refine cC.val bA ?_;rw[a2]
  refine wC (t1:= .dmap T0 K E r l (some (a,n))) (t2:= .own E r []) (u:= .slice none 0 0) (So:=H.sub s) (A:=fun _=>False) hs dh hv rfl rfl rfl (fun k hk=>hk) (fun k hk=>?_) (fun k hk dZ=>?_) (fun H1 hle xM=>?_) (fun H1 hle=>kS.nil F w E r) fun H1 hle xM=>tup H1 _ _ xM rfl
  .have dZ:bw (.slice none 0 0) k:=hk;simp[bw,amw]at dZ
  .have dZ:bw (.slice none 0 0) k:=dZ;simp[bw,amw]at dZ
  .exact⟨b,es,clock,B,Ey,hh,fi,a5 rfl H1 n,n9,fun a' o' e'=>by cases e';exact⟨_,xM⟩⟩
 .rw[amo]at a1;obtain⟨A,B2,c1,c2,c3⟩:=a6 rfl
  have bA:(execOp (ev ρ) ⟨some d, .lookup t m x true,ty,pos,aft,none⟩).run P w= .ok (.value (.tuple #[e.val, .bool (iT K l a).isSome])) w:=by
   rw[a4];simp[execOp,Ey,Instr.lookup,run_underlying BL,anp hh,ank hd Nt,anr hd a1,amB]
  refine cC.val bA ?_;rw[a4]
  have N9:∀k,A k->H.sub s k:=fun k hk=>n9.right k (c2.left k hk)
  refine wC (t1:= .dmap T0 K E r l (some (a,n))) (t2:= .own E r y0) (u:=e.val) (So:=fun k=>is b k\/B2 k) (A:=A) hs dh hv rfl rfl c1.1.one (fun k hk=>?_) (fun k hk=>?_) (fun k hk dZ=>?_) (fun H1 hle xM=>?_) (fun H1 hle=>c1.1) fun H1 hle xM=>tup H1 _ _ xM c1.1.one
  .have hk:is b k\/B2 k:=hk
   exact hk.elim (n9.left k) fun h=>n9.right k (c2.right k h)
  .exact N9 k ((c1.2 k).2 hk)
  .have hk:is b k\/B2 k:=hk;have dZ:A k:=(c1.2 k).2 dZ;exact hk.elim (fun h=>n9.off k h (c2.left k dZ)) (c2.off k dZ)
  .exact⟨b,es,clock,B2,Ey,hh,fi,c3 H1 n xM,rL.mk' fun k h1 h2=>n9.off k h1 (c2.right k h2),fun a' o' e'=>by cases e';exact⟨_,xM⟩⟩
noncomputable def P8(K:Row)(h:Option (K.den×Nat))(x:K.den):Bool:=
 match h with
 |none=>true
 |some p=>iQ K p.1 x
noncomputable def kH(T:bg P)(ob:Nat->Option (Nat×Th))(n:Nat)(t:TypeId)(M X Y:aq)(k:eD->Option R):Option R:=
 match M with
 | .val false (.own o)=>match ob o with
   |some (_, .dmap T0 K E r l h)=>match find T.und t with
    |some (.map kt _)=>bif wj T kt K then(match asKey ob K X with
     |some x=>if P8 K h x=true then(match Y with
      | .val false .nil=>k {dst:= .dead,eat:=[o],make:=[(o,(n, .dmap T0 K E r (na K l x []) none))]}
      | .val false (.own o1)=>match ob o1 with
        |some (_,t1)=>bif al4 o1 o then none else(match Q8 E (.leaf r) t1 with
         |some y=>k {dst:= .dead,eat:=[o,o1],make:=[(o,(n, .dmap T0 K E r (na K l x y) none))]}
         |none=>none)
        |none=>none
      |_=>none)else none
     |none=>none)else none
    |_=>none
   |_=>kj T ob n t M X Y k
 |_=>kj T ob n t M X Y k
theorem wD(T:bg P){t:TypeId}{m x y:Operand}{o s:Nat}{T0:TypeId}{K:Row}{E:TypeId}{r:Row}{l:List (K.den×List r.den)}{h:Option (K.den×Nat)}{kt vt:TypeId}{a:K.den}{z:List r.den}{A:Nat->Prop}{eat:List Nat}
 (hs:az U H F w ob n)(dh:ob o=some (s, .dmap T0 K E r l h))(hv:H.val o=some (ev ρ m))(hu:find T.und t=some (.map kt vt))(hk:wj T kt K=true)(tz:cR F w K [ev ρ x] a)(hh:P8 K h a=true)(hy:rW F w E r (ev ρ y) z A)
 (ho:o∈eat)(hA:∀k,A k->cE H ob eat k)(N9:∀k,A k->¬H.sub s k):
 cS P U H F w ρ ob n ⟨none, .mapUpdate t m x y,ty,pos,aft,none⟩ {dst:= .dead,eat:=eat,make:=[(o,(n, .dmap T0 K E r (na K l a z) none))]}:=by
 obtain⟨dd,hd,hK,hR⟩:=r6 (F:=F) (w:=w) T hk;have hkv:=hR _ _ tz;obtain⟨v',dM,cx⟩:=hs.obj _ _ _ dh;rw[hv]at dM;obtain rfl:=alU dM;obtain⟨b,es,clock,B,Ey,hb,fi,Ig,n9,_⟩:=cx.ok;have hbF:¬F b:=cx.no b (n9.left b rfl);have hbB:¬B b:=n9.off b rfl
 have hbA:¬A b:=fun h=>N9 b h (n9.left b rfl)
 have Og:∀k,H.sub s k->cE H ob eat k:=fun k hk=>⟨o,ho,s,_,_,dh,hv,hk⟩
 have hax:∀a' o',h=some (a',o')->a'=a:=fun a' o' e=>by subst e;exact BR hh
 have fin:∀o',(anK t (.map (some b)) (ev ρ x) (ev ρ y)).run P w= .ok () {w with heap:=w.heap.setIfInBounds b o'}->
  (∀H' w',Step F w F w'->(∀k,B k->w'.heap[k]? =w.heap[k]?)->rW F w' E r (ev ρ y) z A->∃nw nP S2,o'= .map nw nP/\Stamped nw nP/\gz H' F w' K E r none nw.toList (na K l a z) S2/\∀k,S2 k->B k\/A k)->
  cS P U H F w ρ ob n ⟨none, .mapUpdate t m x y,ty,pos,aft,none⟩ {dst:= .dead,eat:=eat,make:=[(o,(n, .dmap T0 K E r (na K l a z) none))]}:=by
  intro o' bA Q5;refine cC.unit (w':={w with heap:=w.heap.setIfInBounds b o'}) (by simp[execOp,Ey,bA,amB]) ?_;have tA:∀k,k≠b->(w.heap.setIfInBounds b o')[k]? =w.heap[k]? :=(heap_set hb).2
  have lG:Step F w F {w with heap:=w.heap.setIfInBounds b o'}:=fun k hk=>⟨hk,tA k fun e=>hbF (e▸hk)⟩
  have Ob:∀{S:Nat->Prop},¬S b->∀k,S k->({w with heap:=w.heap.setIfInBounds b o'}:World).heap[k]? =w.heap[k]? :=fun hn k hk=>tA k fun e=>hn (e▸hk)
  obtain⟨nw,nP,S2,rfl,g1,g2,g3⟩:=Q5 H {w with heap:=w.heap.setIfInBounds b o'} lG (Ob hbB) (hy.keep lG (Ob hbA))
  have Rb:¬S2 b:=fun h=>(g3 b h).elim hbB hbA
  refine m6.zW (t':= .dmap T0 K E r (na K l a z) none) hs dh hv rfl ho (fun k=>is b k\/S2 k) (fun k hk=>?_) ⟨rfl,rfl,rfl,by simp,fun k hk hn=>tA k fun e=>hn (by subst e;exact Og _ (n9.left _ rfl))⟩ ⟨b,nw,nP,S2,Ey,(heap_set hb).1,g1,?_,rL.mk' fun k h1 h2=>Rb (by rw[<-show k=b from h1];exact h2),fun _ _ e=>by cases e⟩ trivial
  .have hk:is b k\/S2 k:=hk
   rcases hk with hk|hk
   .exact Og k (n9.left k hk)
   .exact(g3 k hk).elim (fun h=>Og k (n9.right k h)) (hA k)
  .exact g2.keep (Step.refl F _) (fun _ _ _ e=>by cases e) fun _ _=>rfl
 obtain⟨r1,r2⟩:=n7 (val:=ev ρ y) (T.und_ok _ _ hu) hd hb (hK _ _ hkv)
 have hAB:∀k,A k->¬B k:=fun k hk hB=>N9 k hk (n9.right k hB)
 rcases rf (H:=H) hK hkv hax 0 Ig with⟨a1,a2,a3,a4,_⟩|⟨j,e,z0,a1,a2,a3,a4,a5,_⟩
 .refine fin _ (r1 a1) fun H' w' K5 hB BV=>?_
  obtain⟨S2,b1,b2⟩:=a4 H' F w' z {key:=ev ρ x,val:=ev ρ y,born:=clock} A rfl K5 hB BV hAB;exact⟨_,_,S2,rfl,stamped_push fi a3,by rw[Array.toList_push];exact b1,b2⟩
 .rw[amo]at a1
  have hj:es[j]? =some e:=by simpa using a2
  refine fin _ (r2 j _ a1 (by rw[hj];exact a3)) fun H' w' K5 hB BV=>?_
  obtain⟨S2,b1,b2⟩:=a5 H' F w' z (fun e=>{e with key:=ev ρ x,val:=ev ρ y}) A rfl K5 hB BV hAB;refine⟨_,_,S2,rfl,stamped_modify fi _ _ (fun _ _=>rfl) (fun e' _ he'=>?_),by rw[Array.toList_modify];exact b1,b2⟩;rw[hj]at he';cases he';exact a3.symm
theorem wE(T:bg P){t:TypeId}{M X Y:aq}{m x y:Operand}{k:eD->Option R}{q:R}(h:kH T ob n t M X Y k=some q)(hs:az U H F w ob n)(hm:al H F w M (ev ρ m))(hx:al H F w X (ev ρ x))(hy:al H F w Y (ev ρ y)):
 ∃e,k e=some q/\cS P U H F w ρ ob n ⟨none, .mapUpdate t m x y,ty,pos,aft,none⟩ e:=by
 unfold kH at h;split at h
 case h_2=>exact qL T h hs hm hx hy
 rename_i o;split at h
 case h_2=>exact qL T h hs hm hx hy
 rename_i s T0 K E r l hh dh;split at h
 case h_2=>cases h
 rename_i kt vt hu;obtain⟨hk,h'⟩:=aK h;clear h;split at h'
 case h_2=>cases h'
 rename_i a ha;split at h'
 case isFalse=>cases h'
 rename_i uv;obtain⟨cs,⟨v,hv,_,e⟩,_,h3⟩:=hm;rw[h3 rfl]at e
 obtain rfl:ev ρ m=v:=by simpa using e
 have tz:=r7 hs ha hx;split at h'
 .refine⟨_,h',wD (A:=fun _=>False) T hs dh hv hu hk tz uv ?_ (by simp) (fun _ h=>h.elim) fun _ h=>h.elim⟩;obtain⟨cs,h1,_,h3⟩:=hy;rw[h3 rfl]at h1;have th:[ev ρ y]=[Value.slice none 0 0]:=h1;rw[show ev ρ y= .slice none 0 0 by simpa using th];exact⟨kS.nil F w E r,fun k=>by simp[bw,amw]⟩
 .rename_i o1;split at h'
  case h_2=>cases h'
  rename_i s1 t1 pk
  cases bR:al4 o1 o with
  |true=>rw[bR]at h';cases h'
  |false=>
   rw[bR,cond_false]at h'
   have bR:o≠o1:=fun e=>by rw[e]at bR;simp at bR
   split at h'
   case h_2=>cases h'
   rename_i z hD;obtain rfl:=wy hD;obtain⟨cs,⟨u,DO,_,e⟩,_,h3⟩:=hy;rw[h3 rfl]at e
   obtain rfl:ev ρ y=u:=by simpa using e
   obtain⟨u',BL,nc⟩:=hs.obj _ _ _ pk;rw[DO]at BL;obtain rfl:=alU BL;exact⟨_,h',wD (A:=bw (ev ρ y)) T hs dh hv hu hk tz uv ⟨nc.ok,fun _=>Iff.rfl⟩ (by simp) (fun k hk=>⟨o1,by simp,s1,_,_,pk,DO,hk⟩) fun k hk h2=>hs.apart _ _ _ _ _ _ _ _ bR dh pk hv DO k h2 hk⟩
 .cases h'
noncomputable def K6(ob:Nat->Option (Nat×Th))(n o:Nat):Option eD:=
 match ob o with
 |some (_, .dmap T0 K E r l (some (a,o1)))=>match ob o1 with
  |some (_,t1)=>bif al4 o1 o then none else(match Q8 E (.leaf r) t1 with
   |some y=>some {dst:= .dead,eat:=[o,o1],make:=[(o,(n, .dmap T0 K E r (Ir K l a y) none))]}
   |none=>none)
  |none=>none
 |_=>none
theorem Ez(hs:az U H F w ob n){o:Nat}{e:eD}(h:K6 ob n o=some e):lH H F w ob n e undef w:=by
 unfold K6 at h;split at h
 case h_2=>cases h
 rename_i s T0 K E r l a o1 dh;split at h
 case h_2=>cases h
 rename_i s1 t1 pk
 cases bR:al4 o1 o with
 |true=>rw[bR]at h;cases h
 |false=>
  rw[bR,cond_false]at h
  have bR:o≠o1:=fun e=>by rw[e]at bR;simp at bR
  split at h
  case h_2=>cases h
  rename_i y hD;obtain rfl:=alU h;obtain rfl:=wy hD;obtain⟨v,hv,cx⟩:=hs.obj _ _ _ dh;obtain⟨u,hu,nc⟩:=hs.obj _ _ _ pk;obtain⟨b,es,clock,B,Ey,hh,fi,Ig,n9,_⟩:=cx.ok
  have hA:∀k,bw u k->¬H.sub s k:=fun k hk h2=>hs.apart _ _ _ _ _ _ _ _ bR dh pk hv hu k h2 hk
  obtain⟨S2,b1,b2⟩:=wB (A0:=bw u) hu ⟨nc.ok,fun _=>Iff.rfl⟩ (fun k hk hB=>hA k hk (n9.right k hB)) Ig
  have Rb:¬S2 b:=fun h=>(b2 b h).elim (n9.off b rfl) fun h=>hA b h (n9.left b rfl)
  refine m6.zW (t':= .dmap T0 K E r (Ir K l a y) none) hs dh hv rfl (by simp) (fun k=>is b k\/S2 k) (fun k hk=>?_) ⟨rfl,rfl,rfl,alZ _,fun _ _ _=>rfl⟩ ⟨b,es,clock,S2,Ey,hh,fi,b1 _,rL.mk' fun k h1 h2=>Rb (by rw[<-show k=b from h1];exact h2),fun _ _ e=>by cases e⟩ trivial;have hk:is b k\/S2 k:=hk
  have Og:∀k,H.sub s k->cE H ob [o,o1] k:=fun k hk=>⟨o,by simp,s,_,_,dh,hv,hk⟩
  rcases hk with hk|hk
  .exact Og k (n9.left k hk)
  .exact(b2 k hk).elim (fun h=>Og k (n9.right k h)) fun h=>⟨o1,by simp,s1,_,_,pk,hu,h⟩
noncomputable def K7(ob:Nat->Option (Nat×Th))(n o:Nat):Option eD:=
 match K3 ob n o with
 |some e=>some e
 |none=>K6 ob n o
theorem EA(hs:az U H F w ob n){o:Nat}{e:eD}(h:K7 ob n o=some e):lH H F w ob n e undef w:=by
 unfold K7 at h;split at h
 .rename_i e' he;cases h;exact Im hs he
 .exact Ez hs h
theorem DR.tD:(d:DR)->d.low.fl=d.row.fl
 | .leaf _=>rfl
 | .sl _ _=>rfl
 | .pair a b=>by show a.low.fl++b.low.fl=a.row.fl++b.row.fl;rw[a.tD,b.tD]
theorem K8{α β:Type}{l m out:List α}{lx ly:List β}(h:bZ l m=some out)(h1:lx.length=l.length)(h2:ly.length=m.length):bZ lx ly=some (lx++ly)/\out=l++m:=by
 unfold bZ at h⊢;split at h
 case isFalse=>cases h
 rename_i hle;exact⟨by rw[if_pos (by omega)],(alU h).symm⟩
theorem ux(T:bg P){t e:TypeId}{r:Row}(hu:find T.und t=some (.slice e))(hr:find T.row e=some r){dr:DR}(kD:dr.row=r){x y:Operand}{l m out:List dr.row.den}{Sx:Nat->Prop}{eat:List Nat}{o2 s2:Nat}
 (hs:az U H F w ob n)(hx:HJ F w e dr.low (fun _=>kQ F w dr) (ev ρ x) l Sx)(Yy:∀k,Sx k->¬F k)(hxe:∀k,Sx k->cE H ob eat k)(Kv:∀k,Sx k->k<w.heap.size)
 (uZ:ob o2=some (s2, .deep e dr m none))(vL:H.val o2=some (ev ρ y))(ho2:o2∈eat)(sa:∀k,Sx k->¬H.sub s2 k)(ha:bZ l m=some out):
 cS P U H F w ρ ob n ⟨some d, .call {callee:= .builtin .append,args:= #[x,y],argTypes:= #[t,t]},ty,pos,aft,none⟩ {dst:= .val false (.own n),eat:=eat,make:=[(n,(n, .deep e dr out none))]}:=by
 obtain⟨lx,Xv,QZ,T7,hrx,EB⟩:=hx;obtain⟨ly,Sy,hoy,Xo,hry,Rc⟩:=hs.low uZ vL;obtain⟨v2,HF,Oh⟩:=hs.obj _ _ _ uZ;rw[vL]at HF;obtain rfl:=alU HF;obtain⟨Bj,rfl⟩:=K8 ha T7 Xo;obtain⟨ti,z,h1,h2,h3,h4,h5⟩:=T.row_ok _ _ hr;have ht:=T.und_ok _ _ hu;subst kD;obtain⟨v',w',bA,b7,jN,hm⟩:=vK ty ht h1 h2 (h3.trans dr.tD.symm) (h4.trans dr.size.symm) h5 (base:=0) (l:=lx) ⟨fun k hk=>Yy k (EB.bw k hk),QZ⟩ hoy.reads Bj hs.lt (amj _)
 have fi:Step F w F w':=Step.ext b7 hs.lt fun k hk=>Yy k (EB.bw k hk)
 have Uw:∀k,H.sub s2 k->cE H ob eat k:=fun k hk=>⟨o2,ho2,s2,_,_,uZ,vL,hk⟩
 have Ux:∀i,i<l.length->∀k,Xv i k->w'.heap[k]? =w.heap[k]? :=fun i hi k hk=>b7.block k (Kv k (EB.part hi k hk)) (EB.out i k hi hk)
 have Uy:∀i,i<m.length->∀k,Sy i k->w'.heap[k]? =w.heap[k]? :=fun i hi k hk=>b7.block k (Oh.lt k (Rc.part hi k hk)) fun K9=>sa k (EB.bw k K9) (Rc.part hi k hk)
 have hlen:(l++m).length=l.length+m.length:=alY
 have Ey:∀k,bw v' k->(Sx k/\bw (ev ρ x) k)\/k=w.heap.size:=by
  intro k hk
  rcases hm with g|g
  .rw[g]at hk;exact .inl ⟨EB.bw k hk,hk⟩
  .rw[g]at hk;exact .inr hk.symm
 let SS:Nat->Nat->Prop:=fun i=>if i<l.length then Xv i else Sy (i-l.length)
 have Tx:∀i k,i<l.length->SS i k->Xv i k:=fun i k hi hk=>by simpa only[SS,if_pos hi]using hk
 have Tz:∀i k,¬i<l.length->SS i k->Sy (i-l.length) k:=fun i k hi hk=>by simpa only[SS,if_neg hi]using hk
 have hSS:∀i k,i<(l++m).length->SS i k->Sx k\/H.sub s2 k:=by
  intro i k hi hk;by_cases aj:i<l.length
  .exact .inl (EB.part aj k (Tx i k aj hk))
  .exact .inr (Rc.part (by omega) k (Tz i k aj hk))
 have lC:v'.oneCell'=true:=kS.one (T:=e) (r:=dr.low) jN.2;refine cC.val (v:=v') (w':=w') (by simp[execOp,resolve,invoke,builtin,bA]) (m6.Ra (t:= .deep e dr (l++m) none) (S:=ra (bw v') SS (l++m).length) hs rfl lC ⟨b7.os,b7.tape,b7.output,b7.size,fun k hk hn=>b7.block k hk fun QT=>hn (hxe k (EB.bw k QT))⟩ ?_ (fun k hk=>?_) (nz (o:=n) (v:=v') (by simp[ay.dj]) lC))
 .refine⟨lx++ly,SS,jN.2,by simp[T7,Xo],fun i a b=>?_,⟨fun k=>Iff.rfl,fun i j k hi hj bR hk dZ=>?_,fun i k hi hk QT=>?_⟩⟩
  .show kQ F w' dr (lx++ly)[i] (l++m)[i] (SS i)
   by_cases aj:i<l.length
   .have e1:(lx++ly)[i]=lx[i]'(by omega):=al5 (by omega);have e2:(l++m)[i]=l[i]:=al5 aj
    have e3:SS i=Xv i:=by simp only[SS,if_pos aj]
    rw[e1,e2,e3];exact kQ.keep fi (hrx i (by omega) aj) (Ux i aj)
   .have e1:(lx++ly)[i]=ly[i-l.length]'(by simp at a;omega):=by rw[ame (by omega)];simp only[T7]
    have e2:(l++m)[i]=m[i-l.length]'(by omega):=ame (by omega)
    have e3:SS i=Sy (i-l.length):=by simp only[SS,if_neg aj]
    rw[e1,e2,e3];exact kQ.keep fi (hry (i-l.length) _ (by omega)) (Uy _ (by omega))
  .by_cases h1:i<l.length<;>by_cases h2:j<l.length
   .exact EB.two i j k h1 h2 bR (Tx i k h1 hk) (Tx j k h2 dZ)
   .exact sa k (EB.part h1 k (Tx i k h1 hk)) (Rc.part (by omega) k (Tz j k h2 dZ))
   .exact sa k (EB.part h2 k (Tx j k h2 dZ)) (Rc.part (by omega) k (Tz i k h1 hk))
   .exact Rc.two (i-l.length) (j-l.length) k (by omega) (by omega) (by omega) (Tz i k h1 hk) (Tz j k h2 dZ)
  .rcases Ey k QT with⟨g1,g2⟩|g
   .by_cases h1:i<l.length
    .exact EB.out i k h1 (Tx i k h1 hk) g2
    .exact sa k g1 (Rc.part (by omega) k (Tz i k h1 hk))
   .rcases hSS i k hi hk with h1|h1
    .have:=Kv k h1;omega
    .have:=Oh.lt k h1;omega
 .have hk:ra (bw v') SS (l++m).length k:=hk
  have fin:Sx k\/H.sub s2 k->¬F k/\k<w'.heap.size/\(w.heap.size<=k\/cE H ob eat k):=by
   rintro(h1|h1)
   .exact⟨Yy k h1,amI (Kv k h1) b7.size, .inr (hxe k h1)⟩
   .exact⟨Oh.no k h1,amI (Oh.lt k h1) b7.size, .inr (Uw k h1)⟩
  rcases hk with hk|⟨i,hi,hk⟩
  .rcases Ey k hk with⟨g,_⟩|g
   .exact fin (.inl g)
   .exact⟨fun e=>by have:=hs.lt k e;omega,jN.lt k hk, .inl (by omega)⟩
  .exact fin (hSS i k hi hk)
def sd(T:bg P)(ob:Nat->Option (Nat×Th))(n:Nat)(t:TypeId)(X Y:aq)(k:eD->Option R):Option R:=
 match find T.und t with
 |some (.slice e)=>match find T.row e with
  |some r=>match Y with
   | .val false (.own o2)=>match ob o2 with
     |some (_, .deep T2 d2 m none)=>bif al4 T2 e&&d2.row.beq r then(match X with
      | .val false .nil=>(bZ ([]:List d2.row.den) m).bind fun l=>k {dst:= .val false (.own n),eat:=[o2],make:=[(n,(n, .deep e d2 l none))]}
      | .val false (.own o1)=>match ob o1 with
        |some (_, .deep T1 d1 l0 none)=>bif al4 o1 o2 then none else bif al4 T1 e then(if h:d1.beq d2=true then(bZ (DR.eq_of_beq h▸l0) m).bind fun l=>k {dst:= .val false (.own n),eat:=[o1,o2],make:=[(n,(n, .deep e d2 l none))]}else none)else none
        |_=>none
      |_=>none)else none
     |_=>none
   |_=>none
  |none=>none
 |_=>none
theorem BW(T:bg P){t:TypeId}{X Y:aq}{x y:Operand}{k:eD->Option R}{q:R}(h:sd T ob n t X Y k=some q)(hs:az U H F w ob n)(hx:al H F w X (ev ρ x))(hy:al H F w Y (ev ρ y)):
 ∃e,k e=some q/\cS P U H F w ρ ob n ⟨some d, .call {callee:= .builtin .append,args:= #[x,y],argTypes:= #[t,t]},ty,pos,aft,none⟩ e:=by
 unfold sd at h;split at h
 case h_2=>cases h
 rename_i e hu;split at h
 case h_2=>cases h
 rename_i r hr;split at h
 case h_2=>cases h
 rename_i o2;split at h
 case h_2=>cases h
 rename_i s2 T2 d2 m uZ;obtain⟨hc,h'⟩:=aK h;clear h;obtain⟨Bt,vj⟩:=di hc;obtain rfl:=beq_true Bt;have kD:=Row.eq_of_beq vj;obtain⟨cs,⟨u,NW,_,e2⟩,_,h3⟩:=hy;rw[h3 rfl]at e2
 obtain rfl:ev ρ y=u:=by simpa using e2
 split at h'
 .obtain⟨l,hl,hk⟩:=bind_some h';refine⟨_,hk,ux (Sx:=fun _=>False) T hu hr kD hs ?_ (fun _ h=>h.elim) (fun _ h=>h.elim) (fun _ h=>h.elim) uZ NW (by simp) (fun _ h=>h.elim) hl⟩;obtain⟨cs,h1,_,h4⟩:=hx;rw[h4 rfl]at h1;have th:[ev ρ x]=[Value.slice none 0 0]:=h1;rw[show ev ρ x= .slice none 0 0 by simpa using th];exact⟨[],fun _ _=>False,kS.nil F w T2 d2.low,rfl,fun i h=>absurd h (by simp),⟨fun k=>by simp[bw,amw],fun _ _ _ h=>absurd h (by simp),fun _ _ h=>absurd h (by simp)⟩⟩
 .rename_i o1;split at h'
  case h_2=>cases h'
  rename_i s1 T1 d1 l0 pk
  cases bR:al4 o1 o2 with
  |true=>rw[bR]at h';cases h'
  |false=>
   rw[bR,cond_false]at h'
   have bR:o1≠o2:=fun e=>by rw[e]at bR;simp at bR
   obtain⟨hT,h⟩:=aK h';clear h';obtain rfl:=beq_true hT;split at h
   case isFalse=>cases h
   rename_i hb;obtain rfl:=DR.eq_of_beq hb;obtain⟨l,hl,hk⟩:=bind_some h;obtain⟨cs,⟨v,vo,_,e1⟩,_,h4⟩:=hx;rw[h4 rfl]at e1
   obtain rfl:ev ρ x=v:=by simpa using e1
   obtain⟨v',dM,nc⟩:=hs.obj _ _ _ pk;rw[vo]at dM;obtain rfl:=alU dM;exact⟨_,hk,ux (Sx:=H.sub s1) T hu hr kD hs nc.ok nc.no (fun k hk=>⟨o1,by simp,s1,_,_,pk,vo,hk⟩) nc.lt uZ NW (by simp) (fun k hk=>hs.apart _ _ _ _ _ _ _ _ bR pk uZ vo NW k hk) hl⟩
 .cases h'
def La(ob:Nat->Option (Nat×Th)):aq->Bool
 | .val false (.own o)=>match ob o with
   |some (_, .deep ..)=>true
   |_=>false
 |_=>false
def oa(T:bg P)(ob:Nat->Option (Nat×Th))(n:Nat)(t:TypeId)(X Y:aq)(k:eD->Option R):Option R:=
 bif La ob Y then sd T ob n t X Y k else qb T ob n t X Y k
theorem BX(T:bg P){t:TypeId}{X Y:aq}{x y:Operand}{k:eD->Option R}{q:R}(h:oa T ob n t X Y k=some q)(hs:az U H F w ob n)(hx:al H F w X (ev ρ x))(hy:al H F w Y (ev ρ y)):
 ∃e,k e=some q/\cS P U H F w ρ ob n ⟨some d, .call {callee:= .builtin .append,args:= #[x,y],argTypes:= #[t,t]},ty,pos,aft,none⟩ e:=by
 unfold oa at h
 cases hb:La ob Y with
 |true=>rw[hb,cond_true]at h;exact BW T h hs hx hy
 |false=>rw[hb,cond_false]at h;exact Ei T h hs hx hy
end
end Go.Proofs.YtmihpkfkbfgigaaGreatDoor
end
section
open _root_.List renaming append_assoc->amk,length_cons->al9,mem_cons_self->amQ
open _root_.Nat renaming beq->al4,blt->amS,eq_of_beq_eq_true->amN,le_refl->alZ
open _root_.Option renaming none_or->am8
open _root_.Option.some renaming inj->alU,injEq->al7
open _root_.Prod.mk renaming injEq->amZ
open _root_.Go.Value renaming ownBlock->amw
namespace Go.Proofs.YtmihpkfkbfgigaaGreatDoor
open Go Go.RowKit
def fo(objs:List (Nat×(Nat×Th))):List Nat->Option (List (Nat×(Nat×Th)))
 |[]=>some objs
 |o::os=>match find objs o with
  |some (s, .own T r l)=>fo ((o,(s, .td T r l))::del [o] objs) os
  |some (s, .map T K agg V l)=>fo ((o,(s, .fmap T K agg V l))::del [o] objs) os
  |some (s, .deep T d l none)=>fo ((o,(s, .fdeep T d l))::del [o] objs) os
  |some (s, .dmap T K E r l none)=>fo ((o,(s, .fdmap T K E r l))::del [o] objs) os
  |some (_, .td ..)=>fo objs os
  |some (_, .fmap ..)=>fo objs os
  |some (_, .fdeep ..)=>fo objs os
  |some (_, .fdmap ..)=>fo objs os
  |_=>none
def eF:Th->Bool
 | .td .. =>true
 | .fmap .. =>true
 | .fdeep .. =>true
 | .fdmap .. =>true
 |_=>false
structure TA(t t':Th):Prop where
 froz:eF t'=true
 base:t'.base=t.base
 fp:∀S v k,¬fp S v t' k
 ok:∀{H:ay}{F:Nat->Prop}{w:World}{S:Nat->Prop}{v:Value},(∀k,Go.Proofs.YtmihpkfkbfgigaaGreatDoor.fp S v t k->¬F k)->jn H F w S v t->jn H (fun b=>F b\/Go.Proofs.YtmihpkfkbfgigaaGreatDoor.fp S v t b) w S v t'
structure cO(H:ay)(F:Nat->Prop)(w:World)(H':ay)(F':Nat->Prop)(w':World):Prop where
 jO:H.le H'
 step:Step F w F' w'
theorem cO.refl(H:ay)(F:Nat->Prop)(w:World):cO H F w H F w:=⟨ay.le.refl H,Step.refl F w⟩
theorem cO.trans{H H' tf:ay}{F F' BY:Nat->Prop}{w w' ur:World}(h:cO H F w H' F' w')(k:cO H' F' w' tf BY ur):cO H F w tf BY ur:=⟨h.jO.trans k.jO,h.step.trans k.step⟩
structure Lb(G:Nat->Prop)(w0:World)(F0:Nat->Prop)(w:World)(F:Nat->Prop):Prop where
 ext:Ext G w0 w
 le:∀b,F0 b->F b
 new:∀b,F b->F0 b\/w0.heap.size<=b\/G b
section
variable {U:Nat->Prop} {H:ay} {F:Nat->Prop} {w:World} {n:Nat}
theorem Oi(T:TypeId)(r:Row)(l:List r.den):TA (.own T r l) (.td T r l) where
 froz:=rfl
 base:=rfl
 fp _ _ _ h:=h
 ok hn h:=jV.freeze (base:=0) (T:=T) (l:=l) ⟨hn,h⟩
theorem Oj(T:TypeId)(K:Row)(agg:Bool)(V:Row)(l:List (K.den×V.den)):TA (.map T K agg V l) (.fmap T K agg V l) where
 froz:=rfl
 base:=rfl
 fp _ _ _ h:=h
 ok {H F w S v} _ h:=by
  obtain⟨b,es,clock,h1,h2,h3,h4⟩:=h;obtain⟨g1,g2⟩:=Gb h4;refine⟨v,rfl, .inr ⟨b,es,clock,h1, .inr h1,h2,h3,by simpa using g1,fun i hi=>?_⟩⟩;obtain⟨e,cs,q1,q2,q3,q4,q5⟩:=g2 i hi;exact⟨e,cs,by simpa using q1,q2,q3.step (Step.freeze F w _),q4,q5⟩
theorem kS.kD{F:Nat->Prop}{w:World}{T:TypeId}{r:Row}{v:Value}{l:List r.den}(h:kS F w T r v l):cR F w .kD [v] v:=by
 obtain⟨xs,⟨_,h⟩,_⟩:=h
 rcases h with⟨rfl,_⟩|⟨gg,o0,cap,cur,rfl,_⟩<;>exact⟨rfl,_,_,_,rfl⟩
theorem Lc(T:TypeId)(d:DR)(l:List d.row.den):TA (.deep T d l none) (.fdeep T d l) where
 froz:=rfl
 base:=rfl
 fp _ _ _ h:=h
 ok {H F w S v} hn h:=by
  have h':kQ F w (.sl T d) v l S:=h;obtain⟨lh,Ss,h1,_⟩:=h;exact kQ.freeze h' hn h1.kD
theorem Ld(T:TypeId)(K:Row)(E:TypeId)(r:Row)(l:List (K.den×List r.den)):TA (.dmap T K E r l none) (.fdmap T K E r l) where
 froz:=rfl
 base:=rfl
 fp _ _ _ h:=h
 ok {H F w S v} hn h:=by
  obtain⟨b,es,clock,B,h1,h2,h3,h4,h5,_⟩:=h;obtain⟨g1,g2⟩:=BT h4;refine⟨v,rfl, .inr ⟨b,es,clock,h1, .inr (h5.left b rfl),h2,h3,by simpa using g1,fun i hi=>?_⟩⟩;obtain⟨e,A,q1,q2,q3,q4⟩:=g2 i hi
  have N9:∀k,A k->S k:=fun k hk=>h5.right k (q4 k hk)
  have hf:=jV.freeze (base:=0) (T:=E) (l:=l[i].2) ⟨fun k hk=>hn k (N9 k ((q3.2 k).2 hk)),q3.1⟩;exact⟨e,[e.val],by simpa using q1,q2,hf.step (r:= .slice r) fun k hk=>⟨hk.imp id fun h=>N9 k ((q3.2 k).2 h),rfl⟩,rfl,fun _=>rfl⟩
theorem Ol{objs:List (Nat×(Nat×Th))}{o s:Nat}{t0 t1:Th}(hf:TA t0 t1)(hs:az U H F w (find objs) n)(ho:find objs o=some (s,t0)):
 ∃F',az U H F' w (find ((o,(s,t1))::del [o] objs)) n/\(∀b,F b->F' b)/\(∀b,F' b->F b\/∃v,H.val o=some v/\fp (H.sub s) v t0 b):=by
 obtain⟨v,hv,cx⟩:=hs.obj _ _ _ ho;refine⟨fun b=>F b\/fp (H.sub s) v t0 b,?_,fun _ h=> .inl h,fun b hb=>hb.imp id fun hm=>⟨v,hv,hm⟩⟩
 have part:∀o' s' t',find ((o,(s,t1))::del [o] objs) o'=some (s',t')->(o'=o/\s'=s/\t'=t1)\/(o'≠o/\find objs o'=some (s',t')):=by
  intro o' s' t' h;rw[aG]at h;split at h
  .rename_i e;simp only[al7,amZ]at h;exact .inl ⟨e.symm,h.1.symm,h.2.symm⟩
  .rename_i e;exact .inr ⟨fun e'=>e e'.symm,(iP.1 h).2⟩
 have fz:Step F w (fun b=>F b\/fp (H.sub s) v t0 b) w:=Step.freeze F w _;refine⟨fun o' s' t' h=>?_,fun o1 o2 s1 s2 t1' t2 v1 v2 bR h1 h2 e1 e2 k hk dZ=>?_,hs.fresh,fun b hb=>hb.elim (hs.lt b) (cx.lt b),hs.new,hs.gl.step fz⟩
 .rcases part o' s' t' h with⟨rfl,rfl,rfl⟩|⟨bR,h'⟩
  .exact⟨v,hv,cx.one,by rw[hf.base];exact cx.con,hf.ok cx.no cx.ok,fun k hk=>(hf.fp _ _ _ hk).elim,fun k hk=>(hf.fp _ _ _ hk).elim,fun k hk=>(hf.fp _ _ _ hk).elim⟩
  .obtain⟨v',dM,BZ⟩:=hs.obj _ _ _ h';refine⟨v',dM,BZ.one,BZ.con,BZ.ok.heap (ay.le.refl H) fz fun _ _=>rfl,fun k hk hF=>?_,BZ.lt,BZ.use⟩
   rcases hF with hF|hF
   .exact BZ.no k hk hF
   .exact hs.apart _ _ _ _ _ _ _ _ bR h' ho dM hv k hk hF
 .rcases part o1 s1 t1' h1 with⟨rfl,rfl,rfl⟩|⟨agl,th⟩
  .exact hf.fp _ _ _ hk
  .rcases part o2 s2 t2 h2 with⟨rfl,rfl,rfl⟩|⟨agm,Kz⟩
   .exact hf.fp _ _ _ dZ
   .exact hs.apart _ _ _ _ _ _ _ _ bR th Kz e1 e2 k hk dZ
theorem oc:{os:List Nat}->{F:Nat->Prop}->{objs nA:List (Nat×(Nat×Th))}->fo objs os=some nA->az U H F w (find objs) n->
 ∃F',az U H F' w (find nA) n/\(∀b,F b->F' b)/\(∀b,F' b->F b\/cE H (find objs) os b)
 |[],F,objs,nA,h,hs=>by obtain rfl:=alU h;exact⟨F,hs,fun _ h=>h,fun _ h=> .inl h⟩
 |o::os,F,objs,nA,h,hs=>by
  have main:∀s t t',TA t t'->find objs o=some (s,t)->fo ((o,(s,t'))::del [o] objs) os=some nA->
   ∃F',az U H F' w (find nA) n/\(∀b,F b->F' b)/\(∀b,F' b->F b\/cE H (find objs) (o::os) b):=by
   intro s t t' hf ho h;obtain⟨F1,a1,a2,a3⟩:=Ol hf hs ho;obtain⟨F2,b1,b2,b3⟩:=oc h a1;refine⟨F2,b1,fun b hb=>b2 b (a2 b hb),fun b hb=>?_⟩
   rcases b3 b hb with h1|⟨o',lD,s',t',v,h1,h2,h3⟩
   .rcases a3 b h1 with h2|⟨v,hv,hm⟩
    .exact .inl h2
    .exact .inr ⟨o,by simp,s,_,v,ho,hv,hm⟩
   .rw[aG]at h1;split at h1
    .simp only[al7,amZ]at h1;rw[<-h1.2]at h3;exact(hf.fp _ _ _ h3).elim
    .exact .inr ⟨o',by simp[lD],s',t',v,(iP.1 h1).2,h2,h3⟩
  have same:fo objs os=some nA->∃F',az U H F' w (find nA) n/\(∀b,F b->F' b)/\(∀b,F' b->F b\/cE H (find objs) (o::os) b):=by
   intro h;obtain⟨F2,b1,b2,b3⟩:=oc h hs;exact⟨F2,b1,b2,fun b hb=>(b3 b hb).imp id fun⟨o',lD,rest⟩=>⟨o',by simp[lD],rest⟩⟩
  unfold fo at h;split at h
  .rename_i ho;exact main _ _ _ (Oi ..) ho h
  .rename_i ho;exact main _ _ _ (Oj ..) ho h
  .rename_i ho;exact main _ _ _ (Lc ..) ho h
  .rename_i ho;exact main _ _ _ (Ld ..) ho h
  .exact same h
  .exact same h
  .exact same h
  .exact same h
  .cases h
end
theorem iu{S:Nat->Prop}{v:Value}{t:Th}{k:Nat}(h:eF t=true)(hk:fp S v t k):False:=by
 cases t<;>first|(exact hk)|(cases h)
theorem iV:{os:List Nat}->{objs nA:List (Nat×(Nat×Th))}->fo objs os=some nA->∀o s t,find nA o=some (s,t)->
 find objs o=some (s,t)\/eF t=true
 |[],objs,nA,h,o,s,t,ho=>by obtain rfl:=alU h;exact .inl ho
 |o0::os,objs,nA,h,o,s,t,ho=>by
  have main:∀s0 t1,eF t1=true->fo ((o0,(s0,t1))::del [o0] objs) os=some nA->find objs o=some (s,t)\/eF t=true:=by
   intro s0 t1 hf h
   rcases iV h o s t ho with h1|g
   .rw[aG]at h1;split at h1
    .simp only[al7,amZ]at h1;obtain⟨rfl,rfl⟩:=h1;exact .inr hf
    .exact .inl (iP.1 h1).2
   .exact .inr g
  unfold fo at h;split at h
  .exact main _ _ rfl h
  .exact main _ _ rfl h
  .exact main _ _ rfl h
  .exact main _ _ rfl h
  .exact iV h o s t ho
  .exact iV h o s t ho
  .exact iV h o s t ho
  .exact iV h o s t ho
  .cases h
inductive Sh where
 |leaf (r:Row)
 |own (j:Nat)
 |nil
 |pair (a b:Sh)
 |junk (n:Nat)
inductive SS where
 |val (agg:Bool) (t:Sh)
 |ptr (j:Nat) (p:List Bool) (off:Nat)
 |at (r:Row)
 |undef
 |fn (f:FuncId) (js:List (Nat×List Bool×Nat))
 |ifc (T:TypeId) (s:SS)
inductive OS where
 |box (T:TypeId) (t:Sh)
 |own (T:TypeId) (r:Row)
 |map (T:TypeId) (K:Row) (agg:Bool) (V:Row)
 |deep (T:TypeId) (d:DR)
 |dmap (T:TypeId) (K:Row) (E:TypeId) (r:Row)
structure JS where
 ak:List (Nat×SS)
 objs:List (Nat×OS):=[]
 drop:List Nat:=[]
 nxt:Nat
def Sh.rows:Sh->List Row
 | .leaf r=>[r]
 | .own _=>[]
 | .nil=>[]
 | .pair a b=>a.rows++b.rows
 | .junk _=>[]
def SS.rows:SS->List Row
 | .val _ t=>t.rows
 | .ptr .. =>[]
 | .at r=>[r]
 | .undef=>[]
 | .fn .. =>[]
 | .ifc _ s=>s.rows
def OS.rows:OS->List Row
 | .box _ t=>t.rows
 | .own _ r=>[.slice r]
 | .map _ K _ V=>[.slice (.pair K V)]
 | .deep _ d=>[.slice d.row]
 | .dmap _ K _ r=>[.slice (.pair K (.slice r))]
def B3:List (Nat×SS)->List Row
 |[]=>[]
 |p::l=>p.2.rows++B3 l
def Gd:List (Nat×OS)->List Row
 |[]=>[]
 |p::l=>p.2.rows++Gd l
def JS.rows(J:JS):List Row:=B3 J.ak++Gd J.objs
abbrev lA:=(r:Row)×r.den
@[reducible] def cM:List Row->Type
  |[]=>Unit
  |[r]=>r.den
  |r::s::rs=>r.den×cM (s::rs)
def dO:(rs:List Row)->cM rs->List lA
 |[],_=>[]
 |[r],x=>[⟨r,x⟩]
 |r::s::rs,x=>⟨r,x.1⟩::dO (s::rs) x.2
def B4:(rs:List Row)->List lA->Option (cM rs)
 |[],[]=>some ()
 |[r],[⟨s,x⟩]=>if h:s.beq r=true then some (jB (Row.eq_of_beq h) x)else none
 |r::r'::rs,⟨s,x⟩::vs=>if h:s.beq r=true then(match B4 (r'::rs) vs with
  |some y=>some (jB (Row.eq_of_beq h) x,y)
  |none=>none)else none
 |_,_=>none
theorem yK{r s:Row}(h:s=r)(x:s.den):(⟨r,jB h x⟩:lA)=⟨s,x⟩:=by subst h;rfl
theorem uy:{rs:List Row}->{vs:List lA}->{x:cM rs}->B4 rs vs=some x->dO rs x=vs
 |[],[],x,_=>rfl
 |[],_::_,_,h=>by cases h
 |[r],[],_,h=>by cases h
 |[r],[⟨s,x⟩],y,h=>by
  unfold B4 at h;split at h
  .rename_i hb;obtain rfl:=alU h
   show[(⟨r,_⟩:lA)]=_
   rw[yK]
  .cases h
 |[r],_::_::_,_,h=>by cases h
 |r::r'::rs,[],_,h=>by cases h
 |r::r'::rs,⟨s,x⟩::vs,y,h=>by
  unfold B4 at h;split at h
  .rename_i hb;split at h
   .rename_i z hz;obtain rfl:=alU h;have:=uy hz
    show(⟨r,_⟩:lA)::dO (r'::rs) z=_
    rw[yK,this]
   .cases h
  .cases h
def o6:Sh->List lA->Tree×List lA
 | .leaf r,⟨s,x⟩::vs=>(bif s.beq r then .leaf s x else .nil,vs)
 | .leaf _,[]=>(.nil,[])
 | .own j,vs=>(.own j,vs)
 | .nil,vs=>(.nil,vs)
 | .pair a b,vs=>(.pair (o6 a vs).1 (o6 b (o6 a vs).2).1,(o6 b (o6 a vs).2).2)
 | .junk n,vs=>(.junk n,vs)
def eX:SS->List lA->aq×List lA
 | .val agg t,vs=>(.val agg (o6 t vs).1,(o6 t vs).2)
 | .ptr j p off,vs=>(.ptr j p off,vs)
 | .at r,⟨s,x⟩::vs=>(bif s.beq r then .at s x else .dead,vs)
 | .at _,[]=>(.dead,[])
 | .undef,vs=>(.undef,vs)
 | .fn f js,vs=>(.fn f js,vs)
 | .ifc T s,vs=>(.ifc T (eX s vs).1,(eX s vs).2)
def dB:List (Nat×SS)->List lA->List (Nat×aq)×List lA
 |[],vs=>([],vs)
 |(t,s)::l,vs=>((t,(eX s vs).1)::(dB l (eX s vs).2).1,(dB l (eX s vs).2).2)
def cG:OS->List lA->Th×List lA
 | .box T t,vs=>(.box T (o6 t vs).1,(o6 t vs).2)
 | .own T r,⟨.slice s,l⟩::vs=>(bif s.beq r then .own T s l else .own T r [],vs)
 | .own T r,vs=>(.own T r [],vs)
 | .map T K agg V,⟨.slice (.pair K' V'),l⟩::vs=>(if h:K'.beq K=true/\V'.beq V=true then .map T K agg V (jB (r:= .slice (.pair K' V')) (s:= .slice (.pair K V)) (by rw[Row.eq_of_beq h.1,Row.eq_of_beq h.2]) l)else .map T K agg V [],vs)
 | .map T K agg V,vs=>(.map T K agg V [],vs)
 | .deep T d,⟨.slice s,l⟩::vs=>(if h:s.beq d.row=true then .deep T d (jB (r:= .slice s) (s:= .slice d.row) (congrArg Row.slice (Row.eq_of_beq h)) l) none else .deep T d [] none,vs)
 | .deep T d,vs=>(.deep T d [] none,vs)
 | .dmap T K E r,⟨.slice (.pair K' (.slice s)),l⟩::vs=>(if h:K'.beq K=true/\s.beq r=true then .dmap T K E r (jB (r:= .slice (.pair K' (.slice s))) (s:= .slice (.pair K (.slice r))) (by rw[Row.eq_of_beq h.1,Row.eq_of_beq h.2]) l) none else .dmap T K E r [] none,vs)
 | .dmap T K E r,vs=>(.dmap T K E r [] none,vs)
def iW(m:Nat):List (Nat×OS)->List lA->List (Nat×(Nat×Th))
 |[],_=>[]
 |(j,s)::l,vs=>(j,(m,(cG s vs).1))::iW (m+1) l (cG s vs).2
abbrev Bs:=List (Nat×Option Nat)
def EC:Option Nat->Option Nat->Bool
 |some a,some b=>al4 a b
 |none,none=>true
 |_,_=>false
theorem yL{a b:Option Nat}(h:EC a b=true):a=b:=by
 cases a<;>cases b<;>first|rfl|cases h|(rw[beq_true h])
def yM(bs:Bs)(j:Nat)(v:Option Nat):Option Bs:=
 match find bs j with
 |none=>some ((j,v)::bs)
 |some u=>bif EC u v then some bs else none
def DS(ob:Nat->Option (Nat×Th)):Sh->Tree->Bs->Option (List lA×Bs)
 | .leaf r,t,bs=>match flat ob r t with
   |some x=>some ([⟨r,x⟩],bs)
   |none=>none
 | .own j, .own o,bs=>match yM bs j (some o)with
   |some gK=>some ([],gK)
   |none=>none
 | .own j, .nil,bs=>match yM bs j none with
   |some gK=>some ([],gK)
   |none=>none
 | .nil, .nil,bs=>some ([],bs)
 | .junk n,t,bs=>bif al4 t.size n then some ([],bs)else none
 | .pair a b,t,bs=>match t.split with
   |some (x,y)=>match DS ob a x bs with
    |some (vs,ED)=>match DS ob b y ED with
     |some (us,Ge)=>some (vs++us,Ge)
     |none=>none
    |none=>none
   |none=>none
 |_,_,_=>none
def tE:List (Nat×List Bool×Nat)->List (Nat×List Bool×Nat)->Bs->Option Bs
 |[],[],bs=>some bs
 |(j,_,off)::js,(o,_,dV)::cs,bs=>bif al4 off dV then(match yM bs j (some o)with
  |some gK=>tE js cs gK
  |none=>none)else none
 |_,_,_=>none
def Le(ob:Nat->Option (Nat×Th))(s:SS)(d:aq)(bs:Bs):Option (List lA×Bs):=
 match s,d with
 | .val agg sh, .val me t=>bif (bif agg then me else !me)then DS ob sh t bs else none
 | .ptr j _ off, .ptr o _ dV=>bif al4 off dV then(match yM bs j (some o)with
   |some gK=>some ([],gK)
   |none=>none)else none
 | .at r, .at s x=>if h:s.beq r=true then some ([⟨r,jB (Row.eq_of_beq h) x⟩],bs)else none
 | .undef, .undef=>some ([],bs)
 | .fn f js, .fn f' cs=>bif al4 f f' then(match tE js cs bs with
   |some gK=>some ([],gK)
   |none=>none)else none
 |_,_=>none
def Is(ob:Nat->Option (Nat×Th)):SS->aq->Bs->Option (List lA×Bs)
 | .ifc T s,d,bs=>match d with
   | .ifc T' d'=>bif al4 T T' then Is ob s d' bs else none
   |_=>none
 |s,d,bs=>Le ob s d bs
def TB(ob:Nat->Option (Nat×Th))(ak:List (Nat×aq)):List (Nat×SS)->Bs->Option (List lA×Bs)
 |[],bs=>some ([],bs)
 |(t,s)::l,bs=>match find ak t with
  |some d=>match Is ob s d bs with
   |some (vs,ED)=>match TB ob ak l ED with
    |some (us,Ge)=>some (vs++us,Ge)
    |none=>none
   |none=>none
  |none=>none
def Lf(ob:Nat->Option (Nat×Th))(j:Nat)(s:OS)(bs:Bs):Option (List lA×Bs):=
 match find bs j with
 |some (some o)=>match ob o with
  |some (_,t)=>match s,t with
   | .own T r, .own T' r' l=>bif al4 T T' then(if h:r'.beq r=true then some ([⟨.slice r,jB (r:= .slice r') (s:= .slice r) (congrArg Row.slice (Row.eq_of_beq h)) l⟩],bs)else none)else none
   | .box T sh, .box T' t=>bif al4 T T' then DS ob sh t bs else none
   | .map T K agg V, .map T' K' me V' l=>bif al4 T T'&&(bif agg then me else !me)then(if h:K'.beq K=true/\V'.beq V=true then some ([⟨.slice (.pair K V),jB (r:= .slice (.pair K' V')) (s:= .slice (.pair K V)) (by rw[Row.eq_of_beq h.1,Row.eq_of_beq h.2]) l⟩],bs)else none)else none
   | .deep T d, .deep T' d' l none=>bif al4 T T'&&d'.beq d then some ([⟨.slice d'.row,l⟩],bs)else none
   | .dmap T K E r, .dmap T' K' E' r' l none=>bif al4 T T'&&al4 E E'&&K'.beq K&&r'.beq r then some ([⟨.slice (.pair K' (.slice r')),l⟩],bs)else none
   |_,_=>none
  |none=>none
 |some none=>match s with
  | .own _ r=>some ([⟨.slice r,([]:List r.den)⟩],bs)
  | .deep _ d=>some ([⟨.slice d.row,([]:List d.row.den)⟩],bs)
  |_=>none
 |none=>none
def TC(ob:Nat->Option (Nat×Th)):List (Nat×OS)->Bs->Option (List lA×Bs)
 |[],bs=>some ([],bs)
 |(j,s)::l,bs=>match Lf ob j s bs with
  |some (vs,ED)=>match TC ob l ED with
   |some (us,Ge)=>some (vs++us,Ge)
   |none=>none
  |none=>none
section
variable {U:Nat->Prop} {H H':ay} {F:Nat->Prop} {w:World} {n:Nat} {ob:Nat->Option (Nat×Th)}
def B5(bs gK:Bs):Prop:=∀j v,find bs j=some v->find gK j=some v
theorem mf{bs gK:Bs}{j:Nat}{v:Option Nat}(h:yM bs j v=some gK):B5 bs gK/\find gK j=some v:=by
 unfold yM at h;split at h
 .rename_i hn;obtain rfl:=alU h;refine⟨fun i u hu=>?_,by rw[aG,if_pos rfl]⟩;rw[aG];by_cases e:j=i
  .subst e;rw[hn]at hu;cases hu
  .rw[if_neg e];exact hu
 .rename_i u hu;obtain⟨h1,rfl⟩:=m8 h;obtain rfl:=yL h1;exact⟨fun _ _ h=>h,hu⟩
def valOf(H:ay):Option Nat->Option Value
 |some o=>H.val o
 |none=>some (.slice none 0 0)
def od(H H':ay)(bs:Bs):Prop:=∀j v,find bs j=some v->∀u,valOf H v=some u->H'.val j=some u
theorem wF:{sh:Sh}->{t:Tree}->{bs gK:Bs}->{vs:List lA}->DS ob sh t bs=some (vs,gK)->B5 bs gK
 | .leaf r,t,bs,gK,vs,h=>by
   unfold DS at h
   split at h<;>cases h
   exact fun _ _ h=>h
 | .own j, .own o,bs,gK,vs,h=>by
   unfold DS at h
   split at h<;>cases h
   rename_i hb;exact(mf hb).1
 | .own j, .nil,bs,gK,vs,h=>by
   unfold DS at h
   split at h<;>cases h
   rename_i hb;exact(mf hb).1
 | .nil, .nil,bs,gK,vs,h=>by cases h;exact fun _ _ h=>h
 | .pair a b,t,bs,gK,vs,h=>by
   unfold DS at h;split at h
   case h_2=>cases h
   split at h
   case h_2=>cases h
   rename_i h1;split at h
   case h_2=>cases h
   rename_i h2;cases h
   exact fun j v hj=>wF h2 j v (wF h1 j v hj)
 | .own _, .leaf _ _,_,_,_,h=>by cases h
 | .own _, .pair _ _,_,_,_,h=>by cases h
 | .nil, .leaf _ _,_,_,_,h=>by cases h
 | .nil, .own _,_,_,_,h=>by cases h
 | .nil, .pair _ _,_,_,_,h=>by cases h
 | .own _, .view ..,_,_,_,h=>by cases h
 | .nil, .view ..,_,_,_,h=>by cases h
 | .own _, .junk _,_,_,_,h=>by cases h
 | .nil, .junk _,_,_,_,h=>by cases h
 | .junk n,t,bs,gK,vs,h=>by
   unfold DS at h;obtain⟨_,h⟩:=aK h;cases h
   exact fun _ _ h=>h
theorem Ab(hs:az U H F w ob n):{sh:Sh}->{t:Tree}->{bs gK:Bs}->{vs:List lA}->{cs:List Value}->DS ob sh t bs=some (vs,gK)->Holds H F w t cs->od H H' gK->∀rest,
 Holds H' F w (o6 sh (vs++rest)).1 cs/\(o6 sh (vs++rest)).2=rest
 | .leaf r,t,bs,gK,vs,cs,h,hh,hb,rest=>by
   unfold DS at h
   split at h<;>cases h
   rename_i x hf;refine⟨?_,rfl⟩
   show Holds H' F w (bif r.beq r then Tree.leaf r x else .nil) cs
   rw[Row.beq_refl,cond_true];exact jo hs hf hh
 | .own j, .own o,bs,gK,vs,cs,h,hh,hb,rest=>by
   unfold DS at h
   split at h<;>cases h
   rename_i D6;obtain⟨v,hv,h1,rfl⟩:=hh;exact⟨⟨v,hb _ _ (mf D6).2 v hv,h1,rfl⟩,rfl⟩
 | .own j, .nil,bs,gK,vs,cs,h,hh,hb,rest=>by
   unfold DS at h
   split at h<;>cases h
   rename_i D6;rw[show cs=_ from hh];exact⟨⟨_,hb _ _ (mf D6).2 _ rfl,rfl,rfl⟩,rfl⟩
 | .nil, .nil,bs,gK,vs,cs,h,hh,hb,rest=>by cases h;exact⟨hh,rfl⟩
 | .pair a b,t,bs,gK,vs,cs,h,hh,hb,rest=>by
   unfold DS at h;split at h
   case h_2=>cases h
   rename_i x y sV;split at h
   case h_2=>cases h
   rename_i Yz ED h1;split at h
   case h_2=>cases h
   rename_i us Ge h2;cases h;obtain⟨c1,c2,rfl,g1,g2,_⟩:=hh.split sV
   have F8:od H H' ED:=fun j v hj=>hb j v (wF h2 j v hj)
   obtain⟨k1,k2⟩:=Ab hs h1 g1 F8 (us++rest);obtain⟨m1,m2⟩:=Ab hs h2 g2 hb rest;rw[amk];unfold o6;rw[k2];exact⟨⟨c1,c2,rfl,k1,m1⟩,m2⟩
 | .own _, .leaf _ _,_,_,_,_,h,_,_,_=>by cases h
 | .own _, .pair _ _,_,_,_,_,h,_,_,_=>by cases h
 | .nil, .leaf _ _,_,_,_,_,h,_,_,_=>by cases h
 | .nil, .own _,_,_,_,_,h,_,_,_=>by cases h
 | .nil, .pair _ _,_,_,_,_,h,_,_,_=>by cases h
 | .own _, .view ..,_,_,_,_,h,_,_,_=>by cases h
 | .nil, .view ..,_,_,_,_,h,_,_,_=>by cases h
 | .own _, .junk _,_,_,_,_,h,_,_,_=>by cases h
 | .nil, .junk _,_,_,_,_,h,_,_,_=>by cases h
 | .junk n,t,bs,gK,vs,cs,h,hh,hb,rest=>by
   unfold DS at h;obtain⟨hn,h⟩:=aK h;cases h;exact⟨⟨hh.length.trans (amN hn),hh.jU⟩,rfl⟩
theorem tF:{js cs:List (Nat×List Bool×Nat)}->{bs gK:Bs}->tE js cs bs=some gK->B5 bs gK
 |[],[],bs,gK,h=>by obtain rfl:=alU h;exact fun _ _ h=>h
 |(j,p,off)::js,(o,p',dV)::cs,bs,gK,h=>by
  unfold tE at h;obtain⟨_,h⟩:=aK h;split at h
  case h_2=>cases h
  rename_i hb
  exact fun i v hi=>tF h i v ((mf hb).1 i v hi)
 |[],_::_,_,_,h=>by cases h
 |_::_,[],_,_,h=>by cases h
theorem yN:{js cs:List (Nat×List Bool×Nat)}->{bs gK:Bs}->{vs:List Value}->tE js cs bs=some gK->lL H cs vs->od H H' gK->lL H' js vs
 |[],[],bs,gK,vs,h,hc,hb=>hc
 |(j,p,off)::js,(o,p',dV)::cs,bs,gK,vs,h,hc,hb=>by
  unfold tE at h;obtain⟨ho,h'⟩:=aK h;clear h;split at h'
  case h_2=>cases h'
  rename_i b1 D6;obtain⟨v,us,rfl,⟨b,h1,rfl⟩,h2⟩:=hc;have ho:=beq_true ho;subst ho;exact⟨_,us,rfl,⟨b,hb _ _ (tF h' _ _ (mf D6).2) _ h1,rfl⟩,yN h' h2 hb⟩
 |[],_::_,_,_,_,h,_,_=>by cases h
 |_::_,[],_,_,_,h,_,_=>by cases h
theorem Om{s:SS}{d:aq}{bs gK:Bs}{vs:List lA}(h:Le ob s d bs=some (vs,gK)):B5 bs gK:=by
 unfold Le at h;split at h
 .obtain⟨_,h⟩:=aK h;exact wF h
 .obtain⟨_,h⟩:=aK h
  split at h<;>cases h
  rename_i hb;exact(mf hb).1
 .split at h<;>cases h
  exact fun _ _ h=>h
 .cases h
  exact fun _ _ h=>h
 .obtain⟨_,h'⟩:=aK h
  split at h'<;>cases h'
  rename_i hb;exact tF hb
 .cases h
theorem On{s:SS}{d:aq}{bs gK:Bs}{vs:List lA}(h:Is ob s d bs=some (vs,gK)):B5 bs gK:=by
 induction s generalizing d with
 |ifc T s ih=>
  cases d with
  |ifc T' d'=>
   obtain⟨_,h'⟩:=aK (show(bif al4 T T' then Is ob s d' bs else none)=some (vs,gK)from h);exact ih h'
  |_=>cases h
 |_=>exact Om h
theorem Oo(hs:az U H F w ob n){s:SS}{d:aq}{bs gK:Bs}{vs:List lA}{v:Value}(h:Le ob s d bs=some (vs,gK))(hd:al H F w d v)(hb:od H H' gK)(rest:List lA):
 al H' F w (eX s (vs++rest)).1 v/\(eX s (vs++rest)).2=rest:=by
 unfold Le at h;split at h
 .rename_i agg sh me t;obtain⟨ha,h'⟩:=aK h;clear h
  have:agg=me:=by cases agg<;>cases me<;>simp_all
  subst this;obtain⟨cs,h1,h2⟩:=hd;obtain⟨k1,k2⟩:=Ab hs h' h1 hb rest;exact⟨⟨cs,k1,h2⟩,k2⟩
 .rename_i j p off o p' dV;obtain⟨ho,h'⟩:=aK h;clear h
  split at h'<;>cases h'
  rename_i D6;obtain⟨b,h1,h2⟩:=hd;refine⟨⟨b,hb _ _ (mf D6).2 _ h1,?_⟩,rfl⟩;rw[beq_true ho];exact h2
 .rename_i r s x
  split at h<;>cases h
  rename_i BC;obtain rfl:=Row.eq_of_beq BC;refine⟨?_,rfl⟩
  show al H' F w (bif s.beq s then aq.at s x else .dead) v
  rw[Row.beq_refl,cond_true];exact hd
 .cases h;exact⟨hd,rfl⟩
 .rename_i f js f' cs;obtain⟨hf,h'⟩:=aK h
  split at h'<;>cases h'
  rename_i D6;obtain⟨us,h1,h2⟩:=hd;refine⟨⟨us,?_,yN D6 h2 hb⟩,rfl⟩;rw[beq_true hf];exact h1
 .cases h
theorem Oq(hs:az U H F w ob n){s:SS}{d:aq}{bs gK:Bs}{vs:List lA}{v:Value}(h:Is ob s d bs=some (vs,gK))(hd:al H F w d v)(hb:od H H' gK)(rest:List lA):
 al H' F w (eX s (vs++rest)).1 v/\(eX s (vs++rest)).2=rest:=by
 induction s generalizing d v with
 |ifc T s ih=>
  cases d with
  |ifc T' d'=>
   obtain⟨hT,h'⟩:=aK (show(bif al4 T T' then Is ob s d' bs else none)=some (vs,gK)from h);obtain⟨u,e,h2⟩:=hd;obtain⟨k1,k2⟩:=ih h' h2;exact⟨⟨u,by rw[beq_true hT];exact e,k1⟩,k2⟩
  |_=>cases h
 |_=>exact Oo hs h hd hb rest
theorem Lg:{l:List (Nat×SS)}->{ak:List (Nat×aq)}->{bs gK:Bs}->{vs:List lA}->TB ob ak l bs=some (vs,gK)->B5 bs gK
 |[],_,_,_,_,h=>by cases h;exact fun _ _ h=>h
 |(t,s)::l,ak,bs,gK,vs,h=>by
  unfold TB at h;split at h
  case h_2=>cases h
  split at h
  case h_2=>cases h
  rename_i h1;split at h
  case h_2=>cases h
  rename_i h2;cases h
  exact fun j v hj=>Lg h2 j v (On h1 j v hj)
theorem Lh(hs:az U H F w ob n){ak:List (Nat×aq)}{ρ:Nat->Value}(gJ:∀t d,find ak t=some d->al H F w d (ρ t)):{l:List (Nat×SS)}->{bs gK:Bs}->{vs:List lA}->TB ob ak l bs=some (vs,gK)->od H H' gK->∀rest,
 (∀t d,find (dB l (vs++rest)).1 t=some d->al H' F w d (ρ t))/\(dB l (vs++rest)).2=rest
 |[],bs,gK,vs,h,_,rest=>by cases h;exact⟨fun _ _ h=>(by cases h),rfl⟩
 |(t,s)::l,bs,gK,vs,h,hb,rest=>by
  unfold TB at h;split at h
  case h_2=>cases h
  rename_i d hd;split at h
  case h_2=>cases h
  rename_i Yz ED h1;split at h
  case h_2=>cases h
  rename_i us Ge h2;cases h
  have F8:od H H' ED:=fun j v hj=>hb j v (Lg h2 j v hj)
  obtain⟨k1,k2⟩:=Oq hs h1 (gJ t d hd) F8 (us++rest);obtain⟨m1,m2⟩:=Lh hs gJ h2 hb rest;rw[amk];unfold dB;rw[k2];refine⟨fun t' d' h'=>?_,m2⟩;rw[aG]at h';split at h'
  .rename_i e;subst e;obtain rfl:=alU h';exact k1
  .exact m1 t' d' h'
end
end Go.Proofs.YtmihpkfkbfgigaaGreatDoor
namespace Go.Proofs.YtmihpkfkbfgigaaGreatDoor
open Go Go.RowKit
def Tree.owns:Tree->List Nat
 | .own o=>[o]
 | .pair a b=>a.owns++b.owns
 | .view o _ _ _=>[o]
 |_=>[]
def B6:Sh->Tree->List Nat
 | .leaf _,t=>t.owns
 | .pair a b,t=>match t.split with
   |some (x,y)=>B6 a x++B6 b y
   |none=>[]
 |_,_=>[]
def Gf(ak:List (Nat×aq)):List (Nat×SS)->List Nat
 |[]=>[]
 |(t, .val _ sh)::l=>(match find ak t with
  |some (.val _ tr)=>B6 sh tr
  |_=>[])++Gf ak l
 |(t, .ifc _ (.val _ sh))::l=>(match find ak t with
  |some (.ifc _ (.val _ tr))=>B6 sh tr
  |_=>[])++Gf ak l
 |_::l=>Gf ak l
def P9(j:Nat):List (Nat×List Bool×Nat)->List (Nat×List Bool×Nat)->Option Nat
 |(j',_)::js,(o,_)::cs=>bif al4 j' j then some o else P9 j js cs
 |_,_=>none
def B7(ak:List (Nat×aq))(j:Nat):List (Nat×SS)->Option Nat
 |[]=>none
 |(t, .ptr j' _ _)::l=>bif al4 j' j then(match find ak t with
  |some (.ptr o _ _)=>some o
  |_=>none)else B7 ak j l
 |(t, .ifc _ (.ptr j' _ _))::l=>bif al4 j' j then(match find ak t with
  |some (.ifc _ (.ptr o _ _))=>some o
  |_=>none)else B7 ak j l
 |(t, .fn _ js)::l=>match(match find ak t with
    |some (.fn _ cs)=>P9 j js cs
    |_=>none)with
  |some o=>some o
  |none=>B7 ak j l
 |_::l=>B7 ak j l
def Li(nb:Nat)(ak:List (Nat×aq))(ss:List (Nat×SS))(objs:List (Nat×(Nat×Th))):List (Nat×OS)->List Nat
 |[]=>[]
 |(j, .box _ sh)::l=>(match(bif amS j nb then some j else B7 ak j ss)with
  |some o=>(match find objs o with
   |some (_, .box _ tr)=>B6 sh tr
   |_=>[])
  |none=>[])++Li nb ak ss objs l
 |_::l=>Li nb ak ss objs l
def YA(nb:Nat):List (Nat×OS)->Bs
 |[]=>[]
 |(j,_)::l=>bif amS j nb then(j,some j)::YA nb l else YA nb l
def iA:Bs->List Nat
 |[]=>[]
 |(_,some o)::l=>o::iA l
 |(_,none)::l=>iA l
def nf(o:Nat)(l:List Nat):Bool:=l.any (al4 o)
def EE:List Nat->Bool
 |[]=>true
 |o::l=> !nf o l&&EE l
def Lj(nb nxt:Nat):Bs->Bool
 |[]=>true
 |(j,u)::l=>(bif amS j nb then EC u (some j)else amS j nxt)&&Lj nb nxt l
def EF(objs:List (Nat×(Nat×Th)))(B8:List Nat):List (Nat×(Nat×Th))->Bool
 |[]=>true
 |(o,(s,t))::l=>(match find objs o with
  |some (s',t')=>al4 s s'&&(bif eF t then eF t' else !eF t')
  |none=>false)&& !nf o B8&&EF objs B8 l
def yO(nb:Nat)(J:JS)(ak:List (Nat×aq))(objs:List (Nat×(Nat×Th))):List Nat:=Gf ak J.ak++Li nb ak J.ak objs J.objs
def yP(nb:Nat)(frame:List (Nat×(Nat×Th)))(J:JS)(ak:List (Nat×aq))(objs:List (Nat×(Nat×Th))):Option (cM J.rows×Bs×List (Nat×(Nat×Th))):=
 match fo objs (yO nb J ak objs)with
 |none=>none
 |some aR=>match TB (find aR) ak J.ak (YA nb J.objs)with
  |none=>none
  |some (vs,ED)=>match TC (find aR) J.objs ED with
   |none=>none
   |some (us,Ge)=>bif EE (iA Ge)&&Lj nb J.nxt Ge&&Nat.ble (nb+J.objs.length) J.nxt&&EF aR (iA Ge) frame then
     (match B4 J.rows (vs++us)with
     |some x=>some (x,Ge,aR)
     |none=>none)else none
def se:List (Nat×(Nat×Th))->Nat->Option Th
 |[],_=>none
 |(_,(s,t))::l,m=>bif al4 s m then some t else se l m
def Re:List (Nat×(Nat×Th))->Nat->Option Nat
 |[],_=>none
 |(j,(s,_))::l,m=>bif al4 s m then some j else Re l m
def wG(H:ay)(ob:Nat->Option (Nat×Th)):Option (Option Nat)->Nat->Prop
 |some (some o)=>match ob o with
  |some (s,_)=>H.sub s
  |none=>fun _=>False
 |_=>fun _=>False
def ef(H:ay)(nb:Nat)(bs:Bs)(cons:List (Nat×(Nat×Th)))(ob:Nat->Option (Nat×Th)):ay where
 val m:=if m<nb then H.val m else match find bs m with
  |some u=>valOf H u
  |none=>none
 con m:=if m<nb then H.con m else se cons m
 sub m:=if m<nb then H.sub m else match Re cons m with
  |some j=>wG H ob (find bs j)
  |none=>fun _=>False
section
variable {U:Nat->Prop} {H H':ay} {F:Nat->Prop} {w:World} {n:Nat} {ob:Nat->Option (Nat×Th)}
theorem Gg{j:Nat}{s:OS}{bs gK:Bs}{vs:List lA}(h:Lf ob j s bs=some (vs,gK)):B5 bs gK:=by
 unfold Lf at h;split at h
 .split at h
  case h_2=>cases h
  split at h
  .obtain⟨_,h'⟩:=aK h
   split at h'<;>cases h'
   exact fun _ _ h=>h
  .obtain⟨_,h'⟩:=aK h;exact wF h'
  .obtain⟨_,h'⟩:=aK h
   split at h'<;>cases h'
   exact fun _ _ h=>h
  .obtain⟨_,h'⟩:=aK h;cases h'
   exact fun _ _ h=>h
  .obtain⟨_,h'⟩:=aK h;cases h'
   exact fun _ _ h=>h
  .cases h
 .split at h<;>cases h
  .exact fun _ _ h=>h
  .exact fun _ _ h=>h
 .cases h
theorem Ac:{l:List (Nat×OS)}->{bs gK:Bs}->{vs:List lA}->TC ob l bs=some (vs,gK)->B5 bs gK
 |[],_,_,_,h=>by cases h;exact fun _ _ h=>h
 |(j,s)::l,bs,gK,vs,h=>by
  unfold TC at h;split at h
  case h_2=>cases h
  rename_i h1;split at h
  case h_2=>cases h
  rename_i h2;cases h
  exact fun j v hj=>Ac h2 j v (Gg h1 j v hj)
def mJ(H H':ay)(F:Nat->Prop)(w:World)(ob:Nat->Option (Nat×Th))(bs:Bs)(j:Nat)(t:Th):Prop:=
 ∃u v,find bs j=some u/\valOf H u=some v/\v.oneCell'=true/\t.base=t/\jn H' F w (wG H ob (find bs j)) v t/\∀k,fp (wG H ob (find bs j)) v t k->∃o s0 t0,u=some o/\ob o=some (s0,t0)/\H.val o=some v/\fp (H.sub s0) v t0 k
theorem Ot(hs:az U H F w ob n){j:Nat}{s:OS}{bs gK:Bs}{vs:List lA}(h:Lf ob j s bs=some (vs,gK))(hb:od H H' gK)(rest:List lA):
 mJ H H' F w ob bs j (cG s (vs++rest)).1/\(cG s (vs++rest)).2=rest:=by
 unfold Lf at h;split at h
 .rename_i o TD;split at h
  case h_2=>cases h
  rename_i s0 t0 dh;obtain⟨v,hv,cx⟩:=hs.obj _ _ _ dh
  have gI:wG H ob (find bs j)=H.sub s0:=by rw[TD];simp[wG,dh]
  have mk:∀t,t.base=t->jn H' F w (H.sub s0) v t->(∀k,fp (H.sub s0) v t k->fp (H.sub s0) v t0 k)->mJ H H' F w ob bs j t:=by
   intro t hb nX hf;refine⟨some o,v,TD,hv,cx.one,hb,by rw[gI];exact nX,fun k hk=>?_⟩;rw[gI]at hk;exact⟨o,_,_,rfl,dh,hv,hf k hk⟩
  split at h
  .rename_i T r T' r' l;obtain⟨hT,h'⟩:=aK h;clear h
   split at h'<;>cases h'
   rename_i BC;obtain rfl:=Row.eq_of_beq BC;obtain rfl:=beq_true hT;refine⟨?_,rfl⟩
   show mJ H H' F w ob bs j (bif r'.beq r' then Th.own T r' l else .own T r' [])
   rw[Row.beq_refl,cond_true]
   exact mk _ rfl cx.ok fun k hk=>hk
  .rename_i T sh T' t;obtain⟨hT,h'⟩:=aK h;clear h;obtain rfl:=beq_true hT;obtain⟨b,es,e,h1,h2⟩:=cx.ok;obtain⟨k1,k2⟩:=Ab hs h' h2 hb rest;exact⟨mk _ rfl ⟨b,es,e,h1,k1⟩ fun k hk=>hk,k2⟩
  .rename_i T K agg V T' K' me V' l;obtain⟨hT,h'⟩:=aK h;clear h
   split at h'<;>cases h'
   rename_i BC;obtain⟨Uz,ha⟩:=di hT;clear hT
   have ha:agg=me:=by cases agg<;>cases me<;>simp_all
   subst ha;obtain⟨hK,hV⟩:=BC;obtain rfl:=Row.eq_of_beq hK;obtain rfl:=Row.eq_of_beq hV;obtain rfl:=beq_true Uz;refine⟨?_,rfl⟩
   show mJ H H' F w ob bs j (if h:K'.beq K'=true/\V'.beq V'=true then Th.map T K' agg V' l else .map T K' agg V' [])
   rw[dif_pos ⟨Row.beq_refl _,Row.beq_refl _⟩];obtain⟨b,es,clock,e,h1,h2,h3⟩:=cx.ok
   exact mk _ rfl ⟨b,es,clock,e,h1,h2,h3.jO⟩ fun k hk=>hk
  .rename_i T d T' d' l;obtain⟨hT,h'⟩:=aK h;clear h;obtain⟨Uz,hd⟩:=di hT;obtain rfl:=DR.eq_of_beq hd;obtain rfl:=beq_true Uz;cases h';refine⟨?_,rfl⟩
   show mJ H H' F w ob bs j (if h:d'.row.beq d'.row=true then Th.deep T d' l none else .deep T d' [] none)
   rw[dif_pos (Row.beq_refl _)]
   exact mk _ rfl cx.ok fun k hk=>hk
  .rename_i T K E r T' K' E' r' l;obtain⟨hT,h'⟩:=aK h;clear h;obtain⟨hT,hd⟩:=di hT;obtain⟨hT,yy⟩:=di hT;obtain⟨Uz,hE⟩:=di hT;obtain rfl:=Row.eq_of_beq hd;obtain rfl:=Row.eq_of_beq yy;obtain rfl:=beq_true Uz;obtain rfl:=beq_true hE;cases h';refine⟨?_,rfl⟩
   show mJ H H' F w ob bs j (if h:K'.beq K'=true/\r'.beq r'=true then Th.dmap T K' E r' l none else .dmap T K' E r' [] none)
   rw[dif_pos ⟨Row.beq_refl _,Row.beq_refl _⟩];obtain⟨b,es,clock,B,e,h1,h2,h3,h4,_⟩:=cx.ok
   exact mk _ rfl ⟨b,es,clock,B,e,h1,h2,h3.keep (Step.refl F w) (fun _ _ _ e=>by cases e) (fun _ _=>rfl),h4,fun _ _ e=>by cases e⟩ fun k hk=>hk
  .cases h
 .rename_i TD
  split at h<;>cases h
  .rename_i T r;refine⟨?_,rfl⟩
   show mJ H H' F w ob bs j (bif r.beq r then Th.own T r []else .own T r [])
   rw[Row.beq_refl,cond_true];refine⟨none,_,TD,rfl,rfl,rfl,(jV.nil 0 F w T r).2,fun k hk=>?_⟩;have dZ:bw (.slice none 0 0) k:=hk;simp[bw,amw]at dZ
  .rename_i T d;refine⟨?_,rfl⟩
   show mJ H H' F w ob bs j (if h:d.row.beq d.row=true then Th.deep T d [] none else .deep T d [] none)
   rw[dif_pos (Row.beq_refl _)]
   have gI:wG H ob (find bs j)=fun _=>False:=by rw[TD];rfl
   refine⟨none,_,TD,rfl,rfl,rfl,?_,fun k hk=>?_⟩
   .rw[gI];exact⟨[],fun _ _=>False,kS.nil F w T d.low,rfl,fun i h=>absurd h (by simp),⟨fun k=>by simp[bw,amw],fun _ _ _ h=>absurd h (by simp),fun _ _ h=>absurd h (by simp)⟩⟩
   .rw[gI]at hk;exact hk.elim
 .cases h
theorem B9:{l:List (Nat×OS)}->{m k:Nat}->{vs:List lA}->m+l.length<=k->se (iW m l vs) k=none
 |[],_,_,_,_=>rfl
 |(j,s)::l,m,k,vs,h=>by
  show(bif al4 m k then _ else se (iW (m+1) l _) k)=none
  rw[al9]at h
  have:al4 m k=false:=by
   cases hb:al4 m k with
   |false=>rfl
   |true=>have:=beq_true hb;omega
  rw[this,cond_false];exact B9 (by omega)
theorem Lk(hs:az U H F w ob n):{l:List (Nat×OS)}->{bs gK:Bs}->{vs:List lA}->TC ob l bs=some (vs,gK)->od H H' gK->∀m,
 ∀j s t,find (iW m l vs) j=some (s,t)->m<=s/\s<m+l.length/\se (iW m l vs) s=some t/\Re (iW m l vs) s=some j/\mJ H H' F w ob gK j t
 |[],_,_,_,h,_,m=>by cases h;intro j s t h;cases h
 |(j0,s0)::l,bs,gK,vs,h,hb,m=>by
  unfold TC at h;split at h
  case h_2=>cases h
  rename_i Yz ED h1;split at h
  case h_2=>cases h
  rename_i us Ge h2;cases h
  have F8:od H H' ED:=fun j v hj=>hb j v (Ac h2 j v hj)
  obtain⟨⟨u,v,g1,g2⟩,k2⟩:=Ot hs h1 F8 us;intro j s t hf;unfold iW at hf⊢;rw[aG]at hf;rw[k2]at hf⊢;split at hf
  .rename_i e;subst e;simp only[al7,amZ]at hf;obtain⟨rfl,rfl⟩:=hf;have e1:=Ac h2 _ _ (Gg h1 _ _ g1);rw[g1]at g2;refine⟨alZ _,by simp,?_,?_,u,v,e1,?_⟩
   .show(bif al4 m m then _ else _)=_
    simp
   .show(bif al4 m m then _ else _)=_
    simp
   .rw[e1];exact g2
  .obtain⟨a1,a2,a3,a4,a5⟩:=Lk hs h2 hb (m+1) j s t hf
   have:al4 m s=false:=by
    cases hb:al4 m s with
    |false=>rfl
    |true=>have:=beq_true hb;omega
   refine⟨by omega,by rw[al9];omega,?_,?_,a5⟩
   .show(bif al4 m s then _ else _)=_
    rw[this,cond_false];exact a3
   .show(bif al4 m s then _ else _)=_
    rw[this,cond_false];exact a4
theorem eh{o:Nat}{l:List Nat}:nf o l=true↔o∈l:=any_beq
theorem kl:{bs:Bs}->{j o:Nat}->find bs j=some (some o)->o∈iA bs
 |[],_,_,h=>by cases h
 |(i,u)::bs,j,o,h=>by
  rw[aG]at h;split at h
  .obtain rfl:=alU h;exact amQ
  .have:=kl h
   cases u with
   |none=>exact this
   |some q=>exact List.mem_cons_of_mem _ this
theorem tG:{bs:Bs}->EE (iA bs)=true->{j j' o:Nat}->find bs j=some (some o)->find bs j'=some (some o)->j=j'
 |[],_,_,_,_,h,_=>by cases h
 |(i,u)::bs,hn,j,j',o,h,h'=>by
  rw[aG]at h h'
  cases u with
  |none=>
   split at h
   .cases h
   .split at h'
    .cases h'
    .exact tG (bs:=bs) hn h h'
  |some q=>
   obtain⟨hq,NS⟩:=di hn
   have hq:q∉iA bs:=fun e=>by rw[eh.2 e]at hq;cases hq
   split at h
   .rename_i e1;obtain rfl:q=o:=alU (alU h);split at h'
    .rename_i e2;exact e1.symm.trans e2
    .exact absurd (kl h') hq
   .split at h'
    .obtain rfl:q=o:=alU (alU h');exact absurd (kl h) hq
    .exact tG NS h h'
theorem wH{nb nxt:Nat}:{bs:Bs}->Lj nb nxt bs=true->{j:Nat}->{u:Option Nat}->find bs j=some u->(j<nb->u=some j)/\(nb<=j->j<nxt)
 |[],_,_,_,h=>by cases h
 |(i,v)::bs,hk,j,u,h=>by
  obtain⟨h1,h2⟩:=di hk;rw[aG]at h;split at h
  .rename_i e;subst e;obtain rfl:=alU h
   cases hb:amS i nb with
   |true=>
    rw[hb,cond_true]at h1
    have:i<nb:=by simpa using hb
    exact⟨fun _=>yL h1,fun _=>by omega⟩
   |false=>
    rw[hb,cond_false]at h1
    have hge:¬i<nb:=fun e=>by have:amS i nb=true:=by simpa using e
                              rw[hb]at this;cases this
    exact⟨fun e=>absurd e hge,fun _=>by simpa using h1⟩
  .exact wH h2 h
theorem yQ{objs:List (Nat×(Nat×Th))}{B8:List Nat}:{fr:List (Nat×(Nat×Th))}->EF objs B8 fr=true->{o s:Nat}->{t:Th}->find fr o=some (s,t)->
 o∉B8/\∃t',find objs o=some (s,t')/\eF t'=eF t
 |[],_,_,_,_,h=>by cases h
 |(i,(s0,t0))::fr,hf,o,s,t,h=>by
  obtain⟨h1,h2⟩:=di hf;obtain⟨h1,h3⟩:=di h1;rw[aG]at h;split at h
  .rename_i e;subst e;simp only[al7,amZ]at h;obtain⟨rfl,rfl⟩:=h;split at h1
   .rename_i s' t' ho;obtain⟨h4,h5⟩:=di h1;obtain rfl:=beq_true h4;refine⟨fun e=>(by rw[eh.2 e]at h3;cases h3),t',ho,?_⟩
    cases ha:eF t0<;>cases hb:eF t'<;>simp_all
   .cases h1
  .exact yQ h2 h
theorem Ll{t t':Th}(h:t.base=t'.base)(hf:eF t=eF t'):t=t':=by
 cases t<;>cases t'<;>simp_all[Th.base,eF]
theorem wI{U':Nat->Prop}{H0:ay}{F0:Nat->Prop}{w0:World}{objs0:List (Nat×(Nat×Th))}{nb:Nat}{ns:List Nat}{J:JS}{ak:List (Nat×aq)}{objs aR:List (Nat×(Nat×Th))}{x:cM J.rows}{bs:Bs}{ρ:Nat->Value}
 (h:yP nb (del ns objs0) J ak objs=some (x,bs,aR))(It:az U H0 F0 w0 (find objs0) nb)(Qa:jD H0 nb)(hk:cO H0 F0 w0 H F w)(hs:az U H F w (find objs) n)(gJ:∀t d,find ak t=some d->al H F w d (ρ t)):
 ∃F1 H1,az U H F1 w (find aR) n/\(∀b,F b->F1 b)/\(∀b,F1 b->F b\/cE H (find objs) (yO nb J ak objs) b)/\fo objs (yO nb J ak objs)=some aR/\H0.le H1/\od H H1 bs/\jD H1 J.nxt/\
  (∀t d,find (dB J.ak (dO J.rows x)).1 t=some d->al H1 F1 w d (ρ t))/\
  ((∀b,w.heap.size<=b->U' b)->(∀o s t v k,o∈iA bs->find aR o=some (s,t)->H.val o=some v->fp (H.sub s) v t k->U' k)->(∀o s t v k,find (del ns objs0) o=some (s,t)->H.val o=some v->fp (H.sub s) v t k->U' k)->
    az U' H1 F1 w (find (iW nb J.objs (dB J.ak (dO J.rows x)).2++del ns objs0)) J.nxt):=by
 unfold yP at h;split at h
 case h_1=>cases h
 rename_i YB xZ;split at h
 case h_1=>cases h
 rename_i vs ED hS;split at h
 case h_1=>cases h
 rename_i us Ge hO;obtain⟨hc,h'⟩:=aK h;clear h;split at h'
 case h_2=>cases h'
 rename_i x' hx;cases h';obtain⟨hc,Tv⟩:=di hc;obtain⟨hc,KX⟩:=di hc;obtain⟨Bt,vj⟩:=di hc
 have KX:nb+J.objs.length<=J.nxt:=by simpa using KX
 obtain⟨F1,qM,D9,Nv⟩:=oc xZ hs
 have fi:Step F w F1 w:=fun b hb=>⟨D9 b hb,rfl⟩
 have YC:∀t d,find ak t=some d->al H F1 w d (ρ t):=fun t d hd=>(gJ t d hd).keep (ay.le.refl H) fi
 rw[uy hx]
 have Lm:∃cons,cons=iW nb J.objs us:=⟨_,rfl⟩
 obtain⟨cons,Ca⟩:=Lm
 have Cb:H0.le (ef H nb bs cons (find aR)):=by
  have aj:∀s t,H0.con s=some t->s<nb:=fun s t fi=>by
   rcases Nat.lt_or_ge s nb with h|h
   .exact h
   .rw[(Qa s h).2]at fi;cases fi
  refine⟨fun o v ho=>?_,fun s t fi=>?_,fun s t fi=>?_⟩
  .have:o<nb:=by
    rcases Nat.lt_or_ge o nb with h|h
    .exact h
    .rw[(Qa o h).1]at ho;cases ho
   simp[ef,this,hk.jO.val _ _ ho]
  .simp[ef,aj s t fi,hk.jO.con _ _ fi]
  .simp[ef,aj s t fi,hk.jO.sub _ _ fi]
 have tH:od H (ef H nb bs cons (find aR)) bs:=by
  intro j u hj v hv;obtain⟨a1,a2⟩:=wH vj hj;by_cases aj:j<nb
  .obtain rfl:=a1 aj;simpa[ef,aj,valOf]using hv
  .simpa[ef,aj,hj]using hv
 have Ou:od H (ef H nb bs cons (find aR)) ED:=fun j v hj=>tH j v (Ac hO j v hj)
 obtain⟨p1,p2⟩:=Lh qM YC hS Ou us
 have Gh:jD (ef H nb bs cons (find aR)) J.nxt:=fun m hm=>by
  have P6:¬m<nb:=by omega
  refine⟨?_,?_⟩
  .simp only[ef,if_neg P6];split
   .rename_i u hu;have:=(wH vj hu).2 (by omega);omega
   .rfl
  .simp only[ef,if_neg P6,Ca];exact B9 (by omega)
 refine⟨F1,ef H nb bs cons (find aR),qM,D9,Nv,xZ,Cb,tH,Gh,p1,fun hU1 hU2 hU3=>?_⟩;rw[p2,<-Ca];have UA:=Lk (H':=ef H nb bs cons (find aR)) qM hO tH nb;rw[<-Ca]at UA
 have part:∀o s t,find (cons++del ns objs0) o=some (s,t)->find cons o=some (s,t)\/find (del ns objs0) o=some (s,t):=by
  intro o s t ho;rw[iO]at ho
  cases hm:find cons o with
  |some y=>rw[hm]at ho;exact .inl ho
  |none=>rw[hm,am8]at ho;exact .inr ho
 have Bu:∀o s t,find (del ns objs0) o=some (s,t)->o∉iA bs/\find aR o=some (s,t)/\∃v,H.val o=some v/\(ef H nb bs cons (find aR)).val o=some v/\v.oneCell'=true/\(ef H nb bs cons (find aR)).con s=some t.base/\(ef H nb bs cons (find aR)).sub s=H.sub s/\jn (ef H nb bs cons (find aR)) F1 w (H.sub s) v t:=by
  intro o s t ho;obtain⟨q1,t',q2,q3⟩:=yQ Tv ho;have ho0:=(iP.1 ho).2;obtain⟨v0,N1,EG⟩:=It.obj _ _ _ ho0;obtain⟨v1,vo,nc⟩:=qM.obj _ _ _ q2;have e1:=hk.jO.val _ _ N1;rw[vo]at e1;obtain rfl:=alU e1;have e2:=hk.jO.con _ _ EG.con;rw[nc.con]at e2;have ht:=Ll (alU e2) q3;subst ht;refine⟨q1,q2,v1,vo,Cb.val _ _ N1,nc.one,Cb.con _ _ EG.con,(Cb.sub _ _ EG.con).trans (hk.jO.sub _ _ EG.con).symm,?_⟩
  cases t' with
  |fdeep T d l=>exact nc.ok
  |deep T d l hh=>
   obtain⟨lh0,_,_,e0,r0,_⟩:=EG.ok
   refine HJ.mono (show HJ F1 w T d.low _ v1 l (H.sub s)from nc.ok) (Step.refl F1 w) (fun _ _=>rfl) fun i x' hi A hA hr=>?_
   cases hh with
   |none=>exact hr
   |some h=>
    refine⟨hr.1,fun hh=>?_⟩;obtain⟨T',e,q,g1,g2,g3⟩:=hr.2 hh;obtain⟨_,_,q0,_,_,k3⟩:=(r0 i (by omega) hi).2 hh;have e3:=hk.jO.val _ _ k3;rw[g3]at e3;exact⟨T',e,q,g1,g2,by rw[alU e3];exact Cb.val _ _ k3⟩
  |box T tr=>
   obtain⟨b,es,e,g1,g2⟩:=nc.ok;obtain⟨b',nw,e',Ud,g2'⟩:=EG.ok;exact⟨b,es,e,g1,Holds.back hk.jO Cb g2' g2⟩
  |own T r l=>exact nc.ok
  |td T r l=>exact nc.ok
  |fmap T K agg V l=>exact nc.ok
  |fdmap T K E r l=>exact nc.ok
  |dmap T K E r l hh=>
   obtain⟨b,es,clock,B,e,g1,g2,g3,g4,g5⟩:=nc.ok;obtain⟨_,_,_,_,_,_,_,_,_,r5⟩:=EG.ok
   have key:∀a o u,hh=some (a,o)->H.val o=some u->(ef H nb bs cons (find aR)).val o=some u:=by
    intro a o u e hu;obtain⟨u0,Xl⟩:=r5 a o e;have e3:=hk.jO.val _ _ Xl;rw[hu]at e3;rw[alU e3];exact Cb.val _ _ Xl
   exact⟨b,es,clock,B,e,g1,g2,g3.keep (Step.refl F1 w) key (fun _ _=>rfl),g4,fun a o e=>(g5 a o e).imp fun u hu=>key a o u e hu⟩
  |map T K agg V l=>
   obtain⟨b,es,clock,e,g1,g2,g3⟩:=nc.ok;exact⟨b,es,clock,e,g1,g2,g3.jO⟩
 have UB:∀o s t,find cons o=some (s,t)->∃v,(ef H nb bs cons (find aR)).val o=some v/\v.oneCell'=true/\(ef H nb bs cons (find aR)).con s=some t.base/\jn (ef H nb bs cons (find aR)) F1 w ((ef H nb bs cons (find aR)).sub s) v t/\
  ∀k,fp ((ef H nb bs cons (find aR)).sub s) v t k->∃o' s0 t0,find bs o=some (some o')/\find aR o'=some (s0,t0)/\H.val o'=some v/\fp (H.sub s0) v t0 k:=by
  intro o s t ho;obtain⟨a1,a2,a3,a4,u,v,b1,b2,b3,b4,b5,b6⟩:=UA o s t ho
  have gI:(ef H nb bs cons (find aR)).sub s=wG H (find aR) (find bs o):=by
   simp only[ef];rw[if_neg (by omega),a4]
  rw[gI];refine⟨v,tH o u b1 v b2,b3,?_,b5,fun k hk=>?_⟩
  .rw[b4];simp only[ef];rw[if_neg (by omega)];exact a3
  .obtain⟨o',s0,t0,c1,c2,c3,c4⟩:=b6 k hk;exact⟨o',s0,t0,by rw[b1,c1],c2,c3,c4⟩
 refine⟨fun o s t ho=>?_,fun o o' s s' t t' v v' bR ho lD hv dM k hk dZ=>?_,fun m hm _=>Gh m hm,qM.lt,hU1,qM.gl⟩
 .rcases part o s t ho with h1|h1
  .obtain⟨v,a1,a2,a3,a4,a5⟩:=UB o s t h1
   refine⟨v,a1,a2,a3,a4,fun k hk hF=>?_,fun k hk=>?_,fun k hk=>?_⟩<;>obtain⟨o',s0,t0,b1,b2,b3,b4⟩:=a5 k hk<;>obtain⟨v',dM,cx⟩:=qM.obj _ _ _ b2
   all_goals
    rw[b3]at dM;obtain rfl:=alU dM
   .exact cx.no k b4 hF
   .exact cx.lt k b4
   .exact hU2 _ _ _ _ _ (kl b1) b2 b3 b4
  .obtain⟨q1,q2,v,a1,a2,a3,a4,a6,a5⟩:=Bu o s t h1;obtain⟨v',dM,cx⟩:=qM.obj _ _ _ q2;rw[a1]at dM;obtain rfl:=alU dM;exact⟨v,a2,a3,a4,by rw[a6];exact a5,by rw[a6];exact cx.no,by rw[a6];exact cx.lt,fun k hk=>hU3 _ _ _ _ _ h1 a1 (by rwa [a6]at hk)⟩
 .rcases part o s t ho with h1|h1<;>rcases part o' s' t' lD with h2|h2
  .obtain⟨u,a1,_,_,_,a5⟩:=UB o s t h1;obtain⟨u',c1,_,_,_,c5⟩:=UB o' s' t' h2;rw[hv]at a1;rw[dM]at c1;obtain rfl:=alU a1;obtain rfl:=alU c1;obtain⟨p,s0,t0,d1,d2,d3,d4⟩:=a5 k hk;obtain⟨p',s0',t0',e1,e2,e3,e4⟩:=c5 k dZ;refine qM.apart p p' _ _ _ _ _ _ (fun e=>bR ?_) d2 e2 d3 e3 k d4 e4;subst e;exact tG Bt d1 e1
  .obtain⟨u,a1,_,_,_,a5⟩:=UB o s t h1;obtain⟨q1,q2,u',c1,c2,_,_,c6,_⟩:=Bu o' s' t' h2;rw[c6]at dZ;rw[hv]at a1;rw[dM]at c2;obtain rfl:=alU a1;obtain rfl:=alU c2;obtain⟨p,s0,t0,d1,d2,d3,d4⟩:=a5 k hk;exact qM.apart p o' _ _ _ _ _ _ (fun e=>q1 (e▸kl d1)) d2 q2 d3 c1 k d4 dZ
  .obtain⟨u,a1,_,_,_,a5⟩:=UB o' s' t' h2;obtain⟨q1,q2,u',c1,c2,_,_,c6,_⟩:=Bu o s t h1;rw[c6]at hk;rw[dM]at a1;rw[hv]at c2;obtain rfl:=alU a1;obtain rfl:=alU c2;obtain⟨p,s0,t0,d1,d2,d3,d4⟩:=a5 k dZ;exact qM.apart o p _ _ _ _ _ _ (fun e=>q1 (e▸kl d1)) q2 d2 c1 d3 k hk d4
  .obtain⟨q1,q2,u,c1,c2,_,_,c6,_⟩:=Bu o s t h1;obtain⟨q1',q2',u',Xw,UC,_,_,c6',_⟩:=Bu o' s' t' h2;rw[c6]at hk;rw[c6']at dZ;rw[hv]at c2;rw[dM]at UC;obtain rfl:=alU c2;obtain rfl:=alU UC;exact qM.apart o o' _ _ _ _ _ _ bR q2 q2' c1 Xw k hk dZ
end
end Go.Proofs.YtmihpkfkbfgigaaGreatDoor
end
section
open _root_.Go.Addr.mk renaming injEq->anx
open _root_.List.cons renaming injEq->amR
open _root_.List renaming getD->amn,length_cons->al9
open _root_.Nat renaming add_zero->am0,beq->al4,le_refl->alZ
open _root_.Option.some renaming inj->alU,injEq->al7
open _root_.Prod.mk renaming injEq->amZ
open _root_.Go.Value.slice renaming injEq->ano
namespace Go.Proofs.YtmihpkfkbfgigaaGreatDoor
open Go Go.RowKit
structure bp where
 inn:JS
 out:JS
 fn:cM inn.rows->Option (cM out.rows)
def ya:List Value->Value
 |[v]=>v
 |vs=> .tuple vs.toArray
structure ax(P:Program)(f:FuncId)(sg:bp):Prop where
 fn:∃fn,P.funcs[f]? =some fn/\(fn.name== "runtime.NumGoroutine")=false/\fn.body.isNone=false
 ok:∀x y,sg.fn x=some y->∀(args:List Value)(w:World)(H:ay)(F G:Nat->Prop),args.length=sg.inn.ak.length->
  (∀t d,find (dB sg.inn.ak (dO _ x)).1 t=some d->al H F w d (args.getD t undef))->
  az (fun k=>w.heap.size<=k\/G k) H F w (find (iW 0 sg.inn.objs (dB sg.inn.ak (dO _ x)).2)) sg.inn.nxt->jD H sg.inn.nxt->(∀k,G k->¬F k)->
  Calls P f args.toArray w fun e w'=>∃vs,e= .returned (ya vs)/\vs.length=sg.out.ak.length/\∃H' F',Ext G w w'/\H.le H'/\(∀b,F b->F' b)/\(∀b,F' b->F b\/w.heap.size<=b\/G b)/\
   (∀t d,find (dB sg.out.ak (dO _ y)).1 t=some d->al H' F' w' d (vs.getD t undef))/\
   az (fun k=>w.heap.size<=k\/G k) H' F' w' (find (iW sg.inn.nxt sg.out.objs (dB sg.out.ak (dO _ y)).2)) sg.out.nxt/\jD H' sg.out.nxt
def Sh.qN(φ:Nat->Nat):Sh->Sh
 | .leaf r=> .leaf r
 | .own j=> .own (φ j)
 | .nil=> .nil
 | .pair a b=> .pair (a.qN φ) (b.qN φ)
 | .junk n=> .junk n
def SS.qN(φ:Nat->Nat):SS->SS
 | .val agg t=> .val agg (t.qN φ)
 | .ptr j p off=> .ptr (φ j) p off
 | .at r=> .at r
 | .undef=> .undef
 | .fn f js=> .fn f (js.map fun c=>(φ c.1,c.2))
 | .ifc T s=> .ifc T (s.qN φ)
def OS.qN(φ:Nat->Nat):OS->OS
 | .box T t=> .box T (t.qN φ)
 | .own T r=> .own T r
 | .map T K agg V=> .map T K agg V
 | .deep T d=> .deep T d
 | .dmap T K E r=> .dmap T K E r
def sf(φ:Nat->Nat):List (Nat×SS)->List (Nat×SS)
 |[]=>[]
 |(t,s)::l=>(t,s.qN φ)::sf φ l
def Cf(φ:Nat->Nat):List (Nat×OS)->List (Nat×OS)
 |[]=>[]
 |(j,s)::l=>(φ j,s.qN φ)::Cf φ l
def Row.Cg:Row->Bool
 | .slice _=>false
 | .map .. =>false
 | .pair a b=>a.Cg&&b.Cg
 |_=>true
def DR.jE(p:Row->Bool):DR->Bool
 | .leaf r=>p r
 | .sl _ d=>d.jE p
 | .pair a b=>a.jE p&&b.jE p
def Sh.jE(p:Row->Bool):Sh->Bool
 | .leaf r=>p r
 | .pair a b=>a.jE p&&b.jE p
 |_=>true
def SS.jE(p:Row->Bool):SS->Bool
 | .val _ t=>t.jE p
 | .at r=>p (.slice r)
 | .ifc _ s=>s.jE p
 |_=>true
def OS.jE(p:Row->Bool):OS->Bool
 | .box _ t=>t.jE p
 | .own _ r=>p r
 | .map _ _ _ V=>p V
 | .deep _ d=>d.jE p
 | .dmap _ _ _ r=>p r
def ri(p:Row->Bool):List (Nat×SS)->Bool
 |[]=>true
 |(_,s)::l=>s.jE p&&ri p l
def yR(p:Row->Bool):List (Nat×OS)->Bool
 |[]=>true
 |(_,s)::l=>s.jE p&&yR p l
section
variable {H H':ay} {F F':Nat->Prop} {w w':World} {φ:Nat->Nat} {p:Row->Bool}
theorem cR.EH:{r:Row}->{cs:List Value}->{x:r.den}->r.Cg=true->cR F w r cs x->cR F' w' r cs x
 | .int _,_,_,_,h=>h
 | .bool,_,_,_,h=>h
 | .str,_,_,_,h=>h
 | .kD,_,_,_,h=>h
 | .nul _,_,_,_,h=>h
 | .map ..,_,_,hf,_=>by cases hf
 | .slice _,_,_,hf,_=>by cases hf
 | .pair a b,_,_,hf,h=>by
   obtain⟨c1,c2,e,h1,h2⟩:=h;obtain⟨f1,f2⟩:=di hf;exact⟨c1,c2,e,cR.EH f1 h1,cR.EH f2 h2⟩
def Ren(H H':ay)(φ:Nat->Nat):Prop:=∀j v,H.val j=some v->H'.val (φ j)=some v
def si(p:Row->Bool)(F F':Nat->Prop)(w:World):Prop:=∀r,p r=true->∀cs x,cR F w r cs x->cR F' w r cs x
theorem pt:(sh:Sh)->(vs:List lA)->(o6 (sh.qN φ) vs).2=(o6 sh vs).2
 | .leaf r,[]=>rfl
 | .leaf r,_::_=>rfl
 | .own j,vs=>rfl
 | .nil,vs=>rfl
 | .pair a b,vs=>by
   show(o6 (b.qN φ) (o6 (a.qN φ) vs).2).2=_
   rw[pt a,pt b];rfl
 | .junk _,_=>rfl
theorem yS(s:SS)(vs:List lA):(eX (s.qN φ) vs).2=(eX s vs).2:=by
 induction s with
 |ifc T s ih=>exact ih
 |val agg t=>exact pt t vs
 |ptr j p off=>rfl
 |«at» r=>cases vs<;>rfl
 |undef=>rfl
 |fn f js=>rfl
theorem yT(s:OS)(vs:List lA):(cG (s.qN φ) vs).2=(cG s vs).2:=by
 cases s with
 |box T t=>exact pt t vs
 |own T r=>rfl
 |map T K agg V=>rfl
 |deep T d=>rfl
 |dmap T K E r=>rfl
theorem Ci:(l:List (Nat×SS))->(vs:List lA)->(dB (sf φ l) vs).2=(dB l vs).2
 |[],_=>rfl
 |(t,s)::l,vs=>by
  show(dB (sf φ l) (eX (s.qN φ) vs).2).2=(dB l (eX s vs).2).2
  rw[yS,Ci l]
theorem sj(hr:Ren H H' φ)(hm:si p F F' w):{sh:Sh}->{vs:List lA}->{cs:List Value}->sh.jE p=true->Holds H F w (o6 sh vs).1 cs->Holds H' F' w (o6 (sh.qN φ) vs).1 cs
 | .leaf r,[],cs,_,h=>h
 | .leaf r,⟨s,x⟩::vs,cs,hp,h=>by
   have h':Holds H F w (bif s.beq r then Tree.leaf s x else .nil) cs:=h
   show Holds H' F' w (bif s.beq r then Tree.leaf s x else .nil) cs
   cases hb:s.beq r with
   |true=>
    rw[hb,cond_true]at h';obtain rfl:=Row.eq_of_beq hb;exact hm _ hp _ _ h'
   |false=>rw[hb]at h';exact h'
 | .own j,vs,cs,_,h=>by obtain⟨v,h1,h2⟩:=h;exact⟨v,hr j v h1,h2⟩
 | .nil,vs,cs,_,h=>h
 | .pair a b,vs,cs,hp,h=>by
   obtain⟨c1,c2,e,h1,h2⟩:=h;obtain⟨p1,p2⟩:=di hp;refine⟨c1,c2,e,sj hr hm p1 h1,?_⟩;rw[pt a];exact sj hr hm p2 h2
 | .junk _,vs,cs,_,h=>h
theorem lL.qN(hr:Ren H H' φ):{cs:List (Nat×List Bool×Nat)}->{vs:List Value}->lL H cs vs->lL H' (cs.map fun c=>(φ c.1,c.2)) vs
 |[],_,h=>h
 |_::_,_,h=>by obtain⟨v,us,e,⟨b,h1,h2⟩,h3⟩:=h;exact⟨v,us,e,⟨b,hr _ _ h1,h2⟩,lL.qN hr h3⟩
theorem Iu(hr:Ren H H' φ)(hm:si p F F' w){s:SS}{vs:List lA}{v:Value}(hp:s.jE p=true)(h:al H F w (eX s vs).1 v):al H' F' w (eX (s.qN φ) vs).1 v:=by
 induction s generalizing v with
 |ifc T s ih=>
  obtain⟨u,e,h2⟩:=h;exact⟨u,e,ih hp h2⟩
 |val agg t=>
  obtain⟨cs,h1,h2⟩:=h;exact⟨cs,sj hr hm hp h1,h2⟩
 |ptr j p off=>
  obtain⟨b,h1,h2⟩:=h;exact⟨b,hr _ _ h1,h2⟩
 |«at» r=>
  match vs,h with
  |[],h=>exact h
  |⟨s,x⟩::vs,h=>
   have h':al H F w (bif s.beq r then aq.at s x else .dead) v:=h
   show al H' F' w (bif s.beq r then aq.at s x else .dead) v
   cases hb:s.beq r with
   |false=>trivial
   |true=>
    rw[hb,cond_true]at h';obtain rfl:=Row.eq_of_beq hb;obtain⟨b,off,rfl,hF,es,h1,h2,h3⟩:=h'
    have gJ:cR F w (.slice s) [.slice (some ⟨b,off,none⟩) 1 1] [x]:=⟨some ⟨b,off,none⟩,1,rfl,alZ _,by unfold maxLen;omega,fun i hi=>by
     have e:i=0:=by simp at hi;omega
     subst e
     exact⟨b,off,es,rfl,hF,h1,fun j u hu=>by rw[Nat.zero_mul,am0];exact h2 j u hu,h3⟩⟩
    obtain⟨A,cap,e1,_,_,rN⟩:=hm (.slice s) hp _ _ gJ;obtain⟨b',dV,nw,hA,g1,g2,g3,g4⟩:=rN 0 (by simp);simp only[amR,ano,and_true]at e1;obtain⟨e1,_,_⟩:=e1;rw[<-e1]at hA;simp only[al7,anx,and_true]at hA;obtain⟨rfl,rfl⟩:=hA;exact⟨b,off,rfl,g1,nw,g2,fun j u hu=>by have:=g3 j u hu;rwa [Nat.zero_mul,am0]at this,g4⟩
 |undef=>exact h
 |fn f js=>
  obtain⟨us,h1,h2⟩:=h;exact⟨us,h1,h2.qN hr⟩
theorem mH.oV{K:Row}{agg:Bool}{V:Row}(hm:∀cs x,cR F w V cs x->cR F' w' V cs x):{es:List MapEntry}->{l:List (K.den×V.den)}->mH H F w K agg V es l->mH H' F' w' K agg V es l
 |[],_,h=>h
 |_::_,_,h=>by
  obtain⟨k,x,l',e,h1,⟨cs,h2,Kz⟩,h3⟩:=h;exact⟨k,x,l',e,h1,⟨cs,hm _ _ h2,Kz⟩,mH.oV hm h3⟩
theorem cR.wJ(hm:si p F F' w):{d:DR}->{cs:List Value}->{x:d.low.den}->d.jE p=true->cR F w d.low cs x->cR F' w d.low cs x
 | .leaf r,_,_,hp,h=>hm r hp _ _ h
 | .sl _ _,_,_,_,h=>h
 | .pair a b,_,_,hp,h=>by
   obtain⟨p1,p2⟩:=di hp;obtain⟨c1,c2,e,h1,h2⟩:=h;exact⟨c1,c2,e,cR.wJ hm p1 h1,cR.wJ hm p2 h2⟩
theorem kS.oV(hm:si p F F' w){d:DR}(hp:d.jE p=true){T:TypeId}{v:Value}{l:List d.low.den}(h:kS F w T d.low v l):kS F' w T d.low v l:=by
 obtain⟨xs,h1,h2⟩:=h;exact⟨xs,h1,fun i hi=>cR.wJ hm hp (h2 i hi)⟩
theorem kQ.oV(hm:si p F F' w):{d:DR}->{x':d.low.den}->{x:d.row.den}->{S:Nat->Prop}->d.jE p=true->kQ F w d x' x S->kQ F' w d x' x S
 | .leaf _,_,_,_,_,h=>h
 | .sl _ d,_,_,_,hp,h=>by
   obtain⟨lh,Ss,h1,h2,h3,h4⟩:=h;exact⟨lh,Ss,h1.oV hm (show d.jE p=true from hp),h2,fun i a b=>kQ.oV hm (show d.jE p=true from hp) (h3 i a b),h4⟩
 | .pair a b,_,_,_,hp,h=>by
   obtain⟨p1,p2⟩:=di hp;obtain⟨A,B,h1,h2,h3⟩:=h;exact⟨A,B,kQ.oV hm p1 h1,kQ.oV hm p2 h2,h3⟩
theorem EI(T:TypeId)(d:DR):(vs:List lA)->∃l,(cG (.deep T d) vs).1= .deep T d l none
 |[]=>⟨[],rfl⟩
 |⟨.slice s,l⟩::vs=>by
  unfold cG;simp only
  split<;>exact⟨_,rfl⟩
 |⟨.int _,_⟩::_|⟨.bool,_⟩::_|⟨.str,_⟩::_|⟨.kD,_⟩::_|⟨.nul _,_⟩::_|⟨.pair _ _,_⟩::_|⟨.map ..,_⟩::_=>⟨[],rfl⟩
theorem Iv(T:TypeId)(K:Row)(agg:Bool)(V:Row):(vs:List lA)->∃l,(cG (.map T K agg V) vs).1= .map T K agg V l
 |[]=>⟨[],rfl⟩
 |⟨.slice (.pair K' V'),l⟩::vs=>by
  unfold cG;simp only
  split<;>exact⟨_,rfl⟩
 |⟨.slice (.int _),_⟩::_|⟨.slice .bool,_⟩::_|⟨.slice .str,_⟩::_|⟨.slice (.slice _),_⟩::_|⟨.slice .kD,_⟩::_|⟨.slice (.nul _),_⟩::_|⟨.slice (.map ..),_⟩::_=>⟨[],rfl⟩
 |⟨.int _,_⟩::_|⟨.bool,_⟩::_|⟨.str,_⟩::_|⟨.kD,_⟩::_|⟨.nul _,_⟩::_|⟨.pair _ _,_⟩::_|⟨.map ..,_⟩::_=>⟨[],rfl⟩
theorem gz.oV(hm:si p F F' w){K:Row}{E:TypeId}{r:Row}(hp:p r=true):{es:List MapEntry}->{l:List (K.den×List r.den)}->{S:Nat->Prop}->gz H F w K E r none es l S->gz H' F' w K E r none es l S
 |[],_,_,h=>h
 |_::_,_,_,h=>by
  obtain⟨k,y,l',A,B,e,h1,⟨⟨xs,h2,h3⟩,h4⟩,h5,h6⟩:=h;exact⟨k,y,l',A,B,e,h1,⟨⟨xs,h2,fun i hi=>hm r hp _ _ (h3 i hi)⟩,h4⟩,gz.oV hm hp h5,h6⟩
theorem EJ(T:TypeId)(K:Row)(E:TypeId)(r:Row):(vs:List lA)->∃l,(cG (.dmap T K E r) vs).1= .dmap T K E r l none
 |[]=>⟨[],rfl⟩
 |⟨.slice (.pair K' (.slice s)),l⟩::vs=>by
  unfold cG;simp only
  split<;>exact⟨_,rfl⟩
 |⟨.slice (.pair _ (.int _)),_⟩::_|⟨.slice (.pair _ .bool),_⟩::_|⟨.slice (.pair _ .str),_⟩::_|⟨.slice (.pair _ .kD),_⟩::_|⟨.slice (.pair _ (.nul _)),_⟩::_|⟨.slice (.pair _ (.pair _ _)),_⟩::_|⟨.slice (.pair _ (.map ..)),_⟩::_=>⟨[],rfl⟩
 |⟨.slice (.int _),_⟩::_|⟨.slice .bool,_⟩::_|⟨.slice .str,_⟩::_|⟨.slice (.slice _),_⟩::_|⟨.slice .kD,_⟩::_|⟨.slice (.nul _),_⟩::_|⟨.slice (.map ..),_⟩::_=>⟨[],rfl⟩
 |⟨.int _,_⟩::_|⟨.bool,_⟩::_|⟨.str,_⟩::_|⟨.kD,_⟩::_|⟨.nul _,_⟩::_|⟨.pair _ _,_⟩::_|⟨.map ..,_⟩::_=>⟨[],rfl⟩
theorem tI(hr:Ren H H' φ)(hm:si p F F' w){s:OS}{vs:List lA}{S:Nat->Prop}{v:Value}(hp:s.jE p=true)(h:jn H F w S v (cG s vs).1):
 jn H' F' w S v (cG (s.qN φ) vs).1/\(cG (s.qN φ) vs).1.base=(cG (s.qN φ) vs).1/\(∀k,fp S v (cG (s.qN φ) vs).1 k->fp S v (cG s vs).1 k):=by
 have own:∀(T:TypeId)(q:Row)(l:List q.den),p q=true->jn H F w S v (.own T q l)->jn H' F' w S v (.own T q l):=fun T q l hq ⟨xs,hx,h3⟩=>⟨xs,hx,fun i hi=>hm q hq _ _ (h3 i hi)⟩
 cases s with
 |box T t=>
  obtain⟨b,es,e,h1,h2⟩:=h;exact⟨⟨b,es,e,h1,sj hr hm hp h2⟩,rfl,fun k hk=>hk⟩
 |own T r=>
  match vs,h with
  |[],h=>exact⟨own T r [] hp h,rfl,fun _ h=>h⟩
  |⟨.slice s,l⟩::vs,h=>
   have h':jn H F w S v (bif s.beq r then Th.own T s l else .own T r []):=h
   show jn H' F' w S v (bif s.beq r then Th.own T s l else .own T r [])/\Th.base (bif s.beq r then Th.own T s l else .own T r [])=(bif s.beq r then Th.own T s l else .own T r [])/\∀k,fp S v (bif s.beq r then Th.own T s l else .own T r []) k->fp S v (bif s.beq r then Th.own T s l else .own T r []) k
   cases hb:s.beq r with
   |true=>
    rw[hb,cond_true]at h';obtain rfl:=Row.eq_of_beq hb;exact⟨own T s l hp h',rfl,fun _ h=>h⟩
   |false=>
    rw[hb,cond_false]at h';exact⟨own T r [] hp h',rfl,fun _ h=>h⟩
  |⟨.int _,_⟩::vs,h=>exact⟨own T r [] hp h,rfl,fun _ h=>h⟩
  |⟨.bool,_⟩::vs,h=>exact⟨own T r [] hp h,rfl,fun _ h=>h⟩
  |⟨.str,_⟩::vs,h=>exact⟨own T r [] hp h,rfl,fun _ h=>h⟩
  |⟨.kD,_⟩::vs,h=>exact⟨own T r [] hp h,rfl,fun _ h=>h⟩
  |⟨.nul _,_⟩::vs,h=>exact⟨own T r [] hp h,rfl,fun _ h=>h⟩
  |⟨.map ..,_⟩::vs,h=>exact⟨own T r [] hp h,rfl,fun _ h=>h⟩
  |⟨.pair _ _,_⟩::vs,h=>exact⟨own T r [] hp h,rfl,fun _ h=>h⟩
 |map T K agg V=>
  have gen:∀l:List (K.den×V.den),jn H F w S v (.map T K agg V l)->jn H' F' w S v (.map T K agg V l):=by
   rintro l ⟨b,es,clock,e,h1,h2,h3⟩
   exact⟨b,es,clock,e,h1,h2,mH.oV (fun cs x hr=>hm V hp cs x hr) h3⟩
  obtain⟨l,hl⟩:=Iv T K agg V vs
  show jn H' F' w S v (cG (OS.map T K agg V) vs).1/\(cG (OS.map T K agg V) vs).1.base=(cG (OS.map T K agg V) vs).1/\∀k,fp S v (cG (OS.map T K agg V) vs).1 k->fp S v (cG (OS.map T K agg V) vs).1 k
  rw[hl]at h⊢;exact⟨gen l h,rfl,fun _ h=>h⟩
 |deep T d=>
  obtain⟨l,hl⟩:=EI T d vs
  show jn H' F' w S v (cG (OS.deep T d) vs).1/\(cG (OS.deep T d) vs).1.base=(cG (OS.deep T d) vs).1/\∀k,fp S v (cG (OS.deep T d) vs).1 k->fp S v (cG (OS.deep T d) vs).1 k
  rw[hl]at h⊢;refine⟨?_,rfl,fun _ h=>h⟩;have h':kQ F w (.sl T d) v l S:=h;exact(kQ.oV (d:= .sl T d) hm hp h':kQ F' w (.sl T d) v l S)
 |dmap T K E r=>
  obtain⟨l,hl⟩:=EJ T K E r vs
  show jn H' F' w S v (cG (OS.dmap T K E r) vs).1/\(cG (OS.dmap T K E r) vs).1.base=(cG (OS.dmap T K E r) vs).1/\∀k,fp S v (cG (OS.dmap T K E r) vs).1 k->fp S v (cG (OS.dmap T K E r) vs).1 k
  rw[hl]at h⊢;refine⟨?_,rfl,fun _ h=>h⟩;obtain⟨b,es,clock,B,e,h1,h2,h3,h4,_⟩:=h;exact⟨b,es,clock,B,e,h1,h2,h3.oV hm hp,h4,fun _ _ e=>by cases e⟩
theorem yU:{l:List (Nat×SS)}->{vs:List lA}->{t:Nat}->{d:aq}->ri p l=true->find (dB (sf φ l) vs).1 t=some d->∃s us,d=(eX (s.qN φ) us).1/\find (dB l vs).1 t=some (eX s us).1/\s.jE p=true
 |[],_,_,_,_,h=>by cases h
 |(t0,s)::l,vs,t,d,hp,h=>by
  obtain⟨p1,p2⟩:=di hp;have h':find ((t0,(eX (s.qN φ) vs).1)::(dB (sf φ l) (eX (s.qN φ) vs).2).1) t=some d:=h
  show∃s' us,d=_/\find ((t0,(eX s vs).1)::(dB l (eX s vs).2).1) t=_/\_
  rw[aG]at h';by_cases e:t0=t
  .rw[if_pos e]at h';exact⟨s,vs,(alU h').symm,by rw[aG,if_pos e],p1⟩
  .rw[if_neg e]at h';rw[yS]at h';obtain⟨s',us,a1,a2,a3⟩:=yU p2 h';exact⟨s',us,a1,by rw[aG,if_neg e];exact a2,a3⟩
theorem Ln(hr:Ren H H' φ)(hm:si p F F' w){ρ:Nat->Value}{l:List (Nat×SS)}{vs:List lA}(hp:ri p l=true)(h:∀t d,find (dB l vs).1 t=some d->al H F w d (ρ t)):∀t d,find (dB (sf φ l) vs).1 t=some d->al H' F' w d (ρ t):=by
 intro t d hf;obtain⟨s,us,rfl,h2,h3⟩:=yU hp hf;exact Iu hr hm h3 (h t _ h2)
theorem Cj{m m':Nat}:{l:List (Nat×OS)}->{vs:List lA}->{o s:Nat}->{t:Th}->find (iW m (Cf φ l) vs) o=some (s,t)->∃j s' us sh,φ j=o/\t=(cG (sh.qN φ) us).1/\find (iW m' l vs) j=some (s',(cG sh us).1)/\(yR p l=true->sh.jE p=true)/\se (iW m (Cf φ l) vs) s=some t/\m<=s/\s<m+l.length/\s'=s-m+m'
 |[],_,_,_,_,h=>by cases h
 |(j,sh)::l,vs,o,s,t,h=>by
  have h':find ((φ j,(m,(cG (sh.qN φ) vs).1))::iW (m+1) (Cf φ l) (cG (sh.qN φ) vs).2) o=some (s,t):=h;rw[aG]at h';split at h'
  .rename_i e;simp only[al7,amZ]at h';obtain⟨rfl,rfl⟩:=h';refine⟨j,m',vs,sh,e,rfl,?_,fun hp=>(di hp).1,?_,alZ _,by simp,by omega⟩
   .show find ((j,(m',(cG sh vs).1))::_) j=_
    rw[aG,if_pos rfl]
   .show(bif al4 m m then _ else _)=_
    simp
  .rename_i e;rw[yT]at h';obtain⟨j',s',us,sh',a1,a2,a3,a4,a5,a6,a7,a8⟩:=Cj (m':=m'+1) h';refine⟨j',s',us,sh',a1,a2,?_,fun hp=>a4 (di hp).2,?_,by omega,by rw[al9];omega,by omega⟩
   .show find ((j,(m',(cG sh vs).1))::iW (m'+1) l (cG sh vs).2) j'=_
    rw[aG,if_neg (fun e'=>e (by rw[e',a1]))];exact a3
   .show(bif al4 m s then _ else se (iW (m+1) (Cf φ l) (cG (sh.qN φ) vs).2) s)=_
    have:al4 m s=false:=by
     cases hb:al4 m s with
     |false=>rfl
     |true=>have:=beq_true hb;omega
    rw[this,cond_false,yT];exact a5
def EK:List (Nat×aq)->Option (List (Bool×Tree))
 |[]=>some []
 |(_, .val a t)::l=>match EK l with
  |some ds=>some ((a,t)::ds)
  |none=>none
 |_::_=>none
def Lo:List (Nat×aq)->Option aq
 |[]=>some .dead
 |[(_,d)]=>some d
 |l=>match EK l with
  |some ds=>some (.tup ds)
  |none=>none
def sq:Nat->List (Nat×SS)->Bool
 |_,[]=>true
 |k,(t,_)::l=>al4 t k&&sq (k+1) l
theorem Gi:{l:List (Nat×SS)}->{vs:List lA}->{k t:Nat}->{d:aq}->sq k l=true->find (dB l vs).1 t=some d->k<=t
 |[],_,_,_,_,_,h=>by cases h
 |(t0,s)::l,vs,k,t,d,hi,h=>by
  obtain⟨h1,h2⟩:=di hi;have h':find ((t0,(eX s vs).1)::(dB l (eX s vs).2).1) t=some d:=h;rw[aG]at h';have:=beq_true h1;split at h'
  .omega
  .have:=Gi h2 h';omega
theorem Lp{f:Nat->Value}:{l:List (Nat×SS)}->{vs:List lA}->{k:Nat}->{ds:List (Bool×Tree)}->sq k l=true->(∀t d,find (dB l vs).1 t=some d->al H F w d (f t))->EK (dB l vs).1=some ds->rV H F w ds ((List.range' k l.length).map f)
 |[],_,_,_,_,_,h=>by cases h;rfl
 |(t0,s)::l,vs,k,ds,hi,nX,h=>by
  obtain⟨h1,h2⟩:=di hi;obtain rfl:=beq_true h1;have h':EK ((t0,(eX s vs).1)::(dB l (eX s vs).2).1)=some ds:=h;have UD:∀t d,find ((t0,(eX s vs).1)::(dB l (eX s vs).2).1) t=some d->al H F w d (f t):=nX;have h0:=UD t0 _ (by rw[aG,if_pos rfl]);generalize(eX s vs).1=d0 at*
  cases d0<;>unfold EK at h'<;>try cases h'
  rename_i a t
  split at h'<;>cases h'
  rename_i Xs vp;refine⟨f t0,(List.range' (t0+1) l.length).map f,by simp[List.range'_succ],h0,Lp h2 (fun t d hf=>UD t d ?_) vp⟩;have:=Gi h2 hf;rw[aG,if_neg (by omega)];exact hf
theorem Ck:{l:List (Nat×SS)}->{k:Nat}->sq k (sf φ l)=sq k l
 |[],_=>rfl
 |(t,s)::l,k=>by
  show(al4 t k&&sq (k+1) (sf φ l))=_
  rw[Ck];rfl
theorem uz:{l:List (Nat×SS)}->(sf φ l).length=l.length
 |[]=>rfl
 |(t,s)::l=>by
  show(sf φ l).length+1=l.length+1
  rw[uz]
theorem EL(us:List Value):(List.range' 0 us.length).map (fun t=>us.getD t undef)=us:=by
 apply List.ext_getElem (by simp);intro i h1 h2;simp[amn,h2]
theorem Rf{l:List (Nat×SS)}{vs:List lA}{us:List Value}{D:aq}(hi:sq 0 l=true)(hl:us.length=l.length)(nX:∀t d,find (dB l vs).1 t=some d->al H F w d (us.getD t undef))(h:Lo (dB l vs).1=some D):al H F w D (ya us):=by
 have tup:∀ds,EK (dB l vs).1=some ds->us.length≠1->al H F w (.tup ds) (ya us):=by
  intro ds vp bR;have:=Lp hi nX vp;rw[<-hl,EL]at this;refine⟨us,?_,this⟩
  match us,bR with
  |[],_=>rfl
  |[_],h=>exact absurd rfl h
  |_::_::_,_=>rfl
 match l,hl,h with
 |[],_,h=>obtain rfl:=alU h;trivial
 |[(t,s)],hl,h=>
  have h':Lo [(t,(eX s vs).1)]=some D:=h;obtain rfl:=alU h';have ht:=beq_true (di hi).1
  match us,hl with
  |[u],_=>
   have:=nX t (eX s vs).1 (by
    show find [(t,(eX s vs).1)] t=_
    rw[aG,if_pos rfl])
   rw[ht]at this;exact this
 |(t,s)::(t',s')::l,hl,h=>
  have h':(match EK (dB ((t,s)::(t',s')::l) vs).1 with|some ds=>some (aq.tup ds)|none=>none)=some D:=h;split at h'
  .rename_i ds vp;obtain rfl:=alU h';exact tup ds vp (by simp at hl;omega)
  .cases h'
end
end Go.Proofs.YtmihpkfkbfgigaaGreatDoor
end
section
open _root_.List renaming append_nil->amK
open _root_.Nat renaming beq->al4,blt->amS,le_refl->alZ,lt_of_lt_of_le->amI
open _root_.Option renaming isSome_iff_exists->amA,none_or->am8
open _root_.Option.some renaming inj->alU,injEq->al7
open _root_.Prod.mk renaming injEq->amZ
namespace Go.Proofs.YtmihpkfkbfgigaaGreatDoor
open Go Go.RowKit
def iX:Nat->List aq->List (Nat×aq)
 |_,[]=>[]
 |k,d::ds=>(k,d)::iX (k+1) ds
def Qb(n:Nat)(bs:Bs)(aR:List (Nat×(Nat×Th)))(m:Nat)(j:Nat):Nat:=
 bif amS j m then(match find bs j with
  |some (some o)=>(match find aR o with
   |some _=>o
   |none=>n+j)
  |_=>n+j)else n+j
def oW(aR:List (Nat×(Nat×Th))):List Nat->List (Nat×(Nat×Th))
 |[]=>[]
 |o::os=>match find aR o with
  |some (s,t)=>bif eF t then(o,(s,t))::oW aR os else oW aR os
  |none=>oW aR os
def always(_:Row):Bool:=true
def Gj(sg:bp):Bool:=ri Row.Cg sg.out.ak&&yR Row.Cg sg.out.objs
def tJ{R:Type}(sg:bp)(n:Nat)(bs:Bs)(aR:List (Nat×(Nat×Th)))(nd:List Nat)(y:cM sg.out.rows)(k:eD->Option R):Option R:=
 match Lo (dB (sf (Qb n bs aR sg.inn.nxt) sg.out.ak) (dO _ y)).1 with
 |some D=>bif Gj sg then k {dst:=D,eat:=iA bs,make:=iW n (Cf (Qb n bs aR sg.inn.nxt) sg.out.objs) (dB (sf (Qb n bs aR sg.inn.nxt) sg.out.ak) (dO _ y)).2}
   else k {dst:=D,eat:=iA bs++nd,make:=iW n (Cf (Qb n bs aR sg.inn.nxt) sg.out.objs) (dB (sf (Qb n bs aR sg.inn.nxt) sg.out.ak) (dO _ y)).2++oW aR nd}
 |none=>none
def oF{R:Type}(objs:List (Nat×(Nat×Th)))(n:Nat)(f:FuncId)(ds:List aq)(k:eD->Option R):List (Nat×bp)->Option R
 |[]=>none
 |(g,sg)::tab=>bif al4 g f then(match yP 0 [] sg.inn (iX 0 ds) objs with
    |some (x,bs,aR)=>bif al4 ds.length sg.inn.ak.length&&sq 0 sg.out.ak&&Nat.ble sg.out.nxt 16&&Nat.ble sg.out.objs.length 16&&(ri always sg.out.ak)then
      (sg.fn x).bind fun y=>tJ sg n bs aR (yO 0 sg.inn (iX 0 ds) objs) y k else none
    |none=>oF objs n f ds k tab)else oF objs n f ds k tab
def UE(c:Nat×List Bool×Nat):aq:= .ptr c.1 c.2.1 c.2.2
theorem wK{H:ay}{F:Nat->Prop}{w:World}:{cs:List (Nat×List Bool×Nat)}->{vs:List Value}->lL H cs vs->fQ H F w (cs.map UE) vs
 |[],_,h=>h
 |_::_,_,h=>by obtain⟨v,us,e,h1,h3⟩:=h;exact⟨v,us,e,h1,wK h3⟩
theorem sr{H:ay}{F:Nat->Prop}{w:World}:{ds es:List aq}->{vs us:List Value}->fQ H F w ds vs->fQ H F w es us->fQ H F w (ds++es) (vs++us)
 |[],_,vs,_,h,h'=>by rw[show vs=[]from h];exact h'
 |_::_,_,_,_,h,h'=>by obtain⟨v,us,rfl,h1,h2⟩:=h;exact⟨v,_,rfl,h1,sr h2 h'⟩
def Gk(rd:Operand->Option aq)(x:Operand):Option (FuncId×List (Nat×List Bool×Nat)):=
 match rd x with
 |some (.fn f caps)=>some (f,caps)
 |_=>none
def yV{R:Type}(tab:List (Nat×bp))(rd:Operand->Option aq)(objs:List (Nat×(Nat×Th)))(n:Nat)(x:Operand)(args:List Operand)(k:eD->Option R):Option R:=
 match Gk rd x with
 |some (f,caps)=>match rZ rd args with
  |some ds=>oF objs n f (ds++caps.map UE) k tab
  |none=>none
 |none=>none
section
variable {P:Program} {ρ:Nat->Value} {w w':World} {H H':ay} {F F':Nat->Prop} {U:Nat->Prop} {n:Nat} {R:Type}
variable {ty:TypeId} {pos:String} {aft:Array Edge} {dst:Option Nat}
theorem pu:{ds:List aq}->{vs:List Value}->{k:Nat}->fQ H F w ds vs->∀t d,find (iX k ds) t=some d->k<=t/\al H F w d (vs.getD (t-k) undef)
 |[],_,_,_,_,_,h=>by cases h
 |d0::ds,vs,k,h,t,d,hf=>by
  obtain⟨v,us,rfl,h1,h2⟩:=h;have qz:find ((k,d0)::iX (k+1) ds) t=some d:=hf;rw[aG]at qz;split at qz
  .rename_i e;subst e;obtain rfl:=alU qz;exact⟨alZ _,by simpa using h1⟩
  .obtain⟨h3,h4⟩:=pu h2 t d qz;refine⟨by omega,?_⟩;rw[show t-k=(t-(k+1))+1 from by omega];simpa using h4
theorem ng{aR:List (Nat×(Nat×Th))}:{nd:List Nat}->{o s:Nat}->{t:Th}->find (oW aR nd) o=some (s,t)->o∈nd/\find aR o=some (s,t)/\eF t=true
 |[],_,_,_,h=>by cases h
 |o0::nd,o,s,t,h=>by
  unfold oW at h;split at h
  .rename_i s0 t0 h0
   cases hb:eF t0 with
   |true=>
    rw[hb,cond_true,aG]at h;split at h
    .rename_i e;simp only[al7,amZ]at h;obtain⟨rfl,rfl⟩:=h;subst e;exact⟨by simp,h0,hb⟩
    .obtain⟨a,b⟩:=ng h;exact⟨by simp[a],b⟩
   |false=>
    rw[hb,cond_false]at h;obtain⟨a,b⟩:=ng h;exact⟨by simp[a],b⟩
  .obtain⟨a,b⟩:=ng h;exact⟨by simp[a],b⟩
theorem su:{l:List (Nat×OS)}->yR always l=true
 |[]=>rfl
 |(t,s)::l=>by
  have ht:∀sh:Sh,sh.jE always=true:=by
   intro sh
   induction sh with
   |leaf r=>rfl
   |own j=>rfl
   |nil=>rfl
   |junk n=>rfl
   |pair a b YD YE=>show(a.jE always&&b.jE always)=true;rw[YD,YE];rfl
  have:s.jE always=true:=by
   cases s with
   |box T t=>exact ht t
   |own T r=>rfl
   |map T K agg V=>rfl
   |deep T d=>
    have hd:∀d:DR,d.jE always=true:=by
     intro d
     induction d with
     |leaf r=>rfl
     |sl T d ih=>exact ih
     |pair a b YD YE=>show(a.jE always&&b.jE always)=true;rw[YD,YE];rfl
    exact hd d
   |dmap T K E r=>rfl
  show(s.jE always&&yR always l)=true
  rw[this,su];rfl
def mF(H H':ay)(n:Nat)(cons:List (Nat×(Nat×Th)))(m0:Nat):ay where
 val m:=if n<=m/\m<n+16 then H'.val (m-n)else H.val m
 con m:=if n<=m/\m<n+16 then se cons m else H.con m
 sub m:=if n<=m/\m<n+16 then H'.sub (m-n+m0)else H.sub m
theorem Iw{dd:Option Nat}{f:FuncId}{fn:Func}{g:Operand}{args:Array Operand}{vs us:List Value}{xN:Array TypeId}(hf:P.funcs[f]? =some fn)(hn:(fn.name== "runtime.NumGoroutine")=false)(hb:fn.body.isNone=false)(Yk:args.toList.map (ev ρ)=vs)(hg:ev ρ g= .func (.func f) #[] us.toArray):
 (execOp (ev ρ) ⟨dd, .call {callee:= .value g,args:=args,argTypes:=xN},ty,pos,aft,none⟩).run P w= .ok (.enter f (vs++us).toArray) w:=by
 subst Yk
 have NS:¬fn.name= "runtime.NumGoroutine" :=by simpa using hn
 have qH:¬fn.body=none:=by
  intro e;rw[e]at hb;cases hb
 have e:(Array.map (ev ρ) args++us.toArray)=(args.toList.map (ev ρ)++us).toArray:=by simp
 simp[execOp,resolve,hg,Deferred.ofValue,invoke,callFunc,hf,NS,qH,go_sem,e]
theorem Ix{sg:bp}{f:FuncId}(yb:ax P f sg){objs:List (Nat×(Nat×Th))}{op:Op}{k:eD->Option R}{q:R}{ds:List aq}{vs:List Value}{x:cM sg.inn.rows}{bs:Bs}{aR:List (Nat×(Nat×Th))}
 (yW:fQ H F w ds vs)(bA:∀fn,P.funcs[f]? =some fn->(fn.name== "runtime.NumGoroutine")=false->fn.body.isNone=false->(execOp (ev ρ) ⟨dst,op,ty,pos,aft,none⟩).run P w= .ok (.enter f vs.toArray) w)(hs:az U H F w (find objs) n)
 (tK:yP 0 [] sg.inn (iX 0 ds) objs=some (x,bs,aR))
 (h':(bif al4 ds.length sg.inn.ak.length&&sq 0 sg.out.ak&&Nat.ble sg.out.nxt 16&&Nat.ble sg.out.objs.length 16&&(ri always sg.out.ak)then
   (sg.fn x).bind fun y=>tJ sg n bs aR (yO 0 sg.inn (iX 0 ds) objs) y k else none)=some q):
 ∃e,k e=some q/\cS P U H F w ρ (find objs) n ⟨dst,op,ty,pos,aft,none⟩ e:=by
 obtain⟨hc,h'⟩:=aK h';obtain⟨hc,hc5⟩:=di hc;obtain⟨hc,Tv⟩:=di hc;obtain⟨hc,KX⟩:=di hc;obtain⟨Bt,vj⟩:=di hc;have Bt:=beq_true Bt
 have KX:sg.out.nxt<=16:=by simpa using KX
 have Tv:sg.out.objs.length<=16:=by simpa using Tv
 obtain⟨y,hy,h⟩:=bind_some h';clear h';obtain⟨⟨fn,hf1,hf2,hf3⟩,nX⟩:=yb;have aet:=kT yW
 let H0:ay:=⟨fun _=>none,fun _=>none,fun _ _=>False⟩
 have It:az U H0 F w (find (del [] [])) 0:=⟨fun _ _ _ h=>(by cases h),fun _ _ _ _ _ _ _ _ _ h=>(by cases h),fun _ _ _=>⟨rfl,rfl⟩,hs.lt,hs.new,hs.gl⟩
 have hk0:cO H0 F w H F w:=⟨⟨fun _ _ h=>(by cases h),fun _ _ h=>(by cases h),fun _ _ h=>(by cases h)⟩,Step.refl F w⟩
 have gJ:∀t d,find (iX 0 ds) t=some d->al H F w d (vs.getD t undef):=fun t d hd=>by simpa using(pu yW t d hd).2
 obtain⟨F1,H1,qM,D9,Nv,xZ,Cb,tH,Gh,Rg,Cl⟩:=wI (U':=fun k=>w.heap.size<=k\/∃o∈iA bs,∃s t v,find aR o=some (s,t)/\H.val o=some v/\fp (H.sub s) v t k) (ns:=[]) (objs0:=[]) (ρ:=fun t=>vs.getD t undef) tK It (fun _ _=>⟨rfl,rfl⟩) hk0 hs gJ;have Cl:=Cl (fun b hb=> .inl hb) (fun o s t v k h1 h2 h3 h4=> .inr ⟨o,h1,s,t,v,h2,h3,h4⟩) (fun _ _ _ _ _ h=>by cases h);generalize hG:(fun k=>∃o∈iA bs,∃s t v,find aR o=some (s,t)/\H.val o=some v/\fp (H.sub s) v t k)=G
 have UF:∀k,G k->¬F1 k:=by
  rw[<-hG]
  rintro k ⟨o,_,s,t,v,h1,h2,h3⟩
  obtain⟨v',dM,cx⟩:=qM.obj _ _ _ h1;rw[h2]at dM;obtain rfl:=alU dM;exact cx.no k h3
 have YF:∀k,G k->cE H (find objs) (iA bs) k:=by
  rw[<-hG]
  rintro k ⟨o,ho,s,t,v,h1,h2,h3⟩
  rcases iV xZ o s t h1 with h4|h4
  .exact⟨o,ho,s,t,v,h4,h2,h3⟩
  .exact(iu h4 h3).elim
 have UG:az (fun k=>w.heap.size<=k\/G k) H1 F1 w (find (iW 0 sg.inn.objs (dB sg.inn.ak (dO sg.inn.rows x)).2)) sg.inn.nxt:=by
  rw[show del [] ([]:List (Nat×(Nat×Th)))=[]from rfl,amK]at Cl;rw[<-hG];exact Cl
 have UH:=nX x y hy vs w H1 F1 G (by omega) Rg UG Gh UF;generalize Oe:yO 0 sg.inn (iX 0 ds) objs=nd at h Nv xZ;generalize YG:Qb n bs aR sg.inn.nxt=φ at h;unfold tJ at h;rw[YG]at h;split at h
 case h_2=>cases h
 rename_i D hD
 have Ig:∀(e:eD),e.dst=D->(∀(w':World)(us:List Value)(H':ay)(F':Nat->Prop),us.length=sg.out.ak.length->Ext G w w'->H1.le H'->(∀b,F1 b->F' b)->(∀b,F' b->F1 b\/w.heap.size<=b\/G b)->
  (∀t d,find (dB sg.out.ak (dO sg.out.rows y)).1 t=some d->al H' F' w' d (us.getD t undef))->az (fun k=>w.heap.size<=k\/G k) H' F' w' (find (iW sg.inn.nxt sg.out.objs (dB sg.out.ak (dO sg.out.rows y)).2)) sg.out.nxt->jD H' sg.out.nxt->lH H F w (find objs) n e (ya us) w')->
  cS P U H F w ρ (find objs) n ⟨dst,op,ty,pos,aft,none⟩ e:=by
  intro e he qO;have bA:=bA fn hf1 hf2 hf3;unfold cS cC;rw[bA]
  refine UH.mono fun e' w' ⟨us,he',Ov,H',F',a1,a2,a3,a4,a5,a6,a7⟩=>⟨_,he',qO w' us H' F' Ov a1 a2 a3 a4 a5 a6 a7⟩
 generalize Ca:iW n (Cf φ sg.out.objs) (dB (sf φ sg.out.ak) (dO sg.out.rows y)).2=cons at h;have YH:=Ci (φ:=φ) sg.out.ak (dO sg.out.rows y)
 have Rh:∀{H':ay},H1.le H'->jD H' sg.out.nxt->Ren H' (mF H H' n cons sg.inn.nxt) φ/\H.le (mF H H' n cons sg.inn.nxt)/\∀m,(m<n\/n+16<=m)->(H.val m=none->(mF H H' n cons sg.inn.nxt).val m=none)/\(H.con m=none->(mF H H' n cons sg.inn.nxt).con m=none):=by
  intro H' hle Bu
  have Ow:∀j v,H'.val j=some v->j<sg.out.nxt:=fun j v hj=>by
   rcases Nat.lt_or_ge j sg.out.nxt with g|g
   .exact g
   .rw[(Bu j g).1]at hj;cases hj
  have hold:∀o v,H.val o=some v->¬(n<=o/\o<n+16):=fun o v ho hc=>by
   rw[(hs.fresh o hc.1 hc.2).1]at ho;cases ho
  refine⟨fun j v hj=>?_,⟨fun o v ho=>?_,fun s t fi=>?_,fun s t fi=>?_⟩,fun m hm=>?_⟩
  .rw[<-YG];have hjn:=Ow j v hj
   have gen:(mF H H' n cons sg.inn.nxt).val (n+j)=some v:=by
    simp only[mF];rw[if_pos (by omega),Nat.add_sub_cancel_left];exact hj
   unfold Qb
   cases hb:amS j sg.inn.nxt with
   |false=>simpa using gen
   |true=>
    rw[cond_true];split
    .rename_i o ho;split
     case h_2=>exact gen
     rename_i e he;obtain⟨u,hu,_⟩:=qM.obj o e.1 e.2 he;have h1:=hle.val _ _ (tH j (some o) ho u hu);rw[hj]at h1;obtain rfl:=alU h1;simp only[mF];rw[if_neg (hold o _ hu)];exact hu
    .exact gen
  .simp only[mF];rw[if_neg (hold o v ho)];exact ho
  .simp only[mF];rw[if_neg (fun hc=>by rw[(hs.fresh s hc.1 hc.2).2]at fi;cases fi)];exact fi
  .simp only[mF];rw[if_neg (fun hc=>by rw[(hs.fresh s hc.1 hc.2).2]at fi;cases fi)]
  .simp only[mF];rw[if_neg (by omega),if_neg (by omega)];exact⟨id,id⟩
 have made:∀{p:Row->Bool}{us:List Value}{w':World}{H':ay}{F' F2:Nat->Prop}{eat:List Nat},us.length=sg.out.ak.length->ri p sg.out.ak=true->yR p sg.out.objs=true->si p F' F2 w'->Ext G w w'->H1.le H'->(∀b,F2 b->F' b)->(∀o,o∈iA bs->o∈eat)->
  (∀t d,find (dB sg.out.ak (dO sg.out.rows y)).1 t=some d->al H' F' w' d (us.getD t undef))->az (fun k=>w.heap.size<=k\/G k) H' F' w' (find (iW sg.inn.nxt sg.out.objs (dB sg.out.ak (dO sg.out.rows y)).2)) sg.out.nxt->jD H' sg.out.nxt->
  al (mF H H' n cons sg.inn.nxt) F2 w' D (ya us)/\Made (mF H H' n cons sg.inn.nxt) F2 w w' (cE H (find objs) eat) cons/\∀o,(find cons o).isSome->o∈eat\/n<=o:=by
  intro p us w' H' F' F2 eat Ov F7 Ns Xx b7 hle Nv lF zQ Ox UI;obtain⟨hr,_,_⟩:=Rh hle UI
  have Gl:∀o s t,find cons o=some (s,t)->∃j s' us sh,φ j=o/\t=(cG (sh.qN φ) us).1/\find (iW sg.inn.nxt sg.out.objs (dB sg.out.ak (dO sg.out.rows y)).2) j=some (s',(cG sh us).1)/\sh.jE p=true/\se cons s=some t/\n<=s/\s<n+16/\(mF H H' n cons sg.inn.nxt).sub s=H'.sub s':=by
   intro o s t ho;rw[<-Ca]at ho⊢;rw[YH]at ho⊢;obtain⟨j,s',YI,sh,a1,a2,a3,a4,a5,a6,a7,a8⟩:=Cj (m':=sg.inn.nxt) ho
   have aj:s<n+16:=by omega
   refine⟨j,s',YI,sh,a1,a2,a3,a4 Ns,a5,a6,aj,?_⟩;simp only[mF];rw[if_pos ⟨a6,aj⟩,a8]
  refine⟨?_,⟨fun o s t ho=>?_,fun o o' s s' t t' v v' bR ho lD hv dM k hk dZ=>?_⟩,fun o ho=>?_⟩
  .exact Rf (by rw[Ck];exact vj) (by rw[uz];exact Ov) (Ln hr Xx F7 zQ) hD
  .obtain⟨j,s',YI,sh,rfl,rfl,a3,a4,a5,a6,a7,a8⟩:=Gl o s t ho;rw[a8];obtain⟨v,hv,cx⟩:=Ox.obj _ _ _ a3;obtain⟨b1,b2,b3⟩:=tI hr Xx a4 cx.ok;refine⟨v,hr j v hv,cx.one,?_,b1,fun k hk=>⟨fun e=>cx.no k (b3 k hk) (Nv k e),cx.lt k (b3 k hk),?_⟩⟩
   .rw[b2];simp only[mF];rw[if_pos ⟨a6,a7⟩];exact a5
   .rcases cx.use k (b3 k hk)with h1|h1
    .exact .inl h1
    .obtain⟨o',lD,rest⟩:=YF k h1;exact .inr ⟨o',lF o' lD,rest⟩
  .obtain⟨j,s1,us1,sh,rfl,rfl,a3,a4,a5,a6,_,a8⟩:=Gl o s t ho;obtain⟨j',s1',agA,sh',rfl,rfl,a3',a4',a5',a6',_,a8'⟩:=Gl o' s' t' lD;rw[a8]at hk;rw[a8']at dZ;obtain⟨u,hu,cx⟩:=Ox.obj _ _ _ a3;obtain⟨u',BL,BZ⟩:=Ox.obj _ _ _ a3';have e1:=hr j u hu;rw[hv]at e1;obtain rfl:=alU e1;have e2:=hr j' u' BL;rw[dM]at e2;obtain rfl:=alU e2;exact Ox.apart j j' _ _ _ _ _ _ (fun e=>bR (by rw[e])) a3 a3' hu BL k ((tI hr Xx a4 cx.ok).2.2 k hk) ((tI hr Xx a4' BZ.ok).2.2 k dZ)
  .obtain⟨e,he⟩:=amA.1 ho;obtain⟨j,s',YI,sh,rfl,_⟩:=Gl o e.1 e.2 he;rw[<-YG];unfold Qb
   cases amS j sg.inn.nxt with
   |false=>exact .inr (by simp)
   |true=>
    rw[cond_true];split
    .rename_i o ho;split
     .exact .inl (lF o (kl ho))
     .exact .inr (by omega)
    .exact .inr (by omega)
 have UJ:∀{w':World}{eat:List Nat},Ext G w w'->(∀o,o∈iA bs->o∈eat)->Ext (cE H (find objs) eat) w w':=fun b7 lF=>⟨b7.os,b7.tape,b7.output,b7.size,fun k hk hn=>b7.block k hk fun hG=>hn (by
  obtain⟨o,ho,rest⟩:=YF k hG
  exact⟨o,lF o ho,rest⟩)⟩
 cases YJ:Gj sg with
 |true=>
  rw[YJ,cond_true]at h;obtain⟨p1,p2⟩:=di YJ;refine⟨_,h,Ig _ rfl fun w' us H' F' Ov a1 a2 a3 a4 a5 a6 a7=>?_⟩;obtain⟨_,g2,g3⟩:=Rh a2 a7;obtain⟨m1,m2,m3⟩:=made (F2:=F) (eat:=iA bs) Ov p1 p2 (fun r hr cs x hx=>cR.EH hr hx) a1 a2 (fun b hb=>a3 b (D9 b hb)) (fun _ h=>h) a5 a6 a7;exact⟨_,F,⟨g2,UJ a1 (fun _ h=>h),fun _ h=>h,fun _ h=> .inl h,fun b hb=>amI (hs.lt b hb) a1.size⟩,g3,m1,m2,m3⟩
 |false=>
  rw[YJ,cond_false]at h;refine⟨_,h,Ig _ rfl fun w' us H' F' Ov a1 a2 a3 a4 a5 a6 a7=>?_⟩;obtain⟨_,g2,g3⟩:=Rh a2 a7;obtain⟨m1,m2,m3⟩:=made (F2:=F') (eat:=iA bs++nd) Ov hc5 su (fun r _ cs x hx=>hx) a1 a2 (fun _ h=>h) (fun o h=>by simp[h]) a5 a6 a7
  have fi:Step F1 w F' w':=fun b hb=>⟨a3 b hb,a1.block b (qM.lt b hb) fun e=>UF b e hb⟩
  have td:∀o s t,find (oW aR nd) o=some (s,t)->o∈nd/\eF t=true/\∃v,H.val o=some v/\v.oneCell'=true/\H.con s=some t.base/\jn H F1 w (H.sub s) v t:=by
   intro o s t ho;obtain⟨b1,b2,b3⟩:=ng ho;obtain⟨v,hv,cx⟩:=qM.obj _ _ _ b2;exact⟨b1,b3,v,hv,cx.one,cx.con,cx.ok⟩
  have part:∀o s t,find (cons++oW aR nd) o=some (s,t)->find cons o=some (s,t)\/find (oW aR nd) o=some (s,t):=by
   intro o s t ho;rw[iO]at ho
   cases hm:find cons o with
   |some e=>rw[hm]at ho;exact .inl ho
   |none=>rw[hm,am8]at ho;exact .inr ho
  refine⟨_,F',⟨g2,UJ a1 (fun o h=>by simp[h]),fun b hb=>a3 b (D9 b hb),fun b hb=>?_,a6.lt⟩,g3,m1,⟨fun o s t ho=>?_,fun o o' s s' t t' v v' bR ho lD hv dM k hk dZ=>?_⟩,fun o ho=>?_⟩
  .rcases a4 b hb with h1|h1|h1
   .rcases Nv b h1 with h2|⟨o,ho,rest⟩
    .exact .inl h2
    .exact .inr (.inr ⟨o,by simp[ho],rest⟩)
   .exact .inr (.inl h1)
   .obtain⟨o,ho,rest⟩:=YF b h1;exact .inr (.inr ⟨o,by simp[ho],rest⟩)
  .rcases part o s t ho with h1|h1
   .exact m2.obj o s t h1
   .obtain⟨b1,b2,v,b3,b4,b5,b6⟩:=td o s t h1;refine⟨v,g2.val _ _ b3,b4,g2.con _ _ b5,by rw[g2.sub _ _ b5];exact b6.heap g2 fi (fun k hk=>(iu b2 hk).elim),fun k hk=>(iu b2 hk).elim⟩
  .rcases part o s t ho with h1|h1<;>rcases part o' s' t' lD with h2|h2
   .exact m2.apart o o' s s' t t' v v' bR h1 h2 hv dM k hk dZ
   .exact iu (td o' s' t' h2).2.1 dZ
   .exact iu (td o s t h1).2.1 hk
   .exact iu (td o s t h1).2.1 hk
  .obtain⟨e,he⟩:=amA.1 ho
   rcases part o e.1 e.2 he with h1|h1
   .exact m3 o (by rw[h1];rfl)
   .exact .inl (by simp[(td o _ _ h1).1])
theorem oe{UK:List (Nat×bp)}(yb:∀p∈UK,ax P p.1 p.2){objs:List (Nat×(Nat×Th))}{f:FuncId}{op:Op}{k:eD->Option R}{q:R}{ds:List aq}{vs:List Value}
 (yW:fQ H F w ds vs)(bA:∀fn,P.funcs[f]? =some fn->(fn.name== "runtime.NumGoroutine")=false->fn.body.isNone=false->(execOp (ev ρ) ⟨dst,op,ty,pos,aft,none⟩).run P w= .ok (.enter f vs.toArray) w)(hs:az U H F w (find objs) n):{tab:List (Nat×bp)}->(∀p∈tab,p∈UK)->oF objs n f ds k tab=some q->
 ∃e,k e=some q/\cS P U H F w ρ (find objs) n ⟨dst,op,ty,pos,aft,none⟩ e
 |[],_,h=>by cases h
 |(f0,sg)::tab,cx,h=>by
  unfold oF at h
  cases hb:al4 f0 f with
  |false=>rw[hb,cond_false]at h;exact oe yb yW bA hs (fun p hp=>cx p (by simp[hp])) h
  |true=>
   rw[hb,cond_true]at h;obtain rfl:=beq_true hb;split at h
   case h_2=>exact oe yb yW bA hs (fun p hp=>cx p (by simp[hp])) h
   rename_i x bs aR tK;exact Ix (yb (f0,sg) (cx _ (by simp))) yW bA hs tK h
theorem Cm{tab:List (Nat×bp)}(yb:∀p∈tab,ax P p.1 p.2){rd:Operand->Option aq}(gu:∀x d,rd x=some d->al H F w d (ev ρ x)){objs:List (Nat×(Nat×Th))}{g:Operand}{args:Array Operand}{xN:Array TypeId}{k:eD->Option R}{q:R}
 (h:yV tab rd objs n g args.toList k=some q)(hs:az U H F w (find objs) n):
 ∃e,k e=some q/\cS P U H F w ρ (find objs) n ⟨dst, .call {callee:= .value g,args:=args,argTypes:=xN},ty,pos,aft,none⟩ e:=by
 unfold yV at h;split at h
 case h_2=>cases h
 rename_i f caps hc;split at h
 case h_2=>cases h
 rename_i ds vp;unfold Gk at hc;split at hc
 case h_2=>cases hc
 rename_i f' aew hg;cases hc;obtain⟨us,h1,h2⟩:=gu _ _ hg;exact oe yb (sr (n5 (w:=w) (H:=H) (F:=F) (ρ:=ρ) gu vp) (wK (F:=F) (w:=w) h2)) (fun fn g1 g2 g3=>Iw g1 g2 g3 rfl h1) hs (fun _ h=>h) h
end
end Go.Proofs.YtmihpkfkbfgigaaGreatDoor
end
