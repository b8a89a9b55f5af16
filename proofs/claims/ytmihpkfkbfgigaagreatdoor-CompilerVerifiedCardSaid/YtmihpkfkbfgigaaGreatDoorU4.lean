/- Joined texts: Grp Pack2 Call Call2. -/
import Derived.Test.YtmihpkfkbfgigaaGreatDoorU3
section
open _root_.Go.Instr renaming findNow->akB,mapUpdate->ak4
open _root_.List renaming getElem_append_left->ajv,getElem_append_right->ajA,length_append->ajm,mem_cons->ajJ
open _root_.Go.MapKept renaming run_checkKey->akG,run_findKey->akM,run_getObj_map->akL
open _root_.Nat renaming beq->aju,le_refl->ajo,lt_of_lt_of_le->aj7,zero_add->ajO,zero_le->ajI
open _root_.Option renaming isSome_iff_exists->ajZ
open _root_.Option.some renaming inj->ajk,injEq->ajx
open _root_.Prod.mk renaming inj->akO,injEq->akl
open _root_.Go.Result renaming andThen->aj0
open _root_.Go.Value renaming ownBlock->ajV
namespace Go.Proofs.YtmihpkfkbfgigaaGreatDoor
open Go Go.RowKit Go.MapKept
noncomputable def Hj{α:Type}(K:Row):List (K.den×α)->K.den->α->List (K.den×α)
 |[],_,_=>[]
 |p::l,k,v=>if gV K p.1 k=true then(p.1,v)::l else p::Hj K l k v
theorem AS{K:Row}{a b:K.den}(h:gV K a b=true):a=b:=by
 unfold gV at h
 split at h<;>first|exact of_decide_eq_true h|cases h
section
variable {P:Program} {ρ:Nat->Value} {w w':World} {H H':aq} {F F':Nat->Prop} {U:Nat->Prop} {ob:Nat->Option (Nat×Th)} {n:Nat} {R:Type}
variable {op:Op} {ty:TypeId} {pos:String} {aft:Array Edge} {d:Nat}
variable {K:Row} {E:TypeId} {r:Row}
theorem qW.none(A:Nat->Prop):qW (fun _=>False) A A:=⟨fun k=>by simp,fun _ h=>h.elim⟩
theorem qW.mk'{A B:Nat->Prop}(h:∀k,A k->¬B k):qW A B (fun k=>A k\/B k):=⟨fun _=>Iff.rfl,h⟩
theorem qC{dd:TypeDesc}{x:K.den}{kv:Value}(hK:∀x v,nS K x=some v->IsKey dd v)(hx:nS K x=some kv):{h:Option (K.den×Nat)}->(∀a o,h=some (a,o)->a=x)->{es:List MapEntry}->{l:List (K.den×List r.den)}->{S:Nat->Prop}->(i:Nat)->fQ H F w K E r h es l S->
 (akB dd kv es i=some none/\gY K l x=none/\(∀e∈es,e.key≠kv)/\
   (∀H' F' w' y(e:MapEntry)A,e.key=kv->Step F w F' w'->(∀k,S k->w'.heap[k]? =w.heap[k]?)->rc F' w' E r e.val y A->(∀k,A k->¬S k)->∃S2,fQ H' F' w' K E r none (es++[e]) (mv K l x y) S2/\∀k,S2 k->S k\/A k)/\
   (h=none->∀H' o,fQ H' F w K E r (some (x,o)) es l S))\/
 ∃j e y0,akB dd kv es i=some (some (i+j,e.val))/\es[j]? =some e/\e.key=kv/\gY K l x=some y0/\
  (∀H' F' w' y(f:MapEntry->MapEntry)A,(f e).key=kv->Step F w F' w'->(∀k,S k->w'.heap[k]? =w.heap[k]?)->rc F' w' E r (f e).val y A->(∀k,A k->¬S k)->∃S2,fQ H' F' w' K E r none (es.modify j f) (mv K l x y) S2/\∀k,S2 k->S k\/A k)/\
  (h=none->∃A B,rc F w E r e.val y0 A/\qW A B S/\∀H' o,H'.val o=some e.val->fQ H' F w K E r (some (x,o)) es l B)
 |h,hh,[],l,S,i,hd=>by
  have xq:l=[]/\∀k,¬S k:=by cases h<;>exact hd
  obtain⟨rfl,hS⟩:=xq;refine .inl ⟨rfl,rfl,by simp,fun H' F' w' y e A he hs hb hv hA=>⟨A,⟨x,y,[],A,fun _=>False,rfl,by rw[he];exact hx,hv,⟨rfl,fun _ h=>h⟩,⟨fun k=>by simp,fun _ _ h=>h⟩⟩,fun k hk=> .inr hk⟩,fun _ H' o=>⟨rfl,hS⟩⟩
 |h,hh,e::es,l,S,i,hd=>by
  have gen:∃k y l' A B,l=(k,y)::l'/\nS K k=some e.key/\qW A B S/\((h=none->rc F w E r e.val y A)/\(gV K k x=false->rc F w E r e.val y A/\fQ H F w K E r h es l' B)/\(gV K k x=true->fQ H F w K E r none es l' B)):=by
   cases h with
   |none=>
    obtain⟨k,y,l',A,B,e0,h1,h2,h3,h4⟩:=hd;exact⟨k,y,l',A,B,e0,h1,h4,fun _=>h2,fun _=>⟨h2,h3⟩,fun _=>h3⟩
   |some p=>
    obtain⟨a,o⟩:=p;obtain rfl:=hh a o rfl;obtain⟨k,y,l',A,B,e0,h1,h2,h4⟩:=hd;refine⟨k,y,l',A,B,e0,h1,h4,fun e=>(by cases e),fun hk=>?_,fun hk=>?_⟩
    .rcases h2 with⟨g,_⟩|⟨_,g2,g3⟩
     .rw[hk]at g;cases g
     .exact⟨g2,g3⟩
    .rcases h2 with⟨_,_,_,g⟩|⟨g,_⟩
     .exact g
     .rw[hk]at g;cases g
  obtain⟨k,y,l',A,B,rfl,h1,h4,SB,SC,SD⟩:=gen;obtain⟨q,MI,JM⟩:=sameNow_of_keys (hK x kv hx) (hK k _ h1);have Jw:=xF h1 hx
  cases q with
  |true=>
   have PG:kv=e.key:=JM.1 rfl;have hq:gV K k x=true:=Jw.2 PG.symm;obtain rfl:=AS hq;refine .inr ⟨0,e,y,by simp[akB,MI],rfl,PG.symm,by simp[gY,hq],fun H' F' w' y' f A' hf hs hb hv hA=>?_,fun hn=>?_⟩
   .have rp:∀j,A' j->¬B j:=fun j hj hB=>hA j hj (h4.right j hB)
    refine⟨fun j=>A' j\/B j,?_,fun j hj=>hj.elim .inr fun hB=> .inl (h4.right j hB)⟩
    show fQ H' F' w' K E r none (f e::es) (if gV K k k=true then(k,y')::l' else(k,y)::mv K l' k y') _
    rw[if_pos hq];exact⟨k,y',l',A',B,rfl,by rw[hf,h1,PG],hv,(SD hq).keep hs (fun _ _ _ e=>by cases e) fun j hj=>hb j (h4.right j hj),qW.mk' rp⟩
   .subst hn;exact⟨A,B,SB rfl,h4,fun H' o ho=>⟨k,y,l',fun _=>False,B,rfl,h1, .inl ⟨hq,ho,fun _ h=>h,(SD hq).keep (Step.refl F w) (fun _ _ _ e=>by cases e) fun _ _=>rfl⟩,qW.none B⟩⟩
  |false=>
   have bP:¬e.key=kv:=fun q=>by have:=JM.2 q.symm;cases this
   have hq:gV K k x=false:=by
    cases hc:gV K k x with
    |false=>rfl
    |true=>exact absurd (Jw.1 hc) bP
   obtain⟨eo,AT⟩:=SC hq
   have mM:¬gV K k x=true:=by rw[hq];exact fun h=>by cases h
   rcases qC hK hx hh (i+1) AT with⟨a1,a2,a3,a4,a5⟩|⟨j,e',z,a1,a2,a3,a4,a5,a6⟩
   .refine .inl ⟨by simp[akB,MI,a1],by simp[gY,mM,a2],fun e' he'=>?_,fun H' F' w' y' e' A' he' hs hb hv hA=>?_,fun hn H' o=>?_⟩
    .rcases ajJ.1 he' with rfl|he'
     .exact bP
     .exact a3 e' he'
    .obtain⟨S2,b1,b2⟩:=a4 H' F' w' y' e' A' he' hs (fun j hj=>hb j (h4.right j hj)) hv (fun j hj hB=>hA j hj (h4.right j hB))
     have rp:∀j,A j->¬S2 j:=fun j hj h2=>(b2 j h2).elim (h4.off j hj) fun JX=>hA j JX (h4.left j hj)
     refine⟨fun j=>A j\/S2 j,?_,fun j hj=>hj.elim (fun h=> .inl (h4.left j h)) fun h=>(b2 j h).imp (h4.right j) id⟩
     show fQ H' F' w' K E r none (e::(es++[e'])) (if gV K k x=true then(k,y')::l' else(k,y)::mv K l' x y') _
     rw[if_neg mM];exact⟨k,y,_,A,S2,rfl,h1,eo.keep hs fun j hj=>hb j (h4.left j hj),b1,qW.mk' rp⟩
    .subst hn;exact⟨k,y,l',A,B,rfl,h1, .inr ⟨hq,eo,a5 rfl H' o⟩,h4⟩
   .refine .inr ⟨j+1,e',z,by simp[akB,MI,a1];omega,by simpa using a2,a3,by simp[gY,mM,a4],fun H' F' w' y' f A' hf hs hb hv hA=>?_,fun hn=>?_⟩
    .obtain⟨S2,b1,b2⟩:=a5 H' F' w' y' f A' hf hs (fun j hj=>hb j (h4.right j hj)) hv (fun j hj hB=>hA j hj (h4.right j hB))
     have rp:∀j,A j->¬S2 j:=fun j hj h2=>(b2 j h2).elim (h4.off j hj) fun JX=>hA j JX (h4.left j hj)
     refine⟨fun j=>A j\/S2 j,?_,fun j hj=>hj.elim (fun h=> .inl (h4.left j h)) fun h=>(b2 j h).imp (h4.right j) id⟩
     show fQ H' F' w' K E r none (e::es.modify j f) (if gV K k x=true then(k,y')::l' else(k,y)::mv K l' x y') _
     rw[if_neg mM];exact⟨k,y,_,A,S2,rfl,h1,eo.keep hs fun j hj=>hb j (h4.left j hj),b1,qW.mk' rp⟩
    .subst hn;obtain⟨A2,B2,c1,c2,c3⟩:=a6 rfl
     have rp:∀j,A j->¬B2 j:=fun j hj h2=>h4.off j hj (c2.right j h2)
     refine⟨A2,fun j=>A j\/B2 j,c1,⟨fun j=>?_,fun j hj h2=>?_⟩,fun H' o ho=>⟨k,y,l',A,B2,rfl,h1, .inr ⟨hq,eo,c3 H' o ho⟩,qW.mk' rp⟩⟩
     .rw[h4.all,c2.all]
      constructor<;>(intro h;rcases h with h|h|h<;>simp[h])
     .exact h2.elim (fun h=>h4.off j h (c2.left j hj)) (c2.off j hj)
theorem vw{a:K.den}{o:Nat}{u:Value}{y:List r.den}{A0:Nat->Prop}(hu:H.val o=some u)(hy:rc F w E r u y A0):{es:List MapEntry}->{l:List (K.den×List r.den)}->{S:Nat->Prop}->(∀k,A0 k->¬S k)->fQ H F w K E r (some (a,o)) es l S->
 ∃S2,(∀H',fQ H' F w K E r none es (Hj K l a y) S2)/\∀k,S2 k->S k\/A0 k
 |[],l,S,_,h=>by
  obtain⟨rfl,hS⟩:=h;exact⟨S,fun _=>⟨rfl,hS⟩,fun k hk=> .inl hk⟩
 |e::es,l,S,hA,h=>by
  obtain⟨k,y0,l',A,B,rfl,h1,h2,h4⟩:=h
  rcases h2 with⟨g1,g2,g3,g4⟩|⟨g1,g2,g3⟩
  .rw[hu]at g2;obtain rfl:=ajk g2;refine⟨fun j=>A0 j\/B j,fun H'=>?_,fun j hj=>hj.elim .inr fun h=> .inl (h4.right j h)⟩
   show fQ H' F w K E r none (e::es) (if gV K k a=true then(k,y)::l' else(k,y0)::Hj K l' a y) _
   rw[if_pos g1];exact⟨k,y,l',A0,B,rfl,h1,hy,g4.keep (Step.refl F w) (fun _ _ _ e=>by cases e) (fun _ _=>rfl),qW.mk' fun j hj hB=>hA j hj (h4.right j hB)⟩
  .obtain⟨S2,b1,b2⟩:=vw hu hy (fun j hj hB=>hA j hj (h4.right j hB)) g3
   have rp:∀j,A j->¬S2 j:=fun j hj h2=>(b2 j h2).elim (h4.off j hj) fun JX=>hA j JX (h4.left j hj)
   refine⟨fun j=>A j\/S2 j,fun H'=>?_,fun j hj=>hj.elim (fun h=> .inl (h4.left j h)) fun h=>(b2 j h).imp (h4.right j) id⟩
   show fQ H' F w K E r none (e::es) (if gV K k a=true then(k,y)::l' else(k,y0)::Hj K l' a y) _
   rw[if_neg (by rw[g1];exact fun h=>by cases h)];exact⟨k,y0,_,A,S2,rfl,h1,g2,b1 H',qW.mk' rp⟩
theorem AU:{es:List MapEntry}->{l:List (K.den×List r.den)}->{S:Nat->Prop}->fQ H F w K E r none es l S->es.length=l.length/\∀i(h:i<l.length),∃(e:MapEntry)(A:Nat->Prop),es[i]? =some e/\nS K l[i].1=some e.key/\rc F w E r e.val l[i].2 A/\∀k,A k->S k
 |[],l,S,h=>by obtain⟨rfl,_⟩:=h;exact⟨rfl,fun i h=>by simp at h⟩
 |e::es,l,S,h=>by
  obtain⟨k,y,l',A,B,rfl,h1,h2,h3,h4⟩:=h;obtain⟨g1,g2⟩:=AU h3;refine⟨by simp[g1],fun i hi=>?_⟩
  cases i with
  |zero=>exact⟨e,A,rfl,h1,h2,h4.left⟩
  |succ i=>
   obtain⟨e',A',q1,q2,q3,q4⟩:=g2 i (by simpa using hi);exact⟨e',A',by simpa only[List.getElem?_cons_succ]using q1,q2,q3,fun k hk=>h4.right k (q4 k hk)⟩
theorem vx(hs:au U H F w ob n){o s:Nat}{t0 t1 t2:Th}(cU:ob o=some (s,t0)){v:Value}(hv:H.val o=some v)(e1:t1.base=t1)(e2:t2.base=t2){u:Value}(kN:u.oneCell'=true){So A:Nat->Prop}
 (f1:∀k,fp So v t1 k->fp (H.sub s) v t0 k)(f2:∀k,fp A u t2 k->fp (H.sub s) v t0 k)(f12:∀k,fp So v t1 k->¬fp A u t2 k)
 (k1:∀H1,H.le H1->H1.val n=some u->iE H1 F w So v t1)(k2:∀H1,H.le H1->iE H1 F w A u t2){D:al}{dv:Value}(kd:∀H1,H.le H1->H1.val n=some u->aj H1 F w D dv):
 kS H F w ob n {dst:=D,eat:=[o],make:=[(o,(n,t1)),(n,(n+1,t2))]} dv w:=by
 obtain⟨v1,uy,cn⟩:=hs.obj _ _ _ cU;rw[hv]at uy;obtain rfl:=ajk uy;obtain⟨g1,g2⟩:=hs.fresh n (ajo _) (by omega);obtain⟨g3,g4⟩:=hs.fresh (n+1) (by omega) (by omega)
 let H1:aq:=⟨fun m=>if m=n then some u else H.val m,fun m=>if m=n then some t1 else if m=n+1 then some t2 else H.con m,fun m=>if m=n then So else if m=n+1 then A else H.sub m⟩
 have hle:H.le H1:=by
  refine⟨fun o v ho=>?_,fun s t eM=>?_,fun s t eM=>?_⟩
  .have:o≠n:=fun e=>by rw[e,g1]at ho;cases ho
   simp[H1,this,ho]
  .have a1:s≠n:=fun e=>by rw[e,g2]at eM;cases eM
   have a2:s≠n+1:=fun e=>by rw[e,g4]at eM;cases eM
   simp[H1,a1,a2,eM]
  .have a1:s≠n:=fun e=>by rw[e,g2]at eM;cases eM
   have a2:s≠n+1:=fun e=>by rw[e,g4]at eM;cases eM
   simp[H1,a1,a2]
 have wQ:H1.val n=some u:=by simp[H1]
 have kQ:∀k,fp (H.sub s) v t0 k->cm H ob [o] k:=fun k hk=>⟨o,by simp,s,_,v,cU,hv,hk⟩
 have qa:H1.sub n=So:=by simp[H1]
 have PJ:H1.sub (n+1)=A:=by simp[H1]
 have two:∀{o' s' t'},find [(o,(n,t1)),(n,(n+1,t2))] o'=some (s',t')->(o'=o/\s'=n/\t'=t1)\/(o'=n/\s'=n+1/\t'=t2):=by
  intro o' s' t' hf;rw[aD]at hf;split at hf
  .rename_i e;simp only[ajx,akl]at hf;exact .inl ⟨e.symm,hf.1.symm,hf.2.symm⟩
  .obtain⟨e1,e⟩:=bW hf;obtain⟨e2,e3⟩:=akO e;exact .inr ⟨e1,e2,e3⟩
 refine⟨H1,F,⟨hle,⟨rfl,rfl,rfl,ajo _,fun _ _ _=>rfl⟩,fun _ h=>h,fun _ h=> .inl h,hs.lt⟩,fun m hm=>?_,kd H1 hle wQ,⟨fun o' s' t hf=>?_,fun o1 o2 s1 s2 q1 q2 u1 u2 bP g1 g2 e1 e2 k hk dO=>?_⟩,fun o' kO=>?_⟩
 .have a1:m≠n:=by omega
  have a2:m≠n+1:=by omega
  simp[H1,a1,a2]
 .rcases two hf with⟨rfl,rfl,rfl⟩|⟨rfl,rfl,rfl⟩
  .refine⟨v,hle.val _ _ hv,cn.one,by rw[e1];simp[H1],by rw[qa];exact k1 H1 hle wQ,fun k hk=>?_⟩;rw[qa]at hk;have:=f1 k hk;exact⟨cn.no k this,cn.lt k this, .inr (kQ k this)⟩
  .refine⟨u,wQ,kN,by rw[e2];simp[H1],by rw[PJ];exact k2 H1 hle,fun k hk=>?_⟩;rw[PJ]at hk;have:=f2 k hk;exact⟨cn.no k this,cn.lt k this, .inr (kQ k this)⟩
 .rcases two g1 with⟨rfl,rfl,rfl⟩|⟨rfl,rfl,rfl⟩<;>rcases two g2 with⟨rfl,rfl,rfl⟩|⟨rfl,rfl,rfl⟩
  .exact bP rfl
  .rw[qa]at hk;rw[PJ]at dO;rw[wQ]at e2;obtain rfl:=ajk e2;rw[hle.val _ _ hv]at e1;obtain rfl:=ajk e1;exact f12 k hk dO
  .rw[qa]at dO;rw[PJ]at hk;rw[wQ]at e1;obtain rfl:=ajk e1;rw[hle.val _ _ hv]at e2;obtain rfl:=ajk e2;exact f12 k dO hk
  .exact bP rfl
 .obtain⟨y,hy⟩:=ajZ.1 kO
  rcases two (s':=y.1) (t':=y.2) hy with⟨rfl,_⟩|⟨rfl,_⟩
  .exact .inl (by simp)
  .exact .inr (ajo _)
def SE(T:be P)(t:TypeId):Option (Row×TypeId×Row):=
 match find T.und t with
 |some (.map kt vt)=>match find T.row kt with
  |some K=>match find T.und vt with
   |some (.slice e)=>match find T.row e with
    |some r=>some (K,e,r)
    |none=>none
   |_=>none
  |none=>none
 |_=>none
def mg(deep:Bool)(T:be P)(n:Nat)(t:TypeId)(k:dY->Option R):Option R:=
 match(bif deep then SE T t else none)with
 |some (K,e,r)=>k {dst:= .val false (.own n),make:=[(n,(n, .dmap t K e r [] none))]}
 |none=>nx T n t k
theorem yY(deep:Bool)(T:be P){t:TypeId}{k:dY->Option R}{q:R}(h:mg deep T n t k=some q)(hs:au U H F w ob n):
 ∃e,k e=some q/\cG P U H F w ρ ob n ⟨some d, .makeMap t none,ty,pos,aft,none⟩ e:=by
 unfold mg at h;split at h
 case h_2=>exact AL T h hs
 rename_i K e r _
 have bw:(execOp (ev ρ) ⟨some d, .makeMap t none,ty,pos,aft,none⟩).run P w= .ok (.value (.map (some w.heap.size))) (w.alloc (.map #[] 0)):=by
  simp[execOp,Instr.makeMap,aj0]
 refine⟨_,h,cd.val bw ?_⟩;have hf:=hs.fresh n (ajo _) (by omega)
 let H1:aq:=((H.fe n (is w.heap.size)).bK n (.dmap t K e r [] none)).cW n (.map (some w.heap.size))
 have hle:H.le H1:=(aq.uD hf.2).trans (aq.pA (by simpa[aq.bK,aq.fe]using hf.1))
 have hv:H1.val n=some (.map (some w.heap.size)):=by simp[H1,aq.cW]
 have fY:H1.sub n=is w.heap.size:=by simp[H1,aq.cW,aq.bK,aq.fe]
 refine⟨H1,F,⟨hle,pC _,fun _ h=>h,fun _ h=> .inl h,fun b hb=>by have:=hs.lt b hb;simp;omega⟩,fun m hm=>?_,mP hv rfl,⟨fun o' s' q hq=>?_,fun o1 o2 s1 s2 q1 q2 u1 u2 bP h1 h2=>?_⟩,fun o' h=>?_⟩
 .have:m≠n:=by omega
  simp[H1,aq.cW,aq.bK,aq.fe,this]
 .obtain⟨rfl,e⟩:=bW hq;obtain⟨rfl,rfl⟩:=akO e;refine⟨_,hv,rfl,by simp[H1,aq.cW,aq.bK,aq.fe,Th.base],?_,fun k hk=>?_⟩
  .rw[fY];exact⟨_, #[],0,fun _=>False,rfl,(heap_alloc w _).1,stamped_empty 0,⟨rfl,fun _ h=>h⟩,⟨fun k=>by simp,fun _ _ h=>h⟩,fun _ _ e=>by cases e⟩
  .rw[fY]at hk;have hk:k=w.heap.size:=hk;subst hk;exact⟨fun e=>by have:=hs.lt _ e;omega,by simp, .inl (ajo _)⟩
 .exact absurd ((bW h1).1.trans (bW h2).1.symm) bP
 .right
  obtain⟨y,hy⟩:=ajZ.1 h;rw[(bW hy).1];exact ajo _
noncomputable def nz(T:be P)(ob:Nat->Option (Nat×Th))(n:Nat)(t:TypeId)(ok:Bool)(M X:al)(k:dY->Option R):Option R:=
 match M with
 | .val false (.own o)=>match ob o with
   |some (_, .dmap T0 K E r l none)=>match find T.und t with
    |some (.map kt vt)=>match find T.zer vt with
     |some (false, .slice _)=>bif vj T kt K&&ok then(match asKey ob K X with
      |some x=>k {dst:= .tup [(false, .own n),(false, .leaf .bool (gY K l x).isSome)],eat:=[o],make:=[(o,(n, .dmap T0 K E r l (some (x,n)))),(n,(n+1, .own E r ((gY K l x).getD [])))]}
      |none=>none)else none
     |_=>none
    |_=>none
   |_=>nZ T ob t ok M X k
 |_=>nZ T ob t ok M X k
theorem AV(T:be P){t:TypeId}{ok:Bool}{M X:al}{m x:Operand}{k:dY->Option R}{q:R}(h:nz T ob n t ok M X k=some q)(hs:au U H F w ob n)(hm:aj H F w M (ev ρ m))(hx:aj H F w X (ev ρ x)):
 ∃e,k e=some q/\cG P U H F w ρ ob n ⟨some d, .lookup t m x ok,ty,pos,aft,none⟩ e:=by
 unfold nz at h;split at h
 case h_2=>exact vm T h hs hm hx
 rename_i o;split at h
 case h_2=>exact vm T h hs hm hx
 rename_i s T0 K E r l cU;split at h
 case h_2=>cases h
 rename_i kt vt hu;split at h
 case h_2=>cases h
 rename_i re hz;obtain⟨hc,h'⟩:=aG h;clear h;obtain⟨As,uv⟩:=cV hc;subst uv;split at h'
 case h_2=>cases h'
 rename_i a ha;refine⟨_,h',?_⟩;obtain⟨dd,hd,hK,hR⟩:=rl (F:=F) (w:=w) T As;have sB:=hR _ _ (rm hs ha hx);have MN:=hK _ _ sB;have AM:=T.und_ok _ _ hu
 have w4:(zeroValue vt).run P w= .ok (.slice none 0 0) w:=by
  obtain⟨z,w4,e⟩:=T.zer_ok _ _ _ hz
  cases hi:P.info? vt with
  |none=>rw[hi]at w4;cases w4
  |some ti=>
   rw[hi]at w4;have hz':ti.zero=some z:=w4;rw[cond_false]at e;have e':z= .slice none 0 0:=e;subst e';simp[zeroValue,typeInfo,hi,hz',aj0]
 obtain⟨cs,⟨v,hv,aca,e⟩,_,h3⟩:=hm;rw[h3 rfl]at e
 obtain rfl:ev ρ m=v:=by simpa using e
 obtain⟨v',dz,cn⟩:=hs.obj _ _ _ cU;rw[hv]at dz;obtain rfl:=ajk dz;obtain⟨b,es,clock,B,Dy,hh,eM,G9,nA,_⟩:=cn.ok
 have tup:∀(H1:aq)(u:Value)(q:Bool),H1.val n=some u->u.oneCell'=true->aj H1 F w (.tup [(false, .own n),(false, .leaf .bool q)]) (.tuple #[u, .bool q]):=fun H1 u q hu h1=>
  ⟨[u, .bool q],rfl,_,_,rfl,⟨[u],⟨u,hu,h1,rfl⟩,rfl,fun _=>rfl⟩,_,_,rfl,aH.gk ..,rfl⟩
 rcases qC (H:=H) hK sB (h:=none) (fun _ _ e=>by cases e) 0 G9 with⟨a1,a2,_,_,a5⟩|⟨j,e,y0,a1,_,_,a4,_,a6⟩
 .have bw:(execOp (ev ρ) ⟨some d, .lookup t m x true,ty,pos,aft,none⟩).run P w= .ok (.value (.tuple #[.slice none 0 0, .bool (gY K l a).isSome])) w:=by
   rw[a2];simp[execOp,Dy,Instr.lookup,run_underlying AM,akL hh,akG hd MN,akM hd a1,w4,aj0]
  refine cd.val bw ?_;rw[a2]
  refine vx (t1:= .dmap T0 K E r l (some (a,n))) (t2:= .own E r []) (u:= .slice none 0 0) (So:=H.sub s) (A:=fun _=>False) hs cU hv rfl rfl rfl (fun k hk=>hk) (fun k hk=>?_) (fun k hk dO=>?_) (fun H1 hle wQ=>?_) (fun H1 hle=>jW.nil F w E r) fun H1 hle wQ=>tup H1 _ _ wQ rfl
  .have dO:bq (.slice none 0 0) k:=hk;simp[bq,ajV]at dO
  .have dO:bq (.slice none 0 0) k:=dO;simp[bq,ajV]at dO
  .exact⟨b,es,clock,B,Dy,hh,eM,a5 rfl H1 n,nA,fun a' o' e'=>by cases e';exact⟨_,wQ⟩⟩
 .rw[ajO]at a1;obtain⟨A,B2,c1,c2,c3⟩:=a6 rfl
  have bw:(execOp (ev ρ) ⟨some d, .lookup t m x true,ty,pos,aft,none⟩).run P w= .ok (.value (.tuple #[e.val, .bool (gY K l a).isSome])) w:=by
   rw[a4];simp[execOp,Dy,Instr.lookup,run_underlying AM,akL hh,akG hd MN,akM hd a1,aj0]
  refine cd.val bw ?_;rw[a4]
  have MQ:∀k,A k->H.sub s k:=fun k hk=>nA.right k (c2.left k hk)
  refine vx (t1:= .dmap T0 K E r l (some (a,n))) (t2:= .own E r y0) (u:=e.val) (So:=fun k=>is b k\/B2 k) (A:=A) hs cU hv rfl rfl c1.1.one (fun k hk=>?_) (fun k hk=>?_) (fun k hk dO=>?_) (fun H1 hle wQ=>?_) (fun H1 hle=>c1.1) fun H1 hle wQ=>tup H1 _ _ wQ c1.1.one
  .have hk:is b k\/B2 k:=hk
   exact hk.elim (nA.left k) fun h=>nA.right k (c2.right k h)
  .exact MQ k ((c1.2 k).2 hk)
  .have hk:is b k\/B2 k:=hk;have dO:A k:=(c1.2 k).2 dO;exact hk.elim (fun h=>nA.off k h (c2.left k dO)) (c2.off k dO)
  .exact⟨b,es,clock,B2,Dy,hh,eM,c3 H1 n wQ,qW.mk' fun k h1 h2=>nA.off k h1 (c2.right k h2),fun a' o' e'=>by cases e';exact⟨_,wQ⟩⟩
noncomputable def OE(K:Row)(h:Option (K.den×Nat))(x:K.den):Bool:=
 match h with
 |none=>true
 |some p=>gV K p.1 x
noncomputable def jI(T:be P)(ob:Nat->Option (Nat×Th))(n:Nat)(t:TypeId)(M X Y:al)(k:dY->Option R):Option R:=
 match M with
 | .val false (.own o)=>match ob o with
   |some (_, .dmap T0 K E r l h)=>match find T.und t with
    |some (.map kt _)=>bif vj T kt K then(match asKey ob K X with
     |some x=>if OE K h x=true then(match Y with
      | .val false .nil=>k {dst:= .dead,eat:=[o],make:=[(o,(n, .dmap T0 K E r (mv K l x []) none))]}
      | .val false (.own o1)=>match ob o1 with
        |some (_,t1)=>bif aju o1 o then none else(match PK E (.leaf r) t1 with
         |some y=>k {dst:= .dead,eat:=[o,o1],make:=[(o,(n, .dmap T0 K E r (mv K l x y) none))]}
         |none=>none)
        |none=>none
      |_=>none)else none
     |none=>none)else none
    |_=>none
   |_=>jt T ob n t M X Y k
 |_=>jt T ob n t M X Y k
theorem vy(T:be P){t:TypeId}{m x y:Operand}{o s:Nat}{T0:TypeId}{K:Row}{E:TypeId}{r:Row}{l:List (K.den×List r.den)}{h:Option (K.den×Nat)}{kt vt:TypeId}{a:K.den}{z:List r.den}{A:Nat->Prop}{eat:List Nat}
 (hs:au U H F w ob n)(cU:ob o=some (s, .dmap T0 K E r l h))(hv:H.val o=some (ev ρ m))(hu:find T.und t=some (.map kt vt))(hk:vj T kt K=true)(sB:cD F w K [ev ρ x] a)(hh:OE K h a=true)(hy:rc F w E r (ev ρ y) z A)
 (ho:o∈eat)(hA:∀k,A k->cm H ob eat k)(MQ:∀k,A k->¬H.sub s k):
 cG P U H F w ρ ob n ⟨none, .mapUpdate t m x y,ty,pos,aft,none⟩ {dst:= .dead,eat:=eat,make:=[(o,(n, .dmap T0 K E r (mv K l a z) none))]}:=by
 obtain⟨dd,hd,hK,hR⟩:=rl (F:=F) (w:=w) T hk;have hkv:=hR _ _ sB;obtain⟨v',dz,cn⟩:=hs.obj _ _ _ cU;rw[hv]at dz;obtain rfl:=ajk dz;obtain⟨b,es,clock,B,Dy,hb,eM,G9,nA,_⟩:=cn.ok;have hbF:¬F b:=cn.no b (nA.left b rfl);have hbB:¬B b:=nA.off b rfl
 have hbA:¬A b:=fun h=>MQ b h (nA.left b rfl)
 have MX:∀k,H.sub s k->cm H ob eat k:=fun k hk=>⟨o,ho,s,_,_,cU,hv,hk⟩
 have hax:∀a' o',h=some (a',o')->a'=a:=fun a' o' e=>by subst e;exact AS hh
 have fin:∀o',(ak4 t (.map (some b)) (ev ρ x) (ev ρ y)).run P w= .ok () {w with heap:=w.heap.setIfInBounds b o'}->
  (∀H' w',Step F w F w'->(∀k,B k->w'.heap[k]? =w.heap[k]?)->rc F w' E r (ev ρ y) z A->∃mL na S2,o'= .map mL na/\Stamped mL na/\fQ H' F w' K E r none mL.toList (mv K l a z) S2/\∀k,S2 k->B k\/A k)->
  cG P U H F w ρ ob n ⟨none, .mapUpdate t m x y,ty,pos,aft,none⟩ {dst:= .dead,eat:=eat,make:=[(o,(n, .dmap T0 K E r (mv K l a z) none))]}:=by
  intro o' bw PH;refine cd.unit (w':={w with heap:=w.heap.setIfInBounds b o'}) (by simp[execOp,Dy,bw,aj0]) ?_;have sC:∀k,k≠b->(w.heap.setIfInBounds b o')[k]? =w.heap[k]? :=(heap_set hb).2
  have kR:Step F w F {w with heap:=w.heap.setIfInBounds b o'}:=fun k hk=>⟨hk,sC k fun e=>hbF (e▸hk)⟩
  have MS:∀{S:Nat->Prop},¬S b->∀k,S k->({w with heap:=w.heap.setIfInBounds b o'}:World).heap[k]? =w.heap[k]? :=fun hn k hk=>sC k fun e=>hn (e▸hk)
  obtain⟨mL,na,S2,rfl,g1,g2,g3⟩:=PH H {w with heap:=w.heap.setIfInBounds b o'} kR (MS hbB) (hy.keep kR (MS hbA))
  have PN:¬S2 b:=fun h=>(g3 b h).elim hbB hbA
  refine mo.yR (t':= .dmap T0 K E r (mv K l a z) none) hs cU hv rfl ho (fun k=>is b k\/S2 k) (fun k hk=>?_) ⟨rfl,rfl,rfl,by simp,fun k hk hn=>sC k fun e=>hn (by subst e;exact MX _ (nA.left _ rfl))⟩ ⟨b,mL,na,S2,Dy,(heap_set hb).1,g1,?_,qW.mk' fun k h1 h2=>PN (by rw[<-show k=b from h1];exact h2),fun _ _ e=>by cases e⟩ trivial
  .have hk:is b k\/S2 k:=hk
   rcases hk with hk|hk
   .exact MX k (nA.left k hk)
   .exact(g3 k hk).elim (fun h=>MX k (nA.right k h)) (hA k)
  .exact g2.keep (Step.refl F _) (fun _ _ _ e=>by cases e) fun _ _=>rfl
 obtain⟨r1,r2⟩:=ny (val:=ev ρ y) (T.und_ok _ _ hu) hd hb (hK _ _ hkv)
 have hAB:∀k,A k->¬B k:=fun k hk hB=>MQ k hk (nA.right k hB)
 rcases qC (H:=H) hK hkv hax 0 G9 with⟨a1,a2,a3,a4,_⟩|⟨j,e,z0,a1,a2,a3,a4,a5,_⟩
 .refine fin _ (r1 a1) fun H' w' JY hB Dz=>?_
  obtain⟨S2,b1,b2⟩:=a4 H' F w' z {key:=ev ρ x,val:=ev ρ y,born:=clock} A rfl JY hB Dz hAB;exact⟨_,_,S2,rfl,stamped_push eM a3,by rw[Array.toList_push];exact b1,b2⟩
 .rw[ajO]at a1
  have hj:es[j]? =some e:=by simpa using a2
  refine fin _ (r2 j _ a1 (by rw[hj];exact a3)) fun H' w' JY hB Dz=>?_
  obtain⟨S2,b1,b2⟩:=a5 H' F w' z (fun e=>{e with key:=ev ρ x,val:=ev ρ y}) A rfl JY hB Dz hAB;refine⟨_,_,S2,rfl,stamped_modify eM _ _ (fun _ _=>rfl) (fun e' _ he'=>?_),by rw[Array.toList_modify];exact b1,b2⟩;rw[hj]at he';cases he';exact a3.symm
theorem vz(T:be P){t:TypeId}{M X Y:al}{m x y:Operand}{k:dY->Option R}{q:R}(h:jI T ob n t M X Y k=some q)(hs:au U H F w ob n)(hm:aj H F w M (ev ρ m))(hx:aj H F w X (ev ρ x))(hy:aj H F w Y (ev ρ y)):
 ∃e,k e=some q/\cG P U H F w ρ ob n ⟨none, .mapUpdate t m x y,ty,pos,aft,none⟩ e:=by
 unfold jI at h;split at h
 case h_2=>exact p9 T h hs hm hx hy
 rename_i o;split at h
 case h_2=>exact p9 T h hs hm hx hy
 rename_i s T0 K E r l hh cU;split at h
 case h_2=>cases h
 rename_i kt vt hu;obtain⟨hk,h'⟩:=aG h;clear h;split at h'
 case h_2=>cases h'
 rename_i a ha;split at h'
 case isFalse=>cases h'
 rename_i tF;obtain⟨cs,⟨v,hv,_,e⟩,_,h3⟩:=hm;rw[h3 rfl]at e
 obtain rfl:ev ρ m=v:=by simpa using e
 have sB:=rm hs ha hx;split at h'
 .refine⟨_,h',vy (A:=fun _=>False) T hs cU hv hu hk sB tF ?_ (by simp) (fun _ h=>h.elim) fun _ h=>h.elim⟩;obtain⟨cs,h1,_,h3⟩:=hy;rw[h3 rfl]at h1;have tD:[ev ρ y]=[Value.slice none 0 0]:=h1;rw[show ev ρ y= .slice none 0 0 by simpa using tD];exact⟨jW.nil F w E r,fun k=>by simp[bq,ajV]⟩
 .rename_i o1;split at h'
  case h_2=>cases h'
  rename_i s1 t1 oJ
  cases bP:aju o1 o with
  |true=>rw[bP]at h';cases h'
  |false=>
   rw[bP,cond_false]at h'
   have bP:o≠o1:=fun e=>by rw[e]at bP;simp at bP
   split at h'
   case h_2=>cases h'
   rename_i z hD;obtain rfl:=vr hD;obtain⟨cs,⟨u,CQ,_,e⟩,_,h3⟩:=hy;rw[h3 rfl]at e
   obtain rfl:ev ρ y=u:=by simpa using e
   obtain⟨u',AM,mw⟩:=hs.obj _ _ _ oJ;rw[CQ]at AM;obtain rfl:=ajk AM;exact⟨_,h',vy (A:=bq (ev ρ y)) T hs cU hv hu hk sB tF ⟨mw.ok,fun _=>Iff.rfl⟩ (by simp) (fun k hk=>⟨o1,by simp,s1,_,_,oJ,CQ,hk⟩) fun k hk h2=>hs.apart _ _ _ _ _ _ _ _ bP cU oJ hv CQ k h2 hk⟩
 .cases h'
noncomputable def JZ(ob:Nat->Option (Nat×Th))(n o:Nat):Option dY:=
 match ob o with
 |some (_, .dmap T0 K E r l (some (a,o1)))=>match ob o1 with
  |some (_,t1)=>bif aju o1 o then none else(match PK E (.leaf r) t1 with
   |some y=>some {dst:= .dead,eat:=[o,o1],make:=[(o,(n, .dmap T0 K E r (Hj K l a y) none))]}
   |none=>none)
  |none=>none
 |_=>none
theorem DA(hs:au U H F w ob n){o:Nat}{e:dY}(h:JZ ob n o=some e):kS H F w ob n e undef w:=by
 unfold JZ at h;split at h
 case h_2=>cases h
 rename_i s T0 K E r l a o1 cU;split at h
 case h_2=>cases h
 rename_i s1 t1 oJ
 cases bP:aju o1 o with
 |true=>rw[bP]at h;cases h
 |false=>
  rw[bP,cond_false]at h
  have bP:o≠o1:=fun e=>by rw[e]at bP;simp at bP
  split at h
  case h_2=>cases h
  rename_i y hD;obtain rfl:=ajk h;obtain rfl:=vr hD;obtain⟨v,hv,cn⟩:=hs.obj _ _ _ cU;obtain⟨u,hu,mw⟩:=hs.obj _ _ _ oJ;obtain⟨b,es,clock,B,Dy,hh,eM,G9,nA,_⟩:=cn.ok
  have hA:∀k,bq u k->¬H.sub s k:=fun k hk h2=>hs.apart _ _ _ _ _ _ _ _ bP cU oJ hv hu k h2 hk
  obtain⟨S2,b1,b2⟩:=vw (A0:=bq u) hu ⟨mw.ok,fun _=>Iff.rfl⟩ (fun k hk hB=>hA k hk (nA.right k hB)) G9
  have PN:¬S2 b:=fun h=>(b2 b h).elim (nA.off b rfl) fun h=>hA b h (nA.left b rfl)
  refine mo.yR (t':= .dmap T0 K E r (Hj K l a y) none) hs cU hv rfl (by simp) (fun k=>is b k\/S2 k) (fun k hk=>?_) ⟨rfl,rfl,rfl,ajo _,fun _ _ _=>rfl⟩ ⟨b,es,clock,S2,Dy,hh,eM,b1 _,qW.mk' fun k h1 h2=>PN (by rw[<-show k=b from h1];exact h2),fun _ _ e=>by cases e⟩ trivial;have hk:is b k\/S2 k:=hk
  have MX:∀k,H.sub s k->cm H ob [o,o1] k:=fun k hk=>⟨o,by simp,s,_,_,cU,hv,hk⟩
  rcases hk with hk|hk
  .exact MX k (nA.left k hk)
  .exact(b2 k hk).elim (fun h=>MX k (nA.right k h)) fun h=>⟨o1,by simp,s1,_,_,oJ,hu,h⟩
noncomputable def J0(ob:Nat->Option (Nat×Th))(n o:Nat):Option dY:=
 match JW ob n o with
 |some e=>some e
 |none=>JZ ob n o
theorem DB(hs:au U H F w ob n){o:Nat}{e:dY}(h:J0 ob n o=some e):kS H F w ob n e undef w:=by
 unfold J0 at h;split at h
 .rename_i e' he;cases h;exact Hf hs he
 .exact DA hs h
theorem DR.sF:(d:DR)->d.low.eL=d.row.eL
 | .leaf _=>rfl
 | .sl _ _=>rfl
 | .pair a b=>by show a.low.eL++b.low.eL=a.row.eL++b.row.eL;rw[a.sF,b.sF]
theorem J1{α β:Type}{l m out:List α}{lx ly:List β}(h:bZ l m=some out)(h1:lx.length=l.length)(h2:ly.length=m.length):bZ lx ly=some (lx++ly)/\out=l++m:=by
 unfold bZ at h⊢;split at h
 case isFalse=>cases h
 rename_i hle;exact⟨by rw[if_pos (by omega)],(ajk h).symm⟩
theorem tH(T:be P){t e:TypeId}{r:Row}(hu:find T.und t=some (.slice e))(hr:find T.row e=some r){dr:DR}(jE:dr.row=r){x y:Operand}{l m out:List dr.row.den}{Sx:Nat->Prop}{eat:List Nat}{o2 s2:Nat}
 (hs:au U H F w ob n)(hx:GL F w e dr.low (fun _=>jU F w dr) (ev ρ x) l Sx)(WD:∀k,Sx k->¬F k)(hxe:∀k,Sx k->cm H ob eat k)(Jp:∀k,Sx k->k<w.heap.size)
 (uf:ob o2=some (s2, .deep e dr m none))(uS:H.val o2=some (ev ρ y))(ho2:o2∈eat)(rp:∀k,Sx k->¬H.sub s2 k)(ha:bZ l m=some out):
 cG P U H F w ρ ob n ⟨some d, .call {callee:= .builtin .append,args:= #[x,y],argTypes:= #[t,t]},ty,pos,aft,none⟩ {dst:= .val false (.own n),eat:=eat,make:=[(n,(n, .deep e dr out none))]}:=by
 obtain⟨lx,Vy,PB,R7,hrx,DC⟩:=hx;obtain⟨ly,Sy,hoy,Vr,hry,PO⟩:=hs.low uf uS;obtain⟨v2,GH,MY⟩:=hs.obj _ _ _ uf;rw[uS]at GH;obtain rfl:=ajk GH;obtain⟨Aj,rfl⟩:=J1 ha R7 Vr;obtain⟨ti,z,h1,h2,h3,h4,h5⟩:=T.row_ok _ _ hr;have ht:=T.und_ok _ _ hu;subst jE;obtain⟨v',w',bw,bU,iY,hm⟩:=uR ty ht h1 h2 (h3.trans dr.sF.symm) (h4.trans dr.size.symm) h5 (base:=0) (l:=lx) ⟨fun k hk=>WD k (DC.bq k hk),PB⟩ hoy.reads Aj hs.lt (ajI _)
 have eM:Step F w F w':=Step.ext bU hs.lt fun k hk=>WD k (DC.bq k hk)
 have SF:∀k,H.sub s2 k->cm H ob eat k:=fun k hk=>⟨o2,ho2,s2,_,_,uf,uS,hk⟩
 have SG:∀i,i<l.length->∀k,Vy i k->w'.heap[k]? =w.heap[k]? :=fun i hi k hk=>bU.block k (Jp k (DC.part hi k hk)) (DC.out i k hi hk)
 have SH:∀i,i<m.length->∀k,Sy i k->w'.heap[k]? =w.heap[k]? :=fun i hi k hk=>bU.block k (MY.lt k (PO.part hi k hk)) fun J2=>rp k (DC.bq k J2) (PO.part hi k hk)
 have hlen:(l++m).length=l.length+m.length:=ajm
 have Dy:∀k,bq v' k->(Sx k/\bq (ev ρ x) k)\/k=w.heap.size:=by
  intro k hk
  rcases hm with g|g
  .rw[g]at hk;exact .inl ⟨DC.bq k hk,hk⟩
  .rw[g]at hk;exact .inr hk.symm
 let SS:Nat->Nat->Prop:=fun i=>if i<l.length then Vy i else Sy (i-l.length)
 have RC:∀i k,i<l.length->SS i k->Vy i k:=fun i k hi hk=>by simpa only[SS,if_pos hi]using hk
 have RD:∀i k,¬i<l.length->SS i k->Sy (i-l.length) k:=fun i k hi hk=>by simpa only[SS,if_neg hi]using hk
 have hSS:∀i k,i<(l++m).length->SS i k->Sx k\/H.sub s2 k:=by
  intro i k hi hk;by_cases ao:i<l.length
  .exact .inl (DC.part ao k (RC i k ao hk))
  .exact .inr (PO.part (by omega) k (RD i k ao hk))
 have kN:v'.oneCell'=true:=jW.one (T:=e) (r:=dr.low) iY.2;refine cd.val (v:=v') (w':=w') (by simp[execOp,resolve,invoke,builtin,bw]) (mo.PM (t:= .deep e dr (l++m) none) (S:=qz (bq v') SS (l++m).length) hs rfl kN ⟨bU.os,bU.tape,bU.output,bU.size,fun k hk hn=>bU.block k hk fun R8=>hn (hxe k (DC.bq k R8))⟩ ?_ (fun k hk=>?_) (mP (o:=n) (v:=v') (by simp[aq.cW]) kN))
 .refine⟨lx++ly,SS,iY.2,by simp[R7,Vr],fun i a b=>?_,⟨fun k=>Iff.rfl,fun i j k hi hj bP hk dO=>?_,fun i k hi hk R8=>?_⟩⟩
  .show jU F w' dr (lx++ly)[i] (l++m)[i] (SS i)
   by_cases ao:i<l.length
   .have e1:(lx++ly)[i]=lx[i]'(by omega):=ajv (by omega);have e2:(l++m)[i]=l[i]:=ajv ao
    have e3:SS i=Vy i:=by simp only[SS,if_pos ao]
    rw[e1,e2,e3];exact jU.keep eM (hrx i (by omega) ao) (SG i ao)
   .have e1:(lx++ly)[i]=ly[i-l.length]'(by simp at a;omega):=by rw[ajA (by omega)];simp only[R7]
    have e2:(l++m)[i]=m[i-l.length]'(by omega):=ajA (by omega)
    have e3:SS i=Sy (i-l.length):=by simp only[SS,if_neg ao]
    rw[e1,e2,e3];exact jU.keep eM (hry (i-l.length) _ (by omega)) (SH _ (by omega))
  .by_cases h1:i<l.length<;>by_cases h2:j<l.length
   .exact DC.two i j k h1 h2 bP (RC i k h1 hk) (RC j k h2 dO)
   .exact rp k (DC.part h1 k (RC i k h1 hk)) (PO.part (by omega) k (RD j k h2 dO))
   .exact rp k (DC.part h2 k (RC j k h2 dO)) (PO.part (by omega) k (RD i k h1 hk))
   .exact PO.two (i-l.length) (j-l.length) k (by omega) (by omega) (by omega) (RD i k h1 hk) (RD j k h2 dO)
  .rcases Dy k R8 with⟨g1,g2⟩|g
   .by_cases h1:i<l.length
    .exact DC.out i k h1 (RC i k h1 hk) g2
    .exact rp k g1 (PO.part (by omega) k (RD i k h1 hk))
   .rcases hSS i k hi hk with h1|h1
    .have:=Jp k h1;omega
    .have:=MY.lt k h1;omega
 .have hk:qz (bq v') SS (l++m).length k:=hk
  have fin:Sx k\/H.sub s2 k->¬F k/\k<w'.heap.size/\(w.heap.size<=k\/cm H ob eat k):=by
   rintro(h1|h1)
   .exact⟨WD k h1,aj7 (Jp k h1) bU.size, .inr (hxe k h1)⟩
   .exact⟨MY.no k h1,aj7 (MY.lt k h1) bU.size, .inr (SF k h1)⟩
  rcases hk with hk|⟨i,hi,hk⟩
  .rcases Dy k hk with⟨g,_⟩|g
   .exact fin (.inl g)
   .exact⟨fun e=>by have:=hs.lt k e;omega,iY.lt k hk, .inl (by omega)⟩
  .exact fin (hSS i k hi hk)
def rq(T:be P)(ob:Nat->Option (Nat×Th))(n:Nat)(t:TypeId)(X Y:al)(k:dY->Option R):Option R:=
 match find T.und t with
 |some (.slice e)=>match find T.row e with
  |some r=>match Y with
   | .val false (.own o2)=>match ob o2 with
     |some (_, .deep T2 d2 m none)=>bif aju T2 e&&d2.row.beq r then(match X with
      | .val false .nil=>(bZ ([]:List d2.row.den) m).bind fun l=>k {dst:= .val false (.own n),eat:=[o2],make:=[(n,(n, .deep e d2 l none))]}
      | .val false (.own o1)=>match ob o1 with
        |some (_, .deep T1 d1 l0 none)=>bif aju o1 o2 then none else bif aju T1 e then(if h:d1.beq d2=true then(bZ (DR.eq_of_beq h▸l0) m).bind fun l=>k {dst:= .val false (.own n),eat:=[o1,o2],make:=[(n,(n, .deep e d2 l none))]}else none)else none
        |_=>none
      |_=>none)else none
     |_=>none
   |_=>none
  |none=>none
 |_=>none
theorem AW(T:be P){t:TypeId}{X Y:al}{x y:Operand}{k:dY->Option R}{q:R}(h:rq T ob n t X Y k=some q)(hs:au U H F w ob n)(hx:aj H F w X (ev ρ x))(hy:aj H F w Y (ev ρ y)):
 ∃e,k e=some q/\cG P U H F w ρ ob n ⟨some d, .call {callee:= .builtin .append,args:= #[x,y],argTypes:= #[t,t]},ty,pos,aft,none⟩ e:=by
 unfold rq at h;split at h
 case h_2=>cases h
 rename_i e hu;split at h
 case h_2=>cases h
 rename_i r hr;split at h
 case h_2=>cases h
 rename_i o2;split at h
 case h_2=>cases h
 rename_i s2 T2 d2 m uf;obtain⟨hc,h'⟩:=aG h;clear h;obtain⟨As,uv⟩:=cV hc;obtain rfl:=beq_true As;have jE:=Row.eq_of_beq uv;obtain⟨cs,⟨u,MD,_,e2⟩,_,h3⟩:=hy;rw[h3 rfl]at e2
 obtain rfl:ev ρ y=u:=by simpa using e2
 split at h'
 .obtain⟨l,hl,hk⟩:=bind_some h';refine⟨_,hk,tH (Sx:=fun _=>False) T hu hr jE hs ?_ (fun _ h=>h.elim) (fun _ h=>h.elim) (fun _ h=>h.elim) uf MD (by simp) (fun _ h=>h.elim) hl⟩;obtain⟨cs,h1,_,h4⟩:=hx;rw[h4 rfl]at h1;have tD:[ev ρ x]=[Value.slice none 0 0]:=h1;rw[show ev ρ x= .slice none 0 0 by simpa using tD];exact⟨[],fun _ _=>False,jW.nil F w T2 d2.low,rfl,fun i h=>absurd h (by simp),⟨fun k=>by simp[bq,ajV],fun _ _ _ h=>absurd h (by simp),fun _ _ h=>absurd h (by simp)⟩⟩
 .rename_i o1;split at h'
  case h_2=>cases h'
  rename_i s1 T1 d1 l0 oJ
  cases bP:aju o1 o2 with
  |true=>rw[bP]at h';cases h'
  |false=>
   rw[bP,cond_false]at h'
   have bP:o1≠o2:=fun e=>by rw[e]at bP;simp at bP
   obtain⟨hT,h⟩:=aG h';clear h';obtain rfl:=beq_true hT;split at h
   case isFalse=>cases h
   rename_i hb;obtain rfl:=DR.eq_of_beq hb;obtain⟨l,hl,hk⟩:=bind_some h;obtain⟨cs,⟨v,uy,_,e1⟩,_,h4⟩:=hx;rw[h4 rfl]at e1
   obtain rfl:ev ρ x=v:=by simpa using e1
   obtain⟨v',dz,mw⟩:=hs.obj _ _ _ oJ;rw[uy]at dz;obtain rfl:=ajk dz;exact⟨_,hk,tH (Sx:=H.sub s1) T hu hr jE hs mw.ok mw.no (fun k hk=>⟨o1,by simp,s1,_,_,oJ,uy,hk⟩) mw.lt uf MD (by simp) (fun k hk=>hs.apart _ _ _ _ _ _ _ _ bP oJ uf uy MD k hk) hl⟩
 .cases h'
def J3(ob:Nat->Option (Nat×Th)):al->Bool
 | .val false (.own o)=>match ob o with
   |some (_, .deep ..)=>true
   |_=>false
 |_=>false
def nB(T:be P)(ob:Nat->Option (Nat×Th))(n:Nat)(t:TypeId)(X Y:al)(k:dY->Option R):Option R:=
 bif J3 ob Y then rq T ob n t X Y k else pD T ob n t X Y k
theorem AX(T:be P){t:TypeId}{X Y:al}{x y:Operand}{k:dY->Option R}{q:R}(h:nB T ob n t X Y k=some q)(hs:au U H F w ob n)(hx:aj H F w X (ev ρ x))(hy:aj H F w Y (ev ρ y)):
 ∃e,k e=some q/\cG P U H F w ρ ob n ⟨some d, .call {callee:= .builtin .append,args:= #[x,y],argTypes:= #[t,t]},ty,pos,aft,none⟩ e:=by
 unfold nB at h
 cases hb:J3 ob Y with
 |true=>rw[hb,cond_true]at h;exact AW T h hs hx hy
 |false=>rw[hb,cond_false]at h;exact Dk T h hs hx hy
end
end Go.Proofs.YtmihpkfkbfgigaaGreatDoor
end
section
open _root_.List renaming append_assoc->ajH,length_cons->ajy
open _root_.Nat renaming beq->aju,blt->akf,eq_of_beq_eq_true->akb,le_refl->ajo
open _root_.Option renaming none_or->aku
open _root_.Option.some renaming inj->ajk,injEq->ajx
open _root_.Prod.mk renaming injEq->akl
open _root_.Go.Value renaming ownBlock->ajV
namespace Go.Proofs.YtmihpkfkbfgigaaGreatDoor
open Go Go.RowKit
def eN(objs:List (Nat×(Nat×Th))):List Nat->Option (List (Nat×(Nat×Th)))
 |[]=>some objs
 |o::os=>match find objs o with
  |some (s, .own T r l)=>eN ((o,(s, .sj T r l))::del [o] objs) os
  |some (s, .map T K agg V l)=>eN ((o,(s, .fmap T K agg V l))::del [o] objs) os
  |some (s, .deep T d l none)=>eN ((o,(s, .fdeep T d l))::del [o] objs) os
  |some (s, .dmap T K E r l none)=>eN ((o,(s, .fdmap T K E r l))::del [o] objs) os
  |some (_, .sj ..)=>eN objs os
  |some (_, .fmap ..)=>eN objs os
  |some (_, .fdeep ..)=>eN objs os
  |some (_, .fdmap ..)=>eN objs os
  |_=>none
def dZ:Th->Bool
 | .sj .. =>true
 | .fmap .. =>true
 | .fdeep .. =>true
 | .fdmap .. =>true
 |_=>false
structure RE(t t':Th):Prop where
 froz:dZ t'=true
 base:t'.base=t.base
 fp:∀S v k,¬fp S v t' k
 ok:∀{H:aq}{F:Nat->Prop}{w:World}{S:Nat->Prop}{v:Value},(∀k,Go.Proofs.YtmihpkfkbfgigaaGreatDoor.fp S v t k->¬F k)->iE H F w S v t->iE H (fun b=>F b\/Go.Proofs.YtmihpkfkbfgigaaGreatDoor.fp S v t b) w S v t'
structure cB(H:aq)(F:Nat->Prop)(w:World)(H':aq)(F':Nat->Prop)(w':World):Prop where
 iZ:H.le H'
 step:Step F w F' w'
theorem cB.refl(H:aq)(F:Nat->Prop)(w:World):cB H F w H F w:=⟨aq.le.refl H,Step.refl F w⟩
theorem cB.trans{H H' sq:aq}{F F' AY:Nat->Prop}{w w' tE:World}(h:cB H F w H' F' w')(k:cB H' F' w' sq AY tE):cB H F w sq AY tE:=⟨h.iZ.trans k.iZ,h.step.trans k.step⟩
structure J4(G:Nat->Prop)(w0:World)(F0:Nat->Prop)(w:World)(F:Nat->Prop):Prop where
 ext:Ext G w0 w
 le:∀b,F0 b->F b
 new:∀b,F b->F0 b\/w0.heap.size<=b\/G b
section
variable {U:Nat->Prop} {H:aq} {F:Nat->Prop} {w:World} {n:Nat}
theorem MZ(T:TypeId)(r:Row)(l:List r.den):RE (.own T r l) (.sj T r l) where
 froz:=rfl
 base:=rfl
 fp _ _ _ h:=h
 ok hn h:=jf.freeze (base:=0) (T:=T) (l:=l) ⟨hn,h⟩
theorem M0(T:TypeId)(K:Row)(agg:Bool)(V:Row)(l:List (K.den×V.den)):RE (.map T K agg V l) (.fmap T K agg V l) where
 froz:=rfl
 base:=rfl
 fp _ _ _ h:=h
 ok {H F w S v} _ h:=by
  obtain⟨b,es,clock,h1,h2,h3,h4⟩:=h;obtain⟨g1,g2⟩:=E5 h4;refine⟨v,rfl, .inr ⟨b,es,clock,h1, .inr h1,h2,h3,by simpa using g1,fun i hi=>?_⟩⟩;obtain⟨e,cs,q1,q2,q3,q4,q5⟩:=g2 i hi;exact⟨e,cs,by simpa using q1,q2,q3.step (Step.freeze F w _),q4,q5⟩
theorem jW.jE{F:Nat->Prop}{w:World}{T:TypeId}{r:Row}{v:Value}{l:List r.den}(h:jW F w T r v l):cD F w .jE [v] v:=by
 obtain⟨xs,⟨_,h⟩,_⟩:=h
 rcases h with⟨rfl,_⟩|⟨gg,o0,cap,cur,rfl,_⟩<;>exact⟨rfl,_,_,_,rfl⟩
theorem J5(T:TypeId)(d:DR)(l:List d.row.den):RE (.deep T d l none) (.fdeep T d l) where
 froz:=rfl
 base:=rfl
 fp _ _ _ h:=h
 ok {H F w S v} hn h:=by
  have h':jU F w (.sl T d) v l S:=h;obtain⟨lh,Ss,h1,_⟩:=h;exact jU.freeze h' hn h1.jE
theorem J6(T:TypeId)(K:Row)(E:TypeId)(r:Row)(l:List (K.den×List r.den)):RE (.dmap T K E r l none) (.fdmap T K E r l) where
 froz:=rfl
 base:=rfl
 fp _ _ _ h:=h
 ok {H F w S v} hn h:=by
  obtain⟨b,es,clock,B,h1,h2,h3,h4,h5,_⟩:=h;obtain⟨g1,g2⟩:=AU h4;refine⟨v,rfl, .inr ⟨b,es,clock,h1, .inr (h5.left b rfl),h2,h3,by simpa using g1,fun i hi=>?_⟩⟩;obtain⟨e,A,q1,q2,q3,q4⟩:=g2 i hi
  have MQ:∀k,A k->S k:=fun k hk=>h5.right k (q4 k hk)
  have hf:=jf.freeze (base:=0) (T:=E) (l:=l[i].2) ⟨fun k hk=>hn k (MQ k ((q3.2 k).2 hk)),q3.1⟩;exact⟨e,[e.val],by simpa using q1,q2,hf.step (r:= .slice r) fun k hk=>⟨hk.imp id fun h=>MQ k ((q3.2 k).2 h),rfl⟩,rfl,fun _=>rfl⟩
theorem M1{objs:List (Nat×(Nat×Th))}{o s:Nat}{t0 t1:Th}(hf:RE t0 t1)(hs:au U H F w (find objs) n)(ho:find objs o=some (s,t0)):
 ∃F',au U H F' w (find ((o,(s,t1))::del [o] objs)) n/\(∀b,F b->F' b)/\(∀b,F' b->F b\/∃v,H.val o=some v/\fp (H.sub s) v t0 b):=by
 obtain⟨v,hv,cn⟩:=hs.obj _ _ _ ho;refine⟨fun b=>F b\/fp (H.sub s) v t0 b,?_,fun _ h=> .inl h,fun b hb=>hb.imp id fun hm=>⟨v,hv,hm⟩⟩
 have part:∀o' s' t',find ((o,(s,t1))::del [o] objs) o'=some (s',t')->(o'=o/\s'=s/\t'=t1)\/(o'≠o/\find objs o'=some (s',t')):=by
  intro o' s' t' h;rw[aD]at h;split at h
  .rename_i e;simp only[ajx,akl]at h;exact .inl ⟨e.symm,h.1.symm,h.2.symm⟩
  .rename_i e;exact .inr ⟨fun e'=>e e'.symm,(gU.1 h).2⟩
 have fz:Step F w (fun b=>F b\/fp (H.sub s) v t0 b) w:=Step.freeze F w _;refine⟨fun o' s' t' h=>?_,fun o1 o2 s1 s2 t1' t2 v1 v2 bP h1 h2 e1 e2 k hk dO=>?_,hs.fresh,fun b hb=>hb.elim (hs.lt b) (cn.lt b),hs.new,hs.gl.step fz⟩
 .rcases part o' s' t' h with⟨rfl,rfl,rfl⟩|⟨bP,h'⟩
  .exact⟨v,hv,cn.one,by rw[hf.base];exact cn.con,hf.ok cn.no cn.ok,fun k hk=>(hf.fp _ _ _ hk).elim,fun k hk=>(hf.fp _ _ _ hk).elim,fun k hk=>(hf.fp _ _ _ hk).elim⟩
  .obtain⟨v',dz,AZ⟩:=hs.obj _ _ _ h';refine⟨v',dz,AZ.one,AZ.con,AZ.ok.heap (aq.le.refl H) fz fun _ _=>rfl,fun k hk hF=>?_,AZ.lt,AZ.use⟩
   rcases hF with hF|hF
   .exact AZ.no k hk hF
   .exact hs.apart _ _ _ _ _ _ _ _ bP h' ho dz hv k hk hF
 .rcases part o1 s1 t1' h1 with⟨rfl,rfl,rfl⟩|⟨aeb,tD⟩
  .exact hf.fp _ _ _ hk
  .rcases part o2 s2 t2 h2 with⟨rfl,rfl,rfl⟩|⟨aec,Jt⟩
   .exact hf.fp _ _ _ dO
   .exact hs.apart _ _ _ _ _ _ _ _ bP tD Jt e1 e2 k hk dO
theorem nC:{os:List Nat}->{F:Nat->Prop}->{objs mQ:List (Nat×(Nat×Th))}->eN objs os=some mQ->au U H F w (find objs) n->
 ∃F',au U H F' w (find mQ) n/\(∀b,F b->F' b)/\(∀b,F' b->F b\/cm H (find objs) os b)
 |[],F,objs,mQ,h,hs=>by obtain rfl:=ajk h;exact⟨F,hs,fun _ h=>h,fun _ h=> .inl h⟩
 |o::os,F,objs,mQ,h,hs=>by
  have main:∀s t t',RE t t'->find objs o=some (s,t)->eN ((o,(s,t'))::del [o] objs) os=some mQ->
   ∃F',au U H F' w (find mQ) n/\(∀b,F b->F' b)/\(∀b,F' b->F b\/cm H (find objs) (o::os) b):=by
   intro s t t' hf ho h;obtain⟨F1,a1,a2,a3⟩:=M1 hf hs ho;obtain⟨F2,b1,b2,b3⟩:=nC h a1;refine⟨F2,b1,fun b hb=>b2 b (a2 b hb),fun b hb=>?_⟩
   rcases b3 b hb with h1|⟨o',kO,s',t',v,h1,h2,h3⟩
   .rcases a3 b h1 with h2|⟨v,hv,hm⟩
    .exact .inl h2
    .exact .inr ⟨o,by simp,s,_,v,ho,hv,hm⟩
   .rw[aD]at h1;split at h1
    .simp only[ajx,akl]at h1;rw[<-h1.2]at h3;exact(hf.fp _ _ _ h3).elim
    .exact .inr ⟨o',by simp[kO],s',t',v,(gU.1 h1).2,h2,h3⟩
  have same:eN objs os=some mQ->∃F',au U H F' w (find mQ) n/\(∀b,F b->F' b)/\(∀b,F' b->F b\/cm H (find objs) (o::os) b):=by
   intro h;obtain⟨F2,b1,b2,b3⟩:=nC h hs;exact⟨F2,b1,b2,fun b hb=>(b3 b hb).imp id fun⟨o',kO,rest⟩=>⟨o',by simp[kO],rest⟩⟩
  unfold eN at h;split at h
  .rename_i ho;exact main _ _ _ (MZ ..) ho h
  .rename_i ho;exact main _ _ _ (M0 ..) ho h
  .rename_i ho;exact main _ _ _ (J5 ..) ho h
  .rename_i ho;exact main _ _ _ (J6 ..) ho h
  .exact same h
  .exact same h
  .exact same h
  .exact same h
  .cases h
end
theorem gE{S:Nat->Prop}{v:Value}{t:Th}{k:Nat}(h:dZ t=true)(hk:fp S v t k):False:=by
 cases t<;>first|(exact hk)|(cases h)
theorem hZ:{os:List Nat}->{objs mQ:List (Nat×(Nat×Th))}->eN objs os=some mQ->∀o s t,find mQ o=some (s,t)->
 find objs o=some (s,t)\/dZ t=true
 |[],objs,mQ,h,o,s,t,ho=>by obtain rfl:=ajk h;exact .inl ho
 |o0::os,objs,mQ,h,o,s,t,ho=>by
  have main:∀s0 t1,dZ t1=true->eN ((o0,(s0,t1))::del [o0] objs) os=some mQ->find objs o=some (s,t)\/dZ t=true:=by
   intro s0 t1 hf h
   rcases hZ h o s t ho with h1|g
   .rw[aD]at h1;split at h1
    .simp only[ajx,akl]at h1;obtain⟨rfl,rfl⟩:=h1;exact .inr hf
    .exact .inl (gU.1 h1).2
   .exact .inr g
  unfold eN at h;split at h
  .exact main _ _ rfl h
  .exact main _ _ rfl h
  .exact main _ _ rfl h
  .exact main _ _ rfl h
  .exact hZ h o s t ho
  .exact hZ h o s t ho
  .exact hZ h o s t ho
  .exact hZ h o s t ho
  .cases h
inductive Sh where
 |leaf (r:Row)
 |own (j:Nat)
 |nil
 |pair (a b:Sh)
 |junk (n:Nat)
inductive SS where
 |val (agg:Bool) (t:Sh)
 |ptr (j:Nat) (p:List Bool) (off:Nat)
 |at (r:Row)
 |undef
 |fn (f:FuncId) (js:List (Nat×List Bool×Nat))
 |ifc (T:TypeId) (s:SS)
inductive OS where
 |box (T:TypeId) (t:Sh)
 |own (T:TypeId) (r:Row)
 |map (T:TypeId) (K:Row) (agg:Bool) (V:Row)
 |deep (T:TypeId) (d:DR)
 |dmap (T:TypeId) (K:Row) (E:TypeId) (r:Row)
structure JS where
 ai:List (Nat×SS)
 objs:List (Nat×OS):=[]
 drop:List Nat:=[]
 nxt:Nat
def Sh.rows:Sh->List Row
 | .leaf r=>[r]
 | .own _=>[]
 | .nil=>[]
 | .pair a b=>a.rows++b.rows
 | .junk _=>[]
def SS.rows:SS->List Row
 | .val _ t=>t.rows
 | .ptr .. =>[]
 | .at r=>[r]
 | .undef=>[]
 | .fn .. =>[]
 | .ifc _ s=>s.rows
def OS.rows:OS->List Row
 | .box _ t=>t.rows
 | .own _ r=>[.slice r]
 | .map _ K _ V=>[.slice (.pair K V)]
 | .deep _ d=>[.slice d.row]
 | .dmap _ K _ r=>[.slice (.pair K (.slice r))]
def A3:List (Nat×SS)->List Row
 |[]=>[]
 |p::l=>p.2.rows++A3 l
def E7:List (Nat×OS)->List Row
 |[]=>[]
 |p::l=>p.2.rows++E7 l
def JS.rows(J:JS):List Row:=A3 J.ai++E7 J.objs
abbrev kM:=(r:Row)×r.den
@[reducible] def cz:List Row->Type
  |[]=>Unit
  |[r]=>r.den
  |r::s::rs=>r.den×cz (s::rs)
def dA:(rs:List Row)->cz rs->List kM
 |[],_=>[]
 |[r],x=>[⟨r,x⟩]
 |r::s::rs,x=>⟨r,x.1⟩::dA (s::rs) x.2
def A4:(rs:List Row)->List kM->Option (cz rs)
 |[],[]=>some ()
 |[r],[⟨s,x⟩]=>if h:s.beq r=true then some (iP (Row.eq_of_beq h) x)else none
 |r::r'::rs,⟨s,x⟩::vs=>if h:s.beq r=true then(match A4 (r'::rs) vs with
  |some y=>some (iP (Row.eq_of_beq h) x,y)
  |none=>none)else none
 |_,_=>none
theorem xK{r s:Row}(h:s=r)(x:s.den):(⟨r,iP h x⟩:kM)=⟨s,x⟩:=by subst h;rfl
theorem tI:{rs:List Row}->{vs:List kM}->{x:cz rs}->A4 rs vs=some x->dA rs x=vs
 |[],[],x,_=>rfl
 |[],_::_,_,h=>by cases h
 |[r],[],_,h=>by cases h
 |[r],[⟨s,x⟩],y,h=>by
  unfold A4 at h;split at h
  .rename_i hb;obtain rfl:=ajk h
   show[(⟨r,_⟩:kM)]=_
   rw[xK]
  .cases h
 |[r],_::_::_,_,h=>by cases h
 |r::r'::rs,[],_,h=>by cases h
 |r::r'::rs,⟨s,x⟩::vs,y,h=>by
  unfold A4 at h;split at h
  .rename_i hb;split at h
   .rename_i z hz;obtain rfl:=ajk h;have:=tI hz
    show(⟨r,_⟩:kM)::dA (r'::rs) z=_
    rw[xK,this]
   .cases h
  .cases h
def ow:Sh->List kM->Tree×List kM
 | .leaf r,⟨s,x⟩::vs=>(bif s.beq r then .leaf s x else .nil,vs)
 | .leaf _,[]=>(.nil,[])
 | .own j,vs=>(.own j,vs)
 | .nil,vs=>(.nil,vs)
 | .pair a b,vs=>(.pair (ow a vs).1 (ow b (ow a vs).2).1,(ow b (ow a vs).2).2)
 | .junk n,vs=>(.junk n,vs)
def ey:SS->List kM->al×List kM
 | .val agg t,vs=>(.val agg (ow t vs).1,(ow t vs).2)
 | .ptr j p off,vs=>(.ptr j p off,vs)
 | .at r,⟨s,x⟩::vs=>(bif s.beq r then .at s x else .dead,vs)
 | .at _,[]=>(.dead,[])
 | .undef,vs=>(.undef,vs)
 | .fn f js,vs=>(.fn f js,vs)
 | .ifc T s,vs=>(.ifc T (ey s vs).1,(ey s vs).2)
def dg:List (Nat×SS)->List kM->List (Nat×al)×List kM
 |[],vs=>([],vs)
 |(t,s)::l,vs=>((t,(ey s vs).1)::(dg l (ey s vs).2).1,(dg l (ey s vs).2).2)
def cr:OS->List kM->Th×List kM
 | .box T t,vs=>(.box T (ow t vs).1,(ow t vs).2)
 | .own T r,⟨.slice s,l⟩::vs=>(bif s.beq r then .own T s l else .own T r [],vs)
 | .own T r,vs=>(.own T r [],vs)
 | .map T K agg V,⟨.slice (.pair K' V'),l⟩::vs=>(if h:K'.beq K=true/\V'.beq V=true then .map T K agg V (iP (r:= .slice (.pair K' V')) (s:= .slice (.pair K V)) (by rw[Row.eq_of_beq h.1,Row.eq_of_beq h.2]) l)else .map T K agg V [],vs)
 | .map T K agg V,vs=>(.map T K agg V [],vs)
 | .deep T d,⟨.slice s,l⟩::vs=>(if h:s.beq d.row=true then .deep T d (iP (r:= .slice s) (s:= .slice d.row) (congrArg Row.slice (Row.eq_of_beq h)) l) none else .deep T d [] none,vs)
 | .deep T d,vs=>(.deep T d [] none,vs)
 | .dmap T K E r,⟨.slice (.pair K' (.slice s)),l⟩::vs=>(if h:K'.beq K=true/\s.beq r=true then .dmap T K E r (iP (r:= .slice (.pair K' (.slice s))) (s:= .slice (.pair K (.slice r))) (by rw[Row.eq_of_beq h.1,Row.eq_of_beq h.2]) l) none else .dmap T K E r [] none,vs)
 | .dmap T K E r,vs=>(.dmap T K E r [] none,vs)
def ic(m:Nat):List (Nat×OS)->List kM->List (Nat×(Nat×Th))
 |[],_=>[]
 |(j,s)::l,vs=>(j,(m,(cr s vs).1))::ic (m+1) l (cr s vs).2
abbrev Bs:=List (Nat×Option Nat)
def DD:Option Nat->Option Nat->Bool
 |some a,some b=>aju a b
 |none,none=>true
 |_,_=>false
theorem xL{a b:Option Nat}(h:DD a b=true):a=b:=by
 cases a<;>cases b<;>first|rfl|cases h|(rw[beq_true h])
def xM(bs:Bs)(j:Nat)(v:Option Nat):Option Bs:=
 match find bs j with
 |none=>some ((j,v)::bs)
 |some u=>bif DD u v then some bs else none
def CU(ob:Nat->Option (Nat×Th)):Sh->Tree->Bs->Option (List kM×Bs)
 | .leaf r,t,bs=>match flat ob r t with
   |some x=>some ([⟨r,x⟩],bs)
   |none=>none
 | .own j, .own o,bs=>match xM bs j (some o)with
   |some ga=>some ([],ga)
   |none=>none
 | .own j, .nil,bs=>match xM bs j none with
   |some ga=>some ([],ga)
   |none=>none
 | .nil, .nil,bs=>some ([],bs)
 | .junk n,t,bs=>bif aju t.size n then some ([],bs)else none
 | .pair a b,t,bs=>match t.split with
   |some (x,y)=>match CU ob a x bs with
    |some (vs,DE)=>match CU ob b y DE with
     |some (us,E8)=>some (vs++us,E8)
     |none=>none
    |none=>none
   |none=>none
 |_,_,_=>none
def sG:List (Nat×List Bool×Nat)->List (Nat×List Bool×Nat)->Bs->Option Bs
 |[],[],bs=>some bs
 |(j,_,off)::js,(o,_,dI)::cs,bs=>bif aju off dI then(match xM bs j (some o)with
  |some ga=>sG js cs ga
  |none=>none)else none
 |_,_,_=>none
def J7(ob:Nat->Option (Nat×Th))(s:SS)(d:al)(bs:Bs):Option (List kM×Bs):=
 match s,d with
 | .val agg sh, .val lp t=>bif (bif agg then lp else !lp)then CU ob sh t bs else none
 | .ptr j _ off, .ptr o _ dI=>bif aju off dI then(match xM bs j (some o)with
   |some ga=>some ([],ga)
   |none=>none)else none
 | .at r, .at s x=>if h:s.beq r=true then some ([⟨r,iP (Row.eq_of_beq h) x⟩],bs)else none
 | .undef, .undef=>some ([],bs)
 | .fn f js, .fn f' cs=>bif aju f f' then(match sG js cs bs with
   |some ga=>some ([],ga)
   |none=>none)else none
 |_,_=>none
def Hk(ob:Nat->Option (Nat×Th)):SS->al->Bs->Option (List kM×Bs)
 | .ifc T s,d,bs=>match d with
   | .ifc T' d'=>bif aju T T' then Hk ob s d' bs else none
   |_=>none
 |s,d,bs=>J7 ob s d bs
def RF(ob:Nat->Option (Nat×Th))(ai:List (Nat×al)):List (Nat×SS)->Bs->Option (List kM×Bs)
 |[],bs=>some ([],bs)
 |(t,s)::l,bs=>match find ai t with
  |some d=>match Hk ob s d bs with
   |some (vs,DE)=>match RF ob ai l DE with
    |some (us,E8)=>some (vs++us,E8)
    |none=>none
   |none=>none
  |none=>none
def J8(ob:Nat->Option (Nat×Th))(j:Nat)(s:OS)(bs:Bs):Option (List kM×Bs):=
 match find bs j with
 |some (some o)=>match ob o with
  |some (_,t)=>match s,t with
   | .own T r, .own T' r' l=>bif aju T T' then(if h:r'.beq r=true then some ([⟨.slice r,iP (r:= .slice r') (s:= .slice r) (congrArg Row.slice (Row.eq_of_beq h)) l⟩],bs)else none)else none
   | .box T sh, .box T' t=>bif aju T T' then CU ob sh t bs else none
   | .map T K agg V, .map T' K' lp V' l=>bif aju T T'&&(bif agg then lp else !lp)then(if h:K'.beq K=true/\V'.beq V=true then some ([⟨.slice (.pair K V),iP (r:= .slice (.pair K' V')) (s:= .slice (.pair K V)) (by rw[Row.eq_of_beq h.1,Row.eq_of_beq h.2]) l⟩],bs)else none)else none
   | .deep T d, .deep T' d' l none=>bif aju T T'&&d'.beq d then some ([⟨.slice d'.row,l⟩],bs)else none
   | .dmap T K E r, .dmap T' K' E' r' l none=>bif aju T T'&&aju E E'&&K'.beq K&&r'.beq r then some ([⟨.slice (.pair K' (.slice r')),l⟩],bs)else none
   |_,_=>none
  |none=>none
 |some none=>match s with
  | .own _ r=>some ([⟨.slice r,([]:List r.den)⟩],bs)
  | .deep _ d=>some ([⟨.slice d.row,([]:List d.row.den)⟩],bs)
  |_=>none
 |none=>none
def RG(ob:Nat->Option (Nat×Th)):List (Nat×OS)->Bs->Option (List kM×Bs)
 |[],bs=>some ([],bs)
 |(j,s)::l,bs=>match J8 ob j s bs with
  |some (vs,DE)=>match RG ob l DE with
   |some (us,E8)=>some (vs++us,E8)
   |none=>none
  |none=>none
section
variable {U:Nat->Prop} {H H':aq} {F:Nat->Prop} {w:World} {n:Nat} {ob:Nat->Option (Nat×Th)}
def A5(bs ga:Bs):Prop:=∀j v,find bs j=some v->find ga j=some v
theorem lq{bs ga:Bs}{j:Nat}{v:Option Nat}(h:xM bs j v=some ga):A5 bs ga/\find ga j=some v:=by
 unfold xM at h;split at h
 .rename_i hn;obtain rfl:=ajk h;refine⟨fun i u hu=>?_,by rw[aD,if_pos rfl]⟩;rw[aD];by_cases e:j=i
  .subst e;rw[hn]at hu;cases hu
  .rw[if_neg e];exact hu
 .rename_i u hu;obtain⟨h1,rfl⟩:=mr h;obtain rfl:=xL h1;exact⟨fun _ _ h=>h,hu⟩
def valOf(H:aq):Option Nat->Option Value
 |some o=>H.val o
 |none=>some (.slice none 0 0)
def nD(H H':aq)(bs:Bs):Prop:=∀j v,find bs j=some v->∀u,valOf H v=some u->H'.val j=some u
theorem vA:{sh:Sh}->{t:Tree}->{bs ga:Bs}->{vs:List kM}->CU ob sh t bs=some (vs,ga)->A5 bs ga
 | .leaf r,t,bs,ga,vs,h=>by
   unfold CU at h
   split at h<;>cases h
   exact fun _ _ h=>h
 | .own j, .own o,bs,ga,vs,h=>by
   unfold CU at h
   split at h<;>cases h
   rename_i hb;exact(lq hb).1
 | .own j, .nil,bs,ga,vs,h=>by
   unfold CU at h
   split at h<;>cases h
   rename_i hb;exact(lq hb).1
 | .nil, .nil,bs,ga,vs,h=>by cases h;exact fun _ _ h=>h
 | .pair a b,t,bs,ga,vs,h=>by
   unfold CU at h;split at h
   case h_2=>cases h
   split at h
   case h_2=>cases h
   rename_i h1;split at h
   case h_2=>cases h
   rename_i h2;cases h
   exact fun j v hj=>vA h2 j v (vA h1 j v hj)
 | .own _, .leaf _ _,_,_,_,h=>by cases h
 | .own _, .pair _ _,_,_,_,h=>by cases h
 | .nil, .leaf _ _,_,_,_,h=>by cases h
 | .nil, .own _,_,_,_,h=>by cases h
 | .nil, .pair _ _,_,_,_,h=>by cases h
 | .own _, .view ..,_,_,_,h=>by cases h
 | .nil, .view ..,_,_,_,h=>by cases h
 | .own _, .junk _,_,_,_,h=>by cases h
 | .nil, .junk _,_,_,_,h=>by cases h
 | .junk n,t,bs,ga,vs,h=>by
   unfold CU at h;obtain⟨_,h⟩:=aG h;cases h
   exact fun _ _ h=>h
theorem yZ(hs:au U H F w ob n):{sh:Sh}->{t:Tree}->{bs ga:Bs}->{vs:List kM}->{cs:List Value}->CU ob sh t bs=some (vs,ga)->Holds H F w t cs->nD H H' ga->∀rest,
 Holds H' F w (ow sh (vs++rest)).1 cs/\(ow sh (vs++rest)).2=rest
 | .leaf r,t,bs,ga,vs,cs,h,hh,hb,rest=>by
   unfold CU at h
   split at h<;>cases h
   rename_i x hf;refine⟨?_,rfl⟩
   show Holds H' F w (bif r.beq r then Tree.leaf r x else .nil) cs
   rw[Row.beq_refl,cond_true];exact iF hs hf hh
 | .own j, .own o,bs,ga,vs,cs,h,hh,hb,rest=>by
   unfold CU at h
   split at h<;>cases h
   rename_i C7;obtain⟨v,hv,h1,rfl⟩:=hh;exact⟨⟨v,hb _ _ (lq C7).2 v hv,h1,rfl⟩,rfl⟩
 | .own j, .nil,bs,ga,vs,cs,h,hh,hb,rest=>by
   unfold CU at h
   split at h<;>cases h
   rename_i C7;rw[show cs=_ from hh];exact⟨⟨_,hb _ _ (lq C7).2 _ rfl,rfl,rfl⟩,rfl⟩
 | .nil, .nil,bs,ga,vs,cs,h,hh,hb,rest=>by cases h;exact⟨hh,rfl⟩
 | .pair a b,t,bs,ga,vs,cs,h,hh,hb,rest=>by
   unfold CU at h;split at h
   case h_2=>cases h
   rename_i x y r8;split at h
   case h_2=>cases h
   rename_i WE DE h1;split at h
   case h_2=>cases h
   rename_i us E8 h2;cases h;obtain⟨c1,c2,rfl,g1,g2,_⟩:=hh.split r8
   have E2:nD H H' DE:=fun j v hj=>hb j v (vA h2 j v hj)
   obtain⟨k1,k2⟩:=yZ hs h1 g1 E2 (us++rest);obtain⟨m1,m2⟩:=yZ hs h2 g2 hb rest;rw[ajH];unfold ow;rw[k2];exact⟨⟨c1,c2,rfl,k1,m1⟩,m2⟩
 | .own _, .leaf _ _,_,_,_,_,h,_,_,_=>by cases h
 | .own _, .pair _ _,_,_,_,_,h,_,_,_=>by cases h
 | .nil, .leaf _ _,_,_,_,_,h,_,_,_=>by cases h
 | .nil, .own _,_,_,_,_,h,_,_,_=>by cases h
 | .nil, .pair _ _,_,_,_,_,h,_,_,_=>by cases h
 | .own _, .view ..,_,_,_,_,h,_,_,_=>by cases h
 | .nil, .view ..,_,_,_,_,h,_,_,_=>by cases h
 | .own _, .junk _,_,_,_,_,h,_,_,_=>by cases h
 | .nil, .junk _,_,_,_,_,h,_,_,_=>by cases h
 | .junk n,t,bs,ga,vs,cs,h,hh,hb,rest=>by
   unfold CU at h;obtain⟨hn,h⟩:=aG h;cases h;exact⟨⟨hh.length.trans (akb hn),hh.je⟩,rfl⟩
theorem sH:{js cs:List (Nat×List Bool×Nat)}->{bs ga:Bs}->sG js cs bs=some ga->A5 bs ga
 |[],[],bs,ga,h=>by obtain rfl:=ajk h;exact fun _ _ h=>h
 |(j,p,off)::js,(o,p',dI)::cs,bs,ga,h=>by
  unfold sG at h;obtain⟨_,h⟩:=aG h;split at h
  case h_2=>cases h
  rename_i hb
  exact fun i v hi=>sH h i v ((lq hb).1 i v hi)
 |[],_::_,_,_,h=>by cases h
 |_::_,[],_,_,h=>by cases h
theorem xN:{js cs:List (Nat×List Bool×Nat)}->{bs ga:Bs}->{vs:List Value}->sG js cs bs=some ga->kX H cs vs->nD H H' ga->kX H' js vs
 |[],[],bs,ga,vs,h,hc,hb=>hc
 |(j,p,off)::js,(o,p',dI)::cs,bs,ga,vs,h,hc,hb=>by
  unfold sG at h;obtain⟨ho,h'⟩:=aG h;clear h;split at h'
  case h_2=>cases h'
  rename_i b1 C7;obtain⟨v,us,rfl,⟨b,h1,rfl⟩,h2⟩:=hc;have ho:=beq_true ho;subst ho;exact⟨_,us,rfl,⟨b,hb _ _ (sH h' _ _ (lq C7).2) _ h1,rfl⟩,xN h' h2 hb⟩
 |[],_::_,_,_,_,h,_,_=>by cases h
 |_::_,[],_,_,_,h,_,_=>by cases h
theorem M2{s:SS}{d:al}{bs ga:Bs}{vs:List kM}(h:J7 ob s d bs=some (vs,ga)):A5 bs ga:=by
 unfold J7 at h;split at h
 .obtain⟨_,h⟩:=aG h;exact vA h
 .obtain⟨_,h⟩:=aG h
  split at h<;>cases h
  rename_i hb;exact(lq hb).1
 .split at h<;>cases h
  exact fun _ _ h=>h
 .cases h
  exact fun _ _ h=>h
 .obtain⟨_,h'⟩:=aG h
  split at h'<;>cases h'
  rename_i hb;exact sH hb
 .cases h
theorem M3{s:SS}{d:al}{bs ga:Bs}{vs:List kM}(h:Hk ob s d bs=some (vs,ga)):A5 bs ga:=by
 induction s generalizing d with
 |ifc T s ih=>
  cases d with
  |ifc T' d'=>
   obtain⟨_,h'⟩:=aG (show(bif aju T T' then Hk ob s d' bs else none)=some (vs,ga)from h);exact ih h'
  |_=>cases h
 |_=>exact M2 h
theorem M4(hs:au U H F w ob n){s:SS}{d:al}{bs ga:Bs}{vs:List kM}{v:Value}(h:J7 ob s d bs=some (vs,ga))(hd:aj H F w d v)(hb:nD H H' ga)(rest:List kM):
 aj H' F w (ey s (vs++rest)).1 v/\(ey s (vs++rest)).2=rest:=by
 unfold J7 at h;split at h
 .rename_i agg sh lp t;obtain⟨ha,h'⟩:=aG h;clear h
  have:agg=lp:=by cases agg<;>cases lp<;>simp_all
  subst this;obtain⟨cs,h1,h2⟩:=hd;obtain⟨k1,k2⟩:=yZ hs h' h1 hb rest;exact⟨⟨cs,k1,h2⟩,k2⟩
 .rename_i j p off o p' dI;obtain⟨ho,h'⟩:=aG h;clear h
  split at h'<;>cases h'
  rename_i C7;obtain⟨b,h1,h2⟩:=hd;refine⟨⟨b,hb _ _ (lq C7).2 _ h1,?_⟩,rfl⟩;rw[beq_true ho];exact h2
 .rename_i r s x
  split at h<;>cases h
  rename_i AD;obtain rfl:=Row.eq_of_beq AD;refine⟨?_,rfl⟩
  show aj H' F w (bif s.beq s then al.at s x else .dead) v
  rw[Row.beq_refl,cond_true];exact hd
 .cases h;exact⟨hd,rfl⟩
 .rename_i f js f' cs;obtain⟨hf,h'⟩:=aG h
  split at h'<;>cases h'
  rename_i C7;obtain⟨us,h1,h2⟩:=hd;refine⟨⟨us,?_,xN C7 h2 hb⟩,rfl⟩;rw[beq_true hf];exact h1
 .cases h
theorem M5(hs:au U H F w ob n){s:SS}{d:al}{bs ga:Bs}{vs:List kM}{v:Value}(h:Hk ob s d bs=some (vs,ga))(hd:aj H F w d v)(hb:nD H H' ga)(rest:List kM):
 aj H' F w (ey s (vs++rest)).1 v/\(ey s (vs++rest)).2=rest:=by
 induction s generalizing d v with
 |ifc T s ih=>
  cases d with
  |ifc T' d'=>
   obtain⟨hT,h'⟩:=aG (show(bif aju T T' then Hk ob s d' bs else none)=some (vs,ga)from h);obtain⟨u,e,h2⟩:=hd;obtain⟨k1,k2⟩:=ih h' h2;exact⟨⟨u,by rw[beq_true hT];exact e,k1⟩,k2⟩
  |_=>cases h
 |_=>exact M4 hs h hd hb rest
theorem J9:{l:List (Nat×SS)}->{ai:List (Nat×al)}->{bs ga:Bs}->{vs:List kM}->RF ob ai l bs=some (vs,ga)->A5 bs ga
 |[],_,_,_,_,h=>by cases h;exact fun _ _ h=>h
 |(t,s)::l,ai,bs,ga,vs,h=>by
  unfold RF at h;split at h
  case h_2=>cases h
  split at h
  case h_2=>cases h
  rename_i h1;split at h
  case h_2=>cases h
  rename_i h2;cases h
  exact fun j v hj=>J9 h2 j v (M3 h1 j v hj)
theorem Ka(hs:au U H F w ob n){ai:List (Nat×al)}{ρ:Nat->Value}(fZ:∀t d,find ai t=some d->aj H F w d (ρ t)):{l:List (Nat×SS)}->{bs ga:Bs}->{vs:List kM}->RF ob ai l bs=some (vs,ga)->nD H H' ga->∀rest,
 (∀t d,find (dg l (vs++rest)).1 t=some d->aj H' F w d (ρ t))/\(dg l (vs++rest)).2=rest
 |[],bs,ga,vs,h,_,rest=>by cases h;exact⟨fun _ _ h=>(by cases h),rfl⟩
 |(t,s)::l,bs,ga,vs,h,hb,rest=>by
  unfold RF at h;split at h
  case h_2=>cases h
  rename_i d hd;split at h
  case h_2=>cases h
  rename_i WE DE h1;split at h
  case h_2=>cases h
  rename_i us E8 h2;cases h
  have E2:nD H H' DE:=fun j v hj=>hb j v (J9 h2 j v hj)
  obtain⟨k1,k2⟩:=M5 hs h1 (fZ t d hd) E2 (us++rest);obtain⟨m1,m2⟩:=Ka hs fZ h2 hb rest;rw[ajH];unfold dg;rw[k2];refine⟨fun t' d' h'=>?_,m2⟩;rw[aD]at h';split at h'
  .rename_i e;subst e;obtain rfl:=ajk h';exact k1
  .exact m1 t' d' h'
end
end Go.Proofs.YtmihpkfkbfgigaaGreatDoor
namespace Go.Proofs.YtmihpkfkbfgigaaGreatDoor
open Go Go.RowKit
def Tree.owns:Tree->List Nat
 | .own o=>[o]
 | .pair a b=>a.owns++b.owns
 | .view o _ _ _=>[o]
 |_=>[]
def A6:Sh->Tree->List Nat
 | .leaf _,t=>t.owns
 | .pair a b,t=>match t.split with
   |some (x,y)=>A6 a x++A6 b y
   |none=>[]
 |_,_=>[]
def E9(ai:List (Nat×al)):List (Nat×SS)->List Nat
 |[]=>[]
 |(t, .val _ sh)::l=>(match find ai t with
  |some (.val _ tr)=>A6 sh tr
  |_=>[])++E9 ai l
 |(t, .ifc _ (.val _ sh))::l=>(match find ai t with
  |some (.ifc _ (.val _ tr))=>A6 sh tr
  |_=>[])++E9 ai l
 |_::l=>E9 ai l
def OF(j:Nat):List (Nat×List Bool×Nat)->List (Nat×List Bool×Nat)->Option Nat
 |(j',_)::js,(o,_)::cs=>bif aju j' j then some o else OF j js cs
 |_,_=>none
def A7(ai:List (Nat×al))(j:Nat):List (Nat×SS)->Option Nat
 |[]=>none
 |(t, .ptr j' _ _)::l=>bif aju j' j then(match find ai t with
  |some (.ptr o _ _)=>some o
  |_=>none)else A7 ai j l
 |(t, .ifc _ (.ptr j' _ _))::l=>bif aju j' j then(match find ai t with
  |some (.ifc _ (.ptr o _ _))=>some o
  |_=>none)else A7 ai j l
 |(t, .fn _ js)::l=>match(match find ai t with
    |some (.fn _ cs)=>OF j js cs
    |_=>none)with
  |some o=>some o
  |none=>A7 ai j l
 |_::l=>A7 ai j l
def Kb(nb:Nat)(ai:List (Nat×al))(ss:List (Nat×SS))(objs:List (Nat×(Nat×Th))):List (Nat×OS)->List Nat
 |[]=>[]
 |(j, .box _ sh)::l=>(match(bif akf j nb then some j else A7 ai j ss)with
  |some o=>(match find objs o with
   |some (_, .box _ tr)=>A6 sh tr
   |_=>[])
  |none=>[])++Kb nb ai ss objs l
 |_::l=>Kb nb ai ss objs l
def WG(nb:Nat):List (Nat×OS)->Bs
 |[]=>[]
 |(j,_)::l=>bif akf j nb then(j,some j)::WG nb l else WG nb l
def gI:Bs->List Nat
 |[]=>[]
 |(_,some o)::l=>o::gI l
 |(_,none)::l=>gI l
def my(o:Nat)(l:List Nat):Bool:=l.any (aju o)
def DF:List Nat->Bool
 |[]=>true
 |o::l=> !my o l&&DF l
def Kc(nb nxt:Nat):Bs->Bool
 |[]=>true
 |(j,u)::l=>(bif akf j nb then DD u (some j)else akf j nxt)&&Kc nb nxt l
def DG(objs:List (Nat×(Nat×Th)))(A8:List Nat):List (Nat×(Nat×Th))->Bool
 |[]=>true
 |(o,(s,t))::l=>(match find objs o with
  |some (s',t')=>aju s s'&&(bif dZ t then dZ t' else !dZ t')
  |none=>false)&& !my o A8&&DG objs A8 l
def xO(nb:Nat)(J:JS)(ai:List (Nat×al))(objs:List (Nat×(Nat×Th))):List Nat:=E9 ai J.ai++Kb nb ai J.ai objs J.objs
def xP(nb:Nat)(frame:List (Nat×(Nat×Th)))(J:JS)(ai:List (Nat×al))(objs:List (Nat×(Nat×Th))):Option (cz J.rows×Bs×List (Nat×(Nat×Th))):=
 match eN objs (xO nb J ai objs)with
 |none=>none
 |some aO=>match RF (find aO) ai J.ai (WG nb J.objs)with
  |none=>none
  |some (vs,DE)=>match RG (find aO) J.objs DE with
   |none=>none
   |some (us,E8)=>bif DF (gI E8)&&Kc nb J.nxt E8&&Nat.ble (nb+J.objs.length) J.nxt&&DG aO (gI E8) frame then
     (match A4 J.rows (vs++us)with
     |some x=>some (x,E8,aO)
     |none=>none)else none
def rr:List (Nat×(Nat×Th))->Nat->Option Th
 |[],_=>none
 |(_,(s,t))::l,m=>bif aju s m then some t else rr l m
def PP:List (Nat×(Nat×Th))->Nat->Option Nat
 |[],_=>none
 |(j,(s,_))::l,m=>bif aju s m then some j else PP l m
def vB(H:aq)(ob:Nat->Option (Nat×Th)):Option (Option Nat)->Nat->Prop
 |some (some o)=>match ob o with
  |some (s,_)=>H.sub s
  |none=>fun _=>False
 |_=>fun _=>False
def dS(H:aq)(nb:Nat)(bs:Bs)(cons:List (Nat×(Nat×Th)))(ob:Nat->Option (Nat×Th)):aq where
 val m:=if m<nb then H.val m else match find bs m with
  |some u=>valOf H u
  |none=>none
 con m:=if m<nb then H.con m else rr cons m
 sub m:=if m<nb then H.sub m else match PP cons m with
  |some j=>vB H ob (find bs j)
  |none=>fun _=>False
section
variable {U:Nat->Prop} {H H':aq} {F:Nat->Prop} {w:World} {n:Nat} {ob:Nat->Option (Nat×Th)}
theorem Fa{j:Nat}{s:OS}{bs ga:Bs}{vs:List kM}(h:J8 ob j s bs=some (vs,ga)):A5 bs ga:=by
 unfold J8 at h;split at h
 .split at h
  case h_2=>cases h
  split at h
  .obtain⟨_,h'⟩:=aG h
   split at h'<;>cases h'
   exact fun _ _ h=>h
  .obtain⟨_,h'⟩:=aG h;exact vA h'
  .obtain⟨_,h'⟩:=aG h
   split at h'<;>cases h'
   exact fun _ _ h=>h
  .obtain⟨_,h'⟩:=aG h;cases h'
   exact fun _ _ h=>h
  .obtain⟨_,h'⟩:=aG h;cases h'
   exact fun _ _ h=>h
  .cases h
 .split at h<;>cases h
  .exact fun _ _ h=>h
  .exact fun _ _ h=>h
 .cases h
theorem za:{l:List (Nat×OS)}->{bs ga:Bs}->{vs:List kM}->RG ob l bs=some (vs,ga)->A5 bs ga
 |[],_,_,_,h=>by cases h;exact fun _ _ h=>h
 |(j,s)::l,bs,ga,vs,h=>by
  unfold RG at h;split at h
  case h_2=>cases h
  rename_i h1;split at h
  case h_2=>cases h
  rename_i h2;cases h
  exact fun j v hj=>za h2 j v (Fa h1 j v hj)
def lS(H H':aq)(F:Nat->Prop)(w:World)(ob:Nat->Option (Nat×Th))(bs:Bs)(j:Nat)(t:Th):Prop:=
 ∃u v,find bs j=some u/\valOf H u=some v/\v.oneCell'=true/\t.base=t/\iE H' F w (vB H ob (find bs j)) v t/\∀k,fp (vB H ob (find bs j)) v t k->∃o s0 t0,u=some o/\ob o=some (s0,t0)/\H.val o=some v/\fp (H.sub s0) v t0 k
theorem M6(hs:au U H F w ob n){j:Nat}{s:OS}{bs ga:Bs}{vs:List kM}(h:J8 ob j s bs=some (vs,ga))(hb:nD H H' ga)(rest:List kM):
 lS H H' F w ob bs j (cr s (vs++rest)).1/\(cr s (vs++rest)).2=rest:=by
 unfold J8 at h;split at h
 .rename_i o RH;split at h
  case h_2=>cases h
  rename_i s0 t0 cU;obtain⟨v,hv,cn⟩:=hs.obj _ _ _ cU
  have fY:vB H ob (find bs j)=H.sub s0:=by rw[RH];simp[vB,cU]
  have mk:∀t,t.base=t->iE H' F w (H.sub s0) v t->(∀k,fp (H.sub s0) v t k->fp (H.sub s0) v t0 k)->lS H H' F w ob bs j t:=by
   intro t hb nn hf;refine⟨some o,v,RH,hv,cn.one,hb,by rw[fY];exact nn,fun k hk=>?_⟩;rw[fY]at hk;exact⟨o,_,_,rfl,cU,hv,hf k hk⟩
  split at h
  .rename_i T r T' r' l;obtain⟨hT,h'⟩:=aG h;clear h
   split at h'<;>cases h'
   rename_i AD;obtain rfl:=Row.eq_of_beq AD;obtain rfl:=beq_true hT;refine⟨?_,rfl⟩
   show lS H H' F w ob bs j (bif r'.beq r' then Th.own T r' l else .own T r' [])
   rw[Row.beq_refl,cond_true]
   exact mk _ rfl cn.ok fun k hk=>hk
  .rename_i T sh T' t;obtain⟨hT,h'⟩:=aG h;clear h;obtain rfl:=beq_true hT;obtain⟨b,es,e,h1,h2⟩:=cn.ok;obtain⟨k1,k2⟩:=yZ hs h' h2 hb rest;exact⟨mk _ rfl ⟨b,es,e,h1,k1⟩ fun k hk=>hk,k2⟩
  .rename_i T K agg V T' K' lp V' l;obtain⟨hT,h'⟩:=aG h;clear h
   split at h'<;>cases h'
   rename_i AD;obtain⟨SI,ha⟩:=cV hT;clear hT
   have ha:agg=lp:=by cases agg<;>cases lp<;>simp_all
   subst ha;obtain⟨hK,hV⟩:=AD;obtain rfl:=Row.eq_of_beq hK;obtain rfl:=Row.eq_of_beq hV;obtain rfl:=beq_true SI;refine⟨?_,rfl⟩
   show lS H H' F w ob bs j (if h:K'.beq K'=true/\V'.beq V'=true then Th.map T K' agg V' l else .map T K' agg V' [])
   rw[dif_pos ⟨Row.beq_refl _,Row.beq_refl _⟩];obtain⟨b,es,clock,e,h1,h2,h3⟩:=cn.ok
   exact mk _ rfl ⟨b,es,clock,e,h1,h2,h3.iZ⟩ fun k hk=>hk
  .rename_i T d T' d' l;obtain⟨hT,h'⟩:=aG h;clear h;obtain⟨SI,hd⟩:=cV hT;obtain rfl:=DR.eq_of_beq hd;obtain rfl:=beq_true SI;cases h';refine⟨?_,rfl⟩
   show lS H H' F w ob bs j (if h:d'.row.beq d'.row=true then Th.deep T d' l none else .deep T d' [] none)
   rw[dif_pos (Row.beq_refl _)]
   exact mk _ rfl cn.ok fun k hk=>hk
  .rename_i T K E r T' K' E' r' l;obtain⟨hT,h'⟩:=aG h;clear h;obtain⟨hT,hd⟩:=cV hT;obtain⟨hT,xx⟩:=cV hT;obtain⟨SI,hE⟩:=cV hT;obtain rfl:=Row.eq_of_beq hd;obtain rfl:=Row.eq_of_beq xx;obtain rfl:=beq_true SI;obtain rfl:=beq_true hE;cases h';refine⟨?_,rfl⟩
   show lS H H' F w ob bs j (if h:K'.beq K'=true/\r'.beq r'=true then Th.dmap T K' E r' l none else .dmap T K' E r' [] none)
   rw[dif_pos ⟨Row.beq_refl _,Row.beq_refl _⟩];obtain⟨b,es,clock,B,e,h1,h2,h3,h4,_⟩:=cn.ok
   exact mk _ rfl ⟨b,es,clock,B,e,h1,h2,h3.keep (Step.refl F w) (fun _ _ _ e=>by cases e) (fun _ _=>rfl),h4,fun _ _ e=>by cases e⟩ fun k hk=>hk
  .cases h
 .rename_i RH
  split at h<;>cases h
  .rename_i T r;refine⟨?_,rfl⟩
   show lS H H' F w ob bs j (bif r.beq r then Th.own T r []else .own T r [])
   rw[Row.beq_refl,cond_true];refine⟨none,_,RH,rfl,rfl,rfl,(jf.nil 0 F w T r).2,fun k hk=>?_⟩;have dO:bq (.slice none 0 0) k:=hk;simp[bq,ajV]at dO
  .rename_i T d;refine⟨?_,rfl⟩
   show lS H H' F w ob bs j (if h:d.row.beq d.row=true then Th.deep T d [] none else .deep T d [] none)
   rw[dif_pos (Row.beq_refl _)]
   have fY:vB H ob (find bs j)=fun _=>False:=by rw[RH];rfl
   refine⟨none,_,RH,rfl,rfl,rfl,?_,fun k hk=>?_⟩
   .rw[fY];exact⟨[],fun _ _=>False,jW.nil F w T d.low,rfl,fun i h=>absurd h (by simp),⟨fun k=>by simp[bq,ajV],fun _ _ _ h=>absurd h (by simp),fun _ _ h=>absurd h (by simp)⟩⟩
   .rw[fY]at hk;exact hk.elim
 .cases h
theorem A9:{l:List (Nat×OS)}->{m k:Nat}->{vs:List kM}->m+l.length<=k->rr (ic m l vs) k=none
 |[],_,_,_,_=>rfl
 |(j,s)::l,m,k,vs,h=>by
  show(bif aju m k then _ else rr (ic (m+1) l _) k)=none
  rw[ajy]at h
  have:aju m k=false:=by
   cases hb:aju m k with
   |false=>rfl
   |true=>have:=beq_true hb;omega
  rw[this,cond_false];exact A9 (by omega)
theorem Kd(hs:au U H F w ob n):{l:List (Nat×OS)}->{bs ga:Bs}->{vs:List kM}->RG ob l bs=some (vs,ga)->nD H H' ga->∀m,
 ∀j s t,find (ic m l vs) j=some (s,t)->m<=s/\s<m+l.length/\rr (ic m l vs) s=some t/\PP (ic m l vs) s=some j/\lS H H' F w ob ga j t
 |[],_,_,_,h,_,m=>by cases h;intro j s t h;cases h
 |(j0,s0)::l,bs,ga,vs,h,hb,m=>by
  unfold RG at h;split at h
  case h_2=>cases h
  rename_i WE DE h1;split at h
  case h_2=>cases h
  rename_i us E8 h2;cases h
  have E2:nD H H' DE:=fun j v hj=>hb j v (za h2 j v hj)
  obtain⟨⟨u,v,g1,g2⟩,k2⟩:=M6 hs h1 E2 us;intro j s t hf;unfold ic at hf⊢;rw[aD]at hf;rw[k2]at hf⊢;split at hf
  .rename_i e;subst e;simp only[ajx,akl]at hf;obtain⟨rfl,rfl⟩:=hf;have e1:=za h2 _ _ (Fa h1 _ _ g1);rw[g1]at g2;refine⟨ajo _,by simp,?_,?_,u,v,e1,?_⟩
   .show(bif aju m m then _ else _)=_
    simp
   .show(bif aju m m then _ else _)=_
    simp
   .rw[e1];exact g2
  .obtain⟨a1,a2,a3,a4,a5⟩:=Kd hs h2 hb (m+1) j s t hf
   have:aju m s=false:=by
    cases hb:aju m s with
    |false=>rfl
    |true=>have:=beq_true hb;omega
   refine⟨by omega,by rw[ajy];omega,?_,?_,a5⟩
   .show(bif aju m s then _ else _)=_
    rw[this,cond_false];exact a3
   .show(bif aju m s then _ else _)=_
    rw[this,cond_false];exact a4
theorem dT{o:Nat}{l:List Nat}:my o l=true↔o∈l:=any_beq
theorem ju:{bs:Bs}->{j o:Nat}->find bs j=some (some o)->o∈gI bs
 |[],_,_,h=>by cases h
 |(i,u)::bs,j,o,h=>by
  rw[aD]at h;split at h
  .obtain rfl:=ajk h;exact List.mem_cons_self
  .have:=ju h
   cases u with
   |none=>exact this
   |some q=>exact List.mem_cons_of_mem _ this
theorem sI:{bs:Bs}->DF (gI bs)=true->{j j' o:Nat}->find bs j=some (some o)->find bs j'=some (some o)->j=j'
 |[],_,_,_,_,h,_=>by cases h
 |(i,u)::bs,hn,j,j',o,h,h'=>by
  rw[aD]at h h'
  cases u with
  |none=>
   split at h
   .cases h
   .split at h'
    .cases h'
    .exact sI (bs:=bs) hn h h'
  |some q=>
   obtain⟨hq,MA⟩:=cV hn
   have hq:q∉gI bs:=fun e=>by rw[dT.2 e]at hq;cases hq
   split at h
   .rename_i e1;obtain rfl:q=o:=ajk (ajk h);split at h'
    .rename_i e2;exact e1.symm.trans e2
    .exact absurd (ju h') hq
   .split at h'
    .obtain rfl:q=o:=ajk (ajk h');exact absurd (ju h) hq
    .exact sI MA h h'
theorem vC{nb nxt:Nat}:{bs:Bs}->Kc nb nxt bs=true->{j:Nat}->{u:Option Nat}->find bs j=some u->(j<nb->u=some j)/\(nb<=j->j<nxt)
 |[],_,_,_,h=>by cases h
 |(i,v)::bs,hk,j,u,h=>by
  obtain⟨h1,h2⟩:=cV hk;rw[aD]at h;split at h
  .rename_i e;subst e;obtain rfl:=ajk h
   cases hb:akf i nb with
   |true=>
    rw[hb,cond_true]at h1
    have:i<nb:=by simpa using hb
    exact⟨fun _=>xL h1,fun _=>by omega⟩
   |false=>
    rw[hb,cond_false]at h1
    have hge:¬i<nb:=fun e=>by have:akf i nb=true:=by simpa using e
                              rw[hb]at this;cases this
    exact⟨fun e=>absurd e hge,fun _=>by simpa using h1⟩
  .exact vC h2 h
theorem xQ{objs:List (Nat×(Nat×Th))}{A8:List Nat}:{fr:List (Nat×(Nat×Th))}->DG objs A8 fr=true->{o s:Nat}->{t:Th}->find fr o=some (s,t)->
 o∉A8/\∃t',find objs o=some (s,t')/\dZ t'=dZ t
 |[],_,_,_,_,h=>by cases h
 |(i,(s0,t0))::fr,hf,o,s,t,h=>by
  obtain⟨h1,h2⟩:=cV hf;obtain⟨h1,h3⟩:=cV h1;rw[aD]at h;split at h
  .rename_i e;subst e;simp only[ajx,akl]at h;obtain⟨rfl,rfl⟩:=h;split at h1
   .rename_i s' t' ho;obtain⟨h4,h5⟩:=cV h1;obtain rfl:=beq_true h4;refine⟨fun e=>(by rw[dT.2 e]at h3;cases h3),t',ho,?_⟩
    cases ha:dZ t0<;>cases hb:dZ t'<;>simp_all
   .cases h1
  .exact xQ h2 h
theorem Ke{t t':Th}(h:t.base=t'.base)(hf:dZ t=dZ t'):t=t':=by
 cases t<;>cases t'<;>simp_all[Th.base,dZ]
theorem vD{U':Nat->Prop}{H0:aq}{F0:Nat->Prop}{w0:World}{objs0:List (Nat×(Nat×Th))}{nb:Nat}{ns:List Nat}{J:JS}{ai:List (Nat×al)}{objs aO:List (Nat×(Nat×Th))}{x:cz J.rows}{bs:Bs}{ρ:Nat->Value}
 (h:xP nb (del ns objs0) J ai objs=some (x,bs,aO))(Hl:au U H0 F0 w0 (find objs0) nb)(OG:iR H0 nb)(hk:cB H0 F0 w0 H F w)(hs:au U H F w (find objs) n)(fZ:∀t d,find ai t=some d->aj H F w d (ρ t)):
 ∃F1 H1,au U H F1 w (find aO) n/\(∀b,F b->F1 b)/\(∀b,F1 b->F b\/cm H (find objs) (xO nb J ai objs) b)/\eN objs (xO nb J ai objs)=some aO/\H0.le H1/\nD H H1 bs/\iR H1 J.nxt/\
  (∀t d,find (dg J.ai (dA J.rows x)).1 t=some d->aj H1 F1 w d (ρ t))/\
  ((∀b,w.heap.size<=b->U' b)->(∀o s t v k,o∈gI bs->find aO o=some (s,t)->H.val o=some v->fp (H.sub s) v t k->U' k)->(∀o s t v k,find (del ns objs0) o=some (s,t)->H.val o=some v->fp (H.sub s) v t k->U' k)->
    au U' H1 F1 w (find (ic nb J.objs (dg J.ai (dA J.rows x)).2++del ns objs0)) J.nxt):=by
 unfold xP at h;split at h
 case h_1=>cases h
 rename_i WH w7;split at h
 case h_1=>cases h
 rename_i vs DE hS;split at h
 case h_1=>cases h
 rename_i us E8 hO;obtain⟨hc,h'⟩:=aG h;clear h;split at h'
 case h_2=>cases h'
 rename_i x' hx;cases h';obtain⟨hc,RA⟩:=cV hc;obtain⟨hc,JQ⟩:=cV hc;obtain⟨As,uv⟩:=cV hc
 have JQ:nb+J.objs.length<=J.nxt:=by simpa using JQ
 obtain⟨F1,qa,Db,Mf⟩:=nC w7 hs
 have eM:Step F w F1 w:=fun b hb=>⟨Db b hb,rfl⟩
 have WI:∀t d,find ai t=some d->aj H F1 w d (ρ t):=fun t d hd=>(fZ t d hd).keep (aq.le.refl H) eM
 rw[tI hx]
 have Kf:∃cons,cons=ic nb J.objs us:=⟨_,rfl⟩
 obtain⟨cons,Ba⟩:=Kf
 have Bb:H0.le (dS H nb bs cons (find aO)):=by
  have ao:∀s t,H0.con s=some t->s<nb:=fun s t eM=>by
   rcases Nat.lt_or_ge s nb with h|h
   .exact h
   .rw[(OG s h).2]at eM;cases eM
  refine⟨fun o v ho=>?_,fun s t eM=>?_,fun s t eM=>?_⟩
  .have:o<nb:=by
    rcases Nat.lt_or_ge o nb with h|h
    .exact h
    .rw[(OG o h).1]at ho;cases ho
   simp[dS,this,hk.iZ.val _ _ ho]
  .simp[dS,ao s t eM,hk.iZ.con _ _ eM]
  .simp[dS,ao s t eM,hk.iZ.sub _ _ eM]
 have sJ:nD H (dS H nb bs cons (find aO)) bs:=by
  intro j u hj v hv;obtain⟨a1,a2⟩:=vC uv hj;by_cases ao:j<nb
  .obtain rfl:=a1 ao;simpa[dS,ao,valOf]using hv
  .simpa[dS,ao,hj]using hv
 have M7:nD H (dS H nb bs cons (find aO)) DE:=fun j v hj=>sJ j v (za hO j v hj)
 obtain⟨p1,p2⟩:=Ka qa WI hS M7 us
 have Fb:iR (dS H nb bs cons (find aO)) J.nxt:=fun m hm=>by
  have OC:¬m<nb:=by omega
  refine⟨?_,?_⟩
  .simp only[dS,if_neg OC];split
   .rename_i u hu;have:=(vC uv hu).2 (by omega);omega
   .rfl
  .simp only[dS,if_neg OC,Ba];exact A9 (by omega)
 refine⟨F1,dS H nb bs cons (find aO),qa,Db,Mf,w7,Bb,sJ,Fb,p1,fun hU1 hU2 hU3=>?_⟩;rw[p2,<-Ba];have SJ:=Kd (H':=dS H nb bs cons (find aO)) qa hO sJ nb;rw[<-Ba]at SJ
 have part:∀o s t,find (cons++del ns objs0) o=some (s,t)->find cons o=some (s,t)\/find (del ns objs0) o=some (s,t):=by
  intro o s t ho;rw[gS]at ho
  cases hm:find cons o with
  |some y=>rw[hm]at ho;exact .inl ho
  |none=>rw[hm,aku]at ho;exact .inr ho
 have Au:∀o s t,find (del ns objs0) o=some (s,t)->o∉gI bs/\find aO o=some (s,t)/\∃v,H.val o=some v/\(dS H nb bs cons (find aO)).val o=some v/\v.oneCell'=true/\(dS H nb bs cons (find aO)).con s=some t.base/\(dS H nb bs cons (find aO)).sub s=H.sub s/\iE (dS H nb bs cons (find aO)) F1 w (H.sub s) v t:=by
  intro o s t ho;obtain⟨q1,t',q2,q3⟩:=xQ RA ho;have ho0:=(gU.1 ho).2;obtain⟨v0,Pz,DH⟩:=Hl.obj _ _ _ ho0;obtain⟨v1,uy,mw⟩:=qa.obj _ _ _ q2;have e1:=hk.iZ.val _ _ Pz;rw[uy]at e1;obtain rfl:=ajk e1;have e2:=hk.iZ.con _ _ DH.con;rw[mw.con]at e2;have ht:=Ke (ajk e2) q3;subst ht;refine⟨q1,q2,v1,uy,Bb.val _ _ Pz,mw.one,Bb.con _ _ DH.con,(Bb.sub _ _ DH.con).trans (hk.iZ.sub _ _ DH.con).symm,?_⟩
  cases t' with
  |fdeep T d l=>exact mw.ok
  |deep T d l hh=>
   obtain⟨lh0,_,_,e0,r0,_⟩:=DH.ok
   refine GL.mono (show GL F1 w T d.low _ v1 l (H.sub s)from mw.ok) (Step.refl F1 w) (fun _ _=>rfl) fun i x' hi A hA hr=>?_
   cases hh with
   |none=>exact hr
   |some h=>
    refine⟨hr.1,fun hh=>?_⟩;obtain⟨T',e,q,g1,g2,g3⟩:=hr.2 hh;obtain⟨_,_,q0,_,_,k3⟩:=(r0 i (by omega) hi).2 hh;have e3:=hk.iZ.val _ _ k3;rw[g3]at e3;exact⟨T',e,q,g1,g2,by rw[ajk e3];exact Bb.val _ _ k3⟩
  |box T tr=>
   obtain⟨b,es,e,g1,g2⟩:=mw.ok;obtain⟨b',mL,e',Se,g2'⟩:=DH.ok;exact⟨b,es,e,g1,Holds.back hk.iZ Bb g2' g2⟩
  |own T r l=>exact mw.ok
  |sj T r l=>exact mw.ok
  |fmap T K agg V l=>exact mw.ok
  |fdmap T K E r l=>exact mw.ok
  |dmap T K E r l hh=>
   obtain⟨b,es,clock,B,e,g1,g2,g3,g4,g5⟩:=mw.ok;obtain⟨_,_,_,_,_,_,_,_,_,r5⟩:=DH.ok
   have key:∀a o u,hh=some (a,o)->H.val o=some u->(dS H nb bs cons (find aO)).val o=some u:=by
    intro a o u e hu;obtain⟨u0,Vo⟩:=r5 a o e;have e3:=hk.iZ.val _ _ Vo;rw[hu]at e3;rw[ajk e3];exact Bb.val _ _ Vo
   exact⟨b,es,clock,B,e,g1,g2,g3.keep (Step.refl F1 w) key (fun _ _=>rfl),g4,fun a o e=>(g5 a o e).imp fun u hu=>key a o u e hu⟩
  |map T K agg V l=>
   obtain⟨b,es,clock,e,g1,g2,g3⟩:=mw.ok;exact⟨b,es,clock,e,g1,g2,g3.iZ⟩
 have SK:∀o s t,find cons o=some (s,t)->∃v,(dS H nb bs cons (find aO)).val o=some v/\v.oneCell'=true/\(dS H nb bs cons (find aO)).con s=some t.base/\iE (dS H nb bs cons (find aO)) F1 w ((dS H nb bs cons (find aO)).sub s) v t/\
  ∀k,fp ((dS H nb bs cons (find aO)).sub s) v t k->∃o' s0 t0,find bs o=some (some o')/\find aO o'=some (s0,t0)/\H.val o'=some v/\fp (H.sub s0) v t0 k:=by
  intro o s t ho;obtain⟨a1,a2,a3,a4,u,v,b1,b2,b3,b4,b5,b6⟩:=SJ o s t ho
  have fY:(dS H nb bs cons (find aO)).sub s=vB H (find aO) (find bs o):=by
   simp only[dS];rw[if_neg (by omega),a4]
  rw[fY];refine⟨v,sJ o u b1 v b2,b3,?_,b5,fun k hk=>?_⟩
  .rw[b4];simp only[dS];rw[if_neg (by omega)];exact a3
  .obtain⟨o',s0,t0,c1,c2,c3,c4⟩:=b6 k hk;exact⟨o',s0,t0,by rw[b1,c1],c2,c3,c4⟩
 refine⟨fun o s t ho=>?_,fun o o' s s' t t' v v' bP ho kO hv dz k hk dO=>?_,fun m hm _=>Fb m hm,qa.lt,hU1,qa.gl⟩
 .rcases part o s t ho with h1|h1
  .obtain⟨v,a1,a2,a3,a4,a5⟩:=SK o s t h1
   refine⟨v,a1,a2,a3,a4,fun k hk hF=>?_,fun k hk=>?_,fun k hk=>?_⟩<;>obtain⟨o',s0,t0,b1,b2,b3,b4⟩:=a5 k hk<;>obtain⟨v',dz,cn⟩:=qa.obj _ _ _ b2
   all_goals
    rw[b3]at dz;obtain rfl:=ajk dz
   .exact cn.no k b4 hF
   .exact cn.lt k b4
   .exact hU2 _ _ _ _ _ (ju b1) b2 b3 b4
  .obtain⟨q1,q2,v,a1,a2,a3,a4,a6,a5⟩:=Au o s t h1;obtain⟨v',dz,cn⟩:=qa.obj _ _ _ q2;rw[a1]at dz;obtain rfl:=ajk dz;exact⟨v,a2,a3,a4,by rw[a6];exact a5,by rw[a6];exact cn.no,by rw[a6];exact cn.lt,fun k hk=>hU3 _ _ _ _ _ h1 a1 (by rwa [a6]at hk)⟩
 .rcases part o s t ho with h1|h1<;>rcases part o' s' t' kO with h2|h2
  .obtain⟨u,a1,_,_,_,a5⟩:=SK o s t h1;obtain⟨u',c1,_,_,_,c5⟩:=SK o' s' t' h2;rw[hv]at a1;rw[dz]at c1;obtain rfl:=ajk a1;obtain rfl:=ajk c1;obtain⟨p,s0,t0,d1,d2,d3,d4⟩:=a5 k hk;obtain⟨p',s0',t0',e1,e2,e3,e4⟩:=c5 k dO;refine qa.apart p p' _ _ _ _ _ _ (fun e=>bP ?_) d2 e2 d3 e3 k d4 e4;subst e;exact sI As d1 e1
  .obtain⟨u,a1,_,_,_,a5⟩:=SK o s t h1;obtain⟨q1,q2,u',c1,c2,_,_,c6,_⟩:=Au o' s' t' h2;rw[c6]at dO;rw[hv]at a1;rw[dz]at c2;obtain rfl:=ajk a1;obtain rfl:=ajk c2;obtain⟨p,s0,t0,d1,d2,d3,d4⟩:=a5 k hk;exact qa.apart p o' _ _ _ _ _ _ (fun e=>q1 (e▸ju d1)) d2 q2 d3 c1 k d4 dO
  .obtain⟨u,a1,_,_,_,a5⟩:=SK o' s' t' h2;obtain⟨q1,q2,u',c1,c2,_,_,c6,_⟩:=Au o s t h1;rw[c6]at hk;rw[dz]at a1;rw[hv]at c2;obtain rfl:=ajk a1;obtain rfl:=ajk c2;obtain⟨p,s0,t0,d1,d2,d3,d4⟩:=a5 k dO;exact qa.apart o p _ _ _ _ _ _ (fun e=>q1 (e▸ju d1)) q2 d2 c1 d3 k hk d4
  .obtain⟨q1,q2,u,c1,c2,_,_,c6,_⟩:=Au o s t h1;obtain⟨q1',q2',u',Vz,SL,_,_,c6',_⟩:=Au o' s' t' h2;rw[c6]at hk;rw[c6']at dO;rw[hv]at c2;rw[dz]at SL;obtain rfl:=ajk c2;obtain rfl:=ajk SL;exact qa.apart o o' _ _ _ _ _ _ bP q2 q2' c1 Vz k hk dO
end
end Go.Proofs.YtmihpkfkbfgigaaGreatDoor
end
section
open _root_.Go.Addr.mk renaming injEq->akS
open _root_.List.cons renaming injEq->ake
open _root_.List renaming getD->ajN,length_cons->ajy
open _root_.Nat renaming add_zero->akm,beq->aju,le_refl->ajo
open _root_.Option.some renaming inj->ajk,injEq->ajx
open _root_.Prod.mk renaming injEq->akl
open _root_.Go.Value.slice renaming injEq->akK
namespace Go.Proofs.YtmihpkfkbfgigaaGreatDoor
open Go Go.RowKit
structure br where
 inn:JS
 out:JS
 fn:cz inn.rows->Option (cz out.rows)
def w8:List Value->Value
 |[v]=>v
 |vs=> .tuple vs.toArray
structure av(P:Program)(f:FuncId)(sg:br):Prop where
 fn:∃fn,P.funcs[f]? =some fn/\(fn.name== "runtime.NumGoroutine")=false/\fn.body.isNone=false
 ok:∀x y,sg.fn x=some y->∀(args:List Value)(w:World)(H:aq)(F G:Nat->Prop),args.length=sg.inn.ai.length->
  (∀t d,find (dg sg.inn.ai (dA _ x)).1 t=some d->aj H F w d (args.getD t undef))->
  au (fun k=>w.heap.size<=k\/G k) H F w (find (ic 0 sg.inn.objs (dg sg.inn.ai (dA _ x)).2)) sg.inn.nxt->iR H sg.inn.nxt->(∀k,G k->¬F k)->
  Calls P f args.toArray w fun e w'=>∃vs,e= .returned (w8 vs)/\vs.length=sg.out.ai.length/\∃H' F',Ext G w w'/\H.le H'/\(∀b,F b->F' b)/\(∀b,F' b->F b\/w.heap.size<=b\/G b)/\
   (∀t d,find (dg sg.out.ai (dA _ y)).1 t=some d->aj H' F' w' d (vs.getD t undef))/\
   au (fun k=>w.heap.size<=k\/G k) H' F' w' (find (ic sg.inn.nxt sg.out.objs (dg sg.out.ai (dA _ y)).2)) sg.out.nxt/\iR H' sg.out.nxt
def Sh.qb(φ:Nat->Nat):Sh->Sh
 | .leaf r=> .leaf r
 | .own j=> .own (φ j)
 | .nil=> .nil
 | .pair a b=> .pair (a.qb φ) (b.qb φ)
 | .junk n=> .junk n
def SS.qb(φ:Nat->Nat):SS->SS
 | .val agg t=> .val agg (t.qb φ)
 | .ptr j p off=> .ptr (φ j) p off
 | .at r=> .at r
 | .undef=> .undef
 | .fn f js=> .fn f (js.map fun c=>(φ c.1,c.2))
 | .ifc T s=> .ifc T (s.qb φ)
def OS.qb(φ:Nat->Nat):OS->OS
 | .box T t=> .box T (t.qb φ)
 | .own T r=> .own T r
 | .map T K agg V=> .map T K agg V
 | .deep T d=> .deep T d
 | .dmap T K E r=> .dmap T K E r
def rv(φ:Nat->Nat):List (Nat×SS)->List (Nat×SS)
 |[]=>[]
 |(t,s)::l=>(t,s.qb φ)::rv φ l
def Bc(φ:Nat->Nat):List (Nat×OS)->List (Nat×OS)
 |[]=>[]
 |(j,s)::l=>(φ j,s.qb φ)::Bc φ l
def Row.Be:Row->Bool
 | .slice _=>false
 | .map .. =>false
 | .pair a b=>a.Be&&b.Be
 |_=>true
def DR.iS(p:Row->Bool):DR->Bool
 | .leaf r=>p r
 | .sl _ d=>d.iS p
 | .pair a b=>a.iS p&&b.iS p
def Sh.iS(p:Row->Bool):Sh->Bool
 | .leaf r=>p r
 | .pair a b=>a.iS p&&b.iS p
 |_=>true
def SS.iS(p:Row->Bool):SS->Bool
 | .val _ t=>t.iS p
 | .at r=>p (.slice r)
 | .ifc _ s=>s.iS p
 |_=>true
def OS.iS(p:Row->Bool):OS->Bool
 | .box _ t=>t.iS p
 | .own _ r=>p r
 | .map _ _ _ V=>p V
 | .deep _ d=>d.iS p
 | .dmap _ _ _ r=>p r
def qD(p:Row->Bool):List (Nat×SS)->Bool
 |[]=>true
 |(_,s)::l=>s.iS p&&qD p l
def xR(p:Row->Bool):List (Nat×OS)->Bool
 |[]=>true
 |(_,s)::l=>s.iS p&&xR p l
section
variable {H H':aq} {F F':Nat->Prop} {w w':World} {φ:Nat->Nat} {p:Row->Bool}
theorem cD.DI:{r:Row}->{cs:List Value}->{x:r.den}->r.Be=true->cD F w r cs x->cD F' w' r cs x
 | .int _,_,_,_,h=>h
 | .bool,_,_,_,h=>h
 | .str,_,_,_,h=>h
 | .jE,_,_,_,h=>h
 | .nul _,_,_,_,h=>h
 | .map ..,_,_,hf,_=>by cases hf
 | .slice _,_,_,hf,_=>by cases hf
 | .pair a b,_,_,hf,h=>by
   obtain⟨c1,c2,e,h1,h2⟩:=h;obtain⟨f1,f2⟩:=cV hf;exact⟨c1,c2,e,cD.DI f1 h1,cD.DI f2 h2⟩
def Ren(H H':aq)(φ:Nat->Nat):Prop:=∀j v,H.val j=some v->H'.val (φ j)=some v
def ry(p:Row->Bool)(F F':Nat->Prop)(w:World):Prop:=∀r,p r=true->∀cs x,cD F w r cs x->cD F' w r cs x
theorem oN:(sh:Sh)->(vs:List kM)->(ow (sh.qb φ) vs).2=(ow sh vs).2
 | .leaf r,[]=>rfl
 | .leaf r,_::_=>rfl
 | .own j,vs=>rfl
 | .nil,vs=>rfl
 | .pair a b,vs=>by
   show(ow (b.qb φ) (ow (a.qb φ) vs).2).2=_
   rw[oN a,oN b];rfl
 | .junk _,_=>rfl
theorem xS(s:SS)(vs:List kM):(ey (s.qb φ) vs).2=(ey s vs).2:=by
 induction s with
 |ifc T s ih=>exact ih
 |val agg t=>exact oN t vs
 |ptr j p off=>rfl
 |«at» r=>cases vs<;>rfl
 |undef=>rfl
 |fn f js=>rfl
theorem xT(s:OS)(vs:List kM):(cr (s.qb φ) vs).2=(cr s vs).2:=by
 cases s with
 |box T t=>exact oN t vs
 |own T r=>rfl
 |map T K agg V=>rfl
 |deep T d=>rfl
 |dmap T K E r=>rfl
theorem Bf:(l:List (Nat×SS))->(vs:List kM)->(dg (rv φ l) vs).2=(dg l vs).2
 |[],_=>rfl
 |(t,s)::l,vs=>by
  show(dg (rv φ l) (ey (s.qb φ) vs).2).2=(dg l (ey s vs).2).2
  rw[xS,Bf l]
theorem rz(hr:Ren H H' φ)(hm:ry p F F' w):{sh:Sh}->{vs:List kM}->{cs:List Value}->sh.iS p=true->Holds H F w (ow sh vs).1 cs->Holds H' F' w (ow (sh.qb φ) vs).1 cs
 | .leaf r,[],cs,_,h=>h
 | .leaf r,⟨s,x⟩::vs,cs,hp,h=>by
   have h':Holds H F w (bif s.beq r then Tree.leaf s x else .nil) cs:=h
   show Holds H' F' w (bif s.beq r then Tree.leaf s x else .nil) cs
   cases hb:s.beq r with
   |true=>
    rw[hb,cond_true]at h';obtain rfl:=Row.eq_of_beq hb;exact hm _ hp _ _ h'
   |false=>rw[hb]at h';exact h'
 | .own j,vs,cs,_,h=>by obtain⟨v,h1,h2⟩:=h;exact⟨v,hr j v h1,h2⟩
 | .nil,vs,cs,_,h=>h
 | .pair a b,vs,cs,hp,h=>by
   obtain⟨c1,c2,e,h1,h2⟩:=h;obtain⟨p1,p2⟩:=cV hp;refine⟨c1,c2,e,rz hr hm p1 h1,?_⟩;rw[oN a];exact rz hr hm p2 h2
 | .junk _,vs,cs,_,h=>h
theorem kX.qb(hr:Ren H H' φ):{cs:List (Nat×List Bool×Nat)}->{vs:List Value}->kX H cs vs->kX H' (cs.map fun c=>(φ c.1,c.2)) vs
 |[],_,h=>h
 |_::_,_,h=>by obtain⟨v,us,e,⟨b,h1,h2⟩,h3⟩:=h;exact⟨v,us,e,⟨b,hr _ _ h1,h2⟩,kX.qb hr h3⟩
theorem Hm(hr:Ren H H' φ)(hm:ry p F F' w){s:SS}{vs:List kM}{v:Value}(hp:s.iS p=true)(h:aj H F w (ey s vs).1 v):aj H' F' w (ey (s.qb φ) vs).1 v:=by
 induction s generalizing v with
 |ifc T s ih=>
  obtain⟨u,e,h2⟩:=h;exact⟨u,e,ih hp h2⟩
 |val agg t=>
  obtain⟨cs,h1,h2⟩:=h;exact⟨cs,rz hr hm hp h1,h2⟩
 |ptr j p off=>
  obtain⟨b,h1,h2⟩:=h;exact⟨b,hr _ _ h1,h2⟩
 |«at» r=>
  match vs,h with
  |[],h=>exact h
  |⟨s,x⟩::vs,h=>
   have h':aj H F w (bif s.beq r then al.at s x else .dead) v:=h
   show aj H' F' w (bif s.beq r then al.at s x else .dead) v
   cases hb:s.beq r with
   |false=>trivial
   |true=>
    rw[hb,cond_true]at h';obtain rfl:=Row.eq_of_beq hb;obtain⟨b,off,rfl,hF,es,h1,h2,h3⟩:=h'
    have fZ:cD F w (.slice s) [.slice (some ⟨b,off,none⟩) 1 1] [x]:=⟨some ⟨b,off,none⟩,1,rfl,ajo _,by unfold maxLen;omega,fun i hi=>by
     have e:i=0:=by simp at hi;omega
     subst e
     exact⟨b,off,es,rfl,hF,h1,fun j u hu=>by rw[Nat.zero_mul,akm];exact h2 j u hu,h3⟩⟩
    obtain⟨A,cap,e1,_,_,qX⟩:=hm (.slice s) hp _ _ fZ;obtain⟨b',dI,mL,hA,g1,g2,g3,g4⟩:=qX 0 (by simp);simp only[ake,akK,and_true]at e1;obtain⟨e1,_,_⟩:=e1;rw[<-e1]at hA;simp only[ajx,akS,and_true]at hA;obtain⟨rfl,rfl⟩:=hA;exact⟨b,off,rfl,g1,mL,g2,fun j u hu=>by have:=g3 j u hu;rwa [Nat.zero_mul,akm]at this,g4⟩
 |undef=>exact h
 |fn f js=>
  obtain⟨us,h1,h2⟩:=h;exact⟨us,h1,h2.qb hr⟩
theorem lQ.om{K:Row}{agg:Bool}{V:Row}(hm:∀cs x,cD F w V cs x->cD F' w' V cs x):{es:List MapEntry}->{l:List (K.den×V.den)}->lQ H F w K agg V es l->lQ H' F' w' K agg V es l
 |[],_,h=>h
 |_::_,_,h=>by
  obtain⟨k,x,l',e,h1,⟨cs,h2,Jt⟩,h3⟩:=h;exact⟨k,x,l',e,h1,⟨cs,hm _ _ h2,Jt⟩,lQ.om hm h3⟩
theorem cD.vE(hm:ry p F F' w):{d:DR}->{cs:List Value}->{x:d.low.den}->d.iS p=true->cD F w d.low cs x->cD F' w d.low cs x
 | .leaf r,_,_,hp,h=>hm r hp _ _ h
 | .sl _ _,_,_,_,h=>h
 | .pair a b,_,_,hp,h=>by
   obtain⟨p1,p2⟩:=cV hp;obtain⟨c1,c2,e,h1,h2⟩:=h;exact⟨c1,c2,e,cD.vE hm p1 h1,cD.vE hm p2 h2⟩
theorem jW.om(hm:ry p F F' w){d:DR}(hp:d.iS p=true){T:TypeId}{v:Value}{l:List d.low.den}(h:jW F w T d.low v l):jW F' w T d.low v l:=by
 obtain⟨xs,h1,h2⟩:=h;exact⟨xs,h1,fun i hi=>cD.vE hm hp (h2 i hi)⟩
theorem jU.om(hm:ry p F F' w):{d:DR}->{x':d.low.den}->{x:d.row.den}->{S:Nat->Prop}->d.iS p=true->jU F w d x' x S->jU F' w d x' x S
 | .leaf _,_,_,_,_,h=>h
 | .sl _ d,_,_,_,hp,h=>by
   obtain⟨lh,Ss,h1,h2,h3,h4⟩:=h;exact⟨lh,Ss,h1.om hm (show d.iS p=true from hp),h2,fun i a b=>jU.om hm (show d.iS p=true from hp) (h3 i a b),h4⟩
 | .pair a b,_,_,_,hp,h=>by
   obtain⟨p1,p2⟩:=cV hp;obtain⟨A,B,h1,h2,h3⟩:=h;exact⟨A,B,jU.om hm p1 h1,jU.om hm p2 h2,h3⟩
theorem DJ(T:TypeId)(d:DR):(vs:List kM)->∃l,(cr (.deep T d) vs).1= .deep T d l none
 |[]=>⟨[],rfl⟩
 |⟨.slice s,l⟩::vs=>by
  unfold cr;simp only
  split<;>exact⟨_,rfl⟩
 |⟨.int _,_⟩::_|⟨.bool,_⟩::_|⟨.str,_⟩::_|⟨.jE,_⟩::_|⟨.nul _,_⟩::_|⟨.pair _ _,_⟩::_|⟨.map ..,_⟩::_=>⟨[],rfl⟩
theorem Hn(T:TypeId)(K:Row)(agg:Bool)(V:Row):(vs:List kM)->∃l,(cr (.map T K agg V) vs).1= .map T K agg V l
 |[]=>⟨[],rfl⟩
 |⟨.slice (.pair K' V'),l⟩::vs=>by
  unfold cr;simp only
  split<;>exact⟨_,rfl⟩
 |⟨.slice (.int _),_⟩::_|⟨.slice .bool,_⟩::_|⟨.slice .str,_⟩::_|⟨.slice (.slice _),_⟩::_|⟨.slice .jE,_⟩::_|⟨.slice (.nul _),_⟩::_|⟨.slice (.map ..),_⟩::_=>⟨[],rfl⟩
 |⟨.int _,_⟩::_|⟨.bool,_⟩::_|⟨.str,_⟩::_|⟨.jE,_⟩::_|⟨.nul _,_⟩::_|⟨.pair _ _,_⟩::_|⟨.map ..,_⟩::_=>⟨[],rfl⟩
theorem fQ.om(hm:ry p F F' w){K:Row}{E:TypeId}{r:Row}(hp:p r=true):{es:List MapEntry}->{l:List (K.den×List r.den)}->{S:Nat->Prop}->fQ H F w K E r none es l S->fQ H' F' w K E r none es l S
 |[],_,_,h=>h
 |_::_,_,_,h=>by
  obtain⟨k,y,l',A,B,e,h1,⟨⟨xs,h2,h3⟩,h4⟩,h5,h6⟩:=h;exact⟨k,y,l',A,B,e,h1,⟨⟨xs,h2,fun i hi=>hm r hp _ _ (h3 i hi)⟩,h4⟩,fQ.om hm hp h5,h6⟩
theorem DK(T:TypeId)(K:Row)(E:TypeId)(r:Row):(vs:List kM)->∃l,(cr (.dmap T K E r) vs).1= .dmap T K E r l none
 |[]=>⟨[],rfl⟩
 |⟨.slice (.pair K' (.slice s)),l⟩::vs=>by
  unfold cr;simp only
  split<;>exact⟨_,rfl⟩
 |⟨.slice (.pair _ (.int _)),_⟩::_|⟨.slice (.pair _ .bool),_⟩::_|⟨.slice (.pair _ .str),_⟩::_|⟨.slice (.pair _ .jE),_⟩::_|⟨.slice (.pair _ (.nul _)),_⟩::_|⟨.slice (.pair _ (.pair _ _)),_⟩::_|⟨.slice (.pair _ (.map ..)),_⟩::_=>⟨[],rfl⟩
 |⟨.slice (.int _),_⟩::_|⟨.slice .bool,_⟩::_|⟨.slice .str,_⟩::_|⟨.slice (.slice _),_⟩::_|⟨.slice .jE,_⟩::_|⟨.slice (.nul _),_⟩::_|⟨.slice (.map ..),_⟩::_=>⟨[],rfl⟩
 |⟨.int _,_⟩::_|⟨.bool,_⟩::_|⟨.str,_⟩::_|⟨.jE,_⟩::_|⟨.nul _,_⟩::_|⟨.pair _ _,_⟩::_|⟨.map ..,_⟩::_=>⟨[],rfl⟩
theorem sK(hr:Ren H H' φ)(hm:ry p F F' w){s:OS}{vs:List kM}{S:Nat->Prop}{v:Value}(hp:s.iS p=true)(h:iE H F w S v (cr s vs).1):
 iE H' F' w S v (cr (s.qb φ) vs).1/\(cr (s.qb φ) vs).1.base=(cr (s.qb φ) vs).1/\(∀k,fp S v (cr (s.qb φ) vs).1 k->fp S v (cr s vs).1 k):=by
 have own:∀(T:TypeId)(q:Row)(l:List q.den),p q=true->iE H F w S v (.own T q l)->iE H' F' w S v (.own T q l):=fun T q l hq ⟨xs,hx,h3⟩=>⟨xs,hx,fun i hi=>hm q hq _ _ (h3 i hi)⟩
 cases s with
 |box T t=>
  obtain⟨b,es,e,h1,h2⟩:=h;exact⟨⟨b,es,e,h1,rz hr hm hp h2⟩,rfl,fun k hk=>hk⟩
 |own T r=>
  match vs,h with
  |[],h=>exact⟨own T r [] hp h,rfl,fun _ h=>h⟩
  |⟨.slice s,l⟩::vs,h=>
   have h':iE H F w S v (bif s.beq r then Th.own T s l else .own T r []):=h
   show iE H' F' w S v (bif s.beq r then Th.own T s l else .own T r [])/\Th.base (bif s.beq r then Th.own T s l else .own T r [])=(bif s.beq r then Th.own T s l else .own T r [])/\∀k,fp S v (bif s.beq r then Th.own T s l else .own T r []) k->fp S v (bif s.beq r then Th.own T s l else .own T r []) k
   cases hb:s.beq r with
   |true=>
    rw[hb,cond_true]at h';obtain rfl:=Row.eq_of_beq hb;exact⟨own T s l hp h',rfl,fun _ h=>h⟩
   |false=>
    rw[hb,cond_false]at h';exact⟨own T r [] hp h',rfl,fun _ h=>h⟩
  |⟨.int _,_⟩::vs,h=>exact⟨own T r [] hp h,rfl,fun _ h=>h⟩
  |⟨.bool,_⟩::vs,h=>exact⟨own T r [] hp h,rfl,fun _ h=>h⟩
  |⟨.str,_⟩::vs,h=>exact⟨own T r [] hp h,rfl,fun _ h=>h⟩
  |⟨.jE,_⟩::vs,h=>exact⟨own T r [] hp h,rfl,fun _ h=>h⟩
  |⟨.nul _,_⟩::vs,h=>exact⟨own T r [] hp h,rfl,fun _ h=>h⟩
  |⟨.map ..,_⟩::vs,h=>exact⟨own T r [] hp h,rfl,fun _ h=>h⟩
  |⟨.pair _ _,_⟩::vs,h=>exact⟨own T r [] hp h,rfl,fun _ h=>h⟩
 |map T K agg V=>
  have gen:∀l:List (K.den×V.den),iE H F w S v (.map T K agg V l)->iE H' F' w S v (.map T K agg V l):=by
   rintro l ⟨b,es,clock,e,h1,h2,h3⟩
   exact⟨b,es,clock,e,h1,h2,lQ.om (fun cs x hr=>hm V hp cs x hr) h3⟩
  obtain⟨l,hl⟩:=Hn T K agg V vs
  show iE H' F' w S v (cr (OS.map T K agg V) vs).1/\(cr (OS.map T K agg V) vs).1.base=(cr (OS.map T K agg V) vs).1/\∀k,fp S v (cr (OS.map T K agg V) vs).1 k->fp S v (cr (OS.map T K agg V) vs).1 k
  rw[hl]at h⊢;exact⟨gen l h,rfl,fun _ h=>h⟩
 |deep T d=>
  obtain⟨l,hl⟩:=DJ T d vs
  show iE H' F' w S v (cr (OS.deep T d) vs).1/\(cr (OS.deep T d) vs).1.base=(cr (OS.deep T d) vs).1/\∀k,fp S v (cr (OS.deep T d) vs).1 k->fp S v (cr (OS.deep T d) vs).1 k
  rw[hl]at h⊢;refine⟨?_,rfl,fun _ h=>h⟩;have h':jU F w (.sl T d) v l S:=h;exact(jU.om (d:= .sl T d) hm hp h':jU F' w (.sl T d) v l S)
 |dmap T K E r=>
  obtain⟨l,hl⟩:=DK T K E r vs
  show iE H' F' w S v (cr (OS.dmap T K E r) vs).1/\(cr (OS.dmap T K E r) vs).1.base=(cr (OS.dmap T K E r) vs).1/\∀k,fp S v (cr (OS.dmap T K E r) vs).1 k->fp S v (cr (OS.dmap T K E r) vs).1 k
  rw[hl]at h⊢;refine⟨?_,rfl,fun _ h=>h⟩;obtain⟨b,es,clock,B,e,h1,h2,h3,h4,_⟩:=h;exact⟨b,es,clock,B,e,h1,h2,h3.om hm hp,h4,fun _ _ e=>by cases e⟩
theorem xU:{l:List (Nat×SS)}->{vs:List kM}->{t:Nat}->{d:al}->qD p l=true->find (dg (rv φ l) vs).1 t=some d->∃s us,d=(ey (s.qb φ) us).1/\find (dg l vs).1 t=some (ey s us).1/\s.iS p=true
 |[],_,_,_,_,h=>by cases h
 |(t0,s)::l,vs,t,d,hp,h=>by
  obtain⟨p1,p2⟩:=cV hp;have h':find ((t0,(ey (s.qb φ) vs).1)::(dg (rv φ l) (ey (s.qb φ) vs).2).1) t=some d:=h
  show∃s' us,d=_/\find ((t0,(ey s vs).1)::(dg l (ey s vs).2).1) t=_/\_
  rw[aD]at h';by_cases e:t0=t
  .rw[if_pos e]at h';exact⟨s,vs,(ajk h').symm,by rw[aD,if_pos e],p1⟩
  .rw[if_neg e]at h';rw[xS]at h';obtain⟨s',us,a1,a2,a3⟩:=xU p2 h';exact⟨s',us,a1,by rw[aD,if_neg e];exact a2,a3⟩
theorem Kg(hr:Ren H H' φ)(hm:ry p F F' w){ρ:Nat->Value}{l:List (Nat×SS)}{vs:List kM}(hp:qD p l=true)(h:∀t d,find (dg l vs).1 t=some d->aj H F w d (ρ t)):∀t d,find (dg (rv φ l) vs).1 t=some d->aj H' F' w d (ρ t):=by
 intro t d hf;obtain⟨s,us,rfl,h2,h3⟩:=xU hp hf;exact Hm hr hm h3 (h t _ h2)
theorem Bg{m m':Nat}:{l:List (Nat×OS)}->{vs:List kM}->{o s:Nat}->{t:Th}->find (ic m (Bc φ l) vs) o=some (s,t)->∃j s' us sh,φ j=o/\t=(cr (sh.qb φ) us).1/\find (ic m' l vs) j=some (s',(cr sh us).1)/\(xR p l=true->sh.iS p=true)/\rr (ic m (Bc φ l) vs) s=some t/\m<=s/\s<m+l.length/\s'=s-m+m'
 |[],_,_,_,_,h=>by cases h
 |(j,sh)::l,vs,o,s,t,h=>by
  have h':find ((φ j,(m,(cr (sh.qb φ) vs).1))::ic (m+1) (Bc φ l) (cr (sh.qb φ) vs).2) o=some (s,t):=h;rw[aD]at h';split at h'
  .rename_i e;simp only[ajx,akl]at h';obtain⟨rfl,rfl⟩:=h';refine⟨j,m',vs,sh,e,rfl,?_,fun hp=>(cV hp).1,?_,ajo _,by simp,by omega⟩
   .show find ((j,(m',(cr sh vs).1))::_) j=_
    rw[aD,if_pos rfl]
   .show(bif aju m m then _ else _)=_
    simp
  .rename_i e;rw[xT]at h';obtain⟨j',s',us,sh',a1,a2,a3,a4,a5,a6,a7,a8⟩:=Bg (m':=m'+1) h';refine⟨j',s',us,sh',a1,a2,?_,fun hp=>a4 (cV hp).2,?_,by omega,by rw[ajy];omega,by omega⟩
   .show find ((j,(m',(cr sh vs).1))::ic (m'+1) l (cr sh vs).2) j'=_
    rw[aD,if_neg (fun e'=>e (by rw[e',a1]))];exact a3
   .show(bif aju m s then _ else rr (ic (m+1) (Bc φ l) (cr (sh.qb φ) vs).2) s)=_
    have:aju m s=false:=by
     cases hb:aju m s with
     |false=>rfl
     |true=>have:=beq_true hb;omega
    rw[this,cond_false,xT];exact a5
def DL:List (Nat×al)->Option (List (Bool×Tree))
 |[]=>some []
 |(_, .val a t)::l=>match DL l with
  |some ds=>some ((a,t)::ds)
  |none=>none
 |_::_=>none
def Kh:List (Nat×al)->Option al
 |[]=>some .dead
 |[(_,d)]=>some d
 |l=>match DL l with
  |some ds=>some (.tup ds)
  |none=>none
def rA:Nat->List (Nat×SS)->Bool
 |_,[]=>true
 |k,(t,_)::l=>aju t k&&rA (k+1) l
theorem Fc:{l:List (Nat×SS)}->{vs:List kM}->{k t:Nat}->{d:al}->rA k l=true->find (dg l vs).1 t=some d->k<=t
 |[],_,_,_,_,_,h=>by cases h
 |(t0,s)::l,vs,k,t,d,hi,h=>by
  obtain⟨h1,h2⟩:=cV hi;have h':find ((t0,(ey s vs).1)::(dg l (ey s vs).2).1) t=some d:=h;rw[aD]at h';have:=beq_true h1;split at h'
  .omega
  .have:=Fc h2 h';omega
theorem Ki{f:Nat->Value}:{l:List (Nat×SS)}->{vs:List kM}->{k:Nat}->{ds:List (Bool×Tree)}->rA k l=true->(∀t d,find (dg l vs).1 t=some d->aj H F w d (f t))->DL (dg l vs).1=some ds->rb H F w ds ((List.range' k l.length).map f)
 |[],_,_,_,_,_,h=>by cases h;rfl
 |(t0,s)::l,vs,k,ds,hi,nn,h=>by
  obtain⟨h1,h2⟩:=cV hi;obtain rfl:=beq_true h1;have h':DL ((t0,(ey s vs).1)::(dg l (ey s vs).2).1)=some ds:=h;have SM:∀t d,find ((t0,(ey s vs).1)::(dg l (ey s vs).2).1) t=some d->aj H F w d (f t):=nn;have h0:=SM t0 _ (by rw[aD,if_pos rfl]);generalize(ey s vs).1=d0 at*
  cases d0<;>unfold DL at h'<;>try cases h'
  rename_i a t
  split at h'<;>cases h'
  rename_i Vv uz;refine⟨f t0,(List.range' (t0+1) l.length).map f,by simp[List.range'_succ],h0,Ki h2 (fun t d hf=>SM t d ?_) uz⟩;have:=Fc h2 hf;rw[aD,if_neg (by omega)];exact hf
theorem Bh:{l:List (Nat×SS)}->{k:Nat}->rA k (rv φ l)=rA k l
 |[],_=>rfl
 |(t,s)::l,k=>by
  show(aju t k&&rA (k+1) (rv φ l))=_
  rw[Bh];rfl
theorem tJ:{l:List (Nat×SS)}->(rv φ l).length=l.length
 |[]=>rfl
 |(t,s)::l=>by
  show(rv φ l).length+1=l.length+1
  rw[tJ]
theorem DM(us:List Value):(List.range' 0 us.length).map (fun t=>us.getD t undef)=us:=by
 apply List.ext_getElem (by simp);intro i h1 h2;simp[ajN,h2]
theorem PQ{l:List (Nat×SS)}{vs:List kM}{us:List Value}{D:al}(hi:rA 0 l=true)(hl:us.length=l.length)(nn:∀t d,find (dg l vs).1 t=some d->aj H F w d (us.getD t undef))(h:Kh (dg l vs).1=some D):aj H F w D (w8 us):=by
 have tup:∀ds,DL (dg l vs).1=some ds->us.length≠1->aj H F w (.tup ds) (w8 us):=by
  intro ds uz bP;have:=Ki hi nn uz;rw[<-hl,DM]at this;refine⟨us,?_,this⟩
  match us,bP with
  |[],_=>rfl
  |[_],h=>exact absurd rfl h
  |_::_::_,_=>rfl
 match l,hl,h with
 |[],_,h=>obtain rfl:=ajk h;trivial
 |[(t,s)],hl,h=>
  have h':Kh [(t,(ey s vs).1)]=some D:=h;obtain rfl:=ajk h';have ht:=beq_true (cV hi).1
  match us,hl with
  |[u],_=>
   have:=nn t (ey s vs).1 (by
    show find [(t,(ey s vs).1)] t=_
    rw[aD,if_pos rfl])
   rw[ht]at this;exact this
 |(t,s)::(t',s')::l,hl,h=>
  have h':(match DL (dg ((t,s)::(t',s')::l) vs).1 with|some ds=>some (al.tup ds)|none=>none)=some D:=h;split at h'
  .rename_i ds uz;obtain rfl:=ajk h';exact tup ds uz (by simp at hl;omega)
  .cases h'
end
end Go.Proofs.YtmihpkfkbfgigaaGreatDoor
end
section
open _root_.List renaming append_nil->akd
open _root_.Nat renaming beq->aju,blt->akf,le_refl->ajo,lt_of_lt_of_le->aj7
open _root_.Option renaming isSome_iff_exists->ajZ,none_or->aku
open _root_.Option.some renaming inj->ajk,injEq->ajx
open _root_.Prod.mk renaming injEq->akl
namespace Go.Proofs.YtmihpkfkbfgigaaGreatDoor
open Go Go.RowKit
def ie:Nat->List al->List (Nat×al)
 |_,[]=>[]
 |k,d::ds=>(k,d)::ie (k+1) ds
def OH(n:Nat)(bs:Bs)(aO:List (Nat×(Nat×Th)))(m:Nat)(j:Nat):Nat:=
 bif akf j m then(match find bs j with
  |some (some o)=>(match find aO o with
   |some _=>o
   |none=>n+j)
  |_=>n+j)else n+j
def oo(aO:List (Nat×(Nat×Th))):List Nat->List (Nat×(Nat×Th))
 |[]=>[]
 |o::os=>match find aO o with
  |some (s,t)=>bif dZ t then(o,(s,t))::oo aO os else oo aO os
  |none=>oo aO os
def always(_:Row):Bool:=true
def Fe(sg:br):Bool:=qD Row.Be sg.out.ai&&xR Row.Be sg.out.objs
def sL{R:Type}(sg:br)(n:Nat)(bs:Bs)(aO:List (Nat×(Nat×Th)))(nd:List Nat)(y:cz sg.out.rows)(k:dY->Option R):Option R:=
 match Kh (dg (rv (OH n bs aO sg.inn.nxt) sg.out.ai) (dA _ y)).1 with
 |some D=>bif Fe sg then k {dst:=D,eat:=gI bs,make:=ic n (Bc (OH n bs aO sg.inn.nxt) sg.out.objs) (dg (rv (OH n bs aO sg.inn.nxt) sg.out.ai) (dA _ y)).2}
   else k {dst:=D,eat:=gI bs++nd,make:=ic n (Bc (OH n bs aO sg.inn.nxt) sg.out.objs) (dg (rv (OH n bs aO sg.inn.nxt) sg.out.ai) (dA _ y)).2++oo aO nd}
 |none=>none
def n4{R:Type}(objs:List (Nat×(Nat×Th)))(n:Nat)(f:FuncId)(ds:List al)(k:dY->Option R):List (Nat×br)->Option R
 |[]=>none
 |(g,sg)::tab=>bif aju g f then(match xP 0 [] sg.inn (ie 0 ds) objs with
    |some (x,bs,aO)=>bif aju ds.length sg.inn.ai.length&&rA 0 sg.out.ai&&Nat.ble sg.out.nxt 16&&Nat.ble sg.out.objs.length 16&&(qD always sg.out.ai)then
      (sg.fn x).bind fun y=>sL sg n bs aO (xO 0 sg.inn (ie 0 ds) objs) y k else none
    |none=>n4 objs n f ds k tab)else n4 objs n f ds k tab
def SN(c:Nat×List Bool×Nat):al:= .ptr c.1 c.2.1 c.2.2
theorem vF{H:aq}{F:Nat->Prop}{w:World}:{cs:List (Nat×List Bool×Nat)}->{vs:List Value}->kX H cs vs->fl H F w (cs.map SN) vs
 |[],_,h=>h
 |_::_,_,h=>by obtain⟨v,us,e,h1,h3⟩:=h;exact⟨v,us,e,h1,vF h3⟩
theorem rB{H:aq}{F:Nat->Prop}{w:World}:{ds es:List al}->{vs us:List Value}->fl H F w ds vs->fl H F w es us->fl H F w (ds++es) (vs++us)
 |[],_,vs,_,h,h'=>by rw[show vs=[]from h];exact h'
 |_::_,_,_,_,h,h'=>by obtain⟨v,us,rfl,h1,h2⟩:=h;exact⟨v,_,rfl,h1,rB h2 h'⟩
def Ff(rd:Operand->Option al)(x:Operand):Option (FuncId×List (Nat×List Bool×Nat)):=
 match rd x with
 |some (.fn f caps)=>some (f,caps)
 |_=>none
def xV{R:Type}(tab:List (Nat×br))(rd:Operand->Option al)(objs:List (Nat×(Nat×Th)))(n:Nat)(x:Operand)(args:List Operand)(k:dY->Option R):Option R:=
 match Ff rd x with
 |some (f,caps)=>match rk rd args with
  |some ds=>n4 objs n f (ds++caps.map SN) k tab
  |none=>none
 |none=>none
section
variable {P:Program} {ρ:Nat->Value} {w w':World} {H H':aq} {F F':Nat->Prop} {U:Nat->Prop} {n:Nat} {R:Type}
variable {ty:TypeId} {pos:String} {aft:Array Edge} {dst:Option Nat}
theorem oO:{ds:List al}->{vs:List Value}->{k:Nat}->fl H F w ds vs->∀t d,find (ie k ds) t=some d->k<=t/\aj H F w d (vs.getD (t-k) undef)
 |[],_,_,_,_,_,h=>by cases h
 |d0::ds,vs,k,h,t,d,hf=>by
  obtain⟨v,us,rfl,h1,h2⟩:=h;have pW:find ((k,d0)::ie (k+1) ds) t=some d:=hf;rw[aD]at pW;split at pW
  .rename_i e;subst e;obtain rfl:=ajk pW;exact⟨ajo _,by simpa using h1⟩
  .obtain⟨h3,h4⟩:=oO h2 t d pW;refine⟨by omega,?_⟩;rw[show t-k=(t-(k+1))+1 from by omega];simpa using h4
theorem mz{aO:List (Nat×(Nat×Th))}:{nd:List Nat}->{o s:Nat}->{t:Th}->find (oo aO nd) o=some (s,t)->o∈nd/\find aO o=some (s,t)/\dZ t=true
 |[],_,_,_,h=>by cases h
 |o0::nd,o,s,t,h=>by
  unfold oo at h;split at h
  .rename_i s0 t0 h0
   cases hb:dZ t0 with
   |true=>
    rw[hb,cond_true,aD]at h;split at h
    .rename_i e;simp only[ajx,akl]at h;obtain⟨rfl,rfl⟩:=h;subst e;exact⟨by simp,h0,hb⟩
    .obtain⟨a,b⟩:=mz h;exact⟨by simp[a],b⟩
   |false=>
    rw[hb,cond_false]at h;obtain⟨a,b⟩:=mz h;exact⟨by simp[a],b⟩
  .obtain⟨a,b⟩:=mz h;exact⟨by simp[a],b⟩
theorem rC:{l:List (Nat×OS)}->xR always l=true
 |[]=>rfl
 |(t,s)::l=>by
  have ht:∀sh:Sh,sh.iS always=true:=by
   intro sh
   induction sh with
   |leaf r=>rfl
   |own j=>rfl
   |nil=>rfl
   |junk n=>rfl
   |pair a b WJ WK=>show(a.iS always&&b.iS always)=true;rw[WJ,WK];rfl
  have:s.iS always=true:=by
   cases s with
   |box T t=>exact ht t
   |own T r=>rfl
   |map T K agg V=>rfl
   |deep T d=>
    have hd:∀d:DR,d.iS always=true:=by
     intro d
     induction d with
     |leaf r=>rfl
     |sl T d ih=>exact ih
     |pair a b WJ WK=>show(a.iS always&&b.iS always)=true;rw[WJ,WK];rfl
    exact hd d
   |dmap T K E r=>rfl
  show(s.iS always&&xR always l)=true
  rw[this,rC];rfl
def lN(H H':aq)(n:Nat)(cons:List (Nat×(Nat×Th)))(m0:Nat):aq where
 val m:=if n<=m/\m<n+16 then H'.val (m-n)else H.val m
 con m:=if n<=m/\m<n+16 then rr cons m else H.con m
 sub m:=if n<=m/\m<n+16 then H'.sub (m-n+m0)else H.sub m
theorem Ho{dd:Option Nat}{f:FuncId}{fn:Func}{g:Operand}{args:Array Operand}{vs us:List Value}{wR:Array TypeId}(hf:P.funcs[f]? =some fn)(hn:(fn.name== "runtime.NumGoroutine")=false)(hb:fn.body.isNone=false)(Wo:args.toList.map (ev ρ)=vs)(hg:ev ρ g= .func (.func f) #[] us.toArray):
 (execOp (ev ρ) ⟨dd, .call {callee:= .value g,args:=args,argTypes:=wR},ty,pos,aft,none⟩).run P w= .ok (.enter f (vs++us).toArray) w:=by
 subst Wo
 have MA:¬fn.name= "runtime.NumGoroutine" :=by simpa using hn
 have p5:¬fn.body=none:=by
  intro e;rw[e]at hb;cases hb
 have e:(Array.map (ev ρ) args++us.toArray)=(args.toList.map (ev ρ)++us).toArray:=by simp
 simp[execOp,resolve,hg,Deferred.ofValue,invoke,callFunc,hf,MA,p5,go_sem,e]
theorem Hp{sg:br}{f:FuncId}(w9:av P f sg){objs:List (Nat×(Nat×Th))}{op:Op}{k:dY->Option R}{q:R}{ds:List al}{vs:List Value}{x:cz sg.inn.rows}{bs:Bs}{aO:List (Nat×(Nat×Th))}
 (xW:fl H F w ds vs)(bw:∀fn,P.funcs[f]? =some fn->(fn.name== "runtime.NumGoroutine")=false->fn.body.isNone=false->(execOp (ev ρ) ⟨dst,op,ty,pos,aft,none⟩).run P w= .ok (.enter f vs.toArray) w)(hs:au U H F w (find objs) n)
 (sM:xP 0 [] sg.inn (ie 0 ds) objs=some (x,bs,aO))
 (h':(bif aju ds.length sg.inn.ai.length&&rA 0 sg.out.ai&&Nat.ble sg.out.nxt 16&&Nat.ble sg.out.objs.length 16&&(qD always sg.out.ai)then
   (sg.fn x).bind fun y=>sL sg n bs aO (xO 0 sg.inn (ie 0 ds) objs) y k else none)=some q):
 ∃e,k e=some q/\cG P U H F w ρ (find objs) n ⟨dst,op,ty,pos,aft,none⟩ e:=by
 obtain⟨hc,h'⟩:=aG h';obtain⟨hc,hc5⟩:=cV hc;obtain⟨hc,RA⟩:=cV hc;obtain⟨hc,JQ⟩:=cV hc;obtain⟨As,uv⟩:=cV hc;have As:=beq_true As
 have JQ:sg.out.nxt<=16:=by simpa using JQ
 have RA:sg.out.objs.length<=16:=by simpa using RA
 obtain⟨y,hy,h⟩:=bind_some h';clear h';obtain⟨⟨fn,hf1,hf2,hf3⟩,nn⟩:=w9;have acj:=jX xW
 let H0:aq:=⟨fun _=>none,fun _=>none,fun _ _=>False⟩
 have Hl:au U H0 F w (find (del [] [])) 0:=⟨fun _ _ _ h=>(by cases h),fun _ _ _ _ _ _ _ _ _ h=>(by cases h),fun _ _ _=>⟨rfl,rfl⟩,hs.lt,hs.new,hs.gl⟩
 have hk0:cB H0 F w H F w:=⟨⟨fun _ _ h=>(by cases h),fun _ _ h=>(by cases h),fun _ _ h=>(by cases h)⟩,Step.refl F w⟩
 have fZ:∀t d,find (ie 0 ds) t=some d->aj H F w d (vs.getD t undef):=fun t d hd=>by simpa using(oO xW t d hd).2
 obtain⟨F1,H1,qa,Db,Mf,w7,Bb,sJ,Fb,PR,Bi⟩:=vD (U':=fun k=>w.heap.size<=k\/∃o∈gI bs,∃s t v,find aO o=some (s,t)/\H.val o=some v/\fp (H.sub s) v t k) (ns:=[]) (objs0:=[]) (ρ:=fun t=>vs.getD t undef) sM Hl (fun _ _=>⟨rfl,rfl⟩) hk0 hs fZ;have Bi:=Bi (fun b hb=> .inl hb) (fun o s t v k h1 h2 h3 h4=> .inr ⟨o,h1,s,t,v,h2,h3,h4⟩) (fun _ _ _ _ _ h=>by cases h);generalize hG:(fun k=>∃o∈gI bs,∃s t v,find aO o=some (s,t)/\H.val o=some v/\fp (H.sub s) v t k)=G
 have SO:∀k,G k->¬F1 k:=by
  rw[<-hG]
  rintro k ⟨o,_,s,t,v,h1,h2,h3⟩
  obtain⟨v',dz,cn⟩:=qa.obj _ _ _ h1;rw[h2]at dz;obtain rfl:=ajk dz;exact cn.no k h3
 have WL:∀k,G k->cm H (find objs) (gI bs) k:=by
  rw[<-hG]
  rintro k ⟨o,ho,s,t,v,h1,h2,h3⟩
  rcases hZ w7 o s t h1 with h4|h4
  .exact⟨o,ho,s,t,v,h4,h2,h3⟩
  .exact(gE h4 h3).elim
 have SP:au (fun k=>w.heap.size<=k\/G k) H1 F1 w (find (ic 0 sg.inn.objs (dg sg.inn.ai (dA sg.inn.rows x)).2)) sg.inn.nxt:=by
  rw[show del [] ([]:List (Nat×(Nat×Th)))=[]from rfl,akd]at Bi;rw[<-hG];exact Bi
 have SQ:=nn x y hy vs w H1 F1 G (by omega) PR SP Fb SO;generalize MV:xO 0 sg.inn (ie 0 ds) objs=nd at h Mf w7;generalize WM:OH n bs aO sg.inn.nxt=φ at h;unfold sL at h;rw[WM]at h;split at h
 case h_2=>cases h
 rename_i D hD
 have G9:∀(e:dY),e.dst=D->(∀(w':World)(us:List Value)(H':aq)(F':Nat->Prop),us.length=sg.out.ai.length->Ext G w w'->H1.le H'->(∀b,F1 b->F' b)->(∀b,F' b->F1 b\/w.heap.size<=b\/G b)->
  (∀t d,find (dg sg.out.ai (dA sg.out.rows y)).1 t=some d->aj H' F' w' d (us.getD t undef))->au (fun k=>w.heap.size<=k\/G k) H' F' w' (find (ic sg.inn.nxt sg.out.objs (dg sg.out.ai (dA sg.out.rows y)).2)) sg.out.nxt->iR H' sg.out.nxt->kS H F w (find objs) n e (w8 us) w')->
  cG P U H F w ρ (find objs) n ⟨dst,op,ty,pos,aft,none⟩ e:=by
  intro e he qc;have bw:=bw fn hf1 hf2 hf3;unfold cG cd;rw[bw]
  refine SQ.mono fun e' w' ⟨us,he',M8,H',F',a1,a2,a3,a4,a5,a6,a7⟩=>⟨_,he',qc w' us H' F' M8 a1 a2 a3 a4 a5 a6 a7⟩
 generalize Ba:ic n (Bc φ sg.out.objs) (dg (rv φ sg.out.ai) (dA sg.out.rows y)).2=cons at h;have WN:=Bf (φ:=φ) sg.out.ai (dA sg.out.rows y)
 have PS:∀{H':aq},H1.le H'->iR H' sg.out.nxt->Ren H' (lN H H' n cons sg.inn.nxt) φ/\H.le (lN H H' n cons sg.inn.nxt)/\∀m,(m<n\/n+16<=m)->(H.val m=none->(lN H H' n cons sg.inn.nxt).val m=none)/\(H.con m=none->(lN H H' n cons sg.inn.nxt).con m=none):=by
  intro H' hle Au
  have M9:∀j v,H'.val j=some v->j<sg.out.nxt:=fun j v hj=>by
   rcases Nat.lt_or_ge j sg.out.nxt with g|g
   .exact g
   .rw[(Au j g).1]at hj;cases hj
  have hold:∀o v,H.val o=some v->¬(n<=o/\o<n+16):=fun o v ho hc=>by
   rw[(hs.fresh o hc.1 hc.2).1]at ho;cases ho
  refine⟨fun j v hj=>?_,⟨fun o v ho=>?_,fun s t eM=>?_,fun s t eM=>?_⟩,fun m hm=>?_⟩
  .rw[<-WM];have hjn:=M9 j v hj
   have gen:(lN H H' n cons sg.inn.nxt).val (n+j)=some v:=by
    simp only[lN];rw[if_pos (by omega),Nat.add_sub_cancel_left];exact hj
   unfold OH
   cases hb:akf j sg.inn.nxt with
   |false=>simpa using gen
   |true=>
    rw[cond_true];split
    .rename_i o ho;split
     case h_2=>exact gen
     rename_i e he;obtain⟨u,hu,_⟩:=qa.obj o e.1 e.2 he;have h1:=hle.val _ _ (sJ j (some o) ho u hu);rw[hj]at h1;obtain rfl:=ajk h1;simp only[lN];rw[if_neg (hold o _ hu)];exact hu
    .exact gen
  .simp only[lN];rw[if_neg (hold o v ho)];exact ho
  .simp only[lN];rw[if_neg (fun hc=>by rw[(hs.fresh s hc.1 hc.2).2]at eM;cases eM)];exact eM
  .simp only[lN];rw[if_neg (fun hc=>by rw[(hs.fresh s hc.1 hc.2).2]at eM;cases eM)]
  .simp only[lN];rw[if_neg (by omega),if_neg (by omega)];exact⟨id,id⟩
 have made:∀{p:Row->Bool}{us:List Value}{w':World}{H':aq}{F' F2:Nat->Prop}{eat:List Nat},us.length=sg.out.ai.length->qD p sg.out.ai=true->xR p sg.out.objs=true->ry p F' F2 w'->Ext G w w'->H1.le H'->(∀b,F2 b->F' b)->(∀o,o∈gI bs->o∈eat)->
  (∀t d,find (dg sg.out.ai (dA sg.out.rows y)).1 t=some d->aj H' F' w' d (us.getD t undef))->au (fun k=>w.heap.size<=k\/G k) H' F' w' (find (ic sg.inn.nxt sg.out.objs (dg sg.out.ai (dA sg.out.rows y)).2)) sg.out.nxt->iR H' sg.out.nxt->
  aj (lN H H' n cons sg.inn.nxt) F2 w' D (w8 us)/\Made (lN H H' n cons sg.inn.nxt) F2 w w' (cm H (find objs) eat) cons/\∀o,(find cons o).isSome->o∈eat\/n<=o:=by
  intro p us w' H' F' F2 eat M8 Sk Px VA bU hle Mf kQ yL Na SR;obtain⟨hr,_,_⟩:=PS hle SR
  have Fg:∀o s t,find cons o=some (s,t)->∃j s' us sh,φ j=o/\t=(cr (sh.qb φ) us).1/\find (ic sg.inn.nxt sg.out.objs (dg sg.out.ai (dA sg.out.rows y)).2) j=some (s',(cr sh us).1)/\sh.iS p=true/\rr cons s=some t/\n<=s/\s<n+16/\(lN H H' n cons sg.inn.nxt).sub s=H'.sub s':=by
   intro o s t ho;rw[<-Ba]at ho⊢;rw[WN]at ho⊢;obtain⟨j,s',WO,sh,a1,a2,a3,a4,a5,a6,a7,a8⟩:=Bg (m':=sg.inn.nxt) ho
   have ao:s<n+16:=by omega
   refine⟨j,s',WO,sh,a1,a2,a3,a4 Px,a5,a6,ao,?_⟩;simp only[lN];rw[if_pos ⟨a6,ao⟩,a8]
  refine⟨?_,⟨fun o s t ho=>?_,fun o o' s s' t t' v v' bP ho kO hv dz k hk dO=>?_⟩,fun o ho=>?_⟩
  .exact PQ (by rw[Bh];exact uv) (by rw[tJ];exact M8) (Kg hr VA Sk yL) hD
  .obtain⟨j,s',WO,sh,rfl,rfl,a3,a4,a5,a6,a7,a8⟩:=Fg o s t ho;rw[a8];obtain⟨v,hv,cn⟩:=Na.obj _ _ _ a3;obtain⟨b1,b2,b3⟩:=sK hr VA a4 cn.ok;refine⟨v,hr j v hv,cn.one,?_,b1,fun k hk=>⟨fun e=>cn.no k (b3 k hk) (Mf k e),cn.lt k (b3 k hk),?_⟩⟩
   .rw[b2];simp only[lN];rw[if_pos ⟨a6,a7⟩];exact a5
   .rcases cn.use k (b3 k hk)with h1|h1
    .exact .inl h1
    .obtain⟨o',kO,rest⟩:=WL k h1;exact .inr ⟨o',kQ o' kO,rest⟩
  .obtain⟨j,s1,us1,sh,rfl,rfl,a3,a4,a5,a6,_,a8⟩:=Fg o s t ho;obtain⟨j',s1',aep,sh',rfl,rfl,a3',a4',a5',a6',_,a8'⟩:=Fg o' s' t' kO;rw[a8]at hk;rw[a8']at dO;obtain⟨u,hu,cn⟩:=Na.obj _ _ _ a3;obtain⟨u',AM,AZ⟩:=Na.obj _ _ _ a3';have e1:=hr j u hu;rw[hv]at e1;obtain rfl:=ajk e1;have e2:=hr j' u' AM;rw[dz]at e2;obtain rfl:=ajk e2;exact Na.apart j j' _ _ _ _ _ _ (fun e=>bP (by rw[e])) a3 a3' hu AM k ((sK hr VA a4 cn.ok).2.2 k hk) ((sK hr VA a4' AZ.ok).2.2 k dO)
  .obtain⟨e,he⟩:=ajZ.1 ho;obtain⟨j,s',WO,sh,rfl,_⟩:=Fg o e.1 e.2 he;rw[<-WM];unfold OH
   cases akf j sg.inn.nxt with
   |false=>exact .inr (by simp)
   |true=>
    rw[cond_true];split
    .rename_i o ho;split
     .exact .inl (kQ o (ju ho))
     .exact .inr (by omega)
    .exact .inr (by omega)
 have SU:∀{w':World}{eat:List Nat},Ext G w w'->(∀o,o∈gI bs->o∈eat)->Ext (cm H (find objs) eat) w w':=fun bU kQ=>⟨bU.os,bU.tape,bU.output,bU.size,fun k hk hn=>bU.block k hk fun hG=>hn (by
  obtain⟨o,ho,rest⟩:=WL k hG
  exact⟨o,kQ o ho,rest⟩)⟩
 cases WQ:Fe sg with
 |true=>
  rw[WQ,cond_true]at h;obtain⟨p1,p2⟩:=cV WQ;refine⟨_,h,G9 _ rfl fun w' us H' F' M8 a1 a2 a3 a4 a5 a6 a7=>?_⟩;obtain⟨_,g2,g3⟩:=PS a2 a7;obtain⟨m1,m2,m3⟩:=made (F2:=F) (eat:=gI bs) M8 p1 p2 (fun r hr cs x hx=>cD.DI hr hx) a1 a2 (fun b hb=>a3 b (Db b hb)) (fun _ h=>h) a5 a6 a7;exact⟨_,F,⟨g2,SU a1 (fun _ h=>h),fun _ h=>h,fun _ h=> .inl h,fun b hb=>aj7 (hs.lt b hb) a1.size⟩,g3,m1,m2,m3⟩
 |false=>
  rw[WQ,cond_false]at h;refine⟨_,h,G9 _ rfl fun w' us H' F' M8 a1 a2 a3 a4 a5 a6 a7=>?_⟩;obtain⟨_,g2,g3⟩:=PS a2 a7;obtain⟨m1,m2,m3⟩:=made (F2:=F') (eat:=gI bs++nd) M8 hc5 rC (fun r _ cs x hx=>hx) a1 a2 (fun _ h=>h) (fun o h=>by simp[h]) a5 a6 a7
  have eM:Step F1 w F' w':=fun b hb=>⟨a3 b hb,a1.block b (qa.lt b hb) fun e=>SO b e hb⟩
  have sj:∀o s t,find (oo aO nd) o=some (s,t)->o∈nd/\dZ t=true/\∃v,H.val o=some v/\v.oneCell'=true/\H.con s=some t.base/\iE H F1 w (H.sub s) v t:=by
   intro o s t ho;obtain⟨b1,b2,b3⟩:=mz ho;obtain⟨v,hv,cn⟩:=qa.obj _ _ _ b2;exact⟨b1,b3,v,hv,cn.one,cn.con,cn.ok⟩
  have part:∀o s t,find (cons++oo aO nd) o=some (s,t)->find cons o=some (s,t)\/find (oo aO nd) o=some (s,t):=by
   intro o s t ho;rw[gS]at ho
   cases hm:find cons o with
   |some e=>rw[hm]at ho;exact .inl ho
   |none=>rw[hm,aku]at ho;exact .inr ho
  refine⟨_,F',⟨g2,SU a1 (fun o h=>by simp[h]),fun b hb=>a3 b (Db b hb),fun b hb=>?_,a6.lt⟩,g3,m1,⟨fun o s t ho=>?_,fun o o' s s' t t' v v' bP ho kO hv dz k hk dO=>?_⟩,fun o ho=>?_⟩
  .rcases a4 b hb with h1|h1|h1
   .rcases Mf b h1 with h2|⟨o,ho,rest⟩
    .exact .inl h2
    .exact .inr (.inr ⟨o,by simp[ho],rest⟩)
   .exact .inr (.inl h1)
   .obtain⟨o,ho,rest⟩:=WL b h1;exact .inr (.inr ⟨o,by simp[ho],rest⟩)
  .rcases part o s t ho with h1|h1
   .exact m2.obj o s t h1
   .obtain⟨b1,b2,v,b3,b4,b5,b6⟩:=sj o s t h1;refine⟨v,g2.val _ _ b3,b4,g2.con _ _ b5,by rw[g2.sub _ _ b5];exact b6.heap g2 eM (fun k hk=>(gE b2 hk).elim),fun k hk=>(gE b2 hk).elim⟩
  .rcases part o s t ho with h1|h1<;>rcases part o' s' t' kO with h2|h2
   .exact m2.apart o o' s s' t t' v v' bP h1 h2 hv dz k hk dO
   .exact gE (sj o' s' t' h2).2.1 dO
   .exact gE (sj o s t h1).2.1 hk
   .exact gE (sj o s t h1).2.1 hk
  .obtain⟨e,he⟩:=ajZ.1 ho
   rcases part o e.1 e.2 he with h1|h1
   .exact m3 o (by rw[h1];rfl)
   .exact .inl (by simp[(sj o _ _ h1).1])
theorem nE{SV:List (Nat×br)}(w9:∀p∈SV,av P p.1 p.2){objs:List (Nat×(Nat×Th))}{f:FuncId}{op:Op}{k:dY->Option R}{q:R}{ds:List al}{vs:List Value}
 (xW:fl H F w ds vs)(bw:∀fn,P.funcs[f]? =some fn->(fn.name== "runtime.NumGoroutine")=false->fn.body.isNone=false->(execOp (ev ρ) ⟨dst,op,ty,pos,aft,none⟩).run P w= .ok (.enter f vs.toArray) w)(hs:au U H F w (find objs) n):{tab:List (Nat×br)}->(∀p∈tab,p∈SV)->n4 objs n f ds k tab=some q->
 ∃e,k e=some q/\cG P U H F w ρ (find objs) n ⟨dst,op,ty,pos,aft,none⟩ e
 |[],_,h=>by cases h
 |(f0,sg)::tab,cn,h=>by
  unfold n4 at h
  cases hb:aju f0 f with
  |false=>rw[hb,cond_false]at h;exact nE w9 xW bw hs (fun p hp=>cn p (by simp[hp])) h
  |true=>
   rw[hb,cond_true]at h;obtain rfl:=beq_true hb;split at h
   case h_2=>exact nE w9 xW bw hs (fun p hp=>cn p (by simp[hp])) h
   rename_i x bs aO sM;exact Hp (w9 (f0,sg) (cn _ (by simp))) xW bw hs sM h
theorem Bj{tab:List (Nat×br)}(w9:∀p∈tab,av P p.1 p.2){rd:Operand->Option al}(fN:∀x d,rd x=some d->aj H F w d (ev ρ x)){objs:List (Nat×(Nat×Th))}{g:Operand}{args:Array Operand}{wR:Array TypeId}{k:dY->Option R}{q:R}
 (h:xV tab rd objs n g args.toList k=some q)(hs:au U H F w (find objs) n):
 ∃e,k e=some q/\cG P U H F w ρ (find objs) n ⟨dst, .call {callee:= .value g,args:=args,argTypes:=wR},ty,pos,aft,none⟩ e:=by
 unfold xV at h;split at h
 case h_2=>cases h
 rename_i f caps hc;split at h
 case h_2=>cases h
 rename_i ds uz;unfold Ff at hc;split at hc
 case h_2=>cases hc
 rename_i f' acn hg;cases hc;obtain⟨us,h1,h2⟩:=fN _ _ hg;exact nE w9 (rB (nw (w:=w) (H:=H) (F:=F) (ρ:=ρ) fN uz) (vF (F:=F) (w:=w) h2)) (fun fn g1 g2 g3=>Ho g1 g2 g3 rfl h1) hs (fun _ h=>h) h
end
end Go.Proofs.YtmihpkfkbfgigaaGreatDoor
end
