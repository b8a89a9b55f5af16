/- Joined texts: Effs5 Effs6 Effs8 Effs9 Grp. -/
import Derived.Test.YtlfjlhcigpejdaaGreatDoorU2
import Derived.Carry
section
open _root_.Go.Instr renaming findNow->Y9,mapUpdate->ZB
open _root_.List.cons renaming injEq->Zd
open _root_.List renaming length_append->Yr,take_length->YU
open _root_.Go.MapKept renaming run_checkKey->Zf,run_findKey->Zl,run_getObj_map->Zk
open _root_.Nat renaming add_mul->Yt,beq->Yb,le_refl->Yd,mul_le_mul_right->Ym,zero_add->Yw
open _root_.Option.some renaming inj->X7,injEq->Ye
open _root_.Prod.mk renaming injEq->YW
open _root_.Go.Result renaming andThen->YB
open _root_.Go.Sem renaming run_bind->Ys
namespace Go.Proofs.YtlfjlhcigpejdaaGreatDoor
open Go Go.RowKit Go.MapKept
noncomputable def fg{α:Type}(K:Row):List (K.den×α)->K.den->Option α
 |[],_=>none
 |p::l,k=>if e9 K p.1 k=true then some p.2 else fg K l k
noncomputable def jd{α:Type}(K:Row):List (K.den×α)->K.den->α->List (K.den×α)
 |[],k,v=>[(k,v)]
 |p::l,k,v=>if e9 K p.1 k=true then(p.1,v)::l else p::jd K l k v
theorem sA{K:Row}{a b:K.den}{u v:Value}(ha:ko K a=some u)(hb:ko K b=some v):e9 K a b=true↔u=v:=by
 unfold ko at ha
 split at ha<;>first|cases ha|skip
 all_goals
  simp only[ko,Ye]at hb;subst hb;simp[e9]
def qu{P:Program}(T:aG P)(kt:TypeId):Row->Bool
 | .int k=>match find T.und kt with
   |some (.int k')=>decide (k=k')
   |_=>false
 | .bool=>match find T.und kt with
   |some .bool=>true
   |_=>false
 | .str=>match find T.und kt with
   |some .str=>true
   |_=>false
 |_=>false
section
variable {P:Program} {ρ:Nat->Value} {w w':World} {H H':ao} {F F':Nat->Prop} {U:Nat->Prop} {ob:Nat->Option (Nat×Th)} {n:Nat} {R:Type}
variable {op:Op} {ty:TypeId} {pos:String} {aft:Array Edge} {d:Nat}
theorem nx(T:aG P){kt:TypeId}{K:Row}(h:qu T kt K=true):∃d,P.underlying kt=some d/\(∀x v,ko K x=some v->IsKey d v)/\(∀x v,bH F w K [v] x->ko K x=some v):=by
 unfold qu at h;split at h
 .split at h
  .rename_i k _ k' hu;obtain rfl:=of_decide_eq_true h;refine⟨_,T.und_ok _ _ hu,fun x v hx=>?_,fun x v hr=>?_⟩
   .obtain rfl:=X7 hx;rfl
   .have pC:[v]=[Value.int k x]:=hr;simp only[Zd,and_true]at pC;rw[pC];rfl
  .cases h
 .split at h
  .rename_i hu;refine⟨_,T.und_ok _ _ hu,fun x v hx=>?_,fun x v hr=>?_⟩
   .obtain rfl:=X7 hx;trivial
   .have pC:[v]=[Value.bool x]:=hr;simp only[Zd,and_true]at pC;rw[pC];rfl
  .cases h
 .split at h
  .rename_i hu;refine⟨_,T.und_ok _ _ hu,fun x v hx=>?_,fun x v hr=>?_⟩
   .obtain rfl:=X7 hx;trivial
   .have pC:[v]=[Value.string x]:=hr;simp only[Zd,and_true]at pC;rw[pC];rfl
  .cases h
 .cases h
theorem ot{K:Row}{agg:Bool}{V:Row}{dd:TypeDesc}{x:K.den}{kv:Value}(hK:∀x v,ko K x=some v->IsKey dd v)(hx:ko K x=some kv):{es:List MapEntry}->{l:List (K.den×V.den)}->(i:Nat)->iP H F w K agg V es l->
 (Y9 dd kv es i=some none/\fg K l x=none/\(∀e∈es,e.key≠kv)/\∀H' F' w' y(e:MapEntry),e.key=kv->H.le H'->Step F w F' w'->aB H' F' w' agg (.leaf V y) e.val->iP H' F' w' K agg V (es++[e]) (jd K l x y))\/
 ∃j e y,Y9 dd kv es i=some (some (i+j,e.val))/\es[j]? =some e/\e.key=kv/\fg K l x=some y/\aB H F w agg (.leaf V y) e.val/\
  ∀H' F' w' y(f:MapEntry->MapEntry),(f e).key=kv->H.le H'->Step F w F' w'->aB H' F' w' agg (.leaf V y) (f e).val->iP H' F' w' K agg V (es.modify j f) (jd K l x y)
 |[],l,i,h=>by
  obtain rfl:l=[]:=h;refine .inl ⟨rfl,rfl,by simp,fun H' F' w' y e he hH hs hv=>⟨x,y,[],rfl,by rw[he];exact hx,hv,rfl⟩⟩
 |e::es,l,i,h=>by
  obtain⟨k,y,l',rfl,h1,h2,h3⟩:=h;obtain⟨r,hr,DQ⟩:=sameNow_of_keys (hK x kv hx) (hK k _ h1);have DA:=sA h1 hx
  cases r with
  |true=>
   have IG:kv=e.key:=DQ.1 rfl;have hq:e9 K k x=true:=DA.2 IG.symm;refine .inr ⟨0,e,y,by simp[Y9,hr],rfl,IG.symm,by simp[fg,hq],h2,fun H' F' w' y' f hf hH hs hv=>?_⟩;refine⟨k,y',l',by simp[jd,hq],?_,hv,h3.aO hH hs⟩
   show ko K k=some (f e).key
   rw[hf,h1,IG]
  |false=>
   have bu:¬e.key=kv:=fun q=>by have:=DQ.2 q.symm;cases this
   have hq:¬e9 K k x=true:=fun q=>bu (DA.1 q)
   rcases ot hK hx (i+1) h3 with⟨a1,a2,a3,a4⟩|⟨j,e',z,a1,a2,a3,a4,a5,a6⟩
   .refine .inl ⟨by simp[Y9,hr,a1],by simp[fg,hq,a2],fun e' he'=>?_,fun H' F' w' y' e' he' hH hs hv=>?_⟩
    .rcases List.mem_cons.1 he' with rfl|he'
     .exact bu
     .exact a3 e' he'
    .exact⟨k,y,_,by simp[jd,hq],h1,h2.aO hH hs,a4 H' F' w' y' e' he' hH hs hv⟩
   .refine .inr ⟨j+1,e',z,by simp[Y9,hr,a1];omega,by simpa using a2,a3,by simp[fg,hq,a4],a5,fun H' F' w' y' f hf hH hs hv=>?_⟩;refine⟨k,y,_,by simp[jd,hq],?_,?_,a6 H' F' w' y' f hf hH hs hv⟩
    .exact h1
    .exact h2.aO hH hs
noncomputable def asKey(ob:Nat->Option (Nat×Th))(K:Row):aj->Option K.den
 | .val false t=>flat ob K t
 |_=>none
theorem ny(hs:aq U H F w ob n){K:Row}{D:aj}{x:K.den}{v:Value}(h:asKey ob K D=some x)(hd:ai H F w D v):bH F w K [v] x:=by
 unfold asKey at h;split at h
 .obtain⟨cs,h1,_,h3⟩:=hd;rw[h3 rfl]at h1;exact fA hs h h1
 .cases h
def DS(ob:Nat->Option (Nat×Th)):aj->Option (Nat×Nat×Th)
 | .val false (.own o)=>match ob o with
   |some (s, .map T K agg V l)=>some (o,s, .map T K agg V l)
   |_=>none
 |_=>none
theorem DT(hs:aq U H F w ob n){D:aj}{o s:Nat}{t:Th}{v:Value}(h:DS ob D=some (o,s,t))(hd:ai H F w D v):∃T K agg V l b es clock,t= .map T K agg V l/\ob o=some (s,t)/\H.val o=some v/\v= .map (some b)/\
 w.heap[b]? =some (.map es clock)/\Stamped es clock/\iP H F w K agg V es.toList l:=by
 unfold DS at h;split at h
 .rename_i o';split at h
  .rename_i s' T K agg V l cA;simp only[Ye,YW]at h;obtain⟨rfl,rfl,rfl⟩:=h;obtain⟨cs,⟨u,hu,_,e⟩,_,h3⟩:=hd;rw[h3 rfl]at e
   obtain rfl:v=u:=by simpa using e
   obtain⟨v',cy,bO⟩:=hs.obj _ _ _ cA;rw[hu]at cy;obtain rfl:=X7 cy;obtain⟨b,es,clock,e,h1,h2,h3⟩:=bO.ok;exact⟨T,K,agg,V,l,b,es,clock,rfl,cA,hu,e,h1,h2,h3⟩
  .cases h
 .cases h
def jP(T:aG P)(n:Nat)(t:TypeId)(k:cU->Option R):Option R:=
 match find T.und t with
 |some (.map kt vt)=>match find T.row kt with
  |some K=>match find T.row vt with
   |some V=>match find T.und vt with
    |some kk=>k {dst:= .val false (.own n),make:=[(n,(n, .map t K (gQ kk) V []))]}
    |none=>none
   |none=>none
  |none=>none
 |_=>none
theorem vy(T:aG P){t:TypeId}{k:cU->Option R}{q:R}(h:jP T n t k=some q)(hs:aq U H F w ob n):
 ∃e,k e=some q/\bJ P U H F w ρ ob n ⟨some d, .makeMap t none,ty,pos,aft,none⟩ e:=by
 unfold jP at h;split at h
 case h_2=>cases h
 split at h
 case h_2=>cases h
 rename_i K _;split at h
 case h_2=>cases h
 rename_i V _;split at h
 case h_2=>cases h
 rename_i kk _
 have bR:(execOp (ev ρ) ⟨some d, .makeMap t none,ty,pos,aft,none⟩).run P w= .ok (.value (.map (some w.heap.size))) (w.alloc (.map #[] 0)):=by
  simp[execOp,Instr.makeMap,YB]
 refine⟨_,h,bp.val bR ?_⟩
 have hv:((H.aS n (.map t K (gQ kk) V [])).cB n (.map (some w.heap.size))).val n=some (.map (some w.heap.size)):=by simp[ao.cB]
 refine iZ.new (v0:= .map (some w.heap.size)) hs rfl rfl (lU _) ⟨_, #[],0,rfl,(heap_alloc w _).1,stamped_empty 0,rfl⟩ (fun k hk=>?_) (ju hv rfl);simp only[fp,Value.map.injEq,Ye]at hk;subst hk;exact⟨fun e=>by have:=hs.lt _ e;omega,by simp, .inl (Yd _)⟩
noncomputable def fY(T:aG P)(ob:Nat->Option (Nat×Th))(n:Nat)(t:TypeId)(M X Y:aj)(k:cU->Option R):Option R:=
 match find T.und t with
 |some (.map kt _)=>match DS ob M with
  |some (o,_, .map T0 K agg V l)=>bif qu T kt K then(match asKey ob K X with
   |some x=>match Y with
    | .val ix tr=>bif (bif agg then ix else !ix)then(match flat ob V tr with
      |some y=>k {dst:= .dead,eat:=[o],make:=[(o,(n, .map T0 K agg V (jd K l x y)))]}
      |none=>none)else none
    |_=>none
   |none=>none)else none
  |_=>none
 |_=>none
theorem jQ{Nv kt et:TypeId}{dd:TypeDesc}{b clock:Nat}{es:Array MapEntry}{key val:Value}(hm:P.underlying Nv=some (.map kt et))(hd:P.underlying kt=some dd)(hb:w.heap[b]? =some (.map es clock))(hk:IsKey dd key):
 (Y9 dd key es.toList 0=some none->(ZB Nv (.map (some b)) key val).run P w= .ok () {w with heap:=w.heap.setIfInBounds b (.map (es.push {key,val,born:=clock}) (clock+1))})/\
 (∀j e,Y9 dd key es.toList 0=some (some (j,e))->((es[j]?).map (·.key)).getD key=key->(ZB Nv (.map (some b)) key val).run P w= .ok () {w with heap:=w.heap.setIfInBounds b (.map (es.modify j fun e=>{e with key,val}) clock)}):=by
 refine⟨fun h1=>?_,fun j e h1 h2=>?_⟩
 .simp[ZB,run_underlying hm,Zk hb,Zf hd hk,Zl hd h1,MapKept.run_setObj_map _ hb,YB]
 .simp[ZB,run_underlying hm,Zk hb,Zf hd hk,Zl hd h1,h2,run_keyThatStays hk,MapKept.run_setObj_map _ hb,YB]
theorem mF(T:aG P){t:TypeId}{M X Y:aj}{m x y:Operand}{k:cU->Option R}{q:R}(h:fY T ob n t M X Y k=some q)(hs:aq U H F w ob n)(hm:ai H F w M (ev ρ m))(hx:ai H F w X (ev ρ x))(hy:ai H F w Y (ev ρ y)):
 ∃e,k e=some q/\bJ P U H F w ρ ob n ⟨none, .mapUpdate t m x y,ty,pos,aft,none⟩ e:=by
 unfold fY at h;split at h
 case h_2=>cases h
 rename_i kt vt hu;split at h
 case h_2=>cases h
 rename_i o s T0 K agg V l Bh;obtain⟨hk,h'⟩:=ay h;clear h;split at h'
 case h_2=>cases h'
 rename_i a ha;split at h'
 case h_2=>cases h'
 rename_i ix tr;obtain⟨rR,h⟩:=ay h';clear h'
 have rR:agg=ix:=by cases agg<;>cases ix<;>simp_all
 subst rR;split at h
 case h_2=>cases h
 rename_i b hb;refine⟨_,h,?_⟩;obtain⟨dd,hd,hK,hR⟩:=nx (F:=F) (w:=w) T hk;obtain⟨T1,K1,Sm,V1,l1,r,es,clock,e0,cA,hv,u6,hh,dH,Bn⟩:=DT hs Bh hm;cases e0;have ou:=hR _ _ (ny hs ha hx)
 have oq:aB H F w agg (.leaf V b) (ev ρ y):=by
  obtain⟨cs,h1,h2⟩:=hy;exact⟨cs,fA hs hb h1,h2⟩
 have Sn:r<w.heap.size:=(Array.getElem?_eq_some_iff.1 hh).1
 have fin:∀o',(ZB t (.map (some r)) (ev ρ x) (ev ρ y)).run P w= .ok () {w with heap:=w.heap.setIfInBounds r o'}->
  (∀w',(∀k,k≠r->w'.heap[k]? =w.heap[k]?)->∃jq jH,o'= .map jq jH/\Stamped jq jH/\iP (H.aS n (.map T0 K agg V (jd K l a b))) F w' K agg V jq.toList (jd K l a b))->
  bJ P U H F w ρ ob n ⟨none, .mapUpdate t m x y,ty,pos,aft,none⟩ {dst:= .dead,eat:=[o],make:=[(o,(n, .map T0 K agg V (jd K l a b)))]}:=by
  intro o' bR IH;refine bp.unit (w':={w with heap:=w.heap.setIfInBounds r o'}) ?_ ?_
  .simp[execOp,u6,bR,YB]
  .have ov:∀k,k≠r->(w.heap.setIfInBounds r o')[k]? =w.heap[k]? :=(heap_set hh).2;obtain⟨jq,jH,rfl,g1,g2⟩:=IH {w with heap:=w.heap.setIfInBounds r o'} ov;refine iZ.tJ (t':= .map T0 K agg V (jd K l a b)) (w':={w with heap:=w.heap.setIfInBounds r (.map jq jH)}) hs cA hv rfl (fun k hk=>hk) ⟨rfl,rfl,rfl,by simp,fun k hk hn=>ov k fun e=>hn (by subst e;exact u6)⟩ ⟨r,jq,jH,u6,(heap_set hh).1,g1,g2⟩ trivial
 have Gh:H.le (H.aS n (.map T0 K agg V (jd K l a b))):=ao.iU (hs.fresh n (Yd _) (by omega)).2
 have gw:∀w':World,(∀k,k≠r->w'.heap[k]? =w.heap[k]?)->Step F w F w':=by
  intro w' hw b hb;refine⟨hb,hw b fun e=>?_⟩;subst e;obtain⟨v',cy,bO⟩:=hs.obj _ _ _ cA;rw[hv]at cy;obtain rfl:=X7 cy;exact bO.no b u6 hb
 obtain⟨r1,r2⟩:=jQ (val:=ev ρ y) (T.und_ok _ _ hu) hd hh (hK _ _ ou)
 rcases ot hK ou 0 Bn with⟨a1,a2,a3,a4⟩|⟨j,e,z,a1,a2,a3,a4,a5,a6⟩
 .refine fin _ (r1 a1) fun w' hw=>⟨_,_,rfl,stamped_push dH a3,?_⟩
  rw[Array.toList_push];exact a4 _ F w' b _ rfl Gh (gw w' hw) (oq.aO Gh (gw w' hw))
 .rw[Yw]at a1
  have hj:es[j]? =some e:=by simpa using a2
  refine fin _ (r2 j _ a1 (by rw[hj];exact a3)) fun w' hw=>⟨_,_,rfl,stamped_modify dH _ _ (fun _ _=>rfl) (fun e' _ he'=>?_),?_⟩
  .rw[hj]at he';cases he';exact a3.symm
  .rw[Array.toList_modify];exact a6 _ F w' b _ rfl Gh (gw w' hw) (oq.aO Gh (gw w' hw))
theorem DU{t:TypeId}{agg:Bool}{V:Row}(h:DB P t agg V)(h1:agg=false->V.size=1):∃z,(zeroValue t).run P w= .ok z w/\aB H F w agg (.leaf V V.zero) z:=by
 obtain⟨z,hz,e⟩:=h
 cases hi:P.info? t with
 |none=>rw[hi]at hz;cases hz
 |some ti=>
  rw[hi]at hz;refine⟨z,?_,V.dn,bH.zero F w V,e,fun ha=>?_⟩
  .have Nw:ti.zero=some z:=hz;simp[zeroValue,typeInfo,hi,Nw,YB]
  .have hl:V.dn.length=V.size:=(bH.zero F w V).length;rw[h1 ha]at hl;subst ha;rw[cond_false]at e
   match hv:V.dn,hl with
   |[u],_=>rw[hv]at e;rw[e];rfl
theorem zB{K:Row}{agg:Bool}{V:Row}:{es:List MapEntry}->{l:List (K.den×V.den)}->es.length=l.length->(∀i(h:i<l.length),∃(e:MapEntry)(cs:List Value),es[i]? =some e/\ko K l[i].1=some e.key/\bH F w V cs l[i].2/\e.val=(bif agg then .agg cs.toArray else cs.headD undef)/\(agg=false->cs=[e.val]))->iP H F w K agg V es l
 |[],[],_,_=>rfl
 |[],_::_,h,_=>by cases h
 |_::_,[],h,_=>by cases h
 |e::es,(k,x)::l,hl,h=>by
  obtain⟨e',cs,h1,h2,h3,h4,h5⟩:=h 0 (by simp)
  obtain rfl:e=e':=by simpa using h1
  exact⟨k,x,l,rfl,h2,⟨cs,h3,h4,h5⟩,zB (by simpa using hl) fun i hi=>by
   obtain⟨e',oa,q1,q2,q3,q4⟩:=h (i+1) (by simpa using hi)
   exact⟨e',oa,by simpa only[List.getElem?_cons_succ]using q1,q2,q3,q4⟩⟩
theorem zC{K:Row}{agg:Bool}{V:Row}:{es:List MapEntry}->{l:List (K.den×V.den)}->iP H F w K agg V es l->es.length=l.length/\∀i(h:i<l.length),∃(e:MapEntry)(cs:List Value),es[i]? =some e/\ko K l[i].1=some e.key/\bH F w V cs l[i].2/\e.val=(bif agg then .agg cs.toArray else cs.headD undef)/\(agg=false->cs=[e.val])
 |[],l,h=>by obtain rfl:l=[]:=h;exact⟨rfl,fun i h=>by simp at h⟩
 |e::es,l,h=>by
  obtain⟨k,x,l',rfl,h1,⟨cs,h2,h3,h4⟩,h5⟩:=h;obtain⟨g1,g2⟩:=zC h5;refine⟨by simp[g1],fun i hi=>?_⟩
  cases i with
  |zero=>exact⟨e,cs,rfl,h1,h2,h3,h4⟩
  |succ i=>
   obtain⟨e',oa,q1,q2,q3,q4⟩:=g2 i (by simpa using hi);exact⟨e',oa,by simpa only[List.getElem?_cons_succ]using q1,q2,q3,q4⟩
structure Kz where
 K:Row
 agg:Bool
 V:Row
 l:List (K.den×V.den)
def xR(ob:Nat->Option (Nat×Th)):aj->Option Kz
 | .val false (.leaf (.map K agg V) l)=>some ⟨K,agg,V,l⟩
 | .val false (.own o)=>match ob o with
   |some (_, .map _ K agg V l)=>some ⟨K,agg,V,l⟩
   |some (_, .fmap _ K agg V l)=>some ⟨K,agg,V,l⟩
   |some (_, .fdmap _ K _ r l)=>some ⟨K,false, .slice r,l⟩
   |_=>none
 |_=>none
theorem tN{K:Row}{agg:Bool}{V:Row}{l:List (K.den×V.den)}{v:Value}(h:bH F w (.map K agg V) [v] l):(v= .map none/\l=[])\/∃b es clock,v= .map (some b)/\w.heap[b]? =some (.map es clock)/\Stamped es clock/\iP H F w K agg V es.toList l:=by
 obtain⟨u,e,h⟩:=h
 obtain rfl:v=u:=by simpa using e
 refine h.imp id fun⟨b,es,clock,h1,h2,h3,h4,h5,h6⟩=>⟨b,es,clock,h1,h3,h4,zB (by simpa using h5) fun i hi=>by simpa using h6 i hi⟩
theorem Bo(hs:aq U H F w ob n){D:aj}{m:Kz}{v:Value}(h:xR ob D=some m)(hd:ai H F w D v):(v= .map none/\m.l=[])\/∃b es clock,v= .map (some b)/\w.heap[b]? =some (.map es clock)/\Stamped es clock/\iP H F w m.K m.agg m.V es.toList m.l:=by
 unfold xR at h;split at h
 .cases h;exact tN hd.inv
 .rename_i o;obtain⟨cs,⟨u,hu,_,e⟩,_,h3⟩:=hd;rw[h3 rfl]at e
  obtain rfl:v=u:=by simpa using e
  split at h
  .rename_i s T K agg V l cA;cases h;obtain⟨v',cy,bO⟩:=hs.obj _ _ _ cA;rw[hu]at cy;obtain rfl:=X7 cy;obtain⟨b,es,clock,e,h1,h2,h3⟩:=bO.ok;exact .inr ⟨b,es,clock,e,h1,h2,h3⟩
  .rename_i s T K agg V l cA;cases h;obtain⟨v',cy,bO⟩:=hs.obj _ _ _ cA;rw[hu]at cy;obtain rfl:=X7 cy;exact tN bO.ok
  .rename_i s T K E r l cA;cases h;obtain⟨v',cy,bO⟩:=hs.obj _ _ _ cA;rw[hu]at cy;obtain rfl:=X7 cy;exact tN (K:=K) (agg:=false) (V:= .slice r) bO.ok
  .cases h
 .cases h
noncomputable def kB(T:aG P)(ob:Nat->Option (Nat×Th))(t:TypeId)(ok:Bool)(M X:aj)(k:cU->Option R):Option R:=
 match find T.und t with
 |some (.map kt vt)=>match xR ob M with
  |some ⟨K,agg,V,l⟩=>match find T.zer vt with
   |some (ix,V')=>bif qu T kt K&&(bif agg then ix else !ix)&&V'.beq V&&(agg||Yb V.size 1)then(match asKey ob K X with
    |some x=>bif ok then k {dst:= .tup [(agg, .leaf V ((fg K l x).getD V.zero)),(false, .leaf .bool (fg K l x).isSome)]}
     else k {dst:= .val agg (.leaf V ((fg K l x).getD V.zero))}
    |none=>none)else none
   |none=>none
  |none=>none
 |_=>none
theorem qv(T:aG P){t:TypeId}{ok:Bool}{M X:aj}{m x:Operand}{k:cU->Option R}{q:R}(h:kB T ob t ok M X k=some q)(hs:aq U H F w ob n)(hm:ai H F w M (ev ρ m))(hx:ai H F w X (ev ρ x)):
 ∃e,k e=some q/\bJ P U H F w ρ ob n ⟨some d, .lookup t m x ok,ty,pos,aft,none⟩ e:=by
 unfold kB at h;split at h
 case h_2=>cases h
 rename_i kt vt hu;split at h
 case h_2=>cases h
 rename_i K agg V l Bh;split at h
 case h_2=>cases h
 rename_i ix V' hz;obtain⟨hc,h'⟩:=ay h;clear h;obtain⟨hc,JU⟩:=bU hc;obtain⟨hc,DV⟩:=bU hc;obtain⟨va,pL⟩:=bU hc
 have rR:agg=ix:=by cases agg<;>cases ix<;>simp_all
 subst rR;obtain rfl:=Row.eq_of_beq DV;split at h'
 case h_2=>cases h'
 rename_i a ha;obtain⟨dd,hd,hK,hR⟩:=nx (F:=F) (w:=w) T va;have ou:=hR _ _ (ny hs ha hx)
 have mv:agg=false->V'.size=1:=fun e=>by subst e;exact beq_true (by simpa using JU)
 obtain⟨z,rQ,tK⟩:=DU (w:=w) (H:=H) (F:=F) (T.zer_ok _ _ _ hz) mv
 have main:∃v,(Instr.lookup t (ev ρ m) (ev ρ x) ok).run P w= .ok (if ok then .tuple #[v, .bool (fg K l a).isSome]else v) w/\aB H F w agg (.leaf V' ((fg K l a).getD V'.zero)) v:=by
  have JV:=hK _ _ ou;have vz:=T.und_ok _ _ hu
  rcases Bo hs Bh hm with⟨u6,hl⟩|⟨r,es,clock,u6,hh,dH,Bn⟩
  .dsimp only at hl;subst hl;refine⟨z,?_,tK⟩;rw[u6];have hf:=Zl (w:=w) hd (show Y9 dd (ev ρ x) [] 0=some none from rfl)
   cases ok<;>simp[Instr.lookup,run_underlying vz,Zf hd JV,hf,rQ,fg,YB]
  .dsimp only at Bn
   rcases ot hK ou 0 Bn with⟨a1,a2,_⟩|⟨j,e,y,a1,_,_,a4,a5,_⟩
   .refine⟨z,?_,by rw[a2];exact tK⟩;rw[u6,a2];simp[Instr.lookup,run_underlying vz,Zk hh,Zf hd JV,Zl hd a1,rQ,YB]
   .refine⟨e.val,?_,by rw[a4];exact a5⟩;rw[u6,a4];simp[Instr.lookup,run_underlying vz,Zk hh,Zf hd JV,Zl hd a1,YB]
 obtain⟨v,bR,mP⟩:=main
 cases ok with
 |true=>
  refine⟨_,h',aU hs (v:= .tuple #[v, .bool (fg K l a).isSome]) (by simp[execOp,bR,YB]) ⟨[v, .bool (fg K l a).isSome],rfl,_,_,rfl,mP,_,_,rfl,aB.eu ..,rfl⟩⟩
 |false=>exact⟨_,h',aU hs (v:=v) (by simp[execOp,bR,YB]) mP⟩
def sB(s:ByteArray)(i:Int):Option Int:=(if 0<=i then s[i.toNat]? else none).map fun b=>(b.toNat:Int)
theorem vA{e:Row}:{m:Nat}->{r:Row}->{x:r.den}->{l:List e.den}->{cs:List Value}->iK m r x e=some l->bH F w r cs x->l.length=m/\cs.length=m*e.size/\∀i(h:i<l.length),bH F w e ((cs.drop (i*e.size)).take e.size) l[i]
 |0,r,x,l,cs,h,_=>by unfold iK at h;cases h
 |1,r,x,l,cs,h,ha=>by
  unfold iK at h;split at h
  case isFalse=>cases h
  rename_i hb;obtain rfl:=Row.eq_of_beq hb;obtain rfl:=X7 h;have hl:=ha.length;refine⟨rfl,by simp[hl],fun i hi=>?_⟩
  obtain rfl:i=0:=by simp at hi;omega
  rw[Nat.zero_mul,List.drop_zero,<-hl,YU];exact ha
 |m+2, .pair a b,x,l,cs,h,ha=>by
  unfold iK at h;split at h
  case isFalse=>cases h
  rename_i hb;obtain rfl:=Row.eq_of_beq hb;split at h
  case h_2=>cases h
  rename_i l' hl;obtain rfl:=X7 h;obtain⟨c1,c2,rfl,h1,h2⟩:=ha;have CO:=h1.length;obtain⟨g1,g2,g3⟩:=vA hl h2;refine⟨by simp[g1],by rw[Yr,CO,g2,show m+2=(m+1)+1 from rfl,Yt (m+1) 1,Nat.one_mul];omega,fun i hi=>?_⟩
  cases i with
  |zero=>
   rw[Nat.zero_mul,List.drop_zero,List.take_append_of_le_length (by omega),<-CO,YU];exact h1
  |succ i=>
   have:=g3 i (by simpa using hi);rw[show(i+1)*a.size=c1.length+i*a.size from by rw[Yt];omega,<-List.drop_drop,List.drop_left];exact this
 |m+2, .int _,_,_,_,h,_=>by unfold iK at h;cases h
 |m+2, .bool,_,_,_,h,_=>by unfold iK at h;cases h
 |m+2, .str,_,_,_,h,_=>by unfold iK at h;cases h
 |m+2, .slice _,_,_,_,h,_=>by unfold iK at h;cases h
 |m+2, .gU,_,_,_,h,_=>by unfold iK at h;cases h
 |m+2, .nul _,_,_,_,h,_=>by unfold iK at h;cases h
 |m+2, .map ..,_,_,_,h,_=>by unfold iK at h;cases h
def lW(T:aG P)(ob:Nat->Option (Nat×Th))(t:TypeId)(D:aj)(i:Int)(k:cU->Option R):Option R:=
 match find T.und t with
 |some .str=>match vg D with
  |some s=>(sB s i).bind fun c=>k {dst:=ja .u8 c}
  |none=>none
 |some (.array m e)=>match find T.row t with
  |some r=>match find T.row e with
   |some re=>match find T.und e with
    |some kk=>match D with
     | .val true tr=>match flat ob r tr with
       |some x=>match iK m r x re with
        |some l=>bif gQ kk||Yb re.size 1 then(idx l i).bind fun y=>k {dst:= .val (gQ kk) (.leaf re y)}else none
        |none=>none
       |none=>none
     |_=>none
    |none=>none
   |none=>none
  |none=>none
 |_=>none
theorem xS(T:aG P){t:TypeId}{D:aj}{x y:Operand}{kd:IntKind}{i:Int}{k:cU->Option R}{q:R}(h:lW T ob t D i k=some q)(hs:aq U H F w ob n)(hx:ai H F w D (ev ρ x))(hy:ev ρ y= .int kd i):
 ∃e,k e=some q/\bJ P U H F w ρ ob n ⟨some d, .index t x y,ty,pos,aft,none⟩ e:=by
 unfold lW at h;split at h
 .rename_i hu;have hu:=T.und_ok _ _ hu;split at h
  case h_2=>cases h
  rename_i s hS;obtain⟨c,hc,hk⟩:=bind_some h;have hv:=qi hS hx;unfold sB at hc;obtain⟨b,hb,rfl⟩:=Option.map_eq_some_iff.1 hc;refine⟨_,hk,aU hs (v:= .int .u8 b.toNat) ?_ (aB.gj ..)⟩;have vz:P.underlying t=some .string:=hu;simp[execOp,Instr.index,asIntOf,run_underlying vz,hv,hy,hb]
 .rename_i m e hu;have hu:P.underlying t=some (.array m e):=T.und_ok _ _ hu;split at h
  case h_2=>cases h
  rename_i r hr;split at h
  case h_2=>cases h
  rename_i re Np;split at h
  case h_2=>cases h
  rename_i kk DA;split at h
  case h_2=>cases h
  rename_i tr;split at h
  case h_2=>cases h
  rename_i z hz;split at h
  case h_2=>cases h
  rename_i l hl;obtain⟨QW,h'⟩:=ay h;clear h;obtain⟨a,ha,hk⟩:=bind_some h';obtain⟨cs,hh,hv,_⟩:=hx;rw[cond_true]at hv;obtain⟨g1,g2,g3⟩:=vA hl (fA hs hz hh);obtain⟨j,hj,aW,rfl⟩:=dX ha;obtain⟨ti,z0,h1,_,_,h4,_⟩:=T.row_ok _ _ Np;obtain⟨dd,pN,qc⟩:=(T.und_ok _ _ DA).agg;have rS:=g3 j aW
  have mv:(j+1)*re.size<=cs.length:=by rw[g2];exact Ym _ (by omega)
  rw[Yt]at mv;refine⟨_,hk,?_⟩
  cases rR:gQ kk with
  |true=>
   refine aU hs (v:= .agg ((cs.drop (j*re.size)).take re.size).toArray) ?_ ⟨_,rS,rfl,by simp⟩;subst hj;simp[execOp,Instr.index,asIntOf,run_underlying hu,hv,hy,show j<m by omega,part,Ys,dE pN,qc,rR,sizeOf,typeInfo,h1,h4,List.extract_eq_take_drop]
  |false=>
   rw[rR,Bool.false_or]at QW;have iw:=beq_true QW;have hlen:=rS.length;rw[iw,Nat.mul_one]at rS mv;rw[iw]at hlen
   obtain⟨v,rP⟩:∃v,(cs.drop j).take 1=[v]:=by
    match hq:(cs.drop j).take 1,sC:((cs.drop j).take 1).length with
    |[v],_=>exact⟨v,rfl⟩
    |[],_=>rw[Nat.mul_one,hq]at hlen;cases hlen
    |_::_::_,_=>rw[Nat.mul_one,hq]at hlen;cases hlen
   rw[rP]at rS
   have FX:cs[j]? =some v:=by
    have:(cs.drop j)[0]? =some v:=by
     have h0:((cs.drop j).take 1)[0]? =some v:=by rw[rP];rfl
     rwa [List.getElem?_take_of_lt (by omega)]at h0
    simpa using this
   refine aU hs (v:=v) ?_ (aB.jL rS);subst hj;simp[execOp,Instr.index,asIntOf,run_underlying hu,hv,hy,show j<m by omega,part,Ys,dE pN,qc,rR,sizeOf,typeInfo,h1,h4,iw,FX]
 .cases h
end
end Go.Proofs.YtlfjlhcigpejdaaGreatDoor
end
section
open _root_.Nat renaming beq->Yb,le_refl->Yd,lt_of_lt_of_le->YK
open _root_.Option renaming isSome_iff_exists->YA
open _root_.Option.some renaming inj->X7,injEq->Ye
open _root_.Prod.mk renaming inj->Zm,injEq->YW
namespace Go.Proofs.YtlfjlhcigpejdaaGreatDoor
open Go Go.RowKit
def Bp(T:TypeId):(e:DR)->List e.row.den->Th
 | .leaf r,y=> .own T r y
 | .sl T' e,y=> .deep T (.sl T' e) y none
 | .pair a b,y=> .deep T (.pair a b) y none
section
variable {P:Program} {ρ:Nat->Value} {w w':World} {H H':ao} {F F':Nat->Prop} {U:Nat->Prop} {ob:Nat->Option (Nat×Th)} {n:Nat} {R:Type}
variable {op:Op} {ty:TypeId} {pos:String} {aft:Array Edge} {d:Nat}
theorem qw(T:TypeId)(e:DR)(y:List e.row.den):(Bp T e y).base=Bp T e y:=by cases e<;>rfl
theorem ow{T:TypeId}{e:DR}{u:Value}{y:List e.row.den}{A:Nat->Prop}(h:gu F w (.sl T e) u y A):fy H F w A u (Bp T e y)/\(∀k,fp A u (Bp T e y) k->A k)/\u.oneCell'=true:=by
 obtain⟨lh,Ss,h1,h2,h3,h4⟩:=h;have iw:=h1.one
 cases e with
 |leaf r=>
  have hl:lh=y:=List.ext_getElem h2 fun i a b=>(h3 i a b).1
  subst hl;exact⟨h1,fun k hk=>h4.aM k hk,iw⟩
 |sl T' e=>exact⟨⟨lh,Ss,h1,h2,h3,h4⟩,fun k hk=>hk,iw⟩
 |pair a b=>exact⟨⟨lh,Ss,h1,h2,h3,h4⟩,fun k hk=>hk,iw⟩
theorem qx{T:TypeId}{e:DR}{u:Value}{y:List e.row.den}{A:Nat->Prop}(h:fy H F w A u (Bp T e y)):gu F w (.sl T e) u y (fun k=>fp A u (Bp T e y) k):=by
 cases e with
 |leaf r=>
  have h':gP F w T r u y:=h;refine⟨y,fun _ _=>False,h',rfl,fun i a b=>⟨rfl,fun _ h=>h⟩,⟨fun k=>?_,fun _ _ _ _ _ _ h=>h.elim,fun _ _ _ h=>h.elim⟩⟩
  show aM u k↔_
  simp
 |sl T' e=>exact h
 |pair a b=>exact h
theorem pS{d:DR}{r:Row}(q:dT d (.leaf r)){x':d.low.den}{x:d.row.den}{S:Nat->Prop}(h:gu F w d x' x S):q.lo.get x'=q.hi.get x:=by
 obtain⟨A,B,h1,_⟩:=h.out q;exact h1.1
theorem qy:{d e:DR}->{T:TypeId}->{r:Row}->(p:dT d (.sl T e))->(q:dT d (.leaf r))->{x':d.low.den}->{x:d.row.den}->{S:Nat->Prop}->iG F w p x' x S->q.lo.get x'=q.hi.get x
 |_,_,_,_, .fst p, .fst q,_,_,_,h=>by obtain⟨A,B,h1,_⟩:=h;exact qy p q h1
 |_,_,_,_, .fst p, .snd q,_,_,_,h=>by obtain⟨A,B,_,h2,_⟩:=h;exact pS q h2
 |_,_,_,_, .snd p, .fst q,_,_,_,h=>by obtain⟨A,B,h1,_⟩:=h;exact pS q h1
 |_,_,_,_, .snd p, .snd q,_,_,_,h=>by obtain⟨A,B,_,h2,_⟩:=h;exact qy p q h2
theorem DW{d:DR}{h:Option qd}{i:Nat}{x':d.low.den}{x:d.row.den}{S:Nat->Prop}{r:Row}(q:dT d (.leaf r))(hr:kz H F w d h i x' x S):q.lo.get x'=q.hi.get x:=by
 cases h with
 |none=>exact pS q hr
 |some h=>
  by_cases hi:h.i=(i:Int)
  .obtain⟨T',e,p,_,h2,_⟩:=hr.2 hi;exact qy p q h2
  .exact pS q (hr.1 hi)
theorem nz{d:DR}{r:Row}(q:dT d (.leaf r)){x':d.low.den}{x:d.row.den}{S:Nat->Prop}(y:r.den)(h:gu F w d x' x S):gu F w d (q.lo.set x' y) (q.hi.set x y) S:=by
 obtain⟨A,B,h1,h2,h3⟩:=h.out q;exact h2.put q (y':=y) (A:=A) ⟨rfl,h1.2⟩ h3
theorem ox:{d e:DR}->{T:TypeId}->{r:Row}->(p:dT d (.sl T e))->(q:dT d (.leaf r))->{x':d.low.den}->{x:d.row.den}->{S:Nat->Prop}->(y:r.den)->iG F w p x' x S->iG F w p (q.lo.set x' y) (q.hi.set x y) S/\p.lo.get (q.lo.set x' y)=p.lo.get x'
 |_,_,_,_, .fst p, .fst q,_,_,_,y,h=>by
  obtain⟨A,B,h1,h2,h3⟩:=h;obtain⟨g1,g2⟩:=ox p q y h1;exact⟨⟨A,B,g1,h2,h3⟩,g2⟩
 |_,_,_,_, .fst p, .snd q,_,_,_,y,h=>by
  obtain⟨A,B,h1,h2,h3⟩:=h;exact⟨⟨A,B,h1,nz q y h2,h3⟩,rfl⟩
 |_,_,_,_, .snd p, .fst q,_,_,_,y,h=>by
  obtain⟨A,B,h1,h2,h3⟩:=h;exact⟨⟨A,B,nz q y h1,h2,h3⟩,rfl⟩
 |_,_,_,_, .snd p, .snd q,_,_,_,y,h=>by
  obtain⟨A,B,h1,h2,h3⟩:=h;obtain⟨g1,g2⟩:=ox p q y h2;exact⟨⟨A,B,h1,g1,h3⟩,g2⟩
theorem Bq{d:DR}{h:Option qd}{i:Nat}{x':d.low.den}{x:d.row.den}{S:Nat->Prop}{r:Row}(q:dT d (.leaf r))(y:r.den)(hr:kz H F w d h i x' x S):kz H F w d h i (q.lo.set x' y) (q.hi.set x y) S:=by
 cases h with
 |none=>exact nz q y hr
 |some h=>
  refine⟨fun hi=>nz q y (hr.1 hi),fun hi=>?_⟩;obtain⟨T',e,p,h1,h2,h3⟩:=hr.2 hi;obtain⟨g1,g2⟩:=ox p q y h2;exact⟨T',e,p,h1,g1,by rw[g2];exact h3⟩
theorem aq.low(hs:aq U H F w ob n){o s:Nat}{T:TypeId}{dr:DR}{l:List dr.row.den}{h:Option qd}(ho:ob o=some (s, .deep T dr l h)){v:Value}(hv:H.val o=some v):
 ∃(lh:List dr.low.den)(Ss:Nat->Nat->Prop),gY 0 F w T dr.low v lh/\lh.length=l.length/\(∀i(h1:i<lh.length)(h2:i<l.length),kz H F w dr h i lh[i] l[i] (Ss i))/\jK Ss l.length (aM v) (H.sub s):=by
 obtain⟨v',cy,bO⟩:=hs.obj _ _ _ ho;rw[hv]at cy;obtain rfl:=X7 cy;obtain⟨lh,Ss,h1,h2,h3,h4⟩:=bO.ok;exact⟨lh,Ss,⟨fun k hk=>bO.no k (h4.aM k hk),h1⟩,h2,h3,h4⟩
theorem Path.tO:{r s:Row}->(p:Path r s)->(x:r.den)->(y:s.den)->p.get (p.set x y)=y
 |_,_, .here,_,_=>rfl
 |_,_, .fst p,x,y=>Path.tO p x.1 y
 |_,_, .snd p,x,y=>Path.tO p x.2 y
theorem iG.DX:{d e:DR}->(p:dT d e)->{x':d.low.den}->{x:d.row.den}->{S:Nat->Prop}->(y':e.low.den)->iG F w p x' x S->iG F w p (p.lo.set x' y') x S
 |_,_, .here,_,_,_,_,h=>h
 |_,_, .fst p,_,_,_,y',h=>by
  obtain⟨A,B,h1,h2,h3⟩:=h;exact⟨A,B,h1.DX p y',h2,h3⟩
 |_,_, .snd p,_,_,_,y',h=>by
  obtain⟨A,B,h1,h2,h3⟩:=h;exact⟨A,B,h1,h2.DX p y',h3⟩
def mS(m:Nat->Prop)(Ss:Nat->Nat->Prop)(c:Nat)(k:Nat):Prop:=m k\/∃i,i<c/\Ss i k
theorem jK.less{Ss:Nat->Nat->Prop}{c:Nat}{m S:Nat->Prop}(h:jK Ss c m S)(j:Nat){B:Nat->Prop}(hB:∀k,B k->Ss j k):jK (fun i=>if i=j then B else Ss i) c m (mS m (fun i=>if i=j then B else Ss i) c):=by
 have sub:∀i k,(if i=j then B else Ss i) k->Ss i k:=by
  intro i k hk;by_cases e:i=j
  .subst e;rw[if_pos rfl]at hk;exact hB k hk
  .rwa [if_neg e]at hk
 exact⟨fun k=>Iff.rfl,fun i i' k h1 h2 bu h3 h4=>h.two i i' k h1 h2 bu (sub i k h3) (sub i' k h4),fun i k h1 h2=>h.out i k h1 (sub i k h2)⟩
theorem jK.vB{Ss:Nat->Nat->Prop}{c:Nat}{m S:Nat->Prop}(h:jK Ss c m S)(j:Nat){B:Nat->Prop}(hB:∀k,B k->Ss j k):∀k,mS m (fun i=>if i=j then B else Ss i) c k->S k:=by
 rintro k (hk|⟨i,hi,hk⟩)
 .exact h.aM k hk
 .by_cases e:i=j
  .subst e;rw[if_pos rfl]at hk;exact h.part hi k (hB k hk)
  .rw[if_neg e]at hk;exact h.part hi k hk
theorem Gi{α β:Type}{rel:Nat->α->β->(Nat->Prop)->Prop}{lh:List α}{l:List β}{Ss:Nat->Nat->Prop}{j:Nat}{x':α}{x:β}{B:Nat->Prop}(h:∀i(h1:i<lh.length)(h2:i<l.length),i≠j->rel i lh[i] l[i] (Ss i))(hj:rel j x' x B):
 ∀i(h1:i<(lh.set j x').length)(h2:i<(l.set j x).length),rel i (lh.set j x')[i] (l.set j x)[i] ((fun i=>if i=j then B else Ss i) i):=by
 intro i h1 h2;by_cases e:i=j
 .subst e;simp only[List.getElem_set_self,if_true];exact hj
 .simp only[List.getElem_set_ne (Ne.symm e),if_neg e];exact h i (by simpa using h1) (by simpa using h2) e
theorem ao.pT{H:ao}{n:Nat}{S:Nat->Prop}{t:Th}(h:H.con n=none):H.le ((H.dB n S).aS n t):=(ao.A8 h).trans (ao.iU h)
theorem iZ.tP(hs:aq U H F w ob n){o s:Nat}{t t':Th}{v0:Value}(ho:ob o=some (s,t))(hv:H.val o=some v0)(hb:t'.base=t'){eat:List Nat}(KA:o∈eat)(S':Nat->Prop)(DI:∀k,fp S' v0 t' k->bx H ob eat k){D:aj}{v:Value}
 (bI:Ext (bx H ob eat) w w')(mP:fy ((H.dB n S').aS n t') F w' S' v0 t')(hd:ai ((H.dB n S').aS n t') F w' D v):gV H F w ob n {dst:=D,eat:=eat,make:=[(o,(n,t'))]} v w':=by
 obtain⟨v1,n7,bO⟩:=hs.obj _ _ _ ho;rw[hv]at n7;obtain rfl:=X7 n7;have hf:=hs.fresh n (Yd _) (by omega)
 have ee:((H.dB n S').aS n t').sub n=S':=by simp[ao.aS,ao.dB]
 refine⟨(H.dB n S').aS n t',F,⟨ao.pT hf.2,bI,fun _ h=>h,fun _ h=> .inl h,fun b hb=>YK (hs.lt b hb) bI.size⟩,fun m hm=>?_,hd,⟨fun o' s' q hq=>?_,fun o1 o2 s1 s2 q1 q2 u1 u2 bu h1 h2=>?_⟩,fun o' h=>?_⟩
 .refine⟨id,fun h=>?_⟩;simp[ao.aS,ao.dB,show m≠n from by omega,h]
 .obtain⟨rfl,e⟩:=be hq;obtain⟨rfl,rfl⟩:=Zm e;refine⟨v0,hv,bO.one,by simp[ao.aS,hb],by rw[ee];exact mP,fun k hk=>?_⟩;rw[ee]at hk;have:=DI k hk;exact⟨hs.fe k this,YK (hs.qe k this) bI.size, .inr this⟩
 .exact absurd ((be h1).1.trans (be h2).1.symm) bu
 .left
  obtain⟨y,hy⟩:=YA.1 h;rw[(be hy).1];exact KA
def mT(T:aG P)(ob:Nat->Option (Nat×Th))(n:Nat)(t:TypeId)(D:aj)(k:cU->Option R):Option R:=
 match find T.und t with
 |none=>none
 |some kk=>match D with
  | .dlm o d0 i p off=>match ob o with
    |some (_, .deep T0 dr l h)=>bif d0.beq dr then(match dr.path p with
     |some ⟨.leaf r,q⟩=>bif Yb q.lo.off off&&jc T t kk r.size then(idx l i).bind fun x=>k {dst:= .val (gQ kk) (.leaf r (q.hi.get x))}else none
     |some ⟨.sl T' e',q⟩=>bif Yb q.lo.off off&&jc T t kk 1&& !gQ kk then(match h with
       |none=>(idx l i).bind fun x=>k {dst:= .val false (.own n),eat:=[o],make:=[(o,(n, .deep T0 dr l (some ⟨i,p,n,n+1⟩))),(n,(n+1,Bp T' e' (q.hi.get x)))]}
       |some hh=>bif kA hh.p p then(if decide (hh.i=i)=true then(idx l i).bind fun _=>k {dst:= .val false (.own hh.o)}else none)else none)else none
     |_=>none)else none
    |_=>none
  |_=>none
theorem vC(hs:aq U H F w ob n){o s:Nat}{T0 T':TypeId}{dr e':DR}{l:List dr.row.den}{i:Int}{p:List Bool}{q:dT dr (.sl T' e')}(hq:dr.path p=some ⟨_,q⟩)(cA:ob o=some (s, .deep T0 dr l none)){v:Value}(hv:H.val o=some v)
 {j:Nat}(HL:i=(j:Nat))(hj:j<l.length){lh:List dr.low.den}{Ss:Nat->Nat->Prop}(hm:gP F w T0 dr.low v lh)(hlen:lh.length=l.length)(qz:∀i(h1:i<lh.length)(h2:i<l.length),kz H F w dr none i lh[i] l[i] (Ss i))(cC:jK Ss l.length (aM v) (H.sub s)):
 gV H F w ob n {dst:= .val false (.own n),eat:=[o],make:=[(o,(n, .deep T0 dr l (some ⟨i,p,n,n+1⟩))),(n,(n+1,Bp T' e' (q.hi.get l[j])))]} (q.lo.get (lh[j]'(by omega))) w:=by
 have uU:j<lh.length:=by omega
 obtain⟨v1,n7,bO⟩:=hs.obj _ _ _ cA;rw[hv]at n7;obtain rfl:=X7 n7;obtain⟨A,B,hA,hB,h2⟩:=gu.out q (qz j uU hj);obtain⟨_,m2,m3⟩:=ow (H:=H) hA;have QX:∀k,B k->Ss j k:=h2.right;obtain⟨f1,f2⟩:=hs.fresh n (Yd _) (by omega);obtain⟨f3,f4⟩:=hs.fresh (n+1) (by omega) (by omega)
 have uZ:o≠n:=fun e=>by rw[e,f1]at hv;cases hv
 generalize JW:Th.deep T0 dr l (some ⟨i,p,n,n+1⟩)=t1;generalize xT:Bp T' e' (q.hi.get l[j])=t2;generalize hu:q.lo.get lh[j]=u;generalize Nx:mS (aM v) (fun i=>if i=j then B else Ss i) l.length=So
 have Ny:∀k,So k->H.sub s k:=by rw[<-Nx];exact cC.vB j QX
 have Gj:∀k,A k->H.sub s k:=fun k hk=>cC.part hj k (h2.left k hk)
 have Sp:∀k,So k->¬A k:=by
  rw[<-Nx]
  rintro k (hk|⟨i',dA,hk⟩) ha
  .exact cC.out j k hj (h2.left k ha) hk
  .by_cases e:i'=j
   .subst e;rw[if_pos rfl]at hk;exact h2.off k ha hk
   .rw[if_neg e]at hk;exact cC.two i' j k dA hj e hk (h2.left k ha)
 let H1:ao:=⟨fun m=>if m=n then some u else H.val m,fun m=>if m=n then some t1 else if m=n+1 then some t2 else H.con m,fun m=>if m=n then So else if m=n+1 then A else H.sub m⟩
 have hle:H.le H1:=by
  refine⟨fun o v ho=>?_,fun s t dH=>?_,fun s t dH=>?_⟩
  .have:o≠n:=fun e=>by rw[e,f1]at ho;cases ho
   simp[H1,this,ho]
  .have a1:s≠n:=fun e=>by rw[e,f2]at dH;cases dH
   have a2:s≠n+1:=fun e=>by rw[e,f4]at dH;cases dH
   simp[H1,a1,a2,dH]
  .have a1:s≠n:=fun e=>by rw[e,f2]at dH;cases dH
   have a2:s≠n+1:=fun e=>by rw[e,f4]at dH;cases dH
   simp[H1,a1,a2]
 have sD:H1.val n=some u:=by simp[H1]
 have gS:∀k,H.sub s k->bx H ob [o] k:=fun k hk=>⟨o,by simp,s,_,v,cA,hv,hk⟩
 have iw:u.oneCell'=true:=by rw[<-hu];exact m3
 refine⟨H1,F,⟨hle,⟨rfl,rfl,rfl,Yd _,fun _ _ _=>rfl⟩,fun _ h=>h,fun _ h=> .inl h,hs.lt⟩,fun m hm=>?_,ju sD iw,⟨fun o' s' t hf=>?_,fun o1 o2 s1 s2 q1 q2 u1 u2 bu g1 g2 e1 e2 k hk cx=>?_⟩,fun o' iJ=>?_⟩
 .have a1:m≠n:=by omega
  have a2:m≠n+1:=by omega
  simp[H1,a1,a2]
 .rw[aw]at hf;split at hf
  .rename_i e;subst e;simp only[Ye,YW]at hf;obtain⟨rfl,rfl⟩:=hf
   have KB:H1.sub n=So:=by simp[H1]
   refine⟨v,hle.val _ _ hv,bO.one,?_,?_,fun k hk=>?_⟩
   .rw[<-JW];simp[H1,Th.base,JW]
   .rw[KB,<-JW,<-Nx];refine⟨lh,_,hm,hlen,fun i' a b=>?_,cC.less j QX⟩;have hr:gu F w dr lh[i'] l[i'] (Ss i'):=qz i' a b;refine⟨fun hi=>?_,fun hi=>?_⟩
    .have:i'≠j:=fun e=>hi (by subst e;exact HL)
     show gu F w dr lh[i'] l[i'] (if i'=j then B else Ss i')
     rw[if_neg this];exact hr
    .have hi:i=(i':Int):=hi
     obtain rfl:i'=j:=by omega
     refine⟨T',e',q,hq,?_,?_⟩
     .show iG F w q lh[i'] l[i'] (if i'=i' then B else Ss i')
      rw[if_pos rfl];exact hB
     .rw[hu];exact sD
   .rw[KB,<-JW]at hk;have hk:So k:=hk;have:=Ny k hk;exact⟨bO.no k this,bO.lt k this, .inr (gS k this)⟩
  .obtain⟨e0,e⟩:=be hf;obtain⟨rfl,rfl⟩:=Zm e;rw[e0]
   have KB:H1.sub (n+1)=A:=by simp[H1]
   obtain⟨m1,QY,_⟩:=ow (H:=H1) hA;rw[xT,hu]at m1 QY;refine⟨u,sD,iw,?_,by rw[KB];exact m1,fun k hk=>?_⟩
   .rw[<-xT,qw,xT];simp[H1]
   .rw[KB]at hk;have:=Gj k (QY k hk);exact⟨bO.no k this,bO.lt k this, .inr (gS k this)⟩
 .have key:∀{k},So k->A k->False:=fun a b=>Sp _ a b
  have QZ:∀k,fp A u t2 k->A k:=by rw[<-xT,<-hu];exact m2
  have mG:H1.sub n=So:=by simp[H1]
  have II:H1.sub (n+1)=A:=by simp[H1]
  have two:∀{o' s' t'},find [(o,(n,t1)),(n,(n+1,t2))] o'=some (s',t')->(o'=o/\s'=n/\t'=t1)\/(o'=n/\s'=n+1/\t'=t2):=by
   intro o' s' t' hf;rw[aw]at hf;split at hf
   .rename_i e;simp only[Ye,YW]at hf;exact .inl ⟨e.symm,hf.1.symm,hf.2.symm⟩
   .obtain⟨e1,e⟩:=be hf;obtain⟨e2,e3⟩:=Zm e;exact .inr ⟨e1,e2,e3⟩
  rcases two g1 with⟨rfl,rfl,rfl⟩|⟨rfl,rfl,rfl⟩<;>rcases two g2 with⟨rfl,rfl,rfl⟩|⟨rfl,rfl,rfl⟩
  .exact bu rfl
  .rw[mG,<-JW]at hk;rw[II]at cx;rw[sD]at e2;obtain rfl:=X7 e2;exact key (show So k from hk) (QZ k cx)
  .rw[mG,<-JW]at cx;rw[II]at hk;rw[sD]at e1;obtain rfl:=X7 e1;exact key (show So k from cx) (QZ k hk)
  .exact bu rfl
 .obtain⟨y,hy⟩:=YA.1 iJ;rw[aw]at hy;split at hy
  .rename_i e;exact .inl (by rw[<-e];simp)
  .exact .inr (by rw[(be hy).1];exact Yd _)
theorem tQ{α β:Type}{l:List α}{lh:List β}(h:lh.length=l.length){i:Int}{x:α}(hi:idx l i=some x):∃j,i=(j:Nat)/\∃(h1:j<lh.length)(h2:j<l.length),x=l[j]/\idx lh i=some lh[j]:=by
 obtain⟨j,hj,aW,rfl⟩:=dX hi;refine⟨j,hj,by omega,aW,rfl,?_⟩;subst hj
 have Gk:j<lh.length:=by omega
 simp[idx,Gk]
theorem Br(T:aG P){t:TypeId}{D:aj}{x:Operand}{k:cU->Option R}{q:R}(h:mT T ob n t D k=some q)(hs:aq U H F w ob n)(hx:ai H F w D (ev ρ x)):
 ∃e,k e=some q/\bJ P U H F w ρ ob n ⟨some d, .load t x,ty,pos,aft,none⟩ e:=by
 unfold mT at h;split at h
 .cases h
 rename_i kk hu;split at h
 case h_2=>cases h
 rename_i o d0 i p off;split at h
 case h_2=>cases h
 rename_i s T0 dr l hh cA;obtain⟨hd,h'⟩:=ay h;clear h;obtain rfl:=DR.eq_of_beq hd;obtain⟨g,o0,qq,m,cap,e1,e2,e5⟩:=hx;obtain⟨lh,Ss,dI,hlen,qz,cC⟩:=hs.low cA e1;split at h'
 .rename_i r sw tL;obtain⟨h1,h2⟩:=ay h';obtain⟨h1,h3⟩:=bU h1;obtain rfl:=beq_true h1;obtain⟨a,ha,hk⟩:=bind_some h2;obtain⟨j,hj,g1,g2,rfl,kw⟩:=tQ hlen ha;have oZ:=(dI.at rfl e2 kw).path sw.lo _ rfl;rw[DW sw (qz j g1 g2)]at oZ;obtain⟨es,hl,Gc,hr⟩:=oZ;exact⟨_,hk,jN T hu e5 hs (s:= .leaf r _) hr Gc (gk T h3)⟩
 .rename_i T' e' sw tL;obtain⟨h1,h2⟩:=ay h';obtain⟨h1,h4⟩:=bU h1;obtain⟨h1,h3⟩:=bU h1;obtain rfl:=beq_true h1
  have rR:gQ kk=false:=by simpa using h4
  obtain⟨dd,pN,qc⟩:=(T.und_ok _ _ hu).agg
  have run:∀{j:Nat}(g1:j<lh.length),idx lh i=some lh[j]->(execOp (ev ρ) ⟨some d, .load t x,ty,pos,aft,none⟩).run P w= .ok (.value (sw.lo.get lh[j])) w:=by
   intro j g1 kw;have oZ:=(dI.at rfl e2 kw).path sw.lo _ rfl;obtain⟨es,hl,Gc,hr,_⟩:=oZ;rw[hr]at Gc;exact sn pN (qc.trans rR) e5 (Gc 0 _ rfl)
  split at h2
  .obtain⟨a,ha,hk⟩:=bind_some h2;obtain⟨j,hj,g1,g2,rfl,kw⟩:=tQ hlen ha;exact⟨_,hk,bp.val (run g1 kw) (vC hs tL cA e1 hj g2 dI.2 hlen qz cC)⟩
  .rename_i hh;obtain⟨hp,h3⟩:=ay h2;have hp:=mR hp;split at h3
   case isFalse=>cases h3
   rename_i hi;have hi:hh.i=i:=of_decide_eq_true hi;obtain⟨a,ha,hk⟩:=bind_some h3;obtain⟨j,hj,g1,g2,rfl,kw⟩:=tQ hlen ha;obtain⟨Sq,Sr,Su,k1,_,k3⟩:=(qz j g1 g2).2 (hi.trans hj);rw[hp,tL]at k1;cases k1;refine⟨_,hk,aU hs (run g1 kw) (ju k3 ?_)⟩;have oZ:=(dI.at rfl e2 kw).path sw.lo _ rfl;obtain⟨es,_,_,_,A,m',c,vz⟩:=oZ;rw[vz];rfl
 .cases h'
def IJ(T:TypeId):(e:DR)->Th->Option (List e.row.den)
 | .leaf r, .own T1 r1 y=>bif Yb T1 T then(if h:r1.beq r=true then some (fK (r:= .slice r1) (s:= .slice r) (congrArg Row.slice (Row.eq_of_beq h)) y)else none)else none
 | .sl T2 e2, .deep T1 (.sl T3 e3) y none=>bif Yb T1 T then(if h:(DR.sl T3 e3).beq (.sl T2 e2)=true then some (DR.eq_of_beq h▸y)else none)else none
 | .pair a b, .deep T1 (.pair a1 b1) y none=>bif Yb T1 T then(if h:(DR.pair a1 b1).beq (.pair a b)=true then some (DR.eq_of_beq h▸y)else none)else none
 |_,_=>none
theorem qA{T:TypeId}{e:DR}{t:Th}{y:List e.row.den}(h:IJ T e t=some y):t=Bp T e y:=by
 unfold IJ at h;split at h
 .obtain⟨h1,h2⟩:=ay h;split at h2
  .rename_i hb;obtain rfl:=Row.eq_of_beq hb;obtain rfl:=X7 h2;rw[beq_true h1];rfl
  .cases h2
 .obtain⟨h1,h2⟩:=ay h;split at h2
  .rename_i hb;cases DR.eq_of_beq hb;obtain rfl:=X7 h2;rw[beq_true h1];rfl
  .cases h2
 .obtain⟨h1,h2⟩:=ay h;split at h2
  .rename_i hb;cases DR.eq_of_beq hb;obtain rfl:=X7 h2;rw[beq_true h1];rfl
  .cases h2
 .cases h
def tR(h:Option qd)(i:Int)(p:List Bool):Bool:=
 match h with
 |none=>true
 |some h=>kA h.p p&&decide (h.i=i)
theorem vD{h:Option qd}{i:Int}{p:List Bool}(hh:tR h i p=true){dr e:DR}{T:TypeId}{q:dT dr (.sl T e)}(hq:dr.path p=some ⟨_,q⟩){j:Nat}(hj:i=(j:Nat)){x':dr.low.den}{x:dr.row.den}{S:Nat->Prop}(hr:kz H F w dr h j x' x S):
 ∃B,(∀k,B k->S k)/\iG F w q x' x B:=by
 cases h with
 |none=>
  obtain⟨A,B,_,h2,h3⟩:=gu.out q (show gu F w dr x' x S from hr);exact⟨B,h3.right,h2⟩
 |some h=>
  have h':(kA h.p p&&decide (h.i=i))=true:=hh;obtain⟨h1,h2⟩:=bU h';obtain⟨T',e',q',k1,k2,_⟩:=hr.2 ((of_decide_eq_true h2).trans hj);rw[mR h1,hq]at k1;cases k1;exact⟨S,fun _ h=>h,k2⟩
theorem qB{h:Option qd}{i:Int}{p:List Bool}(hh:tR h i p=true){dr:DR}{j:Nat}(hj:i≠(j:Nat)){x':dr.low.den}{x:dr.row.den}{S:Nat->Prop}(hr:kz H F w dr h j x' x S):gu F w dr x' x S:=by
 cases h with
 |none=>exact hr
 |some h=>
  have h':(kA h.p p&&decide (h.i=i))=true:=hh;obtain⟨h1,h2⟩:=bU h';exact hr.1 (fun e=>hj ((of_decide_eq_true h2).symm.trans e))
end
end Go.Proofs.YtlfjlhcigpejdaaGreatDoor
end
section
open _root_.Int renaming toNat_natCast->Yg
open _root_.Nat renaming beq->Yb,le_refl->Yd
open _root_.Option.some renaming inj->X7
open _root_.Go.Value renaming ownBlock->YE
namespace Go.Proofs.YtlfjlhcigpejdaaGreatDoor
open Go Go.RowKit
section
variable {P:Program} {ρ:Nat->Value} {w w':World} {H H':ao} {F F':Nat->Prop} {U:Nat->Prop} {ob:Nat->Option (Nat×Th)} {n:Nat} {R:Type}
variable {op:Op} {ty:TypeId} {pos:String} {aft:Array Edge} {d:Nat}
noncomputable def lX(T:aG P)(ob:Nat->Option (Nat×Th))(n:Nat)(t:TypeId)(D V:aj)(k:cU->Option R):Option R:=
 match find T.row t with
 |none=>none
 |some rt=>match V with
  | .val _ u=>match D with
    | .dlm o d0 i p off=>match ob o with
      |some (_, .deep T0 dr l h)=>bif d0.beq dr then(match dr.path p with
       |some ⟨.leaf r,q⟩=>bif Yb q.lo.off off&&Yb rt.size r.size then(match flat ob r u with
        |some y=>(idx l i).bind fun x=>k {dst:= .dead,eat:=[o],make:=[(o,(n, .deep T0 dr (aQ l i (q.hi.set x y)) h))]}
        |none=>none)else none
       |some ⟨.sl T' e',q⟩=>bif Yb q.lo.off off&&Yb rt.size 1 then(match u with
        | .own o1=>match ob o1 with
          |some (_,t1)=>match IJ T' e' t1 with
           |some _=>if tR h i p=true then(idx l i).bind fun _=>k {dst:= .dead,eat:=[o],make:=[(o,(n, .deep T0 dr l (some ⟨i,p,o1,n⟩)))]}else none
           |none=>none
          |none=>none
        | .nil=>if tR h i p=true then(idx l i).bind fun x=>k {dst:= .dead,eat:=[o],make:=[(o,(n, .deep T0 dr (aQ l i (q.hi.set x ([]:List e'.row.den))) none))]}else none
        |_=>none)else none
       |_=>none)else none
      |_=>none
    |_=>none
  |_=>none
theorem mU(T:aG P){t:TypeId}{rt:Row}(DJ:find T.row t=some rt){x y:Operand}{o s:Nat}{T0:TypeId}{dr e:DR}{i:Int}{l l':List dr.row.den}{h h':Option qd}{q:dT dr e}{g o0 qq m cap j:Nat}{u:e.low.den}{cs:List Value}{x1:dr.row.den}
 (hs:aq U H F w ob n)(cA:ob o=some (s, .deep T0 dr l h))(hv:H.val o=some (.slice (some ⟨g,o0,none⟩) m cap))(hj:i=(j:Nat))(DY:j<l.length)(hx:ev ρ x= .pointer (some ⟨g,o0+qq*dr.low.size+q.lo.off,none⟩))(Xu:i=(qq:Nat))(hz:rt.size=e.low.size)
 (hr:bH F w e.low cs u)(rP:(ev ρ y).cells.toList=cs)(Nz:l'=l.set j x1)
 (qz:∀{w':World}{H1:ao},H.le H1->Step F w F w'->∀{x':dr.low.den}{S:Nat->Prop},(∀k,S k->w'.heap[k]? =w.heap[k]?)->kz H F w dr h j x' l[j] S->∃B,(∀k,B k->S k)/\kz H1 F w' dr h' j (q.lo.set x' u) x1 B)
 (Gl:∀{H1:ao}{w':World}{i':Nat}{x':dr.low.den}{x:dr.row.den}{S:Nat->Prop},i'≠j->kz H1 F w' dr h i' x' x S->kz H1 F w' dr h' i' x' x S):
 bJ P U H F w ρ ob n ⟨none, .store t x y,ty,pos,aft,none⟩ {dst:= .dead,eat:=[o],make:=[(o,(n, .deep T0 dr l' h'))]}:=by
 obtain⟨ti,z0,h1,_,_,h4,_⟩:=T.row_ok _ _ DJ;obtain⟨lh,Ss,dI,hlen,DZ,cC⟩:=hs.low cA hv;obtain⟨v1,n7,bO⟩:=hs.obj _ _ _ cA;rw[hv]at n7;obtain rfl:=X7 n7
 have NA:j<lh.length:=by omega
 obtain rfl:qq=j:=by omega
 obtain⟨gi,hh,hle,bI,kS⟩:=dI.put rfl NA hs.lt q.lo hr;generalize NB:w.setRow g (gi.toList.take (o0+qq*dr.low.size+q.lo.off)++cs++gi.toList.drop (o0+qq*dr.low.size+q.lo.off+cs.length)).toArray=w' at bI kS;refine bp.unit (w':=w') (by rw[<-NB];exact ku h1 (h4.trans (hz.trans hr.length.symm)) hx rfl rP hr.fT hh hle) ?_;have dH:Step F w F w':=Step.ext bI hs.lt dI.no
 have IK:∀i',i'<l.length->∀k,Ss i' k->w'.heap[k]? =w.heap[k]? :=fun i' dA k hk=>bI.block k (bO.lt k (cC.part dA k hk)) (cC.out i' k dA hk)
 have hf:=hs.fresh n (Yd _) (by omega)
 have gS:∀k,H.sub s k->bx H ob [o] k:=fun k hk=>⟨o,by simp,s,_,_,cA,hv,hk⟩
 obtain⟨B0,KC,_⟩:=qz (w':=w') (H1:=H) (ao.le.refl H) dH (IK qq DY) (DZ qq NA DY)
 have main:∀{H1:ao},H.le H1->∃B,(∀k,B k->Ss qq k)/\kz H1 F w' dr h' qq (q.lo.set lh[qq] u) x1 B:=fun Bt=>qz Bt dH (IK qq DY) (DZ qq NA DY)
 have KD:∃B,(∀k,B k->Ss qq k)/\∀{H1:ao},H.le H1->kz H1 F w' dr h' qq (q.lo.set lh[qq] u) x1 B:=by
  obtain⟨B,b1,b2⟩:=main (ao.le.refl H);exact⟨B,b1,fun Bt=>b2.aO Bt (Step.refl F w') fun _ _=>rfl⟩
 obtain⟨B,b1,b2⟩:=KD;have Sv:∀k,mS (aM (Value.slice (some ⟨g,o0,none⟩) m cap)) (fun i=>if i=qq then B else Ss i) l.length k->H.sub s k:=cC.vB qq b1;refine iZ.tP (t':= .deep T0 dr l' h') hs cA hv rfl (by simp) (mS (aM (Value.slice (some ⟨g,o0,none⟩) m cap)) (fun i=>if i=qq then B else Ss i) l.length) (fun k hk=>gS k (Sv k hk)) ⟨bI.os,bI.tape,bI.output,bI.size,fun k hk hn=>bI.block k hk fun e=>hn (gS k (cC.aM k e))⟩ ?_ trivial;have Bt:=ao.pT (H:=H) (S:=mS (aM (Value.slice (some ⟨g,o0,none⟩) m cap)) (fun i=>if i=qq then B else Ss i) l.length) (t:= .deep T0 dr l' h') hf.2
 have sC:l'.length=l.length:=by rw[Nz];simp
 refine⟨lh.set qq (q.lo.set lh[qq] u),(fun i=>if i=qq then B else Ss i),kS.2,by rw[sC];simpa using hlen,?_,?_⟩
 .intro i' a b
  have:=Gi (rel:=kz ((H.dB n (mS (aM (Value.slice (some ⟨g,o0,none⟩) m cap)) (fun i=>if i=qq then B else Ss i) l.length)).aS n (.deep T0 dr l' h')) F w' dr h') (lh:=lh) (l:=l) (Ss:=Ss) (j:=qq) (x':=q.lo.set lh[qq] u) (x:=x1) (B:=B)
   (fun i2 c1 c2 bu=>Gl bu ((DZ i2 c1 c2).aO Bt dH (IK i2 c2))) (b2 Bt) i' a (by simpa[Nz]using b)
  simpa only[Nz]using this
 .rw[sC];exact cC.less qq b1
theorem xU(T:aG P){t:TypeId}{D V:aj}{x y:Operand}{k:cU->Option R}{q:R}(h:lX T ob n t D V k=some q)(hs:aq U H F w ob n)(hx:ai H F w D (ev ρ x))(hy:ai H F w V (ev ρ y)):
 ∃e,k e=some q/\bJ P U H F w ρ ob n ⟨none, .store t x y,ty,pos,aft,none⟩ e:=by
 unfold lX at h;split at h
 .cases h
 rename_i rt DJ;split at h
 case h_2=>cases h
 rename_i agg u;split at h
 case h_2=>cases h
 rename_i o d0 i p off;split at h
 case h_2=>cases h
 rename_i s T0 dr l hh cA;obtain⟨hd,h'⟩:=ay h;clear h;obtain rfl:=DR.eq_of_beq hd;obtain⟨g,o0,qq,m,cap,e1,e2,e5⟩:=hx;obtain⟨cs,py,rP⟩:=aB.cells hy;split at h'
 .rename_i r sw tL;obtain⟨h1,h2⟩:=ay h';obtain⟨h1,h3⟩:=bU h1;obtain rfl:=beq_true h1;split at h2
  case h_2=>cases h2
  rename_i z hz;obtain⟨a,ha,hk⟩:=bind_some h2;obtain⟨j,hj,DY,rfl⟩:=dX ha;refine⟨_,hk,mU (l':=aQ l i (sw.hi.set l[j] z)) (x1:=sw.hi.set l[j] z) (u:=z) T DJ hs cA e1 hj DY e5 e2 (beq_true h3) (fA hs hz py) rP ?_ ?_ ?_⟩
  .unfold aQ;rw[hj,Yg]
  .intro w' H1 hle dH x' S hb hr;exact⟨S,fun _ h=>h,Bq sw z (hr.aO hle dH hb)⟩
  .intro H1 w' i' x' x S _ hr;exact hr
 .rename_i T' e' sw tL;obtain⟨h1,h2⟩:=ay h';obtain⟨h1,h3⟩:=bU h1;obtain rfl:=beq_true h1;split at h2
  .rename_i o1;split at h2
   case h_2=>cases h2
   rename_i s1 t1 lm;split at h2
   case h_2=>cases h2
   rename_i y1 hD;split at h2
   case isFalse=>cases h2
   rename_i o7;obtain⟨a,ha,hk⟩:=bind_some h2;obtain⟨j,hj,DY,rfl⟩:=dX ha;obtain⟨u1,tH,je⟩:=hs.obj _ _ _ lm;obtain⟨v,hv,iw,rfl⟩:=py;rw[tH]at hv;obtain rfl:=X7 hv
   have NC:bH F w .gU [u1] u1:=by
    have:=je.ok;rw[qA hD]at this;obtain⟨Sw,_,g1,_⟩:=qx this;obtain⟨xs,⟨_,hx⟩,_⟩:=g1
    rcases hx with⟨rfl,_⟩|⟨gg,o0,cp,gi,rfl,_⟩<;>exact⟨rfl,_,_,_,rfl⟩
   refine⟨_,hk,mU (l':=l) (x1:=l[j]) (u:=u1) (e:= .sl T' e') T DJ hs cA e1 hj DY e5 e2 (beq_true h3) NC rP ?_ ?_ ?_⟩
   .exact(List.set_getElem_self DY).symm
   .intro w' H1 hle dH x' S hb hr;obtain⟨B,b1,b2⟩:=vD o7 tL hj hr;refine⟨B,b1,fun bu=>absurd hj bu,fun _=>⟨T',e',sw,tL,(b2.aO dH fun k hk=>hb k (b1 k hk)).DX sw u1,?_⟩⟩;rw[Path.tO];exact hle.val _ _ tH
   .intro H1 w' i' x' x S bu hr
    have Gm:i≠(i':Int):=fun e=>bu (by omega)
    exact⟨fun _=>qB o7 Gm hr,fun e=>absurd e Gm⟩
  .split at h2
   case isFalse=>cases h2
   rename_i o7;obtain⟨a,ha,hk⟩:=bind_some h2;obtain⟨j,hj,DY,rfl⟩:=dX ha;have ND:cs=_:=py;subst ND;refine⟨_,hk,mU (x1:=sw.hi.set l[j] ([]:List e'.row.den)) (u:=Value.slice none 0 0) (e:= .sl T' e') T DJ hs cA e1 hj DY e5 e2 (beq_true h3) ⟨rfl,_,_,_,rfl⟩ rP ?_ ?_ ?_⟩
   .unfold aQ;rw[hj,Yg]
   .intro w' H1 hle dH x' S hb hr;obtain⟨B,b1,b2⟩:=vD o7 tL hj hr;refine⟨B,b1,?_⟩;refine iG.put (e:= .sl T' e') sw (b2.aO dH fun k hk=>hb k (b1 k hk)) (A:=fun _=>False) ?_ ⟨fun k=>by simp,fun _ h=>h.elim⟩;exact⟨[],fun _ _=>False,gP.nil F w' T' e'.low,rfl,fun i h=>absurd h (by simp),⟨fun k=>by simp[aM,YE],fun _ _ _ h=>absurd h (by simp),fun _ _ h=>absurd h (by simp)⟩⟩
   .intro H1 w' i' x' x S bu hr
    have Gm:i≠(i':Int):=fun e=>bu (by omega)
    exact qB o7 Gm hr
  .cases h2
 .cases h'
end
end Go.Proofs.YtlfjlhcigpejdaaGreatDoor
namespace Go.Proofs.YtlfjlhcigpejdaaGreatDoor
open Go Go.RowKit
def qC{α:Type}(l:List α)(i:Int)(f:α->α):List α:=if 0<=i then l.modify i.toNat f else l
theorem vE{α:Type}(l:List α)(i:Int)(f:α->α):(qC l i f).length=l.length:=by unfold qC;split<;>simp
theorem Gn{α:Type}{l:List α}{i:Int}{f:α->α}{j:Nat}(h:j<(qC l i f).length)(h':j<l.length):(qC l i f)[j]=if i=(j:Int)then f l[j]else l[j]:=by
 by_cases hi:0<=i
 .have e:qC l i f=l.modify i.toNat f:=by unfold qC;rw[if_pos hi]
  simp only[e,List.getElem_modify]
  by_cases HL:i=(j:Int)
  .rw[if_pos HL,if_pos (by omega)]
  .rw[if_neg HL,if_neg (by omega)]
 .have e:qC l i f=l:=by unfold qC;rw[if_neg hi]
  simp only[e];rw[if_neg (by omega)]
theorem Path.tS:{r s:Row}->(p:Path r s)->(x:r.den)->p.set x (p.get x)=x
 |_,_, .here,_=>rfl
 |_,_, .fst p,x=>by show(p.set x.1 (p.get x.1),x.2)=x;rw[Path.tS p]
 |_,_, .snd p,x=>by show(x.1,p.set x.2 (p.get x.2))=x;rw[Path.tS p]
section
variable {P:Program} {ρ:Nat->Value} {w w':World} {H H':ao} {F F':Nat->Prop} {U:Nat->Prop} {ob:Nat->Option (Nat×Th)} {n:Nat} {R:Type}
variable {op:Op} {ty:TypeId} {pos:String} {aft:Array Edge} {d:Nat}
def D1(ob:Nat->Option (Nat×Th))(n o:Nat):Option cU:=
 match ob o with
 |some (_, .deep T0 dr l (some h))=>match dr.path h.p with
  |some ⟨.sl T' e',q⟩=>match ob h.o with
   |some (_,t1)=>bif Yb h.o o then none else(match IJ T' e' t1 with
    |some y=>some {dst:= .dead,eat:=[o,h.o],make:=[(o,(n, .deep T0 dr (qC l h.i fun x=>q.hi.set x y) none))]}
    |none=>none)
   |none=>none
  |_=>none
 |_=>none
theorem Bu(hs:aq U H F w ob n){o:Nat}{e:cU}(h:D1 ob n o=some e):gV H F w ob n e undef w:=by
 unfold D1 at h;split at h
 case h_2=>cases h
 rename_i s T0 dr l hh cA;split at h
 case h_2=>cases h
 rename_i T' e' q hq;split at h
 case h_2=>cases h
 rename_i s1 t1 lm
 cases bu:Yb hh.o o with
 |true=>rw[bu]at h;cases h
 |false=>
  rw[bu,cond_false]at h
  have bu:o≠hh.o:=fun e=>by rw[e]at bu;simp at bu
  split at h
  case h_2=>cases h
  rename_i y hD;obtain rfl:=X7 h;have hD:=qA hD;subst hD;obtain⟨v,hv,bO⟩:=hs.obj _ _ _ cA;obtain⟨u,hu,je⟩:=hs.obj _ _ _ lm;obtain⟨lh,Ss,dI,hlen,qz,cC⟩:=hs.low cA hv;have hA:=qx je.ok;generalize Q0:(fun k=>fp (H.sub s1) u (Bp T' e' y) k)=A at hA
  have MC:∀k,A k->¬H.sub s k:=fun k hk=>by
   rw[<-Q0]at hk
   exact fun h2=>hs.apart _ _ _ _ _ _ _ _ bu cA lm hv hu k h2 hk
  have hf:=hs.fresh n (Yd _) (by omega)
  let KE:Nat->Nat->Prop:=fun i k=>Ss i k\/(hh.i=(i:Int)/\A k)
  have gS:∀k,H.sub s k\/A k->bx H ob [o,hh.o] k:=by
   rintro k (hk|hk)
   .exact⟨o,by simp,s,_,v,cA,hv,hk⟩
   .rw[<-Q0]at hk;exact⟨hh.o,by simp,s1,_,u,lm,hu,hk⟩
  have hS:∀k,mS (aM v) KE l.length k->H.sub s k\/A k:=by
   rintro k (hk|⟨i,hi,hk|hk⟩)
   .exact .inl (cC.aM k hk)
   .exact .inl (cC.part hi k hk)
   .exact .inr hk.2
  refine iZ.tP (t':= .deep T0 dr (qC l hh.i fun x=>q.hi.set x y) none) hs cA hv rfl (by simp) (mS (aM v) KE l.length) (fun k hk=>gS k (hS k hk)) ⟨rfl,rfl,rfl,Yd _,fun _ _ _=>rfl⟩ ?_ trivial;have sC:(qC l hh.i fun x=>q.hi.set x y).length=l.length:=vE ..;refine⟨lh,KE,dI.2,by rw[sC];exact hlen,fun i a b=>?_,?_⟩
  .have b':i<l.length:=by omega
   rw[Gn b b'];have hr:=qz i a b'
   by_cases hi:hh.i=(i:Int)
   .rw[if_pos hi];obtain⟨Sq,Sr,Su,k1,k2,k3⟩:=hr.2 hi;rw[hq]at k1;cases k1;rw[hu]at k3;have k3:=X7 k3;have:gu F w dr (q.lo.set lh[i] u) (q.hi.set l[i] y) (KE i):=k2.put q hA ⟨fun k=>⟨fun hk=>hk.elim .inr fun hk=> .inl hk.2,fun hk=>hk.elim (fun hk=> .inr ⟨hi,hk⟩) .inl⟩,fun k hk h2=>MC k hk (cC.part b' k h2)⟩;rw[k3,Path.tS]at this;exact this
   .rw[if_neg hi];have HM:=hr.1 hi
    have:KE i=Ss i:=by
     funext k;exact propext ⟨fun hk=>hk.elim id fun hk=>absurd hk.1 hi, .inl⟩
    rw[this];exact HM
  .rw[sC];refine⟨fun k=>Iff.rfl,fun i j k h1 h2 HL h3 h4=>?_,fun i k h1 h3 h4=>?_⟩
   .rcases h3 with h3|h3<;>rcases h4 with h4|h4
    .exact cC.two i j k h1 h2 HL h3 h4
    .exact MC k h4.2 (cC.part h1 k h3)
    .exact MC k h3.2 (cC.part h2 k h4)
    .have:=h3.1;have:=h4.1;omega
   .rcases h3 with h3|h3
    .exact cC.out i k h1 h3 h4
    .exact MC k h3.2 (cC.aM k h4)
end
end Go.Proofs.YtlfjlhcigpejdaaGreatDoor
end
section
open _root_.Array renaming toArray_toList->YH
open _root_.Int renaming le_refl->Ze
open _root_.List renaming replicate->Yf
open _root_.Nat renaming beq->Yb,le_refl->Yd,lt_of_lt_of_le->YK
open _root_.Option renaming isSome_iff_exists->YA
open _root_.Option.some renaming inj->X7
open _root_.Prod.mk renaming inj->Zm
open _root_.Go.Value renaming ownBlock->YE
namespace Go.Proofs.YtlfjlhcigpejdaaGreatDoor
open Go Go.RowKit
theorem DR.dn:(d:DR)->d.low.dn=d.row.dn
 | .leaf _=>rfl
 | .sl _ _=>rfl
 | .pair a b=>by show a.low.dn++b.low.dn=a.row.dn++b.row.dn;rw[a.dn,b.dn]
theorem TI.low{P:Program}{e:TypeId}{d:DR}(h:TI P e d.row):TI P e d.low:=by
 obtain⟨ti,z,h1,h2,h3,h4,h5⟩:=h;exact⟨ti,z,h1,h2,by rw[d.dn];exact h3,by rw[d.size];exact h4,h5⟩
def xV:List Nat->Bool
 |[]=>true
 |o::l=> !l.any (Yb o)&&xV l
theorem sE:{l:List Nat}->xV l=true->l.Nodup
 |[],_=>List.nodup_nil
 |o::l,h=>by
  obtain⟨h1,h2⟩:=bU h;refine List.nodup_cons.2 ⟨fun hm=>?_,sE h2⟩;rw[any_beq.2 hm]at h1;cases h1
def DR.Sz:DR->DR->DR
 | .leaf a, .leaf b=> .leaf (.pair a b)
 |a,b=> .pair a b
def IL(ob:Nat->Option (Nat×Th)):Row->Tree->DR
 | .slice e, .own o=>match ob o with
   |some (_, .own T r _)=> .sl T (.leaf r)
   |some (_, .deep T d _ none)=> .sl T d
   |_=> .leaf (.slice e)
 | .pair a b,t=>match t.split with
   |some (x,y)=>DR.Sz (IL ob a x) (IL ob b y)
   |none=> .leaf (.pair a b)
 |r,_=> .leaf r
def xW(ob:Nat->Option (Nat×Th)):(d:DR)->Tree->Option (d.row.den×List Nat)
 | .leaf r,t=>match flat ob r t with
   |some x=>some (x,[])
   |none=>none
 | .sl T e, .own o=>match ob o with
   |some (_,t1)=>match IJ T e t1 with
    |some y=>some (y,[o])
    |none=>none
   |none=>none
 | .sl _ _, .nil=>some ([],[])
 | .sl _ _,_=>none
 | .pair a b,t=>match t.split with
   |some (x,y)=>match xW ob a x with
    |some (u,os)=>match xW ob b y with
     |some (v,Gp)=>some ((u,v),os++Gp)
     |none=>none
    |none=>none
   |none=>none
def zD(ob:Nat->Option (Nat×Th))(d:DR):List aj->Option (List d.row.den×List Nat)
 |[]=>some ([],[])
 | .val _ u::l=>match xW ob d u with
   |some (x,os)=>match zD ob d l with
    |some (xs,Gp)=>some (x::xs,os++Gp)
    |none=>none
   |none=>none
 |_::_=>none
section
variable {P:Program} {ρ:Nat->Value} {w w':World} {H H':ao} {F F':Nat->Prop} {U:Nat->Prop} {ob:Nat->Option (Nat×Th)} {n:Nat} {R:Type}
variable {op:Op} {ty:TypeId} {pos:String} {aft:Array Edge} {d:Nat}
theorem o8(hs:aq U H F w ob n){os Gp:List Nat}(hd:∀o,o∈os->o∉Gp):∀k,bx H ob os k->¬bx H ob Gp k:=by
 rintro k ⟨o,ho,s,t,v,h1,h2,h3⟩ ⟨o',iJ,s',t',v',g1,g2,g3⟩
 exact hs.apart o o' s s' t t' v v' (fun e=>hd o ho (e▸iJ)) h1 g1 h2 g2 k h3 g3
theorem lY{os Gp:List Nat}(h:∀o,o∈os->o∈Gp):∀k,bx H ob os k->bx H ob Gp k:=fun _ ⟨o,ho,rest⟩=>⟨o,h o ho,rest⟩
theorem tT(hs:aq U H F w ob n):{d:DR}->{t:Tree}->{x:d.row.den}->{os:List Nat}->{cs:List Value}->xW ob d t=some (x,os)->bi H F w t cs->os.Nodup->∃x' S,bH F w d.low cs x'/\gu F w d x' x S/\∀k,S k->bx H ob os k
 | .leaf r,t,x,os,cs,h,hh,IM=>by
   unfold xW at h
   split at h<;>cases h
   rename_i hf;exact⟨x,fun _=>False,fA hs hf hh,⟨rfl,fun _ h=>h⟩,fun _ h=>h.elim⟩
 | .sl T e, .own o,x,os,cs,h,hh,IM=>by
   unfold xW at h;split at h
   case h_2=>cases h
   rename_i s1 t1 ho
   split at h<;>cases h
   rename_i hD;obtain⟨v,hv,_,rfl⟩:=hh;obtain⟨v',cy,bO⟩:=hs.obj _ _ _ ho;rw[hv]at cy;obtain rfl:=X7 cy;have hD:=qA hD;subst hD;have hb:=qx bO.ok;refine⟨v,_,?_,hb,fun k hk=>⟨o,by simp,s1,_,v,ho,hv,hk⟩⟩;obtain⟨Sw,_,⟨xs,⟨_,hx⟩,_⟩,_⟩:=hb
   rcases hx with⟨rfl,_⟩|⟨gg,o0,cp,gi,rfl,_⟩<;>exact⟨rfl,_,_,_,rfl⟩
 | .sl T e, .nil,x,os,cs,h,hh,_=>by
   cases h;have MD:cs=_:=hh;subst MD;exact⟨.slice none 0 0,fun _=>False,⟨rfl,_,_,_,rfl⟩,⟨[],fun _ _=>False,gP.nil F w T e.low,rfl,fun i h=>absurd h (by simp),⟨fun k=>by simp[aM,YE],fun _ _ _ h=>absurd h (by simp),fun _ _ h=>absurd h (by simp)⟩⟩,fun _ h=>h.elim⟩
 | .pair a b,t,x,os,cs,h,hh,hn=>by
   unfold xW at h;split at h
   case h_2=>cases h
   rename_i t1 t2 rL;split at h
   case h_2=>cases h
   rename_i u SA h1;split at h
   case h_2=>cases h
   rename_i v SB h2;cases h;obtain⟨c1,c2,rfl,g1,g2,_⟩:=hh.split rL;obtain⟨n1,n2,n3⟩:=List.nodup_append.1 hn;obtain⟨x1,S1,r1,e1,s1⟩:=tT hs h1 g1 n1;obtain⟨x2,S2,r2,e2,s2⟩:=tT hs h2 g2 n2;refine⟨(x1,x2),fun k=>S1 k\/S2 k,⟨c1,c2,rfl,r1,r2⟩,⟨S1,S2,e1,e2,fun _=>Iff.rfl,fun k hk cx=>o8 hs (fun o ho iJ=>n3 o ho o iJ rfl) k (s1 k hk) (s2 k cx)⟩,fun k hk=>hk.elim (fun hk=>lY (fun o ho=>by simp[ho]) k (s1 k hk)) fun hk=>lY (fun o ho=>by simp[ho]) k (s2 k hk)⟩
 | .sl _ _, .leaf _ _,_,_,_,h,_,_=>by cases h
 | .sl _ _, .pair _ _,_,_,_,h,_,_=>by cases h
 | .sl _ _, .view ..,_,_,_,h,_,_=>by cases h
theorem vF(hs:aq U H F w ob n){d:DR}:{ds:List aj}->{l:List d.row.den}->{os:List Nat}->{vs:List Value}->zD ob d ds=some (l,os)->dJ H F w ds vs->os.Nodup->
 ∃(lh:List d.low.den)(Ss:Nat->Nat->Prop),qb F w d.low vs lh/\lh.length=l.length/\(∀i(h1:i<lh.length)(h2:i<l.length),gu F w d lh[i] l[i] (Ss i))/\(∀i k,i<l.length->Ss i k->bx H ob os k)/\∀i j k,i<l.length->j<l.length->i≠j->Ss i k->¬Ss j k
 |[],l,os,vs,h,hd,_=>by
  cases h;rw[show vs=[]from hd];exact⟨[],fun _ _=>False, .nil,rfl,fun i h=>absurd h (by simp),fun _ _ h=>absurd h (by simp),fun _ _ _ h=>absurd h (by simp)⟩
 | .val _ u::ds,l,os,vs,h,hd,hn=>by
   obtain⟨v,us,rfl,h1,h2⟩:=hd;unfold zD at h;split at h
   case h_2=>cases h
   rename_i x SA hf;split at h
   case h_2=>cases h
   rename_i xs SB hg;cases h;obtain⟨cs,py,rP⟩:=aB.cells h1;obtain⟨n1,n2,n3⟩:=List.nodup_append.1 hn;obtain⟨x',S,r1,e1,s1⟩:=tT hs hf py n1;obtain⟨lh,Ss,k1,k2,k3,k4,k5⟩:=vF hs hg h2 n2
   have ap:∀i k,i<xs.length->S k->¬Ss i k:=fun i k hi hk cx=>o8 hs (fun o ho iJ=>n3 o ho o iJ rfl) k (s1 k hk) (k4 i k hi cx)
   refine⟨x'::lh,fun i=>match i with|0=>S|i+1=>Ss i, .cons rP r1 k1,by simp[k2],fun i a b=>?_,fun i k hi hk=>?_,fun i j k hi hj bu hk cx=>?_⟩
   .cases i with
    |zero=>exact e1
    |succ i=>exact k3 i (by simpa using a) (by simpa using b)
   .cases i with
    |zero=>exact lY (fun o ho=>by simp[ho]) k (s1 k hk)
    |succ i=>exact lY (fun o ho=>by simp[ho]) k (k4 i k (by simpa using hi) hk)
   .cases i with
    |zero=>
     cases j with
     |zero=>exact bu rfl
     |succ j=>exact ap j k (by simpa using hj) hk cx
    |succ i=>
     cases j with
     |zero=>exact ap i k (by simpa using hi) cx hk
     |succ j=>exact k5 i j k (by simpa using hi) (by simpa using hj) (fun e=>bu (by rw[e])) hk cx
 | .dead::_,_,_,_,h,_,_=>by cases h
 | .undef::_,_,_,_,h,_,_=>by cases h
 | .ptr .. ::_,_,_,_,h,_,_=>by cases h
 | .at .. ::_,_,_,_,h,_,_=>by cases h
 | .elem .. ::_,_,_,_,h,_,_=>by cases h
 | .tup _::_,_,_,_,h,_,_=>by cases h
 | .dlm .. ::_,_,_,_,h,_,_=>by cases h
 | .fn .. ::_,_,_,_,h,_,_=>by cases h
 | .ifc .. ::_,_,_,_,h,_,_=>by cases h
theorem iZ.IN(hs:aq U H F w ob n){eat:List Nat}{t:Th}{v0:Value}{S:Nat->Prop}(hb:t.base=t)(h1:v0.oneCell'=true){D:aj}{v:Value}
 (bI:Ext (bx H ob eat) w w')(mP:fy (((H.dB n S).aS n t).cB n v0) F w' S v0 t)(DI:∀k,fp S v0 t k->¬F k/\k<w'.heap.size/\(w.heap.size<=k\/bx H ob eat k))
 (hd:ai (((H.dB n S).aS n t).cB n v0) F w' D v):gV H F w ob n {dst:=D,eat:=eat,make:=[(n,(n,t))]} v w':=by
 have hf:=hs.fresh n (Yd _) (by omega)
 have ee:(((H.dB n S).aS n t).cB n v0).sub n=S:=by simp[ao.cB,ao.aS,ao.dB]
 refine⟨((H.dB n S).aS n t).cB n v0,F,⟨(ao.pT hf.2).trans (ao.lS (by simp[ao.aS,ao.dB,hf.1])),bI,fun _ h=>h,fun _ h=> .inl h,fun b hb=>YK (hs.lt b hb) bI.size⟩,fun m hm=>?_,hd,⟨fun o' s' q hq=>?_,fun o1 o2 s1 s2 q1 q2 u1 u2 bu h1 h2=>?_⟩,fun o' h=>?_⟩
 .simp[ao.aS,ao.cB,ao.dB,show m≠n from by omega]
 .obtain⟨rfl,e⟩:=be hq;obtain⟨rfl,rfl⟩:=Zm e;exact⟨v0,by simp[ao.cB],h1,by simp[ao.aS,ao.cB,hb],by rw[ee];exact mP,by rw[ee];exact DI⟩
 .exact absurd ((be h1).1.trans (be h2).1.symm) bu
 .right
  obtain⟨y,hy⟩:=YA.1 h;rw[(be hy).1];exact Yd _
def tU(ob:Nat->Option (Nat×Th))(r:Row):List aj->DR
 | .val _ u::_=>IL ob r u
 |_=> .leaf r
def ln(e:TypeId)(dr:DR)(ob:Nat->Option (Nat×Th))(n:Nat)(ds:List aj)(k:cU->Option R):Option R:=
 match zD ob dr ds with
 |some (l,os)=>bif xV os then k {dst:= .val false (.own n),eat:=os,make:=[(n,(n,Bp e dr l))]}else none
 |none=>none
def lZ(T:aG P)(rd:Operand->Option aj)(ob:Nat->Option (Nat×Th))(n:Nat)(t:TypeId)(m:Nat)(parts:Array (Nat×Operand))(k:cU->Option R):Option R:=
 match find T.und t with
 |some (.slice e)=>match find T.row e with
  |some r=>bif zu 0 parts.toList&&Yb m parts.toList.length&&Nat.ble (m*r.size) 16777216 then
    (match nw rd (parts.toList.map (·.2))with
    |some ds=>bif (tU ob r ds).row.beq r then ln e (tU ob r ds) ob n ds k else none
    |none=>none)else none
  |none=>none
 |_=>none
theorem xX(T:aG P){rd:Operand->Option aj}(dV:∀x d,rd x=some d->ai H F w d (ev ρ x)){t:TypeId}{m:Nat}{parts:Array (Nat×Operand)}{k:cU->Option R}{q:R}(h:lZ T rd ob n t m parts k=some q)(hs:aq U H F w ob n):
 ∃e,k e=some q/\bJ P U H F w ρ ob n ⟨some d, .buildSlice t m parts,ty,pos,aft,none⟩ e:=by
 unfold lZ at h;split at h
 case h_2=>cases h
 rename_i e hu;split at h
 case h_2=>cases h
 rename_i r hr;obtain⟨c0,h8⟩:=ay h;clear h;obtain⟨c1,c3⟩:=bU c0;obtain⟨h1,c2⟩:=bU c1;have h2:=beq_true c2
 have h3:m*r.size<=16777216:=by simpa using c3
 clear c0 c1 c2 c3;split at h8
 case h_2=>cases h8
 rename_i ds pP;obtain⟨KF,h⟩:=ay h8;clear h8;have gU:=Row.eq_of_beq KF;clear KF
 obtain⟨dr,JX⟩:∃dr,dr=tU ob r ds:=⟨_,rfl⟩
 rw[<-JX]at h gU;clear JX;subst gU;unfold ln at h;split at h
 case h_2=>cases h
 rename_i l os hl;obtain⟨hn,hk⟩:=ay h;clear h;obtain⟨lh,Ss,k1,k2,k3,k4,k5⟩:=vF hs hl (jO dV pP) (sE hn)
 have hp:parts=(((parts.toList.map (·.2)).zipIdx).map fun p=>(p.2,p.1)).toArray:=by
  rw[<-qn h1,YH]
 have hm:m=(parts.toList.map (·.2)).length:=by simpa using h2
 obtain⟨v,w',bR,bI,dI,Bc⟩:=qm (d:=d) (ty:=ty) (pos:=pos) (aft:=aft) (T.und_ok _ _ hu) (TI.low (T.row_ok _ _ hr)) hp (by rw[<-hm,DR.size];exact h3) k1 hs;rw[<-hm]at bR;refine⟨_,hk,bp.val bR ?_⟩
 have aW:∀i k,i<l.length->Ss i k->k<w.heap.size:=fun i k hi hk=>hs.qe k (k4 i k hi hk)
 have dH:Step F w F w':=fun b hb=>⟨hb,(bI fun _=>False).block b (hs.lt b hb) fun h=>h⟩
 have cC:jK Ss l.length (aM v) (mS (aM v) Ss l.length):=⟨fun _=>Iff.rfl,k5,fun i k hi hk hm=>by have:=aW i k hi hk;have:=Bc k hm;omega⟩
 have n8:gu F w' (.sl e dr) v l (mS (aM v) Ss l.length):=⟨lh,Ss,dI.2,k2,fun i a b=>(k3 i a b).aO dH fun k hk=>(bI fun _=>False).block k (aW i k b hk) fun h=>h,cC⟩
 have DI:∀k,mS (aM v) Ss l.length k->¬F k/\k<w'.heap.size/\(w.heap.size<=k\/bx H ob os k):=by
  rintro k (hk|⟨i,hi,hk⟩)
  .exact⟨dI.1 k hk,dI.lt k hk, .inl (Bc k hk)⟩
  .have:=k4 i k hi hk;exact⟨hs.fe k this,YK (hs.qe k this) (bI fun _=>False).size, .inr this⟩
 refine iZ.IN (S:=mS (aM v) Ss l.length) (v0:=v) hs (qw ..) (lT dI) (bI _) (ow n8).1 (fun k hk=>DI k ((ow (H:=H) n8).2.1 k hk)) (ju (by simp[ao.cB]) (lT dI))
def tV(T:aG P)(n:Nat)(t:TypeId)(same:Bool)(a b:Int)(k:cU->Option R):Option R:=
 match find T.und t with
 |some (.slice e)=>match find T.row e with
  |some (.slice r)=>match find T.und e with
   |some (.slice e')=>(bif same then rK a ([]:List r.den)else Mz a b ([]:List r.den)).bind fun l=>k {dst:= .val false (.own n),make:=[(n,(n, .deep e (.sl e' (.leaf r)) l none))]}
   |_=>none
  |_=>ql T n t same a b k
 |_=>none
theorem sF{e e' t:TypeId}{r:Row}{a b:Int}(ht:P.underlying t=some (.slice e))(lj:TI P e (.slice r))(hs:aq U H F w ob n){ka kb:IntKind}{x y:Operand}(hx:ev ρ x= .int ka a)(hy:ev ρ y= .int kb b)(h0:0<=a)(h1:a<=b)(h2:b<=4294967296):
 bJ P U H F w ρ ob n ⟨some d, .makeSlice t x y,ty,pos,aft,none⟩ {dst:= .val false (.own n),make:=[(n,(n, .deep e (.sl e' (.leaf r)) (Yf a.toNat ([]:List r.den)) none))]}:=by
 obtain⟨v,w',bR,bI,dI,Bc⟩:=sx (d:=d) (ty:=ty) (pos:=pos) (aft:=aft) (r:= .gU) ht (TI.low (d:= .sl e' (.leaf r)) lj) hs hx hy h0 h1 h2
 have n8:gu F w' (.sl e (.sl e' (.leaf r))) v (Yf a.toNat ([]:List r.den)) (aM v):=by
  refine⟨Yf a.toNat (Value.slice none 0 0),fun _ _=>False,dI.2,by simp,fun i h1 h2=>?_,⟨fun k=>by simp,fun _ _ _ _ _ _ h=>h.elim,fun _ _ _ h=>h.elim⟩⟩;simp only[List.getElem_replicate];exact⟨[],fun _ _=>False,gP.nil F w' e' r,rfl,fun i h=>absurd h (by simp),⟨fun k=>by simp[aM,YE],fun _ _ _ h=>absurd h (by simp),fun _ _ h=>absurd h (by simp)⟩⟩
 refine bp.val bR (iZ.IN (S:=aM v) (v0:=v) (eat:=[]) (t:=Bp e (.sl e' (.leaf r)) (Yf a.toNat ([]:List r.den))) hs (qw ..) (lT dI) (bI _) (ow n8).1 (fun k hk=>?_) (ju (by simp[ao.cB]) (lT dI)));have hk:=(ow (H:=H) n8).2.1 k hk;exact⟨dI.1 k hk,dI.lt k hk, .inl (Bc k hk)⟩
theorem Bv(T:aG P){t:TypeId}{a b:Int}{ka kb:IntKind}{x y:Operand}{k:cU->Option R}{q:R}(h:tV T n t (lk x y) a b k=some q)(hs:aq U H F w ob n)(hx:ev ρ x= .int ka a)(hy:ev ρ y= .int kb b):
 ∃e,k e=some q/\bJ P U H F w ρ ob n ⟨some d, .makeSlice t x y,ty,pos,aft,none⟩ e:=by
 unfold tV at h;split at h
 case h_2=>cases h
 rename_i e hu;split at h
 case h_2=>exact vq T h hs hx hy
 rename_i r hr;split at h
 case h_2=>cases h
 rename_i e' vz;obtain⟨l,hl,hk⟩:=bind_some h;have lj:=T.row_ok _ _ hr;have ht:=T.und_ok _ _ hu
 cases Be:lk x y with
 |true=>
  rw[Be,cond_true]at hl;unfold rK at hl;split at hl
  case isFalse=>cases hl
  rename_i hc;obtain rfl:=X7 hl;obtain rfl:=sy Be hx hy;exact⟨_,hk,sF ht lj hs hx hy hc.1 (Ze _) hc.2⟩
 |false=>
  rw[Be,cond_false]at hl;unfold Mz at hl;split at hl
  case isFalse=>cases hl
  rename_i hc;obtain rfl:=X7 hl;exact⟨_,hk,sF ht lj hs hx hy hc.1 hc.2.1 hc.2.2⟩
def qD(deep:Bool)(T:aG P)(n:Nat)(t:TypeId)(same:Bool)(a b:Int)(k:cU->Option R):Option R:=
 match deep with
 |true=>tV T n t same a b k
 |false=>ql T n t same a b k
theorem Bw(deep:Bool)(T:aG P){t:TypeId}{a b:Int}{ka kb:IntKind}{x y:Operand}{k:cU->Option R}{q:R}(h:qD deep T n t (lk x y) a b k=some q)(hs:aq U H F w ob n)(hx:ev ρ x= .int ka a)(hy:ev ρ y= .int kb b):
 ∃e,k e=some q/\bJ P U H F w ρ ob n ⟨some d, .makeSlice t x y,ty,pos,aft,none⟩ e:=by
 cases deep with
 |true=>exact Bv T h hs hx hy
 |false=>exact vq T h hs hx hy
def lq(T:aG P)(ob:Nat->Option (Nat×Th))(n:Nat)(t:TypeId)(D:aj)(k:cU->Option R):Option R:=
 match D with
 | .dlm .. =>mT T ob n t D k
 |_=>sv T ob t D k
theorem Bx(T:aG P){t:TypeId}{D:aj}{x:Operand}{k:cU->Option R}{q:R}(h:lq T ob n t D k=some q)(hs:aq U H F w ob n)(hx:ai H F w D (ev ρ x)):
 ∃e,k e=some q/\bJ P U H F w ρ ob n ⟨some d, .load t x,ty,pos,aft,none⟩ e:=by
 unfold lq at h;split at h
 .exact Br T h hs hx
 .exact DH T h hs hx
noncomputable def l9(T:aG P)(ob:Nat->Option (Nat×Th))(n:Nat)(t:TypeId)(D V:aj)(k:cU->Option R):Option R:=
 match D with
 | .dlm .. =>lX T ob n t D V k
 |_=>oi T ob n t D V k
theorem xY(T:aG P){t:TypeId}{D V:aj}{x y:Operand}{k:cU->Option R}{q:R}(h:l9 T ob n t D V k=some q)(hs:aq U H F w ob n)(hx:ai H F w D (ev ρ x))(hy:ai H F w V (ev ρ y)):
 ∃e,k e=some q/\bJ P U H F w ρ ob n ⟨none, .store t x y,ty,pos,aft,none⟩ e:=by
 unfold l9 at h;split at h
 .exact xU T h hs hx hy
 .exact A9 T h hs hx hy
def pU(deep:Bool)(T:aG P)(rd:Operand->Option aj)(ob:Nat->Option (Nat×Th))(n:Nat)(t:TypeId)(m:Nat)(parts:Array (Nat×Operand))(k:cU->Option R):Option R:=
 match deep with
 |true=>lZ T rd ob n t m parts k
 |false=>gm T rd ob n t m parts k
theorem xZ(deep:Bool)(T:aG P){rd:Operand->Option aj}(dV:∀x d,rd x=some d->ai H F w d (ev ρ x)){t:TypeId}{m:Nat}{parts:Array (Nat×Operand)}{k:cU->Option R}{q:R}(h:pU deep T rd ob n t m parts k=some q)(hs:aq U H F w ob n):
 ∃e,k e=some q/\bJ P U H F w ρ ob n ⟨some d, .buildSlice t m parts,ty,pos,aft,none⟩ e:=by
 cases deep with
 |true=>exact xX T dV h hs
 |false=>exact qo T dV h hs
end
end Go.Proofs.YtlfjlhcigpejdaaGreatDoor
end
section
open _root_.Go.Instr renaming findNow->Y9,mapUpdate->ZB
open _root_.List renaming length_append->Yr
open _root_.Go.MapKept renaming run_checkKey->Zf,run_findKey->Zl,run_getObj_map->Zk
open _root_.Nat renaming beq->Yb,le_refl->Yd,lt_of_lt_of_le->YK,zero_add->Yw,zero_le->Yk
open _root_.Option renaming isSome_iff_exists->YA
open _root_.Option.some renaming inj->X7,injEq->Ye
open _root_.Prod.mk renaming inj->Zm,injEq->YW
open _root_.Go.Result renaming andThen->YB
open _root_.Go.Value renaming ownBlock->YE
namespace Go.Proofs.YtlfjlhcigpejdaaGreatDoor
open Go Go.RowKit Go.MapKept
noncomputable def By{α:Type}(K:Row):List (K.den×α)->K.den->α->List (K.den×α)
 |[],_,_=>[]
 |p::l,k,v=>if e9 K p.1 k=true then(p.1,v)::l else p::By K l k v
theorem vG{K:Row}{a b:K.den}(h:e9 K a b=true):a=b:=by
 unfold e9 at h
 split at h<;>first|exact of_decide_eq_true h|cases h
section
variable {P:Program} {ρ:Nat->Value} {w w':World} {H H':ao} {F F':Nat->Prop} {U:Nat->Prop} {ob:Nat->Option (Nat×Th)} {n:Nat} {R:Type}
variable {op:Op} {ty:TypeId} {pos:String} {aft:Array Edge} {d:Nat}
variable {K:Row} {E:TypeId} {r:Row}
theorem nh.none(A:Nat->Prop):nh (fun _=>False) A A:=⟨fun k=>by simp,fun _ h=>h.elim⟩
theorem nh.mk'{A B:Nat->Prop}(h:∀k,A k->¬B k):nh A B (fun k=>A k\/B k):=⟨fun _=>Iff.rfl,h⟩
theorem mV{dd:TypeDesc}{x:K.den}{kv:Value}(hK:∀x v,ko K x=some v->IsKey dd v)(hx:ko K x=some kv):{h:Option (K.den×Nat)}->(∀a o,h=some (a,o)->a=x)->{es:List MapEntry}->{l:List (K.den×List r.den)}->{S:Nat->Prop}->(i:Nat)->dY H F w K E r h es l S->
 (Y9 dd kv es i=some none/\fg K l x=none/\(∀e∈es,e.key≠kv)/\
   (∀H' F' w' y(e:MapEntry)A,e.key=kv->Step F w F' w'->(∀k,S k->w'.heap[k]? =w.heap[k]?)->nr F' w' E r e.val y A->(∀k,A k->¬S k)->∃S2,dY H' F' w' K E r none (es++[e]) (jd K l x y) S2/\∀k,S2 k->S k\/A k)/\
   (h=none->∀H' o,dY H' F w K E r (some (x,o)) es l S))\/
 ∃j e y0,Y9 dd kv es i=some (some (i+j,e.val))/\es[j]? =some e/\e.key=kv/\fg K l x=some y0/\
  (∀H' F' w' y(f:MapEntry->MapEntry)A,(f e).key=kv->Step F w F' w'->(∀k,S k->w'.heap[k]? =w.heap[k]?)->nr F' w' E r (f e).val y A->(∀k,A k->¬S k)->∃S2,dY H' F' w' K E r none (es.modify j f) (jd K l x y) S2/\∀k,S2 k->S k\/A k)/\
  (h=none->∃A B,nr F w E r e.val y0 A/\nh A B S/\∀H' o,H'.val o=some e.val->dY H' F w K E r (some (x,o)) es l B)
 |h,hh,[],l,S,i,hd=>by
  have sk:l=[]/\∀k,¬S k:=by cases h<;>exact hd
  obtain⟨rfl,hS⟩:=sk;refine .inl ⟨rfl,rfl,by simp,fun H' F' w' y e A he hs hb hv hA=>⟨A,⟨x,y,[],A,fun _=>False,rfl,by rw[he];exact hx,hv,⟨rfl,fun _ h=>h⟩,⟨fun k=>by simp,fun _ _ h=>h⟩⟩,fun k hk=> .inr hk⟩,fun _ H' o=>⟨rfl,hS⟩⟩
 |h,hh,e::es,l,S,i,hd=>by
  have gen:∃k y l' A B,l=(k,y)::l'/\ko K k=some e.key/\nh A B S/\((h=none->nr F w E r e.val y A)/\(e9 K k x=false->nr F w E r e.val y A/\dY H F w K E r h es l' B)/\(e9 K k x=true->dY H F w K E r none es l' B)):=by
   cases h with
   |none=>
    obtain⟨k,y,l',A,B,e0,h1,h2,h3,h4⟩:=hd;exact⟨k,y,l',A,B,e0,h1,h4,fun _=>h2,fun _=>⟨h2,h3⟩,fun _=>h3⟩
   |some p=>
    obtain⟨a,o⟩:=p;obtain rfl:=hh a o rfl;obtain⟨k,y,l',A,B,e0,h1,h2,h4⟩:=hd;refine⟨k,y,l',A,B,e0,h1,h4,fun e=>(by cases e),fun hk=>?_,fun hk=>?_⟩
    .rcases h2 with⟨g,_⟩|⟨_,g2,g3⟩
     .rw[hk]at g;cases g
     .exact⟨g2,g3⟩
    .rcases h2 with⟨_,_,_,g⟩|⟨g,_⟩
     .exact g
     .rw[hk]at g;cases g
  obtain⟨k,y,l',A,B,rfl,h1,h4,KG,KH,KI⟩:=gen;obtain⟨q,Kw,DQ⟩:=sameNow_of_keys (hK x kv hx) (hK k _ h1);have DA:=sA h1 hx
  cases q with
  |true=>
   have IG:kv=e.key:=DQ.1 rfl;have hq:e9 K k x=true:=DA.2 IG.symm;obtain rfl:=vG hq;refine .inr ⟨0,e,y,by simp[Y9,Kw],rfl,IG.symm,by simp[fg,hq],fun H' F' w' y' f A' hf hs hb hv hA=>?_,fun hn=>?_⟩
   .have nA:∀j,A' j->¬B j:=fun j hj hB=>hA j hj (h4.right j hB)
    refine⟨fun j=>A' j\/B j,?_,fun j hj=>hj.elim .inr fun hB=> .inl (h4.right j hB)⟩
    show dY H' F' w' K E r none (f e::es) (if e9 K k k=true then(k,y')::l' else(k,y)::jd K l' k y') _
    rw[if_pos hq];exact⟨k,y',l',A',B,rfl,by rw[hf,h1,IG],hv,(KI hq).aO hs (fun _ _ _ e=>by cases e) fun j hj=>hb j (h4.right j hj),nh.mk' nA⟩
   .subst hn;exact⟨A,B,KG rfl,h4,fun H' o ho=>⟨k,y,l',fun _=>False,B,rfl,h1, .inl ⟨hq,ho,fun _ h=>h,(KI hq).aO (Step.refl F w) (fun _ _ _ e=>by cases e) fun _ _=>rfl⟩,nh.none B⟩⟩
  |false=>
   have bu:¬e.key=kv:=fun q=>by have:=DQ.2 q.symm;cases this
   have hq:e9 K k x=false:=by
    cases hc:e9 K k x with
    |false=>rfl
    |true=>exact absurd (DA.1 hc) bu
   obtain⟨dI,vH⟩:=KH hq
   have jr:¬e9 K k x=true:=by rw[hq];exact fun h=>by cases h
   rcases mV hK hx hh (i+1) vH with⟨a1,a2,a3,a4,a5⟩|⟨j,e',z,a1,a2,a3,a4,a5,a6⟩
   .refine .inl ⟨by simp[Y9,Kw,a1],by simp[fg,jr,a2],fun e' he'=>?_,fun H' F' w' y' e' A' he' hs hb hv hA=>?_,fun hn H' o=>?_⟩
    .rcases List.mem_cons.1 he' with rfl|he'
     .exact bu
     .exact a3 e' he'
    .obtain⟨S2,b1,b2⟩:=a4 H' F' w' y' e' A' he' hs (fun j hj=>hb j (h4.right j hj)) hv (fun j hj hB=>hA j hj (h4.right j hB))
     have nA:∀j,A j->¬S2 j:=fun j hj h2=>(b2 j h2).elim (h4.off j hj) fun KJ=>hA j KJ (h4.left j hj)
     refine⟨fun j=>A j\/S2 j,?_,fun j hj=>hj.elim (fun h=> .inl (h4.left j h)) fun h=>(b2 j h).imp (h4.right j) id⟩
     show dY H' F' w' K E r none (e::(es++[e'])) (if e9 K k x=true then(k,y')::l' else(k,y)::jd K l' x y') _
     rw[if_neg jr];exact⟨k,y,_,A,S2,rfl,h1,dI.aO hs fun j hj=>hb j (h4.left j hj),b1,nh.mk' nA⟩
    .subst hn;exact⟨k,y,l',A,B,rfl,h1, .inr ⟨hq,dI,a5 rfl H' o⟩,h4⟩
   .refine .inr ⟨j+1,e',z,by simp[Y9,Kw,a1];omega,by simpa using a2,a3,by simp[fg,jr,a4],fun H' F' w' y' f A' hf hs hb hv hA=>?_,fun hn=>?_⟩
    .obtain⟨S2,b1,b2⟩:=a5 H' F' w' y' f A' hf hs (fun j hj=>hb j (h4.right j hj)) hv (fun j hj hB=>hA j hj (h4.right j hB))
     have nA:∀j,A j->¬S2 j:=fun j hj h2=>(b2 j h2).elim (h4.off j hj) fun KJ=>hA j KJ (h4.left j hj)
     refine⟨fun j=>A j\/S2 j,?_,fun j hj=>hj.elim (fun h=> .inl (h4.left j h)) fun h=>(b2 j h).imp (h4.right j) id⟩
     show dY H' F' w' K E r none (e::es.modify j f) (if e9 K k x=true then(k,y')::l' else(k,y)::jd K l' x y') _
     rw[if_neg jr];exact⟨k,y,_,A,S2,rfl,h1,dI.aO hs fun j hj=>hb j (h4.left j hj),b1,nh.mk' nA⟩
    .subst hn;obtain⟨A2,B2,c1,c2,c3⟩:=a6 rfl
     have nA:∀j,A j->¬B2 j:=fun j hj h2=>h4.off j hj (c2.right j h2)
     refine⟨A2,fun j=>A j\/B2 j,c1,⟨fun j=>?_,fun j hj h2=>?_⟩,fun H' o ho=>⟨k,y,l',A,B2,rfl,h1, .inr ⟨hq,dI,c3 H' o ho⟩,nh.mk' nA⟩⟩
     .rw[h4.all,c2.all]
      constructor<;>(intro h;rcases h with h|h|h<;>simp[h])
     .exact h2.elim (fun h=>h4.off j h (c2.left j hj)) (c2.off j hj)
theorem qE{a:K.den}{o:Nat}{u:Value}{y:List r.den}{A0:Nat->Prop}(hu:H.val o=some u)(hy:nr F w E r u y A0):{es:List MapEntry}->{l:List (K.den×List r.den)}->{S:Nat->Prop}->(∀k,A0 k->¬S k)->dY H F w K E r (some (a,o)) es l S->
 ∃S2,(∀H',dY H' F w K E r none es (By K l a y) S2)/\∀k,S2 k->S k\/A0 k
 |[],l,S,_,h=>by
  obtain⟨rfl,hS⟩:=h;exact⟨S,fun _=>⟨rfl,hS⟩,fun k hk=> .inl hk⟩
 |e::es,l,S,hA,h=>by
  obtain⟨k,y0,l',A,B,rfl,h1,h2,h4⟩:=h
  rcases h2 with⟨g1,g2,g3,g4⟩|⟨g1,g2,g3⟩
  .rw[hu]at g2;obtain rfl:=X7 g2;refine⟨fun j=>A0 j\/B j,fun H'=>?_,fun j hj=>hj.elim .inr fun h=> .inl (h4.right j h)⟩
   show dY H' F w K E r none (e::es) (if e9 K k a=true then(k,y)::l' else(k,y0)::By K l' a y) _
   rw[if_pos g1];exact⟨k,y,l',A0,B,rfl,h1,hy,g4.aO (Step.refl F w) (fun _ _ _ e=>by cases e) (fun _ _=>rfl),nh.mk' fun j hj hB=>hA j hj (h4.right j hB)⟩
  .obtain⟨S2,b1,b2⟩:=qE hu hy (fun j hj hB=>hA j hj (h4.right j hB)) g3
   have nA:∀j,A j->¬S2 j:=fun j hj h2=>(b2 j h2).elim (h4.off j hj) fun KJ=>hA j KJ (h4.left j hj)
   refine⟨fun j=>A j\/S2 j,fun H'=>?_,fun j hj=>hj.elim (fun h=> .inl (h4.left j h)) fun h=>(b2 j h).imp (h4.right j) id⟩
   show dY H' F w K E r none (e::es) (if e9 K k a=true then(k,y)::l' else(k,y0)::By K l' a y) _
   rw[if_neg (by rw[g1];exact fun h=>by cases h)];exact⟨k,y0,_,A,S2,rfl,h1,g2,b1 H',nh.mk' nA⟩
theorem vI:{es:List MapEntry}->{l:List (K.den×List r.den)}->{S:Nat->Prop}->dY H F w K E r none es l S->es.length=l.length/\∀i(h:i<l.length),∃(e:MapEntry)(A:Nat->Prop),es[i]? =some e/\ko K l[i].1=some e.key/\nr F w E r e.val l[i].2 A/\∀k,A k->S k
 |[],l,S,h=>by obtain⟨rfl,_⟩:=h;exact⟨rfl,fun i h=>by simp at h⟩
 |e::es,l,S,h=>by
  obtain⟨k,y,l',A,B,rfl,h1,h2,h3,h4⟩:=h;obtain⟨g1,g2⟩:=vI h3;refine⟨by simp[g1],fun i hi=>?_⟩
  cases i with
  |zero=>exact⟨e,A,rfl,h1,h2,h4.left⟩
  |succ i=>
   obtain⟨e',A',q1,q2,q3,q4⟩:=g2 i (by simpa using hi);exact⟨e',A',by simpa only[List.getElem?_cons_succ]using q1,q2,q3,fun k hk=>h4.right k (q4 k hk)⟩
theorem qF(hs:aq U H F w ob n){o s:Nat}{t0 t1 t2:Th}(cA:ob o=some (s,t0)){v:Value}(hv:H.val o=some v)(e1:t1.base=t1)(e2:t2.base=t2){u:Value}(iw:u.oneCell'=true){So A:Nat->Prop}
 (f1:∀k,fp So v t1 k->fp (H.sub s) v t0 k)(f2:∀k,fp A u t2 k->fp (H.sub s) v t0 k)(f12:∀k,fp So v t1 k->¬fp A u t2 k)
 (k1:∀H1,H.le H1->H1.val n=some u->fy H1 F w So v t1)(k2:∀H1,H.le H1->fy H1 F w A u t2){D:aj}{dv:Value}(kd:∀H1,H.le H1->H1.val n=some u->ai H1 F w D dv):
 gV H F w ob n {dst:=D,eat:=[o],make:=[(o,(n,t1)),(n,(n+1,t2))]} dv w:=by
 obtain⟨v1,n7,bO⟩:=hs.obj _ _ _ cA;rw[hv]at n7;obtain rfl:=X7 n7;obtain⟨g1,g2⟩:=hs.fresh n (Yd _) (by omega);obtain⟨g3,g4⟩:=hs.fresh (n+1) (by omega) (by omega)
 let H1:ao:=⟨fun m=>if m=n then some u else H.val m,fun m=>if m=n then some t1 else if m=n+1 then some t2 else H.con m,fun m=>if m=n then So else if m=n+1 then A else H.sub m⟩
 have hle:H.le H1:=by
  refine⟨fun o v ho=>?_,fun s t dH=>?_,fun s t dH=>?_⟩
  .have:o≠n:=fun e=>by rw[e,g1]at ho;cases ho
   simp[H1,this,ho]
  .have a1:s≠n:=fun e=>by rw[e,g2]at dH;cases dH
   have a2:s≠n+1:=fun e=>by rw[e,g4]at dH;cases dH
   simp[H1,a1,a2,dH]
  .have a1:s≠n:=fun e=>by rw[e,g2]at dH;cases dH
   have a2:s≠n+1:=fun e=>by rw[e,g4]at dH;cases dH
   simp[H1,a1,a2]
 have sD:H1.val n=some u:=by simp[H1]
 have gS:∀k,fp (H.sub s) v t0 k->bx H ob [o] k:=fun k hk=>⟨o,by simp,s,_,v,cA,hv,hk⟩
 have mG:H1.sub n=So:=by simp[H1]
 have II:H1.sub (n+1)=A:=by simp[H1]
 have two:∀{o' s' t'},find [(o,(n,t1)),(n,(n+1,t2))] o'=some (s',t')->(o'=o/\s'=n/\t'=t1)\/(o'=n/\s'=n+1/\t'=t2):=by
  intro o' s' t' hf;rw[aw]at hf;split at hf
  .rename_i e;simp only[Ye,YW]at hf;exact .inl ⟨e.symm,hf.1.symm,hf.2.symm⟩
  .obtain⟨e1,e⟩:=be hf;obtain⟨e2,e3⟩:=Zm e;exact .inr ⟨e1,e2,e3⟩
 refine⟨H1,F,⟨hle,⟨rfl,rfl,rfl,Yd _,fun _ _ _=>rfl⟩,fun _ h=>h,fun _ h=> .inl h,hs.lt⟩,fun m hm=>?_,kd H1 hle sD,⟨fun o' s' t hf=>?_,fun o1 o2 s1 s2 q1 q2 u1 u2 bu g1 g2 e1 e2 k hk cx=>?_⟩,fun o' iJ=>?_⟩
 .have a1:m≠n:=by omega
  have a2:m≠n+1:=by omega
  simp[H1,a1,a2]
 .rcases two hf with⟨rfl,rfl,rfl⟩|⟨rfl,rfl,rfl⟩
  .refine⟨v,hle.val _ _ hv,bO.one,by rw[e1];simp[H1],by rw[mG];exact k1 H1 hle sD,fun k hk=>?_⟩;rw[mG]at hk;have:=f1 k hk;exact⟨bO.no k this,bO.lt k this, .inr (gS k this)⟩
  .refine⟨u,sD,iw,by rw[e2];simp[H1],by rw[II];exact k2 H1 hle,fun k hk=>?_⟩;rw[II]at hk;have:=f2 k hk;exact⟨bO.no k this,bO.lt k this, .inr (gS k this)⟩
 .rcases two g1 with⟨rfl,rfl,rfl⟩|⟨rfl,rfl,rfl⟩<;>rcases two g2 with⟨rfl,rfl,rfl⟩|⟨rfl,rfl,rfl⟩
  .exact bu rfl
  .rw[mG]at hk;rw[II]at cx;rw[sD]at e2;obtain rfl:=X7 e2;rw[hle.val _ _ hv]at e1;obtain rfl:=X7 e1;exact f12 k hk cx
  .rw[mG]at cx;rw[II]at hk;rw[sD]at e1;obtain rfl:=X7 e1;rw[hle.val _ _ hv]at e2;obtain rfl:=X7 e2;exact f12 k cx hk
  .exact bu rfl
 .obtain⟨y,hy⟩:=YA.1 iJ
  rcases two (s':=y.1) (t':=y.2) hy with⟨rfl,_⟩|⟨rfl,_⟩
  .exact .inl (by simp)
  .exact .inr (Yd _)
def KK(T:aG P)(t:TypeId):Option (Row×TypeId×Row):=
 match find T.und t with
 |some (.map kt vt)=>match find T.row kt with
  |some K=>match find T.und vt with
   |some (.slice e)=>match find T.row e with
    |some r=>some (K,e,r)
    |none=>none
   |_=>none
  |none=>none
 |_=>none
def iV(deep:Bool)(T:aG P)(n:Nat)(t:TypeId)(k:cU->Option R):Option R:=
 match(bif deep then KK T t else none)with
 |some (K,e,r)=>k {dst:= .val false (.own n),make:=[(n,(n, .dmap t K e r [] none))]}
 |none=>jP T n t k
theorem tW(deep:Bool)(T:aG P){t:TypeId}{k:cU->Option R}{q:R}(h:iV deep T n t k=some q)(hs:aq U H F w ob n):
 ∃e,k e=some q/\bJ P U H F w ρ ob n ⟨some d, .makeMap t none,ty,pos,aft,none⟩ e:=by
 unfold iV at h;split at h
 case h_2=>exact vy T h hs
 rename_i K e r _
 have bR:(execOp (ev ρ) ⟨some d, .makeMap t none,ty,pos,aft,none⟩).run P w= .ok (.value (.map (some w.heap.size))) (w.alloc (.map #[] 0)):=by
  simp[execOp,Instr.makeMap,YB]
 refine⟨_,h,bp.val bR ?_⟩;have hf:=hs.fresh n (Yd _) (by omega)
 let H1:ao:=((H.dB n (is w.heap.size)).aS n (.dmap t K e r [] none)).cB n (.map (some w.heap.size))
 have hle:H.le H1:=(ao.pT hf.2).trans (ao.lS (by simpa[ao.aS,ao.dB]using hf.1))
 have hv:H1.val n=some (.map (some w.heap.size)):=by simp[H1,ao.cB]
 have ee:H1.sub n=is w.heap.size:=by simp[H1,ao.cB,ao.aS,ao.dB]
 refine⟨H1,F,⟨hle,lU _,fun _ h=>h,fun _ h=> .inl h,fun b hb=>by have:=hs.lt b hb;simp;omega⟩,fun m hm=>?_,ju hv rfl,⟨fun o' s' q hq=>?_,fun o1 o2 s1 s2 q1 q2 u1 u2 bu h1 h2=>?_⟩,fun o' h=>?_⟩
 .have:m≠n:=by omega
  simp[H1,ao.cB,ao.aS,ao.dB,this]
 .obtain⟨rfl,e⟩:=be hq;obtain⟨rfl,rfl⟩:=Zm e;refine⟨_,hv,rfl,by simp[H1,ao.cB,ao.aS,ao.dB,Th.base],?_,fun k hk=>?_⟩
  .rw[ee];exact⟨_, #[],0,fun _=>False,rfl,(heap_alloc w _).1,stamped_empty 0,⟨rfl,fun _ h=>h⟩,⟨fun k=>by simp,fun _ _ h=>h⟩,fun _ _ e=>by cases e⟩
  .rw[ee]at hk;have hk:k=w.heap.size:=hk;subst hk;exact⟨fun e=>by have:=hs.lt _ e;omega,by simp, .inl (Yd _)⟩
 .exact absurd ((be h1).1.trans (be h2).1.symm) bu
 .right
  obtain⟨y,hy⟩:=YA.1 h;rw[(be hy).1];exact Yd _
noncomputable def jR(T:aG P)(ob:Nat->Option (Nat×Th))(n:Nat)(t:TypeId)(ok:Bool)(M X:aj)(k:cU->Option R):Option R:=
 match M with
 | .val false (.own o)=>match ob o with
   |some (_, .dmap T0 K E r l none)=>match find T.und t with
    |some (.map kt vt)=>match find T.zer vt with
     |some (false, .slice _)=>bif qu T kt K&&ok then(match asKey ob K X with
      |some x=>k {dst:= .tup [(false, .own n),(false, .leaf .bool (fg K l x).isSome)],eat:=[o],make:=[(o,(n, .dmap T0 K E r l (some (x,n)))),(n,(n+1, .own E r ((fg K l x).getD [])))]}
      |none=>none)else none
     |_=>none
    |_=>none
   |_=>kB T ob t ok M X k
 |_=>kB T ob t ok M X k
theorem vJ(T:aG P){t:TypeId}{ok:Bool}{M X:aj}{m x:Operand}{k:cU->Option R}{q:R}(h:jR T ob n t ok M X k=some q)(hs:aq U H F w ob n)(hm:ai H F w M (ev ρ m))(hx:ai H F w X (ev ρ x)):
 ∃e,k e=some q/\bJ P U H F w ρ ob n ⟨some d, .lookup t m x ok,ty,pos,aft,none⟩ e:=by
 unfold jR at h;split at h
 case h_2=>exact qv T h hs hm hx
 rename_i o;split at h
 case h_2=>exact qv T h hs hm hx
 rename_i s T0 K E r l cA;split at h
 case h_2=>cases h
 rename_i kt vt hu;split at h
 case h_2=>cases h
 rename_i re hz;obtain⟨hc,h'⟩:=ay h;clear h;obtain⟨va,pL⟩:=bU hc;subst pL;split at h'
 case h_2=>cases h'
 rename_i a ha;refine⟨_,h',?_⟩;obtain⟨dd,hd,hK,hR⟩:=nx (F:=F) (w:=w) T va;have ou:=hR _ _ (ny hs ha hx);have JV:=hK _ _ ou;have vz:=T.und_ok _ _ hu
 have rQ:(zeroValue vt).run P w= .ok (.slice none 0 0) w:=by
  obtain⟨z,rQ,e⟩:=T.zer_ok _ _ _ hz
  cases hi:P.info? vt with
  |none=>rw[hi]at rQ;cases rQ
  |some ti=>
   rw[hi]at rQ;have Nw:ti.zero=some z:=rQ;rw[cond_false]at e;have e':z= .slice none 0 0:=e;subst e';simp[zeroValue,typeInfo,hi,Nw,YB]
 obtain⟨cs,⟨v,hv,Q1,e⟩,_,h3⟩:=hm;rw[h3 rfl]at e
 obtain rfl:ev ρ m=v:=by simpa using e
 obtain⟨v',cy,bO⟩:=hs.obj _ _ _ cA;rw[hv]at cy;obtain rfl:=X7 cy;obtain⟨b,es,clock,B,ya,hh,dH,Bn,jS,_⟩:=bO.ok
 have tup:∀(H1:ao)(u:Value)(q:Bool),H1.val n=some u->u.oneCell'=true->ai H1 F w (.tup [(false, .own n),(false, .leaf .bool q)]) (.tuple #[u, .bool q]):=fun H1 u q hu h1=>
  ⟨[u, .bool q],rfl,_,_,rfl,⟨[u],⟨u,hu,h1,rfl⟩,rfl,fun _=>rfl⟩,_,_,rfl,aB.eu ..,rfl⟩
 rcases mV (H:=H) hK ou (h:=none) (fun _ _ e=>by cases e) 0 Bn with⟨a1,a2,_,_,a5⟩|⟨j,e,y0,a1,_,_,a4,_,a6⟩
 .have bR:(execOp (ev ρ) ⟨some d, .lookup t m x true,ty,pos,aft,none⟩).run P w= .ok (.value (.tuple #[.slice none 0 0, .bool (fg K l a).isSome])) w:=by
   rw[a2];simp[execOp,ya,Instr.lookup,run_underlying vz,Zk hh,Zf hd JV,Zl hd a1,rQ,YB]
  refine bp.val bR ?_;rw[a2]
  refine qF (t1:= .dmap T0 K E r l (some (a,n))) (t2:= .own E r []) (u:= .slice none 0 0) (So:=H.sub s) (A:=fun _=>False) hs cA hv rfl rfl rfl (fun k hk=>hk) (fun k hk=>?_) (fun k hk cx=>?_) (fun H1 hle sD=>?_) (fun H1 hle=>gP.nil F w E r) fun H1 hle sD=>tup H1 _ _ sD rfl
  .have cx:aM (.slice none 0 0) k:=hk;simp[aM,YE]at cx
  .have cx:aM (.slice none 0 0) k:=cx;simp[aM,YE]at cx
  .exact⟨b,es,clock,B,ya,hh,dH,a5 rfl H1 n,jS,fun a' o' e'=>by cases e';exact⟨_,sD⟩⟩
 .rw[Yw]at a1;obtain⟨A,B2,c1,c2,c3⟩:=a6 rfl
  have bR:(execOp (ev ρ) ⟨some d, .lookup t m x true,ty,pos,aft,none⟩).run P w= .ok (.value (.tuple #[e.val, .bool (fg K l a).isSome])) w:=by
   rw[a4];simp[execOp,ya,Instr.lookup,run_underlying vz,Zk hh,Zf hd JV,Zl hd a1,YB]
  refine bp.val bR ?_;rw[a4]
  have Gj:∀k,A k->H.sub s k:=fun k hk=>jS.right k (c2.left k hk)
  refine qF (t1:= .dmap T0 K E r l (some (a,n))) (t2:= .own E r y0) (u:=e.val) (So:=fun k=>is b k\/B2 k) (A:=A) hs cA hv rfl rfl c1.1.one (fun k hk=>?_) (fun k hk=>?_) (fun k hk cx=>?_) (fun H1 hle sD=>?_) (fun H1 hle=>c1.1) fun H1 hle sD=>tup H1 _ _ sD c1.1.one
  .have hk:is b k\/B2 k:=hk
   exact hk.elim (jS.left k) fun h=>jS.right k (c2.right k h)
  .exact Gj k ((c1.2 k).2 hk)
  .have hk:is b k\/B2 k:=hk;have cx:A k:=(c1.2 k).2 cx;exact hk.elim (fun h=>jS.off k h (c2.left k cx)) (c2.off k cx)
  .exact⟨b,es,clock,B2,ya,hh,dH,c3 H1 n sD,nh.mk' fun k h1 h2=>jS.off k h1 (c2.right k h2),fun a' o' e'=>by cases e';exact⟨_,sD⟩⟩
noncomputable def HN(K:Row)(h:Option (K.den×Nat))(x:K.den):Bool:=
 match h with
 |none=>true
 |some p=>e9 K p.1 x
noncomputable def gn(T:aG P)(ob:Nat->Option (Nat×Th))(n:Nat)(t:TypeId)(M X Y:aj)(k:cU->Option R):Option R:=
 match M with
 | .val false (.own o)=>match ob o with
   |some (_, .dmap T0 K E r l h)=>match find T.und t with
    |some (.map kt _)=>bif qu T kt K then(match asKey ob K X with
     |some x=>if HN K h x=true then(match Y with
      | .val false .nil=>k {dst:= .dead,eat:=[o],make:=[(o,(n, .dmap T0 K E r (jd K l x []) none))]}
      | .val false (.own o1)=>match ob o1 with
        |some (_,t1)=>bif Yb o1 o then none else(match IJ E (.leaf r) t1 with
         |some y=>k {dst:= .dead,eat:=[o,o1],make:=[(o,(n, .dmap T0 K E r (jd K l x y) none))]}
         |none=>none)
        |none=>none
      |_=>none)else none
     |none=>none)else none
    |_=>none
   |_=>fY T ob n t M X Y k
 |_=>fY T ob n t M X Y k
theorem qG(T:aG P){t:TypeId}{m x y:Operand}{o s:Nat}{T0:TypeId}{K:Row}{E:TypeId}{r:Row}{l:List (K.den×List r.den)}{h:Option (K.den×Nat)}{kt vt:TypeId}{a:K.den}{z:List r.den}{A:Nat->Prop}{eat:List Nat}
 (hs:aq U H F w ob n)(cA:ob o=some (s, .dmap T0 K E r l h))(hv:H.val o=some (ev ρ m))(hu:find T.und t=some (.map kt vt))(hk:qu T kt K=true)(ou:bH F w K [ev ρ x] a)(hh:HN K h a=true)(hy:nr F w E r (ev ρ y) z A)
 (ho:o∈eat)(hA:∀k,A k->bx H ob eat k)(Gj:∀k,A k->¬H.sub s k):
 bJ P U H F w ρ ob n ⟨none, .mapUpdate t m x y,ty,pos,aft,none⟩ {dst:= .dead,eat:=eat,make:=[(o,(n, .dmap T0 K E r (jd K l a z) none))]}:=by
 obtain⟨dd,hd,hK,hR⟩:=nx (F:=F) (w:=w) T hk;have Q2:=hR _ _ ou;obtain⟨v',cy,bO⟩:=hs.obj _ _ _ cA;rw[hv]at cy;obtain rfl:=X7 cy;obtain⟨b,es,clock,B,ya,hb,dH,Bn,jS,_⟩:=bO.ok;have SC:¬F b:=bO.no b (jS.left b rfl);have Q3:¬B b:=jS.off b rfl
 have Q4:¬A b:=fun h=>Gj b h (jS.left b rfl)
 have Gq:∀k,H.sub s k->bx H ob eat k:=fun k hk=>⟨o,ho,s,_,_,cA,hv,hk⟩
 have SD:∀a' o',h=some (a',o')->a'=a:=fun a' o' e=>by subst e;exact vG hh
 have fin:∀o',(ZB t (.map (some b)) (ev ρ x) (ev ρ y)).run P w= .ok () {w with heap:=w.heap.setIfInBounds b o'}->
  (∀H' w',Step F w F w'->(∀k,B k->w'.heap[k]? =w.heap[k]?)->nr F w' E r (ev ρ y) z A->∃jq jH S2,o'= .map jq jH/\Stamped jq jH/\dY H' F w' K E r none jq.toList (jd K l a z) S2/\∀k,S2 k->B k\/A k)->
  bJ P U H F w ρ ob n ⟨none, .mapUpdate t m x y,ty,pos,aft,none⟩ {dst:= .dead,eat:=eat,make:=[(o,(n, .dmap T0 K E r (jd K l a z) none))]}:=by
  intro o' bR IH;refine bp.unit (w':={w with heap:=w.heap.setIfInBounds b o'}) (by simp[execOp,ya,bR,YB]) ?_;have ov:∀k,k≠b->(w.heap.setIfInBounds b o')[k]? =w.heap[k]? :=(heap_set hb).2
  have gw:Step F w F {w with heap:=w.heap.setIfInBounds b o'}:=fun k hk=>⟨hk,ov k fun e=>SC (e▸hk)⟩
  have Gl:∀{S:Nat->Prop},¬S b->∀k,S k->({w with heap:=w.heap.setIfInBounds b o'}:World).heap[k]? =w.heap[k]? :=fun hn k hk=>ov k fun e=>hn (e▸hk)
  obtain⟨jq,jH,S2,rfl,g1,g2,g3⟩:=IH H {w with heap:=w.heap.setIfInBounds b o'} gw (Gl Q3) (hy.aO gw (Gl Q4))
  have IP:¬S2 b:=fun h=>(g3 b h).elim Q3 Q4
  refine iZ.tP (t':= .dmap T0 K E r (jd K l a z) none) hs cA hv rfl ho (fun k=>is b k\/S2 k) (fun k hk=>?_) ⟨rfl,rfl,rfl,by simp,fun k hk hn=>ov k fun e=>hn (by subst e;exact Gq _ (jS.left _ rfl))⟩ ⟨b,jq,jH,S2,ya,(heap_set hb).1,g1,?_,nh.mk' fun k h1 h2=>IP (by rw[<-show k=b from h1];exact h2),fun _ _ e=>by cases e⟩ trivial
  .have hk:is b k\/S2 k:=hk
   rcases hk with hk|hk
   .exact Gq k (jS.left k hk)
   .exact(g3 k hk).elim (fun h=>Gq k (jS.right k h)) (hA k)
  .exact g2.aO (Step.refl F _) (fun _ _ _ e=>by cases e) fun _ _=>rfl
 obtain⟨r1,r2⟩:=jQ (val:=ev ρ y) (T.und_ok _ _ hu) hd hb (hK _ _ Q2)
 have ME:∀k,A k->¬B k:=fun k hk hB=>Gj k hk (jS.right k hB)
 rcases mV (H:=H) hK Q2 SD 0 Bn with⟨a1,a2,a3,a4,_⟩|⟨j,e,z0,a1,a2,a3,a4,a5,_⟩
 .refine fin _ (r1 a1) fun H' w' D2 hB Bz=>?_
  obtain⟨S2,b1,b2⟩:=a4 H' F w' z {key:=ev ρ x,val:=ev ρ y,born:=clock} A rfl D2 hB Bz ME;exact⟨_,_,S2,rfl,stamped_push dH a3,by rw[Array.toList_push];exact b1,b2⟩
 .rw[Yw]at a1
  have hj:es[j]? =some e:=by simpa using a2
  refine fin _ (r2 j _ a1 (by rw[hj];exact a3)) fun H' w' D2 hB Bz=>?_
  obtain⟨S2,b1,b2⟩:=a5 H' F w' z (fun e=>{e with key:=ev ρ x,val:=ev ρ y}) A rfl D2 hB Bz ME;refine⟨_,_,S2,rfl,stamped_modify dH _ _ (fun _ _=>rfl) (fun e' _ he'=>?_),by rw[Array.toList_modify];exact b1,b2⟩;rw[hj]at he';cases he';exact a3.symm
theorem qH(T:aG P){t:TypeId}{M X Y:aj}{m x y:Operand}{k:cU->Option R}{q:R}(h:gn T ob n t M X Y k=some q)(hs:aq U H F w ob n)(hm:ai H F w M (ev ρ m))(hx:ai H F w X (ev ρ x))(hy:ai H F w Y (ev ρ y)):
 ∃e,k e=some q/\bJ P U H F w ρ ob n ⟨none, .mapUpdate t m x y,ty,pos,aft,none⟩ e:=by
 unfold gn at h;split at h
 case h_2=>exact mF T h hs hm hx hy
 rename_i o;split at h
 case h_2=>exact mF T h hs hm hx hy
 rename_i s T0 K E r l hh cA;split at h
 case h_2=>cases h
 rename_i kt vt hu;obtain⟨hk,h'⟩:=ay h;clear h;split at h'
 case h_2=>cases h'
 rename_i a ha;split at h'
 case isFalse=>cases h'
 rename_i o7;obtain⟨cs,⟨v,hv,_,e⟩,_,h3⟩:=hm;rw[h3 rfl]at e
 obtain rfl:ev ρ m=v:=by simpa using e
 have ou:=ny hs ha hx;split at h'
 .refine⟨_,h',qG (A:=fun _=>False) T hs cA hv hu hk ou o7 ?_ (by simp) (fun _ h=>h.elim) fun _ h=>h.elim⟩;obtain⟨cs,h1,_,h3⟩:=hy;rw[h3 rfl]at h1;have rN:[ev ρ y]=[Value.slice none 0 0]:=h1;rw[show ev ρ y= .slice none 0 0 by simpa using rN];exact⟨gP.nil F w E r,fun k=>by simp[aM,YE]⟩
 .rename_i o1;split at h'
  case h_2=>cases h'
  rename_i s1 t1 lm
  cases bu:Yb o1 o with
  |true=>rw[bu]at h';cases h'
  |false=>
   rw[bu,cond_false]at h'
   have bu:o≠o1:=fun e=>by rw[e]at bu;simp at bu
   split at h'
   case h_2=>cases h'
   rename_i z hD;obtain rfl:=qA hD;obtain⟨cs,⟨u,tH,_,e⟩,_,h3⟩:=hy;rw[h3 rfl]at e
   obtain rfl:ev ρ y=u:=by simpa using e
   obtain⟨u',vz,je⟩:=hs.obj _ _ _ lm;rw[tH]at vz;obtain rfl:=X7 vz;exact⟨_,h',qG (A:=aM (ev ρ y)) T hs cA hv hu hk ou o7 ⟨je.ok,fun _=>Iff.rfl⟩ (by simp) (fun k hk=>⟨o1,by simp,s1,_,_,lm,tH,hk⟩) fun k hk h2=>hs.apart _ _ _ _ _ _ _ _ bu cA lm hv tH k h2 hk⟩
 .cases h'
noncomputable def D3(ob:Nat->Option (Nat×Th))(n o:Nat):Option cU:=
 match ob o with
 |some (_, .dmap T0 K E r l (some (a,o1)))=>match ob o1 with
  |some (_,t1)=>bif Yb o1 o then none else(match IJ E (.leaf r) t1 with
   |some y=>some {dst:= .dead,eat:=[o,o1],make:=[(o,(n, .dmap T0 K E r (By K l a y) none))]}
   |none=>none)
  |none=>none
 |_=>none
theorem yb(hs:aq U H F w ob n){o:Nat}{e:cU}(h:D3 ob n o=some e):gV H F w ob n e undef w:=by
 unfold D3 at h;split at h
 case h_2=>cases h
 rename_i s T0 K E r l a o1 cA;split at h
 case h_2=>cases h
 rename_i s1 t1 lm
 cases bu:Yb o1 o with
 |true=>rw[bu]at h;cases h
 |false=>
  rw[bu,cond_false]at h
  have bu:o≠o1:=fun e=>by rw[e]at bu;simp at bu
  split at h
  case h_2=>cases h
  rename_i y hD;obtain rfl:=X7 h;obtain rfl:=qA hD;obtain⟨v,hv,bO⟩:=hs.obj _ _ _ cA;obtain⟨u,hu,je⟩:=hs.obj _ _ _ lm;obtain⟨b,es,clock,B,ya,hh,dH,Bn,jS,_⟩:=bO.ok
  have hA:∀k,aM u k->¬H.sub s k:=fun k hk h2=>hs.apart _ _ _ _ _ _ _ _ bu cA lm hv hu k h2 hk
  obtain⟨S2,b1,b2⟩:=qE (A0:=aM u) hu ⟨je.ok,fun _=>Iff.rfl⟩ (fun k hk hB=>hA k hk (jS.right k hB)) Bn
  have IP:¬S2 b:=fun h=>(b2 b h).elim (jS.off b rfl) fun h=>hA b h (jS.left b rfl)
  refine iZ.tP (t':= .dmap T0 K E r (By K l a y) none) hs cA hv rfl (by simp) (fun k=>is b k\/S2 k) (fun k hk=>?_) ⟨rfl,rfl,rfl,Yd _,fun _ _ _=>rfl⟩ ⟨b,es,clock,S2,ya,hh,dH,b1 _,nh.mk' fun k h1 h2=>IP (by rw[<-show k=b from h1];exact h2),fun _ _ e=>by cases e⟩ trivial;have hk:is b k\/S2 k:=hk
  have Gq:∀k,H.sub s k->bx H ob [o,o1] k:=fun k hk=>⟨o,by simp,s,_,_,cA,hv,hk⟩
  rcases hk with hk|hk
  .exact Gq k (jS.left k hk)
  .exact(b2 k hk).elim (fun h=>Gq k (jS.right k h)) fun h=>⟨o1,by simp,s1,_,_,lm,hu,h⟩
noncomputable def D4(ob:Nat->Option (Nat×Th))(n o:Nat):Option cU:=
 match D1 ob n o with
 |some e=>some e
 |none=>D3 ob n o
theorem yc(hs:aq U H F w ob n){o:Nat}{e:cU}(h:D4 ob n o=some e):gV H F w ob n e undef w:=by
 unfold D4 at h;split at h
 .rename_i e' he;cases h;exact Bu hs he
 .exact yb hs h
theorem DR.oy:(d:DR)->d.low.dn=d.row.dn
 | .leaf _=>rfl
 | .sl _ _=>rfl
 | .pair a b=>by show a.low.dn++b.low.dn=a.row.dn++b.row.dn;rw[a.oy,b.oy]
theorem D5{α β:Type}{l m out:List α}{lx ly:List β}(h:eW l m=some out)(h1:lx.length=l.length)(h2:ly.length=m.length):eW lx ly=some (lx++ly)/\out=l++m:=by
 unfold eW at h⊢;split at h
 case isFalse=>cases h
 rename_i hle;exact⟨by rw[if_pos (by omega)],(X7 h).symm⟩
theorem o9(T:aG P){t e:TypeId}{r:Row}(hu:find T.und t=some (.slice e))(hr:find T.row e=some r){dr:DR}(gU:dr.row=r){x y:Operand}{l m out:List dr.row.den}{Sx:Nat->Prop}{eat:List Nat}{o2 s2:Nat}
 (hs:aq U H F w ob n)(hx:AY F w e dr.low (fun _=>gu F w dr) (ev ρ x) l Sx)(NE:∀k,Sx k->¬F k)(Q5:∀k,Sx k->bx H ob eat k)(xx:∀k,Sx k->k<w.heap.size)
 (pE:ob o2=some (s2, .deep e dr m none))(u6:H.val o2=some (ev ρ y))(SE:o2∈eat)(nA:∀k,Sx k->¬H.sub s2 k)(ha:eW l m=some out):
 bJ P U H F w ρ ob n ⟨some d, .call {callee:= .builtin .append,args:= #[x,y],argTypes:= #[t,t]},ty,pos,aft,none⟩ {dst:= .val false (.own n),eat:=eat,make:=[(n,(n, .deep e dr out none))]}:=by
 obtain⟨lx,MF,Nq,Kf,MG,CR⟩:=hx;obtain⟨ly,Sy,SF,Mw,Q6,IQ⟩:=hs.low pE u6;obtain⟨v2,AT,Gr⟩:=hs.obj _ _ _ pE;rw[u6]at AT;obtain rfl:=X7 AT;obtain⟨IR,rfl⟩:=D5 ha Kf Mw;obtain⟨ti,z,h1,h2,h3,h4,h5⟩:=T.row_ok _ _ hr;have ht:=T.und_ok _ _ hu;subst gU;obtain⟨v',w',bR,bI,kS,hm⟩:=p8 ty ht h1 h2 (h3.trans dr.oy.symm) (h4.trans dr.size.symm) h5 (base:=0) (l:=lx) ⟨fun k hk=>NE k (CR.aM k hk),Nq⟩ SF.reads IR hs.lt (Yk _)
 have dH:Step F w F w':=Step.ext bI hs.lt fun k hk=>NE k (CR.aM k hk)
 have SG:∀k,H.sub s2 k->bx H ob eat k:=fun k hk=>⟨o2,SE,s2,_,_,pE,u6,hk⟩
 have KM:∀i,i<l.length->∀k,MF i k->w'.heap[k]? =w.heap[k]? :=fun i hi k hk=>bI.block k (xx k (CR.part hi k hk)) (CR.out i k hi hk)
 have KN:∀i,i<m.length->∀k,Sy i k->w'.heap[k]? =w.heap[k]? :=fun i hi k hk=>bI.block k (Gr.lt k (IQ.part hi k hk)) fun KO=>nA k (CR.aM k KO) (IQ.part hi k hk)
 have hlen:(l++m).length=l.length+m.length:=Yr
 have ya:∀k,aM v' k->(Sx k/\aM (ev ρ x) k)\/k=w.heap.size:=by
  intro k hk
  rcases hm with g|g
  .rw[g]at hk;exact .inl ⟨CR.aM k hk,hk⟩
  .rw[g]at hk;exact .inr hk.symm
 let SS:Nat->Nat->Prop:=fun i=>if i<l.length then MF i else Sy (i-l.length)
 have JY:∀i k,i<l.length->SS i k->MF i k:=fun i k hi hk=>by simpa only[SS,if_pos hi]using hk
 have JZ:∀i k,¬i<l.length->SS i k->Sy (i-l.length) k:=fun i k hi hk=>by simpa only[SS,if_neg hi]using hk
 have Q7:∀i k,i<(l++m).length->SS i k->Sx k\/H.sub s2 k:=by
  intro i k hi hk;by_cases aW:i<l.length
  .exact .inl (CR.part aW k (JY i k aW hk))
  .exact .inr (IQ.part (by omega) k (JZ i k aW hk))
 have iw:v'.oneCell'=true:=gP.one (T:=e) (r:=dr.low) kS.2;refine bp.val (v:=v') (w':=w') (by simp[execOp,resolve,invoke,builtin,bR]) (iZ.IN (t:= .deep e dr (l++m) none) (S:=mS (aM v') SS (l++m).length) hs rfl iw ⟨bI.os,bI.tape,bI.output,bI.size,fun k hk hn=>bI.block k hk fun Kg=>hn (Q5 k (CR.aM k Kg))⟩ ?_ (fun k hk=>?_) (ju (o:=n) (v:=v') (by simp[ao.cB]) iw))
 .refine⟨lx++ly,SS,kS.2,by simp[Kf,Mw],fun i a b=>?_,⟨fun k=>Iff.rfl,fun i j k hi hj bu hk cx=>?_,fun i k hi hk Kg=>?_⟩⟩
  .show gu F w' dr (lx++ly)[i] (l++m)[i] (SS i)
   by_cases aW:i<l.length
   .have e1:(lx++ly)[i]=lx[i]'(by omega):=List.getElem_append_left (by omega);have e2:(l++m)[i]=l[i]:=List.getElem_append_left aW
    have e3:SS i=MF i:=by simp only[SS,if_pos aW]
    rw[e1,e2,e3];exact gu.aO dH (MG i (by omega) aW) (KM i aW)
   .have e1:(lx++ly)[i]=ly[i-l.length]'(by simp at a;omega):=by rw[List.getElem_append_right (by omega)];simp only[Kf]
    have e2:(l++m)[i]=m[i-l.length]'(by omega):=List.getElem_append_right (by omega)
    have e3:SS i=Sy (i-l.length):=by simp only[SS,if_neg aW]
    rw[e1,e2,e3];exact gu.aO dH (Q6 (i-l.length) _ (by omega)) (KN _ (by omega))
  .by_cases h1:i<l.length<;>by_cases h2:j<l.length
   .exact CR.two i j k h1 h2 bu (JY i k h1 hk) (JY j k h2 cx)
   .exact nA k (CR.part h1 k (JY i k h1 hk)) (IQ.part (by omega) k (JZ j k h2 cx))
   .exact nA k (CR.part h2 k (JY j k h2 cx)) (IQ.part (by omega) k (JZ i k h1 hk))
   .exact IQ.two (i-l.length) (j-l.length) k (by omega) (by omega) (by omega) (JZ i k h1 hk) (JZ j k h2 cx)
  .rcases ya k Kg with⟨g1,g2⟩|g
   .by_cases h1:i<l.length
    .exact CR.out i k h1 (JY i k h1 hk) g2
    .exact nA k g1 (IQ.part (by omega) k (JZ i k h1 hk))
   .rcases Q7 i k hi hk with h1|h1
    .have:=xx k h1;omega
    .have:=Gr.lt k h1;omega
 .have hk:mS (aM v') SS (l++m).length k:=hk
  have fin:Sx k\/H.sub s2 k->¬F k/\k<w'.heap.size/\(w.heap.size<=k\/bx H ob eat k):=by
   rintro(h1|h1)
   .exact⟨NE k h1,YK (xx k h1) bI.size, .inr (Q5 k h1)⟩
   .exact⟨Gr.no k h1,YK (Gr.lt k h1) bI.size, .inr (SG k h1)⟩
  rcases hk with hk|⟨i,hi,hk⟩
  .rcases ya k hk with⟨g,_⟩|g
   .exact fin (.inl g)
   .exact⟨fun e=>by have:=hs.lt k e;omega,kS.lt k hk, .inl (by omega)⟩
  .exact fin (Q7 i k hi hk)
def nB(T:aG P)(ob:Nat->Option (Nat×Th))(n:Nat)(t:TypeId)(X Y:aj)(k:cU->Option R):Option R:=
 match find T.und t with
 |some (.slice e)=>match find T.row e with
  |some r=>match Y with
   | .val false (.own o2)=>match ob o2 with
     |some (_, .deep T2 d2 m none)=>bif Yb T2 e&&d2.row.beq r then(match X with
      | .val false .nil=>(eW ([]:List d2.row.den) m).bind fun l=>k {dst:= .val false (.own n),eat:=[o2],make:=[(n,(n, .deep e d2 l none))]}
      | .val false (.own o1)=>match ob o1 with
        |some (_, .deep T1 d1 l0 none)=>bif Yb o1 o2 then none else bif Yb T1 e then(if h:d1.beq d2=true then(eW (DR.eq_of_beq h▸l0) m).bind fun l=>k {dst:= .val false (.own n),eat:=[o1,o2],make:=[(n,(n, .deep e d2 l none))]}else none)else none
        |_=>none
      |_=>none)else none
     |_=>none
   |_=>none
  |none=>none
 |_=>none
theorem vK(T:aG P){t:TypeId}{X Y:aj}{x y:Operand}{k:cU->Option R}{q:R}(h:nB T ob n t X Y k=some q)(hs:aq U H F w ob n)(hx:ai H F w X (ev ρ x))(hy:ai H F w Y (ev ρ y)):
 ∃e,k e=some q/\bJ P U H F w ρ ob n ⟨some d, .call {callee:= .builtin .append,args:= #[x,y],argTypes:= #[t,t]},ty,pos,aft,none⟩ e:=by
 unfold nB at h;split at h
 case h_2=>cases h
 rename_i e hu;split at h
 case h_2=>cases h
 rename_i r hr;split at h
 case h_2=>cases h
 rename_i o2;split at h
 case h_2=>cases h
 rename_i s2 T2 d2 m pE;obtain⟨hc,h'⟩:=ay h;clear h;obtain⟨va,pL⟩:=bU hc;obtain rfl:=beq_true va;have gU:=Row.eq_of_beq pL;obtain⟨cs,⟨u,Ga,_,e2⟩,_,h3⟩:=hy;rw[h3 rfl]at e2
 obtain rfl:ev ρ y=u:=by simpa using e2
 split at h'
 .obtain⟨l,hl,hk⟩:=bind_some h';refine⟨_,hk,o9 (Sx:=fun _=>False) T hu hr gU hs ?_ (fun _ h=>h.elim) (fun _ h=>h.elim) (fun _ h=>h.elim) pE Ga (by simp) (fun _ h=>h.elim) hl⟩;obtain⟨cs,h1,_,h4⟩:=hx;rw[h4 rfl]at h1;have rN:[ev ρ x]=[Value.slice none 0 0]:=h1;rw[show ev ρ x= .slice none 0 0 by simpa using rN];exact⟨[],fun _ _=>False,gP.nil F w T2 d2.low,rfl,fun i h=>absurd h (by simp),⟨fun k=>by simp[aM,YE],fun _ _ _ h=>absurd h (by simp),fun _ _ h=>absurd h (by simp)⟩⟩
 .rename_i o1;split at h'
  case h_2=>cases h'
  rename_i s1 T1 d1 l0 lm
  cases bu:Yb o1 o2 with
  |true=>rw[bu]at h';cases h'
  |false=>
   rw[bu,cond_false]at h'
   have bu:o1≠o2:=fun e=>by rw[e]at bu;simp at bu
   obtain⟨hT,h⟩:=ay h';clear h';obtain rfl:=beq_true hT;split at h
   case isFalse=>cases h
   rename_i hb;obtain rfl:=DR.eq_of_beq hb;obtain⟨l,hl,hk⟩:=bind_some h;obtain⟨cs,⟨v,n7,_,e1⟩,_,h4⟩:=hx;rw[h4 rfl]at e1
   obtain rfl:ev ρ x=v:=by simpa using e1
   obtain⟨v',cy,je⟩:=hs.obj _ _ _ lm;rw[n7]at cy;obtain rfl:=X7 cy;exact⟨_,hk,o9 (Sx:=H.sub s1) T hu hr gU hs je.ok je.no (fun k hk=>⟨o1,by simp,s1,_,_,lm,n7,hk⟩) je.lt pE Ga (by simp) (fun k hk=>hs.apart _ _ _ _ _ _ _ _ bu lm pE n7 Ga k hk) hl⟩
 .cases h'
def D6(ob:Nat->Option (Nat×Th)):aj->Bool
 | .val false (.own o)=>match ob o with
   |some (_, .deep ..)=>true
   |_=>false
 |_=>false
def jT(T:aG P)(ob:Nat->Option (Nat×Th))(n:Nat)(t:TypeId)(X Y:aj)(k:cU->Option R):Option R:=
 bif D6 ob Y then nB T ob n t X Y k else lV T ob n t X Y k
theorem vL(T:aG P){t:TypeId}{X Y:aj}{x y:Operand}{k:cU->Option R}{q:R}(h:jT T ob n t X Y k=some q)(hs:aq U H F w ob n)(hx:ai H F w X (ev ρ x))(hy:ai H F w Y (ev ρ y)):
 ∃e,k e=some q/\bJ P U H F w ρ ob n ⟨some d, .call {callee:= .builtin .append,args:= #[x,y],argTypes:= #[t,t]},ty,pos,aft,none⟩ e:=by
 unfold jT at h
 cases hb:D6 ob Y with
 |true=>rw[hb,cond_true]at h;exact vK T h hs hx hy
 |false=>rw[hb,cond_false]at h;exact xO T h hs hx hy
end
end Go.Proofs.YtlfjlhcigpejdaaGreatDoor
end
