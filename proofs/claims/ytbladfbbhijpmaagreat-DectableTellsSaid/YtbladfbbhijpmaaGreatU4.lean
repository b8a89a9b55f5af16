/- Joined texts: Smap Apd Pack2 Call. -/
import Derived.Test.YtbladfbbhijpmaaGreatU3
import Derived.Maps.RangeRun
section
open _root_.Array renaming getElem?_eq_some_iff->Zb,toList_filter->aad
open _root_.Go.ChangeMaps renaming setBlock->ZZ
open _root_.Go.Instr renaming findAsking->aal,findNow->Zy,lookup->aak,mapUpdate->ZR
open _root_.List renaming filter_eq_self->aac,mem_cons->YM,mem_filter->Za,pairwise_cons->Y7
open _root_.Go.MapKept renaming run_getObj_map->Zq,run_setObj_map->ZX
open _root_.Nat renaming beq->YE,le_refl->YD
open _root_.Option renaming isSome_iff_exists->Zg
open _root_.Option.some renaming inj->YA
open _root_.Prod.mk renaming inj->Z3
open _root_.Go.Result renaming andThen->YO
namespace Go.Proofs.YtbladfbbhijpmaaGreat
open Go Go.RowKit Go.MapKept
def D3:(K:Row)->K.den->K.den->Bool
 | .int _,a,b=>decide ((a:Int)<b)
 | .pair (.int _) (.int _),a,b=>decide ((a.1:Int)<b.1\/((a.1:Int)=b.1/\(a.2:Int)<b.2))
 |_,_,_=>false
def vP{α:Type}(K:Row):List (K.den×α)->K.den->α->List (K.den×α)
 |[],k,v=>[(k,v)]
 |p::l,k,v=>if D3 K k p.1=true then(k,v)::p::l else p::vP K l k v
noncomputable def mu{α:Type}(K:Row)(l:List (K.den×α))(k:K.den)(v:α):List (K.den×α):=vP K (l.filter fun p=> !bP K p.1 k) k v
theorem ma{α:Type}{K:Row}(k:K.den)(v:α):(l:List (K.den×α))->(vP K l k v).Perm ((k,v)::l)
 |[]=> .refl _
 |p::l=>by
  unfold vP;split
  .exact .refl _
  .exact((ma k v l).cons p).trans (.swap ..)
theorem jN{K:Row}{a b:K.den}(h:bP K a b=true):a=b:=by
 unfold bP at h;split at h
 .exact of_decide_eq_true h
 .exact of_decide_eq_true h
 .exact of_decide_eq_true h
 .exact Prod.ext (of_decide_eq_true h).1 (of_decide_eq_true h).2
 .cases h
theorem mU{K:Row}{a b:K.den}(h:bP K a b=false):bP K b a=false:=by
 cases hc:bP K b a with
 |false=>rfl
 |true=>
  obtain rfl:=jN hc;rw[hc]at h;cases h
def ug{α:Type}(K:Row)(l:List (K.den×α)):Prop:=l.Pairwise fun p q=>bP K p.1 q.1=false
theorem ug.perm{α:Type}{K:Row}{l l':List (K.den×α)}(h:l'.Perm l)(hd:ug K l):ug K l':=(h.pairwise_iff fun{a b}=>mU).2 hd
theorem yl{α:Type}{K:Row}{x:K.den}{l l':List (K.den×α)}(h:l'.Perm l):ug K l'->aX K l' x=aX K l x:=by
 induction h with
 |nil=>intro _;rfl
 |cons p _ ih=>
  intro hd;unfold aX;rw[ih (Y7.1 hd).2]
 |swap p q l=>
  intro hd;have Ie:=(Y7.1 hd).1 p (by simp)
  show(if bP K q.1 x=true then some q.2 else if bP K p.1 x=true then some p.2 else aX K l x)=if bP K p.1 x=true then some p.2 else if bP K q.1 x=true then some q.2 else aX K l x
  by_cases h1:bP K q.1 x=true
  .by_cases h2:bP K p.1 x=true
   .have e1:=jN h1;have e2:=jN h2;rw[e1,e2]at Ie;rw[e1,Ie]at h1;cases h1
   .rw[if_pos h1,if_neg h2,if_pos h1]
  .rw[if_neg h1];by_cases h2:bP K p.1 x=true
   .rw[if_pos h2,if_pos h2]
   .rw[if_neg h2,if_neg h2,if_neg h1]
 |trans h1 h2 ih1 ih2=>intro hd;exact(ih1 hd).trans (ih2 (hd.perm h1.symm))
section
variable {P:Program} {ρ:Nat->Value} {w w':World} {H H':aj} {F F':Nat->Prop} {U:Nat->Prop} {ob:Nat->Option (Nat×Th)} {n:Nat} {R:Type}
variable {op:Op} {ty:TypeId} {pos:String} {aft:Array Edge} {d:Nat}
theorem nK{K:Row}{agg:Bool}{V:Row}:{es:List MapEntry}->{l:List (K.den×V.den)}->dD H F w K agg V es l->∀q∈l,∃e∈es,fN K q.1=some e.key/\au H F w agg (.leaf V q.2) e.val
 |[],l,h=>by obtain rfl:l=[]:=h;exact fun q hq=>by cases hq
 |e::es,_,h=>by
  obtain⟨k,x,l',rfl,h1,h2,h3⟩:=h;intro q hq
  rcases YM.1 hq with rfl|hq
  .exact⟨e,by simp,h1,h2⟩
  .obtain⟨e',he',g⟩:=nK h3 q hq;exact⟨e',by simp[he'],g⟩
theorem jO{K:Row}{agg:Bool}{V:Row}:{es:List MapEntry}->{l:List (K.den×V.den)}->dD H F w K agg V es l->∀e∈es,∃q∈l,fN K q.1=some e.key/\au H F w agg (.leaf V q.2) e.val
 |[],_,_=>fun e he=>by cases he
 |e::es,_,h=>by
  obtain⟨k,x,l',rfl,h1,h2,h3⟩:=h;intro e' he
  rcases YM.1 he with rfl|he
  .exact⟨(k,x),by simp,h1,h2⟩
  .obtain⟨q,hq,g⟩:=jO h3 e' he;exact⟨q,by simp[hq],g⟩
theorem mb{K:Row}{agg:Bool}{V:Row}:{es:List MapEntry}->{l:List (K.den×V.den)}->dD H F w K agg V es l->(es.map (·.key)).Nodup->ug K l
 |[],l,h,_=>by obtain rfl:l=[]:=h;exact .nil
 |e::es,_,h,hn=>by
  obtain⟨k,x,l',rfl,h1,h2,h3⟩:=h;obtain⟨n1,n2⟩:=List.nodup_cons.1 hn;refine Y7.2 ⟨fun q hq=>?_,mb h3 n2⟩;obtain⟨e',he',g,_⟩:=nK h3 q hq
  cases hc:bP K k q.1 with
  |false=>rfl
  |true=>
   have:=(eU h1 g).1 hc;exact absurd (List.mem_map.2 ⟨e',he',this.symm⟩) n1
theorem sD{K:Row}{agg:Bool}{V:Row}{e:MapEntry}:{es:List MapEntry}->{l:List (K.den×V.den)}->dD H F w K agg V es l->(es.map (·.born)).Nodup->e∈es->
 ∃p l2,fN K p.1=some e.key/\au H F w agg (.leaf V p.2) e.val/\dD H F w K agg V (es.filter fun x=> !(x.born==e.born)) l2/\l.Perm (p::l2)
 |[],_,_,_,he=>by cases he
 |e'::es,_,h,hn,he=>by
  obtain⟨k,x,l',rfl,h1,h2,h3⟩:=h;obtain⟨n1,n2⟩:=List.nodup_cons.1 hn;by_cases hb:e'.born=e.born
  .have b8:e∉es:=fun h=>n1 (List.mem_map.2 ⟨e,h,hb.symm⟩)
   obtain rfl:e=e':=(YM.1 he).resolve_right b8;rw[List.filter_cons_of_neg (by simp)]
   have di:es.filter (fun x=> !(x.born==e.born))=es:=aac.2 fun y hy=>by
    have:y.born≠e.born:=fun g=>n1 (List.mem_map.2 ⟨y,hy,g⟩)
    simpa using this
   rw[di];exact⟨(k,x),l',h1,h2,h3, .refl _⟩
  .have he':e∈es:=(YM.1 he).resolve_left fun g=>hb (by rw[g])
   obtain⟨p,l2,g1,g2,g3,g4⟩:=sD h3 n2 he';rw[List.filter_cons_of_pos (by simpa using hb)];exact⟨p,(k,x)::l2,g1,g2,⟨k,x,l2,rfl,h1,h2,g3⟩,(g4.cons _).trans (.swap ..)⟩
def OP(P:Program)(t:TypeId):Prop:=∀(em:Bool)(a b:Value)(w:World),(Instr.checkKey em 10000 t (.agg #[a,b])).run P w= .ok () w
def BI(T:aI P)(kt:TypeId):Row->Bool
 | .pair (.int j) (.int k)=>match find T.eqs kt with
   |some r=>r.beq (.pair (.int j) (.int k))&&T.kys.any (YE kt)
   |none=>false
 |_=>false
structure I2(P:Program)(kt:TypeId)(K:Row):Prop where
 sE:∀em x v(w:World),fN K x=some v->(Instr.checkKey em 10000 kt v).run P w= .ok () w
 find:∀x v(w:World)(es:List MapEntry),fN K x=some v->(∀e∈es,∃k,fN K k=some e.key)->
  ((Instr.findKey kt v es).run P w= .ok none w/\∀e∈es,e.key≠v)\/∃j e,(Instr.findKey kt v es).run P w= .ok (some (j,e.val)) w/\es[j]? =some e/\e.key=v
 stays:∀x v(w:World),fN K x=some v->(Instr.keyThatStays v v).run P w= .ok v w
 NA:∀(F:Nat->Prop)(w:World)cs x,bF F w K cs x->fN K x=some (.agg cs.toArray)
theorem zU(T:aI P){kt:TypeId}{K:Row}(h:BI T kt K=true):I2 P kt K:=by
 unfold BI at h;split at h
 case h_2=>cases h
 rename_i j k;split at h
 case h_2=>cases h
 rename_i r he;obtain⟨h1,h2⟩:=bE h;obtain rfl:=Row.eq_of_beq h1;obtain⟨KK,dd,hE,hd,_,hD⟩:=T.eqs_ok _ _ he;have Ug:OP P kt:=T.kys_ok _ (any_beq.1 h2)
 have NA:∀(F:Nat->Prop)(w:World)cs(x:Int×Int),bF F w (.pair (.int j) (.int k)) cs x->cs=[.int j x.1, .int k x.2]:=by
  rintro F w cs x ⟨c1,c2,rfl,g1,g2⟩
  rw[show c1=_ from g1,show c2=_ from g2];rfl
 have mk:∀(x:Int×Int)(w:World),bF (fun _=>True) w (.pair (.int j) (.int k)) [.int j x.1, .int k x.2] x:=fun x w=>⟨[_],[_],rfl,rfl,rfl⟩
 cases hu:P.underlying kt with
 |none=>rw[hu]at hD;cases hD
 |some D=>
  have hA:fy D=true:=by rw[hu]at hD;exact hD
  have pd:∀(x y:Int×Int)(w:World),(Op.equal kt (.agg #[.int j x.1, .int k x.2]) (.agg #[.int j y.1, .int k y.2])).run P w= .ok (decide (x=y)) w:=fun x y w=>by
   have:=hE dd w w (fun _=>True) _ _ x y (.agg #[.int j x.1, .int k x.2]) (.agg #[.int j y.1, .int k y.2]) ⟨D,hu,by rw[if_pos hA]⟩ ⟨D,hu,by rw[if_pos hA]⟩ (mk x w) (mk y w);rw[hd]at this;unfold Op.equal;rw[show Op.maxDepth=10000 from rfl,this]
  have Lr:∀(x:Int×Int)(e:MapEntry)(es:List MapEntry)i,Zy D (.agg #[.int j x.1, .int k x.2]) (e::es) i=none:=fun x e es i=>by
   unfold Zy Instr.sameNow
   cases D<;>first|rfl|cases hA
  have ask:∀(x:Int×Int)(w:World)(es:List MapEntry)(i:Nat),(∀e∈es,∃y:Int×Int,e.key= .agg #[.int j y.1, .int k y.2])->
   ((aal kt (.agg #[.int j x.1, .int k x.2]) es i).run P w= .ok none w/\∀e∈es,e.key≠ .agg #[.int j x.1, .int k x.2])\/∃q e,(aal kt (.agg #[.int j x.1, .int k x.2]) es i).run P w= .ok (some (i+q,e.val)) w/\es[q]? =some e/\e.key= .agg #[.int j x.1, .int k x.2]:=by
   intro x w es
   induction es with
   |nil=>intro i _;exact .inl ⟨rfl,fun e he=>by cases he⟩
   |cons e es ih=>
    intro i KC;obtain⟨y,hy⟩:=KC e (by simp);by_cases mM:x=y
    .subst mM;refine .inr ⟨0,e,?_,rfl,hy⟩;unfold aal;rw[hy];simp[pd,YO]
    .rcases ih (i+1) (fun e' he'=>KC e' (by simp[he']))with⟨g1,g2⟩|⟨q,e',g1,g2,g3⟩
     .refine .inl ⟨?_,fun e' he'=>?_⟩
      .unfold aal;rw[hy];simp[pd,mM,g1,YO]
      .rcases YM.1 he' with rfl|he'
       .rw[hy];intro g;simp at g;exact mM (Prod.ext g.1.symm g.2.symm)
       .exact g2 e' he'
     .refine .inr ⟨q+1,e',?_,by simpa using g2,g3⟩;unfold aal;rw[hy];simp[pd,mM,g1,YO,Nat.add_assoc,Nat.add_comm 1]
  refine⟨fun em x v w hv=>?_,fun x v w es hv KC=>?_,fun x v w hv=>?_,fun F w cs x hr=>?_⟩
  .obtain rfl:=YA hv;exact Ug em _ _ w
  .obtain rfl:=YA hv
   have OQ:∀e∈es,∃y:Int×Int,e.key= .agg #[.int j y.1, .int k y.2]:=fun e he=>by
    obtain⟨y,hy⟩:=KC e he;exact⟨y,(YA hy).symm⟩
   unfold Instr.findKey
   cases es with
   |nil=>exact .inl ⟨by simp[run_underlying hu,Zy,YO],fun e he=>by cases he⟩
   |cons e es=>
    rcases ask x w (e::es) 0 OQ with⟨g1,g2⟩|⟨q,e',g1,g2,g3⟩
    .exact .inl ⟨by simp[run_underlying hu,Lr,g1,YO],g2⟩
    .exact .inr ⟨q,e',by simp[run_underlying hu,Lr,g1,YO],g2,g3⟩
  .obtain rfl:=YA hv;unfold Instr.keyThatStays;simp[Instr.sameBits]
  .rw[NA F w cs x hr];rfl
structure Sq where
 o:Nat
 s:Nat
 T:TypeId
 K:Row
 agg:Bool
 V:Row
 l:List (K.den×V.den)
 it:Option (Nat×List (K.den×V.den)×Option (K.den×V.den))
def qN(ob:Nat->Option (Nat×Th)):ag->Option Sq
 | .val false (.own o)=>match ob o with
   |some (s, .smap T K agg V l it)=>some ⟨o,s,T,K,agg,V,l,it⟩
   |_=>none
 |_=>none
theorem oE(hs:ak U H F w ob n){D:ag}{m:Sq}{v:Value}(h:qN ob D=some m)(hd:af H F w D v):ob m.o=some (m.s, .smap m.T m.K m.agg m.V m.l m.it)/\H.val m.o=some v/\eF H F w (H.sub m.s) v (.smap m.T m.K m.agg m.V m.l m.it):=by
 unfold qN at h;split at h
 .rename_i o;split at h
  .rename_i s T K agg V l it bJ;obtain rfl:=YA h;obtain⟨cs,⟨u,hu,_,e⟩,_,h3⟩:=hd;rw[h3 rfl]at e
   obtain rfl:v=u:=by simpa using e
   obtain⟨v',cQ,bH⟩:=hs.obj _ _ _ bJ;rw[hu]at cQ;obtain rfl:=YA cQ;exact⟨bJ,hu,bH.ok⟩
  .cases h
 .cases h
noncomputable def uh(ob:Nat->Option (Nat×Th))(K:Row):ag->Option K.den
 | .val true t=>flat ob K t
 |_=>none
theorem sF(hs:ak U H F w ob n){kt:TypeId}{K:Row}{D:ag}{x:K.den}{v:Value}(hK:I2 P kt K)(h:uh ob K D=some x)(hd:af H F w D v):fN K x=some v:=by
 unfold uh at h;split at h
 .obtain⟨cs,h1,h2,_⟩:=hd;rw[h2];exact hK.NA F w cs x (dV hs h h1)
 .cases h
def iA(_:Bool)(T:aI P)(n:Nat)(t:TypeId)(k:cL->Option R):Option R:=
 match find T.und t with
 |some (.map kt vt)=>match find T.row kt with
  |some K=>bif BI T kt K then(match find T.row vt with
   |some V=>match find T.und vt with
    |some kk=>k {dst:= .val false (.own n),make:=[(n,(n, .smap t K (fP kk) V [] none))]}
    |none=>none
   |none=>none)else jL T n t k
  |none=>none
 |_=>none
theorem ui(b:Bool)(T:aI P){t:TypeId}{k:cL->Option R}{q:R}(h:iA b T n t k=some q)(hs:ak U H F w ob n):
 ∃e,k e=some q/\bz P U H F w ρ ob n ⟨some d, .makeMap t none,ty,pos,aft,none⟩ e:=by
 unfold iA at h;split at h
 case h_2=>cases h
 split at h
 case h_2=>cases h
 rename_i K _
 cases hc:BI T _ K with
 |false=>rw[hc,cond_false]at h;exact vG T h hs
 |true=>
  rw[hc,cond_true]at h;split at h
  case h_2=>cases h
  rename_i V _;split at h
  case h_2=>cases h
  rename_i kk _
  have aZ:(execOp (ev ρ) ⟨some d, .makeMap t none,ty,pos,aft,none⟩).run P w= .ok (.value (.map (some w.heap.size))) (w.alloc (.map #[] 0)):=by
   simp[execOp,Instr.makeMap,YO]
  refine⟨_,h,bl.val aZ ?_⟩
  have hv:(((H.cW n (is w.heap.size)).aP n (.smap t K (fP kk) V [] none)).bL n (.map (some w.heap.size))).val n=some (.map (some w.heap.size)):=by simp[aj.bL]
  refine gZ.GM (v0:= .map (some w.heap.size)) (S:=is w.heap.size) hs rfl rfl (jI _) ⟨_, #[],0,[],rfl,rfl,(heap_alloc w _).1,stamped_empty 0,rfl, .refl _,trivial⟩ (fun k hk=>?_) (jf hv rfl);have hk:k=w.heap.size:=hk;subst hk;exact⟨fun e=>by have:=hs.lt _ e;omega,by simp, .inl (YD _)⟩
theorem nL{IY kt et:TypeId}{K:Row}{b clock:Nat}{es:Array MapEntry}{x:K.den}{key val:Value}(hm:P.underlying IY=some (.map kt et))(hK:I2 P kt K)(hx:fN K x=some key)(hb:w.heap[b]? =some (.map es clock))(KC:∀e∈es.toList,∃k,fN K k=some e.key):
 ((ZR IY (.map (some b)) key val).run P w= .ok () {w with heap:=w.heap.setIfInBounds b (.map (es.push {key,val,born:=clock}) (clock+1))}/\∀e∈es.toList,e.key≠key)\/
 ∃j e,es.toList[j]? =some e/\e.key=key/\(ZR IY (.map (some b)) key val).run P w= .ok () {w with heap:=w.heap.setIfInBounds b (.map (es.modify j fun e=>{e with key,val}) clock)}:=by
 rcases hK.find x key w es.toList hx KC with⟨h1,h2⟩|⟨j,e,h1,h2,h3⟩
 .exact .inl ⟨by simp[ZR,run_underlying hm,Zq hb,hK.sE _ _ _ _ hx,h1,ZX _ hb,YO],h2⟩
 .refine .inr ⟨j,e,h2,h3,?_⟩
  have hj:es[j]? =some e:=by simpa using h2
  simp[ZR,run_underlying hm,Zq hb,hK.sE _ _ _ _ hx,h1,hj,h3,hK.stays _ _ _ hx,ZX _ hb,YO]
theorem sG{K:Row}{agg:Bool}{V:Row}{e:MapEntry}{x:K.den}{y:V.den}(hk:fN K x=some e.key)(hv:au H F w agg (.leaf V y) e.val):{es:List MapEntry}->{l:List (K.den×V.den)}->dD H F w K agg V es l->dD H F w K agg V (es++[e]) (l++[(x,y)])
 |[],l,h=>by obtain rfl:l=[]:=h;exact⟨x,y,[],rfl,hk,hv,rfl⟩
 |e'::es,_,h=>by
  obtain⟨k,z,l',rfl,h1,h2,h3⟩:=h;exact⟨k,z,_,rfl,h1,h2,sG hk hv h3⟩
theorem pf{K:Row}{agg:Bool}{V:Row}{x:K.den}{y:V.den}{key:Value}{f:MapEntry->MapEntry}(hx:fN K x=some key)(hf:∀e:MapEntry,(f e).key=key)(hv:∀e,au H F w agg (.leaf V y) (f e).val):{es:List MapEntry}->{l:List (K.den×V.den)}->{j:Nat}->{e:MapEntry}->
 dD H F w K agg V es l->ug K l->es[j]? =some e->e.key=key->∃l2,dD H F w K agg V (es.modify j f) l2/\l2.Perm ((x,y)::l.filter fun p=> !bP K p.1 x)
 |[],_,_,_,_,_,hj,_=>by simp at hj
 |e'::es,_,0,e,h,hd,hj,I3=>by
  obtain⟨k,z,l',rfl,h1,h2,h3⟩:=h;obtain⟨d1,d2⟩:=Y7.1 hd
  obtain rfl:e'=e:=by simpa using hj
  have NP:bP K k x=true:=(eU h1 hx).2 I3;obtain rfl:=jN NP;refine⟨(k,y)::l',⟨k,y,l',rfl,by rw[hf];exact hx,hv _,h3⟩,?_⟩
  have e:((k,z)::l').filter (fun q=> !bP K q.1 k)=l':=by
   rw[List.filter_cons_of_neg (by simp[NP])]
   exact aac.2 fun q pc=>by rw[mU (d1 q pc)];rfl
  rw[e]
 |e'::es,_,j+1,e,h,hd,hj,I3=>by
  obtain⟨k,z,l',rfl,h1,h2,h3⟩:=h;obtain⟨d1,d2⟩:=Y7.1 hd
  have Gf:es[j]? =some e:=by simpa using hj
  obtain⟨l2,g1,g2⟩:=pf hx hf hv h3 d2 Gf I3;obtain⟨q,hq,I4,_⟩:=jO h3 e (List.mem_of_getElem? Gf);have Uh:bP K q.1 x=true:=(eU I4 hx).2 I3;obtain rfl:=jN Uh;have b8:bP K k q.1=false:=d1 q hq;refine⟨(k,z)::l2,⟨k,z,l2,rfl,h1,h2,g1⟩,?_⟩;rw[List.filter_cons_of_pos (by rw[b8];rfl)];exact(g2.cons _).trans (.swap ..)
noncomputable def fG(T:aI P)(ob:Nat->Option (Nat×Th))(n:Nat)(t:TypeId)(M X Y:ag)(k:cL->Option R):Option R:=
 match qN ob M with
 |some m=>match find T.und t with
  |some (.map kt _)=>bif BI T kt m.K then(match uh ob m.K X with
   |some x=>match Y with
    | .val cZ tr=>bif (bif m.agg then cZ else !cZ)then(match flat ob m.V tr with
      |some y=>k {dst:= .dead,eat:=[m.o],make:=[(m.o,(n, .smap m.T m.K m.agg m.V (mu m.K m.l x y) none))]}
      |none=>none)else none
    |_=>none
   |none=>none)else none
  |_=>none
 |none=>gp T ob n t M X Y k
theorem qO(T:aI P){t:TypeId}{M X Y:ag}{m x y:Operand}{k:cL->Option R}{q:R}(h:fG T ob n t M X Y k=some q)(hs:ak U H F w ob n)(hm:af H F w M (ev ρ m))(hx:af H F w X (ev ρ x))(hy:af H F w Y (ev ρ y)):
 ∃e,k e=some q/\bz P U H F w ρ ob n ⟨none, .mapUpdate t m x y,ty,pos,aft,none⟩ e:=by
 unfold fG at h;split at h
 case h_2=>exact rP T h hs hm hx hy
 rename_i r nH;obtain⟨bJ,hv,iV⟩:=oE hs nH hm;obtain⟨o,s,T0,K,agg,V,l,it⟩:=r;dsimp only at h bJ hv iV;split at h
 case h_2=>cases h
 rename_i kt vt hu;obtain⟨hc,h'⟩:=ax h;clear h;split at h'
 case h_2=>cases h'
 rename_i a ha;split at h'
 case h_2=>cases h'
 rename_i cZ tr;obtain⟨mQ,h⟩:=ax h';clear h'
 have mQ:agg=cZ:=by cases agg<;>cases cZ<;>simp_all
 subst mQ;split at h
 case h_2=>cases h
 rename_i z hz;refine⟨_,h,?_⟩;have hK:=zU T hc;have jM:=sF hs hK ha hx
 have k9:au H F w agg (.leaf V z) (ev ρ y):=by
  obtain⟨cs,h1,h2⟩:=hy;exact⟨cs,dV hs hz h1,h2⟩
 obtain⟨b,es,clock,l',jw,I5,hh,dC,oz,Bp,_⟩:=iV;have sH:=mb oz dC.2.2
 have ee:bq H ob [o] b:=⟨o,by simp,s,_,_,bJ,hv,I5⟩
 have hf:=hs.fresh n (YD _) (by omega)
 have fin:∀o',(ZR t (.map (some b)) (ev ρ x) (ev ρ y)).run P w= .ok () {w with heap:=w.heap.setIfInBounds b o'}->
  (∀(H':aj)(w':World),H.le H'->Step F w F w'->∃gG jx l2,o'= .map gG jx/\Stamped gG jx/\dD H' F w' K agg V gG.toList l2/\l2.Perm (mu K l a z))->
  bz P U H F w ρ ob n ⟨none, .mapUpdate t m x y,ty,pos,aft,none⟩ {dst:= .dead,eat:=[o],make:=[(o,(n, .smap T0 K agg V (mu K l a z) none))]}:=by
  intro o' aZ DW;refine bl.unit (w':={w with heap:=w.heap.setIfInBounds b o'}) ?_ ?_
  .simp[execOp,jw,aZ,YO]
  .have gq:∀k,k≠b->(w.heap.setIfInBounds b o')[k]? =w.heap[k]? :=(heap_set hh).2
   have cI:Step F w F {w with heap:=w.heap.setIfInBounds b o'}:=fun c hc=>⟨hc,gq c fun e=>by subst e;exact hs.de _ ee hc⟩
   obtain⟨gG,jx,l2,rfl,g1,g2,g3⟩:=DW ((H.cW n (is b)).aP n (.smap T0 K agg V (mu K l a z) none)) _ (aj.lV hf.2) cI;refine gZ.tX (t':= .smap T0 K agg V (mu K l a z) none) hs bJ hv rfl (by simp) (is b) (fun k hk=>?_) ⟨rfl,⟨rfl,YD _⟩,rfl,by simp,fun k hk hn=>gq k fun e=>hn (by subst e;exact ee)⟩ ⟨b,gG,jx,l2,jw,rfl,(heap_set hh).1,g1,g2,g3,trivial⟩ trivial;have hk:k=b:=hk;subst hk;exact ee
 have Ge:(l'.filter fun p=> !bP K p.1 a).Perm (l.filter fun p=> !bP K p.1 a):=Bp.filter _;have mO:((a,z)::l'.filter fun p=> !bP K p.1 a).Perm (mu K l a z):=(Ge.cons _).trans (ma a z _).symm
 rcases nL (val:=ev ρ y) (T.und_ok _ _ hu) hK jM hh (fun e he=>by obtain⟨q,_,g,_⟩:=jO oz e he;exact⟨_,g⟩)with⟨aZ,xy⟩|⟨j,e,hj,I3,aZ⟩
 .refine fin _ aZ fun H' w' hH cI=>⟨_,_,l'++[(a,z)],rfl,stamped_push dC xy,?_,?_⟩
  .rw[Array.toList_push];exact sG jM (k9.keep hH cI) (oz.keep hH cI)
  .have e:l'.filter (fun p=> !bP K p.1 a)=l':=aac.2 fun q hq=>by
    obtain⟨e,he,I4,_⟩:=nK oz q hq
    cases hc:bP K q.1 a with
    |false=>rfl
    |true=>exact absurd ((eU I4 jM).1 hc) (xy e he)
   rw[e]at mO;exact(List.perm_append_comm (l₁:=l') (l₂:=[(a,z)])).trans mO
 .refine fin _ aZ fun H' w' hH cI=>?_
  obtain⟨l2,g1,g2⟩:=pf (f:=fun e=>{e with key:=ev ρ x,val:=ev ρ y}) jM (fun _=>rfl) (fun _=>k9.keep hH cI) (oz.keep hH cI) sH hj I3;refine⟨_,_,l2,rfl,stamped_modify dC _ _ (fun _ _=>rfl) (fun e' _ he'=>?_),by rw[Array.toList_modify];exact g1,g2.trans mO⟩
  have Gf:es[j]? =some e:=by simpa using hj
  rw[Gf]at he';cases he';exact I3.symm
theorem zV{K:Row}{α:Type}{x:K.den}:{l:List (K.den×α)}->ug K l->∀q∈l,bP K q.1 x=true->aX K l x=some q.2
 |p::l,hd,q,hq,hx=>by
  obtain⟨d1,d2⟩:=Y7.1 hd;unfold aX
  rcases YM.1 hq with rfl|hq
  .rw[if_pos hx]
  .have:¬bP K p.1 x=true:=fun g=>by
    have:=jN hx;rw[<-this,d1 q hq]at g;cases g
   rw[if_neg this];exact zV d2 q hq hx
theorem vQ{K:Row}{α:Type}{x:K.den}:{l:List (K.den×α)}->(∀q∈l,bP K q.1 x=false)->aX K l x=none
 |[],_=>rfl
 |p::l,h=>by
  unfold aX;rw[if_neg (by rw[h p (by simp)];simp)]
  exact vQ fun q hq=>h q (by simp[hq])
noncomputable def jP(T:aI P)(ob:Nat->Option (Nat×Th))(_n:Nat)(t:TypeId)(ok:Bool)(M X:ag)(k:cL->Option R):Option R:=
 match qN ob M with
 |some m=>match find T.und t with
  |some (.map kt vt)=>match find T.zer vt with
   |some (cZ,V')=>bif BI T kt m.K&&(bif m.agg then cZ else !cZ)&&V'.beq m.V&&(m.agg||YE m.V.size 1)then(match uh ob m.K X with
    |some x=>bif ok then k {dst:= .tup [(m.agg, .leaf m.V ((aX m.K m.l x).getD m.V.zero)),(false, .leaf .bool (aX m.K m.l x).isSome)]}
     else k {dst:= .val m.agg (.leaf m.V ((aX m.K m.l x).getD m.V.zero))}
    |none=>none)else none
   |none=>none
  |_=>none
 |none=>lT T ob t ok M X k
theorem vR(T:aI P){t:TypeId}{ok:Bool}{M X:ag}{m x:Operand}{k:cL->Option R}{q:R}(h:jP T ob n t ok M X k=some q)(hs:ak U H F w ob n)(hm:af H F w M (ev ρ m))(hx:af H F w X (ev ρ x)):
 ∃e,k e=some q/\bz P U H F w ρ ob n ⟨some d, .lookup t m x ok,ty,pos,aft,none⟩ e:=by
 unfold jP at h;split at h
 case h_2=>exact yb T h hs hm hx
 rename_i r nH;obtain⟨bJ,hv,iV⟩:=oE hs nH hm;obtain⟨o,s,T0,K,agg,V,l,it⟩:=r;dsimp only at h bJ hv iV;split at h
 case h_2=>cases h
 rename_i kt vt hu;split at h
 case h_2=>cases h
 rename_i cZ V' hz;obtain⟨hc,h'⟩:=ax h;clear h;obtain⟨hc,If⟩:=bE hc;obtain⟨hc,GJ⟩:=bE hc;obtain⟨rM,vm⟩:=bE hc
 have mQ:agg=cZ:=by cases agg<;>cases cZ<;>simp_all
 subst mQ;obtain rfl:=Row.eq_of_beq GJ;split at h'
 case h_2=>cases h'
 rename_i a ha;have hK:=zU T rM;have jM:=sF hs hK ha hx;obtain⟨b,es,clock,l',jw,I5,hh,dC,oz,Bp,_⟩:=iV;have sH:=mb oz dC.2.2;have OR:aX K l a=aX K l' a:=(yl Bp sH).symm
 have iz:agg=false->V'.size=1:=fun e=>by subst e;exact beq_true (by simpa using If)
 obtain⟨z,xA,xz⟩:=vI (w:=w) (H:=H) (F:=F) (T.zer_ok _ _ _ hz) iz;have zS:=T.und_ok _ _ hu
 have main:∃v,(aak t (ev ρ m) (ev ρ x) ok).run P w= .ok (if ok then .tuple #[v, .bool (aX K l a).isSome]else v) w/\au H F w agg (.leaf V' ((aX K l a).getD V'.zero)) v:=by
  rw[OR]
  rcases hK.find a _ w es.toList jM (fun e he=>by obtain⟨q,_,g,_⟩:=jO oz e he;exact⟨_,g⟩)with⟨h1,h2⟩|⟨j,e,h1,h2,h3⟩
  .have hn:aX K l' a=none:=vQ fun q hq=>by
    obtain⟨e,he,I4,_⟩:=nK oz q hq
    cases hc:bP K q.1 a with
    |false=>rfl
    |true=>exact absurd ((eU I4 jM).1 hc) (h2 e he)
   refine⟨z,?_,by rw[hn];exact xz⟩;rw[jw,hn];simp[aak,run_underlying zS,Zq hh,hK.sE _ _ _ _ jM,h1,xA,YO]
  .obtain⟨q,hq,I4,Ui⟩:=jO oz e (List.mem_of_getElem? h2);have hl:=zV sH q hq ((eU I4 jM).2 h3);refine⟨e.val,?_,by rw[hl];exact Ui⟩;rw[jw,hl];simp[aak,run_underlying zS,Zq hh,hK.sE _ _ _ _ jM,h1,YO]
 obtain⟨v,aZ,iV⟩:=main
 cases ok with
 |true=>
  refine⟨_,h',aW hs (v:= .tuple #[v, .bool (aX K l a).isSome]) (by simp[execOp,aZ,YO]) ⟨[v, .bool (aX K l a).isSome],rfl,_,_,rfl,iV,_,_,rfl,au.dy ..,rfl⟩⟩
 |false=>exact⟨_,h',aW hs (v:=v) (by simp[execOp,aZ,YO]) iV⟩
def oF(T:aI P)(ob:Nat->Option (Nat×Th))(n:Nat)(t:TypeId)(M:ag)(k:cL->Option R):Option R:=
 match qN ob M with
 |some m=>match find T.und t with
  |some (.map _ _)=>k {dst:= .ptr (n+1) [] 0,eat:=[m.o],make:=[(m.o,(n, .smap m.T m.K m.agg m.V m.l (some (n+1,m.l,none))))]}
  |_=>none
 |none=>none
theorem ym(es:Array MapEntry):leftOf es #[]=es:=by
 unfold leftOf
 exact Array.filter_eq_self.2 fun e _=>by simp
theorem BJ(T:aI P){t:TypeId}{M:ag}{m:Operand}{k:cL->Option R}{q:R}(h:oF T ob n t M k=some q)(hs:ak U H F w ob n)(hm:af H F w M (ev ρ m)):
 ∃e,k e=some q/\bz P U H F w ρ ob n ⟨some d, .range t m,ty,pos,aft,none⟩ e:=by
 unfold oF at h;split at h
 case h_2=>cases h
 rename_i r nH;obtain⟨bJ,hv,iV⟩:=oE hs nH hm;obtain⟨o,s,T0,K,agg,V,l,it⟩:=r;dsimp only at h bJ hv iV;split at h
 case h_2=>cases h
 rename_i kt vt hu;obtain⟨b,es,clock,l',jw,I5,hh,dC,oz,Bp,_⟩:=iV;have Ls:b<w.heap.size:=(Zb.1 hh).1
 have ee:bq H ob [o] b:=⟨o,by simp,s,_,_,bJ,hv,I5⟩
 obtain⟨v1,p5,bH⟩:=hs.obj _ _ _ bJ;rw[hv]at p5;obtain rfl:=YA p5
 have aZ:(execOp (ev ρ) ⟨some d, .range t m,ty,pos,aft,none⟩).run P w= .ok (.value (.pointer (some ⟨w.heap.size,0,none⟩))) (w.alloc (.mapIter (some b) clock #[] clock)):=by
  simp[execOp,jw,run_range_map w t kt vt b es clock (T.und_ok _ _ hu) hh,YO]
 refine⟨_,h,bl.val aZ ?_⟩;have hf:=hs.fresh n (YD _) (by omega);have OT:=hs.fresh (n+1) (by omega) (by omega)
 let S':Nat->Prop:=fun k=>k=b\/k=w.heap.size
 let t':Th:= .smap T0 K agg V l (some (n+1,l,none))
 let H1:aj:=((H.cW n S').aP n t').bL (n+1) (.pointer (some ⟨w.heap.size,0,none⟩))
 have hle:H.le H1:=(aj.lV hf.2).trans (aj.lP (by simpa[aj.aP,aj.cW]using OT.1))
 have Sr:H1.val (n+1)=some (.pointer (some ⟨w.heap.size,0,none⟩)):=by simp[H1,aj.bL]
 have dQ:H1.sub n=S':=by simp[H1,aj.bL,aj.aP,aj.cW]
 have OU:H1.con n=some t':=by simp[H1,aj.bL,aj.aP,aj.cW]
 have cI:Step F w F (w.alloc (.mapIter (some b) clock #[] clock)):=fun c hc=>⟨hc,by rw[heap_alloc_old _ _ (hs.lt c hc)]⟩
 refine⟨H1,F,⟨hle,jI _,fun _ h=>h,fun _ h=> .inl h,fun c hc=>by have:=hs.lt c hc;simp;omega⟩,fun m hm=>?_,⟨_,Sr,rfl⟩,⟨fun o' s' q hq=>?_,fun o1 o2 s1 s2 q1 q2 u1 u2 b8 h1 h2=>?_⟩,fun o' h=>?_⟩
 .have a1:m≠n:=by omega
  have a2:m≠n+1:=by omega
  simp[H1,aj.bL,aj.aP,aj.cW,a1,a2]
 .obtain⟨rfl,e⟩:=bh hq;obtain⟨rfl,rfl⟩:=Z3 e;refine⟨_,hle.val _ _ hv,bH.one,OU,?_,fun k hk=>?_⟩
  .rw[dQ];refine⟨b,es,clock,l',jw, .inl rfl,by rw[heap_alloc_old _ _ Ls];exact hh,dC,oz.keep hle cI,Bp,w.heap.size,clock, #[],clock, .inr rfl,fun e=>by omega,Sr,heap_alloc_new w _,dC.1,YD _,YD _,⟨l',?_,Bp⟩,fun p hp=>by cases hp⟩;rw[ym];exact oz.keep hle cI
  .rw[dQ]at hk;have hk:k=b\/k=w.heap.size:=hk
   rcases hk with rfl|rfl
   .exact⟨hs.de _ ee,by simp;omega, .inr ee⟩
   .exact⟨fun e=>by have:=hs.lt _ e;omega,by simp, .inl (YD _)⟩
 .exact absurd ((bh h1).1.trans (bh h2).1.symm) b8
 .left
  obtain⟨y,hy⟩:=Zg.1 h;rw[(bh hy).1];simp
open Classical in
noncomputable def GN{α β:Type}(p:α->Prop)(k:α->Option β):Option β:=if h:∃r,(∃x,p x)/\∀x,p x->k x=some r then some h.choose else none
theorem D4{α β:Type}{p:α->Prop}{k:α->Option β}{q:β}(h:GN p k=some q):∀x,p x->k x=some q:=by
 unfold GN at h;split at h
 .rename_i hd;obtain rfl:=YA h;exact hd.choose_spec.2
 .cases h
theorem I6{α β:Type}{p:α->Prop}{k:α->Option β}{q:β}(h0:∃x,p x)(h:∀x,p x->k x=some q):GN p k=some q:=by
 have hd:∃r,(∃x,p x)/\∀x,p x->k x=some r:=⟨q,h0,h⟩
 unfold GN;rw[dif_pos hd];obtain⟨x,hx⟩:=h0;have:=hd.choose_spec.2 x hx;rw[h x hx]at this;rw[YA this]
def uj(nn:Nat):List (Nat×(Nat×Th))->Option Nat
 |[]=>none
 |(o,(_, .smap _ _ _ _ _ (some (n',_,_))))::l=>bif YE n' nn then some o else uj nn l
 |_::l=>uj nn l
def zW:Row->Bool
 | .pair (.int _) (.int _)=>true
 |_=>false
noncomputable def iI{α:Type}(K:Row)(l:List (K.den×α))(k:K.den):List (K.den×α):=l.filter fun q=> !bP K q.1 k
noncomputable def D5(objs:List (Nat×(Nat×Th)))(n:Nat)(X:ag)(k:cL->Option R):Option R:=
 match X with
 | .ptr nn [] 0=>match uj nn objs with
   |some o=>match find objs o with
    |some (_, .smap T K agg V l (some (n',left,_)))=>bif YE n' nn&&zW K then
      (if left.isEmpty=true then k {dst:= .tup [(false, .leaf .bool false)]}
      else GN (fun p=>p∈left) fun p=>k {dst:= .tup [(false, .leaf .bool true),(true, .leaf K p.1),(agg, .leaf V p.2)],eat:=[o],make:=[(o,(n, .smap T K agg V l (some (nn,iI K left p.1,some p))))]})else none
    |_=>none
   |none=>none
 |_=>none
theorem vS{K:Row}{x:K.den}{v:Value}(hK:zW K=true)(h:fN K x=some v):au H F w true (.leaf K x) v:=by
 unfold zW at hK;split at hK
 .obtain rfl:=YA h;exact⟨[_,_],⟨[_],[_],rfl,rfl,rfl⟩,rfl,fun e=>by cases e⟩
 .cases hK
theorem vT(es:Array MapEntry)(seen:Array Nat)(b:Nat):(leftOf es (seen.push b)).toList=(leftOf es seen).toList.filter fun x=> !(x.born==b):=by
 unfold leftOf;rw[aad,aad,List.filter_filter]
 congr 1
 funext x;rw[Array.contains_push]
 cases seen.contains x.born<;>cases x.born==b<;>simp_all
theorem D6{objs:List (Nat×(Nat×Th))}{X:ag}{x:Operand}{k:cL->Option R}{q:R}(h:D5 objs n X k=some q)(hs:ak U H F w (find objs) n)(hx:af H F w X (ev ρ x)):
 ∃e,k e=some q/\bz P U H F w ρ (find objs) n ⟨some d, .next x false,ty,pos,aft,none⟩ e:=by
 unfold D5 at h;split at h
 case h_2=>cases h
 rename_i nn;split at h
 case h_2=>cases h
 rename_i o _;split at h
 case h_2=>cases h
 rename_i s T K agg V l n' left cur bJ;obtain⟨hc,h'⟩:=ax h;clear h;obtain⟨rM,hK⟩:=bE hc;obtain rfl:=beq_true rM;obtain⟨v,hv,bH⟩:=hs.obj _ _ _ bJ;obtain⟨b,es,clock,l',jw,I5,hh,dC,oz,Bp,r,since,seen,last,Lt,OV,NQ,hr,hold,eD,Su,⟨l2,NR,Gd⟩,_⟩:=bH.ok;obtain⟨b0,vg,xx⟩:=hx;rw[NQ]at vg;cases vg;have OF:r<w.heap.size:=(Zb.1 hr).1
 rcases run_next_at (P:=P) w ty r b since last seen es clock hr hh hold eD with⟨h0,aZ⟩|⟨e,he,w1,NS,aZ⟩
 .have hle:l2=[]:=by
   have:(leftOf es seen).toList=[]:=by rw[Array.toList_eq_nil_iff];exact Array.eq_empty_of_size_eq_zero h0
   rw[this]at NR;exact NR
  subst hle;obtain rfl:left=[]:=Gd.nil_eq.symm;rw[if_pos (show([]:List (K.den×V.den)).isEmpty=true from rfl)]at h';exact⟨_,h',aW hs (v:= .tuple #[.bool false]) (by simp[execOp,xx,aZ,YO]) ⟨[.bool false],rfl,_,_,rfl,au.dy ..,rfl⟩⟩
 .have Lu:((leftOf es seen).toList.map (·.born)).Nodup:=by
   unfold leftOf;rw[aad];exact(dC.2.1.sublist ((List.filter_sublist).map _))
  have Lv:((leftOf es seen).toList.map (·.key)).Nodup:=by
   unfold leftOf;rw[aad];exact(dC.2.2.sublist ((List.filter_sublist).map _))
  obtain⟨p,l3,g1,g2,g3,g4⟩:=sD NR Lu he;have kW:p∈left:=Gd.mem_iff.1 (g4.mem_iff.2 (by simp))
  have b8:¬left.isEmpty=true:=by
   cases left with
   |nil=>cases kW
   |cons _ _=>simp
  rw[if_neg b8]at h';refine⟨_,D4 h' p kW,?_⟩
  have OW:e∈es.toList:=by
   have:e∈(leftOf es seen).toList:=he;unfold leftOf at this;rw[aad]at this;exact(Za.1 this).1
  have GO:w1.heap=w.heap:=by rcases NS with rfl|rfl<;>rfl
  have gq:∀k,k≠r->(ZZ w1 r (.mapIter (some b) since (seen.push e.born) clock)).heap[k]? =w.heap[k]? :=fun k hk=>by
   rw[<-GO];exact(heap_set (w:=w1) (by rw[GO];exact hr)).2 k hk
  have Lx:(ZZ w1 r (.mapIter (some b) since (seen.push e.born) clock)).heap[r]? =some (.mapIter (some b) since (seen.push e.born) clock):=(heap_set (w:=w1) (by rw[GO];exact hr)).1
  have ee:∀k,H.sub s k->bq H (find objs) [o] k:=fun k hk=>⟨o,by simp,s,_,_,bJ,hv,hk⟩
  have hf:=hs.fresh n (YD _) (by omega)
  let t':Th:= .smap T K agg V l (some (n',iI K left p.1,some p))
  let S':Nat->Prop:=fun k=>k=b\/k=r
  have hle:H.le ((H.cW n S').aP n t'):=aj.lV hf.2
  have cI:Step F w F (ZZ w1 r (.mapIter (some b) since (seen.push e.born) clock)):=fun c hc=>⟨hc,gq c fun g=>by subst g;exact hs.de _ (ee _ Lt) hc⟩
  refine bl.val (v:= .tuple #[.bool true,e.key,e.val]) (w':=ZZ w1 r (.mapIter (some b) since (seen.push e.born) clock)) (by simp[execOp,xx,aZ,YO]) ?_
  have aY:Ext (bq H (find objs) [o]) w (ZZ w1 r (.mapIter (some b) since (seen.push e.born) clock)):=by
   rcases NS with rfl|rfl
   .exact⟨rfl,⟨rfl,YD _⟩,rfl,by simp[ZZ],fun k hk hn=>gq k fun g=>hn (by subst g;exact ee _ Lt)⟩
   .exact⟨rfl,⟨rfl,Nat.le_succ _⟩,rfl,by simp[ZZ,GO],fun k hk hn=>gq k fun g=>hn (by subst g;exact ee _ Lt)⟩
  have sH:ug K left:=(mb NR Lv).perm Gd.symm;refine gZ.tX (t':=t') hs bJ hv rfl (by simp) S' (fun k hk=>?_) aY ?_ ?_
  .have hk:k=b\/k=r:=hk
   rcases hk with rfl|rfl
   .exact ee _ I5
   .exact ee _ Lt
  .refine⟨b,es,clock,l',jw, .inl rfl,(gq b OV.symm).trans hh,dC,oz.keep hle cI,Bp,r,since,seen.push e.born,clock, .inr rfl,OV,hle.val _ _ NQ,Lx,hold,Su,Su,⟨l3,?_,?_⟩,fun p' xC=>?_⟩
   .rw[vT];exact g3.keep hle cI
   .have Ge:left.Perm (p::l3):=Gd.symm.trans g4;have Uj:ug K (p::l3):=sH.perm Ge.symm;refine List.Perm.trans ?_ (Ge.filter _).symm
    rw[List.filter_cons_of_neg (by
     have:bP K p.1 p.1=true:=(eU g1 g1).2 rfl
     simp[this])]
    rw[aac.2 fun q hq=>by rw[mU ((Y7.1 Uj).1 q hq)];rfl]
   .obtain rfl:=YA xC;exact⟨rfl,e,OW,⟨seen,rfl⟩,g1,g2.keep hle cI⟩
  .exact⟨[.bool true,e.key,e.val],rfl,_,_,rfl,au.dy ..,_,_,rfl,vS hK g1,_,_,rfl,g2.keep hle cI,rfl⟩
def yn(objs:List (Nat×(Nat×Th)))(X:ag):Option ag:=
 match X with
 | .ptr nn [] 0=>match uj nn objs with
   |some o=>match find objs o with
    |some (_, .smap _ K agg V _ (some (n',_,some p)))=>bif YE n' nn&&zW K then some (.tup [(true, .leaf K p.1),(agg, .leaf V p.2)])else none
    |_=>none
   |none=>none
 |_=>none
theorem BK{objs:List (Nat×(Nat×Th))}{X D:ag}{x:Operand}(h:yn objs X=some D)(hs:ak U H F w (find objs) n)(hx:af H F w X (ev ρ x)):
 bz P U H F w ρ (find objs) n ⟨some d, .entry x,ty,pos,aft,none⟩ {dst:=D}:=by
 unfold yn at h;split at h
 case h_2=>cases h
 rename_i nn;split at h
 case h_2=>cases h
 rename_i o _;split at h
 case h_2=>cases h
 rename_i s T K agg V l n' left p bJ;obtain⟨hc,h'⟩:=ax h;obtain⟨rM,hK⟩:=bE hc;obtain rfl:=beq_true rM;obtain rfl:=YA h';obtain⟨v,hv,bH⟩:=hs.obj _ _ _ bJ;obtain⟨b,es,clock,l',jw,I5,hh,dC,oz,Bp,r,since,seen,last,Lt,OV,NQ,hr,hold,eD,_,_,OX⟩:=bH.ok;obtain⟨rfl,e,he,⟨s0,rfl⟩,g1,g2⟩:=OX p rfl;obtain⟨b0,vg,xx⟩:=hx;rw[NQ]at vg;cases vg;have aZ:=run_entry_at (P:=P) w r b since s0 es last e hr hh he dC.2.1;exact aW hs (v:= .tuple #[e.key,e.val]) (by simp[execOp,xx,aZ,YO]) ⟨[e.key,e.val],rfl,_,_,rfl,vS hK g1,_,_,rfl,g2,rfl⟩
end
end Go.Proofs.YtbladfbbhijpmaaGreat
end
section
open _root_.List renaming length_append->YV
open _root_.Nat renaming beq->YE,lt_of_lt_of_le->Y8
open _root_.Option.some renaming inj->YA
open _root_.Go.Value renaming ownBlock->Y9
namespace Go.Proofs.YtbladfbbhijpmaaGreat
open Go Go.RowKit Go.MapKept
section
variable {P:Program} {ρ:Nat->Value} {w w':World} {H H':aj} {F F':Nat->Prop} {U:Nat->Prop} {ob:Nat->Option (Nat×Th)} {n:Nat} {R:Type}
variable {op:Op} {ty:TypeId} {pos:String} {aft:Array Edge} {d:Nat}
noncomputable def Ih(ob:Nat->Option (Nat×Th))(n o:Nat):Option cL:=D2 ob n o
theorem yo(hs:ak U H F w ob n){o:Nat}{e:cL}(h:Ih ob n o=some e):ie H F w ob n e undef w:=BD hs h
theorem DR.oG:(d:DR)->d.low.dc=d.row.dc
 | .leaf _=>rfl
 | .sl _ _=>rfl
 | .pair a b=>by show a.low.dc++b.low.dc=a.row.dc++b.row.dc;rw[a.oG,b.oG]
theorem D7{α β:Type}{l m out:List α}{lx ly:List β}(h:bZ l m=some out)(h1:lx.length=l.length)(h2:ly.length=m.length):bZ lx ly=some (lx++ly)/\out=l++m:=by
 unfold bZ at h⊢;split at h
 case isFalse=>cases h
 rename_i hle;exact⟨by rw[if_pos (by omega)],(YA h).symm⟩
theorem pg(T:aI P){t e:TypeId}{r:Row}(hu:find T.und t=some (.slice e))(hr:find T.row e=some r){dr:DR}(gW:dr.row=r){x y:Operand}{l m out:List dr.row.den}{Sx:Nat->Prop}{eat:List Nat}{o2 s2:Nat}
 (hs:ak U H F w ob n)(hx:Ba F w e dr.low (fun _=>fO F w dr) (ev ρ x) l Sx)(OY:∀k,Sx k->¬F k)(Sv:∀k,Sx k->bq H ob eat k)(xK:∀k,Sx k->k<w.heap.size)
 (pM:ob o2=some (s2, .deep e dr m none))(jw:H.val o2=some (ev ρ y))(Uk:o2∈eat)(GP:∀k,Sx k->¬H.sub s2 k)(ha:bZ l m=some out):
 bz P U H F w ρ ob n ⟨some d, .call {callee:= .builtin .append,args:= #[x,y],argTypes:= #[t,t]},ty,pos,aft,none⟩ {dst:= .val false (.own n),eat:=eat,make:=[(n,(n, .deep e dr out none))]}:=by
 obtain⟨lx,NT,DS,KZ,Ul,C0⟩:=hx;obtain⟨ly,Sy,Um,NF,Un,I7⟩:=hs.low pM jw;obtain⟨v2,A5,GQ⟩:=hs.obj _ _ _ pM;rw[jw]at A5;obtain rfl:=YA A5;obtain⟨Uo,rfl⟩:=D7 ha KZ NF;obtain⟨ti,z,h1,h2,h3,h4,h5⟩:=T.row_ok _ _ hr;have ht:=T.und_ok _ _ hu;subst gW;obtain⟨v',w',aZ,aY,ed,hm⟩:=qj ty ht h1 h2 (h3.trans dr.oG.symm) (h4.trans dr.size.symm) h5 (base:=0) (l:=lx) ⟨fun k hk=>OY k (C0.aS k hk),DS⟩ Um.reads Uo hs.lt (Nat.zero_le _)
 have dC:Step F w F w':=Step.ext aY hs.lt fun k hk=>OY k (C0.aS k hk)
 have Ly:∀k,H.sub s2 k->bq H ob eat k:=fun k hk=>⟨o2,Uk,s2,_,_,pM,jw,hk⟩
 have Lz:∀i,i<l.length->∀k,NT i k->w'.heap[k]? =w.heap[k]? :=fun i hi k hk=>aY.block k (xK k (C0.part hi k hk)) (C0.out i k hi hk)
 have LA:∀i,i<m.length->∀k,Sy i k->w'.heap[k]? =w.heap[k]? :=fun i hi k hk=>aY.block k (GQ.lt k (I7.part hi k hk)) fun D8=>GP k (C0.aS k D8) (I7.part hi k hk)
 have hlen:(l++m).length=l.length+m.length:=YV
 have LB:∀k,aS v' k->(Sx k/\aS (ev ρ x) k)\/k=w.heap.size:=by
  intro k hk
  rcases hm with g|g
  .rw[g]at hk;exact .inl ⟨C0.aS k hk,hk⟩
  .rw[g]at hk;exact .inr hk.symm
 let SS:Nat->Nat->Prop:=fun i=>if i<l.length then NT i else Sy (i-l.length)
 have KD:∀i k,i<l.length->SS i k->NT i k:=fun i k hi hk=>by simpa only[SS,if_pos hi]using hk
 have KE:∀i k,¬i<l.length->SS i k->Sy (i-l.length) k:=fun i k hi hk=>by simpa only[SS,if_neg hi]using hk
 have Sw:∀i k,i<(l++m).length->SS i k->Sx k\/H.sub s2 k:=by
  intro i k hi hk;by_cases av:i<l.length
  .exact .inl (C0.part av k (KD i k av hk))
  .exact .inr (I7.part (by omega) k (KE i k av hk))
 have ir:v'.oneCell'=true:=gJ.one (T:=e) (r:=dr.low) ed.2;refine bl.val (v:=v') (w':=w') (by simp[execOp,resolve,invoke,builtin,aZ]) (gZ.GM (t:= .deep e dr (l++m) none) (S:=mR (aS v') SS (l++m).length) hs rfl ir ⟨aY.os,aY.tape,aY.output,aY.size,fun k hk hn=>aY.block k hk fun K0=>hn (Sv k (C0.aS k K0))⟩ ?_ (fun k hk=>?_) (jf (o:=n) (v:=v') (by simp[aj.bL]) ir))
 .refine⟨lx++ly,SS,ed.2,by simp[KZ,NF],fun i a b=>?_,⟨fun k=>Iff.rfl,fun i j k hi hj b8 hk ig=>?_,fun i k hi hk K0=>?_⟩⟩
  .show fO F w' dr (lx++ly)[i] (l++m)[i] (SS i)
   by_cases av:i<l.length
   .have e1:(lx++ly)[i]=lx[i]'(by omega):=List.getElem_append_left (by omega);have e2:(l++m)[i]=l[i]:=List.getElem_append_left av
    have e3:SS i=NT i:=by simp only[SS,if_pos av]
    rw[e1,e2,e3];exact fO.keep dC (Ul i (by omega) av) (Lz i av)
   .have e1:(lx++ly)[i]=ly[i-l.length]'(by simp at a;omega):=by rw[List.getElem_append_right (by omega)];simp only[KZ]
    have e2:(l++m)[i]=m[i-l.length]'(by omega):=List.getElem_append_right (by omega)
    have e3:SS i=Sy (i-l.length):=by simp only[SS,if_neg av]
    rw[e1,e2,e3];exact fO.keep dC (Un (i-l.length) _ (by omega)) (LA _ (by omega))
  .by_cases h1:i<l.length<;>by_cases h2:j<l.length
   .exact C0.two i j k h1 h2 b8 (KD i k h1 hk) (KD j k h2 ig)
   .exact GP k (C0.part h1 k (KD i k h1 hk)) (I7.part (by omega) k (KE j k h2 ig))
   .exact GP k (C0.part h2 k (KD j k h2 ig)) (I7.part (by omega) k (KE i k h1 hk))
   .exact I7.two (i-l.length) (j-l.length) k (by omega) (by omega) (by omega) (KE i k h1 hk) (KE j k h2 ig)
  .rcases LB k K0 with⟨g1,g2⟩|g
   .by_cases h1:i<l.length
    .exact C0.out i k h1 (KD i k h1 hk) g2
    .exact GP k g1 (I7.part (by omega) k (KE i k h1 hk))
   .rcases Sw i k hi hk with h1|h1
    .have:=xK k h1;omega
    .have:=GQ.lt k h1;omega
 .have hk:mR (aS v') SS (l++m).length k:=hk
  have fin:Sx k\/H.sub s2 k->¬F k/\k<w'.heap.size/\(w.heap.size<=k\/bq H ob eat k):=by
   rintro(h1|h1)
   .exact⟨OY k h1,Y8 (xK k h1) aY.size, .inr (Sv k h1)⟩
   .exact⟨GQ.no k h1,Y8 (GQ.lt k h1) aY.size, .inr (Ly k h1)⟩
  rcases hk with hk|⟨i,hi,hk⟩
  .rcases LB k hk with⟨g,_⟩|g
   .exact fin (.inl g)
   .exact⟨fun e=>by have:=hs.lt k e;omega,ed.lt k hk, .inl (by omega)⟩
  .exact fin (Sw i k hi hk)
def nM(T:aI P)(ob:Nat->Option (Nat×Th))(n:Nat)(t:TypeId)(X Y:ag)(k:cL->Option R):Option R:=
 match find T.und t with
 |some (.slice e)=>match find T.row e with
  |some r=>match Y with
   | .val false (.own o2)=>match ob o2 with
     |some (_, .deep T2 d2 m none)=>bif YE T2 e&&d2.row.beq r then(match X with
      | .val false .nil=>(bZ ([]:List d2.row.den) m).bind fun l=>k {dst:= .val false (.own n),eat:=[o2],make:=[(n,(n, .deep e d2 l none))]}
      | .val false (.own o1)=>match ob o1 with
        |some (_, .deep T1 d1 l0 none)=>bif YE o1 o2 then none else bif YE T1 e then(if h:d1.beq d2=true then(bZ (DR.eq_of_beq h▸l0) m).bind fun l=>k {dst:= .val false (.own n),eat:=[o1,o2],make:=[(n,(n, .deep e d2 l none))]}else none)else none
        |_=>none
      |_=>none)else none
     |_=>none
   |_=>none
  |none=>none
 |_=>none
theorem vU(T:aI P){t:TypeId}{X Y:ag}{x y:Operand}{k:cL->Option R}{q:R}(h:nM T ob n t X Y k=some q)(hs:ak U H F w ob n)(hx:af H F w X (ev ρ x))(hy:af H F w Y (ev ρ y)):
 ∃e,k e=some q/\bz P U H F w ρ ob n ⟨some d, .call {callee:= .builtin .append,args:= #[x,y],argTypes:= #[t,t]},ty,pos,aft,none⟩ e:=by
 unfold nM at h;split at h
 case h_2=>cases h
 rename_i e hu;split at h
 case h_2=>cases h
 rename_i r hr;split at h
 case h_2=>cases h
 rename_i o2;split at h
 case h_2=>cases h
 rename_i s2 T2 d2 m pM;obtain⟨hc,h'⟩:=ax h;clear h;obtain⟨rM,vm⟩:=bE hc;obtain rfl:=beq_true rM;have gW:=Row.eq_of_beq vm;obtain⟨cs,⟨u,GB,_,e2⟩,_,h3⟩:=hy;rw[h3 rfl]at e2
 obtain rfl:ev ρ y=u:=by simpa using e2
 split at h'
 .obtain⟨l,hl,hk⟩:=bind_some h';refine⟨_,hk,pg (Sx:=fun _=>False) T hu hr gW hs ?_ (fun _ h=>h.elim) (fun _ h=>h.elim) (fun _ h=>h.elim) pM GB (by simp) (fun _ h=>h.elim) hl⟩;obtain⟨cs,h1,_,h4⟩:=hx;rw[h4 rfl]at h1;have qp:[ev ρ x]=[Value.slice none 0 0]:=h1;rw[show ev ρ x= .slice none 0 0 by simpa using qp];exact⟨[],fun _ _=>False,gJ.nil F w T2 d2.low,rfl,fun i h=>absurd h (by simp),⟨fun k=>by simp[aS,Y9],fun _ _ _ h=>absurd h (by simp),fun _ _ h=>absurd h (by simp)⟩⟩
 .rename_i o1;split at h'
  case h_2=>cases h'
  rename_i s1 T1 d1 l0 ua
  cases b8:YE o1 o2 with
  |true=>rw[b8]at h';cases h'
  |false=>
   rw[b8,cond_false]at h'
   have b8:o1≠o2:=fun e=>by rw[e]at b8;simp at b8
   obtain⟨hT,h⟩:=ax h';clear h';obtain rfl:=beq_true hT;split at h
   case isFalse=>cases h
   rename_i hb;obtain rfl:=DR.eq_of_beq hb;obtain⟨l,hl,hk⟩:=bind_some h;obtain⟨cs,⟨v,p5,_,e1⟩,_,h4⟩:=hx;rw[h4 rfl]at e1
   obtain rfl:ev ρ x=v:=by simpa using e1
   obtain⟨v',cQ,kV⟩:=hs.obj _ _ _ ua;rw[p5]at cQ;obtain rfl:=YA cQ;exact⟨_,hk,pg (Sx:=H.sub s1) T hu hr gW hs kV.ok kV.no (fun k hk=>⟨o1,by simp,s1,_,_,ua,p5,hk⟩) kV.lt pM GB (by simp) (fun k hk=>hs.apart _ _ _ _ _ _ _ _ b8 ua pM p5 GB k hk) hl⟩
 .cases h'
def D9(ob:Nat->Option (Nat×Th)):ag->Bool
 | .val false (.own o)=>match ob o with
   |some (_, .deep ..)=>true
   |_=>false
 |_=>false
def jQ(T:aI P)(ob:Nat->Option (Nat×Th))(n:Nat)(t:TypeId)(X Y:ag)(k:cL->Option R):Option R:=
 bif D9 ob Y then nM T ob n t X Y k else lR T ob n t X Y k
theorem vV(T:aI P){t:TypeId}{X Y:ag}{x y:Operand}{k:cL->Option R}{q:R}(h:jQ T ob n t X Y k=some q)(hs:ak U H F w ob n)(hx:af H F w X (ev ρ x))(hy:af H F w Y (ev ρ y)):
 ∃e,k e=some q/\bz P U H F w ρ ob n ⟨some d, .call {callee:= .builtin .append,args:= #[x,y],argTypes:= #[t,t]},ty,pos,aft,none⟩ e:=by
 unfold jQ at h
 cases hb:D9 ob Y with
 |true=>rw[hb,cond_true]at h;exact vU T h hs hx hy
 |false=>rw[hb,cond_false]at h;exact xW T h hs hx hy
end
end Go.Proofs.YtbladfbbhijpmaaGreat
end
section
open _root_.List renaming append_assoc->Y2,length_cons->YT,mem_cons_of_mem->Zc,mem_cons_self->Zp
open _root_.Nat renaming beq->YE,blt->Zl,eq_of_beq_eq_true->Zo,le_refl->YD
open _root_.Option renaming none_or->ZW
open _root_.Option.some renaming inj->YA,injEq->YH
open _root_.Prod.mk renaming injEq->Zx
open _root_.Go.Value renaming ownBlock->Y9
namespace Go.Proofs.YtbladfbbhijpmaaGreat
open Go Go.RowKit
def dz(objs:List (Nat×(Nat×Th))):List Nat->Option (List (Nat×(Nat×Th)))
 |[]=>some objs
 |o::os=>match find objs o with
  |some (s, .own T r l)=>dz ((o,(s, .oj T r l))::del [o] objs) os
  |some (s, .map T K agg V l)=>dz ((o,(s, .fmap T K agg V l))::del [o] objs) os
  |some (s, .deep T d l none)=>dz ((o,(s, .fdeep T d l))::del [o] objs) os
  |some (_, .oj ..)=>dz objs os
  |some (_, .fmap ..)=>dz objs os
  |some (_, .fdeep ..)=>dz objs os
  |_=>none
def cR:Th->Bool
 | .oj .. =>true
 | .fmap .. =>true
 | .fdeep .. =>true
 |_=>false
structure LC(t t':Th):Prop where
 froz:cR t'=true
 base:t'.base=t.base
 fp:∀S v k,¬fp S v t' k
 ok:∀{H:aj}{F:Nat->Prop}{w:World}{S:Nat->Prop}{v:Value},(∀k,Go.Proofs.YtbladfbbhijpmaaGreat.fp S v t k->¬F k)->eF H F w S v t->eF H (fun b=>F b\/Go.Proofs.YtbladfbbhijpmaaGreat.fp S v t b) w S v t'
structure bA(H:aj)(F:Nat->Prop)(w:World)(H':aj)(F':Nat->Prop)(w':World):Prop where
 dU:H.le H'
 step:Step F w F' w'
theorem bA.refl(H:aj)(F:Nat->Prop)(w:World):bA H F w H F w:=⟨aj.le.refl H,Step.refl F w⟩
theorem bA.trans{H H' pJ:aj}{F F' yp:Nat->Prop}{w w' p3:World}(h:bA H F w H' F' w')(k:bA H' F' w' pJ yp p3):bA H F w pJ yp p3:=⟨h.dU.trans k.dU,h.step.trans k.step⟩
structure Ea(G:Nat->Prop)(w0:World)(F0:Nat->Prop)(w:World)(F:Nat->Prop):Prop where
 ext:Ext G w0 w
 le:∀b,F0 b->F b
 new:∀b,F b->F0 b\/w0.heap.size<=b\/G b
section
variable {U:Nat->Prop} {H:aj} {F:Nat->Prop} {w:World} {n:Nat}
theorem GR(T:TypeId)(r:Row)(l:List r.den):LC (.own T r l) (.oj T r l) where
 froz:=rfl
 base:=rfl
 fp _ _ _ h:=h
 ok hn h:=fa.freeze (base:=0) (T:=T) (l:=l) ⟨hn,h⟩
theorem GS(T:TypeId)(K:Row)(agg:Bool)(V:Row)(l:List (K.den×V.den)):LC (.map T K agg V l) (.fmap T K agg V l) where
 froz:=rfl
 base:=rfl
 fp _ _ _ h:=h
 ok {H F w S v} _ h:=by
  obtain⟨b,es,clock,h1,h2,h3,h4⟩:=h;obtain⟨g1,g2⟩:=zQ h4;refine⟨v,rfl, .inr ⟨b,es,clock,h1, .inr h1,h2,h3,by simpa using g1,fun i hi=>?_⟩⟩;obtain⟨e,cs,q1,q2,q3,q4,q5⟩:=g2 i hi;exact⟨e,cs,by simpa using q1,q2,q3.step (Step.freeze F w _),q4,q5⟩
theorem gJ.gW{F:Nat->Prop}{w:World}{T:TypeId}{r:Row}{v:Value}{l:List r.den}(h:gJ F w T r v l):bF F w .gW [v] v:=by
 obtain⟨xs,⟨_,h⟩,_⟩:=h
 rcases h with⟨rfl,_⟩|⟨gg,o0,cap,cur,rfl,_⟩<;>exact⟨rfl,_,_,_,rfl⟩
theorem Eb(T:TypeId)(d:DR)(l:List d.row.den):LC (.deep T d l none) (.fdeep T d l) where
 froz:=rfl
 base:=rfl
 fp _ _ _ h:=h
 ok {H F w S v} hn h:=by
  have h':fO F w (.sl T d) v l S:=h;obtain⟨lh,Ss,h1,_⟩:=h;exact fO.freeze h' hn h1.gW
theorem GU{objs:List (Nat×(Nat×Th))}{o s:Nat}{t0 t1:Th}(hf:LC t0 t1)(hs:ak U H F w (find objs) n)(ho:find objs o=some (s,t0)):
 ∃F',ak U H F' w (find ((o,(s,t1))::del [o] objs)) n/\(∀b,F b->F' b)/\(∀b,F' b->F b\/∃v,H.val o=some v/\fp (H.sub s) v t0 b):=by
 obtain⟨v,hv,bH⟩:=hs.obj _ _ _ ho;refine⟨fun b=>F b\/fp (H.sub s) v t0 b,?_,fun _ h=> .inl h,fun b hb=>hb.imp id fun hm=>⟨v,hv,hm⟩⟩
 have part:∀o' s' t',find ((o,(s,t1))::del [o] objs) o'=some (s',t')->(o'=o/\s'=s/\t'=t1)\/(o'≠o/\find objs o'=some (s',t')):=by
  intro o' s' t' h;rw[aw]at h;split at h
  .rename_i e;simp only[YH,Zx]at h;exact .inl ⟨e.symm,h.1.symm,h.2.symm⟩
  .rename_i e;exact .inr ⟨fun e'=>e e'.symm,(eH.1 h).2⟩
 have fz:Step F w (fun b=>F b\/fp (H.sub s) v t0 b) w:=Step.freeze F w _;refine⟨fun o' s' t' h=>?_,fun o1 o2 s1 s2 Up t2 v1 v2 b8 h1 h2 e1 e2 k hk ig=>?_,hs.fresh,fun b hb=>hb.elim (hs.lt b) (bH.lt b),hs.new,hs.gl.step fz⟩
 .rcases part o' s' t' h with⟨rfl,rfl,rfl⟩|⟨b8,h'⟩
  .exact⟨v,hv,bH.one,by rw[hf.base];exact bH.con,hf.ok bH.no bH.ok,fun k hk=>(hf.fp _ _ _ hk).elim,fun k hk=>(hf.fp _ _ _ hk).elim,fun k hk=>(hf.fp _ _ _ hk).elim⟩
  .obtain⟨v',cQ,vW⟩:=hs.obj _ _ _ h';refine⟨v',cQ,vW.one,vW.con,vW.ok.heap (aj.le.refl H) fz fun _ _=>rfl,fun k hk hF=>?_,vW.lt,vW.use⟩
   rcases hF with hF|hF
   .exact vW.no k hk hF
   .exact hs.apart _ _ _ _ _ _ _ _ b8 h' ho cQ hv k hk hF
 .rcases part o1 s1 Up h1 with⟨rfl,rfl,rfl⟩|⟨Uq,qp⟩
  .exact hf.fp _ _ _ hk
  .rcases part o2 s2 t2 h2 with⟨rfl,rfl,rfl⟩|⟨Ur,rJ⟩
   .exact hf.fp _ _ _ ig
   .exact hs.apart _ _ _ _ _ _ _ _ b8 qp rJ e1 e2 k hk ig
theorem jR:{os:List Nat}->{F:Nat->Prop}->{objs jg:List (Nat×(Nat×Th))}->dz objs os=some jg->ak U H F w (find objs) n->
 ∃F',ak U H F' w (find jg) n/\(∀b,F b->F' b)/\(∀b,F' b->F b\/bq H (find objs) os b)
 |[],F,objs,jg,h,hs=>by obtain rfl:=YA h;exact⟨F,hs,fun _ h=>h,fun _ h=> .inl h⟩
 |o::os,F,objs,jg,h,hs=>by
  have main:∀s t t',LC t t'->find objs o=some (s,t)->dz ((o,(s,t'))::del [o] objs) os=some jg->
   ∃F',ak U H F' w (find jg) n/\(∀b,F b->F' b)/\(∀b,F' b->F b\/bq H (find objs) (o::os) b):=by
   intro s t t' hf ho h;obtain⟨F1,a1,a2,a3⟩:=GU hf hs ho;obtain⟨F2,b1,b2,b3⟩:=jR h a1;refine⟨F2,b1,fun b hb=>b2 b (a2 b hb),fun b hb=>?_⟩
   rcases b3 b hb with h1|⟨o',gm,s',t',v,h1,h2,h3⟩
   .rcases a3 b h1 with h2|⟨v,hv,hm⟩
    .exact .inl h2
    .exact .inr ⟨o,by simp,s,_,v,ho,hv,hm⟩
   .rw[aw]at h1;split at h1
    .simp only[YH,Zx]at h1;rw[<-h1.2]at h3;exact(hf.fp _ _ _ h3).elim
    .exact .inr ⟨o',by simp[gm],s',t',v,(eH.1 h1).2,h2,h3⟩
  have same:dz objs os=some jg->∃F',ak U H F' w (find jg) n/\(∀b,F b->F' b)/\(∀b,F' b->F b\/bq H (find objs) (o::os) b):=by
   intro h;obtain⟨F2,b1,b2,b3⟩:=jR h hs;exact⟨F2,b1,b2,fun b hb=>(b3 b hb).imp id fun⟨o',gm,rest⟩=>⟨o',by simp[gm],rest⟩⟩
  unfold dz at h;split at h
  .rename_i ho;exact main _ _ _ (GR ..) ho h
  .rename_i ho;exact main _ _ _ (GS ..) ho h
  .rename_i ho;exact main _ _ _ (Eb ..) ho h
  .exact same h
  .exact same h
  .exact same h
  .cases h
end
theorem eo{S:Nat->Prop}{v:Value}{t:Th}{k:Nat}(h:cR t=true)(hk:fp S v t k):False:=by
 cases t<;>first|(exact hk)|(cases h)
theorem fH:{os:List Nat}->{objs jg:List (Nat×(Nat×Th))}->dz objs os=some jg->∀o s t,find jg o=some (s,t)->
 find objs o=some (s,t)\/cR t=true
 |[],objs,jg,h,o,s,t,ho=>by obtain rfl:=YA h;exact .inl ho
 |o0::os,objs,jg,h,o,s,t,ho=>by
  have main:∀s0 t1,cR t1=true->dz ((o0,(s0,t1))::del [o0] objs) os=some jg->find objs o=some (s,t)\/cR t=true:=by
   intro s0 t1 hf h
   rcases fH h o s t ho with h1|g
   .rw[aw]at h1;split at h1
    .simp only[YH,Zx]at h1;obtain⟨rfl,rfl⟩:=h1;exact .inr hf
    .exact .inl (eH.1 h1).2
   .exact .inr g
  unfold dz at h;split at h
  .exact main _ _ rfl h
  .exact main _ _ rfl h
  .exact main _ _ rfl h
  .exact fH h o s t ho
  .exact fH h o s t ho
  .exact fH h o s t ho
  .cases h
inductive Sh where
 |leaf (r:Row)
 |own (j:Nat)
 |nil
 |pair (a b:Sh)
 |junk (n:Nat)
inductive SS where
 |val (agg:Bool) (t:Sh)
 |ptr (j:Nat) (p:List Bool) (off:Nat)
 |at (r:Row)
 |undef
 |fn (f:FuncId) (js:List (Nat×List Bool×Nat))
 |ifc (T:TypeId) (s:SS)
inductive OS where
 |box (T:TypeId) (t:Sh)
 |own (T:TypeId) (r:Row)
 |map (T:TypeId) (K:Row) (agg:Bool) (V:Row)
 |deep (T:TypeId) (d:DR)
 |smap (T:TypeId) (K:Row) (agg:Bool) (V:Row) (it:Option Nat)
structure JS where
 ah:List (Nat×SS)
 objs:List (Nat×OS):=[]
 drop:List Nat:=[]
 nxt:Nat
def Sh.rows:Sh->List Row
 | .leaf r=>[r]
 | .own _=>[]
 | .nil=>[]
 | .pair a b=>a.rows++b.rows
 | .junk _=>[]
def SS.rows:SS->List Row
 | .val _ t=>t.rows
 | .ptr .. =>[]
 | .at r=>[r]
 | .undef=>[]
 | .fn .. =>[]
 | .ifc _ s=>s.rows
def OS.rows:OS->List Row
 | .box _ t=>t.rows
 | .own _ r=>[.slice r]
 | .map _ K _ V=>[.slice (.pair K V)]
 | .deep _ d=>[.slice d.row]
 | .smap _ K _ V none=>[.slice (.pair K V)]
 | .smap _ K _ V (some _)=>[.slice (.pair K V), .slice (.pair K V)]
def vX:List (Nat×SS)->List Row
 |[]=>[]
 |p::l=>p.2.rows++vX l
def zX:List (Nat×OS)->List Row
 |[]=>[]
 |p::l=>p.2.rows++zX l
def JS.rows(J:JS):List Row:=vX J.ah++zX J.objs
abbrev fQ:=(r:Row)×r.den
@[reducible] def cx:List Row->Type
  |[]=>Unit
  |[r]=>r.den
  |r::s::rs=>r.den×cx (s::rs)
def ct:(rs:List Row)->cx rs->List fQ
 |[],_=>[]
 |[r],x=>[⟨r,x⟩]
 |r::s::rs,x=>⟨r,x.1⟩::ct (s::rs) x.2
def vY:(rs:List Row)->List fQ->Option (cx rs)
 |[],[]=>some ()
 |[r],[⟨s,x⟩]=>if h:s.beq r=true then some (fj (Row.eq_of_beq h) x)else none
 |r::r'::rs,⟨s,x⟩::vs=>if h:s.beq r=true then(match vY (r'::rs) vs with
  |some y=>some (fj (Row.eq_of_beq h) x,y)
  |none=>none)else none
 |_,_=>none
theorem sI{r s:Row}(h:s=r)(x:s.den):(⟨r,fj h x⟩:fQ)=⟨s,x⟩:=by subst h;rfl
theorem ph:{rs:List Row}->{vs:List fQ}->{x:cx rs}->vY rs vs=some x->ct rs x=vs
 |[],[],x,_=>rfl
 |[],_::_,_,h=>by cases h
 |[r],[],_,h=>by cases h
 |[r],[⟨s,x⟩],y,h=>by
  unfold vY at h;split at h
  .rename_i hb;obtain rfl:=YA h
   show[(⟨r,_⟩:fQ)]=_
   rw[sI]
  .cases h
 |[r],_::_::_,_,h=>by cases h
 |r::r'::rs,[],_,h=>by cases h
 |r::r'::rs,⟨s,x⟩::vs,y,h=>by
  unfold vY at h;split at h
  .rename_i hb;split at h
   .rename_i z hz;obtain rfl:=YA h;have:=ph hz
    show(⟨r,_⟩:fQ)::ct (r'::rs) z=_
    rw[sI,this]
   .cases h
  .cases h
def kX:Sh->List fQ->Tree×List fQ
 | .leaf r,⟨s,x⟩::vs=>(bif s.beq r then .leaf s x else .nil,vs)
 | .leaf _,[]=>(.nil,[])
 | .own j,vs=>(.own j,vs)
 | .nil,vs=>(.nil,vs)
 | .pair a b,vs=>(.pair (kX a vs).1 (kX b (kX a vs).2).1,(kX b (kX a vs).2).2)
 | .junk n,vs=>(.junk n,vs)
def c7:SS->List fQ->ag×List fQ
 | .val agg t,vs=>(.val agg (kX t vs).1,(kX t vs).2)
 | .ptr j p off,vs=>(.ptr j p off,vs)
 | .at r,⟨s,x⟩::vs=>(bif s.beq r then .at s x else .dead,vs)
 | .at _,[]=>(.dead,[])
 | .undef,vs=>(.undef,vs)
 | .fn f js,vs=>(.fn f js,vs)
 | .ifc T s,vs=>(.ifc T (c7 s vs).1,(c7 s vs).2)
def b7:List (Nat×SS)->List fQ->List (Nat×ag)×List fQ
 |[],vs=>([],vs)
 |(t,s)::l,vs=>((t,(c7 s vs).1)::(b7 l (c7 s vs).2).1,(b7 l (c7 s vs).2).2)
def lc(K V:Row)(d:fQ):Option (List (K.den×V.den)):=if h:d.1.beq (.slice (.pair K V))=true then some (fj (s:= .slice (.pair K V)) (Row.eq_of_beq h) d.2)else none
def I8(T:TypeId)(K:Row)(agg:Bool)(V:Row):Option Nat->List fQ->Th×List fQ
 |none,d::vs=>(.smap T K agg V ((lc K V d).getD []) none,vs)
 |some n,d::d'::vs=>(.smap T K agg V ((lc K V d).getD []) (some (n,(lc K V d').getD [],none)),vs)
 |_,vs=>(.smap T K agg V [] none,vs)
theorem oH{K V:Row}(l:List (K.den×V.den)):lc K V ⟨.slice (.pair K V),l⟩=some l:=by
 unfold lc;rw[dif_pos (Row.beq_refl _)];rfl
def bW:OS->List fQ->Th×List fQ
 | .box T t,vs=>(.box T (kX t vs).1,(kX t vs).2)
 | .own T r,⟨.slice s,l⟩::vs=>(bif s.beq r then .own T s l else .own T r [],vs)
 | .own T r,vs=>(.own T r [],vs)
 | .map T K agg V,⟨.slice (.pair K' V'),l⟩::vs=>(if h:K'.beq K=true/\V'.beq V=true then .map T K agg V (fj (r:= .slice (.pair K' V')) (s:= .slice (.pair K V)) (by rw[Row.eq_of_beq h.1,Row.eq_of_beq h.2]) l)else .map T K agg V [],vs)
 | .map T K agg V,vs=>(.map T K agg V [],vs)
 | .deep T d,⟨.slice s,l⟩::vs=>(if h:s.beq d.row=true then .deep T d (fj (r:= .slice s) (s:= .slice d.row) (congrArg Row.slice (Row.eq_of_beq h)) l) none else .deep T d [] none,vs)
 | .deep T d,vs=>(.deep T d [] none,vs)
 | .smap T K agg V it,vs=>I8 T K agg V it vs
def ef(m:Nat):List (Nat×OS)->List fQ->List (Nat×(Nat×Th))
 |[],_=>[]
 |(j,s)::l,vs=>(j,(m,(bW s vs).1))::ef (m+1) l (bW s vs).2
abbrev Bs:=List (Nat×Option Nat)
def yq:Option Nat->Option Nat->Bool
 |some a,some b=>YE a b
 |none,none=>true
 |_,_=>false
theorem sJ{a b:Option Nat}(h:yq a b=true):a=b:=by
 cases a<;>cases b<;>first|rfl|cases h|(rw[beq_true h])
def qP(bs:Bs)(j:Nat)(v:Option Nat):Option Bs:=
 match find bs j with
 |none=>some ((j,v)::bs)
 |some u=>bif yq u v then some bs else none
def xD(ob:Nat->Option (Nat×Th)):Sh->Tree->Bs->Option (List fQ×Bs)
 | .leaf r,t,bs=>match flat ob r t with
   |some x=>some ([⟨r,x⟩],bs)
   |none=>none
 | .own j, .own o,bs=>match qP bs j (some o)with
   |some dI=>some ([],dI)
   |none=>none
 | .own j, .nil,bs=>match qP bs j none with
   |some dI=>some ([],dI)
   |none=>none
 | .nil, .nil,bs=>some ([],bs)
 | .junk n,t,bs=>bif YE t.size n then some ([],bs)else none
 | .pair a b,t,bs=>match t.split with
   |some (x,y)=>match xD ob a x bs with
    |some (vs,yr)=>match xD ob b y yr with
     |some (us,zY)=>some (vs++us,zY)
     |none=>none
    |none=>none
   |none=>none
 |_,_,_=>none
def oI:List (Nat×List Bool×Nat)->List (Nat×List Bool×Nat)->Bs->Option Bs
 |[],[],bs=>some bs
 |(j,_,off)::js,(o,_,cF)::cs,bs=>bif YE off cF then(match qP bs j (some o)with
  |some dI=>oI js cs dI
  |none=>none)else none
 |_,_,_=>none
def Ec(ob:Nat->Option (Nat×Th))(s:SS)(d:ag)(bs:Bs):Option (List fQ×Bs):=
 match s,d with
 | .val agg sh, .val cZ t=>bif (bif agg then cZ else !cZ)then xD ob sh t bs else none
 | .ptr j _ off, .ptr o _ cF=>bif YE off cF then(match qP bs j (some o)with
   |some dI=>some ([],dI)
   |none=>none)else none
 | .at r, .at s x=>if h:s.beq r=true then some ([⟨r,fj (Row.eq_of_beq h) x⟩],bs)else none
 | .undef, .undef=>some ([],bs)
 | .fn f js, .fn f' cs=>bif YE f f' then(match oI js cs bs with
   |some dI=>some ([],dI)
   |none=>none)else none
 |_,_=>none
def BL(ob:Nat->Option (Nat×Th)):SS->ag->Bs->Option (List fQ×Bs)
 | .ifc T s,d,bs=>match d with
   | .ifc T' d'=>bif YE T T' then BL ob s d' bs else none
   |_=>none
 |s,d,bs=>Ec ob s d bs
def KF(ob:Nat->Option (Nat×Th))(ah:List (Nat×ag)):List (Nat×SS)->Bs->Option (List fQ×Bs)
 |[],bs=>some ([],bs)
 |(t,s)::l,bs=>match find ah t with
  |some d=>match BL ob s d bs with
   |some (vs,yr)=>match KF ob ah l yr with
    |some (us,zY)=>some (vs++us,zY)
    |none=>none
   |none=>none
  |none=>none
def Ed(ob:Nat->Option (Nat×Th))(j:Nat)(s:OS)(bs:Bs):Option (List fQ×Bs):=
 match find bs j with
 |some (some o)=>match ob o with
  |some (_,t)=>match s,t with
   | .own T r, .own T' r' l=>bif YE T T' then(if h:r'.beq r=true then some ([⟨.slice r,fj (r:= .slice r') (s:= .slice r) (congrArg Row.slice (Row.eq_of_beq h)) l⟩],bs)else none)else none
   | .box T sh, .box T' t=>bif YE T T' then xD ob sh t bs else none
   | .map T K agg V, .map T' K' cZ V' l=>bif YE T T'&&(bif agg then cZ else !cZ)then(if h:K'.beq K=true/\V'.beq V=true then some ([⟨.slice (.pair K V),fj (r:= .slice (.pair K' V')) (s:= .slice (.pair K V)) (by rw[Row.eq_of_beq h.1,Row.eq_of_beq h.2]) l⟩],bs)else none)else none
   | .deep T d, .deep T' d' l none=>bif YE T T'&&d'.beq d then some ([⟨.slice d'.row,l⟩],bs)else none
   | .smap T K agg V none, .smap T' K' cZ V' l _=>bif YE T T'&&(bif agg then cZ else !cZ)&&K'.beq K&&V'.beq V then some ([⟨.slice (.pair K' V'),l⟩],bs)else none
   | .smap T K agg V (some n), .smap T' K' cZ V' l (some (n',left,_))=>bif YE T T'&&(bif agg then cZ else !cZ)&&K'.beq K&&V'.beq V then(match qP bs n (some n')with
     |some dI=>some ([⟨.slice (.pair K' V'),l⟩,⟨.slice (.pair K' V'),left⟩],dI)
     |none=>none)else none
   |_,_=>none
  |none=>none
 |some none=>match s with
  | .own _ r=>some ([⟨.slice r,([]:List r.den)⟩],bs)
  | .deep _ d=>some ([⟨.slice d.row,([]:List d.row.den)⟩],bs)
  |_=>none
 |none=>none
def KG(ob:Nat->Option (Nat×Th)):List (Nat×OS)->Bs->Option (List fQ×Bs)
 |[],bs=>some ([],bs)
 |(j,s)::l,bs=>match Ed ob j s bs with
  |some (vs,yr)=>match KG ob l yr with
   |some (us,zY)=>some (vs++us,zY)
   |none=>none
  |none=>none
section
variable {U:Nat->Prop} {H H':aj} {F:Nat->Prop} {w:World} {n:Nat} {ob:Nat->Option (Nat×Th)}
def vZ(bs dI:Bs):Prop:=∀j v,find bs j=some v->find dI j=some v
theorem fk{bs dI:Bs}{j:Nat}{v:Option Nat}(h:qP bs j v=some dI):vZ bs dI/\find dI j=some v:=by
 unfold qP at h;split at h
 .rename_i hn;obtain rfl:=YA h;refine⟨fun i u hu=>?_,by rw[aw,if_pos rfl]⟩;rw[aw];by_cases e:j=i
  .subst e;rw[hn]at hu;cases hu
  .rw[if_neg e];exact hu
 .rename_i u hu;obtain⟨h1,rfl⟩:=nE h;obtain rfl:=sJ h1;exact⟨fun _ _ h=>h,hu⟩
def valOf(H:aj):Option Nat->Option Value
 |some o=>H.val o
 |none=>some (.slice none 0 0)
def jS(H H':aj)(bs:Bs):Prop:=∀j v,find bs j=some v->∀u,valOf H v=some u->H'.val j=some u
theorem qQ:{sh:Sh}->{t:Tree}->{bs dI:Bs}->{vs:List fQ}->xD ob sh t bs=some (vs,dI)->vZ bs dI
 | .leaf r,t,bs,dI,vs,h=>by
   unfold xD at h
   split at h<;>cases h
   exact fun _ _ h=>h
 | .own j, .own o,bs,dI,vs,h=>by
   unfold xD at h
   split at h<;>cases h
   rename_i hb;exact(fk hb).1
 | .own j, .nil,bs,dI,vs,h=>by
   unfold xD at h
   split at h<;>cases h
   rename_i hb;exact(fk hb).1
 | .nil, .nil,bs,dI,vs,h=>by cases h;exact fun _ _ h=>h
 | .pair a b,t,bs,dI,vs,h=>by
   unfold xD at h;split at h
   case h_2=>cases h
   split at h
   case h_2=>cases h
   rename_i h1;split at h
   case h_2=>cases h
   rename_i h2;cases h
   exact fun j v hj=>qQ h2 j v (qQ h1 j v hj)
 | .own _, .leaf _ _,_,_,_,h=>by cases h
 | .own _, .pair _ _,_,_,_,h=>by cases h
 | .nil, .leaf _ _,_,_,_,h=>by cases h
 | .nil, .own _,_,_,_,h=>by cases h
 | .nil, .pair _ _,_,_,_,h=>by cases h
 | .own _, .view ..,_,_,_,h=>by cases h
 | .nil, .view ..,_,_,_,h=>by cases h
 | .own _, .junk _,_,_,_,h=>by cases h
 | .nil, .junk _,_,_,_,h=>by cases h
 | .junk n,t,bs,dI,vs,h=>by
   unfold xD at h;obtain⟨_,h⟩:=ax h;cases h
   exact fun _ _ h=>h
theorem uk(hs:ak U H F w ob n):{sh:Sh}->{t:Tree}->{bs dI:Bs}->{vs:List fQ}->{cs:List Value}->xD ob sh t bs=some (vs,dI)->Holds H F w t cs->jS H H' dI->∀rest,
 Holds H' F w (kX sh (vs++rest)).1 cs/\(kX sh (vs++rest)).2=rest
 | .leaf r,t,bs,dI,vs,cs,h,hh,hb,rest=>by
   unfold xD at h
   split at h<;>cases h
   rename_i x hf;refine⟨?_,rfl⟩
   show Holds H' F w (bif r.beq r then Tree.leaf r x else .nil) cs
   rw[Row.beq_refl,cond_true];exact dV hs hf hh
 | .own j, .own o,bs,dI,vs,cs,h,hh,hb,rest=>by
   unfold xD at h
   split at h<;>cases h
   rename_i tK;obtain⟨v,hv,h1,rfl⟩:=hh;exact⟨⟨v,hb _ _ (fk tK).2 v hv,h1,rfl⟩,rfl⟩
 | .own j, .nil,bs,dI,vs,cs,h,hh,hb,rest=>by
   unfold xD at h
   split at h<;>cases h
   rename_i tK;rw[show cs=_ from hh];exact⟨⟨_,hb _ _ (fk tK).2 _ rfl,rfl,rfl⟩,rfl⟩
 | .nil, .nil,bs,dI,vs,cs,h,hh,hb,rest=>by cases h;exact⟨hh,rfl⟩
 | .pair a b,t,bs,dI,vs,cs,h,hh,hb,rest=>by
   unfold xD at h;split at h
   case h_2=>cases h
   rename_i x y rN;split at h
   case h_2=>cases h
   rename_i OZ yr h1;split at h
   case h_2=>cases h
   rename_i us zY h2;cases h;obtain⟨c1,c2,rfl,g1,g2,_⟩:=hh.split rN
   have CZ:jS H H' yr:=fun j v hj=>hb j v (qQ h2 j v hj)
   obtain⟨k1,k2⟩:=uk hs h1 g1 CZ (us++rest);obtain⟨m1,m2⟩:=uk hs h2 g2 hb rest;rw[Y2];unfold kX;rw[k2];exact⟨⟨c1,c2,rfl,k1,m1⟩,m2⟩
 | .own _, .leaf _ _,_,_,_,_,h,_,_,_=>by cases h
 | .own _, .pair _ _,_,_,_,_,h,_,_,_=>by cases h
 | .nil, .leaf _ _,_,_,_,_,h,_,_,_=>by cases h
 | .nil, .own _,_,_,_,_,h,_,_,_=>by cases h
 | .nil, .pair _ _,_,_,_,_,h,_,_,_=>by cases h
 | .own _, .view ..,_,_,_,_,h,_,_,_=>by cases h
 | .nil, .view ..,_,_,_,_,h,_,_,_=>by cases h
 | .own _, .junk _,_,_,_,_,h,_,_,_=>by cases h
 | .nil, .junk _,_,_,_,_,h,_,_,_=>by cases h
 | .junk n,t,bs,dI,vs,cs,h,hh,hb,rest=>by
   unfold xD at h;obtain⟨hn,h⟩:=ax h;cases h;exact⟨⟨hh.length.trans (Zo hn),hh.fu⟩,rfl⟩
theorem oJ:{js cs:List (Nat×List Bool×Nat)}->{bs dI:Bs}->oI js cs bs=some dI->vZ bs dI
 |[],[],bs,dI,h=>by obtain rfl:=YA h;exact fun _ _ h=>h
 |(j,p,off)::js,(o,p',cF)::cs,bs,dI,h=>by
  unfold oI at h;obtain⟨_,h⟩:=ax h;split at h
  case h_2=>cases h
  rename_i hb
  exact fun i v hi=>oJ h i v ((fk hb).1 i v hi)
 |[],_::_,_,_,h=>by cases h
 |_::_,[],_,_,h=>by cases h
theorem sK:{js cs:List (Nat×List Bool×Nat)}->{bs dI:Bs}->{vs:List Value}->oI js cs bs=some dI->gn H cs vs->jS H H' dI->gn H' js vs
 |[],[],bs,dI,vs,h,hc,hb=>hc
 |(j,p,off)::js,(o,p',cF)::cs,bs,dI,vs,h,hc,hb=>by
  unfold oI at h;obtain⟨ho,h'⟩:=ax h;clear h;split at h'
  case h_2=>cases h'
  rename_i b1 tK;obtain⟨v,us,rfl,⟨b,h1,rfl⟩,h2⟩:=hc;have ho:=beq_true ho;subst ho;exact⟨_,us,rfl,⟨b,hb _ _ (oJ h' _ _ (fk tK).2) _ h1,rfl⟩,sK h' h2 hb⟩
 |[],_::_,_,_,_,h,_,_=>by cases h
 |_::_,[],_,_,_,h,_,_=>by cases h
theorem GV{s:SS}{d:ag}{bs dI:Bs}{vs:List fQ}(h:Ec ob s d bs=some (vs,dI)):vZ bs dI:=by
 unfold Ec at h;split at h
 .obtain⟨_,h⟩:=ax h;exact qQ h
 .obtain⟨_,h⟩:=ax h
  split at h<;>cases h
  rename_i hb;exact(fk hb).1
 .split at h<;>cases h
  exact fun _ _ h=>h
 .cases h
  exact fun _ _ h=>h
 .obtain⟨_,h'⟩:=ax h
  split at h'<;>cases h'
  rename_i hb;exact oJ hb
 .cases h
theorem GW{s:SS}{d:ag}{bs dI:Bs}{vs:List fQ}(h:BL ob s d bs=some (vs,dI)):vZ bs dI:=by
 induction s generalizing d with
 |ifc T s ih=>
  cases d with
  |ifc T' d'=>
   obtain⟨_,h'⟩:=ax (show(bif YE T T' then BL ob s d' bs else none)=some (vs,dI)from h);exact ih h'
  |_=>cases h
 |_=>exact GV h
theorem GX(hs:ak U H F w ob n){s:SS}{d:ag}{bs dI:Bs}{vs:List fQ}{v:Value}(h:Ec ob s d bs=some (vs,dI))(hd:af H F w d v)(hb:jS H H' dI)(rest:List fQ):
 af H' F w (c7 s (vs++rest)).1 v/\(c7 s (vs++rest)).2=rest:=by
 unfold Ec at h;split at h
 .rename_i agg sh cZ t;obtain⟨ha,h'⟩:=ax h;clear h
  have:agg=cZ:=by cases agg<;>cases cZ<;>simp_all
  subst this;obtain⟨cs,h1,h2⟩:=hd;obtain⟨k1,k2⟩:=uk hs h' h1 hb rest;exact⟨⟨cs,k1,h2⟩,k2⟩
 .rename_i j p off o p' cF;obtain⟨ho,h'⟩:=ax h;clear h
  split at h'<;>cases h'
  rename_i tK;obtain⟨b,h1,h2⟩:=hd;refine⟨⟨b,hb _ _ (fk tK).2 _ h1,?_⟩,rfl⟩;rw[beq_true ho];exact h2
 .rename_i r s x
  split at h<;>cases h
  rename_i vw;obtain rfl:=Row.eq_of_beq vw;refine⟨?_,rfl⟩
  show af H' F w (bif s.beq s then ag.at s x else .dead) v
  rw[Row.beq_refl,cond_true];exact hd
 .cases h;exact⟨hd,rfl⟩
 .rename_i f js f' cs;obtain⟨hf,h'⟩:=ax h
  split at h'<;>cases h'
  rename_i tK;obtain⟨us,h1,h2⟩:=hd;refine⟨⟨us,?_,sK tK h2 hb⟩,rfl⟩;rw[beq_true hf];exact h1
 .cases h
theorem GY(hs:ak U H F w ob n){s:SS}{d:ag}{bs dI:Bs}{vs:List fQ}{v:Value}(h:BL ob s d bs=some (vs,dI))(hd:af H F w d v)(hb:jS H H' dI)(rest:List fQ):
 af H' F w (c7 s (vs++rest)).1 v/\(c7 s (vs++rest)).2=rest:=by
 induction s generalizing d v with
 |ifc T s ih=>
  cases d with
  |ifc T' d'=>
   obtain⟨hT,h'⟩:=ax (show(bif YE T T' then BL ob s d' bs else none)=some (vs,dI)from h);obtain⟨u,e,h2⟩:=hd;obtain⟨k1,k2⟩:=ih h' h2;exact⟨⟨u,by rw[beq_true hT];exact e,k1⟩,k2⟩
  |_=>cases h
 |_=>exact GX hs h hd hb rest
theorem Ee:{l:List (Nat×SS)}->{ah:List (Nat×ag)}->{bs dI:Bs}->{vs:List fQ}->KF ob ah l bs=some (vs,dI)->vZ bs dI
 |[],_,_,_,_,h=>by cases h;exact fun _ _ h=>h
 |(t,s)::l,ah,bs,dI,vs,h=>by
  unfold KF at h;split at h
  case h_2=>cases h
  split at h
  case h_2=>cases h
  rename_i h1;split at h
  case h_2=>cases h
  rename_i h2;cases h
  exact fun j v hj=>Ee h2 j v (GW h1 j v hj)
theorem Ef(hs:ak U H F w ob n){ah:List (Nat×ag)}{ρ:Nat->Value}(eD:∀t d,find ah t=some d->af H F w d (ρ t)):{l:List (Nat×SS)}->{bs dI:Bs}->{vs:List fQ}->KF ob ah l bs=some (vs,dI)->jS H H' dI->∀rest,
 (∀t d,find (b7 l (vs++rest)).1 t=some d->af H' F w d (ρ t))/\(b7 l (vs++rest)).2=rest
 |[],bs,dI,vs,h,_,rest=>by cases h;exact⟨fun _ _ h=>(by cases h),rfl⟩
 |(t,s)::l,bs,dI,vs,h,hb,rest=>by
  unfold KF at h;split at h
  case h_2=>cases h
  rename_i d hd;split at h
  case h_2=>cases h
  rename_i OZ yr h1;split at h
  case h_2=>cases h
  rename_i us zY h2;cases h
  have CZ:jS H H' yr:=fun j v hj=>hb j v (Ee h2 j v hj)
  obtain⟨k1,k2⟩:=GY hs h1 (eD t d hd) CZ (us++rest);obtain⟨m1,m2⟩:=Ef hs eD h2 hb rest;rw[Y2];unfold b7;rw[k2];refine⟨fun t' d' h'=>?_,m2⟩;rw[aw]at h';split at h'
  .rename_i e;subst e;obtain rfl:=YA h';exact k1
  .exact m1 t' d' h'
end
end Go.Proofs.YtbladfbbhijpmaaGreat
namespace Go.Proofs.YtbladfbbhijpmaaGreat
open Go Go.RowKit
def Tree.owns:Tree->List Nat
 | .own o=>[o]
 | .pair a b=>a.owns++b.owns
 | .view o _ _ _=>[o]
 |_=>[]
def v7:Sh->Tree->List Nat
 | .leaf _,t=>t.owns
 | .pair a b,t=>match t.split with
   |some (x,y)=>v7 a x++v7 b y
   |none=>[]
 |_,_=>[]
def zZ(ah:List (Nat×ag)):List (Nat×SS)->List Nat
 |[]=>[]
 |(t, .val _ sh)::l=>(match find ah t with
  |some (.val _ tr)=>v7 sh tr
  |_=>[])++zZ ah l
 |(t, .ifc _ (.val _ sh))::l=>(match find ah t with
  |some (.ifc _ (.val _ tr))=>v7 sh tr
  |_=>[])++zZ ah l
 |_::l=>zZ ah l
def Ii(j:Nat):List (Nat×List Bool×Nat)->List (Nat×List Bool×Nat)->Option Nat
 |(j',_)::js,(o,_)::cs=>bif YE j' j then some o else Ii j js cs
 |_,_=>none
def v8(ah:List (Nat×ag))(j:Nat):List (Nat×SS)->Option Nat
 |[]=>none
 |(t, .ptr j' _ _)::l=>bif YE j' j then(match find ah t with
  |some (.ptr o _ _)=>some o
  |_=>none)else v8 ah j l
 |(t, .ifc _ (.ptr j' _ _))::l=>bif YE j' j then(match find ah t with
  |some (.ifc _ (.ptr o _ _))=>some o
  |_=>none)else v8 ah j l
 |(t, .fn _ js)::l=>match(match find ah t with
    |some (.fn _ cs)=>Ii j js cs
    |_=>none)with
  |some o=>some o
  |none=>v8 ah j l
 |_::l=>v8 ah j l
def Eg(nb:Nat)(ah:List (Nat×ag))(ss:List (Nat×SS))(objs:List (Nat×(Nat×Th))):List (Nat×OS)->List Nat
 |[]=>[]
 |(j, .box _ sh)::l=>(match(bif Zl j nb then some j else v8 ah j ss)with
  |some o=>(match find objs o with
   |some (_, .box _ tr)=>v7 sh tr
   |_=>[])
  |none=>[])++Eg nb ah ss objs l
 |_::l=>Eg nb ah ss objs l
def O0(nb:Nat):List (Nat×OS)->Bs
 |[]=>[]
 |(j,_)::l=>bif Zl j nb then(j,some j)::O0 nb l else O0 nb l
def ey:Bs->List Nat
 |[]=>[]
 |(_,some o)::l=>o::ey l
 |(_,none)::l=>ey l
def iJ(o:Nat)(l:List Nat):Bool:=l.any (YE o)
def yt:List Nat->Bool
 |[]=>true
 |o::l=> !iJ o l&&yt l
def Eh(nb nxt:Nat):Bs->Bool
 |[]=>true
 |(j,u)::l=>(bif Zl j nb then yq u (some j)else Zl j nxt)&&Eh nb nxt l
def yu(objs:List (Nat×(Nat×Th)))(wa:List Nat):List (Nat×(Nat×Th))->Bool
 |[]=>true
 |(o,(s,t))::l=>(match find objs o with
  |some (s',t')=>YE s s'&&(bif cR t then cR t' else !cR t')
  |none=>false)&& !iJ o wa&&yu objs wa l
def sL(nb:Nat)(J:JS)(ah:List (Nat×ag))(objs:List (Nat×(Nat×Th))):List Nat:=zZ ah J.ah++Eg nb ah J.ah objs J.objs
def sM(nb:Nat)(frame:List (Nat×(Nat×Th)))(J:JS)(ah:List (Nat×ag))(objs:List (Nat×(Nat×Th))):Option (cx J.rows×Bs×List (Nat×(Nat×Th))):=
 match dz objs (sL nb J ah objs)with
 |none=>none
 |some aA=>match KF (find aA) ah J.ah (O0 nb J.objs)with
  |none=>none
  |some (vs,yr)=>match KG (find aA) J.objs yr with
   |none=>none
   |some (us,zY)=>bif yt (ey zY)&&Eh nb J.nxt zY&&Nat.ble (nb+J.objs.length) J.nxt&&yu aA (ey zY) frame then
     (match vY J.rows (vs++us)with
     |some x=>some (x,zY,aA)
     |none=>none)else none
def nN:List (Nat×(Nat×Th))->Nat->Option Th
 |[],_=>none
 |(_,(s,t))::l,m=>bif YE s m then some t else nN l m
def I9:List (Nat×(Nat×Th))->Nat->Option Nat
 |[],_=>none
 |(j,(s,_))::l,m=>bif YE s m then some j else I9 l m
def qR(H:aj)(ob:Nat->Option (Nat×Th)):Option (Option Nat)->Nat->Prop
 |some (some o)=>match ob o with
  |some (s,_)=>H.sub s
  |none=>fun _=>False
 |_=>fun _=>False
def cX(H:aj)(nb:Nat)(bs:Bs)(cons:List (Nat×(Nat×Th)))(ob:Nat->Option (Nat×Th)):aj where
 val m:=if m<nb then H.val m else match find bs m with
  |some u=>valOf H u
  |none=>none
 con m:=if m<nb then H.con m else nN cons m
 sub m:=if m<nb then H.sub m else match I9 cons m with
  |some j=>qR H ob (find bs j)
  |none=>fun _=>False
section
variable {U:Nat->Prop} {H H':aj} {F:Nat->Prop} {w:World} {n:Nat} {ob:Nat->Option (Nat×Th)}
theorem z6{j:Nat}{s:OS}{bs dI:Bs}{vs:List fQ}(h:Ed ob j s bs=some (vs,dI)):vZ bs dI:=by
 unfold Ed at h;split at h
 .split at h
  case h_2=>cases h
  split at h
  .obtain⟨_,h'⟩:=ax h
   split at h'<;>cases h'
   exact fun _ _ h=>h
  .obtain⟨_,h'⟩:=ax h;exact qQ h'
  .obtain⟨_,h'⟩:=ax h
   split at h'<;>cases h'
   exact fun _ _ h=>h
  .obtain⟨_,h'⟩:=ax h;cases h'
   exact fun _ _ h=>h
  .obtain⟨_,h'⟩:=ax h;cases h'
   exact fun _ _ h=>h
  .obtain⟨_,h'⟩:=ax h
   split at h'<;>cases h'
   rename_i tK;exact(fk tK).1
  .cases h
 .split at h<;>cases h
  .exact fun _ _ h=>h
  .exact fun _ _ h=>h
 .cases h
theorem ul:{l:List (Nat×OS)}->{bs dI:Bs}->{vs:List fQ}->KG ob l bs=some (vs,dI)->vZ bs dI
 |[],_,_,_,h=>by cases h;exact fun _ _ h=>h
 |(j,s)::l,bs,dI,vs,h=>by
  unfold KG at h;split at h
  case h_2=>cases h
  rename_i h1;split at h
  case h_2=>cases h
  rename_i h2;cases h
  exact fun j v hj=>ul h2 j v (z6 h1 j v hj)
def gA(H H':aj)(F:Nat->Prop)(w:World)(ob:Nat->Option (Nat×Th))(bs:Bs)(j:Nat)(t:Th):Prop:=
 ∃u v,find bs j=some u/\valOf H u=some v/\v.oneCell'=true/\t.base=t/\eF H' F w (qR H ob (find bs j)) v t/\∀k,fp (qR H ob (find bs j)) v t k->∃o s0 t0,u=some o/\ob o=some (s0,t0)/\H.val o=some v/\fp (H.sub s0) v t0 k
theorem GZ(hs:ak U H F w ob n){j:Nat}{s:OS}{bs dI:Bs}{vs:List fQ}(h:Ed ob j s bs=some (vs,dI))(hb:jS H H' dI)(rest:List fQ):
 gA H H' F w ob bs j (bW s (vs++rest)).1/\(bW s (vs++rest)).2=rest:=by
 unfold Ed at h;split at h
 .rename_i o KH;split at h
  case h_2=>cases h
  rename_i s0 t0 bJ;obtain⟨v,hv,bH⟩:=hs.obj _ _ _ bJ
  have dQ:qR H ob (find bs j)=H.sub s0:=by rw[KH];simp[qR,bJ]
  have mk:∀t,t.base=t->eF H' F w (H.sub s0) v t->(∀k,fp (H.sub s0) v t k->fp (H.sub s0) v t0 k)->gA H H' F w ob bs j t:=by
   intro t hb iV hf;refine⟨some o,v,KH,hv,bH.one,hb,by rw[dQ];exact iV,fun k hk=>?_⟩;rw[dQ]at hk;exact⟨o,_,_,rfl,bJ,hv,hf k hk⟩
  split at h
  .rename_i T r T' r' l;obtain⟨hT,h'⟩:=ax h;clear h
   split at h'<;>cases h'
   rename_i vw;obtain rfl:=Row.eq_of_beq vw;obtain rfl:=beq_true hT;refine⟨?_,rfl⟩
   show gA H H' F w ob bs j (bif r'.beq r' then Th.own T r' l else .own T r' [])
   rw[Row.beq_refl,cond_true]
   exact mk _ rfl bH.ok fun k hk=>hk
  .rename_i T sh T' t;obtain⟨hT,h'⟩:=ax h;clear h;obtain rfl:=beq_true hT;obtain⟨b,es,e,h1,h2⟩:=bH.ok;obtain⟨k1,k2⟩:=uk hs h' h2 hb rest;exact⟨mk _ rfl ⟨b,es,e,h1,k1⟩ fun k hk=>hk,k2⟩
  .rename_i T K agg V T' K' cZ V' l;obtain⟨hT,h'⟩:=ax h;clear h
   split at h'<;>cases h'
   rename_i vw;obtain⟨Ja,ha⟩:=bE hT;clear hT
   have ha:agg=cZ:=by cases agg<;>cases cZ<;>simp_all
   subst ha;obtain⟨hK,hV⟩:=vw;obtain rfl:=Row.eq_of_beq hK;obtain rfl:=Row.eq_of_beq hV;obtain rfl:=beq_true Ja;refine⟨?_,rfl⟩
   show gA H H' F w ob bs j (if h:K'.beq K'=true/\V'.beq V'=true then Th.map T K' agg V' l else .map T K' agg V' [])
   rw[dif_pos ⟨Row.beq_refl _,Row.beq_refl _⟩];obtain⟨b,es,clock,e,h1,h2,h3⟩:=bH.ok
   exact mk _ rfl ⟨b,es,clock,e,h1,h2,h3.dU⟩ fun k hk=>hk
  .rename_i T d T' d' l;obtain⟨hT,h'⟩:=ax h;clear h;obtain⟨Ja,hd⟩:=bE hT;obtain rfl:=DR.eq_of_beq hd;obtain rfl:=beq_true Ja;cases h';refine⟨?_,rfl⟩
   show gA H H' F w ob bs j (if h:d'.row.beq d'.row=true then Th.deep T d' l none else .deep T d' [] none)
   rw[dif_pos (Row.beq_refl _)]
   exact mk _ rfl bH.ok fun k hk=>hk
  .rename_i T K agg V T' K' cZ V' l it;obtain⟨hT,h'⟩:=ax h;clear h;obtain⟨hT,hd⟩:=bE hT;obtain⟨hT,rI⟩:=bE hT;obtain⟨Ja,ha⟩:=bE hT
   have ha:agg=cZ:=by cases agg<;>cases cZ<;>simp_all
   subst ha;obtain rfl:=Row.eq_of_beq hd;obtain rfl:=Row.eq_of_beq rI;obtain rfl:=beq_true Ja;cases h';refine⟨?_,rfl⟩
   show gA H H' F w ob bs j (Th.smap T K' agg V' ((lc K' V' ⟨.slice (.pair K' V'),l⟩).getD []) none)
   rw[oH];obtain⟨b,es,clock,l',e,h0,h1,h2,h3,h4,_⟩:=bH.ok
   exact mk _ rfl ⟨b,es,clock,l',e,h0,h1,h2,h3.dU,h4,trivial⟩ fun k hk=>hk
  .rename_i T K agg V nj T' K' cZ V' l n' left cur;obtain⟨hT,h'⟩:=ax h;clear h;obtain⟨hT,hd⟩:=bE hT;obtain⟨hT,rI⟩:=bE hT;obtain⟨Ja,ha⟩:=bE hT
   have ha:agg=cZ:=by cases agg<;>cases cZ<;>simp_all
   subst ha;obtain rfl:=Row.eq_of_beq hd;obtain rfl:=Row.eq_of_beq rI;obtain rfl:=beq_true Ja
   split at h'<;>cases h'
   rename_i tK;refine⟨?_,rfl⟩
   show gA H H' F w ob bs j (Th.smap T K' agg V' ((lc K' V' ⟨.slice (.pair K' V'),l⟩).getD []) (some (nj,(lc K' V' ⟨.slice (.pair K' V'),left⟩).getD [],none)))
   rw[oH,oH];obtain⟨b,es,clock,l',e,h0,h1,h2,h3,h4,r,since,seen,last,i1,i2,i3,i4,i5,i6,i7,⟨l2,i8,i9⟩,_⟩:=bH.ok
   exact mk _ rfl ⟨b,es,clock,l',e,h0,h1,h2,h3.dU,h4,r,since,seen,last,i1,i2,hb _ _ (fk tK).2 _ i3,i4,i5,i6,i7,⟨l2,i8.dU,i9⟩,fun p hp=>by cases hp⟩ fun k hk=>hk
  .cases h
 .rename_i KH
  split at h<;>cases h
  .rename_i T r;refine⟨?_,rfl⟩
   show gA H H' F w ob bs j (bif r.beq r then Th.own T r []else .own T r [])
   rw[Row.beq_refl,cond_true];refine⟨none,_,KH,rfl,rfl,rfl,(fa.nil 0 F w T r).2,fun k hk=>?_⟩;have ig:aS (.slice none 0 0) k:=hk;simp[aS,Y9]at ig
  .rename_i T d;refine⟨?_,rfl⟩
   show gA H H' F w ob bs j (if h:d.row.beq d.row=true then Th.deep T d [] none else .deep T d [] none)
   rw[dif_pos (Row.beq_refl _)]
   have dQ:qR H ob (find bs j)=fun _=>False:=by rw[KH];rfl
   refine⟨none,_,KH,rfl,rfl,rfl,?_,fun k hk=>?_⟩
   .rw[dQ];exact⟨[],fun _ _=>False,gJ.nil F w T d.low,rfl,fun i h=>absurd h (by simp),⟨fun k=>by simp[aS,Y9],fun _ _ _ h=>absurd h (by simp),fun _ _ h=>absurd h (by simp)⟩⟩
   .rw[dQ]at hk;exact hk.elim
 .cases h
theorem wb:{l:List (Nat×OS)}->{m k:Nat}->{vs:List fQ}->m+l.length<=k->nN (ef m l vs) k=none
 |[],_,_,_,_=>rfl
 |(j,s)::l,m,k,vs,h=>by
  show(bif YE m k then _ else nN (ef (m+1) l _) k)=none
  rw[YT]at h
  have:YE m k=false:=by
   cases hb:YE m k with
   |false=>rfl
   |true=>have:=beq_true hb;omega
  rw[this,cond_false];exact wb (by omega)
theorem Ei(hs:ak U H F w ob n):{l:List (Nat×OS)}->{bs dI:Bs}->{vs:List fQ}->KG ob l bs=some (vs,dI)->jS H H' dI->∀m,
 ∀j s t,find (ef m l vs) j=some (s,t)->m<=s/\s<m+l.length/\nN (ef m l vs) s=some t/\I9 (ef m l vs) s=some j/\gA H H' F w ob dI j t
 |[],_,_,_,h,_,m=>by cases h;intro j s t h;cases h
 |(j0,s0)::l,bs,dI,vs,h,hb,m=>by
  unfold KG at h;split at h
  case h_2=>cases h
  rename_i OZ yr h1;split at h
  case h_2=>cases h
  rename_i us zY h2;cases h
  have CZ:jS H H' yr:=fun j v hj=>hb j v (ul h2 j v hj)
  obtain⟨⟨u,v,g1,g2⟩,k2⟩:=GZ hs h1 CZ us;intro j s t hf;unfold ef at hf⊢;rw[aw]at hf;rw[k2]at hf⊢;split at hf
  .rename_i e;subst e;simp only[YH,Zx]at hf;obtain⟨rfl,rfl⟩:=hf;have e1:=ul h2 _ _ (z6 h1 _ _ g1);rw[g1]at g2;refine⟨YD _,by simp,?_,?_,u,v,e1,?_⟩
   .show(bif YE m m then _ else _)=_
    simp
   .show(bif YE m m then _ else _)=_
    simp
   .rw[e1];exact g2
  .obtain⟨a1,a2,a3,a4,a5⟩:=Ei hs h2 hb (m+1) j s t hf
   have:YE m s=false:=by
    cases hb:YE m s with
    |false=>rfl
    |true=>have:=beq_true hb;omega
   refine⟨by omega,by rw[YT];omega,?_,?_,a5⟩
   .show(bif YE m s then _ else _)=_
    rw[this,cond_false];exact a3
   .show(bif YE m s then _ else _)=_
    rw[this,cond_false];exact a4
theorem cN{o:Nat}{l:List Nat}:iJ o l=true↔o∈l:=any_beq
theorem fA:{bs:Bs}->{j o:Nat}->find bs j=some (some o)->o∈ey bs
 |[],_,_,h=>by cases h
 |(i,u)::bs,j,o,h=>by
  rw[aw]at h;split at h
  .obtain rfl:=YA h;exact Zp
  .have:=fA h
   cases u with
   |none=>exact this
   |some q=>exact Zc _ this
theorem oK:{bs:Bs}->yt (ey bs)=true->{j j' o:Nat}->find bs j=some (some o)->find bs j'=some (some o)->j=j'
 |[],_,_,_,_,h,_=>by cases h
 |(i,u)::bs,hn,j,j',o,h,h'=>by
  rw[aw]at h h'
  cases u with
  |none=>
   split at h
   .cases h
   .split at h'
    .cases h'
    .exact oK (bs:=bs) hn h h'
  |some q=>
   obtain⟨hq,Dx⟩:=bE hn
   have hq:q∉ey bs:=fun e=>by rw[cN.2 e]at hq;cases hq
   split at h
   .rename_i e1;obtain rfl:q=o:=YA (YA h);split at h'
    .rename_i e2;exact e1.symm.trans e2
    .exact absurd (fA h') hq
   .split at h'
    .obtain rfl:q=o:=YA (YA h');exact absurd (fA h) hq
    .exact oK Dx h h'
theorem qS{nb nxt:Nat}:{bs:Bs}->Eh nb nxt bs=true->{j:Nat}->{u:Option Nat}->find bs j=some u->(j<nb->u=some j)/\(nb<=j->j<nxt)
 |[],_,_,_,h=>by cases h
 |(i,v)::bs,hk,j,u,h=>by
  obtain⟨h1,h2⟩:=bE hk;rw[aw]at h;split at h
  .rename_i e;subst e;obtain rfl:=YA h
   cases hb:Zl i nb with
   |true=>
    rw[hb,cond_true]at h1
    have:i<nb:=by simpa using hb
    exact⟨fun _=>sJ h1,fun _=>by omega⟩
   |false=>
    rw[hb,cond_false]at h1
    have hge:¬i<nb:=fun e=>by have:Zl i nb=true:=by simpa using e
                              rw[hb]at this;cases this
    exact⟨fun e=>absurd e hge,fun _=>by simpa using h1⟩
  .exact qS h2 h
theorem sN{objs:List (Nat×(Nat×Th))}{wa:List Nat}:{fr:List (Nat×(Nat×Th))}->yu objs wa fr=true->{o s:Nat}->{t:Th}->find fr o=some (s,t)->
 o∉wa/\∃t',find objs o=some (s,t')/\cR t'=cR t
 |[],_,_,_,_,h=>by cases h
 |(i,(s0,t0))::fr,hf,o,s,t,h=>by
  obtain⟨h1,h2⟩:=bE hf;obtain⟨h1,h3⟩:=bE h1;rw[aw]at h;split at h
  .rename_i e;subst e;simp only[YH,Zx]at h;obtain⟨rfl,rfl⟩:=h;split at h1
   .rename_i s' t' ho;obtain⟨h4,h5⟩:=bE h1;obtain rfl:=beq_true h4;refine⟨fun e=>(by rw[cN.2 e]at h3;cases h3),t',ho,?_⟩
    cases ha:cR t0<;>cases hb:cR t'<;>simp_all
   .cases h1
  .exact sN h2 h
theorem Ej{t t':Th}(h:t.base=t'.base)(hf:cR t=cR t'):t=t':=by
 cases t<;>cases t'<;>simp_all[Th.base,cR]
theorem qT{U':Nat->Prop}{H0:aj}{F0:Nat->Prop}{w0:World}{objs0:List (Nat×(Nat×Th))}{nb:Nat}{ns:List Nat}{J:JS}{ah:List (Nat×ag)}{objs aA:List (Nat×(Nat×Th))}{x:cx J.rows}{bs:Bs}{ρ:Nat->Value}
 (h:sM nb (del ns objs0) J ah objs=some (x,bs,aA))(G0:ak U H0 F0 w0 (find objs0) nb)(Ij:eI H0 nb)(hk:bA H0 F0 w0 H F w)(hs:ak U H F w (find objs) n)(eD:∀t d,find ah t=some d->af H F w d (ρ t)):
 ∃F1 H1,ak U H F1 w (find aA) n/\(∀b,F b->F1 b)/\(∀b,F1 b->F b\/bq H (find objs) (sL nb J ah objs) b)/\dz objs (sL nb J ah objs)=some aA/\H0.le H1/\jS H H1 bs/\eI H1 J.nxt/\
  (∀t d,find (b7 J.ah (ct J.rows x)).1 t=some d->af H1 F1 w d (ρ t))/\
  ((∀b,w.heap.size<=b->U' b)->(∀o s t v k,o∈ey bs->find aA o=some (s,t)->H.val o=some v->fp (H.sub s) v t k->U' k)->(∀o s t v k,find (del ns objs0) o=some (s,t)->H.val o=some v->fp (H.sub s) v t k->U' k)->
    ak U' H1 F1 w (find (ef nb J.objs (b7 J.ah (ct J.rows x)).2++del ns objs0)) J.nxt):=by
 unfold sM at h;split at h
 case h_1=>cases h
 rename_i O1 rQ;split at h
 case h_1=>cases h
 rename_i vs yr hS;split at h
 case h_1=>cases h
 rename_i us zY hO;obtain⟨hc,h'⟩:=ax h;clear h;split at h'
 case h_2=>cases h'
 rename_i x' hx;cases h';obtain⟨hc,If⟩:=bE hc;obtain⟨hc,GJ⟩:=bE hc;obtain⟨rM,vm⟩:=bE hc
 have GJ:nb+J.objs.length<=J.nxt:=by simpa using GJ
 obtain⟨F1,oC,xN,Gg⟩:=jR rQ hs
 have dC:Step F w F1 w:=fun b hb=>⟨xN b hb,rfl⟩
 have O2:∀t d,find ah t=some d->af H F1 w d (ρ t):=fun t d hd=>(eD t d hd).keep (aj.le.refl H) dC
 rw[ph hx]
 have Ek:∃cons,cons=ef nb J.objs us:=⟨_,rfl⟩
 obtain⟨cons,wc⟩:=Ek
 have we:H0.le (cX H nb bs cons (find aA)):=by
  have av:∀s t,H0.con s=some t->s<nb:=fun s t dC=>by
   rcases Nat.lt_or_ge s nb with h|h
   .exact h
   .rw[(Ij s h).2]at dC;cases dC
  refine⟨fun o v ho=>?_,fun s t dC=>?_,fun s t dC=>?_⟩
  .have:o<nb:=by
    rcases Nat.lt_or_ge o nb with h|h
    .exact h
    .rw[(Ij o h).1]at ho;cases ho
   simp[cX,this,hk.dU.val _ _ ho]
  .simp[cX,av s t dC,hk.dU.con _ _ dC]
  .simp[cX,av s t dC,hk.dU.sub _ _ dC]
 have oL:jS H (cX H nb bs cons (find aA)) bs:=by
  intro j u hj v hv;obtain⟨a1,a2⟩:=qS vm hj;by_cases av:j<nb
  .obtain rfl:=a1 av;simpa[cX,av,valOf]using hv
  .simpa[cX,av,hj]using hv
 have G1:jS H (cX H nb bs cons (find aA)) yr:=fun j v hj=>oL j v (ul hO j v hj)
 obtain⟨p1,p2⟩:=Ef oC O2 hS G1 us
 have z7:eI (cX H nb bs cons (find aA)) J.nxt:=fun m hm=>by
  have NI:¬m<nb:=by omega
  refine⟨?_,?_⟩
  .simp only[cX,if_neg NI];split
   .rename_i u hu;have:=(qS vm hu).2 (by omega);omega
   .rfl
  .simp only[cX,if_neg NI,wc];exact wb (by omega)
 refine⟨F1,cX H nb bs cons (find aA),oC,xN,Gg,rQ,we,oL,z7,p1,fun Us Ut Uu=>?_⟩;rw[p2,<-wc];have LD:=Ei (H':=cX H nb bs cons (find aA)) oC hO oL nb;rw[<-wc]at LD
 have part:∀o s t,find (cons++del ns objs0) o=some (s,t)->find cons o=some (s,t)\/find (del ns objs0) o=some (s,t):=by
  intro o s t ho;rw[eG]at ho
  cases hm:find cons o with
  |some y=>rw[hm]at ho;exact .inl ho
  |none=>rw[hm,ZW]at ho;exact .inr ho
 have tR:∀o s t,find (del ns objs0) o=some (s,t)->o∉ey bs/\find aA o=some (s,t)/\∃v,H.val o=some v/\(cX H nb bs cons (find aA)).val o=some v/\v.oneCell'=true/\(cX H nb bs cons (find aA)).con s=some t.base/\(cX H nb bs cons (find aA)).sub s=H.sub s/\eF (cX H nb bs cons (find aA)) F1 w (H.sub s) v t:=by
  intro o s t ho;obtain⟨q1,t',q2,q3⟩:=sN If ho;have Uv:=(eH.1 ho).2;obtain⟨v0,Lh,yv⟩:=G0.obj _ _ _ Uv;obtain⟨v1,p5,kV⟩:=oC.obj _ _ _ q2;have e1:=hk.dU.val _ _ Lh;rw[p5]at e1;obtain rfl:=YA e1;have e2:=hk.dU.con _ _ yv.con;rw[kV.con]at e2;have ht:=Ej (YA e2) q3;subst ht;refine⟨q1,q2,v1,p5,we.val _ _ Lh,kV.one,we.con _ _ yv.con,(we.sub _ _ yv.con).trans (hk.dU.sub _ _ yv.con).symm,?_⟩
  cases t' with
  |fdeep T d l=>exact kV.ok
  |deep T d l hh=>
   obtain⟨XV,_,_,e0,r0,_⟩:=yv.ok
   refine Ba.mono (show Ba F1 w T d.low _ v1 l (H.sub s)from kV.ok) (Step.refl F1 w) (fun _ _=>rfl) fun i x' hi A hA hr=>?_
   cases hh with
   |none=>exact hr
   |some h=>
    refine⟨hr.1,fun hh=>?_⟩;obtain⟨T',e,q,g1,g2,g3⟩:=hr.2 hh;obtain⟨_,_,q0,_,_,k3⟩:=(r0 i (by omega) hi).2 hh;have e3:=hk.dU.val _ _ k3;rw[g3]at e3;exact⟨T',e,q,g1,g2,by rw[YA e3];exact we.val _ _ k3⟩
  |box T tr=>
   obtain⟨b,es,e,g1,g2⟩:=kV.ok;obtain⟨b',gG,e',Oo,Uw⟩:=yv.ok;exact⟨b,es,e,g1,Holds.back hk.dU we Uw g2⟩
  |own T r l=>exact kV.ok
  |oj T r l=>exact kV.ok
  |fmap T K agg V l=>exact kV.ok
  |smap T K agg V l it=>
   obtain⟨b,es,clock,l',e,g0,g1,g2,g3,g4,g5⟩:=kV.ok;obtain⟨_,_,_,_,_,_,_,_,_,_,r5⟩:=yv.ok;refine⟨b,es,clock,l',e,g0,g1,g2,g3.dU,g4,g5.dU fun n' x u e hu=>?_⟩;subst e;obtain⟨_,_,_,_,_,_,NC,_⟩:=r5;have e3:=hk.dU.val _ _ NC;rw[hu]at e3;rw[YA e3];exact we.val _ _ NC
  |map T K agg V l=>
   obtain⟨b,es,clock,e,g1,g2,g3⟩:=kV.ok;exact⟨b,es,clock,e,g1,g2,g3.dU⟩
 have LF:∀o s t,find cons o=some (s,t)->∃v,(cX H nb bs cons (find aA)).val o=some v/\v.oneCell'=true/\(cX H nb bs cons (find aA)).con s=some t.base/\eF (cX H nb bs cons (find aA)) F1 w ((cX H nb bs cons (find aA)).sub s) v t/\
  ∀k,fp ((cX H nb bs cons (find aA)).sub s) v t k->∃o' s0 t0,find bs o=some (some o')/\find aA o'=some (s0,t0)/\H.val o'=some v/\fp (H.sub s0) v t0 k:=by
  intro o s t ho;obtain⟨a1,a2,a3,a4,u,v,b1,b2,b3,b4,b5,b6⟩:=LD o s t ho
  have dQ:(cX H nb bs cons (find aA)).sub s=qR H (find aA) (find bs o):=by
   simp only[cX];rw[if_neg (by omega),a4]
  rw[dQ];refine⟨v,oL o u b1 v b2,b3,?_,b5,fun k hk=>?_⟩
  .rw[b4];simp only[cX];rw[if_neg (by omega)];exact a3
  .obtain⟨o',s0,t0,c1,c2,c3,c4⟩:=b6 k hk;exact⟨o',s0,t0,by rw[b1,c1],c2,c3,c4⟩
 refine⟨fun o s t ho=>?_,fun o o' s s' t t' v v' b8 ho gm hv cQ k hk ig=>?_,fun m hm _=>z7 m hm,oC.lt,Us,oC.gl⟩
 .rcases part o s t ho with h1|h1
  .obtain⟨v,a1,a2,a3,a4,a5⟩:=LF o s t h1
   refine⟨v,a1,a2,a3,a4,fun k hk hF=>?_,fun k hk=>?_,fun k hk=>?_⟩<;>obtain⟨o',s0,t0,b1,b2,b3,b4⟩:=a5 k hk<;>obtain⟨v',cQ,bH⟩:=oC.obj _ _ _ b2
   all_goals
    rw[b3]at cQ;obtain rfl:=YA cQ
   .exact bH.no k b4 hF
   .exact bH.lt k b4
   .exact Ut _ _ _ _ _ (fA b1) b2 b3 b4
  .obtain⟨q1,q2,v,a1,a2,a3,a4,a6,a5⟩:=tR o s t h1;obtain⟨v',cQ,bH⟩:=oC.obj _ _ _ q2;rw[a1]at cQ;obtain rfl:=YA cQ;exact⟨v,a2,a3,a4,by rw[a6];exact a5,by rw[a6];exact bH.no,by rw[a6];exact bH.lt,fun k hk=>Uu _ _ _ _ _ h1 a1 (by rwa [a6]at hk)⟩
 .rcases part o s t ho with h1|h1<;>rcases part o' s' t' gm with h2|h2
  .obtain⟨u,a1,_,_,_,a5⟩:=LF o s t h1;obtain⟨u',c1,_,_,_,c5⟩:=LF o' s' t' h2;rw[hv]at a1;rw[cQ]at c1;obtain rfl:=YA a1;obtain rfl:=YA c1;obtain⟨p,s0,t0,d1,d2,d3,d4⟩:=a5 k hk;obtain⟨p',XW,XX,e1,e2,e3,e4⟩:=c5 k ig;refine oC.apart p p' _ _ _ _ _ _ (fun e=>b8 ?_) d2 e2 d3 e3 k d4 e4;subst e;exact oK rM d1 e1
  .obtain⟨u,a1,_,_,_,a5⟩:=LF o s t h1;obtain⟨q1,q2,u',c1,c2,_,_,c6,_⟩:=tR o' s' t' h2;rw[c6]at ig;rw[hv]at a1;rw[cQ]at c2;obtain rfl:=YA a1;obtain rfl:=YA c2;obtain⟨p,s0,t0,d1,d2,d3,d4⟩:=a5 k hk;exact oC.apart p o' _ _ _ _ _ _ (fun e=>q1 (e▸fA d1)) d2 q2 d3 c1 k d4 ig
  .obtain⟨u,a1,_,_,_,a5⟩:=LF o' s' t' h2;obtain⟨q1,q2,u',c1,c2,_,_,c6,_⟩:=tR o s t h1;rw[c6]at hk;rw[cQ]at a1;rw[hv]at c2;obtain rfl:=YA a1;obtain rfl:=YA c2;obtain⟨p,s0,t0,d1,d2,d3,d4⟩:=a5 k ig;exact oC.apart o p _ _ _ _ _ _ (fun e=>q1 (e▸fA d1)) q2 d2 c1 d3 k hk d4
  .obtain⟨q1,q2,u,c1,c2,_,_,c6,_⟩:=tR o s t h1;obtain⟨XY,Ux,u',NU,LG,_,_,Uy,_⟩:=tR o' s' t' h2;rw[c6]at hk;rw[Uy]at ig;rw[hv]at c2;rw[cQ]at LG;obtain rfl:=YA c2;obtain rfl:=YA LG;exact oC.apart o o' _ _ _ _ _ _ b8 q2 Ux c1 NU k hk ig
end
end Go.Proofs.YtbladfbbhijpmaaGreat
end
section
open _root_.Go.Addr.mk renaming injEq->Z2
open _root_.List.cons renaming injEq->ZM
open _root_.List renaming length_cons->YT
open _root_.Nat renaming add_zero->ZD,beq->YE,le_refl->YD
open _root_.Option.some renaming inj->YA,injEq->YH
open _root_.Prod.mk renaming injEq->Zx
open _root_.Go.Value.slice renaming injEq->ZV
namespace Go.Proofs.YtbladfbbhijpmaaGreat
open Go Go.RowKit
structure bU where
 inn:JS
 out:JS
 fn:cx inn.rows->Option (cx out.rows)
def rR:List Value->Value
 |[v]=>v
 |vs=> .tuple vs.toArray
structure aL(P:Program)(f:FuncId)(sg:bU):Prop where
 fn:∃fn,P.funcs[f]? =some fn/\(fn.name== "runtime.NumGoroutine")=false/\fn.body.isNone=false
 ok:∀x y,sg.fn x=some y->∀(args:List Value)(w:World)(H:aj)(F G:Nat->Prop),args.length=sg.inn.ah.length->
  (∀t d,find (b7 sg.inn.ah (ct _ x)).1 t=some d->af H F w d (args.getD t undef))->
  ak (fun k=>w.heap.size<=k\/G k) H F w (find (ef 0 sg.inn.objs (b7 sg.inn.ah (ct _ x)).2)) sg.inn.nxt->eI H sg.inn.nxt->(∀k,G k->¬F k)->
  Calls P f args.toArray w fun e w'=>∃vs,e= .returned (rR vs)/\vs.length=sg.out.ah.length/\∃H' F',Ext G w w'/\H.le H'/\(∀b,F b->F' b)/\(∀b,F' b->F b\/w.heap.size<=b\/G b)/\
   (∀t d,find (b7 sg.out.ah (ct _ y)).1 t=some d->af H' F' w' d (vs.getD t undef))/\
   ak (fun k=>w.heap.size<=k\/G k) H' F' w' (find (ef sg.inn.nxt sg.out.objs (b7 sg.out.ah (ct _ y)).2)) sg.out.nxt/\eI H' sg.out.nxt
def Sh.mA(φ:Nat->Nat):Sh->Sh
 | .leaf r=> .leaf r
 | .own j=> .own (φ j)
 | .nil=> .nil
 | .pair a b=> .pair (a.mA φ) (b.mA φ)
 | .junk n=> .junk n
def SS.mA(φ:Nat->Nat):SS->SS
 | .val agg t=> .val agg (t.mA φ)
 | .ptr j p off=> .ptr (φ j) p off
 | .at r=> .at r
 | .undef=> .undef
 | .fn f js=> .fn f (js.map fun c=>(φ c.1,c.2))
 | .ifc T s=> .ifc T (s.mA φ)
def OS.mA(φ:Nat->Nat):OS->OS
 | .box T t=> .box T (t.mA φ)
 | .own T r=> .own T r
 | .map T K agg V=> .map T K agg V
 | .deep T d=> .deep T d
 | .smap T K agg V it=> .smap T K agg V (it.map φ)
def nO(φ:Nat->Nat):List (Nat×SS)->List (Nat×SS)
 |[]=>[]
 |(t,s)::l=>(t,s.mA φ)::nO φ l
def wg(φ:Nat->Nat):List (Nat×OS)->List (Nat×OS)
 |[]=>[]
 |(j,s)::l=>(φ j,s.mA φ)::wg φ l
def Row.wh:Row->Bool
 | .slice _=>false
 | .map .. =>false
 | .pair a b=>a.wh&&b.wh
 |_=>true
def DR.ff(p:Row->Bool):DR->Bool
 | .leaf r=>p r
 | .sl _ d=>d.ff p
 | .pair a b=>a.ff p&&b.ff p
def Sh.ff(p:Row->Bool):Sh->Bool
 | .leaf r=>p r
 | .pair a b=>a.ff p&&b.ff p
 |_=>true
def SS.ff(p:Row->Bool):SS->Bool
 | .val _ t=>t.ff p
 | .at r=>p (.slice r)
 | .ifc _ s=>s.ff p
 |_=>true
def OS.ff(p:Row->Bool):OS->Bool
 | .box _ t=>t.ff p
 | .own _ r=>p r
 | .map _ _ _ V=>p V
 | .deep _ d=>d.ff p
 | .smap _ _ _ V _=>p V
def mV(p:Row->Bool):List (Nat×SS)->Bool
 |[]=>true
 |(_,s)::l=>s.ff p&&mV p l
def sO(p:Row->Bool):List (Nat×OS)->Bool
 |[]=>true
 |(_,s)::l=>s.ff p&&sO p l
section
variable {H H':aj} {F F':Nat->Prop} {w w':World} {φ:Nat->Nat} {p:Row->Bool}
theorem bF.yw:{r:Row}->{cs:List Value}->{x:r.den}->r.wh=true->bF F w r cs x->bF F' w' r cs x
 | .int _,_,_,_,h=>h
 | .bool,_,_,_,h=>h
 | .str,_,_,_,h=>h
 | .gW,_,_,_,h=>h
 | .nul _,_,_,_,h=>h
 | .map ..,_,_,hf,_=>by cases hf
 | .slice _,_,_,hf,_=>by cases hf
 | .pair a b,_,_,hf,h=>by
   obtain⟨c1,c2,e,h1,h2⟩:=h;obtain⟨f1,f2⟩:=bE hf;exact⟨c1,c2,e,bF.yw f1 h1,bF.yw f2 h2⟩
def Ren(H H':aj)(φ:Nat->Nat):Prop:=∀j v,H.val j=some v->H'.val (φ j)=some v
def pj(p:Row->Bool)(F F':Nat->Prop)(w:World):Prop:=∀r,p r=true->∀cs x,bF F w r cs x->bF F' w r cs x
theorem lf:(sh:Sh)->(vs:List fQ)->(kX (sh.mA φ) vs).2=(kX sh vs).2
 | .leaf r,[]=>rfl
 | .leaf r,_::_=>rfl
 | .own j,vs=>rfl
 | .nil,vs=>rfl
 | .pair a b,vs=>by
   show(kX (b.mA φ) (kX (a.mA φ) vs).2).2=_
   rw[lf a,lf b];rfl
 | .junk _,_=>rfl
theorem sP(s:SS)(vs:List fQ):(c7 (s.mA φ) vs).2=(c7 s vs).2:=by
 induction s with
 |ifc T s ih=>exact ih
 |val agg t=>exact lf t vs
 |ptr j p off=>rfl
 |«at» r=>cases vs<;>rfl
 |undef=>rfl
 |fn f js=>rfl
theorem sQ(s:OS)(vs:List fQ):(bW (s.mA φ) vs).2=(bW s vs).2:=by
 cases s with
 |box T t=>exact lf t vs
 |own T r=>rfl
 |map T K agg V=>rfl
 |deep T d=>rfl
 |smap T K agg V it=>
  cases it with
  |none=>cases vs<;>rfl
  |some n=>match vs with
   |[]=>rfl
   |[_]=>rfl
   |_::_::_=>rfl
theorem wi:(l:List (Nat×SS))->(vs:List fQ)->(b7 (nO φ l) vs).2=(b7 l vs).2
 |[],_=>rfl
 |(t,s)::l,vs=>by
  show(b7 (nO φ l) (c7 (s.mA φ) vs).2).2=(b7 l (c7 s vs).2).2
  rw[sP,wi l]
theorem nP(hr:Ren H H' φ)(hm:pj p F F' w):{sh:Sh}->{vs:List fQ}->{cs:List Value}->sh.ff p=true->Holds H F w (kX sh vs).1 cs->Holds H' F' w (kX (sh.mA φ) vs).1 cs
 | .leaf r,[],cs,_,h=>h
 | .leaf r,⟨s,x⟩::vs,cs,hp,h=>by
   have h':Holds H F w (bif s.beq r then Tree.leaf s x else .nil) cs:=h
   show Holds H' F' w (bif s.beq r then Tree.leaf s x else .nil) cs
   cases hb:s.beq r with
   |true=>
    rw[hb,cond_true]at h';obtain rfl:=Row.eq_of_beq hb;exact hm _ hp _ _ h'
   |false=>rw[hb]at h';exact h'
 | .own j,vs,cs,_,h=>by obtain⟨v,h1,h2⟩:=h;exact⟨v,hr j v h1,h2⟩
 | .nil,vs,cs,_,h=>h
 | .pair a b,vs,cs,hp,h=>by
   obtain⟨c1,c2,e,h1,h2⟩:=h;obtain⟨p1,p2⟩:=bE hp;refine⟨c1,c2,e,nP hr hm p1 h1,?_⟩;rw[lf a];exact nP hr hm p2 h2
 | .junk _,vs,cs,_,h=>h
theorem gn.mA(hr:Ren H H' φ):{cs:List (Nat×List Bool×Nat)}->{vs:List Value}->gn H cs vs->gn H' (cs.map fun c=>(φ c.1,c.2)) vs
 |[],_,h=>h
 |_::_,_,h=>by obtain⟨v,us,e,⟨b,h1,h2⟩,h3⟩:=h;exact⟨v,us,e,⟨b,hr _ _ h1,h2⟩,gn.mA hr h3⟩
theorem BM(hr:Ren H H' φ)(hm:pj p F F' w){s:SS}{vs:List fQ}{v:Value}(hp:s.ff p=true)(h:af H F w (c7 s vs).1 v):af H' F' w (c7 (s.mA φ) vs).1 v:=by
 induction s generalizing v with
 |ifc T s ih=>
  obtain⟨u,e,h2⟩:=h;exact⟨u,e,ih hp h2⟩
 |val agg t=>
  obtain⟨cs,h1,h2⟩:=h;exact⟨cs,nP hr hm hp h1,h2⟩
 |ptr j p off=>
  obtain⟨b,h1,h2⟩:=h;exact⟨b,hr _ _ h1,h2⟩
 |«at» r=>
  match vs,h with
  |[],h=>exact h
  |⟨s,x⟩::vs,h=>
   have h':af H F w (bif s.beq r then ag.at s x else .dead) v:=h
   show af H' F' w (bif s.beq r then ag.at s x else .dead) v
   cases hb:s.beq r with
   |false=>trivial
   |true=>
    rw[hb,cond_true]at h';obtain rfl:=Row.eq_of_beq hb;obtain⟨b,off,rfl,hF,es,h1,h2,h3⟩:=h'
    have eD:bF F w (.slice s) [.slice (some ⟨b,off,none⟩) 1 1] [x]:=⟨some ⟨b,off,none⟩,1,rfl,YD _,by unfold maxLen;omega,fun i hi=>by
     have e:i=0:=by simp at hi;omega
     subst e
     exact⟨b,off,es,rfl,hF,h1,fun j u hu=>by rw[Nat.zero_mul,ZD];exact h2 j u hu,h3⟩⟩
    obtain⟨A,cap,e1,_,_,pF⟩:=hm (.slice s) hp _ _ eD;obtain⟨b',cF,gG,hA,g1,g2,g3,g4⟩:=pF 0 (by simp);simp only[ZM,ZV,and_true]at e1;obtain⟨e1,_,_⟩:=e1;rw[<-e1]at hA;simp only[YH,Z2,and_true]at hA;obtain⟨rfl,rfl⟩:=hA;exact⟨b,off,rfl,g1,gG,g2,fun j u hu=>by have:=g3 j u hu;rwa [Nat.zero_mul,ZD]at this,g4⟩
 |undef=>exact h
 |fn f js=>
  obtain⟨us,h1,h2⟩:=h;exact⟨us,h1,h2.mA hr⟩
theorem dD.kN{K:Row}{agg:Bool}{V:Row}(hm:∀cs x,bF F w V cs x->bF F' w' V cs x):{es:List MapEntry}->{l:List (K.den×V.den)}->dD H F w K agg V es l->dD H' F' w' K agg V es l
 |[],_,h=>h
 |_::_,_,h=>by
  obtain⟨k,x,l',e,h1,⟨cs,h2,rJ⟩,h3⟩:=h;exact⟨k,x,l',e,h1,⟨cs,hm _ _ h2,rJ⟩,dD.kN hm h3⟩
theorem bF.qU(hm:pj p F F' w):{d:DR}->{cs:List Value}->{x:d.low.den}->d.ff p=true->bF F w d.low cs x->bF F' w d.low cs x
 | .leaf r,_,_,hp,h=>hm r hp _ _ h
 | .sl _ _,_,_,_,h=>h
 | .pair a b,_,_,hp,h=>by
   obtain⟨p1,p2⟩:=bE hp;obtain⟨c1,c2,e,h1,h2⟩:=h;exact⟨c1,c2,e,bF.qU hm p1 h1,bF.qU hm p2 h2⟩
theorem gJ.kN(hm:pj p F F' w){d:DR}(hp:d.ff p=true){T:TypeId}{v:Value}{l:List d.low.den}(h:gJ F w T d.low v l):gJ F' w T d.low v l:=by
 obtain⟨xs,h1,h2⟩:=h;exact⟨xs,h1,fun i hi=>bF.qU hm hp (h2 i hi)⟩
theorem fO.kN(hm:pj p F F' w):{d:DR}->{x':d.low.den}->{x:d.row.den}->{S:Nat->Prop}->d.ff p=true->fO F w d x' x S->fO F' w d x' x S
 | .leaf _,_,_,_,_,h=>h
 | .sl _ d,_,_,_,hp,h=>by
   obtain⟨lh,Ss,h1,h2,h3,h4⟩:=h;exact⟨lh,Ss,h1.kN hm (show d.ff p=true from hp),h2,fun i a b=>fO.kN hm (show d.ff p=true from hp) (h3 i a b),h4⟩
 | .pair a b,_,_,_,hp,h=>by
   obtain⟨p1,p2⟩:=bE hp;obtain⟨A,B,h1,h2,h3⟩:=h;exact⟨A,B,fO.kN hm p1 h1,fO.kN hm p2 h2,h3⟩
theorem yx(T:TypeId)(d:DR):(vs:List fQ)->∃l,(bW (.deep T d) vs).1= .deep T d l none
 |[]=>⟨[],rfl⟩
 |⟨.slice s,l⟩::vs=>by
  unfold bW;simp only
  split<;>exact⟨_,rfl⟩
 |⟨.int _,_⟩::_|⟨.bool,_⟩::_|⟨.str,_⟩::_|⟨.gW,_⟩::_|⟨.nul _,_⟩::_|⟨.pair _ _,_⟩::_|⟨.map ..,_⟩::_=>⟨[],rfl⟩
theorem BN(T:TypeId)(K:Row)(agg:Bool)(V:Row):(vs:List fQ)->∃l,(bW (.map T K agg V) vs).1= .map T K agg V l
 |[]=>⟨[],rfl⟩
 |⟨.slice (.pair K' V'),l⟩::vs=>by
  unfold bW;simp only
  split<;>exact⟨_,rfl⟩
 |⟨.slice (.int _),_⟩::_|⟨.slice .bool,_⟩::_|⟨.slice .str,_⟩::_|⟨.slice (.slice _),_⟩::_|⟨.slice .gW,_⟩::_|⟨.slice (.nul _),_⟩::_|⟨.slice (.map ..),_⟩::_=>⟨[],rfl⟩
 |⟨.int _,_⟩::_|⟨.bool,_⟩::_|⟨.str,_⟩::_|⟨.gW,_⟩::_|⟨.nul _,_⟩::_|⟨.pair _ _,_⟩::_|⟨.map ..,_⟩::_=>⟨[],rfl⟩
theorem oM(hr:Ren H H' φ)(hm:pj p F F' w){s:OS}{vs:List fQ}{S:Nat->Prop}{v:Value}(hp:s.ff p=true)(h:eF H F w S v (bW s vs).1):
 eF H' F' w S v (bW (s.mA φ) vs).1/\(bW (s.mA φ) vs).1.base=(bW (s.mA φ) vs).1/\(∀k,fp S v (bW (s.mA φ) vs).1 k->fp S v (bW s vs).1 k):=by
 have own:∀(T:TypeId)(q:Row)(l:List q.den),p q=true->eF H F w S v (.own T q l)->eF H' F' w S v (.own T q l):=fun T q l hq ⟨xs,hx,h3⟩=>⟨xs,hx,fun i hi=>hm q hq _ _ (h3 i hi)⟩
 cases s with
 |box T t=>
  obtain⟨b,es,e,h1,h2⟩:=h;exact⟨⟨b,es,e,h1,nP hr hm hp h2⟩,rfl,fun k hk=>hk⟩
 |own T r=>
  match vs,h with
  |[],h=>exact⟨own T r [] hp h,rfl,fun _ h=>h⟩
  |⟨.slice s,l⟩::vs,h=>
   have h':eF H F w S v (bif s.beq r then Th.own T s l else .own T r []):=h
   show eF H' F' w S v (bif s.beq r then Th.own T s l else .own T r [])/\Th.base (bif s.beq r then Th.own T s l else .own T r [])=(bif s.beq r then Th.own T s l else .own T r [])/\∀k,fp S v (bif s.beq r then Th.own T s l else .own T r []) k->fp S v (bif s.beq r then Th.own T s l else .own T r []) k
   cases hb:s.beq r with
   |true=>
    rw[hb,cond_true]at h';obtain rfl:=Row.eq_of_beq hb;exact⟨own T s l hp h',rfl,fun _ h=>h⟩
   |false=>
    rw[hb,cond_false]at h';exact⟨own T r [] hp h',rfl,fun _ h=>h⟩
  |⟨.int _,_⟩::vs,h=>exact⟨own T r [] hp h,rfl,fun _ h=>h⟩
  |⟨.bool,_⟩::vs,h=>exact⟨own T r [] hp h,rfl,fun _ h=>h⟩
  |⟨.str,_⟩::vs,h=>exact⟨own T r [] hp h,rfl,fun _ h=>h⟩
  |⟨.gW,_⟩::vs,h=>exact⟨own T r [] hp h,rfl,fun _ h=>h⟩
  |⟨.nul _,_⟩::vs,h=>exact⟨own T r [] hp h,rfl,fun _ h=>h⟩
  |⟨.map ..,_⟩::vs,h=>exact⟨own T r [] hp h,rfl,fun _ h=>h⟩
  |⟨.pair _ _,_⟩::vs,h=>exact⟨own T r [] hp h,rfl,fun _ h=>h⟩
 |map T K agg V=>
  have gen:∀l:List (K.den×V.den),eF H F w S v (.map T K agg V l)->eF H' F' w S v (.map T K agg V l):=by
   rintro l ⟨b,es,clock,e,h1,h2,h3⟩
   exact⟨b,es,clock,e,h1,h2,dD.kN (fun cs x hr=>hm V hp cs x hr) h3⟩
  obtain⟨l,hl⟩:=BN T K agg V vs
  show eF H' F' w S v (bW (OS.map T K agg V) vs).1/\(bW (OS.map T K agg V) vs).1.base=(bW (OS.map T K agg V) vs).1/\∀k,fp S v (bW (OS.map T K agg V) vs).1 k->fp S v (bW (OS.map T K agg V) vs).1 k
  rw[hl]at h⊢;exact⟨gen l h,rfl,fun _ h=>h⟩
 |deep T d=>
  obtain⟨l,hl⟩:=yx T d vs
  show eF H' F' w S v (bW (OS.deep T d) vs).1/\(bW (OS.deep T d) vs).1.base=(bW (OS.deep T d) vs).1/\∀k,fp S v (bW (OS.deep T d) vs).1 k->fp S v (bW (OS.deep T d) vs).1 k
  rw[hl]at h⊢;refine⟨?_,rfl,fun _ h=>h⟩;have h':fO F w (.sl T d) v l S:=h;exact(fO.kN (d:= .sl T d) hm hp h':fO F' w (.sl T d) v l S)
 |smap T K agg V it=>
  have gen:∀(l:List (K.den×V.den)),eF H F w S v (.smap T K agg V l none)->eF H' F' w S v (.smap T K agg V l none):=by
   rintro l ⟨b,es,clock,l',e,h0,h1,h2,h3,h4,_⟩
   exact⟨b,es,clock,l',e,h0,h1,h2,dD.kN (fun cs x hr=>hm V hp cs x hr) h3,h4,trivial⟩
  have O4:∀(n:Nat)(l left:List (K.den×V.den)),eF H F w S v (.smap T K agg V l (some (n,left,none)))->eF H' F' w S v (.smap T K agg V l (some (φ n,left,none))):=by
   rintro n l left ⟨b,es,clock,l',e,h0,h1,h2,h3,h4,r,since,seen,last,i1,i2,i3,i4,i5,i6,i7,⟨l2,i8,i9⟩,_⟩
   exact⟨b,es,clock,l',e,h0,h1,h2,dD.kN (fun cs x hr=>hm V hp cs x hr) h3,h4,r,since,seen,last,i1,i2,hr _ _ i3,i4,i5,i6,i7,⟨l2,dD.kN (fun cs x hr=>hm V hp cs x hr) i8,i9⟩,fun p hp=>by cases hp⟩
  cases it with
  |none=>
   match vs,h with
   |[],h=>exact⟨gen _ h,rfl,fun _ h=>h⟩
   |_::_,h=>exact⟨gen _ h,rfl,fun _ h=>h⟩
  |some n=>
   match vs,h with
   |[],h=>exact⟨gen _ h,rfl,fun _ h=>h⟩
   |[_],h=>exact⟨gen _ h,rfl,fun _ h=>h⟩
   |_::_::_,h=>exact⟨O4 _ _ _ h,rfl,fun _ h=>h⟩
theorem sR:{l:List (Nat×SS)}->{vs:List fQ}->{t:Nat}->{d:ag}->mV p l=true->find (b7 (nO φ l) vs).1 t=some d->∃s us,d=(c7 (s.mA φ) us).1/\find (b7 l vs).1 t=some (c7 s us).1/\s.ff p=true
 |[],_,_,_,_,h=>by cases h
 |(t0,s)::l,vs,t,d,hp,h=>by
  obtain⟨p1,p2⟩:=bE hp;have h':find ((t0,(c7 (s.mA φ) vs).1)::(b7 (nO φ l) (c7 (s.mA φ) vs).2).1) t=some d:=h
  show∃s' us,d=_/\find ((t0,(c7 s vs).1)::(b7 l (c7 s vs).2).1) t=_/\_
  rw[aw]at h';by_cases e:t0=t
  .rw[if_pos e]at h';exact⟨s,vs,(YA h').symm,by rw[aw,if_pos e],p1⟩
  .rw[if_neg e]at h';rw[sP]at h';obtain⟨s',us,a1,a2,a3⟩:=sR p2 h';exact⟨s',us,a1,by rw[aw,if_neg e];exact a2,a3⟩
theorem El(hr:Ren H H' φ)(hm:pj p F F' w){ρ:Nat->Value}{l:List (Nat×SS)}{vs:List fQ}(hp:mV p l=true)(h:∀t d,find (b7 l vs).1 t=some d->af H F w d (ρ t)):∀t d,find (b7 (nO φ l) vs).1 t=some d->af H' F' w d (ρ t):=by
 intro t d hf;obtain⟨s,us,rfl,h2,h3⟩:=sR hp hf;exact BM hr hm h3 (h t _ h2)
theorem wj{m m':Nat}:{l:List (Nat×OS)}->{vs:List fQ}->{o s:Nat}->{t:Th}->find (ef m (wg φ l) vs) o=some (s,t)->∃j s' us sh,φ j=o/\t=(bW (sh.mA φ) us).1/\find (ef m' l vs) j=some (s',(bW sh us).1)/\(sO p l=true->sh.ff p=true)/\nN (ef m (wg φ l) vs) s=some t/\m<=s/\s<m+l.length/\s'=s-m+m'
 |[],_,_,_,_,h=>by cases h
 |(j,sh)::l,vs,o,s,t,h=>by
  have h':find ((φ j,(m,(bW (sh.mA φ) vs).1))::ef (m+1) (wg φ l) (bW (sh.mA φ) vs).2) o=some (s,t):=h;rw[aw]at h';split at h'
  .rename_i e;simp only[YH,Zx]at h';obtain⟨rfl,rfl⟩:=h';refine⟨j,m',vs,sh,e,rfl,?_,fun hp=>(bE hp).1,?_,YD _,by simp,by omega⟩
   .show find ((j,(m',(bW sh vs).1))::_) j=_
    rw[aw,if_pos rfl]
   .show(bif YE m m then _ else _)=_
    simp
  .rename_i e;rw[sQ]at h';obtain⟨j',s',us,Sz,a1,a2,a3,a4,a5,a6,a7,a8⟩:=wj (m':=m'+1) h';refine⟨j',s',us,Sz,a1,a2,?_,fun hp=>a4 (bE hp).2,?_,by omega,by rw[YT];omega,by omega⟩
   .show find ((j,(m',(bW sh vs).1))::ef (m'+1) l (bW sh vs).2) j'=_
    rw[aw,if_neg (fun e'=>e (by rw[e',a1]))];exact a3
   .show(bif YE m s then _ else nN (ef (m+1) (wg φ l) (bW (sh.mA φ) vs).2) s)=_
    have:YE m s=false:=by
     cases hb:YE m s with
     |false=>rfl
     |true=>have:=beq_true hb;omega
    rw[this,cond_false,sQ];exact a5
def yy:List (Nat×ag)->Option (List (Bool×Tree))
 |[]=>some []
 |(_, .val a t)::l=>match yy l with
  |some ds=>some ((a,t)::ds)
  |none=>none
 |_::_=>none
def Em:List (Nat×ag)->Option ag
 |[]=>some .dead
 |[(_,d)]=>some d
 |l=>match yy l with
  |some ds=>some (.tup ds)
  |none=>none
def oN:Nat->List (Nat×SS)->Bool
 |_,[]=>true
 |k,(t,_)::l=>YE t k&&oN (k+1) l
theorem z8:{l:List (Nat×SS)}->{vs:List fQ}->{k t:Nat}->{d:ag}->oN k l=true->find (b7 l vs).1 t=some d->k<=t
 |[],_,_,_,_,_,h=>by cases h
 |(t0,s)::l,vs,k,t,d,hi,h=>by
  obtain⟨h1,h2⟩:=bE hi;have h':find ((t0,(c7 s vs).1)::(b7 l (c7 s vs).2).1) t=some d:=h;rw[aw]at h';have:=beq_true h1;split at h'
  .omega
  .have:=z8 h2 h';omega
theorem Eo{f:Nat->Value}:{l:List (Nat×SS)}->{vs:List fQ}->{k:Nat}->{ds:List (Bool×Tree)}->oN k l=true->(∀t d,find (b7 l vs).1 t=some d->af H F w d (f t))->yy (b7 l vs).1=some ds->nC H F w ds ((List.range' k l.length).map f)
 |[],_,_,_,_,_,h=>by cases h;rfl
 |(t0,s)::l,vs,k,ds,hi,iV,h=>by
  obtain⟨h1,h2⟩:=bE hi;obtain rfl:=beq_true h1;have h':yy ((t0,(c7 s vs).1)::(b7 l (c7 s vs).2).1)=some ds:=h;have LH:∀t d,find ((t0,(c7 s vs).1)::(b7 l (c7 s vs).2).1) t=some d->af H F w d (f t):=iV;have h0:=LH t0 _ (by rw[aw,if_pos rfl]);generalize(c7 s vs).1=d0 at*
  cases d0<;>unfold yy at h'<;>try cases h'
  rename_i a t
  split at h'<;>cases h'
  rename_i NK p6;refine⟨f t0,(List.range' (t0+1) l.length).map f,by simp[List.range'_succ],h0,Eo h2 (fun t d hf=>LH t d ?_) p6⟩;have:=z8 h2 hf;rw[aw,if_neg (by omega)];exact hf
theorem wk:{l:List (Nat×SS)}->{k:Nat}->oN k (nO φ l)=oN k l
 |[],_=>rfl
 |(t,s)::l,k=>by
  show(YE t k&&oN (k+1) (nO φ l))=_
  rw[wk];rfl
theorem pk:{l:List (Nat×SS)}->(nO φ l).length=l.length
 |[]=>rfl
 |(t,s)::l=>by
  show(nO φ l).length+1=l.length+1
  rw[pk]
theorem yz(us:List Value):(List.range' 0 us.length).map (fun t=>us.getD t undef)=us:=by
 apply List.ext_getElem (by simp);intro i h1 h2;simp[List.getD,h2]
theorem Jb{l:List (Nat×SS)}{vs:List fQ}{us:List Value}{D:ag}(hi:oN 0 l=true)(hl:us.length=l.length)(iV:∀t d,find (b7 l vs).1 t=some d->af H F w d (us.getD t undef))(h:Em (b7 l vs).1=some D):af H F w D (rR us):=by
 have tup:∀ds,yy (b7 l vs).1=some ds->us.length≠1->af H F w (.tup ds) (rR us):=by
  intro ds p6 b8;have:=Eo hi iV p6;rw[<-hl,yz]at this;refine⟨us,?_,this⟩
  match us,b8 with
  |[],_=>rfl
  |[_],h=>exact absurd rfl h
  |_::_::_,_=>rfl
 match l,hl,h with
 |[],_,h=>obtain rfl:=YA h;trivial
 |[(t,s)],hl,h=>
  have h':Em [(t,(c7 s vs).1)]=some D:=h;obtain rfl:=YA h';have ht:=beq_true (bE hi).1
  match us,hl with
  |[u],_=>
   have:=iV t (c7 s vs).1 (by
    show find [(t,(c7 s vs).1)] t=_
    rw[aw,if_pos rfl])
   rw[ht]at this;exact this
 |(t,s)::(t',s')::l,hl,h=>
  have h':(match yy (b7 ((t,s)::(t',s')::l) vs).1 with|some ds=>some (ag.tup ds)|none=>none)=some D:=h;split at h'
  .rename_i ds p6;obtain rfl:=YA h';exact tup ds p6 (by simp at hl;omega)
  .cases h'
end
end Go.Proofs.YtbladfbbhijpmaaGreat
end
