/- Joined texts: Smap Apd Pack2 Call Call2 Ifc. -/
import Derived.Test.YtfeahmiobbjklaaGreatDoorU2
import Derived.Maps.RangeRun
set_option linter.defProp false
open _root_.Bool renaming false->ag,true->af
open _root_.Option renaming none->ae,some->aa,isSome_iff_exists->arw
open _root_.Array renaming getElem?_eq_some_iff->ary,toList_filter->asr
open _root_.Go.ChangeMaps renaming setBlock->asb
open _root_.Go.Instr renaming findAsking->asy,findNow->arN,lookup->asx,mapUpdate->ar2
open _root_.List renaming filter_eq_self->asq,mem_cons->arx,mem_filter->arK,pairwise_cons->arb,getElem_append_right->arJ
open _root_.Go.MapKept renaming run_getObj_map->arD,run_setObj_map->ar9
open _root_.Nat renaming beq->aqV,le_refl->aqU,lt_of_lt_of_le->arh,blt->aru
open _root_.Option.some renaming inj->aqP,injEq->aq2
open _root_.Go.Result renaming andThen->aq5
open _root_.Go.Value renaming ownBlock->are
open _root_.List.cons renaming injEq->arV
open _root_.Go.Value.slice renaming injEq->asf
open _root_.Go.Sem renaming run_bind->arj
namespace Go.Proofs.YtfeahmiobbjklaaGreatDoor
open Go Go.RowKit
set_option maxRecDepth 100000
set_option linter.unusedSimpArgs false
set_option linter.unusedVariables false
set_option linter.defProp false
section
open Go Go.RowKit Go.MapKept
def Qa:(K:Row)->K.den->K.den->Bool
 | .int _,a,b=>decide ((a:Int)<b)
 | .pair (.int _) (.int _),a,b=>decide ((a.1:Int)<b.1\/((a.1:Int)=b.1/\(a.2:Int)<b.2))
 |_,_,_=>ag
def FL{α:Type}(K:Row):List (K.den×α)->K.den->α->List (K.den×α)
 |[],k,v=>[(k,v)]
 |p::l,k,v=>if Qa K k p.1=af then(k,v)::p::l else p::FL K l k v
noncomputable def uG{α:Type}(K:Row)(l:List (K.den×α))(k:K.den)(v:α):List (K.den×α):=FL K (l.filter λp=> !gf K p.1 k) k v
theorem uc{α:Type}{K:Row}(k:K.den)(v:α):(l:List (K.den×α))->(FL K l k v).Perm ((k,v)::l)
 |[]=> .refl _
 |p::l=>by
  unfold FL;split
  .exact .refl _
  .exact((uc k v l).cons p).trans (.swap ..)
theorem sZ{K:Row}{a b:K.den}(h:gf K a b=af):a=b:=by
 unfold gf at h;split at h
 all_goals grind
theorem vf{K:Row}{a b:K.den}(h:gf K a b=ag):gf K b a=ag:=by
 grind [sZ]
def DO{α:Type}(K:Row)(l:List (K.den×α)):Prop:=l.Pairwise λp q=>gf K p.1 q.1=ag
def DO.perm{α:Type}{K:Row}{l l':List (K.den×α)}(h:l'.Perm l)(hd:DO K l):DO K l':=(h.pairwise_iff λ{a b}=>vf).2 hd
def I4{α:Type}{K:Row}{x:K.den}{l l':List (K.den×α)}(h:l'.Perm l):DO K l'->cy K l' x=cy K l x:=by
 induction h with
 |nil=>intro _;rfl
 |cons p _ ih=>
  intro hd;unfold cy;rw[ih (arb.1 hd).2]
 |swap p q l=>
  intro hd;have Y6:=(arb.1 hd).1 p (by simp)
  grind [cy,sZ]
 |trans h1 h2 ih1 ih2=>intro hd;exact(ih1 hd).trans (ih2 (hd.perm h1.symm))
section
variable {P:Program} {ρ:Nat->Value} {w w':World} {H H':aN} {F F':Nat->Prop} {U:Nat->Prop} {ob:Nat->Option (Nat×Th)} {n:Nat} {R:Type}
variable {op:Op} {ty:TypeId} {pos:String} {aft:Array Edge} {d:Nat}
theorem v8{K:Row}{agg:Bool}{V:Row}:{es:List MapEntry}->{l:List (K.den×V.den)}->iP H F w K agg V es l->∀q∈l,∃e∈es,mS K q.1=aa e.key/\bg H F w agg (.leaf V q.2) e.val
 |[],l,h=>by obtain rfl:l=[]:=h;grind
 |e::es,_,h=>by
  obtain⟨k,x,l',rfl,h1,h2,h3⟩:=h;intro q hq
  rcases arx.1 hq with rfl|hq
  .grind
  .obtain⟨e',za,g⟩:=v8 h3 q hq
   grind
theorem rm{K:Row}{agg:Bool}{V:Row}:{es:List MapEntry}->{l:List (K.den×V.den)}->iP H F w K agg V es l->∀e∈es,∃q∈l,mS K q.1=aa e.key/\bg H F w agg (.leaf V q.2) e.val
 |[],_,_=>λe he=>by cases he
 |e::es,_,h=>by
  obtain⟨k,x,l',rfl,h1,h2,h3⟩:=h;intro e' he
  rcases arx.1 he with rfl|he
  .simp_all
  .obtain⟨q,hq,g⟩:=rm h3 e' he
   grind
def ud{K:Row}{agg:Bool}{V:Row}:{es:List MapEntry}->{l:List (K.den×V.den)}->iP H F w K agg V es l->(es.map (·.key)).Nodup->DO K l
 |[],l,h,_=>by obtain rfl:l=[]:=h;exact .nil
 |e::es,_,h,hn=>by
  obtain⟨k,x,l',rfl,h1,h2,h3⟩:=h;obtain⟨n1,n2⟩:=List.nodup_cons.1 hn;refine arb.2 ⟨λq hq=>?_,ud h3 n2⟩
  grind [v8,k7]
def Cm{K:Row}{agg:Bool}{V:Row}{e:MapEntry}:{es:List MapEntry}->{l:List (K.den×V.den)}->iP H F w K agg V es l->(es.map (·.born)).Nodup->e∈es->
 ∃p l2,mS K p.1=aa e.key/\bg H F w agg (.leaf V p.2) e.val/\iP H F w K agg V (es.filter λx=> !(x.born==e.born)) l2/\l.Perm (p::l2)
 |[],_,_,_,he=>by cases he
 |e'::es,_,h,hn,he=>by
  obtain⟨k,x,l',rfl,h1,h2,h3⟩:=h;obtain⟨n1,n2⟩:=List.nodup_cons.1 hn;by_cases hb:e'.born=e.born
  .have eG:e∉es:=(by grind)
   grind [asq]
  .have za:e∈es:=(by grind)
   obtain⟨p,l2,g1,g2,g3,g4⟩:=Cm h3 n2 za;rw[List.filter_cons_of_pos (by simpa using hb)];exact⟨p,(k,x)::l2,g1,g2,⟨k,x,l2,rfl,h1,h2,g3⟩,(g4.cons _).trans (.swap ..)⟩
def ad3(P:Program)(t:TypeId):Prop:=∀(em:Bool)(a b:Value)(w:World),(Instr.checkKey em 10000 t (.agg #[a,b])).run P w= .ok () w
def Na(T:bz P)(kt:TypeId):Row->Bool
 | .pair (.int j) (.int k)=>match find T.eqs kt with
   |some r=>r.beq (.pair (.int j) (.int k))&&T.kys.any (aqV kt)
   |none=>ag
 |_=>ag
structure W0(P:Program)(kt:TypeId)(K:Row):Prop where
 chk:∀em x v(w:World),mS K x=aa v->(Instr.checkKey em 10000 kt v).run P w= .ok () w
 find:∀x v(w:World)(es:List MapEntry),mS K x=aa v->(∀e∈es,∃k,mS K k=aa e.key)->
  ((Instr.findKey kt v es).run P w= .ok ae w/\∀e∈es,e.key≠v)\/∃j e,(Instr.findKey kt v es).run P w= .ok (aa (j,e.val)) w/\es[j]? =aa e/\e.key=v
 stays:∀x v(w:World),mS K x=aa v->(Instr.keyThatStays v v).run P w= .ok v w
 rep:∀(F:Nat->Prop)(w:World)cs x,dy F w K cs x->mS K x=aa (.agg cs.toArray)
def KX(T:bz P){kt:TypeId}{K:Row}(h:Na T kt K=af):W0 P kt K:=by
 unfold Na at h;split at h
 case h_2=>cases h
 rename_i j k;split at h
 case h_2=>cases h
 rename_i r he;obtain⟨h1,h2⟩:=c7 h;obtain rfl:=Row.eq_of_beq h1;obtain⟨KK,dd,hE,hd,_,hD⟩:=T.eqs_ok _ _ he;have hck:ad3 P kt:=T.kys_ok _ (any_beq.1 h2)
 have rep:∀(F:Nat->Prop)(w:World)cs(x:Int×Int),dy F w (.pair (.int j) (.int k)) cs x->cs=[.int j x.1, .int k x.2]:=by
  rintro F w cs x ⟨c1,c2,rfl,g1,g2⟩
  rw[show c1=_ from g1,show c2=_ from g2];rfl
 have mk:∀(x:Int×Int)(w:World),dy (λ_=>True) w (.pair (.int j) (.int k)) [.int j x.1, .int k x.2] x:=λx w=>⟨[_],[_],rfl,rfl,rfl⟩
 cases hu:P.underlying kt with
 |none=>grind
 |some D=>
  have hA:jV D=af:=by rw[hu]at hD;exact hD
  have zH:∀(x y:Int×Int)(w:World),(Op.equal kt (.agg #[.int j x.1, .int k x.2]) (.agg #[.int j y.1, .int k y.2])).run P w= .ok (decide (x=y)) w:=λx y w=>by
   have:=hE dd w w (λ_=>True) _ _ x y (.agg #[.int j x.1, .int k x.2]) (.agg #[.int j y.1, .int k y.2]) ⟨D,hu,by rw[aj hA]⟩ ⟨D,hu,by rw[aj hA]⟩ (mk x w) (mk y w);rw[hd]at this;unfold Op.equal;rw[show Op.maxDepth=10000 from rfl,this]
  have ZU:∀(x:Int×Int)(e:MapEntry)(es:List MapEntry)i,arN D (.agg #[.int j x.1, .int k x.2]) (e::es) i=ae:=λx e es i=>by
   unfold arN Instr.sameNow
   grind
  have ask:∀(x:Int×Int)(w:World)(es:List MapEntry)(i:Nat),(∀e∈es,∃y:Int×Int,e.key= .agg #[.int j y.1, .int k y.2])->
   ((asy kt (.agg #[.int j x.1, .int k x.2]) es i).run P w= .ok ae w/\∀e∈es,e.key≠ .agg #[.int j x.1, .int k x.2])\/∃q e,(asy kt (.agg #[.int j x.1, .int k x.2]) es i).run P w= .ok (aa (i+q,e.val)) w/\es[q]? =aa e/\e.key= .agg #[.int j x.1, .int k x.2]:=by
   intro x w es
   induction es with
   |nil=>intro i _;exact .inl ⟨rfl,λe he=>by cases he⟩
   |cons e es ih=>
    intro i Zb;obtain⟨y,hy⟩:=Zb e (by simp);by_cases vJ:x=y
    .subst vJ;refine .inr ⟨0,e,?_,rfl,hy⟩;unfold asy
     simp_all
    .rcases ih (i+1) (λe' za=>Zb e' (by simp[za]))with⟨g1,g2⟩|⟨q,e',g1,g2,g3⟩
     .refine .inl ⟨?_,λe' za=>?_⟩
      .unfold asy;rw[hy];simp[zH,vJ,g1,aq5]
      grind
     .refine .inr ⟨q+1,e',?_,by simpa using g2,g3⟩;unfold asy;rw[hy];simp[zH,vJ,g1,aq5,Nat.add_assoc,Nat.add_comm 1]
  refine⟨λem x v w hv=>?_,λx v w es hv Zb=>?_,λx v w hv=>?_,λF w cs x hr=>?_⟩
  .obtain rfl:=aqP hv;exact hck em _ _ w
  .obtain rfl:=aqP hv
   have ad4:∀e∈es,∃y:Int×Int,e.key= .agg #[.int j y.1, .int k y.2]:=λe he=>by
    obtain⟨y,hy⟩:=Zb e he;exact⟨y,(aqP hy).symm⟩
   unfold Instr.findKey
   cases es with
   |nil=>exact .inl ⟨by simp[run_underlying hu,arN,aq5],λe he=>by cases he⟩
   |cons e es=>
    rcases ask x w (e::es) 0 ad4 with⟨g1,g2⟩|⟨q,e',g1,g2,g3⟩
    .exact .inl ⟨by simp[run_underlying hu,ZU,g1,aq5],g2⟩
    .exact .inr ⟨q,e',by simp[run_underlying hu,ZU,g1,aq5],g2,g3⟩
  .obtain rfl:=aqP hv;unfold Instr.keyThatStays;simp[Instr.sameBits]
  .rw[rep F w cs x hr];rfl
structure SmR where
 o:Nat
 s:Nat
 T:TypeId
 K:Row
 agg:Bool
 V:Row
 l:List (K.den×V.den)
 it:Option (Nat×List (K.den×V.den)×Option (K.den×V.den))
def zZ(ob:Nat->Option (Nat×Th)):aI->Option SmR
 | .val ag (.own o)=>match ob o with
   |some (s, .smap T K agg V l it)=>aa ⟨o,s,T,K,agg,V,l,it⟩
   |_=>ae
 |_=>ae
def xm(hs:aP U H F w ob n){D:aI}{m:SmR}{v:Value}(h:zZ ob D=aa m)(hd:aH H F w D v):ob m.o=aa (m.s, .smap m.T m.K m.agg m.V m.l m.it)/\H.val m.o=aa v/\kA H F w (H.sub m.s) v (.smap m.T m.K m.agg m.V m.l m.it):=by
 unfold zZ at h;split at h
 .rename_i o;split at h
  .rename_i s T K agg V l it de;obtain rfl:=aqP h;obtain⟨cs,⟨u,hu,_,e⟩,_,h3⟩:=hd;rw[h3 rfl]at e
   obtain rfl:v=u:=by simpa using e
   obtain⟨v',ga,dC⟩:=hs.obj _ _ _ de
   grind [IF.ok]
  .cases h
 .cases h
noncomputable def DP(ob:Nat->Option (Nat×Th))(K:Row):aI->Option K.den
 | .val af t=>flat ob K t
 |_=>ae
def Co(hs:aP U H F w ob n){kt:TypeId}{K:Row}{D:aI}{x:K.den}{v:Value}(hK:W0 P kt K)(h:DP ob K D=aa x)(hd:aH H F w D v):mS K x=aa v:=by
 unfold DP at h;split at h
 .obtain⟨cs,h1,h2,_⟩:=hd;rw[h2];exact hK.rep F w cs x (jz hs h h1)
 .cases h
def pR(_:Bool)(T:bz P)(n:Nat)(t:TypeId)(k:fF->Option R):Option R:=
 match find T.und t with
 |some (.map kt vt)=>match find T.row kt with
  |some K=>bif Na T kt K then(match find T.row vt with
   |some V=>match find T.und vt with
    |some kk=>k {dst:= .val ag (.own n),make:=[(n,(n, .smap t K (mT kk) V [] ae))]}
    |none=>ae
   |none=>ae)else rk T n t k
  |none=>ae
 |_=>ae
def DQ(b:Bool)(T:bz P){t:TypeId}{k:fF->Option R}{q:R}(h:pR b T n t k=aa q)(hs:aP U H F w ob n):
 ∃e,k e=aa q/\cX P U H F w ρ ob n ⟨aa d, .makeMap t ae,ty,pos,aft,ae⟩ e:=by
 unfold pR at h;split at h
 case h_2=>cases h
 split at h
 case h_2=>cases h
 rename_i K _
 cases hc:Na T _ K with
 |false=>rw[hc,cond_false]at h;exact FD T h hs
 |true=>
  rw[hc,cond_true]at h;split at h
  case h_2=>cases h
  rename_i V _;split at h
  case h_2=>cases h
  rename_i kk _
  have bP:(execOp (ev ρ) ⟨aa d, .makeMap t ae,ty,pos,aft,ae⟩).run P w= .ok (.value (.map (aa w.heap.size))) (w.alloc (.map #[] 0)):=by
   simp[execOp,Instr.makeMap,aq5]
  refine⟨_,h,cP.val bP ?_⟩
  have hv:(((H.fV n (is w.heap.size)).bR n (.smap t K (mT kk) V [] ae)).dh n (.map (aa w.heap.size))).val n=aa (.map (aa w.heap.size)):=by simp[aN.dh]
  refine oh.TQ (v0:= .map (aa w.heap.size)) (S:=is w.heap.size) hs rfl rfl (rf _) ⟨_, #[],0,[],rfl,rfl,(heap_alloc w _).1,stamped_empty 0,rfl, .refl _,trivial⟩ (λk hk=>?_) (qp hv rfl);have hk:k=w.heap.size:=hk;subst hk;exact⟨λe=>by have:=hs.lt _ e;omega,by simp, .inl (aqU _)⟩
def wa{WX kt et:TypeId}{K:Row}{b clock:Nat}{es:Array MapEntry}{x:K.den}{key val:Value}(hm:P.underlying WX=aa (.map kt et))(hK:W0 P kt K)(hx:mS K x=aa key)(hb:w.heap[b]? =aa (.map es clock))(Zb:∀e∈es.toList,∃k,mS K k=aa e.key):
 ((ar2 WX (.map (aa b)) key val).run P w= .ok () {w with heap:=w.heap.setIfInBounds b (.map (es.push {key,val,born:=clock}) (clock+1))}/\∀e∈es.toList,e.key≠key)\/
 ∃j e,es.toList[j]? =aa e/\e.key=key/\(ar2 WX (.map (aa b)) key val).run P w= .ok () {w with heap:=w.heap.setIfInBounds b (.map (es.modify j λe=>{e with key,val}) clock)}:=by
 rcases hK.find x key w es.toList hx Zb with⟨h1,h2⟩|⟨j,e,h1,h2,h3⟩
 .exact .inl ⟨by simp[ar2,run_underlying hm,arD hb,hK.chk _ _ _ _ hx,h1,ar9 _ hb,aq5],h2⟩
 .refine .inr ⟨j,e,h2,h3,?_⟩
  have hj:es[j]? =aa e:=by simpa using h2
  simp[ar2,run_underlying hm,arD hb,hK.chk _ _ _ _ hx,h1,hj,h3,hK.stays _ _ _ hx,ar9 _ hb,aq5]
def Cp{K:Row}{agg:Bool}{V:Row}{e:MapEntry}{x:K.den}{y:V.den}(hk:mS K x=aa e.key)(hv:bg H F w agg (.leaf V y) e.val):{es:List MapEntry}->{l:List (K.den×V.den)}->iP H F w K agg V es l->iP H F w K agg V (es++[e]) (l++[(x,y)])
 |[],l,h=>by obtain rfl:l=[]:=h;exact⟨x,y,[],rfl,hk,hv,rfl⟩
 |e'::es,_,h=>by
  obtain⟨k,z,l',rfl,h1,h2,h3⟩:=h;exact⟨k,z,_,rfl,h1,h2,Cp hk hv h3⟩
def xY{K:Row}{agg:Bool}{V:Row}{x:K.den}{y:V.den}{key:Value}{f:MapEntry->MapEntry}(hx:mS K x=aa key)(hf:∀e:MapEntry,(f e).key=key)(hv:∀e,bg H F w agg (.leaf V y) (f e).val):{es:List MapEntry}->{l:List (K.den×V.den)}->{j:Nat}->{e:MapEntry}->
 iP H F w K agg V es l->DO K l->es[j]? =aa e->e.key=key->∃l2,iP H F w K agg V (es.modify j f) l2/\l2.Perm ((x,y)::l.filter λp=> !gf K p.1 x)
 |[],_,_,_,_,_,hj,_=>by simp at hj
 |e'::es,_,0,e,h,hd,hj,Zc=>by
  obtain⟨k,z,l',rfl,h1,h2,h3⟩:=h;obtain⟨d1,d2⟩:=arb.1 hd
  obtain rfl:e'=e:=by simpa using hj
  have hkx:gf K k x=af:=(k7 h1 hx).2 Zc;obtain rfl:=sZ hkx;refine⟨(k,y)::l',⟨k,y,l',rfl,by grind,hv _,h3⟩,?_⟩
  grind [vf,asq]
 |e'::es,_,j+1,e,h,hd,hj,Zc=>by
  obtain⟨k,z,l',rfl,h1,h2,h3⟩:=h;obtain⟨d1,d2⟩:=arb.1 hd
  have TO:es[j]? =aa e:=by simpa using hj
  obtain⟨l2,g1,g2⟩:=xY hx hf hv h3 d2 TO Zc;obtain⟨q,hq,hqk,_⟩:=rm h3 e (List.mem_of_getElem? TO);have hqx:gf K q.1 x=af:=(k7 hqk hx).2 Zc;obtain rfl:=sZ hqx;have eG:gf K k q.1=ag:=d1 q hq;refine⟨(k,z)::l2,⟨k,z,l2,rfl,h1,h2,g1⟩,?_⟩
  grind
noncomputable def mH(T:bz P)(ob:Nat->Option (Nat×Th))(n:Nat)(t:TypeId)(M X Y:aI)(k:fF->Option R):Option R:=
 match zZ ob M with
 |some m=>match find T.und t with
  |some (.map kt _)=>bif Na T kt m.K then(match DP ob m.K X with
   |some x=>match Y with
    | .val gh tr=>bif (bif m.agg then gh else !gh)then(match flat ob m.V tr with
      |some y=>k {dst:= .dead,eat:=[m.o],make:=[(m.o,(n, .smap m.T m.K m.agg m.V (uG m.K m.l x y) ae))]}
      |none=>ae)else ae
    |_=>ae
   |none=>ae)else ae
  |_=>ae
 |none=>oi T ob n t M X Y k
def z6(T:bz P){t:TypeId}{M X Y:aI}{m x y:Operand}{k:fF->Option R}{q:R}(h:mH T ob n t M X Y k=aa q)(hs:aP U H F w ob n)(hm:aH H F w M (ev ρ m))(hx:aH H F w X (ev ρ x))(hy:aH H F w Y (ev ρ y)):
 ∃e,k e=aa q/\cX P U H F w ρ ob n ⟨ae, .mapUpdate t m x y,ty,pos,aft,ae⟩ e:=by
 unfold mH at h;split at h
 case h_2=>exact Bw T h hs hm hx hy
 rename_i r vY;obtain⟨de,hv,qk⟩:=xm hs vY hm;obtain⟨o,s,T0,K,agg,V,l,it⟩:=r;dsimp only at h de hv qk;split at h
 case h_2=>cases h
 rename_i kt vt hu;obtain⟨hc,h'⟩:=bi h;clear h;split at h'
 case h_2=>cases h'
 rename_i a ha;split at h'
 case h_2=>cases h'
 rename_i gh tr;obtain⟨va,h⟩:=bi h';clear h'
 have va:agg=gh:=by cases agg<;>cases gh<;>simp_all
 subst va;split at h
 case h_2=>cases h
 rename_i z hz;refine⟨_,h,?_⟩;have hK:=KX T hc;have sI:=Co hs hK ha hx
 have sH:bg H F w agg (.leaf V z) (ev ρ y):=by
  obtain⟨cs,h1,h2⟩:=hy;exact⟨cs,jz hs hz h1,h2⟩
 obtain⟨b,es,clock,l',qj,Zd,hh,jJ,zT,MT,_⟩:=qk;have Cq:=ud zT jJ.2.2
 have mv:cT H ob [o] b:=⟨o,by simp,s,_,_,de,hv,Zd⟩
 have hf:=hs.fresh n (aqU _) (by omega)
 have fin:∀o',(ar2 t (.map (aa b)) (ev ρ x) (ev ρ y)).run P w= .ok () {w with heap:=w.heap.setIfInBounds b o'}->
  (∀(H':aN)(w':World),H.le H'->Step F w F w'->∃pA qS l2,o'= .map pA qS/\Stamped pA qS/\iP H' F w' K agg V pA.toList l2/\l2.Perm (uG K l a z))->
  cX P U H F w ρ ob n ⟨ae, .mapUpdate t m x y,ty,pos,aft,ae⟩ {dst:= .dead,eat:=[o],make:=[(o,(n, .smap T0 K agg V (uG K l a z) ae))]}:=by
  intro o' bP P3;refine cP.unit (w':={w with heap:=w.heap.setIfInBounds b o'}) ?_ ?_
  .simp[execOp,qj,bP,aq5]
  .have qT:∀k,k≠b->(w.heap.setIfInBounds b o')[k]? =w.heap[k]? :=(heap_set hh).2
   have fC:Step F w F {w with heap:=w.heap.setIfInBounds b o'}:=λc hc=>⟨hc,qT c λe=>by subst e;exact hs.gG _ mv hc⟩
   obtain⟨pA,qS,l2,rfl,g1,g2,g3⟩:=P3 ((H.fV n (is b)).bR n (.smap T0 K agg V (uG K l a z) ae)) _ (aN.tX hf.2) fC;refine oh.DF (t':= .smap T0 K agg V (uG K l a z) ae) hs de hv rfl (by simp) (is b) (λk hk=>?_) ⟨rfl,⟨rfl,aqU _⟩,rfl,by simp,(by grind)⟩ ⟨b,pA,qS,l2,qj,rfl,(heap_set hh).1,g1,g2,g3,trivial⟩ trivial;have hk:k=b:=hk
   grind
 have uP:(l'.filter λp=> !gf K p.1 a).Perm (l.filter λp=> !gf K p.1 a):=MT.filter _;have w5:((a,z)::l'.filter λp=> !gf K p.1 a).Perm (uG K l a z):=(uP.cons _).trans (uc a z _).symm
 rcases wa (val:=ev ρ y) (T.und_ok _ _ hu) hK sI hh (λe he=>by grind [rm])with⟨bP,Dz⟩|⟨j,e,hj,Zc,bP⟩
 .refine fin _ bP λH' w' hH fC=>⟨_,_,l'++[(a,z)],rfl,stamped_push jJ Dz,?_,?_⟩
  .rw[Array.toList_push];exact Cp sI (sH.keep hH fC) (zT.keep hH fC)
  .have e:l'.filter (λp=> !gf K p.1 a)=l':=asq.2 λq hq=>by
    grind [v8,k7]
   grind
 .refine fin _ bP λH' w' hH fC=>?_
  obtain⟨l2,g1,g2⟩:=xY (f:=λe=>{e with key:=ev ρ x,val:=ev ρ y}) sI (λ_=>rfl) (λ_=>sH.keep hH fC) (zT.keep hH fC) Cq hj Zc;refine⟨_,_,l2,rfl,stamped_modify jJ _ _ (λ_ _=>rfl) (λe' _ za=>?_),by grind,g2.trans w5⟩
  grind
def KY{K:Row}{α:Type}{x:K.den}:{l:List (K.den×α)}->DO K l->∀q∈l,gf K q.1 x=af->cy K l x=aa q.2
 |p::l,hd,q,hq,hx=>by
  obtain⟨d1,d2⟩:=arb.1 hd;unfold cy
  rcases arx.1 hq with rfl|hq
  .rw[aj hx]
  .have:¬gf K p.1 x=af:=λg=>by
    grind [sZ]
   rw[ai this];exact KY d2 q hq hx
def FM{K:Row}{α:Type}{x:K.den}:{l:List (K.den×α)}->(∀q∈l,gf K q.1 x=ag)->cy K l x=ae
 |[],_=>rfl
 |p::l,h=>by
  unfold cy;rw[ai (by grind)]
  exact FM λq hq=>h q (by simp[hq])
noncomputable def rn(T:bz P)(ob:Nat->Option (Nat×Th))(_n:Nat)(t:TypeId)(ok:Bool)(M X:aI)(k:fF->Option R):Option R:=
 match zZ ob M with
 |some m=>match find T.und t with
  |some (.map kt vt)=>match find T.zer vt with
   |some (gh,V')=>bif Na T kt m.K&&(bif m.agg then gh else !gh)&&V'.beq m.V&&(m.agg||aqV m.V.size 1)then(match DP ob m.K X with
    |some x=>bif ok then k {dst:= .tup [(m.agg, .leaf m.V ((cy m.K m.l x).getD m.V.zero)),(ag, .leaf .bool (cy m.K m.l x).isSome)]}
     else k {dst:= .val m.agg (.leaf m.V ((cy m.K m.l x).getD m.V.zero))}
    |none=>ae)else ae
   |none=>ae
  |_=>ae
 |none=>tV T ob t ok M X k
def FN(T:bz P){t:TypeId}{ok:Bool}{M X:aI}{m x:Operand}{k:fF->Option R}{q:R}(h:rn T ob n t ok M X k=aa q)(hs:aP U H F w ob n)(hm:aH H F w M (ev ρ m))(hx:aH H F w X (ev ρ x)):
 ∃e,k e=aa q/\cX P U H F w ρ ob n ⟨aa d, .lookup t m x ok,ty,pos,aft,ae⟩ e:=by
 unfold rn at h;split at h
 case h_2=>exact IV T h hs hm hx
 rename_i r vY;obtain⟨de,hv,qk⟩:=xm hs vY hm;obtain⟨o,s,T0,K,agg,V,l,it⟩:=r;dsimp only at h de hv qk;split at h
 case h_2=>cases h
 rename_i kt vt hu;split at h
 case h_2=>cases h
 rename_i gh V' hz;obtain⟨hc,h'⟩:=bi h;clear h;obtain⟨hc,Y7⟩:=c7 hc;obtain⟨hc,P5⟩:=c7 hc;obtain⟨B7,Fg⟩:=c7 hc
 have va:agg=gh:=by cases agg<;>cases gh<;>simp_all
 subst va;obtain rfl:=Row.eq_of_beq P5;split at h'
 case h_2=>cases h'
 rename_i a ha;have hK:=KX T B7;have sI:=Co hs hK ha hx;obtain⟨b,es,clock,l',qj,Zd,hh,jJ,zT,MT,_⟩:=qk;have Cq:=ud zT jJ.2.2;have TR:cy K l a=cy K l' a:=(I4 MT Cq).symm
 have po:agg=ag->V'.size=1:=λe=>by simp_all
 obtain⟨z,IP,KL⟩:=FE (w:=w) (H:=H) (F:=F) (T.zer_ok _ _ _ hz) po;have KU:=T.und_ok _ _ hu
 have main:∃v,(asx t (ev ρ m) (ev ρ x) ok).run P w= .ok (if ok then .tuple #[v, .bool (cy K l a).isSome]else v) w/\bg H F w agg (.leaf V' ((cy K l a).getD V'.zero)) v:=by
  rw[TR]
  rcases hK.find a _ w es.toList sI (λe he=>by grind [rm])with⟨h1,h2⟩|⟨j,e,h1,h2,h3⟩
  .have hn:cy K l' a=ae:=FM λq hq=>by
    grind [v8,k7]
   refine⟨z,?_,by grind⟩;rw[qj,hn];simp[asx,run_underlying KU,arD hh,hK.chk _ _ _ _ sI,h1,IP,aq5]
  .obtain⟨q,hq,hqk,hqv⟩:=rm zT e (List.mem_of_getElem? h2);have hl:=KY Cq q hq ((k7 hqk sI).2 h3);refine⟨e.val,?_,by grind⟩;rw[qj,hl];simp[asx,run_underlying KU,arD hh,hK.chk _ _ _ _ sI,h1,aq5]
 obtain⟨v,bP,qk⟩:=main
 cases ok with
 |true=>
  refine⟨_,h',cm hs (v:= .tuple #[v, .bool (cy K l a).isSome]) (by simp[execOp,bP,aq5]) ⟨[v, .bool (cy K l a).isSome],rfl,_,_,rfl,qk,_,_,rfl,bg.iF ..,rfl⟩⟩
 |false=>exact⟨_,h',cm hs (v:=v) (by simp[execOp,bP,aq5]) qk⟩
def xn(T:bz P)(ob:Nat->Option (Nat×Th))(n:Nat)(t:TypeId)(M:aI)(k:fF->Option R):Option R:=
 match zZ ob M with
 |some m=>match find T.und t with
  |some (.map _ _)=>k {dst:= .ptr (n+1) [] 0,eat:=[m.o],make:=[(m.o,(n, .smap m.T m.K m.agg m.V m.l (aa (n+1,m.l,ae))))]}
  |_=>ae
 |none=>ae
def I5(es:Array MapEntry):leftOf es #[]=es:=by
 unfold leftOf
 simp_all
def Nb(T:bz P){t:TypeId}{M:aI}{m:Operand}{k:fF->Option R}{q:R}(h:xn T ob n t M k=aa q)(hs:aP U H F w ob n)(hm:aH H F w M (ev ρ m)):
 ∃e,k e=aa q/\cX P U H F w ρ ob n ⟨aa d, .range t m,ty,pos,aft,ae⟩ e:=by
 unfold xn at h;split at h
 case h_2=>cases h
 rename_i r vY;obtain⟨de,hv,qk⟩:=xm hs vY hm;obtain⟨o,s,T0,K,agg,V,l,it⟩:=r;dsimp only at h de hv qk;split at h
 case h_2=>cases h
 rename_i kt vt hu;obtain⟨b,es,clock,l',qj,Zd,hh,jJ,zT,MT,_⟩:=qk;have ZV:b<w.heap.size:=(ary.1 hh).1
 have mv:cT H ob [o] b:=⟨o,by simp,s,_,_,de,hv,Zd⟩
 obtain⟨v1,vK,dC⟩:=hs.obj _ _ _ de;rw[hv]at vK;obtain rfl:=aqP vK
 have bP:(execOp (ev ρ) ⟨aa d, .range t m,ty,pos,aft,ae⟩).run P w= .ok (.value (.pointer (aa ⟨w.heap.size,0,ae⟩))) (w.alloc (.mapIter (aa b) clock #[] clock)):=by
  simp[execOp,qj,run_range_map w t kt vt b es clock (T.und_ok _ _ hu) hh,aq5]
 refine⟨_,h,cP.val bP ?_⟩;have hf:=hs.fresh n (aqU _) (by omega);have hf1:=hs.fresh (n+1) (by omega) (by omega)
 let S':Nat->Prop:=λk=>k=b\/k=w.heap.size
 let t':Th:= .smap T0 K agg V l (aa (n+1,l,ae))
 let H1:aN:=((H.fV n S').bR n t').dh (n+1) (.pointer (aa ⟨w.heap.size,0,ae⟩))
 have hle:H.le H1:=(aN.tX hf.2).trans (aN.tR (by simpa[aN.bR,aN.fV]using hf1.1))
 have hvn:H1.val (n+1)=aa (.pointer (aa ⟨w.heap.size,0,ae⟩)):=by simp[H1,aN.dh]
 have kC:H1.sub n=S':=by simp[H1,aN.dh,aN.bR,aN.fV]
 have ad6:H1.con n=aa t':=by simp[H1,aN.dh,aN.bR,aN.fV]
 have fC:Step F w F (w.alloc (.mapIter (aa b) clock #[] clock)):=λc hc=>⟨hc,by rw[heap_alloc_old _ _ (hs.lt c hc)]⟩
 refine⟨H1,F,⟨hle,rf _,λ_ h=>h,λ_ h=> .inl h,λc hc=>by have:=hs.lt c hc;simp;omega⟩,λm hm=>?_,⟨_,hvn,rfl⟩,⟨λo' s' q hq=>?_,λo1 o2 s1 s2 q1 q2 u1 u2 eG h1 h2=>?_⟩,λo' h=>?_⟩
 .have a1:m≠n:=by omega
  have a2:m≠n+1:=by omega
  simp[H1,aN.dh,aN.bR,aN.fV,a1,a2]
 .obtain⟨rfl,e⟩:=gH hq;obtain⟨rfl,rfl⟩:=Prod.mk.inj e;refine⟨_,hle.val _ _ hv,dC.one,ad6,?_,λk hk=>?_⟩
  .rw[kC];refine⟨b,es,clock,l',qj, .inl rfl,by rw[heap_alloc_old _ _ ZV];exact hh,jJ,zT.keep hle fC,MT,w.heap.size,clock, #[],clock, .inr rfl,λe=>by omega,hvn,heap_alloc_new w _,jJ.1,aqU _,aqU _,⟨l',?_,MT⟩,λp hp=>by cases hp⟩;rw[I5];exact zT.keep hle fC
  .rw[kC]at hk;have hk:k=b\/k=w.heap.size:=hk
   rcases hk with rfl|rfl
   .exact⟨hs.gG _ mv,by simp;omega, .inr mv⟩
   .exact⟨λe=>by have:=hs.lt _ e;omega,by simp, .inl (aqU _)⟩
 all_goals grind [gH,arw]
open Classical in
noncomputable def TS{α β:Type}(p:α->Prop)(k:α->Option β):Option β:=if h:∃r,(∃x,p x)/\∀x,p x->k x=aa r then aa h.choose else ae
def Qb{α β:Type}{p:α->Prop}{k:α->Option β}{q:β}(h:TS p k=aa q):∀x,p x->k x=aa q:=by
 unfold TS at h;split at h
 all_goals grind
def W1{α β:Type}{p:α->Prop}{k:α->Option β}{q:β}(h0:∃x,p x)(h:∀x,p x->k x=aa q):TS p k=aa q:=by
 have hd:∃r,(∃x,p x)/\∀x,p x->k x=aa r:=⟨q,h0,h⟩
 unfold TS;rw[dif_pos hd]
 grind
def DS(nn:Nat):List (Nat×(Nat×Th))->Option Nat
 |[]=>ae
 |(o,(_, .smap _ _ _ _ _ (aa (n',_,_))))::l=>bif aqV n' nn then aa o else DS nn l
 |_::l=>DS nn l
def KZ:Row->Bool
 | .pair (.int _) (.int _)=>af
 |_=>ag
noncomputable def pY{α:Type}(K:Row)(l:List (K.den×α))(k:K.den):List (K.den×α):=l.filter λq=> !gf K q.1 k
noncomputable def Qc(objs:List (Nat×(Nat×Th)))(n:Nat)(X:aI)(k:fF->Option R):Option R:=
 match X with
 | .ptr nn [] 0=>match DS nn objs with
   |some o=>match find objs o with
    |some (_, .smap T K agg V l (aa (n',left,_)))=>bif aqV n' nn&&KZ K then
      (if left.isEmpty=af then k {dst:= .tup [(ag, .leaf .bool ag)]}
      else TS (λp=>p∈left) λp=>k {dst:= .tup [(ag, .leaf .bool af),(af, .leaf K p.1),(agg, .leaf V p.2)],eat:=[o],make:=[(o,(n, .smap T K agg V l (aa (nn,pY K left p.1,aa p))))]})else ae
    |_=>ae
   |none=>ae
 |_=>ae
def FO{K:Row}{x:K.den}{v:Value}(hK:KZ K=af)(h:mS K x=aa v):bg H F w af (.leaf K x) v:=by
 unfold KZ at hK;split at hK
 .obtain rfl:=aqP h;exact⟨[_,_],⟨[_],[_],rfl,rfl,rfl⟩,rfl,λe=>by cases e⟩
 .cases hK
def FP(es:Array MapEntry)(seen:Array Nat)(b:Nat):(leftOf es (seen.push b)).toList=(leftOf es seen).toList.filter λx=> !(x.born==b):=by
 unfold leftOf;rw[asr,asr,List.filter_filter]
 grind
def Qd{objs:List (Nat×(Nat×Th))}{X:aI}{x:Operand}{k:fF->Option R}{q:R}(h:Qc objs n X k=aa q)(hs:aP U H F w (find objs) n)(hx:aH H F w X (ev ρ x)):
 ∃e,k e=aa q/\cX P U H F w ρ (find objs) n ⟨aa d, .next x ag,ty,pos,aft,ae⟩ e:=by
 unfold Qc at h;split at h
 case h_2=>cases h
 rename_i nn;split at h
 case h_2=>cases h
 rename_i o _;split at h
 case h_2=>cases h
 rename_i s T K agg V l n' left cur de;obtain⟨hc,h'⟩:=bi h;clear h;obtain⟨B7,hK⟩:=c7 hc;obtain rfl:=beq_true B7;obtain⟨v,hv,dC⟩:=hs.obj _ _ _ de;obtain⟨b,es,clock,l',qj,Zd,hh,jJ,zT,MT,r,since,seen,last,hSr,hrb,hnv,hr,hold,jL,hsc,⟨l2,W2,PY⟩,_⟩:=dC.ok;obtain⟨b0,Ir,KG⟩:=hx;rw[hnv]at Ir;cases Ir;have adX:r<w.heap.size:=(ary.1 hr).1
 rcases run_next_at (P:=P) w ty r b since last seen es clock hr hh hold jL with⟨h0,bP⟩|⟨e,he,w1,hw1,bP⟩
 .have hle:l2=[]:=by
   have:(leftOf es seen).toList=[]:=by rw[Array.toList_eq_nil_iff];exact Array.eq_empty_of_size_eq_zero h0
   rw[this]at W2;exact W2
  subst hle;obtain rfl:left=[]:=PY.nil_eq.symm;rw[aj (show([]:List (K.den×V.den)).isEmpty=af from rfl)]at h';exact⟨_,h',cm hs (v:= .tuple #[.bool ag]) (by simp[execOp,KG,bP,aq5]) ⟨[.bool ag],rfl,_,_,rfl,bg.iF ..,rfl⟩⟩
 .have ZW:((leftOf es seen).toList.map (·.born)).Nodup:=by
   unfold leftOf;rw[asr];exact(jJ.2.1.sublist ((List.filter_sublist).map _))
  have ZX:((leftOf es seen).toList.map (·.key)).Nodup:=by
   unfold leftOf;rw[asr];exact(jJ.2.2.sublist ((List.filter_sublist).map _))
  obtain⟨p,l3,g1,g2,g3,g4⟩:=Cm W2 ZW he;have sL:p∈left:=PY.mem_iff.1 (g4.mem_iff.2 (by simp))
  have eG:¬left.isEmpty=af:=by
   cases left with
   |nil=>cases sL
   |cons _ _=>simp
  rw[ai eG]at h';refine⟨_,Qb h' p sL,?_⟩
  have ad8:e∈es.toList:=by
   have:e∈(leftOf es seen).toList:=he;unfold leftOf at this;rw[asr]at this;exact(arK.1 this).1
  have TT:w1.heap=w.heap:=by rcases hw1 with rfl|rfl<;>rfl
  have qT:∀k,k≠r->(asb w1 r (.mapIter (aa b) since (seen.push e.born) clock)).heap[k]? =w.heap[k]? :=λk hk=>by
   rw[<-TT];exact(heap_set (w:=w1) (by rw[TT];exact hr)).2 k hk
  have ZY:(asb w1 r (.mapIter (aa b) since (seen.push e.born) clock)).heap[r]? =aa (.mapIter (aa b) since (seen.push e.born) clock):=(heap_set (w:=w1) (by rw[TT];exact hr)).1
  have mv:∀k,H.sub s k->cT H (find objs) [o] k:=λk hk=>⟨o,by simp,s,_,_,de,hv,hk⟩
  have hf:=hs.fresh n (aqU _) (by omega)
  let t':Th:= .smap T K agg V l (aa (n',pY K left p.1,aa p))
  let S':Nat->Prop:=λk=>k=b\/k=r
  have hle:H.le ((H.fV n S').bR n t'):=aN.tX hf.2
  have fC:Step F w F (asb w1 r (.mapIter (aa b) since (seen.push e.born) clock)):=λc hc=>⟨hc,qT c λg=>by subst g;exact hs.gG _ (mv _ hSr) hc⟩
  refine cP.val (v:= .tuple #[.bool af,e.key,e.val]) (w':=asb w1 r (.mapIter (aa b) since (seen.push e.born) clock)) (by simp[execOp,KG,bP,aq5]) ?_
  have ct:Ext (cT H (find objs) [o]) w (asb w1 r (.mapIter (aa b) since (seen.push e.born) clock)):=by
   rcases hw1 with rfl|rfl
   .exact⟨rfl,⟨rfl,aqU _⟩,rfl,by simp[asb],(by grind)⟩
   .exact⟨rfl,⟨rfl,Nat.le_succ _⟩,rfl,by simp[asb,TT],(by grind)⟩
  have Cq:DO K left:=(ud W2 ZX).perm PY.symm;refine oh.DF (t':=t') hs de hv rfl (by simp) S' (λk hk=>?_) ct ?_ ?_
  .have hk:k=b\/k=r:=hk
   grind
  .refine⟨b,es,clock,l',qj, .inl rfl,(qT b hrb.symm).trans hh,jJ,zT.keep hle fC,MT,r,since,seen.push e.born,clock, .inr rfl,hrb,hle.val _ _ hnv,ZY,hold,hsc,hsc,⟨l3,?_,?_⟩,λp' Iu=>?_⟩
   .rw[FP];exact g3.keep hle fC
   .have uP:left.Perm (p::l3):=PY.symm.trans g4;have hd3:DO K (p::l3):=Cq.perm uP.symm;refine List.Perm.trans ?_ (uP.filter _).symm
    rw[List.filter_cons_of_neg (by
     grind [k7])]
    rw[asq.2 λq hq=>by rw[vf ((arb.1 hd3).1 q hq)];rfl]
   .obtain rfl:=aqP Iu;exact⟨rfl,e,ad8,⟨seen,rfl⟩,g1,g2.keep hle fC⟩
  .exact⟨[.bool af,e.key,e.val],rfl,_,_,rfl,bg.iF ..,_,_,rfl,FO hK g1,_,_,rfl,g2.keep hle fC,rfl⟩
def I6(objs:List (Nat×(Nat×Th)))(X:aI):Option aI:=
 match X with
 | .ptr nn [] 0=>match DS nn objs with
   |some o=>match find objs o with
    |some (_, .smap _ K agg V _ (aa (n',_,aa p)))=>bif aqV n' nn&&KZ K then aa (.tup [(af, .leaf K p.1),(agg, .leaf V p.2)])else ae
    |_=>ae
   |none=>ae
 |_=>ae
theorem Nc{objs:List (Nat×(Nat×Th))}{X D:aI}{x:Operand}(h:I6 objs X=aa D)(hs:aP U H F w (find objs) n)(hx:aH H F w X (ev ρ x)):
 cX P U H F w ρ (find objs) n ⟨aa d, .entry x,ty,pos,aft,ae⟩ {dst:=D}:=by
 unfold I6 at h;split at h
 case h_2=>cases h
 rename_i nn;split at h
 case h_2=>cases h
 rename_i o _;split at h
 case h_2=>cases h
 rename_i s T K agg V l n' left p de;obtain⟨hc,h'⟩:=bi h;obtain⟨B7,hK⟩:=c7 hc;obtain rfl:=beq_true B7;obtain rfl:=aqP h';obtain⟨v,hv,dC⟩:=hs.obj _ _ _ de;obtain⟨b,es,clock,l',qj,Zd,hh,jJ,zT,MT,r,since,seen,last,hSr,hrb,hnv,hr,hold,jL,_,_,ad9⟩:=dC.ok;obtain⟨rfl,e,he,⟨s0,rfl⟩,g1,g2⟩:=ad9 p rfl;obtain⟨b0,Ir,KG⟩:=hx;rw[hnv]at Ir;cases Ir;have bP:=run_entry_at (P:=P) w r b since s0 es last e hr hh he jJ.2.1;exact cm hs (v:= .tuple #[e.key,e.val]) (by simp[execOp,KG,bP,aq5]) ⟨[e.key,e.val],rfl,_,_,rfl,FO hK g1,_,_,rfl,g2,rfl⟩
end
end
section
open Go Go.RowKit Go.MapKept
section
variable {P:Program} {ρ:Nat->Value} {w w':World} {H H':aN} {F F':Nat->Prop} {U:Nat->Prop} {ob:Nat->Option (Nat×Th)} {n:Nat} {R:Type}
variable {op:Op} {ty:TypeId} {pos:String} {aft:Array Edge} {d:Nat}
noncomputable def VS(ob:Nat->Option (Nat×Th))(n o:Nat):Option fF:=P9 ob n o
def I7(hs:aP U H F w ob n){o:Nat}{e:fF}(h:VS ob n o=aa e):pB H F w ob n e undef w:=M4 hs h
def DR.xo:(d:DR)->d.low.gF=d.row.gF
 | .leaf _=>rfl
 | .sl _ _=>rfl
 | .pair a b=>by show a.low.gF++b.low.gF=a.row.gF++b.row.gF;rw[a.xo,b.xo]
def Qe{α β:Type}{l m out:List α}{lx ly:List β}(h:cD l m=aa out)(h1:lx.length=l.length)(h2:ly.length=m.length):cD lx ly=aa (lx++ly)/\out=l++m:=by
 grind [cD]
def xZ(T:bz P){t e:TypeId}{r:Row}(hu:find T.und t=aa (.slice e))(hr:find T.row e=aa r){dr:DR}(od:dr.row=r){x y:Operand}{l m out:List dr.row.den}{Sx:Nat->Prop}{eat:List Nat}{o2 s2:Nat}
 (hs:aP U H F w ob n)(hx:MF F w e dr.low (λ_=>mP F w dr) (ev ρ x) l Sx)(hxF:∀k,Sx k->¬F k)(hxe:∀k,Sx k->cT H ob eat k)(Mz:∀k,Sx k->k<w.heap.size)
 (yI:ob o2=aa (s2, .deep e dr m ae))(qj:H.val o2=aa (ev ρ y))(ho2:o2∈eat)(TU:∀k,Sx k->¬H.sub s2 k)(ha:cD l m=aa out):
 cX P U H F w ρ ob n ⟨aa d, .call {callee:= .builtin .append,args:= #[x,y],argTypes:= #[t,t]},ty,pos,aft,ae⟩ {dst:= .val ag (.own n),eat:=eat,make:=[(n,(n, .deep e dr out ae))]}:=by
 obtain⟨lx,Sx',TJ,Zz,hrx,K0⟩:=hx;obtain⟨ly,Sy,hoy,hly,hry,W3⟩:=hs.low yI qj;obtain⟨v2,MB,TV⟩:=hs.obj _ _ _ yI;rw[qj]at MB;obtain rfl:=aqP MB;obtain⟨hal,rfl⟩:=Qe ha Zz hly;obtain⟨ti,z,h1,h2,h3,h4,h5⟩:=T.row_ok _ _ hr;have ht:=T.und_ok _ _ hu;subst od;obtain⟨v',w',bP,ct,jK,hm⟩:=zA ty ht h1 h2 (h3.trans dr.xo.symm) (h4.trans dr.size.symm) h5 (base:=0) (l:=lx) ⟨λk hk=>hxF k (K0.cx k hk),TJ⟩ hoy.reads hal hs.lt (Nat.zero_le _)
 have jJ:Step F w F w':=Step.ext ct hs.lt λk hk=>hxF k (K0.cx k hk)
 have hye:∀k,H.sub s2 k->cT H ob eat k:=λk hk=>⟨o2,ho2,s2,_,_,yI,qj,hk⟩
 have aju:∀i,i<l.length->∀k,Sx' i k->w'.heap[k]? =w.heap[k]? :=λi hi k hk=>ct.block k (Mz k (K0.part hi k hk)) (K0.out i k hi hk)
 have ZZ:∀i,i<m.length->∀k,Sy i k->w'.heap[k]? =w.heap[k]? :=λi hi k hk=>ct.block k (TV.lt k (W3.part hi k hk)) λQf=>TU k (K0.cx k Qf) (W3.part hi k hk)
 have hlen:(l++m).length=l.length+m.length:=List.length_append
 have hvb:∀k,cx v' k->(Sx k/\cx (ev ρ x) k)\/k=w.heap.size:=by
  intro k hk
  rcases hm with g|g
  .rw[g]at hk;exact .inl ⟨K0.cx k hk,hk⟩
  .simp_all
 let SS:Nat->Nat->Prop:=λi=>if i<l.length then Sx' i else Sy (i-l.length)
 have Ze:∀i k,i<l.length->SS i k->Sx' i k:=(by grind)
 have Zf:∀i k,¬i<l.length->SS i k->Sy (i-l.length) k:=(by grind)
 have hSS:∀i k,i<(l++m).length->SS i k->Sx k\/H.sub s2 k:=by
  intro i k hi hk;by_cases aF:i<l.length
  .exact .inl (K0.part aF k (Ze i k aF hk))
  .exact .inr (W3.part (by omega) k (Zf i k aF hk))
 have n5:v'.oneCell'=af:=pE.one (T:=e) (r:=dr.low) jK.2;refine cP.val (v:=v') (w':=w') (by simp[execOp,resolve,invoke,builtin,bP]) (oh.TQ (t:= .deep e dr (l++m) ae) (S:=vb (cx v') SS (l++m).length) hs rfl n5 ⟨ct.os,ct.tape,ct.output,ct.size,λk hk hn=>ct.block k hk λWK=>hn (hxe k (K0.cx k WK))⟩ ?_ (λk hk=>?_) (qp (o:=n) (v:=v') (by simp[aN.dh]) n5))
 .refine⟨lx++ly,SS,jK.2,by simp[Zz,hly],λi a b=>?_,⟨λk=>Iff.rfl,λi j k hi hj eG hk jn=>?_,λi k hi hk WK=>?_⟩⟩
  .show mP F w' dr (lx++ly)[i] (l++m)[i] (SS i)
   by_cases aF:i<l.length
   .grind [mP.keep]
   .have e1:(lx++ly)[i]=ly[i-l.length]'(by grind):=by rw[arJ (by omega)];simp only[Zz]
    have e2:(l++m)[i]=m[i-l.length]'(by omega):=arJ (by omega)
    have e3:SS i=Sy (i-l.length):=by simp only[SS,ai aF]
    rw[e1,e2,e3];exact mP.keep jJ (hry (i-l.length) _ (by omega)) (ZZ _ (by omega))
  .by_cases h1:i<l.length<;>by_cases h2:j<l.length
   .exact K0.two i j k h1 h2 eG (Ze i k h1 hk) (Ze j k h2 jn)
   .exact TU k (K0.part h1 k (Ze i k h1 hk)) (W3.part (by omega) k (Zf j k h2 jn))
   .exact TU k (K0.part h2 k (Ze j k h2 jn)) (W3.part (by omega) k (Zf i k h1 hk))
   .exact W3.two (i-l.length) (j-l.length) k (by omega) (by omega) (by omega) (Zf i k h1 hk) (Zf j k h2 jn)
  .rcases hvb k WK with⟨g1,g2⟩|g
   .by_cases h1:i<l.length
    .exact K0.out i k h1 (Ze i k h1 hk) g2
    .exact TU k g1 (W3.part (by omega) k (Zf i k h1 hk))
   .rcases hSS i k hi hk with h1|h1
    .grind
    .have:=TV.lt k h1;omega
 .have hk:vb (cx v') SS (l++m).length k:=hk
  have fin:Sx k\/H.sub s2 k->¬F k/\k<w'.heap.size/\(w.heap.size<=k\/cT H ob eat k):=by
   rintro(h1|h1)
   .exact⟨hxF k h1,arh (Mz k h1) ct.size, .inr (hxe k h1)⟩
   .exact⟨TV.no k h1,arh (TV.lt k h1) ct.size, .inr (hye k h1)⟩
  rcases hk with hk|⟨i,hi,hk⟩
  .rcases hvb k hk with⟨g,_⟩|g
   .grind
   .exact⟨λe=>by have:=hs.lt k e;omega,jK.lt k hk, .inl (by omega)⟩
  grind
def wb(T:bz P)(ob:Nat->Option (Nat×Th))(n:Nat)(t:TypeId)(X Y:aI)(k:fF->Option R):Option R:=
 match find T.und t with
 |some (.slice e)=>match find T.row e with
  |some r=>match Y with
   | .val ag (.own o2)=>match ob o2 with
     |some (_, .deep T2 d2 m ae)=>bif aqV T2 e&&d2.row.beq r then(match X with
      | .val ag .nil=>(cD ([]:List d2.row.den) m).bind λl=>k {dst:= .val ag (.own n),eat:=[o2],make:=[(n,(n, .deep e d2 l ae))]}
      | .val ag (.own o1)=>match ob o1 with
        |some (_, .deep T1 d1 l0 ae)=>bif aqV o1 o2 then ae else bif aqV T1 e then(if h:d1.beq d2=af then(cD (DR.eq_of_beq h▸l0) m).bind λl=>k {dst:= .val ag (.own n),eat:=[o1,o2],make:=[(n,(n, .deep e d2 l ae))]}else ae)else ae
        |_=>ae
      |_=>ae)else ae
     |_=>ae
   |_=>ae
  |none=>ae
 |_=>ae
def FQ(T:bz P){t:TypeId}{X Y:aI}{x y:Operand}{k:fF->Option R}{q:R}(h:wb T ob n t X Y k=aa q)(hs:aP U H F w ob n)(hx:aH H F w X (ev ρ x))(hy:aH H F w Y (ev ρ y)):
 ∃e,k e=aa q/\cX P U H F w ρ ob n ⟨aa d, .call {callee:= .builtin .append,args:= #[x,y],argTypes:= #[t,t]},ty,pos,aft,ae⟩ e:=by
 unfold wb at h;split at h
 case h_2=>cases h
 rename_i e hu;split at h
 case h_2=>cases h
 rename_i r hr;split at h
 case h_2=>cases h
 rename_i o2;split at h
 case h_2=>cases h
 rename_i s2 T2 d2 m yI;obtain⟨hc,h'⟩:=bi h;clear h;obtain⟨B7,Fg⟩:=c7 hc;obtain rfl:=beq_true B7;have od:=Row.eq_of_beq Fg;obtain⟨cs,⟨u,TC,_,e2⟩,_,h3⟩:=hy;rw[h3 rfl]at e2
 obtain rfl:ev ρ y=u:=by simpa using e2
 split at h'
 .obtain⟨l,hl,hk⟩:=bind_some h';refine⟨_,hk,xZ (Sx:=λ_=>False) T hu hr od hs ?_ (λ_ h=>h.elim) (λ_ h=>h.elim) (λ_ h=>h.elim) yI TC (by simp) (λ_ h=>h.elim) hl⟩;obtain⟨cs,h1,_,h4⟩:=hx;rw[h4 rfl]at h1;have Is:[ev ρ x]=[Value.slice ae 0 0]:=h1;rw[show ev ρ x= .slice ae 0 0 by simpa using Is];exact⟨[],λ_ _=>False,pE.nil F w T2 d2.low,rfl,λi h=>absurd h (by simp),⟨λk=>by simp[cx,are],λ_ _ _ h=>absurd h (by simp),λ_ _ h=>absurd h (by simp)⟩⟩
 .rename_i o1;split at h'
  case h_2=>cases h'
  rename_i s1 T1 d1 l0 DJ
  cases eG:aqV o1 o2 with
  |true=>grind
  |false=>
   rw[eG,cond_false]at h'
   have eG:o1≠o2:=λe=>by simp_all
   obtain⟨hT,h⟩:=bi h';clear h';obtain rfl:=beq_true hT;split at h
   case isFalse=>cases h
   rename_i hb;obtain rfl:=DR.eq_of_beq hb;obtain⟨l,hl,hk⟩:=bind_some h;obtain⟨cs,⟨v,vK,_,e1⟩,_,h4⟩:=hx;rw[h4 rfl]at e1
   obtain rfl:ev ρ x=v:=by simpa using e1
   obtain⟨v',ga,sK⟩:=hs.obj _ _ _ DJ;rw[vK]at ga;obtain rfl:=aqP ga;exact⟨_,hk,xZ (Sx:=H.sub s1) T hu hr od hs sK.ok sK.no (λk hk=>⟨o1,by simp,s1,_,_,DJ,vK,hk⟩) sK.lt yI TC (by simp) (λk hk=>hs.apart _ _ _ _ _ _ _ _ eG DJ yI vK TC k hk) hl⟩
 .cases h'
def Qg(ob:Nat->Option (Nat×Th)):aI->Bool
 | .val ag (.own o)=>match ob o with
   |some (_, .deep ..)=>af
   |_=>ag
 |_=>ag
def rp(T:bz P)(ob:Nat->Option (Nat×Th))(n:Nat)(t:TypeId)(X Y:aI)(k:fF->Option R):Option R:=
 bif Qg ob Y then wb T ob n t X Y k else tT T ob n t X Y k
def FR(T:bz P){t:TypeId}{X Y:aI}{x y:Operand}{k:fF->Option R}{q:R}(h:rp T ob n t X Y k=aa q)(hs:aP U H F w ob n)(hx:aH H F w X (ev ρ x))(hy:aH H F w Y (ev ρ y)):
 ∃e,k e=aa q/\cX P U H F w ρ ob n ⟨aa d, .call {callee:= .builtin .append,args:= #[x,y],argTypes:= #[t,t]},ty,pos,aft,ae⟩ e:=by
 unfold rp at h
 cases hb:Qg ob Y with
 |true=>rw[hb,cond_true]at h;exact FQ T h hs hx hy
 |false=>rw[hb,cond_false]at h;exact IQ T h hs hx hy
end
end
end Go.Proofs.YtfeahmiobbjklaaGreatDoor
section
open _root_.Bool renaming false->ag,true->af
open _root_.Option renaming none->ae,some->aa
open _root_.List renaming append_assoc->arQ
open _root_.Nat renaming beq->aqV,blt->aru,le_refl->aqU
open _root_.Option.some renaming inj->aqP,injEq->aq2
open _root_.Go.Value renaming ownBlock->are
namespace Go.Proofs.YtfeahmiobbjklaaGreatDoor
open Go Go.RowKit
def iG(objs:List (Nat×(Nat×Th))):List Nat->Option (List (Nat×(Nat×Th)))
 |[]=>aa objs
 |o::os=>match find objs o with
  |some (s, .own T r l)=>iG ((o,(s, .yD T r l))::del [o] objs) os
  |some (s, .map T K agg V l)=>iG ((o,(s, .fmap T K agg V l))::del [o] objs) os
  |some (s, .deep T d l ae)=>iG ((o,(s, .fdeep T d l))::del [o] objs) os
  |some (_, .yD ..)=>iG objs os
  |some (_, .fmap ..)=>iG objs os
  |some (_, .fdeep ..)=>iG objs os
  |_=>ae
def gX:Th->Bool
 | .yD .. =>af
 | .fmap .. =>af
 | .fdeep .. =>af
 |_=>ag
structure Z0(t t':Th):Prop where
 froz:gX t'=af
 base:t'.base=t.base
 fp:∀S v k,¬fp S v t' k
 ok:∀{H:aN}{F:Nat->Prop}{w:World}{S:Nat->Prop}{v:Value},(∀k,Go.Proofs.YtfeahmiobbjklaaGreatDoor.fp S v t k->¬F k)->kA H F w S v t->kA H (λb=>F b\/Go.Proofs.YtfeahmiobbjklaaGreatDoor.fp S v t b) w S v t'
structure cY(H:aN)(F:Nat->Prop)(w:World)(H':aN)(F':Nat->Prop)(w':World):Prop where
 jy:H.le H'
 step:Step F w F' w'
def cY.refl(H:aN)(F:Nat->Prop)(w:World):cY H F w H F w:=⟨aN.le.refl H,Step.refl F w⟩
def cY.trans{H H' yE:aN}{F F' I8:Nat->Prop}{w w' Bn:World}(h:cY H F w H' F' w')(k:cY H' F' w' yE I8 Bn):cY H F w yE I8 Bn:=⟨h.jy.trans k.jy,h.step.trans k.step⟩
structure Qh(G:Nat->Prop)(w0:World)(F0:Nat->Prop)(w:World)(F:Nat->Prop):Prop where
 ext:Ext G w0 w
 le:∀b,F0 b->F b
 new:∀b,F b->F0 b\/w0.heap.size<=b\/G b
section
variable {U:Nat->Prop} {H:aN} {F:Nat->Prop} {w:World} {n:Nat}
theorem TW(T:TypeId)(r:Row)(l:List r.den):Z0 (.own T r l) (.yD T r l) where
 froz:=rfl
 base:=rfl
 fp _ _ _ h:=h
 ok hn h:=pz.freeze (base:=0) (T:=T) (l:=l) ⟨hn,h⟩
theorem TX(T:TypeId)(K:Row)(agg:Bool)(V:Row)(l:List (K.den×V.den)):Z0 (.map T K agg V l) (.fmap T K agg V l) where
 froz:=rfl
 base:=rfl
 fp _ _ _ h:=h
 ok {H F w S v} _ h:=by
  obtain⟨b,es,clock,h1,h2,h3,h4⟩:=h;obtain⟨g1,g2⟩:=KS h4;refine⟨v,rfl, .inr ⟨b,es,clock,h1, .inr h1,h2,h3,by simpa using g1,λi hi=>?_⟩⟩;obtain⟨e,cs,q1,q2,q3,q4,q5⟩:=g2 i hi;exact⟨e,cs,by simpa using q1,q2,q3.step (Step.freeze F w _),q4,q5⟩
def pE.od{F:Nat->Prop}{w:World}{T:TypeId}{r:Row}{v:Value}{l:List r.den}(h:pE F w T r v l):dy F w .od [v] v:=by
 obtain⟨xs,⟨_,h⟩,_⟩:=h
 rcases h with⟨rfl,_⟩|⟨gg,o0,cap,cur,rfl,_⟩<;>exact⟨rfl,_,_,_,rfl⟩
theorem Qi(T:TypeId)(d:DR)(l:List d.row.den):Z0 (.deep T d l ae) (.fdeep T d l) where
 froz:=rfl
 base:=rfl
 fp _ _ _ h:=h
 ok {H F w S v} hn h:=by
  have h':mP F w (.sl T d) v l S:=h;obtain⟨lh,Ss,h1,_⟩:=h;exact mP.freeze h' hn h1.od
def TY{objs:List (Nat×(Nat×Th))}{o s:Nat}{t0 t1:Th}(hf:Z0 t0 t1)(hs:aP U H F w (find objs) n)(ho:find objs o=aa (s,t0)):
 ∃F',aP U H F' w (find ((o,(s,t1))::del [o] objs)) n/\(∀b,F b->F' b)/\(∀b,F' b->F b\/∃v,H.val o=aa v/\fp (H.sub s) v t0 b):=by
 obtain⟨v,hv,dC⟩:=hs.obj _ _ _ ho;refine⟨λb=>F b\/fp (H.sub s) v t0 b,?_,λ_ h=> .inl h,(by grind)⟩
 have part:∀o' s' t',find ((o,(s,t1))::del [o] objs) o'=aa (s',t')->(o'=o/\s'=s/\t'=t1)\/(o'≠o/\find objs o'=aa (s',t')):=by
  intro o' s' t' h;rw[bp]at h;split at h
  .grind
  .grind [kz]
 have fz:Step F w (λb=>F b\/fp (H.sub s) v t0 b) w:=Step.freeze F w _;refine⟨λo' s' t' h=>?_,λo1 o2 s1 s2 t1' t2 v1 v2 eG h1 h2 e1 e2 k hk jn=>?_,hs.fresh,λb hb=>hb.elim (hs.lt b) (dC.lt b),hs.new,hs.gl.step fz⟩
 .rcases part o' s' t' h with⟨rfl,rfl,rfl⟩|⟨eG,h'⟩
  .exact⟨v,hv,dC.one,by rw[hf.base];exact dC.con,hf.ok dC.no dC.ok,λk hk=>(hf.fp _ _ _ hk).elim,λk hk=>(hf.fp _ _ _ hk).elim,λk hk=>(hf.fp _ _ _ hk).elim⟩
  .obtain⟨v',ga,FT⟩:=hs.obj _ _ _ h';refine⟨v',ga,FT.one,FT.con,FT.ok.heap (aN.le.refl H) fz λ_ _=>rfl,λk hk hF=>?_,FT.lt,FT.use⟩
   rcases hF with hF|hF
   .exact FT.no k hk hF
   .exact hs.apart _ _ _ _ _ _ _ _ eG h' ho ga hv k hk hF
 .rcases part o1 s1 t1' h1 with⟨rfl,rfl,rfl⟩|⟨ala,Is⟩
  .exact hf.fp _ _ _ hk
  .rcases part o2 s2 t2 h2 with⟨rfl,rfl,rfl⟩|⟨alb,MG⟩
   .exact hf.fp _ _ _ jn
   .exact hs.apart _ _ _ _ _ _ _ _ eG Is MG e1 e2 k hk jn
def rq:{os:List Nat}->{F:Nat->Prop}->{objs qs:List (Nat×(Nat×Th))}->iG objs os=aa qs->aP U H F w (find objs) n->
 ∃F',aP U H F' w (find qs) n/\(∀b,F b->F' b)/\(∀b,F' b->F b\/cT H (find objs) os b)
 |[],F,objs,qs,h,hs=>by obtain rfl:=aqP h;grind
 |o::os,F,objs,qs,h,hs=>by
  have main:∀s t t',Z0 t t'->find objs o=aa (s,t)->iG ((o,(s,t'))::del [o] objs) os=aa qs->
   ∃F',aP U H F' w (find qs) n/\(∀b,F b->F' b)/\(∀b,F' b->F b\/cT H (find objs) (o::os) b):=by
   intro s t t' hf ho h;obtain⟨F1,a1,a2,a3⟩:=TY hf hs ho;obtain⟨F2,b1,b2,b3⟩:=rq h a1;refine⟨F2,b1,λb hb=>b2 b (a2 b hb),λb hb=>?_⟩
   rcases b3 b hb with h1|⟨o',pq,s',t',v,h1,h2,h3⟩
   .rcases a3 b h1 with h2|⟨v,hv,hm⟩
    .exact .inl h2
    .exact .inr ⟨o,by simp,s,_,v,ho,hv,hm⟩
   .rw[bp]at h1;split at h1
    .simp only[aq2,Prod.mk.injEq]at h1;rw[<-h1.2]at h3;exact(hf.fp _ _ _ h3).elim
    .exact .inr ⟨o',by simp[pq],s',t',v,(kz.1 h1).2,h2,h3⟩
  have same:iG objs os=aa qs->∃F',aP U H F' w (find qs) n/\(∀b,F b->F' b)/\(∀b,F' b->F b\/cT H (find objs) (o::os) b):=by
   intro h;obtain⟨F2,b1,b2,b3⟩:=rq h hs;exact⟨F2,b1,b2,λb hb=>(b3 b hb).imp id λ⟨o',pq,rest⟩=>⟨o',by simp[pq],rest⟩⟩
  grind [iG,TW,TX,Qi]
end
theorem jS{S:Nat->Prop}{v:Value}{t:Th}{k:Nat}(h:gX t=af)(hk:fp S v t k):False:=by
 cases t<;>first|(exact hk)|(cases h)
def mI:{os:List Nat}->{objs qs:List (Nat×(Nat×Th))}->iG objs os=aa qs->∀o s t,find qs o=aa (s,t)->
 find objs o=aa (s,t)\/gX t=af
 |[],objs,qs,h,o,s,t,ho=>by obtain rfl:=aqP h;exact .inl ho
 |o0::os,objs,qs,h,o,s,t,ho=>by
  have main:∀s0 t1,gX t1=af->iG ((o0,(s0,t1))::del [o0] objs) os=aa qs->find objs o=aa (s,t)\/gX t=af:=by
   intro s0 t1 hf h
   rcases mI h o s t ho with h1|g
   .grind [bp,kz]
   .exact .inr g
  unfold iG at h;split at h
  .exact main _ _ rfl h
  .exact main _ _ rfl h
  .exact main _ _ rfl h
  .exact mI h o s t ho
  .exact mI h o s t ho
  .exact mI h o s t ho
  .cases h
inductive Sh where
 |leaf (r:Row)
 |own (j:Nat)
 |nil
 |pair (a b:Sh)
 |junk (n:Nat)
inductive SS where
 |val (agg:Bool) (t:Sh)
 |ptr (j:Nat) (p:List Bool) (off:Nat)
 |at (r:Row)
 |undef
 |fn (f:FuncId) (js:List (Nat×List Bool×Nat))
 |ifc (T:TypeId) (s:SS)
inductive OS where
 |box (T:TypeId) (t:Sh)
 |own (T:TypeId) (r:Row)
 |map (T:TypeId) (K:Row) (agg:Bool) (V:Row)
 |deep (T:TypeId) (d:DR)
 |smap (T:TypeId) (K:Row) (agg:Bool) (V:Row) (it:Option Nat)
structure JS where
 aJ:List (Nat×SS)
 objs:List (Nat×OS):=[]
 drop:List Nat:=[]
 nxt:Nat
def Sh.rows:Sh->List Row
 | .leaf r=>[r]
 | .own _=>[]
 | .nil=>[]
 | .pair a b=>a.rows++b.rows
 | .junk _=>[]
def SS.rows:SS->List Row
 | .val _ t=>t.rows
 | .ptr .. =>[]
 | .at r=>[r]
 | .undef=>[]
 | .fn .. =>[]
 | .ifc _ s=>s.rows
def OS.rows:OS->List Row
 | .box _ t=>t.rows
 | .own _ r=>[.slice r]
 | .map _ K _ V=>[.slice (.pair K V)]
 | .deep _ d=>[.slice d.row]
 | .smap _ K _ V ae=>[.slice (.pair K V)]
 | .smap _ K _ V (aa _)=>[.slice (.pair K V), .slice (.pair K V)]
def FU:List (Nat×SS)->List Row
 |[]=>[]
 |p::l=>p.2.rows++FU l
def K2:List (Nat×OS)->List Row
 |[]=>[]
 |p::l=>p.2.rows++K2 l
def JS.rows(J:JS):List Row:=FU J.aJ++K2 J.objs
abbrev mQ:=(r:Row)×r.den
@[reducible] def dW:List Row->Type
  |[]=>Unit
  |[r]=>r.den
  |r::s::rs=>r.den×dW (s::rs)
def eD:(rs:List Row)->dW rs->List mQ
 |[],_=>[]
 |[r],x=>[⟨r,x⟩]
 |r::s::rs,x=>⟨r,x.1⟩::eD (s::rs) x.2
def FV:(rs:List Row)->List mQ->Option (dW rs)
 |[],[]=>aa ()
 |[r],[⟨s,x⟩]=>if h:s.beq r=af then aa (lS (Row.eq_of_beq h) x)else ae
 |r::r'::rs,⟨s,x⟩::vs=>if h:s.beq r=af then(match FV (r'::rs) vs with
  |some y=>aa (lS (Row.eq_of_beq h) x,y)
  |none=>ae)else ae
 |_,_=>ae
def Cr{r s:Row}(h:s=r)(x:s.den):(⟨r,lS h x⟩:mQ)=⟨s,x⟩:=by subst h;rfl
def ya:{rs:List Row}->{vs:List mQ}->{x:dW rs}->FV rs vs=aa x->eD rs x=vs
 |[],[],x,_=>rfl
 |[],_::_,_,h=>by cases h
 |[r],[],_,h=>by cases h
 |[r],[⟨s,x⟩],y,h=>by
  unfold FV at h;split at h
  .rename_i hb;obtain rfl:=aqP h
   show[(⟨r,_⟩:mQ)]=_
   rw[Cr]
  .cases h
 |[r],_::_::_,_,h=>by cases h
 |r::r'::rs,[],_,h=>by cases h
 |r::r'::rs,⟨s,x⟩::vs,y,h=>by
  unfold FV at h;split at h
  .rename_i hb;split at h
   .rename_i z hz;obtain rfl:=aqP h;have:=ya hz
    show(⟨r,_⟩:mQ)::eD (r'::rs) z=_
    rw[Cr,this]
   .cases h
  .cases h
def sM:Sh->List mQ->Tree×List mQ
 | .leaf r,⟨s,x⟩::vs=>(bif s.beq r then .leaf s x else .nil,vs)
 | .leaf _,[]=>(.nil,[])
 | .own j,vs=>(.own j,vs)
 | .nil,vs=>(.nil,vs)
 | .pair a b,vs=>(.pair (sM a vs).1 (sM b (sM a vs).2).1,(sM b (sM a vs).2).2)
 | .junk n,vs=>(.junk n,vs)
def gj:SS->List mQ->aI×List mQ
 | .val agg t,vs=>(.val agg (sM t vs).1,(sM t vs).2)
 | .ptr j p off,vs=>(.ptr j p off,vs)
 | .at r,⟨s,x⟩::vs=>(bif s.beq r then .at s x else .dead,vs)
 | .at _,[]=>(.dead,[])
 | .undef,vs=>(.undef,vs)
 | .fn f js,vs=>(.fn f js,vs)
 | .ifc T s,vs=>(.ifc T (gj s vs).1,(gj s vs).2)
def dU:List (Nat×SS)->List mQ->List (Nat×aI)×List mQ
 |[],vs=>([],vs)
 |(t,s)::l,vs=>((t,(gj s vs).1)::(dU l (gj s vs).2).1,(dU l (gj s vs).2).2)
def s5(K V:Row)(d:mQ):Option (List (K.den×V.den)):=if h:d.1.beq (.slice (.pair K V))=af then aa (lS (s:= .slice (.pair K V)) (Row.eq_of_beq h) d.2)else ae
def W5(T:TypeId)(K:Row)(agg:Bool)(V:Row):Option Nat->List mQ->Th×List mQ
 |none,d::vs=>(.smap T K agg V ((s5 K V d).getD []) ae,vs)
 |some n,d::d'::vs=>(.smap T K agg V ((s5 K V d).getD []) (aa (n,(s5 K V d').getD [],ae)),vs)
 |_,vs=>(.smap T K agg V [] ae,vs)
def xp{K V:Row}(l:List (K.den×V.den)):s5 K V ⟨.slice (.pair K V),l⟩=aa l:=by
 unfold s5;rw[dif_pos (Row.beq_refl _)];rfl
def eE:OS->List mQ->Th×List mQ
 | .box T t,vs=>(.box T (sM t vs).1,(sM t vs).2)
 | .own T r,⟨.slice s,l⟩::vs=>(bif s.beq r then .own T s l else .own T r [],vs)
 | .own T r,vs=>(.own T r [],vs)
 | .map T K agg V,⟨.slice (.pair K' V'),l⟩::vs=>(if h:K'.beq K=af/\V'.beq V=af then .map T K agg V (lS (r:= .slice (.pair K' V')) (s:= .slice (.pair K V)) (by grind [Row.eq_of_beq]) l)else .map T K agg V [],vs)
 | .map T K agg V,vs=>(.map T K agg V [],vs)
 | .deep T d,⟨.slice s,l⟩::vs=>(if h:s.beq d.row=af then .deep T d (lS (r:= .slice s) (s:= .slice d.row) (av Row.slice (Row.eq_of_beq h)) l) ae else .deep T d [] ae,vs)
 | .deep T d,vs=>(.deep T d [] ae,vs)
 | .smap T K agg V it,vs=>W5 T K agg V it vs
def jW(m:Nat):List (Nat×OS)->List mQ->List (Nat×(Nat×Th))
 |[],_=>[]
 |(j,s)::l,vs=>(j,(m,(eE s vs).1))::jW (m+1) l (eE s vs).2
abbrev Bs:=List (Nat×Option Nat)
def I9:Option Nat->Option Nat->Bool
 |some a,aa b=>aqV a b
 |none,ae=>af
 |_,_=>ag
theorem Ct{a b:Option Nat}(h:I9 a b=af):a=b:=by
 cases a<;>cases b<;>first|rfl|cases h|(rw[beq_true h])
def z7(bs:Bs)(j:Nat)(v:Option Nat):Option Bs:=
 match find bs j with
 |none=>aa ((j,v)::bs)
 |some u=>bif I9 u v then aa bs else ae
def Iv(ob:Nat->Option (Nat×Th)):Sh->Tree->Bs->Option (List mQ×Bs)
 | .leaf r,t,bs=>match flat ob r t with
   |some x=>aa ([⟨r,x⟩],bs)
   |none=>ae
 | .own j, .own o,bs=>match z7 bs j (aa o)with
   |some iV=>aa ([],iV)
   |none=>ae
 | .own j, .nil,bs=>match z7 bs j ae with
   |some iV=>aa ([],iV)
   |none=>ae
 | .nil, .nil,bs=>aa ([],bs)
 | .junk n,t,bs=>bif aqV t.size n then aa ([],bs)else ae
 | .pair a b,t,bs=>match t.split with
   |some (x,y)=>match Iv ob a x bs with
    |some (vs,Ja)=>match Iv ob b y Ja with
     |some (us,K3)=>aa (vs++us,K3)
     |none=>ae
    |none=>ae
   |none=>ae
 |_,_,_=>ae
def xq:List (Nat×List Bool×Nat)->List (Nat×List Bool×Nat)->Bs->Option Bs
 |[],[],bs=>aa bs
 |(j,_,off)::js,(o,_,fJ)::cs,bs=>bif aqV off fJ then(match z7 bs j (aa o)with
  |some iV=>xq js cs iV
  |none=>ae)else ae
 |_,_,_=>ae
def Qj(ob:Nat->Option (Nat×Th))(s:SS)(d:aI)(bs:Bs):Option (List mQ×Bs):=
 match s,d with
 | .val agg sh, .val gh t=>bif (bif agg then gh else !gh)then Iv ob sh t bs else ae
 | .ptr j _ off, .ptr o _ fJ=>bif aqV off fJ then(match z7 bs j (aa o)with
   |some iV=>aa ([],iV)
   |none=>ae)else ae
 | .at r, .at s x=>if h:s.beq r=af then aa ([⟨r,lS (Row.eq_of_beq h) x⟩],bs)else ae
 | .undef, .undef=>aa ([],bs)
 | .fn f js, .fn f' cs=>bif aqV f f' then(match xq js cs bs with
   |some iV=>aa ([],iV)
   |none=>ae)else ae
 |_,_=>ae
def Nd(ob:Nat->Option (Nat×Th)):SS->aI->Bs->Option (List mQ×Bs)
 | .ifc T s,d,bs=>match d with
   | .ifc T' d'=>bif aqV T T' then Nd ob s d' bs else ae
   |_=>ae
 |s,d,bs=>Qj ob s d bs
def Zg(ob:Nat->Option (Nat×Th))(aJ:List (Nat×aI)):List (Nat×SS)->Bs->Option (List mQ×Bs)
 |[],bs=>aa ([],bs)
 |(t,s)::l,bs=>match find aJ t with
  |some d=>match Nd ob s d bs with
   |some (vs,Ja)=>match Zg ob aJ l Ja with
    |some (us,K3)=>aa (vs++us,K3)
    |none=>ae
   |none=>ae
  |none=>ae
def Qk(ob:Nat->Option (Nat×Th))(j:Nat)(s:OS)(bs:Bs):Option (List mQ×Bs):=
 match find bs j with
 |some (aa o)=>match ob o with
  |some (_,t)=>match s,t with
   | .own T r, .own T' r' l=>bif aqV T T' then(if h:r'.beq r=af then aa ([⟨.slice r,lS (r:= .slice r') (s:= .slice r) (av Row.slice (Row.eq_of_beq h)) l⟩],bs)else ae)else ae
   | .box T sh, .box T' t=>bif aqV T T' then Iv ob sh t bs else ae
   | .map T K agg V, .map T' K' gh V' l=>bif aqV T T'&&(bif agg then gh else !gh)then(if h:K'.beq K=af/\V'.beq V=af then aa ([⟨.slice (.pair K V),lS (r:= .slice (.pair K' V')) (s:= .slice (.pair K V)) (by grind [Row.eq_of_beq]) l⟩],bs)else ae)else ae
   | .deep T d, .deep T' d' l ae=>bif aqV T T'&&d'.beq d then aa ([⟨.slice d'.row,l⟩],bs)else ae
   | .smap T K agg V ae, .smap T' K' gh V' l _=>bif aqV T T'&&(bif agg then gh else !gh)&&K'.beq K&&V'.beq V then aa ([⟨.slice (.pair K' V'),l⟩],bs)else ae
   | .smap T K agg V (aa n), .smap T' K' gh V' l (aa (n',left,_))=>bif aqV T T'&&(bif agg then gh else !gh)&&K'.beq K&&V'.beq V then(match z7 bs n (aa n')with
     |some iV=>aa ([⟨.slice (.pair K' V'),l⟩,⟨.slice (.pair K' V'),left⟩],iV)
     |none=>ae)else ae
   |_,_=>ae
  |none=>ae
 |some ae=>match s with
  | .own _ r=>aa ([⟨.slice r,([]:List r.den)⟩],bs)
  | .deep _ d=>aa ([⟨.slice d.row,([]:List d.row.den)⟩],bs)
  |_=>ae
 |none=>ae
def Zh(ob:Nat->Option (Nat×Th)):List (Nat×OS)->Bs->Option (List mQ×Bs)
 |[],bs=>aa ([],bs)
 |(j,s)::l,bs=>match Qk ob j s bs with
  |some (vs,Ja)=>match Zh ob l Ja with
   |some (us,K3)=>aa (vs++us,K3)
   |none=>ae
  |none=>ae
section
variable {U:Nat->Prop} {H H':aN} {F:Nat->Prop} {w:World} {n:Nat} {ob:Nat->Option (Nat×Th)}
def FW(bs iV:Bs):Prop:=∀j v,find bs j=aa v->find iV j=aa v
def lT{bs iV:Bs}{j:Nat}{v:Option Nat}(h:z7 bs j v=aa iV):FW bs iV/\find iV j=aa v:=by
 unfold z7 at h;split at h
 .rename_i hn;obtain rfl:=aqP h;refine⟨λi u hu=>?_,by rw[bp,aj rfl]⟩
  grind [bp]
 .rename_i u hu;obtain⟨h1,rfl⟩:=vV h;obtain rfl:=Ct h1;exact⟨λ_ _ h=>h,hu⟩
def valOf(H:aN):Option Nat->Option Value
 |some o=>H.val o
 |none=>aa (.slice ae 0 0)
def rr(H H':aN)(bs:Bs):Prop:=∀j v,find bs j=aa v->∀u,valOf H v=aa u->H'.val j=aa u
def z8:{sh:Sh}->{t:Tree}->{bs iV:Bs}->{vs:List mQ}->Iv ob sh t bs=aa (vs,iV)->FW bs iV
 | .leaf r,t,bs,iV,vs,h=>by
   unfold Iv at h
   split at h<;>cases h
   exact λ_ _ h=>h
 | .own j, .own o,bs,iV,vs,h=>by
   unfold Iv at h
   split at h<;>cases h
   rename_i hb;exact(lT hb).1
 | .own j, .nil,bs,iV,vs,h=>by
   unfold Iv at h
   split at h<;>cases h
   rename_i hb;exact(lT hb).1
 | .nil, .nil,bs,iV,vs,h=>by cases h;exact λ_ _ h=>h
 | .pair a b,t,bs,iV,vs,h=>by
   unfold Iv at h;split at h
   case h_2=>cases h
   split at h
   case h_2=>cases h
   rename_i h1;split at h
   case h_2=>cases h
   rename_i h2;cases h
   exact λj v hj=>z8 h2 j v (z8 h1 j v hj)
 | .own _, .leaf _ _,_,_,_,h=>by cases h
 | .own _, .pair _ _,_,_,_,h=>by cases h
 | .nil, .leaf _ _,_,_,_,h=>by cases h
 | .nil, .own _,_,_,_,h=>by cases h
 | .nil, .pair _ _,_,_,_,h=>by cases h
 | .own _, .view ..,_,_,_,h=>by cases h
 | .nil, .view ..,_,_,_,h=>by cases h
 | .own _, .junk _,_,_,_,h=>by cases h
 | .nil, .junk _,_,_,_,h=>by cases h
 | .junk n,t,bs,iV,vs,h=>by
   unfold Iv at h;obtain⟨_,h⟩:=bi h;cases h
   exact λ_ _ h=>h
def DT(hs:aP U H F w ob n):{sh:Sh}->{t:Tree}->{bs iV:Bs}->{vs:List mQ}->{cs:List Value}->Iv ob sh t bs=aa (vs,iV)->Holds H F w t cs->rr H H' iV->∀rest,
 Holds H' F w (sM sh (vs++rest)).1 cs/\(sM sh (vs++rest)).2=rest
 | .leaf r,t,bs,iV,vs,cs,h,hh,hb,rest=>by
   unfold Iv at h
   split at h<;>cases h
   rename_i x hf;refine⟨?_,rfl⟩
   show Holds H' F w (bif r.beq r then Tree.leaf r x else .nil) cs
   rw[Row.beq_refl,cond_true];exact jz hs hf hh
 | .own j, .own o,bs,iV,vs,cs,h,hh,hb,rest=>by
   unfold Iv at h
   split at h<;>cases h
   rename_i B3;obtain⟨v,hv,h1,rfl⟩:=hh;exact⟨⟨v,hb _ _ (lT B3).2 v hv,h1,rfl⟩,rfl⟩
 | .own j, .nil,bs,iV,vs,cs,h,hh,hb,rest=>by
   unfold Iv at h
   split at h<;>cases h
   rename_i B3;rw[show cs=_ from hh];exact⟨⟨_,hb _ _ (lT B3).2 _ rfl,rfl,rfl⟩,rfl⟩
 | .nil, .nil,bs,iV,vs,cs,h,hh,hb,rest=>by cases h;exact⟨hh,rfl⟩
 | .pair a b,t,bs,iV,vs,cs,h,hh,hb,rest=>by
   unfold Iv at h;split at h
   case h_2=>cases h
   rename_i x y uL;split at h
   case h_2=>cases h
   rename_i vs1 Ja h1;split at h
   case h_2=>cases h
   rename_i us K3 h2;cases h;obtain⟨c1,c2,rfl,g1,g2,_⟩:=hh.split uL
   have OW:rr H H' Ja:=λj v hj=>hb j v (z8 h2 j v hj)
   obtain⟨k1,k2⟩:=DT hs h1 g1 OW (us++rest);obtain⟨m1,m2⟩:=DT hs h2 g2 hb rest;rw[arQ];unfold sM;rw[k2];exact⟨⟨c1,c2,rfl,k1,m1⟩,m2⟩
 | .own _, .leaf _ _,_,_,_,_,h,_,_,_=>by cases h
 | .own _, .pair _ _,_,_,_,_,h,_,_,_=>by cases h
 | .nil, .leaf _ _,_,_,_,_,h,_,_,_=>by cases h
 | .nil, .own _,_,_,_,_,h,_,_,_=>by cases h
 | .nil, .pair _ _,_,_,_,_,h,_,_,_=>by cases h
 | .own _, .view ..,_,_,_,_,h,_,_,_=>by cases h
 | .nil, .view ..,_,_,_,_,h,_,_,_=>by cases h
 | .own _, .junk _,_,_,_,_,h,_,_,_=>by cases h
 | .nil, .junk _,_,_,_,_,h,_,_,_=>by cases h
 | .junk n,t,bs,iV,vs,cs,h,hh,hb,rest=>by
   unfold Iv at h;obtain⟨hn,h⟩:=bi h;cases h;exact⟨⟨hh.length.trans (Nat.eq_of_beq_eq_true hn),hh.mb⟩,rfl⟩
theorem xr:{js cs:List (Nat×List Bool×Nat)}->{bs iV:Bs}->xq js cs bs=aa iV->FW bs iV
 |[],[],bs,iV,h=>by obtain rfl:=aqP h;exact λ_ _ h=>h
 |(j,p,off)::js,(o,p',fJ)::cs,bs,iV,h=>by
  unfold xq at h;obtain⟨_,h⟩:=bi h;split at h
  case h_2=>cases h
  rename_i hb
  exact λi v hi=>xr h i v ((lT hb).1 i v hi)
 |[],_::_,_,_,h=>by cases h
 |_::_,[],_,_,h=>by cases h
def Cu:{js cs:List (Nat×List Bool×Nat)}->{bs iV:Bs}->{vs:List Value}->xq js cs bs=aa iV->og H cs vs->rr H H' iV->og H' js vs
 |[],[],bs,iV,vs,h,hc,hb=>hc
 |(j,p,off)::js,(o,p',fJ)::cs,bs,iV,vs,h,hc,hb=>by
  unfold xq at h;obtain⟨ho,h'⟩:=bi h;clear h;split at h'
  case h_2=>cases h'
  rename_i b1 B3;obtain⟨v,us,rfl,⟨b,h1,rfl⟩,h2⟩:=hc;have ho:=beq_true ho;subst ho;exact⟨_,us,rfl,⟨b,hb _ _ (xr h' _ _ (lT B3).2) _ h1,rfl⟩,Cu h' h2 hb⟩
 |[],_::_,_,_,_,h,_,_=>by cases h
 |_::_,[],_,_,_,h,_,_=>by cases h
def TZ{s:SS}{d:aI}{bs iV:Bs}{vs:List mQ}(h:Qj ob s d bs=aa (vs,iV)):FW bs iV:=by
 unfold Qj at h;split at h
 .obtain⟨_,h⟩:=bi h;exact z8 h
 .obtain⟨_,h⟩:=bi h
  split at h<;>cases h
  rename_i hb;exact(lT hb).1
 .split at h<;>cases h
  exact λ_ _ h=>h
 .cases h
  exact λ_ _ h=>h
 .obtain⟨_,h'⟩:=bi h
  grind [xr]
 .cases h
def T4{s:SS}{d:aI}{bs iV:Bs}{vs:List mQ}(h:Nd ob s d bs=aa (vs,iV)):FW bs iV:=by
 induction s generalizing d with
 |ifc T s ih=>
  cases d with
  |ifc T' d'=>
   obtain⟨_,h'⟩:=bi (show(bif aqV T T' then Nd ob s d' bs else ae)=aa (vs,iV)from h);exact ih h'
  |_=>cases h
 |_=>exact TZ h
def T5(hs:aP U H F w ob n){s:SS}{d:aI}{bs iV:Bs}{vs:List mQ}{v:Value}(h:Qj ob s d bs=aa (vs,iV))(hd:aH H F w d v)(hb:rr H H' iV)(rest:List mQ):
 aH H' F w (gj s (vs++rest)).1 v/\(gj s (vs++rest)).2=rest:=by
 unfold Qj at h;split at h
 .rename_i agg sh gh t;obtain⟨ha,h'⟩:=bi h;clear h
  have:agg=gh:=by cases agg<;>cases gh<;>simp_all
  subst this;obtain⟨cs,h1,h2⟩:=hd;obtain⟨k1,k2⟩:=DT hs h' h1 hb rest;exact⟨⟨cs,k1,h2⟩,k2⟩
 .rename_i j p off o p' fJ;obtain⟨ho,h'⟩:=bi h;clear h
  split at h'<;>cases h'
  rename_i B3;obtain⟨b,h1,h2⟩:=hd;refine⟨⟨b,hb _ _ (lT B3).2 _ h1,?_⟩,rfl⟩
  simp_all
 .rename_i r s x
  split at h<;>cases h
  rename_i Ft;obtain rfl:=Row.eq_of_beq Ft;refine⟨?_,rfl⟩
  show aH H' F w (bif s.beq s then aI.at s x else .dead) v
  rw[Row.beq_refl,cond_true];exact hd
 .cases h;exact⟨hd,rfl⟩
 .rename_i f js f' cs;obtain⟨hf,h'⟩:=bi h
  split at h'<;>cases h'
  rename_i B3;obtain⟨us,h1,h2⟩:=hd;refine⟨⟨us,?_,Cu B3 h2 hb⟩,rfl⟩
  simp_all
 .cases h
def T6(hs:aP U H F w ob n){s:SS}{d:aI}{bs iV:Bs}{vs:List mQ}{v:Value}(h:Nd ob s d bs=aa (vs,iV))(hd:aH H F w d v)(hb:rr H H' iV)(rest:List mQ):
 aH H' F w (gj s (vs++rest)).1 v/\(gj s (vs++rest)).2=rest:=by
 induction s generalizing d v with
 |ifc T s ih=>
  cases d with
  |ifc T' d'=>
   obtain⟨hT,h'⟩:=bi (show(bif aqV T T' then Nd ob s d' bs else ae)=aa (vs,iV)from h);obtain⟨u,e,h2⟩:=hd;obtain⟨k1,k2⟩:=ih h' h2;exact⟨⟨u,by simp_all,k1⟩,k2⟩
  |_=>cases h
 |_=>exact T5 hs h hd hb rest
def Ql:{l:List (Nat×SS)}->{aJ:List (Nat×aI)}->{bs iV:Bs}->{vs:List mQ}->Zg ob aJ l bs=aa (vs,iV)->FW bs iV
 |[],_,_,_,_,h=>by cases h;exact λ_ _ h=>h
 |(t,s)::l,aJ,bs,iV,vs,h=>by
  unfold Zg at h;split at h
  case h_2=>cases h
  split at h
  case h_2=>cases h
  rename_i h1;split at h
  case h_2=>cases h
  rename_i h2;cases h
  exact λj v hj=>Ql h2 j v (T4 h1 j v hj)
def Qm(hs:aP U H F w ob n){aJ:List (Nat×aI)}{ρ:Nat->Value}(jL:∀t d,find aJ t=aa d->aH H F w d (ρ t)):{l:List (Nat×SS)}->{bs iV:Bs}->{vs:List mQ}->Zg ob aJ l bs=aa (vs,iV)->rr H H' iV->∀rest,
 (∀t d,find (dU l (vs++rest)).1 t=aa d->aH H' F w d (ρ t))/\(dU l (vs++rest)).2=rest
 |[],bs,iV,vs,h,_,rest=>by cases h;exact⟨λ_ _ h=>(by cases h),rfl⟩
 |(t,s)::l,bs,iV,vs,h,hb,rest=>by
  unfold Zg at h;split at h
  case h_2=>cases h
  rename_i d hd;split at h
  case h_2=>cases h
  rename_i vs1 Ja h1;split at h
  case h_2=>cases h
  rename_i us K3 h2;cases h
  have OW:rr H H' Ja:=λj v hj=>hb j v (Ql h2 j v hj)
  obtain⟨k1,k2⟩:=T6 hs h1 (jL t d hd) OW (us++rest);obtain⟨m1,m2⟩:=Qm hs jL h2 hb rest
  grind [dU,bp]
end
end Go.Proofs.YtfeahmiobbjklaaGreatDoor
namespace Go.Proofs.YtfeahmiobbjklaaGreatDoor
open Go Go.RowKit
def Tree.owns:Tree->List Nat
 | .own o=>[o]
 | .pair a b=>a.owns++b.owns
 | .view o _ _ _=>[o]
 |_=>[]
def FX:Sh->Tree->List Nat
 | .leaf _,t=>t.owns
 | .pair a b,t=>match t.split with
   |some (x,y)=>FX a x++FX b y
   |none=>[]
 |_,_=>[]
def K4(aJ:List (Nat×aI)):List (Nat×SS)->List Nat
 |[]=>[]
 |(t, .val _ sh)::l=>(match find aJ t with
  |some (.val _ tr)=>FX sh tr
  |_=>[])++K4 aJ l
 |(t, .ifc _ (.val _ sh))::l=>(match find aJ t with
  |some (.ifc _ (.val _ tr))=>FX sh tr
  |_=>[])++K4 aJ l
 |_::l=>K4 aJ l
def VT(j:Nat):List (Nat×List Bool×Nat)->List (Nat×List Bool×Nat)->Option Nat
 |(j',_)::js,(o,_)::cs=>bif aqV j' j then aa o else VT j js cs
 |_,_=>ae
def FZ(aJ:List (Nat×aI))(j:Nat):List (Nat×SS)->Option Nat
 |[]=>ae
 |(t, .ptr j' _ _)::l=>bif aqV j' j then(match find aJ t with
  |some (.ptr o _ _)=>aa o
  |_=>ae)else FZ aJ j l
 |(t, .ifc _ (.ptr j' _ _))::l=>bif aqV j' j then(match find aJ t with
  |some (.ifc _ (.ptr o _ _))=>aa o
  |_=>ae)else FZ aJ j l
 |(t, .fn _ js)::l=>match(match find aJ t with
    |some (.fn _ cs)=>VT j js cs
    |_=>ae)with
  |some o=>aa o
  |none=>FZ aJ j l
 |_::l=>FZ aJ j l
def Qn(nb:Nat)(aJ:List (Nat×aI))(ss:List (Nat×SS))(objs:List (Nat×(Nat×Th))):List (Nat×OS)->List Nat
 |[]=>[]
 |(j, .box _ sh)::l=>(match(bif aru j nb then aa j else FZ aJ j ss)with
  |some o=>(match find objs o with
   |some (_, .box _ tr)=>FX sh tr
   |_=>[])
  |none=>[])++Qn nb aJ ss objs l
 |_::l=>Qn nb aJ ss objs l
def idB(nb:Nat):List (Nat×OS)->Bs
 |[]=>[]
 |(j,_)::l=>bif aru j nb then(j,aa j)::idB nb l else idB nb l
def jX:Bs->List Nat
 |[]=>[]
 |(_,aa o)::l=>o::jX l
 |(_,ae)::l=>jX l
def rU(o:Nat)(l:List Nat):Bool:=l.any (aqV o)
def Jb:List Nat->Bool
 |[]=>af
 |o::l=> !rU o l&&Jb l
def Qo(nb nxt:Nat):Bs->Bool
 |[]=>af
 |(j,u)::l=>(bif aru j nb then I9 u (aa j)else aru j nxt)&&Qo nb nxt l
def Jc(objs:List (Nat×(Nat×Th)))(F5:List Nat):List (Nat×(Nat×Th))->Bool
 |[]=>af
 |(o,(s,t))::l=>(match find objs o with
  |some (s',t')=>aqV s s'&&(bif gX t then gX t' else !gX t')
  |none=>ag)&& !rU o F5&&Jc objs F5 l
def Cv(nb:Nat)(J:JS)(aJ:List (Nat×aI))(objs:List (Nat×(Nat×Th))):List Nat:=K4 aJ J.aJ++Qn nb aJ J.aJ objs J.objs
def Cw(nb:Nat)(frame:List (Nat×(Nat×Th)))(J:JS)(aJ:List (Nat×aI))(objs:List (Nat×(Nat×Th))):Option (dW J.rows×Bs×List (Nat×(Nat×Th))):=
 match iG objs (Cv nb J aJ objs)with
 |none=>ae
 |some bq=>match Zg (find bq) aJ J.aJ (idB nb J.objs)with
  |none=>ae
  |some (vs,Ja)=>match Zh (find bq) J.objs Ja with
   |none=>ae
   |some (us,K3)=>bif Jb (jX K3)&&Qo nb J.nxt K3&&Nat.ble (nb+J.objs.length) J.nxt&&Jc bq (jX K3) frame then
     (match FV J.rows (vs++us)with
     |some x=>aa (x,K3,bq)
     |none=>ae)else ae
def wc:List (Nat×(Nat×Th))->Nat->Option Th
 |[],_=>ae
 |(_,(s,t))::l,m=>bif aqV s m then aa t else wc l m
def W6:List (Nat×(Nat×Th))->Nat->Option Nat
 |[],_=>ae
 |(j,(s,_))::l,m=>bif aqV s m then aa j else W6 l m
def Aa(H:aN)(ob:Nat->Option (Nat×Th)):Option (Option Nat)->Nat->Prop
 |some (aa o)=>match ob o with
  |some (s,_)=>H.sub s
  |none=>λ_=>False
 |_=>λ_=>False
def fW(H:aN)(nb:Nat)(bs:Bs)(cons:List (Nat×(Nat×Th)))(ob:Nat->Option (Nat×Th)):aN where
 val m:=if m<nb then H.val m else match find bs m with
  |some u=>valOf H u
  |none=>ae
 con m:=if m<nb then H.con m else wc cons m
 sub m:=if m<nb then H.sub m else match W6 cons m with
  |some j=>Aa H ob (find bs j)
  |none=>λ_=>False
section
variable {U:Nat->Prop} {H H':aN} {F:Nat->Prop} {w:World} {n:Nat} {ob:Nat->Option (Nat×Th)}
def K5{j:Nat}{s:OS}{bs iV:Bs}{vs:List mQ}(h:Qk ob j s bs=aa (vs,iV)):FW bs iV:=by
 unfold Qk at h;split at h
 .split at h
  case h_2=>cases h
  split at h
  .obtain⟨_,h'⟩:=bi h
   split at h'<;>cases h'
   exact λ_ _ h=>h
  .obtain⟨_,h'⟩:=bi h;exact z8 h'
  .obtain⟨_,h'⟩:=bi h
   split at h'<;>cases h'
   exact λ_ _ h=>h
  .obtain⟨_,h'⟩:=bi h;cases h'
   exact λ_ _ h=>h
  .obtain⟨_,h'⟩:=bi h;cases h'
   exact λ_ _ h=>h
  .obtain⟨_,h'⟩:=bi h
   split at h'<;>cases h'
   rename_i B3;exact(lT B3).1
  .cases h
 .split at h<;>cases h
  .exact λ_ _ h=>h
  .exact λ_ _ h=>h
 .cases h
def DU:{l:List (Nat×OS)}->{bs iV:Bs}->{vs:List mQ}->Zh ob l bs=aa (vs,iV)->FW bs iV
 |[],_,_,_,h=>by cases h;exact λ_ _ h=>h
 |(j,s)::l,bs,iV,vs,h=>by
  unfold Zh at h;split at h
  case h_2=>cases h
  rename_i h1;split at h
  case h_2=>cases h
  rename_i h2;cases h
  exact λj v hj=>DU h2 j v (K5 h1 j v hj)
def oC(H H':aN)(F:Nat->Prop)(w:World)(ob:Nat->Option (Nat×Th))(bs:Bs)(j:Nat)(t:Th):Prop:=
 ∃u v,find bs j=aa u/\valOf H u=aa v/\v.oneCell'=af/\t.base=t/\kA H' F w (Aa H ob (find bs j)) v t/\∀k,fp (Aa H ob (find bs j)) v t k->∃o s0 t0,u=aa o/\ob o=aa (s0,t0)/\H.val o=aa v/\fp (H.sub s0) v t0 k
def T7(hs:aP U H F w ob n){j:Nat}{s:OS}{bs iV:Bs}{vs:List mQ}(h:Qk ob j s bs=aa (vs,iV))(hb:rr H H' iV)(rest:List mQ):
 oC H H' F w ob bs j (eE s (vs++rest)).1/\(eE s (vs++rest)).2=rest:=by
 unfold Qk at h;split at h
 .rename_i o Zi;split at h
  case h_2=>cases h
  rename_i s0 t0 de;obtain⟨v,hv,dC⟩:=hs.obj _ _ _ de
  have kC:Aa H ob (find bs j)=H.sub s0:=by rw[Zi];simp[Aa,de]
  have mk:∀t,t.base=t->kA H' F w (H.sub s0) v t->(∀k,fp (H.sub s0) v t k->fp (H.sub s0) v t0 k)->oC H H' F w ob bs j t:=by
   intro t hb qk hf;refine⟨aa o,v,Zi,hv,dC.one,hb,by grind,λk hk=>?_⟩;rw[kC]at hk;exact⟨o,_,_,rfl,de,hv,hf k hk⟩
  split at h
  .rename_i T r T' r' l;obtain⟨hT,h'⟩:=bi h;clear h
   split at h'<;>cases h'
   rename_i Ft;obtain rfl:=Row.eq_of_beq Ft;obtain rfl:=beq_true hT;refine⟨?_,rfl⟩
   show oC H H' F w ob bs j (bif r'.beq r' then Th.own T r' l else .own T r' [])
   rw[Row.beq_refl,cond_true]
   exact mk _ rfl dC.ok λk hk=>hk
  .rename_i T sh T' t;obtain⟨hT,h'⟩:=bi h;clear h;obtain rfl:=beq_true hT;obtain⟨b,es,e,h1,h2⟩:=dC.ok;obtain⟨k1,k2⟩:=DT hs h' h2 hb rest;exact⟨mk _ rfl ⟨b,es,e,h1,k1⟩ λk hk=>hk,k2⟩
  .rename_i T K agg V T' K' gh V' l;obtain⟨hT,h'⟩:=bi h;clear h
   split at h'<;>cases h'
   rename_i Ft;obtain⟨W7,ha⟩:=c7 hT;clear hT
   have ha:agg=gh:=by cases agg<;>cases gh<;>simp_all
   subst ha;obtain⟨hK,hV⟩:=Ft;obtain rfl:=Row.eq_of_beq hK;obtain rfl:=Row.eq_of_beq hV;obtain rfl:=beq_true W7;refine⟨?_,rfl⟩
   show oC H H' F w ob bs j (if h:K'.beq K'=af/\V'.beq V'=af then Th.map T K' agg V' l else .map T K' agg V' [])
   rw[dif_pos ⟨Row.beq_refl _,Row.beq_refl _⟩];obtain⟨b,es,clock,e,h1,h2,h3⟩:=dC.ok
   exact mk _ rfl ⟨b,es,clock,e,h1,h2,h3.jy⟩ λk hk=>hk
  .rename_i T d T' d' l;obtain⟨hT,h'⟩:=bi h;clear h;obtain⟨W7,hd⟩:=c7 hT;obtain rfl:=DR.eq_of_beq hd;obtain rfl:=beq_true W7;cases h';refine⟨?_,rfl⟩
   show oC H H' F w ob bs j (if h:d'.row.beq d'.row=af then Th.deep T d' l ae else .deep T d' [] ae)
   rw[dif_pos (Row.beq_refl _)]
   exact mk _ rfl dC.ok λk hk=>hk
  .rename_i T K agg V T' K' gh V' l it;obtain⟨hT,h'⟩:=bi h;clear h;obtain⟨hT,hd⟩:=c7 hT;obtain⟨hT,yC⟩:=c7 hT;obtain⟨W7,ha⟩:=c7 hT
   have ha:agg=gh:=by cases agg<;>cases gh<;>simp_all
   subst ha;obtain rfl:=Row.eq_of_beq hd;obtain rfl:=Row.eq_of_beq yC;obtain rfl:=beq_true W7;cases h';refine⟨?_,rfl⟩
   show oC H H' F w ob bs j (Th.smap T K' agg V' ((s5 K' V' ⟨.slice (.pair K' V'),l⟩).getD []) ae)
   rw[xp];obtain⟨b,es,clock,l',e,h0,h1,h2,h3,h4,_⟩:=dC.ok
   exact mk _ rfl ⟨b,es,clock,l',e,h0,h1,h2,h3.jy,h4,trivial⟩ λk hk=>hk
  .rename_i T K agg V nj T' K' gh V' l n' left cur;obtain⟨hT,h'⟩:=bi h;clear h;obtain⟨hT,hd⟩:=c7 hT;obtain⟨hT,yC⟩:=c7 hT;obtain⟨W7,ha⟩:=c7 hT
   have ha:agg=gh:=by cases agg<;>cases gh<;>simp_all
   subst ha;obtain rfl:=Row.eq_of_beq hd;obtain rfl:=Row.eq_of_beq yC;obtain rfl:=beq_true W7
   split at h'<;>cases h'
   rename_i B3;refine⟨?_,rfl⟩
   show oC H H' F w ob bs j (Th.smap T K' agg V' ((s5 K' V' ⟨.slice (.pair K' V'),l⟩).getD []) (aa (nj,(s5 K' V' ⟨.slice (.pair K' V'),left⟩).getD [],ae)))
   rw[xp,xp];obtain⟨b,es,clock,l',e,h0,h1,h2,h3,h4,r,since,seen,last,i1,i2,i3,i4,i5,i6,i7,⟨l2,i8,i9⟩,_⟩:=dC.ok
   exact mk _ rfl ⟨b,es,clock,l',e,h0,h1,h2,h3.jy,h4,r,since,seen,last,i1,i2,hb _ _ (lT B3).2 _ i3,i4,i5,i6,i7,⟨l2,i8.jy,i9⟩,λp hp=>by cases hp⟩ λk hk=>hk
  .cases h
 .rename_i Zi
  split at h<;>cases h
  .rename_i T r;refine⟨?_,rfl⟩
   show oC H H' F w ob bs j (bif r.beq r then Th.own T r []else .own T r [])
   rw[Row.beq_refl,cond_true];refine⟨ae,_,Zi,rfl,rfl,rfl,(pz.nil 0 F w T r).2,λk hk=>?_⟩;have jn:cx (.slice ae 0 0) k:=hk;simp[cx,are]at jn
  .rename_i T d;refine⟨?_,rfl⟩
   show oC H H' F w ob bs j (if h:d.row.beq d.row=af then Th.deep T d [] ae else .deep T d [] ae)
   rw[dif_pos (Row.beq_refl _)]
   have kC:Aa H ob (find bs j)=λ_=>False:=by rw[Zi];rfl
   refine⟨ae,_,Zi,rfl,rfl,rfl,?_,λk hk=>?_⟩
   .rw[kC];exact⟨[],λ_ _=>False,pE.nil F w T d.low,rfl,λi h=>absurd h (by simp),⟨λk=>by simp[cx,are],λ_ _ _ h=>absurd h (by simp),λ_ _ h=>absurd h (by simp)⟩⟩
   .rw[kC]at hk;exact hk.elim
 .cases h
theorem F6:{l:List (Nat×OS)}->{m k:Nat}->{vs:List mQ}->m+l.length<=k->wc (jW m l vs) k=ae
 |[],_,_,_,_=>rfl
 |(j,s)::l,m,k,vs,h=>by
  show(bif aqV m k then _ else wc (jW (m+1) l _) k)=ae
  rw[List.length_cons]at h
  have:aqV m k=ag:=by
   cases hb:aqV m k with
   |false=>rfl
   |true=>have:=beq_true hb;omega
  rw[this,cond_false];exact F6 (by omega)
def Qp(hs:aP U H F w ob n):{l:List (Nat×OS)}->{bs iV:Bs}->{vs:List mQ}->Zh ob l bs=aa (vs,iV)->rr H H' iV->∀m,
 ∀j s t,find (jW m l vs) j=aa (s,t)->m<=s/\s<m+l.length/\wc (jW m l vs) s=aa t/\W6 (jW m l vs) s=aa j/\oC H H' F w ob iV j t
 |[],_,_,_,h,_,m=>by cases h;intro j s t h;cases h
 |(j0,s0)::l,bs,iV,vs,h,hb,m=>by
  unfold Zh at h;split at h
  case h_2=>cases h
  rename_i vs1 Ja h1;split at h
  case h_2=>cases h
  rename_i us K3 h2;cases h
  have OW:rr H H' Ja:=λj v hj=>hb j v (DU h2 j v hj)
  obtain⟨⟨u,v,g1,g2⟩,k2⟩:=T7 hs h1 OW us;intro j s t hf;unfold jW at hf⊢;rw[bp]at hf;rw[k2]at hf⊢;split at hf
  .rename_i e;subst e;simp only[aq2,Prod.mk.injEq]at hf;obtain⟨rfl,rfl⟩:=hf;have e1:=DU h2 _ _ (K5 h1 _ _ g1);rw[g1]at g2;refine⟨aqU _,by simp,?_,?_,u,v,e1,?_⟩
   .show(bif aqV m m then _ else _)=_
    simp
   .show(bif aqV m m then _ else _)=_
    simp
   grind
  .obtain⟨a1,a2,a3,a4,a5⟩:=Qp hs h2 hb (m+1) j s t hf
   have:aqV m s=ag:=by
    cases hb:aqV m s with
    |false=>rfl
    |true=>have:=beq_true hb;omega
   refine⟨by omega,by grind,?_,?_,a5⟩
   .show(bif aqV m s then _ else _)=_
    grind
   .show(bif aqV m s then _ else _)=_
    grind
theorem iq{o:Nat}{l:List Nat}:rU o l=af↔o∈l:=any_beq
theorem mw:{bs:Bs}->{j o:Nat}->find bs j=aa (aa o)->o∈jX bs
 |[],_,_,h=>by cases h
 |(i,u)::bs,j,o,h=>by
  rw[bp]at h;split at h
  .obtain rfl:=aqP h;exact List.mem_cons_self
  .have:=mw h
   cases u with
   |none=>exact this
   |some q=>exact List.mem_cons_of_mem _ this
def xu:{bs:Bs}->Jb (jX bs)=af->{j j' o:Nat}->find bs j=aa (aa o)->find bs j'=aa (aa o)->j=j'
 |[],_,_,_,_,h,_=>by cases h
 |(i,u)::bs,hn,j,j',o,h,h'=>by
  rw[bp]at h h'
  cases u with
  |none=>
   split at h
   .cases h
   .split at h'
    .cases h'
    .exact xu (bs:=bs) hn h h'
  |some q=>
   obtain⟨hq,PI⟩:=c7 hn
   have hq:q∉jX bs:=λe=>by rw[iq.2 e]at hq;cases hq
   split at h
   .grind [mw]
   .split at h'
    .grind [mw]
    .exact xu PI h h'
def Ab{nb nxt:Nat}:{bs:Bs}->Qo nb nxt bs=af->{j:Nat}->{u:Option Nat}->find bs j=aa u->(j<nb->u=aa j)/\(nb<=j->j<nxt)
 |[],_,_,_,h=>by cases h
 |(i,v)::bs,hk,j,u,h=>by
  obtain⟨h1,h2⟩:=c7 hk;rw[bp]at h;split at h
  .rename_i e;subst e;obtain rfl:=aqP h
   cases hb:aru i nb with
   |true=>
    rw[hb,cond_true]at h1
    have:i<nb:=by simpa using hb
    grind [Ct]
   |false=>
    rw[hb,cond_false]at h1
    have hge:¬i<nb:=λe=>by have:aru i nb=af:=by simpa using e
                           grind
    exact⟨λe=>absurd e hge,λ_=>by simpa using h1⟩
  .exact Ab h2 h
def Cx{objs:List (Nat×(Nat×Th))}{F5:List Nat}:{fr:List (Nat×(Nat×Th))}->Jc objs F5 fr=af->{o s:Nat}->{t:Th}->find fr o=aa (s,t)->
 o∉F5/\∃t',find objs o=aa (s,t')/\gX t'=gX t
 |[],_,_,_,_,h=>by cases h
 |(i,(s0,t0))::fr,hf,o,s,t,h=>by
  obtain⟨h1,h2⟩:=c7 hf;obtain⟨h1,h3⟩:=c7 h1;rw[bp]at h;split at h
  .rename_i e;subst e;simp only[aq2,Prod.mk.injEq]at h;obtain⟨rfl,rfl⟩:=h;split at h1
   .rename_i s' t' ho;obtain⟨h4,h5⟩:=c7 h1
    grind [beq_true,iq]
   .cases h1
  .exact Cx h2 h
def Qq{t t':Th}(h:t.base=t'.base)(hf:gX t=gX t'):t=t':=by
 cases t<;>cases t'<;>simp_all[Th.base,gX]
def Ac{U':Nat->Prop}{H0:aN}{F0:Nat->Prop}{w0:World}{objs0:List (Nat×(Nat×Th))}{nb:Nat}{ns:List Nat}{J:JS}{aJ:List (Nat×aI)}{objs bq:List (Nat×(Nat×Th))}{x:dW J.rows}{bs:Bs}{ρ:Nat->Value}
 (h:Cw nb (del ns objs0) J aJ objs=aa (x,bs,bq))(T8:aP U H0 F0 w0 (find objs0) nb)(VU:kB H0 nb)(hk:cY H0 F0 w0 H F w)(hs:aP U H F w (find objs) n)(jL:∀t d,find aJ t=aa d->aH H F w d (ρ t)):
 ∃F1 H1,aP U H F1 w (find bq) n/\(∀b,F b->F1 b)/\(∀b,F1 b->F b\/cT H (find objs) (Cv nb J aJ objs) b)/\iG objs (Cv nb J aJ objs)=aa bq/\H0.le H1/\rr H H1 bs/\kB H1 J.nxt/\
  (∀t d,find (dU J.aJ (eD J.rows x)).1 t=aa d->aH H1 F1 w d (ρ t))/\
  ((∀b,w.heap.size<=b->U' b)->(∀o s t v k,o∈jX bs->find bq o=aa (s,t)->H.val o=aa v->fp (H.sub s) v t k->U' k)->(∀o s t v k,find (del ns objs0) o=aa (s,t)->H.val o=aa v->fp (H.sub s) v t k->U' k)->
    aP U' H1 F1 w (find (jW nb J.objs (dU J.aJ (eD J.rows x)).2++del ns objs0)) J.nxt):=by
 unfold Cw at h;split at h
 case h_1=>cases h
 rename_i aee By;split at h
 case h_1=>cases h
 rename_i vs Ja hS;split at h
 case h_1=>cases h
 rename_i us K3 hO;obtain⟨hc,h'⟩:=bi h;clear h;split at h'
 case h_2=>cases h'
 rename_i x' hx;cases h';obtain⟨hc,Y7⟩:=c7 hc;obtain⟨hc,P5⟩:=c7 hc;obtain⟨B7,Fg⟩:=c7 hc
 have P5:nb+J.objs.length<=J.nxt:=by simpa using P5
 obtain⟨F1,ze,Fi,Te⟩:=rq By hs
 have jJ:Step F w F1 w:=λb hb=>⟨Fi b hb,rfl⟩
 have aef:∀t d,find aJ t=aa d->aH H F1 w d (ρ t):=λt d hd=>(jL t d hd).keep (aN.le.refl H) jJ
 rw[ya hx]
 have Qr:∃cons,cons=jW nb J.objs us:=⟨_,rfl⟩
 obtain⟨cons,K6⟩:=Qr
 have F7:H0.le (fW H nb bs cons (find bq)):=by
  have aF:∀s t,H0.con s=aa t->s<nb:=λs t jJ=>by
   rcases Nat.lt_or_ge s nb with h|h
   .exact h
   .rw[(VU s h).2]at jJ;cases jJ
  refine⟨λo v ho=>?_,λs t jJ=>?_,λs t jJ=>?_⟩
  .have:o<nb:=by
    rcases Nat.lt_or_ge o nb with h|h
    .exact h
    .rw[(VU o h).1]at ho;cases ho
   simp[fW,this,hk.jy.val _ _ ho]
  .simp[fW,aF s t jJ,hk.jy.con _ _ jJ]
  .simp[fW,aF s t jJ,hk.jy.sub _ _ jJ]
 have xv:rr H (fW H nb bs cons (find bq)) bs:=by
  intro j u hj v hv;obtain⟨a1,a2⟩:=Ab Fg hj;by_cases aF:j<nb
  .grind [fW,valOf]
  .simpa[fW,aF,hj]using hv
 have T9:rr H (fW H nb bs cons (find bq)) Ja:=λj v hj=>xv j v (DU hO j v hj)
 obtain⟨p1,p2⟩:=Qm ze aef hS T9 us
 have K7:kB (fW H nb bs cons (find bq)) J.nxt:=λm hm=>by
  have Y3:¬m<nb:=by omega
  refine⟨?_,?_⟩
  .simp only[fW,ai Y3];split
   .rename_i u hu;have:=(Ab Fg hu).2 (by omega);omega
   .rfl
  grind [fW,F6]
 refine⟨F1,fW H nb bs cons (find bq),ze,Fi,Te,By,F7,xv,K7,p1,λhU1 hU2 hU3=>?_⟩;rw[p2,<-K6];have Z1:=Qp (H':=fW H nb bs cons (find bq)) ze hO xv nb;rw[<-K6]at Z1
 have part:∀o s t,find (cons++del ns objs0) o=aa (s,t)->find cons o=aa (s,t)\/find (del ns objs0) o=aa (s,t):=by
  intro o s t ho;rw[kw]at ho
  cases hm:find cons o with
  |some y=>grind
  |none=>grind
 have DA:∀o s t,find (del ns objs0) o=aa (s,t)->o∉jX bs/\find bq o=aa (s,t)/\∃v,H.val o=aa v/\(fW H nb bs cons (find bq)).val o=aa v/\v.oneCell'=af/\(fW H nb bs cons (find bq)).con s=aa t.base/\(fW H nb bs cons (find bq)).sub s=H.sub s/\kA (fW H nb bs cons (find bq)) F1 w (H.sub s) v t:=by
  intro o s t ho;obtain⟨q1,t',q2,q3⟩:=Cx Y7 ho;have ho0:=(kz.1 ho).2;obtain⟨v0,MV,Jd⟩:=T8.obj _ _ _ ho0;obtain⟨v1,vK,sK⟩:=ze.obj _ _ _ q2;have e1:=hk.jy.val _ _ MV;rw[vK]at e1;obtain rfl:=aqP e1;have e2:=hk.jy.con _ _ Jd.con;rw[sK.con]at e2;have ht:=Qq (aqP e2) q3;subst ht;refine⟨q1,q2,v1,vK,F7.val _ _ MV,sK.one,F7.con _ _ Jd.con,(F7.sub _ _ Jd.con).trans (hk.jy.sub _ _ Jd.con).symm,?_⟩
  cases t' with
  |fdeep T d l=>exact sK.ok
  |deep T d l hh=>
   obtain⟨lh0,_,_,e0,r0,_⟩:=Jd.ok
   refine MF.mono (show MF F1 w T d.low _ v1 l (H.sub s)from sK.ok) (Step.refl F1 w) (λ_ _=>rfl) λi x' hi A hA hr=>?_
   cases hh with
   |none=>exact hr
   |some h=>
    refine⟨hr.1,λhh=>?_⟩;obtain⟨T',e,q,g1,g2,g3⟩:=hr.2 hh;obtain⟨_,_,q0,_,_,k3⟩:=(r0 i (by omega) hi).2 hh;have e3:=hk.jy.val _ _ k3;rw[g3]at e3;exact⟨T',e,q,g1,g2,by rw[aqP e3];exact F7.val _ _ k3⟩
  |box T tr=>
   obtain⟨b,es,e,g1,g2⟩:=sK.ok;obtain⟨b',pA,e',ZF,g2'⟩:=Jd.ok;exact⟨b,es,e,g1,Holds.back hk.jy F7 g2' g2⟩
  |own T r l=>exact sK.ok
  |yD T r l=>exact sK.ok
  |fmap T K agg V l=>exact sK.ok
  |smap T K agg V l it=>
   obtain⟨b,es,clock,l',e,g0,g1,g2,g3,g4,g5⟩:=sK.ok;obtain⟨_,_,_,_,_,_,_,_,_,_,r5⟩:=Jd.ok;refine⟨b,es,clock,l',e,g0,g1,g2,g3.jy,g4,g5.jy λn' x u e hu=>?_⟩;subst e;obtain⟨_,_,_,_,_,_,hu0,_⟩:=r5;have e3:=hk.jy.val _ _ hu0;rw[hu]at e3;rw[aqP e3];exact F7.val _ _ hu0
  |map T K agg V l=>
   obtain⟨b,es,clock,e,g1,g2,g3⟩:=sK.ok;exact⟨b,es,clock,e,g1,g2,g3.jy⟩
 have Z2:∀o s t,find cons o=aa (s,t)->∃v,(fW H nb bs cons (find bq)).val o=aa v/\v.oneCell'=af/\(fW H nb bs cons (find bq)).con s=aa t.base/\kA (fW H nb bs cons (find bq)) F1 w ((fW H nb bs cons (find bq)).sub s) v t/\
  ∀k,fp ((fW H nb bs cons (find bq)).sub s) v t k->∃o' s0 t0,find bs o=aa (aa o')/\find bq o'=aa (s0,t0)/\H.val o'=aa v/\fp (H.sub s0) v t0 k:=by
  intro o s t ho;obtain⟨a1,a2,a3,a4,u,v,b1,b2,b3,b4,b5,b6⟩:=Z1 o s t ho
  have kC:(fW H nb bs cons (find bq)).sub s=Aa H (find bq) (find bs o):=by
   simp only[fW];rw[ai (by omega),a4]
  rw[kC];refine⟨v,xv o u b1 v b2,b3,?_,b5,λk hk=>?_⟩
  .grind [fW]
  .grind
 refine⟨λo s t ho=>?_,λo o' s s' t t' v v' eG ho pq hv ga k hk jn=>?_,λm hm _=>K7 m hm,ze.lt,hU1,ze.gl⟩
 .rcases part o s t ho with h1|h1
  .obtain⟨v,a1,a2,a3,a4,a5⟩:=Z2 o s t h1
   refine⟨v,a1,a2,a3,a4,λk hk hF=>?_,λk hk=>?_,λk hk=>?_⟩<;>obtain⟨o',s0,t0,b1,b2,b3,b4⟩:=a5 k hk<;>obtain⟨v',ga,dC⟩:=ze.obj _ _ _ b2
   all_goals
    rw[b3]at ga;obtain rfl:=aqP ga
   .exact dC.no k b4 hF
   .exact dC.lt k b4
   grind [mw]
  .obtain⟨q1,q2,v,a1,a2,a3,a4,a6,a5⟩:=DA o s t h1;obtain⟨v',ga,dC⟩:=ze.obj _ _ _ q2;rw[a1]at ga;obtain rfl:=aqP ga;exact⟨v,a2,a3,a4,by rw[a6];exact a5,by rw[a6];exact dC.no,by rw[a6];exact dC.lt,(by grind)⟩
 .rcases part o s t ho with h1|h1<;>rcases part o' s' t' pq with h2|h2
  .obtain⟨u,a1,_,_,_,a5⟩:=Z2 o s t h1;obtain⟨u',c1,_,_,_,c5⟩:=Z2 o' s' t' h2;rw[hv]at a1;rw[ga]at c1;obtain rfl:=aqP a1;obtain rfl:=aqP c1;obtain⟨p,s0,t0,d1,d2,d3,d4⟩:=a5 k hk;obtain⟨p',s0',t0',e1,e2,e3,e4⟩:=c5 k jn;refine ze.apart p p' _ _ _ _ _ _ (λe=>eG ?_) d2 e2 d3 e3 k d4 e4;subst e;exact xu B7 d1 e1
  .obtain⟨u,a1,_,_,_,a5⟩:=Z2 o s t h1;obtain⟨q1,q2,u',c1,c2,_,_,c6,_⟩:=DA o' s' t' h2;rw[c6]at jn;rw[hv]at a1;rw[ga]at c2;obtain rfl:=aqP a1;obtain rfl:=aqP c2;obtain⟨p,s0,t0,d1,d2,d3,d4⟩:=a5 k hk;exact ze.apart p o' _ _ _ _ _ _ (λe=>q1 (e▸mw d1)) d2 q2 d3 c1 k d4 jn
  .obtain⟨u,a1,_,_,_,a5⟩:=Z2 o' s' t' h2;obtain⟨q1,q2,u',c1,c2,_,_,c6,_⟩:=DA o s t h1;rw[c6]at hk;rw[ga]at a1;rw[hv]at c2;obtain rfl:=aqP a1;obtain rfl:=aqP c2;obtain⟨p,s0,t0,d1,d2,d3,d4⟩:=a5 k jn;exact ze.apart o p _ _ _ _ _ _ (λe=>q1 (e▸mw d1)) q2 d2 c1 d3 k hk d4
  .obtain⟨q1,q2,u,c1,c2,_,_,c6,_⟩:=DA o s t h1;obtain⟨q1',q2',u',c1',Z3,_,_,c6',_⟩:=DA o' s' t' h2;rw[c6]at hk;rw[c6']at jn;rw[hv]at c2;rw[ga]at Z3;obtain rfl:=aqP c2;obtain rfl:=aqP Z3;exact ze.apart o o' _ _ _ _ _ _ eG q2 q2' c1 c1' k hk jn
end
end Go.Proofs.YtfeahmiobbjklaaGreatDoor
end
namespace Go.Proofs.YtfeahmiobbjklaaGreatDoor
open Go Go.RowKit
set_option maxRecDepth 100000
set_option linter.unusedSimpArgs false
set_option linter.unusedVariables false
set_option linter.defProp false
section
structure qf where
 inn:JS
 out:JS
 fn:dW inn.rows->Option (dW out.rows)
def Bz:List Value->Value
 |[v]=>v
 |vs=> .tuple vs.toArray
structure hZ(P:Program)(f:FuncId)(sg:qf):Prop where
 fn:∃fn,P.funcs[f]? =aa fn/\(fn.name== "runtime.NumGoroutine")=ag/\fn.body.isNone=ag
 ok:∀x y,sg.fn x=aa y->∀(args:List Value)(w:World)(H:aN)(F G:Nat->Prop),args.length=sg.inn.aJ.length->
  (∀t d,find (dU sg.inn.aJ (eD _ x)).1 t=aa d->aH H F w d (args.getD t undef))->
  aP (λk=>w.heap.size<=k\/G k) H F w (find (jW 0 sg.inn.objs (dU sg.inn.aJ (eD _ x)).2)) sg.inn.nxt->kB H sg.inn.nxt->(∀k,G k->¬F k)->
  Calls P f args.toArray w λe w'=>∃vs,e= .returned (Bz vs)/\vs.length=sg.out.aJ.length/\∃H' F',Ext G w w'/\H.le H'/\(∀b,F b->F' b)/\(∀b,F' b->F b\/w.heap.size<=b\/G b)/\
   (∀t d,find (dU sg.out.aJ (eD _ y)).1 t=aa d->aH H' F' w' d (vs.getD t undef))/\
   aP (λk=>w.heap.size<=k\/G k) H' F' w' (find (jW sg.inn.nxt sg.out.objs (dU sg.out.aJ (eD _ y)).2)) sg.out.nxt/\kB H' sg.out.nxt
def Sh.vg(φ:Nat->Nat):Sh->Sh
 | .leaf r=> .leaf r
 | .own j=> .own (φ j)
 | .nil=> .nil
 | .pair a b=> .pair (a.vg φ) (b.vg φ)
 | .junk n=> .junk n
def SS.vg(φ:Nat->Nat):SS->SS
 | .val agg t=> .val agg (t.vg φ)
 | .ptr j p off=> .ptr (φ j) p off
 | .at r=> .at r
 | .undef=> .undef
 | .fn f js=> .fn f (js.map λc=>(φ c.1,c.2))
 | .ifc T s=> .ifc T (s.vg φ)
def OS.vg(φ:Nat->Nat):OS->OS
 | .box T t=> .box T (t.vg φ)
 | .own T r=> .own T r
 | .map T K agg V=> .map T K agg V
 | .deep T d=> .deep T d
 | .smap T K agg V it=> .smap T K agg V (it.map φ)
def we(φ:Nat->Nat):List (Nat×SS)->List (Nat×SS)
 |[]=>[]
 |(t,s)::l=>(t,s.vg φ)::we φ l
def F8(φ:Nat->Nat):List (Nat×OS)->List (Nat×OS)
 |[]=>[]
 |(j,s)::l=>(φ j,s.vg φ)::F8 φ l
def Row.F9:Row->Bool
 | .slice _=>ag
 | .map .. =>ag
 | .pair a b=>a.F9&&b.F9
 |_=>af
def DR.lL(p:Row->Bool):DR->Bool
 | .leaf r=>p r
 | .sl _ d=>d.lL p
 | .pair a b=>a.lL p&&b.lL p
def Sh.lL(p:Row->Bool):Sh->Bool
 | .leaf r=>p r
 | .pair a b=>a.lL p&&b.lL p
 |_=>af
def SS.lL(p:Row->Bool):SS->Bool
 | .val _ t=>t.lL p
 | .at r=>p (.slice r)
 | .ifc _ s=>s.lL p
 |_=>af
def OS.lL(p:Row->Bool):OS->Bool
 | .box _ t=>t.lL p
 | .own _ r=>p r
 | .map _ _ _ V=>p V
 | .deep _ d=>d.lL p
 | .smap _ _ _ V _=>p V
def vh(p:Row->Bool):List (Nat×SS)->Bool
 |[]=>af
 |(_,s)::l=>s.lL p&&vh p l
def Cy(p:Row->Bool):List (Nat×OS)->Bool
 |[]=>af
 |(_,s)::l=>s.lL p&&Cy p l
section
variable {H H':aN} {F F':Nat->Prop} {w w':World} {φ:Nat->Nat} {p:Row->Bool}
def dy.Je:{r:Row}->{cs:List Value}->{x:r.den}->r.F9=af->dy F w r cs x->dy F' w' r cs x
 | .int _,_,_,_,h=>h
 | .bool,_,_,_,h=>h
 | .str,_,_,_,h=>h
 | .od,_,_,_,h=>h
 | .nul _,_,_,_,h=>h
 | .map ..,_,_,hf,_=>by cases hf
 | .slice _,_,_,hf,_=>by cases hf
 | .pair a b,_,_,hf,h=>by
   obtain⟨c1,c2,e,h1,h2⟩:=h;obtain⟨f1,f2⟩:=c7 hf;exact⟨c1,c2,e,dy.Je f1 h1,dy.Je f2 h2⟩
def Ren(H H':aN)(φ:Nat->Nat):Prop:=∀j v,H.val j=aa v->H'.val (φ j)=aa v
def yb(p:Row->Bool)(F F':Nat->Prop)(w:World):Prop:=∀r,p r=af->∀cs x,dy F w r cs x->dy F' w r cs x
def s7:(sh:Sh)->(vs:List mQ)->(sM (sh.vg φ) vs).2=(sM sh vs).2
 | .leaf r,[]=>rfl
 | .leaf r,_::_=>rfl
 | .own j,vs=>rfl
 | .nil,vs=>rfl
 | .pair a b,vs=>by
   show(sM (b.vg φ) (sM (a.vg φ) vs).2).2=_
   rw[s7 a,s7 b];rfl
 | .junk _,_=>rfl
def Cz(s:SS)(vs:List mQ):(gj (s.vg φ) vs).2=(gj s vs).2:=by
 induction s with
 |ifc T s ih=>exact ih
 |val agg t=>exact s7 t vs
 |ptr j p off=>rfl
 |«at» r=>cases vs<;>rfl
 |undef=>rfl
 |fn f js=>rfl
theorem CA(s:OS)(vs:List mQ):(eE (s.vg φ) vs).2=(eE s vs).2:=by
 cases s with
 |box T t=>exact s7 t vs
 |own T r=>rfl
 |map T K agg V=>rfl
 |deep T d=>rfl
 |smap T K agg V it=>
  cases it with
  |none=>cases vs<;>rfl
  |some n=>match vs with
   |[]=>rfl
   |[_]=>rfl
   |_::_::_=>rfl
def Ga:(l:List (Nat×SS))->(vs:List mQ)->(dU (we φ l) vs).2=(dU l vs).2
 |[],_=>rfl
 |(t,s)::l,vs=>by
  show(dU (we φ l) (gj (s.vg φ) vs).2).2=(dU l (gj s vs).2).2
  rw[Cz,Ga l]
def wg(hr:Ren H H' φ)(hm:yb p F F' w):{sh:Sh}->{vs:List mQ}->{cs:List Value}->sh.lL p=af->Holds H F w (sM sh vs).1 cs->Holds H' F' w (sM (sh.vg φ) vs).1 cs
 | .leaf r,[],cs,_,h=>h
 | .leaf r,⟨s,x⟩::vs,cs,hp,h=>by
   have h':Holds H F w (bif s.beq r then Tree.leaf s x else .nil) cs:=h
   show Holds H' F' w (bif s.beq r then Tree.leaf s x else .nil) cs
   cases hb:s.beq r with
   |true=>
    rw[hb,cond_true]at h';obtain rfl:=Row.eq_of_beq hb;exact hm _ hp _ _ h'
   |false=>rw[hb]at h';exact h'
 | .own j,vs,cs,_,h=>by obtain⟨v,h1,h2⟩:=h;exact⟨v,hr j v h1,h2⟩
 | .nil,vs,cs,_,h=>h
 | .pair a b,vs,cs,hp,h=>by
   obtain⟨c1,c2,e,h1,h2⟩:=h;obtain⟨p1,p2⟩:=c7 hp;refine⟨c1,c2,e,wg hr hm p1 h1,?_⟩;rw[s7 a];exact wg hr hm p2 h2
 | .junk _,vs,cs,_,h=>h
def og.vg(hr:Ren H H' φ):{cs:List (Nat×List Bool×Nat)}->{vs:List Value}->og H cs vs->og H' (cs.map λc=>(φ c.1,c.2)) vs
 |[],_,h=>h
 |_::_,_,h=>by obtain⟨v,us,e,⟨b,h1,h2⟩,h3⟩:=h;exact⟨v,us,e,⟨b,hr _ _ h1,h2⟩,og.vg hr h3⟩
theorem Nf(hr:Ren H H' φ)(hm:yb p F F' w){s:SS}{vs:List mQ}{v:Value}(hp:s.lL p=af)(h:aH H F w (gj s vs).1 v):aH H' F' w (gj (s.vg φ) vs).1 v:=by
 induction s generalizing v with
 |ifc T s ih=>
  obtain⟨u,e,h2⟩:=h;exact⟨u,e,ih hp h2⟩
 |val agg t=>
  obtain⟨cs,h1,h2⟩:=h;exact⟨cs,wg hr hm hp h1,h2⟩
 |ptr j p off=>
  obtain⟨b,h1,h2⟩:=h;exact⟨b,hr _ _ h1,h2⟩
 |«at» r=>
  match vs,h with
  |[],h=>exact h
  |⟨s,x⟩::vs,h=>
   have h':aH H F w (bif s.beq r then aI.at s x else .dead) v:=h
   show aH H' F' w (bif s.beq r then aI.at s x else .dead) v
   cases hb:s.beq r with
   |false=>trivial
   |true=>
    rw[hb,cond_true]at h';obtain rfl:=Row.eq_of_beq hb;obtain⟨b,off,rfl,hF,es,h1,h2,h3⟩:=h'
    have jL:dy F w (.slice s) [.slice (aa ⟨b,off,ae⟩) 1 1] [x]:=⟨aa ⟨b,off,ae⟩,1,rfl,aqU _,by unfold maxLen;omega,λi hi=>by
     have e:i=0:=by simp at hi;omega
     subst e
     grind⟩
    obtain⟨A,cap,e1,_,_,yx⟩:=hm (.slice s) hp _ _ jL;obtain⟨b',fJ,pA,hA,g1,g2,g3,g4⟩:=yx 0 (by simp);simp only[arV,asf,and_true]at e1;obtain⟨e1,_,_⟩:=e1;rw[<-e1]at hA;simp only[aq2,Addr.mk.injEq,and_true]at hA;obtain⟨rfl,rfl⟩:=hA;exact⟨b,off,rfl,g1,pA,g2,(by grind),g4⟩
 |undef=>exact h
 |fn f js=>
  obtain⟨us,h1,h2⟩:=h;exact⟨us,h1,h2.vg hr⟩
def iP.sC{K:Row}{agg:Bool}{V:Row}(hm:∀cs x,dy F w V cs x->dy F' w' V cs x):{es:List MapEntry}->{l:List (K.den×V.den)}->iP H F w K agg V es l->iP H' F' w' K agg V es l
 |[],_,h=>h
 |_::_,_,h=>by
  obtain⟨k,x,l',e,h1,⟨cs,h2,MG⟩,h3⟩:=h;exact⟨k,x,l',e,h1,⟨cs,hm _ _ h2,MG⟩,iP.sC hm h3⟩
def dy.Ad(hm:yb p F F' w):{d:DR}->{cs:List Value}->{x:d.low.den}->d.lL p=af->dy F w d.low cs x->dy F' w d.low cs x
 | .leaf r,_,_,hp,h=>hm r hp _ _ h
 | .sl _ _,_,_,_,h=>h
 | .pair a b,_,_,hp,h=>by
   obtain⟨p1,p2⟩:=c7 hp;obtain⟨c1,c2,e,h1,h2⟩:=h;exact⟨c1,c2,e,dy.Ad hm p1 h1,dy.Ad hm p2 h2⟩
def pE.sC(hm:yb p F F' w){d:DR}(hp:d.lL p=af){T:TypeId}{v:Value}{l:List d.low.den}(h:pE F w T d.low v l):pE F' w T d.low v l:=by
 obtain⟨xs,h1,h2⟩:=h;exact⟨xs,h1,λi hi=>dy.Ad hm hp (h2 i hi)⟩
def mP.sC(hm:yb p F F' w):{d:DR}->{x':d.low.den}->{x:d.row.den}->{S:Nat->Prop}->d.lL p=af->mP F w d x' x S->mP F' w d x' x S
 | .leaf _,_,_,_,_,h=>h
 | .sl _ d,_,_,_,hp,h=>by
   obtain⟨lh,Ss,h1,h2,h3,h4⟩:=h;exact⟨lh,Ss,h1.sC hm (show d.lL p=af from hp),h2,λi a b=>mP.sC hm (show d.lL p=af from hp) (h3 i a b),h4⟩
 | .pair a b,_,_,_,hp,h=>by
   obtain⟨p1,p2⟩:=c7 hp;obtain⟨A,B,h1,h2,h3⟩:=h;exact⟨A,B,mP.sC hm p1 h1,mP.sC hm p2 h2,h3⟩
def Jf(T:TypeId)(d:DR):(vs:List mQ)->∃l,(eE (.deep T d) vs).1= .deep T d l ae
 |[]=>⟨[],rfl⟩
 |⟨.slice s,l⟩::vs=>by
  unfold eE;simp only
  split<;>exact⟨_,rfl⟩
 |⟨.int _,_⟩::_|⟨.bool,_⟩::_|⟨.str,_⟩::_|⟨.od,_⟩::_|⟨.nul _,_⟩::_|⟨.pair _ _,_⟩::_|⟨.map ..,_⟩::_=>⟨[],rfl⟩
def Ng(T:TypeId)(K:Row)(agg:Bool)(V:Row):(vs:List mQ)->∃l,(eE (.map T K agg V) vs).1= .map T K agg V l
 |[]=>⟨[],rfl⟩
 |⟨.slice (.pair K' V'),l⟩::vs=>by
  unfold eE;simp only
  split<;>exact⟨_,rfl⟩
 |⟨.slice (.int _),_⟩::_|⟨.slice .bool,_⟩::_|⟨.slice .str,_⟩::_|⟨.slice (.slice _),_⟩::_|⟨.slice .od,_⟩::_|⟨.slice (.nul _),_⟩::_|⟨.slice (.map ..),_⟩::_=>⟨[],rfl⟩
 |⟨.int _,_⟩::_|⟨.bool,_⟩::_|⟨.str,_⟩::_|⟨.od,_⟩::_|⟨.nul _,_⟩::_|⟨.pair _ _,_⟩::_|⟨.map ..,_⟩::_=>⟨[],rfl⟩
def xw(hr:Ren H H' φ)(hm:yb p F F' w){s:OS}{vs:List mQ}{S:Nat->Prop}{v:Value}(hp:s.lL p=af)(h:kA H F w S v (eE s vs).1):
 kA H' F' w S v (eE (s.vg φ) vs).1/\(eE (s.vg φ) vs).1.base=(eE (s.vg φ) vs).1/\(∀k,fp S v (eE (s.vg φ) vs).1 k->fp S v (eE s vs).1 k):=by
 have own:∀(T:TypeId)(q:Row)(l:List q.den),p q=af->kA H F w S v (.own T q l)->kA H' F' w S v (.own T q l):=λT q l hq ⟨xs,hx,h3⟩=>⟨xs,hx,λi hi=>hm q hq _ _ (h3 i hi)⟩
 cases s with
 |box T t=>
  obtain⟨b,es,e,h1,h2⟩:=h;exact⟨⟨b,es,e,h1,wg hr hm hp h2⟩,rfl,λk hk=>hk⟩
 |own T r=>
  match vs,h with
  |[],h=>exact⟨own T r [] hp h,rfl,λ_ h=>h⟩
  |⟨.slice s,l⟩::vs,h=>
   have h':kA H F w S v (bif s.beq r then Th.own T s l else .own T r []):=h
   show kA H' F' w S v (bif s.beq r then Th.own T s l else .own T r [])/\Th.base (bif s.beq r then Th.own T s l else .own T r [])=(bif s.beq r then Th.own T s l else .own T r [])/\∀k,fp S v (bif s.beq r then Th.own T s l else .own T r []) k->fp S v (bif s.beq r then Th.own T s l else .own T r []) k
   cases hb:s.beq r with
   |true=>
    rw[hb,cond_true]at h';obtain rfl:=Row.eq_of_beq hb;exact⟨own T s l hp h',rfl,λ_ h=>h⟩
   |false=>
    rw[hb,cond_false]at h';exact⟨own T r [] hp h',rfl,λ_ h=>h⟩
  |⟨.int _,_⟩::vs,h=>exact⟨own T r [] hp h,rfl,λ_ h=>h⟩
  |⟨.bool,_⟩::vs,h=>exact⟨own T r [] hp h,rfl,λ_ h=>h⟩
  |⟨.str,_⟩::vs,h=>exact⟨own T r [] hp h,rfl,λ_ h=>h⟩
  |⟨.od,_⟩::vs,h=>exact⟨own T r [] hp h,rfl,λ_ h=>h⟩
  |⟨.nul _,_⟩::vs,h=>exact⟨own T r [] hp h,rfl,λ_ h=>h⟩
  |⟨.map ..,_⟩::vs,h=>exact⟨own T r [] hp h,rfl,λ_ h=>h⟩
  |⟨.pair _ _,_⟩::vs,h=>exact⟨own T r [] hp h,rfl,λ_ h=>h⟩
 |map T K agg V=>
  have gen:∀l:List (K.den×V.den),kA H F w S v (.map T K agg V l)->kA H' F' w S v (.map T K agg V l):=by
   rintro l ⟨b,es,clock,e,h1,h2,h3⟩
   exact⟨b,es,clock,e,h1,h2,iP.sC (λcs x hr=>hm V hp cs x hr) h3⟩
  obtain⟨l,hl⟩:=Ng T K agg V vs
  show kA H' F' w S v (eE (OS.map T K agg V) vs).1/\(eE (OS.map T K agg V) vs).1.base=(eE (OS.map T K agg V) vs).1/\∀k,fp S v (eE (OS.map T K agg V) vs).1 k->fp S v (eE (OS.map T K agg V) vs).1 k
  rw[hl]at h⊢;exact⟨gen l h,rfl,λ_ h=>h⟩
 |deep T d=>
  obtain⟨l,hl⟩:=Jf T d vs
  show kA H' F' w S v (eE (OS.deep T d) vs).1/\(eE (OS.deep T d) vs).1.base=(eE (OS.deep T d) vs).1/\∀k,fp S v (eE (OS.deep T d) vs).1 k->fp S v (eE (OS.deep T d) vs).1 k
  rw[hl]at h⊢;refine⟨?_,rfl,λ_ h=>h⟩;have h':mP F w (.sl T d) v l S:=h;exact(mP.sC (d:= .sl T d) hm hp h':mP F' w (.sl T d) v l S)
 |smap T K agg V it=>
  have gen:∀(l:List (K.den×V.den)),kA H F w S v (.smap T K agg V l ae)->kA H' F' w S v (.smap T K agg V l ae):=by
   rintro l ⟨b,es,clock,l',e,h0,h1,h2,h3,h4,_⟩
   exact⟨b,es,clock,l',e,h0,h1,h2,iP.sC (λcs x hr=>hm V hp cs x hr) h3,h4,trivial⟩
  have aeg:∀(n:Nat)(l left:List (K.den×V.den)),kA H F w S v (.smap T K agg V l (aa (n,left,ae)))->kA H' F' w S v (.smap T K agg V l (aa (φ n,left,ae))):=by
   rintro n l left ⟨b,es,clock,l',e,h0,h1,h2,h3,h4,r,since,seen,last,i1,i2,i3,i4,i5,i6,i7,⟨l2,i8,i9⟩,_⟩
   exact⟨b,es,clock,l',e,h0,h1,h2,iP.sC (λcs x hr=>hm V hp cs x hr) h3,h4,r,since,seen,last,i1,i2,hr _ _ i3,i4,i5,i6,i7,⟨l2,iP.sC (λcs x hr=>hm V hp cs x hr) i8,i9⟩,λp hp=>by cases hp⟩
  cases it with
  |none=>
   match vs,h with
   |[],h=>exact⟨gen _ h,rfl,λ_ h=>h⟩
   |_::_,h=>exact⟨gen _ h,rfl,λ_ h=>h⟩
  |some n=>
   match vs,h with
   |[],h=>exact⟨gen _ h,rfl,λ_ h=>h⟩
   |[_],h=>exact⟨gen _ h,rfl,λ_ h=>h⟩
   |_::_::_,h=>exact⟨aeg _ _ _ h,rfl,λ_ h=>h⟩
theorem CB:{l:List (Nat×SS)}->{vs:List mQ}->{t:Nat}->{d:aI}->vh p l=af->find (dU (we φ l) vs).1 t=aa d->∃s us,d=(gj (s.vg φ) us).1/\find (dU l vs).1 t=aa (gj s us).1/\s.lL p=af
 |[],_,_,_,_,h=>by cases h
 |(t0,s)::l,vs,t,d,hp,h=>by
  obtain⟨p1,p2⟩:=c7 hp;have h':find ((t0,(gj (s.vg φ) vs).1)::(dU (we φ l) (gj (s.vg φ) vs).2).1) t=aa d:=h
  show∃s' us,d=_/\find ((t0,(gj s vs).1)::(dU l (gj s vs).2).1) t=_/\_
  rw[bp]at h';by_cases e:t0=t
  .grind [bp]
  .rw[ai e]at h';rw[Cz]at h';obtain⟨s',us,a1,a2,a3⟩:=CB p2 h'
   grind [bp]
def Qs(hr:Ren H H' φ)(hm:yb p F F' w){ρ:Nat->Value}{l:List (Nat×SS)}{vs:List mQ}(hp:vh p l=af)(h:∀t d,find (dU l vs).1 t=aa d->aH H F w d (ρ t)):∀t d,find (dU (we φ l) vs).1 t=aa d->aH H' F' w d (ρ t):=by
 grind [CB,Nf]
def Gb{m m':Nat}:{l:List (Nat×OS)}->{vs:List mQ}->{o s:Nat}->{t:Th}->find (jW m (F8 φ l) vs) o=aa (s,t)->∃j s' us sh,φ j=o/\t=(eE (sh.vg φ) us).1/\find (jW m' l vs) j=aa (s',(eE sh us).1)/\(Cy p l=af->sh.lL p=af)/\wc (jW m (F8 φ l) vs) s=aa t/\m<=s/\s<m+l.length/\s'=s-m+m'
 |[],_,_,_,_,h=>by cases h
 |(j,sh)::l,vs,o,s,t,h=>by
  have h':find ((φ j,(m,(eE (sh.vg φ) vs).1))::jW (m+1) (F8 φ l) (eE (sh.vg φ) vs).2) o=aa (s,t):=h;rw[bp]at h';split at h'
  .rename_i e;simp only[aq2,Prod.mk.injEq]at h';obtain⟨rfl,rfl⟩:=h';refine⟨j,m',vs,sh,e,rfl,?_,λhp=>(c7 hp).1,?_,aqU _,by simp,by omega⟩
   .show find ((j,(m',(eE sh vs).1))::_) j=_
    rw[bp,aj rfl]
   .show(bif aqV m m then _ else _)=_
    simp
  .rename_i e;rw[CA]at h';obtain⟨j',s',us,sh',a1,a2,a3,a4,a5,a6,a7,a8⟩:=Gb (m':=m'+1) h';refine⟨j',s',us,sh',a1,a2,?_,λhp=>a4 (c7 hp).2,?_,by omega,by grind,by omega⟩
   all_goals grind [jW,bp,wc,F8,beq_true,CA]
def Jg:List (Nat×aI)->Option (List (Bool×Tree))
 |[]=>aa []
 |(_, .val a t)::l=>match Jg l with
  |some ds=>aa ((a,t)::ds)
  |none=>ae
 |_::_=>ae
def Qt:List (Nat×aI)->Option aI
 |[]=>aa .dead
 |[(_,d)]=>aa d
 |l=>match Jg l with
  |some ds=>aa (.tup ds)
  |none=>ae
def xx:Nat->List (Nat×SS)->Bool
 |_,[]=>af
 |k,(t,_)::l=>aqV t k&&xx (k+1) l
def K8:{l:List (Nat×SS)}->{vs:List mQ}->{k t:Nat}->{d:aI}->xx k l=af->find (dU l vs).1 t=aa d->k<=t
 |[],_,_,_,_,_,h=>by cases h
 |(t0,s)::l,vs,k,t,d,hi,h=>by
  obtain⟨h1,h2⟩:=c7 hi;have h':find ((t0,(gj s vs).1)::(dU l (gj s vs).2).1) t=aa d:=h;rw[bp]at h';have:=beq_true h1;split at h'
  .omega
  .have:=K8 h2 h';omega
def Qu{f:Nat->Value}:{l:List (Nat×SS)}->{vs:List mQ}->{k:Nat}->{ds:List (Bool×Tree)}->xx k l=af->(∀t d,find (dU l vs).1 t=aa d->aH H F w d (f t))->Jg (dU l vs).1=aa ds->vT H F w ds ((List.range' k l.length).map f)
 |[],_,_,_,_,_,h=>by cases h;rfl
 |(t0,s)::l,vs,k,ds,hi,qk,h=>by
  obtain⟨h1,h2⟩:=c7 hi;obtain rfl:=beq_true h1;have h':Jg ((t0,(gj s vs).1)::(dU l (gj s vs).2).1)=aa ds:=h;have Z4:∀t d,find ((t0,(gj s vs).1)::(dU l (gj s vs).2).1) t=aa d->aH H F w d (f t):=qk;have h0:=Z4 t0 _ (by rw[bp,aj rfl]);generalize(gj s vs).1=d0 at*
  cases d0<;>unfold Jg at h'<;>try cases h'
  rename_i a t
  split at h'<;>cases h'
  rename_i ds' Bv;refine⟨f t0,(List.range' (t0+1) l.length).map f,by simp[List.range'_succ],h0,Qu h2 (λt d hf=>Z4 t d ?_) Bv⟩;have:=K8 h2 hf
  grind [bp]
def Gc:{l:List (Nat×SS)}->{k:Nat}->xx k (we φ l)=xx k l
 |[],_=>rfl
 |(t,s)::l,k=>by
  show(aqV t k&&xx (k+1) (we φ l))=_
  rw[Gc];rfl
def yc:{l:List (Nat×SS)}->(we φ l).length=l.length
 |[]=>rfl
 |(t,s)::l=>by
  show(we φ l).length+1=l.length+1
  rw[yc]
def Jh(us:List Value):(List.range' 0 us.length).map (λt=>us.getD t undef)=us:=by
 apply List.ext_getElem (by simp)
 grind
def W8{l:List (Nat×SS)}{vs:List mQ}{us:List Value}{D:aI}(hi:xx 0 l=af)(hl:us.length=l.length)(qk:∀t d,find (dU l vs).1 t=aa d->aH H F w d (us.getD t undef))(h:Qt (dU l vs).1=aa D):aH H F w D (Bz us):=by
 have tup:∀ds,Jg (dU l vs).1=aa ds->us.length≠1->aH H F w (.tup ds) (Bz us):=by
  intro ds Bv eG;have:=Qu hi qk Bv;rw[<-hl,Jh]at this;refine⟨us,?_,this⟩
  match us,eG with
  |[],_=>rfl
  |[_],h=>grind
  |_::_::_,_=>rfl
 match l,hl,h with
 |[],_,h=>obtain rfl:=aqP h;trivial
 |[(t,s)],hl,h=>
  have h':Qt [(t,(gj s vs).1)]=aa D:=h;obtain rfl:=aqP h';have ht:=beq_true (c7 hi).1
  match us,hl with
  |[u],_=>
   have:=qk t (gj s vs).1 (by
    show find [(t,(gj s vs).1)] t=_
    rw[bp,aj rfl])
   rw[ht]at this;exact this
 |(t,s)::(t',s')::l,hl,h=>
  have h':(match Jg (dU ((t,s)::(t',s')::l) vs).1 with|some ds=>aa (aI.tup ds)|none=>ae)=aa D:=h
  grind
end
end
section
def kF:Nat->List aI->List (Nat×aI)
 |_,[]=>[]
 |k,d::ds=>(k,d)::kF (k+1) ds
def VV(n:Nat)(bs:Bs)(bq:List (Nat×(Nat×Th)))(m:Nat)(j:Nat):Nat:=
 bif aru j m then(match find bs j with
  |some (aa o)=>(match find bq o with
   |some _=>o
   |none=>n+j)
  |_=>n+j)else n+j
def sD(bq:List (Nat×(Nat×Th))):List Nat->List (Nat×(Nat×Th))
 |[]=>[]
 |o::os=>match find bq o with
  |some (s,t)=>bif gX t then(o,(s,t))::sD bq os else sD bq os
  |none=>sD bq os
def always(_:Row):Bool:=af
def K9(sg:qf):Bool:=vh Row.F9 sg.out.aJ&&Cy Row.F9 sg.out.objs
def xy{R:Type}(sg:qf)(n:Nat)(bs:Bs)(bq:List (Nat×(Nat×Th)))(nd:List Nat)(y:dW sg.out.rows)(k:fF->Option R):Option R:=
 match Qt (dU (we (VV n bs bq sg.inn.nxt) sg.out.aJ) (eD _ y)).1 with
 |some D=>bif K9 sg then k {dst:=D,eat:=jX bs,make:=jW n (F8 (VV n bs bq sg.inn.nxt) sg.out.objs) (dU (we (VV n bs bq sg.inn.nxt) sg.out.aJ) (eD _ y)).2}
   else k {dst:=D,eat:=jX bs++nd,make:=jW n (F8 (VV n bs bq sg.inn.nxt) sg.out.objs) (dU (we (VV n bs bq sg.inn.nxt) sg.out.aJ) (eD _ y)).2++sD bq nd}
 |none=>ae
def rV{R:Type}(objs:List (Nat×(Nat×Th)))(n:Nat)(f:FuncId)(ds:List aI)(k:fF->Option R):List (Nat×qf)->Option R
 |[]=>ae
 |(g,sg)::tab=>bif aqV g f then(match Cw 0 [] sg.inn (kF 0 ds) objs with
    |some (x,bs,bq)=>bif aqV ds.length sg.inn.aJ.length&&xx 0 sg.out.aJ&&Nat.ble sg.out.nxt 16&&Nat.ble sg.out.objs.length 16&&(vh always sg.out.aJ)then
      (sg.fn x).bind λy=>xy sg n bs bq (Cv 0 sg.inn (kF 0 ds) objs) y k else ae
    |none=>rV objs n f ds k tab)else rV objs n f ds k tab
def Z5(c:Nat×List Bool×Nat):aI:= .ptr c.1 c.2.1 c.2.2
def Ae{H:aN}{F:Nat->Prop}{w:World}:{cs:List (Nat×List Bool×Nat)}->{vs:List Value}->og H cs vs->il H F w (cs.map Z5) vs
 |[],_,h=>h
 |_::_,_,h=>by obtain⟨v,us,e,h1,h3⟩:=h;exact⟨v,us,e,h1,Ae h3⟩
def wh{H:aN}{F:Nat->Prop}{w:World}:{ds es:List aI}->{vs us:List Value}->il H F w ds vs->il H F w es us->il H F w (ds++es) (vs++us)
 |[],_,vs,_,h,h'=>by rw[show vs=[]from h];exact h'
 |_::_,_,_,_,h,h'=>by obtain⟨v,us,rfl,h1,h2⟩:=h;exact⟨v,_,rfl,h1,wh h2 h'⟩
def La(rd:Operand->Option aI)(x:Operand):Option (FuncId×List (Nat×List Bool×Nat)):=
 match rd x with
 |some (.fn f caps)=>aa (f,caps)
 |_=>ae
def CC{R:Type}(tab:List (Nat×qf))(rd:Operand->Option aI)(objs:List (Nat×(Nat×Th)))(n:Nat)(x:Operand)(args:List Operand)(k:fF->Option R):Option R:=
 match La rd x with
 |some (f,caps)=>match vX rd args with
  |some ds=>rV objs n f (ds++caps.map Z5) k tab
  |none=>ae
 |none=>ae
section
variable {P:Program} {ρ:Nat->Value} {w w':World} {H H':aN} {F F':Nat->Prop} {U:Nat->Prop} {n:Nat} {R:Type}
variable {ty:TypeId} {pos:String} {aft:Array Edge} {dst:Option Nat}
def s9:{ds:List aI}->{vs:List Value}->{k:Nat}->il H F w ds vs->∀t d,find (kF k ds) t=aa d->k<=t/\aH H F w d (vs.getD (t-k) undef)
 |[],_,_,_,_,_,h=>by cases h
 |d0::ds,vs,k,h,t,d,hf=>by
  obtain⟨v,us,rfl,h1,h2⟩:=h;have vO:find ((k,d0)::kF (k+1) ds) t=aa d:=hf;rw[bp]at vO;split at vO
  .grind
  .obtain⟨h3,h4⟩:=s9 h2 t d vO
   grind
theorem pZ{bq:List (Nat×(Nat×Th))}:{nd:List Nat}->{o s:Nat}->{t:Th}->find (sD bq nd) o=aa (s,t)->o∈nd/\find bq o=aa (s,t)/\gX t=af
 |[],_,_,_,h=>by cases h
 |o0::nd,o,s,t,h=>by
  unfold sD at h;split at h
  .rename_i s0 t0 h0
   cases hb:gX t0 with
   |true=>
    rw[hb,cond_true,bp]at h;split at h
    .grind
    .obtain⟨a,b⟩:=pZ h
     grind
   |false=>
    rw[hb,cond_false]at h;obtain⟨a,b⟩:=pZ h
    grind
  .obtain⟨a,b⟩:=pZ h
   grind
def wi:{l:List (Nat×OS)}->Cy always l=af
 |[]=>rfl
 |(t,s)::l=>by
  have ht:∀sh:Sh,sh.lL always=af:=by
   intro sh
   induction sh with
   |leaf r=>rfl
   |own j=>rfl
   |nil=>rfl
   |junk n=>rfl
   |pair a b iha ihb=>show(a.lL always&&b.lL always)=af;grind
  have:s.lL always=af:=by
   cases s with
   |box T t=>exact ht t
   |own T r=>rfl
   |map T K agg V=>rfl
   |deep T d=>
    have hd:∀d:DR,d.lL always=af:=by
     intro d
     induction d with
     |leaf r=>rfl
     |sl T d ih=>exact ih
     |pair a b iha ihb=>show(a.lL always&&b.lL always)=af;grind
    exact hd d
   |smap T K agg V it=>rfl
  show(s.lL always&&Cy always l)=af
  rw[this,wi];rfl
def pC(H H':aN)(n:Nat)(cons:List (Nat×(Nat×Th)))(m0:Nat):aN where
 val m:=if n<=m/\m<n+16 then H'.val (m-n)else H.val m
 con m:=if n<=m/\m<n+16 then wc cons m else H.con m
 sub m:=if n<=m/\m<n+16 then H'.sub (m-n+m0)else H.sub m
def Nh{dd:Option Nat}{f:FuncId}{fn:Func}{g:Operand}{args:Array Operand}{vs us:List Value}{yd:Array TypeId}(hf:P.funcs[f]? =aa fn)(hn:(fn.name== "runtime.NumGoroutine")=ag)(hb:fn.body.isNone=ag)(Td:args.toList.map (ev ρ)=vs)(hg:ev ρ g= .func (.func f) #[] us.toArray):
 (execOp (ev ρ) ⟨dd, .call {callee:= .value g,args:=args,argTypes:=yd},ty,pos,aft,ae⟩).run P w= .ok (.enter f (vs++us).toArray) w:=by
 subst Td
 have PI:¬fn.name= "runtime.NumGoroutine" :=by simpa using hn
 have u0:¬fn.body=ae:=by
  intro e;rw[e]at hb;cases hb
 have e:(Array.map (ev ρ) args++us.toArray)=(args.toList.map (ev ρ)++us).toArray:=by simp
 simp[execOp,resolve,hg,Deferred.ofValue,invoke,callFunc,hf,PI,u0,go_sem,e]
def Ni{sg:qf}{f:FuncId}(BA:hZ P f sg){objs:List (Nat×(Nat×Th))}{op:Op}{k:fF->Option R}{q:R}{ds:List aI}{vs:List Value}{x:dW sg.inn.rows}{bs:Bs}{bq:List (Nat×(Nat×Th))}
 (CD:il H F w ds vs)(bP:∀fn,P.funcs[f]? =aa fn->(fn.name== "runtime.NumGoroutine")=ag->fn.body.isNone=ag->(execOp (ev ρ) ⟨dst,op,ty,pos,aft,ae⟩).run P w= .ok (.enter f vs.toArray) w)(hs:aP U H F w (find objs) n)
 (zf:Cw 0 [] sg.inn (kF 0 ds) objs=aa (x,bs,bq))
 (h':(bif aqV ds.length sg.inn.aJ.length&&xx 0 sg.out.aJ&&Nat.ble sg.out.nxt 16&&Nat.ble sg.out.objs.length 16&&(vh always sg.out.aJ)then
   (sg.fn x).bind λy=>xy sg n bs bq (Cv 0 sg.inn (kF 0 ds) objs) y k else ae)=aa q):
 ∃e,k e=aa q/\cX P U H F w ρ (find objs) n ⟨dst,op,ty,pos,aft,ae⟩ e:=by
 obtain⟨hc,h'⟩:=bi h';obtain⟨hc,hc5⟩:=c7 hc;obtain⟨hc,Y7⟩:=c7 hc;obtain⟨hc,P5⟩:=c7 hc;obtain⟨B7,Fg⟩:=c7 hc;have B7:=beq_true B7
 have P5:sg.out.nxt<=16:=by simpa using P5
 have Y7:sg.out.objs.length<=16:=by simpa using Y7
 obtain⟨y,hy,h⟩:=bind_some h';clear h';obtain⟨⟨fn,hf1,hf2,hf3⟩,qk⟩:=BA;have ajx:=mU CD
 let H0:aN:=⟨λ_=>ae,λ_=>ae,λ_ _=>False⟩
 have T8:aP U H0 F w (find (del [] [])) 0:=⟨λ_ _ _ h=>(by cases h),λ_ _ _ _ _ _ _ _ _ h=>(by cases h),λ_ _ _=>⟨rfl,rfl⟩,hs.lt,hs.new,hs.gl⟩
 have hk0:cY H0 F w H F w:=⟨⟨λ_ _ h=>(by cases h),λ_ _ h=>(by cases h),λ_ _ h=>(by cases h)⟩,Step.refl F w⟩
 have jL:∀t d,find (kF 0 ds) t=aa d->aH H F w d (vs.getD t undef):=λt d hd=>by simpa using(s9 CD t d hd).2
 obtain⟨F1,H1,ze,Fi,Te,By,F7,xv,K7,Xa,Gd⟩:=Ac (U':=λk=>w.heap.size<=k\/∃o∈jX bs,∃s t v,find bq o=aa (s,t)/\H.val o=aa v/\fp (H.sub s) v t k) (ns:=[]) (objs0:=[]) (ρ:=λt=>vs.getD t undef) zf T8 (λ_ _=>⟨rfl,rfl⟩) hk0 hs jL;have Gd:=Gd (λb hb=> .inl hb) (by grind) (λ_ _ _ _ _ h=>by cases h);generalize hG:(λk=>∃o∈jX bs,∃s t v,find bq o=aa (s,t)/\H.val o=aa v/\fp (H.sub s) v t k)=G
 have Z6:∀k,G k->¬F1 k:=by
  rw[<-hG]
  rintro k ⟨o,_,s,t,v,h1,h2,h3⟩
  obtain⟨v',ga,dC⟩:=ze.obj _ _ _ h1;rw[h2]at ga;obtain rfl:=aqP ga;exact dC.no k h3
 have hGe:∀k,G k->cT H (find objs) (jX bs) k:=by
  rw[<-hG]
  rintro k ⟨o,ho,s,t,v,h1,h2,h3⟩
  rcases mI By o s t h1 with h4|h4
  .exact⟨o,ho,s,t,v,h4,h2,h3⟩
  .exact(jS h4 h3).elim
 have Z7:aP (λk=>w.heap.size<=k\/G k) H1 F1 w (find (jW 0 sg.inn.objs (dU sg.inn.aJ (eD sg.inn.rows x)).2)) sg.inn.nxt:=by
  rw[show del [] ([]:List (Nat×(Nat×Th)))=[]from rfl,List.append_nil]at Gd;rw[<-hG];exact Gd
 have Z8:=qk x y hy vs w H1 F1 G (by omega) Xa Z7 K7 Z6;generalize M6:Cv 0 sg.inn (kF 0 ds) objs=nd at h Te By;generalize hφ:VV n bs bq sg.inn.nxt=φ at h;unfold xy at h;rw[hφ]at h;split at h
 case h_2=>cases h
 rename_i D hD
 have zT:∀(e:fF),e.dst=D->(∀(w':World)(us:List Value)(H':aN)(F':Nat->Prop),us.length=sg.out.aJ.length->Ext G w w'->H1.le H'->(∀b,F1 b->F' b)->(∀b,F' b->F1 b\/w.heap.size<=b\/G b)->
  (∀t d,find (dU sg.out.aJ (eD sg.out.rows y)).1 t=aa d->aH H' F' w' d (us.getD t undef))->aP (λk=>w.heap.size<=k\/G k) H' F' w' (find (jW sg.inn.nxt sg.out.objs (dU sg.out.aJ (eD sg.out.rows y)).2)) sg.out.nxt->kB H' sg.out.nxt->pB H F w (find objs) n e (Bz us) w')->
  cX P U H F w ρ (find objs) n ⟨dst,op,ty,pos,aft,ae⟩ e:=by
  intro e he ye;have bP:=bP fn hf1 hf2 hf3;unfold cX cP;rw[bP];refine Z8.mono (by grind)
 generalize K6:jW n (F8 φ sg.out.objs) (dU (we φ sg.out.aJ) (eD sg.out.rows y)).2=cons at h;have aej:=Ga (φ:=φ) sg.out.aJ (eD sg.out.rows y)
 have Xb:∀{H':aN},H1.le H'->kB H' sg.out.nxt->Ren H' (pC H H' n cons sg.inn.nxt) φ/\H.le (pC H H' n cons sg.inn.nxt)/\∀m,(m<n\/n+16<=m)->(H.val m=ae->(pC H H' n cons sg.inn.nxt).val m=ae)/\(H.con m=ae->(pC H H' n cons sg.inn.nxt).con m=ae):=by
  intro H' hle DA
  have Ji:∀j v,H'.val j=aa v->j<sg.out.nxt:=λj v hj=>by
   rcases Nat.lt_or_ge j sg.out.nxt with g|g
   .exact g
   .rw[(DA j g).1]at hj;cases hj
  have hold:∀o v,H.val o=aa v->¬(n<=o/\o<n+16):=λo v ho hc=>by
   rw[(hs.fresh o hc.1 hc.2).1]at ho;cases ho
  refine⟨λj v hj=>?_,⟨λo v ho=>?_,λs t jJ=>?_,λs t jJ=>?_⟩,λm hm=>?_⟩
  .rw[<-hφ];have Z9:=Ji j v hj
   have gen:(pC H H' n cons sg.inn.nxt).val (n+j)=aa v:=by
    simp only[pC];rw[aj (by omega),Nat.add_sub_cancel_left];exact hj
   unfold VV
   cases hb:aru j sg.inn.nxt with
   |false=>simpa using gen
   |true=>
    rw[cond_true];split
    .rename_i o ho;split
     case h_2=>exact gen
     rename_i e he;obtain⟨u,hu,_⟩:=ze.obj o e.1 e.2 he;have h1:=hle.val _ _ (xv j (aa o) ho u hu)
     grind [pC]
    .exact gen
  .grind [pC]
  .simp only[pC];rw[ai (λhc=>by rw[(hs.fresh s hc.1 hc.2).2]at jJ;cases jJ)];exact jJ
  .simp only[pC];rw[ai (λhc=>by rw[(hs.fresh s hc.1 hc.2).2]at jJ;cases jJ)]
  .grind [pC]
 have made:∀{p:Row->Bool}{us:List Value}{w':World}{H':aN}{F' F2:Nat->Prop}{eat:List Nat},us.length=sg.out.aJ.length->vh p sg.out.aJ=af->Cy p sg.out.objs=af->yb p F' F2 w'->Ext G w w'->H1.le H'->(∀b,F2 b->F' b)->(∀o,o∈jX bs->o∈eat)->
  (∀t d,find (dU sg.out.aJ (eD sg.out.rows y)).1 t=aa d->aH H' F' w' d (us.getD t undef))->aP (λk=>w.heap.size<=k\/G k) H' F' w' (find (jW sg.inn.nxt sg.out.objs (dU sg.out.aJ (eD sg.out.rows y)).2)) sg.out.nxt->kB H' sg.out.nxt->
  aH (pC H H' n cons sg.inn.nxt) F2 w' D (Bz us)/\Made (pC H H' n cons sg.inn.nxt) F2 w w' (cT H (find objs) eat) cons/\∀o,(find cons o).isSome->o∈eat\/n<=o:=by
  intro p us w' H' F' F2 eat Ua ZI PY hmv ct hle Te mv ML Ub aaa;obtain⟨hr,_,_⟩:=Xb hle aaa
  have Lb:∀o s t,find cons o=aa (s,t)->∃j s' us sh,φ j=o/\t=(eE (sh.vg φ) us).1/\find (jW sg.inn.nxt sg.out.objs (dU sg.out.aJ (eD sg.out.rows y)).2) j=aa (s',(eE sh us).1)/\sh.lL p=af/\wc cons s=aa t/\n<=s/\s<n+16/\(pC H H' n cons sg.inn.nxt).sub s=H'.sub s':=by
   intro o s t ho;rw[<-K6]at ho⊢;rw[aej]at ho⊢;obtain⟨j,s',us',sh,a1,a2,a3,a4,a5,a6,a7,a8⟩:=Gb (m':=sg.inn.nxt) ho
   have aF:s<n+16:=by omega
   refine⟨j,s',us',sh,a1,a2,a3,a4 PY,a5,a6,aF,?_⟩;simp only[pC];rw[aj ⟨a6,aF⟩,a8]
  refine⟨?_,⟨λo s t ho=>?_,λo o' s s' t t' v v' eG ho pq hv ga k hk jn=>?_⟩,λo ho=>?_⟩
  .exact W8 (by rw[Gc];exact Fg) (by rw[yc];exact Ua) (Qs hr hmv ZI ML) hD
  .obtain⟨j,s',us',sh,rfl,rfl,a3,a4,a5,a6,a7,a8⟩:=Lb o s t ho;rw[a8];obtain⟨v,hv,dC⟩:=Ub.obj _ _ _ a3;obtain⟨b1,b2,b3⟩:=xw hr hmv a4 dC.ok;refine⟨v,hr j v hv,dC.one,?_,b1,λk hk=>⟨λe=>dC.no k (b3 k hk) (Te k e),dC.lt k (b3 k hk),?_⟩⟩
   .grind [pC]
   .rcases dC.use k (b3 k hk)with h1|h1
    .exact .inl h1
    .obtain⟨o',pq,rest⟩:=hGe k h1;exact .inr ⟨o',mv o' pq,rest⟩
  .obtain⟨j,s1,us1,sh,rfl,rfl,a3,a4,a5,a6,_,a8⟩:=Lb o s t ho;obtain⟨j',s1',alo,sh',rfl,rfl,a3',a4',a5',a6',_,a8'⟩:=Lb o' s' t' pq;rw[a8]at hk;rw[a8']at jn;obtain⟨u,hu,dC⟩:=Ub.obj _ _ _ a3;obtain⟨u',KU,FT⟩:=Ub.obj _ _ _ a3';have e1:=hr j u hu;rw[hv]at e1;obtain rfl:=aqP e1;have e2:=hr j' u' KU;rw[ga]at e2;obtain rfl:=aqP e2;exact Ub.apart j j' _ _ _ _ _ _ (λe=>eG (by rw[e])) a3 a3' hu KU k ((xw hr hmv a4 dC.ok).2.2 k hk) ((xw hr hmv a4' FT.ok).2.2 k jn)
  .obtain⟨e,he⟩:=arw.1 ho;obtain⟨j,s',us',sh,rfl,_⟩:=Lb o e.1 e.2 he;rw[<-hφ];unfold VV
   cases aru j sg.inn.nxt with
   |false=>grind
   |true=>
    grind [mw]
 have aab:∀{w':World}{eat:List Nat},Ext G w w'->(∀o,o∈jX bs->o∈eat)->Ext (cT H (find objs) eat) w w':=λct mv=>⟨ct.os,ct.tape,ct.output,ct.size,λk hk hn=>ct.block k hk λhG=>hn (by
  obtain⟨o,ho,rest⟩:=hGe k hG
  exact⟨o,mv o ho,rest⟩)⟩
 cases hfl:K9 sg with
 |true=>
  rw[hfl,cond_true]at h;obtain⟨p1,p2⟩:=c7 hfl;refine⟨_,h,zT _ rfl λw' us H' F' Ua a1 a2 a3 a4 a5 a6 a7=>?_⟩;obtain⟨_,g2,g3⟩:=Xb a2 a7;obtain⟨m1,m2,m3⟩:=made (F2:=F) (eat:=jX bs) Ua p1 p2 (λr hr cs x hx=>dy.Je hr hx) a1 a2 (λb hb=>a3 b (Fi b hb)) (λ_ h=>h) a5 a6 a7;exact⟨_,F,⟨g2,aab a1 (λ_ h=>h),λ_ h=>h,λ_ h=> .inl h,λb hb=>arh (hs.lt b hb) a1.size⟩,g3,m1,m2,m3⟩
 |false=>
  rw[hfl,cond_false]at h;refine⟨_,h,zT _ rfl λw' us H' F' Ua a1 a2 a3 a4 a5 a6 a7=>?_⟩;obtain⟨_,g2,g3⟩:=Xb a2 a7;obtain⟨m1,m2,m3⟩:=made (F2:=F') (eat:=jX bs++nd) Ua hc5 wi (λr _ cs x hx=>hx) a1 a2 (λ_ h=>h) (λo h=>by simp[h]) a5 a6 a7
  have jJ:Step F1 w F' w':=λb hb=>⟨a3 b hb,a1.block b (ze.lt b hb) λe=>Z6 b e hb⟩
  have yD:∀o s t,find (sD bq nd) o=aa (s,t)->o∈nd/\gX t=af/\∃v,H.val o=aa v/\v.oneCell'=af/\H.con s=aa t.base/\kA H F1 w (H.sub s) v t:=by
   intro o s t ho;obtain⟨b1,b2,b3⟩:=pZ ho;obtain⟨v,hv,dC⟩:=ze.obj _ _ _ b2;exact⟨b1,b3,v,hv,dC.one,dC.con,dC.ok⟩
  have part:∀o s t,find (cons++sD bq nd) o=aa (s,t)->find cons o=aa (s,t)\/find (sD bq nd) o=aa (s,t):=by
   intro o s t ho;rw[kw]at ho
   cases hm:find cons o with
   |some e=>grind
   |none=>grind
  refine⟨_,F',⟨g2,aab a1 (λo h=>by simp[h]),λb hb=>a3 b (Fi b hb),λb hb=>?_,a6.lt⟩,g3,m1,⟨λo s t ho=>?_,λo o' s s' t t' v v' eG ho pq hv ga k hk jn=>?_⟩,λo ho=>?_⟩
  .rcases a4 b hb with h1|h1|h1
   .rcases Te b h1 with h2|⟨o,ho,rest⟩
    .exact .inl h2
    .exact .inr (.inr ⟨o,by simp[ho],rest⟩)
   .grind
   .obtain⟨o,ho,rest⟩:=hGe b h1;exact .inr (.inr ⟨o,by simp[ho],rest⟩)
  .rcases part o s t ho with h1|h1
   .exact m2.obj o s t h1
   .obtain⟨b1,b2,v,b3,b4,b5,b6⟩:=yD o s t h1;refine⟨v,g2.val _ _ b3,b4,g2.con _ _ b5,by rw[g2.sub _ _ b5];exact b6.heap g2 jJ (λk hk=>(jS b2 hk).elim),λk hk=>(jS b2 hk).elim⟩
  .rcases part o s t ho with h1|h1<;>rcases part o' s' t' pq with h2|h2
   .exact m2.apart o o' s s' t t' v v' eG h1 h2 hv ga k hk jn
   .grind [jS]
   .exact jS (yD o s t h1).2.1 hk
   .exact jS (yD o s t h1).2.1 hk
  grind [arw]
def ru{aad:List (Nat×qf)}(BA:∀p∈aad,hZ P p.1 p.2){objs:List (Nat×(Nat×Th))}{f:FuncId}{op:Op}{k:fF->Option R}{q:R}{ds:List aI}{vs:List Value}
 (CD:il H F w ds vs)(bP:∀fn,P.funcs[f]? =aa fn->(fn.name== "runtime.NumGoroutine")=ag->fn.body.isNone=ag->(execOp (ev ρ) ⟨dst,op,ty,pos,aft,ae⟩).run P w= .ok (.enter f vs.toArray) w)(hs:aP U H F w (find objs) n):{tab:List (Nat×qf)}->(∀p∈tab,p∈aad)->rV objs n f ds k tab=aa q->
 ∃e,k e=aa q/\cX P U H F w ρ (find objs) n ⟨dst,op,ty,pos,aft,ae⟩ e
 |[],_,h=>by cases h
 |(f0,sg)::tab,dC,h=>by
  unfold rV at h
  cases hb:aqV f0 f with
  |false=>rw[hb,cond_false]at h;exact ru BA CD bP hs (λp hp=>dC p (by simp[hp])) h
  |true=>
   rw[hb,cond_true]at h;obtain rfl:=beq_true hb;split at h
   case h_2=>exact ru BA CD bP hs (λp hp=>dC p (by simp[hp])) h
   rename_i x bs bq zf;exact Ni (BA (f0,sg) (dC _ (by simp))) CD bP hs zf h
def Ge{tab:List (Nat×qf)}(BA:∀p∈tab,hZ P p.1 p.2){rd:Operand->Option aI}(jo:∀x d,rd x=aa d->aH H F w d (ev ρ x)){objs:List (Nat×(Nat×Th))}{g:Operand}{args:Array Operand}{yd:Array TypeId}{k:fF->Option R}{q:R}
 (h:CC tab rd objs n g args.toList k=aa q)(hs:aP U H F w (find objs) n):
 ∃e,k e=aa q/\cX P U H F w ρ (find objs) n ⟨dst, .call {callee:= .value g,args:=args,argTypes:=yd},ty,pos,aft,ae⟩ e:=by
 unfold CC at h;split at h
 case h_2=>cases h
 rename_i f caps hc;split at h
 case h_2=>cases h
 rename_i ds Bv;unfold La at hc;split at hc
 case h_2=>cases hc
 rename_i f' ajz hg;cases hc;obtain⟨us,h1,h2⟩:=jo _ _ hg;exact ru BA (wh (ri (w:=w) (H:=H) (F:=F) (ρ:=ρ) jo Bv) (Ae (F:=F) (w:=w) h2)) (λfn g1 g2 g3=>Nh g1 g2 g3 rfl h1) hs (λ_ h=>h) h
end
end
section
section
variable {P:Program} {ρ:Nat->Value} {w w':World} {H H':aN} {F F':Nat->Prop} {U:Nat->Prop} {ob:Nat->Option (Nat×Th)} {n:Nat} {R:Type}
variable {op:Op} {ty:TypeId} {pos:String} {aft:Array Edge} {d:Nat} {dst:Option Nat}
def OU.Lc:OU->Bool
 | .other=>ag
 |_=>af
def B9.Lc{t:TypeId}{k:OU}(h:B9 P t k)(hk:k.Lc=af):∃D,P.underlying t=aa D/\∀ms,D≠ .interface ms:=by
 cases k with
 |other=>cases hk
 |struct fs=>obtain⟨arr,h,_⟩:=h;grind
 |_=>exact⟨_,h,λ_ e=>by cases e⟩
def DV(T:bz P)(t:TypeId):Bool:=match find T.und t with
 |some k=>k.Lc
 |none=>ag
def CE(T:bz P){t:TypeId}(h:DV T t=af):∃D,P.underlying t=aa D/\∀ms,D≠ .interface ms:=by
 unfold DV at h;split at h
 .rename_i k hk;exact(T.und_ok _ _ hk).Lc h
 .cases h
def Nj(T:bz P)(t:TypeId)(D:aI)(k:fF->Option R):Option R:=bif DV T t then k {dst:= .ifc t D}else ae
def Uc(T:bz P){t:TypeId}{D:aI}{x:Operand}{k:fF->Option R}{q:R}(h:Nj T t D k=aa q)(hs:aP U H F w ob n)(hx:aH H F w D (ev ρ x)):
 ∃e,k e=aa q/\cX P U H F w ρ ob n ⟨aa d, .makeInterface t x,ty,pos,aft,ae⟩ e:=by
 unfold Nj at h;obtain⟨h1,h2⟩:=bi h;obtain⟨D0,hD,hn⟩:=CE T h1;refine⟨_,h2,cm hs (v:= .iface t (ev ρ x)) ?_ ⟨_,rfl,hx⟩⟩
 cases D0 with
 |interface ms=>grind
 |_=>simp[execOp,Instr.makeInterface,run_underlying hD,aq5]
def ue(T:bz P)(t:TypeId)(ok:Bool)(D:aI)(k:fF->Option R):Option R:=
 match D with
 | .ifc t' d=>bif aqV t' t&&DV T t then(match ok,d with
   |true, .val agg tr=>k {dst:= .tup [(agg,tr),(ag, .leaf .bool af)]}
   |true,_=>ae
   |false,d=>k {dst:=d})else ae
 |_=>ae
def Jj(T:bz P){xt t:TypeId}{ok:Bool}{D:aI}{x:Operand}{k:fF->Option R}{q:R}(h:ue T t ok D k=aa q)(hs:aP U H F w ob n)(hx:aH H F w D (ev ρ x)):
 ∃e,k e=aa q/\cX P U H F w ρ ob n ⟨aa d, .typeAssert x xt t ok,ty,pos,aft,ae⟩ e:=by
 unfold ue at h;split at h
 case h_2=>cases h
 rename_i t' dd;obtain⟨h1,h2⟩:=bi h;obtain⟨h1,h3⟩:=c7 h1;obtain rfl:=beq_true h1;obtain⟨D0,hD,hn⟩:=CE T h3;obtain⟨u,hu,hd⟩:=hx
 have bP:(Instr.typeAssert (ev ρ x) xt t' ok).run P w= .ok (if ok then .tuple #[u, .bool af]else u) w:=by
  rw[hu]
  cases D0 with
  |interface ms=>grind
  |_=>simp[Instr.typeAssert,run_underlying hD,aq5]
 split at h2
 .exact⟨_,h2,cm hs (v:= .tuple #[u, .bool af]) (by simp[execOp,bP,aq5]) ⟨[u, .bool af],rfl,_,_,rfl,hd,_,_,rfl,bg.iF ..,rfl⟩⟩
 .cases h2
 .exact⟨_,h2,cm hs (v:=u) (by simp[execOp,bP,aq5]) hd⟩
def Ld:List (TypeId×(String×(FuncId×Bool)))->TypeId->String->Option (FuncId×Bool)
 |[],_,_=>ae
 |(t',(nm,p))::l,t,name=>bif aqV t' t&&(nm==name)then aa p else Ld l t name
def Gf{t:TypeId}{name:String}{f:FuncId}{pr:Bool}:{l:List (TypeId×(String×(FuncId×Bool)))}->Ld l t name=aa (f,pr)->(t,(name,(f,pr)))∈l
 |[],h=>by cases h
 |(t',(nm,p))::l,h=>by
  unfold Ld at h
  cases hb:aqV t' t&&(nm==name)with
  |true=>
   simp_all
  |false=>
   rw[hb,cond_false]at h;exact List.mem_cons_of_mem _ (Gf h)
def Jk{t:TypeId}{name:String}{f:FuncId}{pr:Bool}{v u:Value}{fuel:Nat}(h:uN P t name f pr)(hr:∀nm,(receiverAt t (.val v) pr (aa nm)).run P w= .ok u w):(method (fuel+1) t v name).run P w= .ok (f,u) w:=by
 unfold uN at h
 cases hi:P.info? t with
 |none=>grind
 |some ti=>
  rw[hi]at h;have h:(ti.methods.find? λm=>m.name==name).map (λm=>(m.path.toList.length,m.func))=aa (0,aa (f,pr)):=h
  cases hm:ti.methods.find? λm=>m.name==name with
  |none=>grind
  |some m=>
   rw[hm]at h;simp only[Option.map_some,aq2,Prod.mk.injEq]at h
   have hp:m.path= #[]:=by
    have:=h.1;simpa using this
   simp[method,typeInfo,hi,hm,hp,follow,h.2,hr,aq5,arj]
def Nk{t e:TypeId}{nm:String}{v:Value}(hu:P.underlying t=aa (.pointer e)):(receiverAt t (.val v) af (aa nm)).run P w= .ok v w:=by
 simp[receiverAt,run_underlying hu,Place.get,aq5,arj]
def Nl{t e:TypeId}{nm:String}{a:Addr}{u:Value}(hu:P.underlying t=aa (.pointer e))(hl:(loadVar e a).run P w= .ok u w):(receiverAt t (.val (.pointer (aa a))) ag (aa nm)).run P w= .ok u w:=by
 have hw:Builtin.ssaWrapNilChk_ #[t] t #[.pointer (aa a),strVal "",strVal nm]=pure (.pointer (aa a)):=rfl;simp[receiverAt,run_underlying hu,Place.get,hw,asAddr,hl,aq5,arj]
def Af{t:TypeId}{name:String}{f:FuncId}{fn:Func}{pr:Bool}{v u:Value}{x:Operand}{args:Array Operand}{yd:Array TypeId}(h:uN P t name f pr)(hx:ev ρ x= .iface t v)(hr:∀nm,(receiverAt t (.val v) pr (aa nm)).run P w= .ok u w)
 (hf:P.funcs[f]? =aa fn)(hn:(fn.name== "runtime.NumGoroutine")=ag)(hb:fn.body.isNone=ag):
 (execOp (ev ρ) ⟨dst, .call {callee:= .invoke x name,args:=args,argTypes:=yd},ty,pos,aft,ae⟩).run P w= .ok (.enter f (u::args.toList.map (ev ρ)).toArray) w:=by
 have PI:¬fn.name= "runtime.NumGoroutine" :=by simpa using hn
 have u0:¬fn.body=ae:=by
  intro e;rw[e]at hb;cases hb
 have hm:=Jk (fuel:=P.types.size+99) h hr;have hfu:P.types.size+100=P.types.size+99+1:=rfl
 have e1:(#[Value.iface t v]++Array.map (ev ρ) args).extract 1 (1+args.size)=Array.map (ev ρ) args:=by
  apply Array.ext';simp;exact List.take_of_length_le (by simp)
 have e0:(#[Value.iface t v]++Array.map (ev ρ) args)[0]? =aa (Value.iface t v):=by simp[Array.getElem?_append]
 have e2:(#[u]++Array.map (ev ρ) args)=(u::args.toList.map (ev ρ)).toArray:=by apply Array.ext';simp
 simp[execOp,resolve,hx,invoke,callMethod,hfu,hm,callFunc,hf,PI,u0,go_sem,e0,e1,e2]
def zg(T:bz P)(ob:Nat->Option (Nat×Th))(e:TypeId)(D:aI):Option aI:=
 match find T.und e with
 |none=>ae
 |some kk=>match D with
  | .ptr o p off=>match ob o with
    |some (_, .box _ tr)=>match tr.get p with
     |some (s,fJ)=>bif aqV fJ off&&pX T e kk s.size then aa (.val (mT kk) s)else ae
     |none=>ae
    |_=>ae
  |_=>ae
def Jl(T:bz P){e:TypeId}{D D':aI}{v:Value}(h:zg T ob e D=aa D')(hs:aP U H F w ob n)(hx:aH H F w D v):∃a u,v= .pointer (aa a)/\(loadVar e a).run P w= .ok u w/\aH H F w D' u:=by
 unfold zg at h;split at h
 .cases h
 rename_i kk hu;split at h
 case h_2=>cases h
 rename_i o p off;split at h
 case h_2=>cases h
 rename_i st0 T0 tr de;split at h
 case h_2=>cases h
 rename_i s fJ hg;obtain⟨h1,h2⟩:=bi h;cases h2;obtain⟨h1,h3⟩:=c7 h1;obtain rfl:=beq_true h1;obtain⟨b,hb,rfl⟩:=hx;obtain⟨es,hh,VO⟩:=hs.box de hb;obtain⟨g1,g2⟩:=VO.get hg
 have hc:∀j u,((es.drop fJ).take s.size)[j]? =aa u->w.cell? ⟨b,fJ+j,ae⟩=aa u:=λj u hj=>by
  grind [zI]
 obtain⟨dd,yB,yC⟩:=(T.und_ok _ _ hu).agg;have hz:=mF T h3;have hl:=g1.length;generalize(es.drop fJ).take s.size=cs at g1 hc hl
 cases ha:mT kk with
 |true=>
  rw[aj ha]at hz;obtain⟨r,hr,Ta⟩:=hz;obtain⟨ti,z,h1,_,_,h4,_⟩:=T.row_ok _ _ hr;have hlc:(loadCells ⟨b,fJ,ae⟩ cs.length).run P w= .ok cs.toArray w:=run_loadCells_list (P:=P) w ⟨b,fJ,ae⟩ cs (λj v hv=>by rw[dV];exact hc j v hv)
  have po:ti.size=cs.length:=by omega
  exact⟨_, .agg cs.toArray,rfl,by simp[loadVar,arj,ic yB,yC,ha,sizeOf,typeInfo,h1,po,hlc],⟨cs,g1,rfl,by simp⟩⟩
 |false=>
  rw[ai (by simp[ha])]at hz
  obtain⟨v,rfl⟩:∃v,cs=[v]:=by
   match cs,hl.trans hz with
   |[v],_=>grind
  have hcv:w.cell? ⟨b,fJ,ae⟩=aa v:=hc 0 v rfl;exact⟨_,v,rfl,by simp[loadVar,arj,ic yB,yC,ha,hcv,go_sem],⟨[v],g1,rfl,λ_=>rfl⟩⟩
def uf(T:bz P)(tab:List (Nat×qf))(rd:Operand->Option aI)(objs:List (Nat×(Nat×Th)))(n:Nat)(x:Operand)(name:String)(args:List Operand)(k:fF->Option R):Option R:=
 match rd x with
 |some (.ifc t d)=>match Ld T.mth t name with
  |some (f,pr)=>match find T.und t with
   |some (.ptr e)=>match(bif pr then aa d else zg T (find objs) e d)with
    |some d'=>match vX rd args with
     |some ds=>rV objs n f (d'::ds) k tab
     |none=>ae
    |none=>ae
   |_=>ae
  |none=>ae
 |_=>ae
def Ag(T:bz P){tab:List (Nat×qf)}(BA:∀p∈tab,hZ P p.1 p.2){rd:Operand->Option aI}(jo:∀x d,rd x=aa d->aH H F w d (ev ρ x)){objs:List (Nat×(Nat×Th))}{x:Operand}{name:String}{args:Array Operand}{yd:Array TypeId}{k:fF->Option R}{q:R}
 (h:uf T tab rd objs n x name args.toList k=aa q)(hs:aP U H F w (find objs) n):
 ∃e,k e=aa q/\cX P U H F w ρ (find objs) n ⟨dst, .call {callee:= .invoke x name,args:=args,argTypes:=yd},ty,pos,aft,ae⟩ e:=by
 unfold uf at h;split at h
 case h_2=>cases h
 rename_i t d0 hx;split at h
 case h_2=>cases h
 rename_i f pr hm;split at h
 case h_2=>cases h
 rename_i e hu;split at h
 case h_2=>cases h
 rename_i d' E7;split at h
 case h_2=>cases h
 rename_i ds Bv;obtain⟨v,hv,hdv⟩:=jo _ _ hx;have hM:=T.mth_ok _ (Gf hm);have hu:=T.und_ok _ _ hu;have hdo:=ri (w:=w) (H:=H) (F:=F) (ρ:=ρ) jo Bv
 cases pr with
 |true=>
  cases E7
  have Za:il H F w (d0::ds) (v::args.toList.map (ev ρ)):=⟨v,_,rfl,hdv,hdo⟩
  exact ru BA Za (λfn g1 g2 g3=>Af hM hv (λnm=>Nk hu) g1 g2 g3) hs (λ_ h=>h) h
 |false=>
  obtain⟨a,u,rfl,hl,hdu⟩:=Jl T (show zg T (find objs) e d0=aa d' from E7) hs hdv
  have Za:il H F w (d'::ds) (u::args.toList.map (ev ρ)):=⟨u,_,rfl,hdu,hdo⟩
  exact ru BA Za (λfn g1 g2 g3=>Af hM hv (λnm=>Nl hu hl) g1 g2 g3) hs (λ_ h=>h) h
end
end
end Go.Proofs.YtfeahmiobbjklaaGreatDoor
