/- Joined texts: Smap Apd Pack2 Call Call2 Ifc. -/
import Derived.Test.YtfeahmiobbjklaaGreatDoorU2
import Derived.Maps.RangeRun
set_option linter.defProp false
open _root_.Bool renaming false->ag,true->af
open _root_.Option renaming none->ae,some->aa,isSome_iff_exists->agY
open _root_.Array renaming getElem?_eq_some_iff->agZ,toList_filter->ahQ
open _root_.Go.ChangeMaps renaming setBlock->ahC
open _root_.Go.Instr renaming findAsking->ahV,findNow->ahe,lookup->ahU,mapUpdate->aht
open _root_.List renaming filter_eq_self->ahP,mem_cons->ahq,pairwise_cons->agN,getElem_append_right->ahc
open _root_.Go.MapKept renaming run_getObj_map->ag3,run_setObj_map->ahA
open _root_.Nat renaming beq->agu,le_refl->agt,lt_of_lt_of_le->agK,blt->agW
open _root_.Option.some renaming inj->agq,injEq->agz
open _root_.Go.Result renaming andThen->agB
open _root_.Go.Value renaming ownBlock->agI
open _root_.List.cons renaming injEq->ahl
open _root_.Go.Value.slice renaming injEq->ahH
open _root_.Go.Sem renaming run_bind->agL
namespace Go.Proofs.YtfeahmiobbjklaaGreatDoor
open Go Go.RowKit
set_option maxRecDepth 100000
set_option linter.unusedSimpArgs false
set_option linter.unusedVariables false
set_option linter.defProp false
section
open Go Go.RowKit Go.MapKept
def JI:(K:Row)->K.den->K.den->Bool
 | .int _,a,b=>decide ((a:Int)<b)
 | .pair (.int _) (.int _),a,b=>decide ((a.1:Int)<b.1\/((a.1:Int)=b.1/\(a.2:Int)<b.2))
 |_,_,_=>ag
def AK{α:Type}(K:Row):List (K.den×α)->K.den->α->List (K.den×α)
 |[],k,v=>[(k,v)]
 |p::l,k,v=>if JI K k p.1=af then(k,v)::p::l else p::AK K l k v
noncomputable def qD{α:Type}(K:Row)(l:List (K.den×α))(k:K.den)(v:α):List (K.den×α):=AK K (l.filter λp=> !dY K p.1 k) k v
theorem qh{α:Type}{K:Row}(k:K.den)(v:α):(l:List (K.den×α))->(AK K l k v).Perm ((k,v)::l)
 |[]=> .refl _
 |p::l=>by
  unfold AK;split
  .exact .refl _
  .exact((qh k v l).cons p).trans (.swap ..)
theorem pq{K:Row}{a b:K.den}(h:dY K a b=af):a=b:=by
 unfold dY at h;split at h
 all_goals grind
theorem qX{K:Row}{a b:K.den}(h:dY K a b=ag):dY K b a=ag:=by
 grind [pq]
def yS{α:Type}(K:Row)(l:List (K.den×α)):Prop:=l.Pairwise λp q=>dY K p.1 q.1=ag
def yS.perm{α:Type}{K:Row}{l l':List (K.den×α)}(h:l'.Perm l)(hd:yS K l):yS K l':=(h.pairwise_iff λ{a b}=>qX).2 hd
def Dv{α:Type}{K:Row}{x:K.den}{l l':List (K.den×α)}(h:l'.Perm l):yS K l'->bH K l' x=bH K l x:=by
 induction h with
 |nil=>intro _;rfl
 |cons p _ ih=>
  intro hd;unfold bH;rw[ih (agN.1 hd).2]
 |swap p q l=>
  intro hd;have QY:=(agN.1 hd).1 p (by simp)
  grind [bH,pq]
 |trans h1 h2 ih1 ih2=>intro hd;exact(ih1 hd).trans (ih2 (hd.perm h1.symm))
section
variable {P:Program} {ρ:Nat->Value} {w w':World} {H H':aG} {F F':Nat->Prop} {U:Nat->Prop} {ob:Nat->Option (Nat×Th)} {n:Nat} {R:Type}
variable {op:Op} {ty:TypeId} {pos:String} {aft:Array Edge} {d:Nat}
theorem rO{K:Row}{agg:Bool}{V:Row}:{es:List MapEntry}->{l:List (K.den×V.den)}->fG H F w K agg V es l->∀q∈l,∃e∈es,jM K q.1=aa e.key/\aO H F w agg (.leaf V q.2) e.val
 |[],l,h=>by obtain rfl:l=[]:=h;grind
 |e::es,_,h=>by
  obtain⟨k,x,l',rfl,h1,h2,h3⟩:=h;intro q hq
  rcases ahq.1 hq with rfl|hq
  .grind
  .obtain⟨e',CU,g⟩:=rO h3 q hq
   grind
theorem nK{K:Row}{agg:Bool}{V:Row}:{es:List MapEntry}->{l:List (K.den×V.den)}->fG H F w K agg V es l->∀e∈es,∃q∈l,jM K q.1=aa e.key/\aO H F w agg (.leaf V q.2) e.val
 |[],_,_=>λe he=>by cases he
 |e::es,_,h=>by
  obtain⟨k,x,l',rfl,h1,h2,h3⟩:=h;intro e' he
  rcases ahq.1 he with rfl|he
  .simp_all
  .obtain⟨q,hq,g⟩:=nK h3 e' he
   grind
def qi{K:Row}{agg:Bool}{V:Row}:{es:List MapEntry}->{l:List (K.den×V.den)}->fG H F w K agg V es l->(es.map (·.key)).Nodup->yS K l
 |[],l,h,_=>by obtain rfl:l=[]:=h;exact .nil
 |e::es,_,h,hn=>by
  obtain⟨k,x,l',rfl,h1,h2,h3⟩:=h;obtain⟨n1,n2⟩:=List.nodup_cons.1 hn;refine agN.2 ⟨λq hq=>?_,qi h3 n2⟩
  grind [rO,iC]
def xx{K:Row}{agg:Bool}{V:Row}{e:MapEntry}:{es:List MapEntry}->{l:List (K.den×V.den)}->fG H F w K agg V es l->(es.map (·.born)).Nodup->e∈es->
 ∃p l2,jM K p.1=aa e.key/\aO H F w agg (.leaf V p.2) e.val/\fG H F w K agg V (es.filter λx=> !(x.born==e.born)) l2/\l.Perm (p::l2)
 |[],_,_,_,he=>by cases he
 |e'::es,_,h,hn,he=>by
  obtain⟨k,x,l',rfl,h1,h2,h3⟩:=h;obtain⟨n1,n2⟩:=List.nodup_cons.1 hn;by_cases hb:e'.born=e.born
  .have dJ:e∉es:=(by grind)
   grind [ahP]
  .have CU:e∈es:=(by grind)
   obtain⟨p,l2,g1,g2,g3,g4⟩:=xx h3 n2 CU;rw[List.filter_cons_of_pos (by simpa using hb)];exact⟨p,(k,x)::l2,g1,g2,⟨k,x,l2,rfl,h1,h2,g3⟩,(g4.cons _).trans (.swap ..)⟩
def VG(P:Program)(t:TypeId):Prop:=∀(em:Bool)(a b:Value)(w:World),(Instr.checkKey em 10000 t (.agg #[a,b])).run P w= .ok () w
def G8(T:aX P)(kt:TypeId):Row->Bool
 | .pair (.int j) (.int k)=>match find T.eqs kt with
   |some r=>r.beq (.pair (.int j) (.int k))&&T.kys.any (agu kt)
   |none=>ag
 |_=>ag
structure O0(P:Program)(kt:TypeId)(K:Row):Prop where
 chk:∀em x v(w:World),jM K x=aa v->(Instr.checkKey em 10000 kt v).run P w= .ok () w
 find:∀x v(w:World)(es:List MapEntry),jM K x=aa v->(∀e∈es,∃k,jM K k=aa e.key)->
  ((Instr.findKey kt v es).run P w= .ok ae w/\∀e∈es,e.key≠v)\/∃j e,(Instr.findKey kt v es).run P w= .ok (aa (j,e.val)) w/\es[j]? =aa e/\e.key=v
 stays:∀x v(w:World),jM K x=aa v->(Instr.keyThatStays v v).run P w= .ok v w
 rep:∀(F:Nat->Prop)(w:World)cs x,cF F w K cs x->jM K x=aa (.agg cs.toArray)
def E8(T:aX P){kt:TypeId}{K:Row}(h:G8 T kt K=af):O0 P kt K:=by
 unfold G8 at h;split at h
 case h_2=>cases h
 rename_i j k;split at h
 case h_2=>cases h
 rename_i r he;obtain⟨h1,h2⟩:=ct h;obtain rfl:=Row.eq_of_beq h1;obtain⟨KK,dd,hE,hd,_,hD⟩:=T.eqs_ok _ _ he;have hck:VG P kt:=T.kys_ok _ (any_beq.1 h2)
 have rep:∀(F:Nat->Prop)(w:World)cs(x:Int×Int),cF F w (.pair (.int j) (.int k)) cs x->cs=[.int j x.1, .int k x.2]:=by
  rintro F w cs x ⟨c1,c2,rfl,g1,g2⟩
  rw[show c1=_ from g1,show c2=_ from g2];rfl
 have mk:∀(x:Int×Int)(w:World),cF (λ_=>True) w (.pair (.int j) (.int k)) [.int j x.1, .int k x.2] x:=λx w=>⟨[_],[_],rfl,rfl,rfl⟩
 cases hu:P.underlying kt with
 |none=>grind
 |some D=>
  have hA:gJ D=af:=by rw[hu]at hD;exact hD
  have vh:∀(x y:Int×Int)(w:World),(Op.equal kt (.agg #[.int j x.1, .int k x.2]) (.agg #[.int j y.1, .int k y.2])).run P w= .ok (decide (x=y)) w:=λx y w=>by
   have:=hE dd w w (λ_=>True) _ _ x y (.agg #[.int j x.1, .int k x.2]) (.agg #[.int j y.1, .int k y.2]) ⟨D,hu,by rw[aj hA]⟩ ⟨D,hu,by rw[aj hA]⟩ (mk x w) (mk y w);rw[hd]at this;unfold Op.equal;rw[show Op.maxDepth=10000 from rfl,this]
  have RJ:∀(x:Int×Int)(e:MapEntry)(es:List MapEntry)i,ahe D (.agg #[.int j x.1, .int k x.2]) (e::es) i=ae:=λx e es i=>by
   unfold ahe Instr.sameNow
   grind
  have ask:∀(x:Int×Int)(w:World)(es:List MapEntry)(i:Nat),(∀e∈es,∃y:Int×Int,e.key= .agg #[.int j y.1, .int k y.2])->
   ((ahV kt (.agg #[.int j x.1, .int k x.2]) es i).run P w= .ok ae w/\∀e∈es,e.key≠ .agg #[.int j x.1, .int k x.2])\/∃q e,(ahV kt (.agg #[.int j x.1, .int k x.2]) es i).run P w= .ok (aa (i+q,e.val)) w/\es[q]? =aa e/\e.key= .agg #[.int j x.1, .int k x.2]:=by
   intro x w es
   induction es with
   |nil=>intro i _;exact .inl ⟨rfl,λe he=>by cases he⟩
   |cons e es ih=>
    intro i Q2;obtain⟨y,hy⟩:=Q2 e (by simp);by_cases rv:x=y
    .subst rv;refine .inr ⟨0,e,?_,rfl,hy⟩;unfold ahV
     simp_all
    .rcases ih (i+1) (λe' CU=>Q2 e' (by simp[CU]))with⟨g1,g2⟩|⟨q,e',g1,g2,g3⟩
     .refine .inl ⟨?_,λe' CU=>?_⟩
      .unfold ahV;rw[hy];simp[vh,rv,g1,agB]
      grind
     .refine .inr ⟨q+1,e',?_,by simpa using g2,g3⟩;unfold ahV;rw[hy];simp[vh,rv,g1,agB,Nat.add_assoc,Nat.add_comm 1]
  refine⟨λem x v w hv=>?_,λx v w es hv Q2=>?_,λx v w hv=>?_,λF w cs x hr=>?_⟩
  .obtain rfl:=agq hv;exact hck em _ _ w
  .obtain rfl:=agq hv
   have VH:∀e∈es,∃y:Int×Int,e.key= .agg #[.int j y.1, .int k y.2]:=λe he=>by
    obtain⟨y,hy⟩:=Q2 e he;exact⟨y,(agq hy).symm⟩
   unfold Instr.findKey
   cases es with
   |nil=>exact .inl ⟨by simp[run_underlying hu,ahe,agB],λe he=>by cases he⟩
   |cons e es=>
    rcases ask x w (e::es) 0 VH with⟨g1,g2⟩|⟨q,e',g1,g2,g3⟩
    .exact .inl ⟨by simp[run_underlying hu,RJ,g1,agB],g2⟩
    .exact .inr ⟨q,e',by simp[run_underlying hu,RJ,g1,agB],g2,g3⟩
  .obtain rfl:=agq hv;unfold Instr.keyThatStays;simp[Instr.sameBits]
  .rw[rep F w cs x hr];rfl
structure ZY where
 o:Nat
 s:Nat
 T:TypeId
 K:Row
 agg:Bool
 V:Row
 l:List (K.den×V.den)
 it:Option (Nat×List (K.den×V.den)×Option (K.den×V.den))
def vD(ob:Nat->Option (Nat×Th)):aC->Option ZY
 | .val ag (.own o)=>match ob o with
   |some (s, .smap T K agg V l it)=>aa ⟨o,s,T,K,agg,V,l,it⟩
   |_=>ae
 |_=>ae
def sV(hs:aI U H F w ob n){D:aC}{m:ZY}{v:Value}(h:vD ob D=aa m)(hd:aB H F w D v):ob m.o=aa (m.s, .smap m.T m.K m.agg m.V m.l m.it)/\H.val m.o=aa v/\gX H F w (H.sub m.s) v (.smap m.T m.K m.agg m.V m.l m.it):=by
 unfold vD at h;split at h
 .rename_i o;split at h
  .rename_i s T K agg V l it cA;obtain rfl:=agq h;obtain⟨cs,⟨u,hu,_,e⟩,_,h3⟩:=hd;rw[h3 rfl]at e
   obtain rfl:v=u:=by simpa using e
   obtain⟨v',dX,cL⟩:=hs.obj _ _ _ cA
   grind [C5.ok]
  .cases h
 .cases h
noncomputable def yT(ob:Nat->Option (Nat×Th))(K:Row):aC->Option K.den
 | .val af t=>flat ob K t
 |_=>ae
def xy(hs:aI U H F w ob n){kt:TypeId}{K:Row}{D:aC}{x:K.den}{v:Value}(hK:O0 P kt K)(h:yT ob K D=aa x)(hd:aB H F w D v):jM K x=aa v:=by
 unfold yT at h;split at h
 .obtain⟨cs,h1,h2,_⟩:=hd;rw[h2];exact hK.rep F w cs x (gk hs h h1)
 .cases h
def lX(_:Bool)(T:aX P)(n:Nat)(t:TypeId)(k:dF->Option R):Option R:=
 match find T.und t with
 |some (.map kt vt)=>match find T.row kt with
  |some K=>bif G8 T kt K then(match find T.row vt with
   |some V=>match find T.und vt with
    |some kk=>k {dst:= .val ag (.own n),make:=[(n,(n, .smap t K (jN kk) V [] ae))]}
    |none=>ae
   |none=>ae)else nJ T n t k
  |none=>ae
 |_=>ae
def yU(b:Bool)(T:aX P){t:TypeId}{k:dF->Option R}{q:R}(h:lX b T n t k=aa q)(hs:aI U H F w ob n):
 ∃e,k e=aa q/\cd P U H F w ρ ob n ⟨aa d, .makeMap t ae,ty,pos,aft,ae⟩ e:=by
 unfold lX at h;split at h
 case h_2=>cases h
 split at h
 case h_2=>cases h
 rename_i K _
 cases hc:G8 T _ K with
 |false=>rw[hc,cond_false]at h;exact AA T h hs
 |true=>
  rw[hc,cond_true]at h;split at h
  case h_2=>cases h
  rename_i V _;split at h
  case h_2=>cases h
  rename_i kk _
  have bj:(execOp (ev ρ) ⟨aa d, .makeMap t ae,ty,pos,aft,ae⟩).run P w= .ok (.value (.map (aa w.heap.size))) (w.alloc (.map #[] 0)):=by
   simp[execOp,Instr.makeMap,agB]
  refine⟨_,h,bT.val bj ?_⟩
  have hv:(((H.dT n (is w.heap.size)).bk n (.smap t K (jN kk) V [] ae)).cB n (.map (aa w.heap.size))).val n=aa (.map (aa w.heap.size)):=by simp[aG.cB]
  refine kI.Mv (v0:= .map (aa w.heap.size)) (S:=is w.heap.size) hs rfl rfl (nG _) ⟨_, #[],0,[],rfl,rfl,(heap_alloc w _).1,stamped_empty 0,rfl, .refl _,trivial⟩ (λk hk=>?_) (mH hv rfl);have hk:k=w.heap.size:=hk;subst hk;exact⟨λe=>by have:=hs.lt _ e;omega,by simp, .inl (agt _)⟩
def rP{OX kt et:TypeId}{K:Row}{b clock:Nat}{es:Array MapEntry}{x:K.den}{key val:Value}(hm:P.underlying OX=aa (.map kt et))(hK:O0 P kt K)(hx:jM K x=aa key)(hb:w.heap[b]? =aa (.map es clock))(Q2:∀e∈es.toList,∃k,jM K k=aa e.key):
 ((aht OX (.map (aa b)) key val).run P w= .ok () {w with heap:=w.heap.setIfInBounds b (.map (es.push {key,val,born:=clock}) (clock+1))}/\∀e∈es.toList,e.key≠key)\/
 ∃j e,es.toList[j]? =aa e/\e.key=key/\(aht OX (.map (aa b)) key val).run P w= .ok () {w with heap:=w.heap.setIfInBounds b (.map (es.modify j λe=>{e with key,val}) clock)}:=by
 rcases hK.find x key w es.toList hx Q2 with⟨h1,h2⟩|⟨j,e,h1,h2,h3⟩
 .exact .inl ⟨by simp[aht,run_underlying hm,ag3 hb,hK.chk _ _ _ _ hx,h1,ahA _ hb,agB],h2⟩
 .refine .inr ⟨j,e,h2,h3,?_⟩
  have hj:es[j]? =aa e:=by simpa using h2
  simp[aht,run_underlying hm,ag3 hb,hK.chk _ _ _ _ hx,h1,hj,h3,hK.stays _ _ _ hx,ahA _ hb,agB]
def xz{K:Row}{agg:Bool}{V:Row}{e:MapEntry}{x:K.den}{y:V.den}(hk:jM K x=aa e.key)(hv:aO H F w agg (.leaf V y) e.val):{es:List MapEntry}->{l:List (K.den×V.den)}->fG H F w K agg V es l->fG H F w K agg V (es++[e]) (l++[(x,y)])
 |[],l,h=>by obtain rfl:l=[]:=h;exact⟨x,y,[],rfl,hk,hv,rfl⟩
 |e'::es,_,h=>by
  obtain⟨k,z,l',rfl,h1,h2,h3⟩:=h;exact⟨k,z,_,rfl,h1,h2,xz hk hv h3⟩
def tL{K:Row}{agg:Bool}{V:Row}{x:K.den}{y:V.den}{key:Value}{f:MapEntry->MapEntry}(hx:jM K x=aa key)(hf:∀e:MapEntry,(f e).key=key)(hv:∀e,aO H F w agg (.leaf V y) (f e).val):{es:List MapEntry}->{l:List (K.den×V.den)}->{j:Nat}->{e:MapEntry}->
 fG H F w K agg V es l->yS K l->es[j]? =aa e->e.key=key->∃l2,fG H F w K agg V (es.modify j f) l2/\l2.Perm ((x,y)::l.filter λp=> !dY K p.1 x)
 |[],_,_,_,_,_,hj,_=>by simp at hj
 |e'::es,_,0,e,h,hd,hj,Q3=>by
  obtain⟨k,z,l',rfl,h1,h2,h3⟩:=h;obtain⟨d1,d2⟩:=agN.1 hd
  obtain rfl:e'=e:=by simpa using hj
  have VI:dY K k x=af:=(iC h1 hx).2 Q3;obtain rfl:=pq VI;refine⟨(k,y)::l',⟨k,y,l',rfl,by grind,hv _,h3⟩,?_⟩
  grind [qX,ahP]
 |e'::es,_,j+1,e,h,hd,hj,Q3=>by
  obtain⟨k,z,l',rfl,h1,h2,h3⟩:=h;obtain⟨d1,d2⟩:=agN.1 hd
  have N1:es[j]? =aa e:=by simpa using hj
  obtain⟨l2,g1,g2⟩:=tL hx hf hv h3 d2 N1 Q3;obtain⟨q,hq,VJ,_⟩:=nK h3 e (List.mem_of_getElem? N1);have hqx:dY K q.1 x=af:=(iC VJ hx).2 Q3;obtain rfl:=pq hqx;have dJ:dY K k q.1=ag:=d1 q hq;refine⟨(k,z)::l2,⟨k,z,l2,rfl,h1,h2,g1⟩,?_⟩
  grind
noncomputable def jD(T:aX P)(ob:Nat->Option (Nat×Th))(n:Nat)(t:TypeId)(M X Y:aC)(k:dF->Option R):Option R:=
 match vD ob M with
 |some m=>match find T.und t with
  |some (.map kt _)=>bif G8 T kt m.K then(match yT ob m.K X with
   |some x=>match Y with
    | .val dZ tr=>bif (bif m.agg then dZ else !dZ)then(match flat ob m.V tr with
      |some y=>k {dst:= .dead,eat:=[m.o],make:=[(m.o,(n, .smap m.T m.K m.agg m.V (qD m.K m.l x y) ae))]}
      |none=>ae)else ae
    |_=>ae
   |none=>ae)else ae
  |_=>ae
 |none=>kJ T ob n t M X Y k
def vE(T:aX P){t:TypeId}{M X Y:aC}{m x y:Operand}{k:dF->Option R}{q:R}(h:jD T ob n t M X Y k=aa q)(hs:aI U H F w ob n)(hm:aB H F w M (ev ρ m))(hx:aB H F w X (ev ρ x))(hy:aB H F w Y (ev ρ y)):
 ∃e,k e=aa q/\cd P U H F w ρ ob n ⟨ae, .mapUpdate t m x y,ty,pos,aft,ae⟩ e:=by
 unfold jD at h;split at h
 case h_2=>exact wT T h hs hm hx hy
 rename_i r rM;obtain⟨cA,hv,mE⟩:=sV hs rM hm;obtain⟨o,s,T0,K,agg,V,l,it⟩:=r;dsimp only at h cA hv mE;split at h
 case h_2=>cases h
 rename_i kt vt hu;obtain⟨hc,h'⟩:=aP h;clear h;split at h'
 case h_2=>cases h'
 rename_i a ha;split at h'
 case h_2=>cases h'
 rename_i dZ tr;obtain⟨qT,h⟩:=aP h';clear h'
 have qT:agg=dZ:=by cases agg<;>cases dZ<;>simp_all
 subst qT;split at h
 case h_2=>cases h
 rename_i z hz;refine⟨_,h,?_⟩;have hK:=E8 T hc;have o4:=xy hs hK ha hx
 have pk:aO H F w agg (.leaf V z) (ev ρ y):=by
  obtain⟨cs,h1,h2⟩:=hy;exact⟨cs,gk hs hz h1,h2⟩
 obtain⟨b,es,clock,l',mD,Q4,hh,gx,vx,GR,_⟩:=mE;have xA:=qi vx gx.2.2
 have jr:bX H ob [o] b:=⟨o,by simp,s,_,_,cA,hv,Q4⟩
 have hf:=hs.fresh n (agt _) (by omega)
 have fin:∀o',(aht t (.map (aa b)) (ev ρ x) (ev ρ y)).run P w= .ok () {w with heap:=w.heap.setIfInBounds b o'}->
  (∀(H':aG)(w':World),H.le H'->Step F w F w'->∃lK mZ l2,o'= .map lK mZ/\Stamped lK mZ/\fG H' F w' K agg V lK.toList l2/\l2.Perm (qD K l a z))->
  cd P U H F w ρ ob n ⟨ae, .mapUpdate t m x y,ty,pos,aft,ae⟩ {dst:= .dead,eat:=[o],make:=[(o,(n, .smap T0 K agg V (qD K l a z) ae))]}:=by
  intro o' bj JB;refine bT.unit (w':={w with heap:=w.heap.setIfInBounds b o'}) ?_ ?_
  .simp[execOp,mD,bj,agB]
  .have nf:∀k,k≠b->(w.heap.setIfInBounds b o')[k]? =w.heap[k]? :=(heap_set hh).2
   have dB:Step F w F {w with heap:=w.heap.setIfInBounds b o'}:=λc hc=>⟨hc,nf c λe=>by subst e;exact hs.eE _ jr hc⟩
   obtain⟨lK,mZ,l2,rfl,g1,g2,g3⟩:=JB ((H.dT n (is b)).bk n (.smap T0 K agg V (qD K l a z) ae)) _ (aG.qc hf.2) dB;refine kI.yK (t':= .smap T0 K agg V (qD K l a z) ae) hs cA hv rfl (by simp) (is b) (λk hk=>?_) ⟨rfl,⟨rfl,agt _⟩,rfl,by simp,(by grind)⟩ ⟨b,lK,mZ,l2,mD,rfl,(heap_set hh).1,g1,g2,g3,trivial⟩ trivial;have hk:k=b:=hk
   grind
 have vq:(l'.filter λp=> !dY K p.1 a).Perm (l.filter λp=> !dY K p.1 a):=GR.filter _;have sG:((a,z)::l'.filter λp=> !dY K p.1 a).Perm (qD K l a z):=(vq.cons _).trans (qh a z _).symm
 rcases rP (val:=ev ρ y) (T.und_ok _ _ hu) hK o4 hh (λe he=>by grind [nK])with⟨bj,CO⟩|⟨j,e,hj,Q3,bj⟩
 .refine fin _ bj λH' w' hH dB=>⟨_,_,l'++[(a,z)],rfl,stamped_push gx CO,?_,?_⟩
  .rw[Array.toList_push];exact xz o4 (pk.keep hH dB) (vx.keep hH dB)
  .have e:l'.filter (λp=> !dY K p.1 a)=l':=ahP.2 λq hq=>by
    grind [rO,iC]
   grind
 .refine fin _ bj λH' w' hH dB=>?_
  obtain⟨l2,g1,g2⟩:=tL (f:=λe=>{e with key:=ev ρ x,val:=ev ρ y}) o4 (λ_=>rfl) (λ_=>pk.keep hH dB) (vx.keep hH dB) xA hj Q3;refine⟨_,_,l2,rfl,stamped_modify gx _ _ (λ_ _=>rfl) (λe' _ CU=>?_),by grind,g2.trans sG⟩
  grind
def E9{K:Row}{α:Type}{x:K.den}:{l:List (K.den×α)}->yS K l->∀q∈l,dY K q.1 x=af->bH K l x=aa q.2
 |p::l,hd,q,hq,hx=>by
  obtain⟨d1,d2⟩:=agN.1 hd;unfold bH
  rcases ahq.1 hq with rfl|hq
  .rw[aj hx]
  .have:¬dY K p.1 x=af:=λg=>by
    grind [pq]
   rw[ai this];exact E9 d2 q hq hx
def AL{K:Row}{α:Type}{x:K.den}:{l:List (K.den×α)}->(∀q∈l,dY K q.1 x=ag)->bH K l x=ae
 |[],_=>rfl
 |p::l,h=>by
  unfold bH;rw[ai (by grind)]
  exact AL λq hq=>h q (by simp[hq])
noncomputable def nL(T:aX P)(ob:Nat->Option (Nat×Th))(_n:Nat)(t:TypeId)(ok:Bool)(M X:aC)(k:dF->Option R):Option R:=
 match vD ob M with
 |some m=>match find T.und t with
  |some (.map kt vt)=>match find T.zer vt with
   |some (dZ,V')=>bif G8 T kt m.K&&(bif m.agg then dZ else !dZ)&&V'.beq m.V&&(m.agg||agu m.V.size 1)then(match yT ob m.K X with
    |some x=>bif ok then k {dst:= .tup [(m.agg, .leaf m.V ((bH m.K m.l x).getD m.V.zero)),(ag, .leaf .bool (bH m.K m.l x).isSome)]}
     else k {dst:= .val m.agg (.leaf m.V ((bH m.K m.l x).getD m.V.zero))}
    |none=>ae)else ae
   |none=>ae
  |_=>ae
 |none=>qa T ob t ok M X k
def AM(T:aX P){t:TypeId}{ok:Bool}{M X:aC}{m x:Operand}{k:dF->Option R}{q:R}(h:nL T ob n t ok M X k=aa q)(hs:aI U H F w ob n)(hm:aB H F w M (ev ρ m))(hx:aB H F w X (ev ρ x)):
 ∃e,k e=aa q/\cd P U H F w ρ ob n ⟨aa d, .lookup t m x ok,ty,pos,aft,ae⟩ e:=by
 unfold nL at h;split at h
 case h_2=>exact Dl T h hs hm hx
 rename_i r rM;obtain⟨cA,hv,mE⟩:=sV hs rM hm;obtain⟨o,s,T0,K,agg,V,l,it⟩:=r;dsimp only at h cA hv mE;split at h
 case h_2=>cases h
 rename_i kt vt hu;split at h
 case h_2=>cases h
 rename_i dZ V' hz;obtain⟨hc,h'⟩:=aP h;clear h;obtain⟨hc,QZ⟩:=ct hc;obtain⟨hc,JD⟩:=ct hc;obtain⟨xl,Ag⟩:=ct hc
 have qT:agg=dZ:=by cases agg<;>cases dZ<;>simp_all
 subst qT;obtain rfl:=Row.eq_of_beq JD;split at h'
 case h_2=>cases h'
 rename_i a ha;have hK:=E8 T xl;have o4:=xy hs hK ha hx;obtain⟨b,es,clock,l',mD,Q4,hh,gx,vx,GR,_⟩:=mE;have xA:=qi vx gx.2.2;have hlk:bH K l a=bH K l' a:=(Dv GR xA).symm
 have mz:agg=ag->V'.size=1:=λe=>by simp_all
 obtain⟨z,Df,EW⟩:=AB (w:=w) (H:=H) (F:=F) (T.zer_ok _ _ _ hz) mz;have E5:=T.und_ok _ _ hu
 have main:∃v,(ahU t (ev ρ m) (ev ρ x) ok).run P w= .ok (if ok then .tuple #[v, .bool (bH K l a).isSome]else v) w/\aO H F w agg (.leaf V' ((bH K l a).getD V'.zero)) v:=by
  rw[hlk]
  rcases hK.find a _ w es.toList o4 (λe he=>by grind [nK])with⟨h1,h2⟩|⟨j,e,h1,h2,h3⟩
  .have hn:bH K l' a=ae:=AL λq hq=>by
    grind [rO,iC]
   refine⟨z,?_,by grind⟩;rw[mD,hn];simp[ahU,run_underlying E5,ag3 hh,hK.chk _ _ _ _ o4,h1,Df,agB]
  .obtain⟨q,hq,VJ,hqv⟩:=nK vx e (List.mem_of_getElem? h2);have hl:=E9 xA q hq ((iC VJ o4).2 h3);refine⟨e.val,?_,by grind⟩;rw[mD,hl];simp[ahU,run_underlying E5,ag3 hh,hK.chk _ _ _ _ o4,h1,agB]
 obtain⟨v,bj,mE⟩:=main
 cases ok with
 |true=>
  refine⟨_,h',bz hs (v:= .tuple #[v, .bool (bH K l a).isSome]) (by simp[execOp,bj,agB]) ⟨[v, .bool (bH K l a).isSome],rfl,_,_,rfl,mE,_,_,rfl,aO.fx ..,rfl⟩⟩
 |false=>exact⟨_,h',bz hs (v:=v) (by simp[execOp,bj,agB]) mE⟩
def sW(T:aX P)(ob:Nat->Option (Nat×Th))(n:Nat)(t:TypeId)(M:aC)(k:dF->Option R):Option R:=
 match vD ob M with
 |some m=>match find T.und t with
  |some (.map _ _)=>k {dst:= .ptr (n+1) [] 0,eat:=[m.o],make:=[(m.o,(n, .smap m.T m.K m.agg m.V m.l (aa (n+1,m.l,ae))))]}
  |_=>ae
 |none=>ae
def Dw(es:Array MapEntry):leftOf es #[]=es:=by
 unfold leftOf
 simp_all
def G9(T:aX P){t:TypeId}{M:aC}{m:Operand}{k:dF->Option R}{q:R}(h:sW T ob n t M k=aa q)(hs:aI U H F w ob n)(hm:aB H F w M (ev ρ m)):
 ∃e,k e=aa q/\cd P U H F w ρ ob n ⟨aa d, .range t m,ty,pos,aft,ae⟩ e:=by
 unfold sW at h;split at h
 case h_2=>cases h
 rename_i r rM;obtain⟨cA,hv,mE⟩:=sV hs rM hm;obtain⟨o,s,T0,K,agg,V,l,it⟩:=r;dsimp only at h cA hv mE;split at h
 case h_2=>cases h
 rename_i kt vt hu;obtain⟨b,es,clock,l',mD,Q4,hh,gx,vx,GR,_⟩:=mE;have RL:b<w.heap.size:=(agZ.1 hh).1
 have jr:bX H ob [o] b:=⟨o,by simp,s,_,_,cA,hv,Q4⟩
 obtain⟨v1,ry,cL⟩:=hs.obj _ _ _ cA;rw[hv]at ry;obtain rfl:=agq ry
 have bj:(execOp (ev ρ) ⟨aa d, .range t m,ty,pos,aft,ae⟩).run P w= .ok (.value (.pointer (aa ⟨w.heap.size,0,ae⟩))) (w.alloc (.mapIter (aa b) clock #[] clock)):=by
  simp[execOp,mD,run_range_map w t kt vt b es clock (T.und_ok _ _ hu) hh,agB]
 refine⟨_,h,bT.val bj ?_⟩;have hf:=hs.fresh n (agt _) (by omega);have UP:=hs.fresh (n+1) (by omega) (by omega)
 let S':Nat->Prop:=λk=>k=b\/k=w.heap.size
 let t':Th:= .smap T0 K agg V l (aa (n+1,l,ae))
 let H1:aG:=((H.dT n S').bk n t').cB (n+1) (.pointer (aa ⟨w.heap.size,0,ae⟩))
 have hle:H.le H1:=(aG.qc hf.2).trans (aG.p6 (by simpa[aG.bk,aG.dT]using UP.1))
 have ZZ:H1.val (n+1)=aa (.pointer (aa ⟨w.heap.size,0,ae⟩)):=by simp[H1,aG.cB]
 have gZ:H1.sub n=S':=by simp[H1,aG.cB,aG.bk,aG.dT]
 have VK:H1.con n=aa t':=by simp[H1,aG.cB,aG.bk,aG.dT]
 have dB:Step F w F (w.alloc (.mapIter (aa b) clock #[] clock)):=λc hc=>⟨hc,by rw[heap_alloc_old _ _ (hs.lt c hc)]⟩
 refine⟨H1,F,⟨hle,nG _,λ_ h=>h,λ_ h=> .inl h,λc hc=>by have:=hs.lt c hc;simp;omega⟩,λm hm=>?_,⟨_,ZZ,rfl⟩,⟨λo' s' q hq=>?_,λo1 o2 s1 s2 q1 q2 u1 u2 dJ h1 h2=>?_⟩,λo' h=>?_⟩
 .have a1:m≠n:=by omega
  have a2:m≠n+1:=by omega
  simp[H1,aG.cB,aG.bk,aG.dT,a1,a2]
 .obtain⟨rfl,e⟩:=eF hq;obtain⟨rfl,rfl⟩:=Prod.mk.inj e;refine⟨_,hle.val _ _ hv,cL.one,VK,?_,λk hk=>?_⟩
  .rw[gZ];refine⟨b,es,clock,l',mD, .inl rfl,by rw[heap_alloc_old _ _ RL];exact hh,gx,vx.keep hle dB,GR,w.heap.size,clock, #[],clock, .inr rfl,λe=>by omega,ZZ,heap_alloc_new w _,gx.1,agt _,agt _,⟨l',?_,GR⟩,λp hp=>by cases hp⟩;rw[Dw];exact vx.keep hle dB
  .rw[gZ]at hk;have hk:k=b\/k=w.heap.size:=hk
   rcases hk with rfl|rfl
   .exact⟨hs.eE _ jr,by simp;omega, .inr jr⟩
   .exact⟨λe=>by have:=hs.lt _ e;omega,by simp, .inl (agt _)⟩
 all_goals grind [eF,agY]
open Classical in
noncomputable def Mw{α β:Type}(p:α->Prop)(k:α->Option β):Option β:=if h:∃r,(∃x,p x)/\∀x,p x->k x=aa r then aa h.choose else ae
def JJ{α β:Type}{p:α->Prop}{k:α->Option β}{q:β}(h:Mw p k=aa q):∀x,p x->k x=aa q:=by
 unfold Mw at h;split at h
 all_goals grind
def O1{α β:Type}{p:α->Prop}{k:α->Option β}{q:β}(h0:∃x,p x)(h:∀x,p x->k x=aa q):Mw p k=aa q:=by
 have hd:∃r,(∃x,p x)/\∀x,p x->k x=aa r:=⟨q,h0,h⟩
 unfold Mw;rw[dif_pos hd]
 grind
def yV(nn:Nat):List (Nat×(Nat×Th))->Option Nat
 |[]=>ae
 |(o,(_, .smap _ _ _ _ _ (aa (n',_,_))))::l=>bif agu n' nn then aa o else yV nn l
 |_::l=>yV nn l
def Fa:Row->Bool
 | .pair (.int _) (.int _)=>af
 |_=>ag
noncomputable def ma{α:Type}(K:Row)(l:List (K.den×α))(k:K.den):List (K.den×α):=l.filter λq=> !dY K q.1 k
noncomputable def JK(objs:List (Nat×(Nat×Th)))(n:Nat)(X:aC)(k:dF->Option R):Option R:=
 match X with
 | .ptr nn [] 0=>match yV nn objs with
   |some o=>match find objs o with
    |some (_, .smap T K agg V l (aa (n',left,_)))=>bif agu n' nn&&Fa K then
      (if left.isEmpty=af then k {dst:= .tup [(ag, .leaf .bool ag)]}
      else Mw (λp=>p∈left) λp=>k {dst:= .tup [(ag, .leaf .bool af),(af, .leaf K p.1),(agg, .leaf V p.2)],eat:=[o],make:=[(o,(n, .smap T K agg V l (aa (nn,ma K left p.1,aa p))))]})else ae
    |_=>ae
   |none=>ae
 |_=>ae
def AN{K:Row}{x:K.den}{v:Value}(hK:Fa K=af)(h:jM K x=aa v):aO H F w af (.leaf K x) v:=by
 unfold Fa at hK;split at hK
 .obtain rfl:=agq h;exact⟨[_,_],⟨[_],[_],rfl,rfl,rfl⟩,rfl,λe=>by cases e⟩
 .cases hK
def AO(es:Array MapEntry)(seen:Array Nat)(b:Nat):(leftOf es (seen.push b)).toList=(leftOf es seen).toList.filter λx=> !(x.born==b):=by
 unfold leftOf;rw[ahQ,ahQ,List.filter_filter]
 grind
def JL{objs:List (Nat×(Nat×Th))}{X:aC}{x:Operand}{k:dF->Option R}{q:R}(h:JK objs n X k=aa q)(hs:aI U H F w (find objs) n)(hx:aB H F w X (ev ρ x)):
 ∃e,k e=aa q/\cd P U H F w ρ (find objs) n ⟨aa d, .next x ag,ty,pos,aft,ae⟩ e:=by
 unfold JK at h;split at h
 case h_2=>cases h
 rename_i nn;split at h
 case h_2=>cases h
 rename_i o _;split at h
 case h_2=>cases h
 rename_i s T K agg V l n' left cur cA;obtain⟨hc,h'⟩:=aP h;clear h;obtain⟨xl,hK⟩:=ct hc;obtain rfl:=beq_true xl;obtain⟨v,hv,cL⟩:=hs.obj _ _ _ cA;obtain⟨b,es,clock,l',mD,Q4,hh,gx,vx,GR,r,since,seen,last,Z0,VL,UQ,hr,hold,gE,Z1,⟨l2,Mx,Jy⟩,_⟩:=cL.ok;obtain⟨b0,CQ,ES⟩:=hx;rw[UQ]at CQ;cases CQ;have Vz:r<w.heap.size:=(agZ.1 hr).1
 rcases run_next_at (P:=P) w ty r b since last seen es clock hr hh hold gE with⟨h0,bj⟩|⟨e,he,w1,UR,bj⟩
 .have hle:l2=[]:=by
   have:(leftOf es seen).toList=[]:=by rw[Array.toList_eq_nil_iff];exact Array.eq_empty_of_size_eq_zero h0
   rw[this]at Mx;exact Mx
  subst hle;obtain rfl:left=[]:=Jy.nil_eq.symm;rw[aj (show([]:List (K.den×V.den)).isEmpty=af from rfl)]at h';exact⟨_,h',bz hs (v:= .tuple #[.bool ag]) (by simp[execOp,ES,bj,agB]) ⟨[.bool ag],rfl,_,_,rfl,aO.fx ..,rfl⟩⟩
 .have RM:((leftOf es seen).toList.map (·.born)).Nodup:=by
   unfold leftOf;rw[ahQ];exact(gx.2.1.sublist ((List.filter_sublist).map _))
  have RN:((leftOf es seen).toList.map (·.key)).Nodup:=by
   unfold leftOf;rw[ahQ];exact(gx.2.2.sublist ((List.filter_sublist).map _))
  obtain⟨p,l3,g1,g2,g3,g4⟩:=xx Mx RM he;have rQ:p∈left:=Jy.mem_iff.1 (g4.mem_iff.2 (by simp))
  have dJ:¬left.isEmpty=af:=by
   cases left with
   |nil=>cases rQ
   |cons _ _=>simp
  rw[ai dJ]at h';refine⟨_,JJ h' p rQ,?_⟩
  have VM:e∈es.toList:=by
   have:e∈(leftOf es seen).toList:=he;unfold leftOf at this;rw[ahQ]at this;exact(List.mem_filter.1 this).1
  have My:w1.heap=w.heap:=by rcases UR with rfl|rfl<;>rfl
  have nf:∀k,k≠r->(ahC w1 r (.mapIter (aa b) since (seen.push e.born) clock)).heap[k]? =w.heap[k]? :=λk hk=>by
   rw[<-My];exact(heap_set (w:=w1) (by rw[My];exact hr)).2 k hk
  have RO:(ahC w1 r (.mapIter (aa b) since (seen.push e.born) clock)).heap[r]? =aa (.mapIter (aa b) since (seen.push e.born) clock):=(heap_set (w:=w1) (by rw[My];exact hr)).1
  have jr:∀k,H.sub s k->bX H (find objs) [o] k:=λk hk=>⟨o,by simp,s,_,_,cA,hv,hk⟩
  have hf:=hs.fresh n (agt _) (by omega)
  let t':Th:= .smap T K agg V l (aa (n',ma K left p.1,aa p))
  let S':Nat->Prop:=λk=>k=b\/k=r
  have hle:H.le ((H.dT n S').bk n t'):=aG.qc hf.2
  have dB:Step F w F (ahC w1 r (.mapIter (aa b) since (seen.push e.born) clock)):=λc hc=>⟨hc,nf c λg=>by subst g;exact hs.eE _ (jr _ Z0) hc⟩
  refine bT.val (v:= .tuple #[.bool af,e.key,e.val]) (w':=ahC w1 r (.mapIter (aa b) since (seen.push e.born) clock)) (by simp[execOp,ES,bj,agB]) ?_
  have bC:Ext (bX H (find objs) [o]) w (ahC w1 r (.mapIter (aa b) since (seen.push e.born) clock)):=by
   rcases UR with rfl|rfl
   .exact⟨rfl,⟨rfl,agt _⟩,rfl,by simp[ahC],(by grind)⟩
   .exact⟨rfl,⟨rfl,Nat.le_succ _⟩,rfl,by simp[ahC,My],(by grind)⟩
  have xA:yS K left:=(qi Mx RN).perm Jy.symm;refine kI.yK (t':=t') hs cA hv rfl (by simp) S' (λk hk=>?_) bC ?_ ?_
  .have hk:k=b\/k=r:=hk
   grind
  .refine⟨b,es,clock,l',mD, .inl rfl,(nf b VL.symm).trans hh,gx,vx.keep hle dB,GR,r,since,seen.push e.born,clock, .inr rfl,VL,hle.val _ _ UQ,RO,hold,Z1,Z1,⟨l3,?_,?_⟩,λp' CV=>?_⟩
   .rw[AO];exact g3.keep hle dB
   .have vq:left.Perm (p::l3):=Jy.symm.trans g4;have hd3:yS K (p::l3):=xA.perm vq.symm;refine List.Perm.trans ?_ (vq.filter _).symm
    rw[List.filter_cons_of_neg (by
     grind [iC])]
    rw[ahP.2 λq hq=>by rw[qX ((agN.1 hd3).1 q hq)];rfl]
   .obtain rfl:=agq CV;exact⟨rfl,e,VM,⟨seen,rfl⟩,g1,g2.keep hle dB⟩
  .exact⟨[.bool af,e.key,e.val],rfl,_,_,rfl,aO.fx ..,_,_,rfl,AN hK g1,_,_,rfl,g2.keep hle dB,rfl⟩
def Dx(objs:List (Nat×(Nat×Th)))(X:aC):Option aC:=
 match X with
 | .ptr nn [] 0=>match yV nn objs with
   |some o=>match find objs o with
    |some (_, .smap _ K agg V _ (aa (n',_,aa p)))=>bif agu n' nn&&Fa K then aa (.tup [(af, .leaf K p.1),(agg, .leaf V p.2)])else ae
    |_=>ae
   |none=>ae
 |_=>ae
theorem Ha{objs:List (Nat×(Nat×Th))}{X D:aC}{x:Operand}(h:Dx objs X=aa D)(hs:aI U H F w (find objs) n)(hx:aB H F w X (ev ρ x)):
 cd P U H F w ρ (find objs) n ⟨aa d, .entry x,ty,pos,aft,ae⟩ {dst:=D}:=by
 unfold Dx at h;split at h
 case h_2=>cases h
 rename_i nn;split at h
 case h_2=>cases h
 rename_i o _;split at h
 case h_2=>cases h
 rename_i s T K agg V l n' left p cA;obtain⟨hc,h'⟩:=aP h;obtain⟨xl,hK⟩:=ct hc;obtain rfl:=beq_true xl;obtain rfl:=agq h';obtain⟨v,hv,cL⟩:=hs.obj _ _ _ cA;obtain⟨b,es,clock,l',mD,Q4,hh,gx,vx,GR,r,since,seen,last,Z0,VL,UQ,hr,hold,gE,_,_,VN⟩:=cL.ok;obtain⟨rfl,e,he,⟨s0,rfl⟩,g1,g2⟩:=VN p rfl;obtain⟨b0,CQ,ES⟩:=hx;rw[UQ]at CQ;cases CQ;have bj:=run_entry_at (P:=P) w r b since s0 es last e hr hh he gx.2.1;exact bz hs (v:= .tuple #[e.key,e.val]) (by simp[execOp,ES,bj,agB]) ⟨[e.key,e.val],rfl,_,_,rfl,AN hK g1,_,_,rfl,g2,rfl⟩
end
end
section
open Go Go.RowKit Go.MapKept
section
variable {P:Program} {ρ:Nat->Value} {w w':World} {H H':aG} {F F':Nat->Prop} {U:Nat->Prop} {ob:Nat->Option (Nat×Th)} {n:Nat} {R:Type}
variable {op:Op} {ty:TypeId} {pos:String} {aft:Array Edge} {d:Nat}
noncomputable def N4(ob:Nat->Option (Nat×Th))(n o:Nat):Option dF:=JG ob n o
def Dy(hs:aI U H F w ob n){o:Nat}{e:dF}(h:N4 ob n o=aa e):lL H F w ob n e undef w:=G3 hs h
def DR.sX:(d:DR)->d.low.eD=d.row.eD
 | .leaf _=>rfl
 | .sl _ _=>rfl
 | .pair a b=>by show a.low.eD++b.low.eD=a.row.eD++b.row.eD;rw[a.sX,b.sX]
def JM{α β:Type}{l m out:List α}{lx ly:List β}(h:cr l m=aa out)(h1:lx.length=l.length)(h2:ly.length=m.length):cr lx ly=aa (lx++ly)/\out=l++m:=by
 grind [cr]
def tM(T:aX P){t e:TypeId}{r:Row}(hu:find T.und t=aa (.slice e))(hr:find T.row e=aa r){dr:DR}(lE:dr.row=r){x y:Operand}{l m out:List dr.row.den}{Sx:Nat->Prop}{eat:List Nat}{o2 s2:Nat}
 (hs:aI U H F w ob n)(hx:GC F w e dr.low (λ_=>jK F w dr) (ev ρ x) l Sx)(VO:∀k,Sx k->¬F k)(Z2:∀k,Sx k->bX H ob eat k)(Gw:∀k,Sx k->k<w.heap.size)
 (uv:ob o2=aa (s2, .deep e dr m ae))(mD:H.val o2=aa (ev ρ y))(ho2:o2∈eat)(Mz:∀k,Sx k->¬H.sub s2 k)(ha:cr l m=aa out):
 cd P U H F w ρ ob n ⟨aa d, .call {callee:= .builtin .append,args:= #[x,y],argTypes:= #[t,t]},ty,pos,aft,ae⟩ {dst:= .val ag (.own n),eat:=eat,make:=[(n,(n, .deep e dr out ae))]}:=by
 obtain⟨lx,VP,Mo,Rm,hrx,IG⟩:=hx;obtain⟨ly,Sy,hoy,Vd,Z3,O2⟩:=hs.low uv mD;obtain⟨v2,Gy,MA⟩:=hs.obj _ _ _ uv;rw[mD]at Gy;obtain rfl:=agq Gy;obtain⟨Z4,rfl⟩:=JM ha Rm Vd;obtain⟨ti,z,h1,h2,h3,h4,h5⟩:=T.row_ok _ _ hr;have ht:=T.und_ok _ _ hu;subst lE;obtain⟨v',w',bj,bC,gy,hm⟩:=u9 ty ht h1 h2 (h3.trans dr.sX.symm) (h4.trans dr.size.symm) h5 (base:=0) (l:=lx) ⟨λk hk=>VO k (IG.bF k hk),Mo⟩ hoy.reads Z4 hs.lt (Nat.zero_le _)
 have gx:Step F w F w':=Step.ext bC hs.lt λk hk=>VO k (IG.bF k hk)
 have hye:∀k,H.sub s2 k->bX H ob eat k:=λk hk=>⟨o2,ho2,s2,_,_,uv,mD,hk⟩
 have Z5:∀i,i<l.length->∀k,VP i k->w'.heap[k]? =w.heap[k]? :=λi hi k hk=>bC.block k (Gw k (IG.part hi k hk)) (IG.out i k hi hk)
 have RP:∀i,i<m.length->∀k,Sy i k->w'.heap[k]? =w.heap[k]? :=λi hi k hk=>bC.block k (MA.lt k (O2.part hi k hk)) λJN=>Mz k (IG.bF k JN) (O2.part hi k hk)
 have hlen:(l++m).length=l.length+m.length:=List.length_append
 have Z6:∀k,bF v' k->(Sx k/\bF (ev ρ x) k)\/k=w.heap.size:=by
  intro k hk
  rcases hm with g|g
  .rw[g]at hk;exact .inl ⟨IG.bF k hk,hk⟩
  .simp_all
 let SS:Nat->Nat->Prop:=λi=>if i<l.length then VP i else Sy (i-l.length)
 have Q5:∀i k,i<l.length->SS i k->VP i k:=(by grind)
 have Q6:∀i k,¬i<l.length->SS i k->Sy (i-l.length) k:=(by grind)
 have hSS:∀i k,i<(l++m).length->SS i k->Sx k\/H.sub s2 k:=by
  intro i k hi hk;by_cases bi:i<l.length
  .exact .inl (IG.part bi k (Q5 i k bi hk))
  .exact .inr (O2.part (by omega) k (Q6 i k bi hk))
 have kA:v'.oneCell'=af:=lR.one (T:=e) (r:=dr.low) gy.2;refine bT.val (v:=v') (w':=w') (by simp[execOp,resolve,invoke,builtin,bj]) (kI.Mv (t:= .deep e dr (l++m) ae) (S:=qU (bF v') SS (l++m).length) hs rfl kA ⟨bC.os,bC.tape,bC.output,bC.size,λk hk hn=>bC.block k hk λRn=>hn (Z2 k (IG.bF k Rn))⟩ ?_ (λk hk=>?_) (mH (o:=n) (v:=v') (by simp[aG.cB]) kA))
 .refine⟨lx++ly,SS,gy.2,by simp[Rm,Vd],λi a b=>?_,⟨λk=>Iff.rfl,λi j k hi hj dJ hk gD=>?_,λi k hi hk Rn=>?_⟩⟩
  .show jK F w' dr (lx++ly)[i] (l++m)[i] (SS i)
   by_cases bi:i<l.length
   .grind [jK.keep]
   .have e1:(lx++ly)[i]=ly[i-l.length]'(by grind):=by rw[ahc (by omega)];simp only[Rm]
    have e2:(l++m)[i]=m[i-l.length]'(by omega):=ahc (by omega)
    have e3:SS i=Sy (i-l.length):=by simp only[SS,ai bi]
    rw[e1,e2,e3];exact jK.keep gx (Z3 (i-l.length) _ (by omega)) (RP _ (by omega))
  .by_cases h1:i<l.length<;>by_cases h2:j<l.length
   .exact IG.two i j k h1 h2 dJ (Q5 i k h1 hk) (Q5 j k h2 gD)
   .exact Mz k (IG.part h1 k (Q5 i k h1 hk)) (O2.part (by omega) k (Q6 j k h2 gD))
   .exact Mz k (IG.part h2 k (Q5 j k h2 gD)) (O2.part (by omega) k (Q6 i k h1 hk))
   .exact O2.two (i-l.length) (j-l.length) k (by omega) (by omega) (by omega) (Q6 i k h1 hk) (Q6 j k h2 gD)
  .rcases Z6 k Rn with⟨g1,g2⟩|g
   .by_cases h1:i<l.length
    .exact IG.out i k h1 (Q5 i k h1 hk) g2
    .exact Mz k g1 (O2.part (by omega) k (Q6 i k h1 hk))
   .rcases hSS i k hi hk with h1|h1
    .grind
    .have:=MA.lt k h1;omega
 .have hk:qU (bF v') SS (l++m).length k:=hk
  have fin:Sx k\/H.sub s2 k->¬F k/\k<w'.heap.size/\(w.heap.size<=k\/bX H ob eat k):=by
   rintro(h1|h1)
   .exact⟨VO k h1,agK (Gw k h1) bC.size, .inr (Z2 k h1)⟩
   .exact⟨MA.no k h1,agK (MA.lt k h1) bC.size, .inr (hye k h1)⟩
  rcases hk with hk|⟨i,hi,hk⟩
  .rcases Z6 k hk with⟨g,_⟩|g
   .grind
   .exact⟨λe=>by have:=hs.lt k e;omega,gy.lt k hk, .inl (by omega)⟩
  grind
def rR(T:aX P)(ob:Nat->Option (Nat×Th))(n:Nat)(t:TypeId)(X Y:aC)(k:dF->Option R):Option R:=
 match find T.und t with
 |some (.slice e)=>match find T.row e with
  |some r=>match Y with
   | .val ag (.own o2)=>match ob o2 with
     |some (_, .deep T2 d2 m ae)=>bif agu T2 e&&d2.row.beq r then(match X with
      | .val ag .nil=>(cr ([]:List d2.row.den) m).bind λl=>k {dst:= .val ag (.own n),eat:=[o2],make:=[(n,(n, .deep e d2 l ae))]}
      | .val ag (.own o1)=>match ob o1 with
        |some (_, .deep T1 d1 l0 ae)=>bif agu o1 o2 then ae else bif agu T1 e then(if h:d1.beq d2=af then(cr (DR.eq_of_beq h▸l0) m).bind λl=>k {dst:= .val ag (.own n),eat:=[o1,o2],make:=[(n,(n, .deep e d2 l ae))]}else ae)else ae
        |_=>ae
      |_=>ae)else ae
     |_=>ae
   |_=>ae
  |none=>ae
 |_=>ae
def AQ(T:aX P){t:TypeId}{X Y:aC}{x y:Operand}{k:dF->Option R}{q:R}(h:rR T ob n t X Y k=aa q)(hs:aI U H F w ob n)(hx:aB H F w X (ev ρ x))(hy:aB H F w Y (ev ρ y)):
 ∃e,k e=aa q/\cd P U H F w ρ ob n ⟨aa d, .call {callee:= .builtin .append,args:= #[x,y],argTypes:= #[t,t]},ty,pos,aft,ae⟩ e:=by
 unfold rR at h;split at h
 case h_2=>cases h
 rename_i e hu;split at h
 case h_2=>cases h
 rename_i r hr;split at h
 case h_2=>cases h
 rename_i o2;split at h
 case h_2=>cases h
 rename_i s2 T2 d2 m uv;obtain⟨hc,h'⟩:=aP h;clear h;obtain⟨xl,Ag⟩:=ct hc;obtain rfl:=beq_true xl;have lE:=Row.eq_of_beq Ag;obtain⟨cs,⟨u,Mh,_,e2⟩,_,h3⟩:=hy;rw[h3 rfl]at e2
 obtain rfl:ev ρ y=u:=by simpa using e2
 split at h'
 .obtain⟨l,hl,hk⟩:=bind_some h';refine⟨_,hk,tM (Sx:=λ_=>False) T hu hr lE hs ?_ (λ_ h=>h.elim) (λ_ h=>h.elim) (λ_ h=>h.elim) uv Mh (by simp) (λ_ h=>h.elim) hl⟩;obtain⟨cs,h1,_,h4⟩:=hx;rw[h4 rfl]at h1;have C7:[ev ρ x]=[Value.slice ae 0 0]:=h1;rw[show ev ρ x= .slice ae 0 0 by simpa using C7];exact⟨[],λ_ _=>False,lR.nil F w T2 d2.low,rfl,λi h=>absurd h (by simp),⟨λk=>by simp[bF,agI],λ_ _ _ h=>absurd h (by simp),λ_ _ h=>absurd h (by simp)⟩⟩
 .rename_i o1;split at h'
  case h_2=>cases h'
  rename_i s1 T1 d1 l0 yN
  cases dJ:agu o1 o2 with
  |true=>grind
  |false=>
   rw[dJ,cond_false]at h'
   have dJ:o1≠o2:=λe=>by simp_all
   obtain⟨hT,h⟩:=aP h';clear h';obtain rfl:=beq_true hT;split at h
   case isFalse=>cases h
   rename_i hb;obtain rfl:=DR.eq_of_beq hb;obtain⟨l,hl,hk⟩:=bind_some h;obtain⟨cs,⟨v,ry,_,e1⟩,_,h4⟩:=hx;rw[h4 rfl]at e1
   obtain rfl:ev ρ x=v:=by simpa using e1
   obtain⟨v',dX,o6⟩:=hs.obj _ _ _ yN;rw[ry]at dX;obtain rfl:=agq dX;exact⟨_,hk,tM (Sx:=H.sub s1) T hu hr lE hs o6.ok o6.no (λk hk=>⟨o1,by simp,s1,_,_,yN,ry,hk⟩) o6.lt uv Mh (by simp) (λk hk=>hs.apart _ _ _ _ _ _ _ _ dJ yN uv ry Mh k hk) hl⟩
 .cases h'
def JO(ob:Nat->Option (Nat×Th)):aC->Bool
 | .val ag (.own o)=>match ob o with
   |some (_, .deep ..)=>af
   |_=>ag
 |_=>ag
def nM(T:aX P)(ob:Nat->Option (Nat×Th))(n:Nat)(t:TypeId)(X Y:aC)(k:dF->Option R):Option R:=
 bif JO ob Y then rR T ob n t X Y k else p8 T ob n t X Y k
def AR(T:aX P){t:TypeId}{X Y:aC}{x y:Operand}{k:dF->Option R}{q:R}(h:nM T ob n t X Y k=aa q)(hs:aI U H F w ob n)(hx:aB H F w X (ev ρ x))(hy:aB H F w Y (ev ρ y)):
 ∃e,k e=aa q/\cd P U H F w ρ ob n ⟨aa d, .call {callee:= .builtin .append,args:= #[x,y],argTypes:= #[t,t]},ty,pos,aft,ae⟩ e:=by
 unfold nM at h
 cases hb:JO ob Y with
 |true=>rw[hb,cond_true]at h;exact AQ T h hs hx hy
 |false=>rw[hb,cond_false]at h;exact Dg T h hs hx hy
end
end
end Go.Proofs.YtfeahmiobbjklaaGreatDoor
section
open _root_.Bool renaming false->ag,true->af
open _root_.Option renaming none->ae,some->aa
open _root_.List renaming append_assoc->ahg
open _root_.Nat renaming beq->agu,blt->agW,le_refl->agt
open _root_.Option.some renaming inj->agq,injEq->agz
open _root_.Go.Value renaming ownBlock->agI
namespace Go.Proofs.YtfeahmiobbjklaaGreatDoor
open Go Go.RowKit
def fy(objs:List (Nat×(Nat×Th))):List Nat->Option (List (Nat×(Nat×Th)))
 |[]=>aa objs
 |o::os=>match find objs o with
  |some (s, .own T r l)=>fy ((o,(s, .um T r l))::del [o] objs) os
  |some (s, .map T K agg V l)=>fy ((o,(s, .fmap T K agg V l))::del [o] objs) os
  |some (s, .deep T d l ae)=>fy ((o,(s, .fdeep T d l))::del [o] objs) os
  |some (_, .um ..)=>fy objs os
  |some (_, .fmap ..)=>fy objs os
  |some (_, .fdeep ..)=>fy objs os
  |_=>ae
def eT:Th->Bool
 | .um .. =>af
 | .fmap .. =>af
 | .fdeep .. =>af
 |_=>ag
structure RQ(t t':Th):Prop where
 froz:eT t'=af
 base:t'.base=t.base
 fp:∀S v k,¬fp S v t' k
 ok:∀{H:aG}{F:Nat->Prop}{w:World}{S:Nat->Prop}{v:Value},(∀k,Go.Proofs.YtfeahmiobbjklaaGreatDoor.fp S v t k->¬F k)->gX H F w S v t->gX H (λb=>F b\/Go.Proofs.YtfeahmiobbjklaaGreatDoor.fp S v t b) w S v t'
structure cg(H:aG)(F:Nat->Prop)(w:World)(H':aG)(F':Nat->Prop)(w':World):Prop where
 gj:H.le H'
 step:Step F w F' w'
def cg.refl(H:aG)(F:Nat->Prop)(w:World):cg H F w H F w:=⟨aG.le.refl H,Step.refl F w⟩
def cg.trans{H H' uo:aG}{F F' Dz:Nat->Prop}{w w' wL:World}(h:cg H F w H' F' w')(k:cg H' F' w' uo Dz wL):cg H F w uo Dz wL:=⟨h.gj.trans k.gj,h.step.trans k.step⟩
structure JP(G:Nat->Prop)(w0:World)(F0:Nat->Prop)(w:World)(F:Nat->Prop):Prop where
 ext:Ext G w0 w
 le:∀b,F0 b->F b
 new:∀b,F b->F0 b\/w0.heap.size<=b\/G b
section
variable {U:Nat->Prop} {H:aG} {F:Nat->Prop} {w:World} {n:Nat}
theorem MB(T:TypeId)(r:Row)(l:List r.den):RQ (.own T r l) (.um T r l) where
 froz:=rfl
 base:=rfl
 fp _ _ _ h:=h
 ok hn h:=lJ.freeze (base:=0) (T:=T) (l:=l) ⟨hn,h⟩
theorem MC(T:TypeId)(K:Row)(agg:Bool)(V:Row)(l:List (K.den×V.den)):RQ (.map T K agg V l) (.fmap T K agg V l) where
 froz:=rfl
 base:=rfl
 fp _ _ _ h:=h
 ok {H F w S v} _ h:=by
  obtain⟨b,es,clock,h1,h2,h3,h4⟩:=h;obtain⟨g1,g2⟩:=E3 h4;refine⟨v,rfl, .inr ⟨b,es,clock,h1, .inr h1,h2,h3,by simpa using g1,λi hi=>?_⟩⟩;obtain⟨e,cs,q1,q2,q3,q4,q5⟩:=g2 i hi;exact⟨e,cs,by simpa using q1,q2,q3.step (Step.freeze F w _),q4,q5⟩
def lR.lE{F:Nat->Prop}{w:World}{T:TypeId}{r:Row}{v:Value}{l:List r.den}(h:lR F w T r v l):cF F w .lE [v] v:=by
 obtain⟨xs,⟨_,h⟩,_⟩:=h
 rcases h with⟨rfl,_⟩|⟨gg,o0,cap,cur,rfl,_⟩<;>exact⟨rfl,_,_,_,rfl⟩
theorem JQ(T:TypeId)(d:DR)(l:List d.row.den):RQ (.deep T d l ae) (.fdeep T d l) where
 froz:=rfl
 base:=rfl
 fp _ _ _ h:=h
 ok {H F w S v} hn h:=by
  have h':jK F w (.sl T d) v l S:=h;obtain⟨lh,Ss,h1,_⟩:=h;exact jK.freeze h' hn h1.lE
def MD{objs:List (Nat×(Nat×Th))}{o s:Nat}{t0 t1:Th}(hf:RQ t0 t1)(hs:aI U H F w (find objs) n)(ho:find objs o=aa (s,t0)):
 ∃F',aI U H F' w (find ((o,(s,t1))::del [o] objs)) n/\(∀b,F b->F' b)/\(∀b,F' b->F b\/∃v,H.val o=aa v/\fp (H.sub s) v t0 b):=by
 obtain⟨v,hv,cL⟩:=hs.obj _ _ _ ho;refine⟨λb=>F b\/fp (H.sub s) v t0 b,?_,λ_ h=> .inl h,(by grind)⟩
 have part:∀o' s' t',find ((o,(s,t1))::del [o] objs) o'=aa (s',t')->(o'=o/\s'=s/\t'=t1)\/(o'≠o/\find objs o'=aa (s',t')):=by
  intro o' s' t' h;rw[aS]at h;split at h
  .grind
  .grind [gW]
 have fz:Step F w (λb=>F b\/fp (H.sub s) v t0 b) w:=Step.freeze F w _;refine⟨λo' s' t' h=>?_,λo1 o2 s1 s2 t1' t2 v1 v2 dJ h1 h2 e1 e2 k hk gD=>?_,hs.fresh,λb hb=>hb.elim (hs.lt b) (cL.lt b),hs.new,hs.gl.step fz⟩
 .rcases part o' s' t' h with⟨rfl,rfl,rfl⟩|⟨dJ,h'⟩
  .exact⟨v,hv,cL.one,by rw[hf.base];exact cL.con,hf.ok cL.no cL.ok,λk hk=>(hf.fp _ _ _ hk).elim,λk hk=>(hf.fp _ _ _ hk).elim,λk hk=>(hf.fp _ _ _ hk).elim⟩
  .obtain⟨v',dX,AS⟩:=hs.obj _ _ _ h';refine⟨v',dX,AS.one,AS.con,AS.ok.heap (aG.le.refl H) fz λ_ _=>rfl,λk hk hF=>?_,AS.lt,AS.use⟩
   rcases hF with hF|hF
   .exact AS.no k hk hF
   .exact hs.apart _ _ _ _ _ _ _ _ dJ h' ho dX hv k hk hF
 .rcases part o1 s1 t1' h1 with⟨rfl,rfl,rfl⟩|⟨abz,C7⟩
  .exact hf.fp _ _ _ hk
  .rcases part o2 s2 t2 h2 with⟨rfl,rfl,rfl⟩|⟨abA,GD⟩
   .exact hf.fp _ _ _ gD
   .exact hs.apart _ _ _ _ _ _ _ _ dJ C7 GD e1 e2 k hk gD
def nN:{os:List Nat}->{F:Nat->Prop}->{objs mI:List (Nat×(Nat×Th))}->fy objs os=aa mI->aI U H F w (find objs) n->
 ∃F',aI U H F' w (find mI) n/\(∀b,F b->F' b)/\(∀b,F' b->F b\/bX H (find objs) os b)
 |[],F,objs,mI,h,hs=>by obtain rfl:=agq h;grind
 |o::os,F,objs,mI,h,hs=>by
  have main:∀s t t',RQ t t'->find objs o=aa (s,t)->fy ((o,(s,t'))::del [o] objs) os=aa mI->
   ∃F',aI U H F' w (find mI) n/\(∀b,F b->F' b)/\(∀b,F' b->F b\/bX H (find objs) (o::os) b):=by
   intro s t t' hf ho h;obtain⟨F1,a1,a2,a3⟩:=MD hf hs ho;obtain⟨F2,b1,b2,b3⟩:=nN h a1;refine⟨F2,b1,λb hb=>b2 b (a2 b hb),λb hb=>?_⟩
   rcases b3 b hb with h1|⟨o',lD,s',t',v,h1,h2,h3⟩
   .rcases a3 b h1 with h2|⟨v,hv,hm⟩
    .exact .inl h2
    .exact .inr ⟨o,by simp,s,_,v,ho,hv,hm⟩
   .rw[aS]at h1;split at h1
    .simp only[agz,Prod.mk.injEq]at h1;rw[<-h1.2]at h3;exact(hf.fp _ _ _ h3).elim
    .exact .inr ⟨o',by simp[lD],s',t',v,(gW.1 h1).2,h2,h3⟩
  have same:fy objs os=aa mI->∃F',aI U H F' w (find mI) n/\(∀b,F b->F' b)/\(∀b,F' b->F b\/bX H (find objs) (o::os) b):=by
   intro h;obtain⟨F2,b1,b2,b3⟩:=nN h hs;exact⟨F2,b1,b2,λb hb=>(b3 b hb).imp id λ⟨o',lD,rest⟩=>⟨o',by simp[lD],rest⟩⟩
  grind [fy,MB,MC,JQ]
end
theorem gF{S:Nat->Prop}{v:Value}{t:Th}{k:Nat}(h:eT t=af)(hk:fp S v t k):False:=by
 cases t<;>first|(exact hk)|(cases h)
def jE:{os:List Nat}->{objs mI:List (Nat×(Nat×Th))}->fy objs os=aa mI->∀o s t,find mI o=aa (s,t)->
 find objs o=aa (s,t)\/eT t=af
 |[],objs,mI,h,o,s,t,ho=>by obtain rfl:=agq h;exact .inl ho
 |o0::os,objs,mI,h,o,s,t,ho=>by
  have main:∀s0 t1,eT t1=af->fy ((o0,(s0,t1))::del [o0] objs) os=aa mI->find objs o=aa (s,t)\/eT t=af:=by
   intro s0 t1 hf h
   rcases jE h o s t ho with h1|g
   .grind [aS,gW]
   .exact .inr g
  unfold fy at h;split at h
  .exact main _ _ rfl h
  .exact main _ _ rfl h
  .exact main _ _ rfl h
  .exact jE h o s t ho
  .exact jE h o s t ho
  .exact jE h o s t ho
  .cases h
inductive Sh where
 |leaf (r:Row)
 |own (j:Nat)
 |nil
 |pair (a b:Sh)
 |junk (n:Nat)
inductive SS where
 |val (agg:Bool) (t:Sh)
 |ptr (j:Nat) (p:List Bool) (off:Nat)
 |at (r:Row)
 |undef
 |fn (f:FuncId) (js:List (Nat×List Bool×Nat))
 |ifc (T:TypeId) (s:SS)
inductive OS where
 |box (T:TypeId) (t:Sh)
 |own (T:TypeId) (r:Row)
 |map (T:TypeId) (K:Row) (agg:Bool) (V:Row)
 |deep (T:TypeId) (d:DR)
 |smap (T:TypeId) (K:Row) (agg:Bool) (V:Row) (it:Option Nat)
structure JS where
 aD:List (Nat×SS)
 objs:List (Nat×OS):=[]
 drop:List Nat:=[]
 nxt:Nat
def Sh.rows:Sh->List Row
 | .leaf r=>[r]
 | .own _=>[]
 | .nil=>[]
 | .pair a b=>a.rows++b.rows
 | .junk _=>[]
def SS.rows:SS->List Row
 | .val _ t=>t.rows
 | .ptr .. =>[]
 | .at r=>[r]
 | .undef=>[]
 | .fn .. =>[]
 | .ifc _ s=>s.rows
def OS.rows:OS->List Row
 | .box _ t=>t.rows
 | .own _ r=>[.slice r]
 | .map _ K _ V=>[.slice (.pair K V)]
 | .deep _ d=>[.slice d.row]
 | .smap _ K _ V ae=>[.slice (.pair K V)]
 | .smap _ K _ V (aa _)=>[.slice (.pair K V), .slice (.pair K V)]
def AT:List (Nat×SS)->List Row
 |[]=>[]
 |p::l=>p.2.rows++AT l
def Fb:List (Nat×OS)->List Row
 |[]=>[]
 |p::l=>p.2.rows++Fb l
def JS.rows(J:JS):List Row:=AT J.aD++Fb J.objs
abbrev jL:=(r:Row)×r.den
@[reducible] def cV:List Row->Type
  |[]=>Unit
  |[r]=>r.den
  |r::s::rs=>r.den×cV (s::rs)
def c7:(rs:List Row)->cV rs->List jL
 |[],_=>[]
 |[r],x=>[⟨r,x⟩]
 |r::s::rs,x=>⟨r,x.1⟩::c7 (s::rs) x.2
def AU:(rs:List Row)->List jL->Option (cV rs)
 |[],[]=>aa ()
 |[r],[⟨s,x⟩]=>if h:s.beq r=af then aa (ja (Row.eq_of_beq h) x)else ae
 |r::r'::rs,⟨s,x⟩::vs=>if h:s.beq r=af then(match AU (r'::rs) vs with
  |some y=>aa (ja (Row.eq_of_beq h) x,y)
  |none=>ae)else ae
 |_,_=>ae
def xB{r s:Row}(h:s=r)(x:s.den):(⟨r,ja h x⟩:jL)=⟨s,x⟩:=by subst h;rfl
def tN:{rs:List Row}->{vs:List jL}->{x:cV rs}->AU rs vs=aa x->c7 rs x=vs
 |[],[],x,_=>rfl
 |[],_::_,_,h=>by cases h
 |[r],[],_,h=>by cases h
 |[r],[⟨s,x⟩],y,h=>by
  unfold AU at h;split at h
  .rename_i hb;obtain rfl:=agq h
   show[(⟨r,_⟩:jL)]=_
   rw[xB]
  .cases h
 |[r],_::_::_,_,h=>by cases h
 |r::r'::rs,[],_,h=>by cases h
 |r::r'::rs,⟨s,x⟩::vs,y,h=>by
  unfold AU at h;split at h
  .rename_i hb;split at h
   .rename_i z hz;obtain rfl:=agq h;have:=tN hz
    show(⟨r,_⟩:jL)::c7 (r'::rs) z=_
    rw[xB,this]
   .cases h
  .cases h
def o7:Sh->List jL->Tree×List jL
 | .leaf r,⟨s,x⟩::vs=>(bif s.beq r then .leaf s x else .nil,vs)
 | .leaf _,[]=>(.nil,[])
 | .own j,vs=>(.own j,vs)
 | .nil,vs=>(.nil,vs)
 | .pair a b,vs=>(.pair (o7 a vs).1 (o7 b (o7 a vs).2).1,(o7 b (o7 a vs).2).2)
 | .junk n,vs=>(.junk n,vs)
def ed:SS->List jL->aC×List jL
 | .val agg t,vs=>(.val agg (o7 t vs).1,(o7 t vs).2)
 | .ptr j p off,vs=>(.ptr j p off,vs)
 | .at r,⟨s,x⟩::vs=>(bif s.beq r then .at s x else .dead,vs)
 | .at _,[]=>(.dead,[])
 | .undef,vs=>(.undef,vs)
 | .fn f js,vs=>(.fn f js,vs)
 | .ifc T s,vs=>(.ifc T (ed s vs).1,(ed s vs).2)
def cS:List (Nat×SS)->List jL->List (Nat×aC)×List jL
 |[],vs=>([],vs)
 |(t,s)::l,vs=>((t,(ed s vs).1)::(cS l (ed s vs).2).1,(cS l (ed s vs).2).2)
def pt(K V:Row)(d:jL):Option (List (K.den×V.den)):=if h:d.1.beq (.slice (.pair K V))=af then aa (ja (s:= .slice (.pair K V)) (Row.eq_of_beq h) d.2)else ae
def O4(T:TypeId)(K:Row)(agg:Bool)(V:Row):Option Nat->List jL->Th×List jL
 |none,d::vs=>(.smap T K agg V ((pt K V d).getD []) ae,vs)
 |some n,d::d'::vs=>(.smap T K agg V ((pt K V d).getD []) (aa (n,(pt K V d').getD [],ae)),vs)
 |_,vs=>(.smap T K agg V [] ae,vs)
def sY{K V:Row}(l:List (K.den×V.den)):pt K V ⟨.slice (.pair K V),l⟩=aa l:=by
 unfold pt;rw[dif_pos (Row.beq_refl _)];rfl
def c9:OS->List jL->Th×List jL
 | .box T t,vs=>(.box T (o7 t vs).1,(o7 t vs).2)
 | .own T r,⟨.slice s,l⟩::vs=>(bif s.beq r then .own T s l else .own T r [],vs)
 | .own T r,vs=>(.own T r [],vs)
 | .map T K agg V,⟨.slice (.pair K' V'),l⟩::vs=>(if h:K'.beq K=af/\V'.beq V=af then .map T K agg V (ja (r:= .slice (.pair K' V')) (s:= .slice (.pair K V)) (by grind [Row.eq_of_beq]) l)else .map T K agg V [],vs)
 | .map T K agg V,vs=>(.map T K agg V [],vs)
 | .deep T d,⟨.slice s,l⟩::vs=>(if h:s.beq d.row=af then .deep T d (ja (r:= .slice s) (s:= .slice d.row) (av Row.slice (Row.eq_of_beq h)) l) ae else .deep T d [] ae,vs)
 | .deep T d,vs=>(.deep T d [] ae,vs)
 | .smap T K agg V it,vs=>O4 T K agg V it vs
def gL(m:Nat):List (Nat×OS)->List jL->List (Nat×(Nat×Th))
 |[],_=>[]
 |(j,s)::l,vs=>(j,(m,(c9 s vs).1))::gL (m+1) l (c9 s vs).2
abbrev Bs:=List (Nat×Option Nat)
def DA:Option Nat->Option Nat->Bool
 |some a,aa b=>agu a b
 |none,ae=>af
 |_,_=>ag
theorem xC{a b:Option Nat}(h:DA a b=af):a=b:=by
 cases a<;>cases b<;>first|rfl|cases h|(rw[beq_true h])
def vF(bs:Bs)(j:Nat)(v:Option Nat):Option Bs:=
 match find bs j with
 |none=>aa ((j,v)::bs)
 |some u=>bif DA u v then aa bs else ae
def CW(ob:Nat->Option (Nat×Th)):Sh->Tree->Bs->Option (List jL×Bs)
 | .leaf r,t,bs=>match flat ob r t with
   |some x=>aa ([⟨r,x⟩],bs)
   |none=>ae
 | .own j, .own o,bs=>match vF bs j (aa o)with
   |some fK=>aa ([],fK)
   |none=>ae
 | .own j, .nil,bs=>match vF bs j ae with
   |some fK=>aa ([],fK)
   |none=>ae
 | .nil, .nil,bs=>aa ([],bs)
 | .junk n,t,bs=>bif agu t.size n then aa ([],bs)else ae
 | .pair a b,t,bs=>match t.split with
   |some (x,y)=>match CW ob a x bs with
    |some (vs,DB)=>match CW ob b y DB with
     |some (us,Fc)=>aa (vs++us,Fc)
     |none=>ae
    |none=>ae
   |none=>ae
 |_,_,_=>ae
def sZ:List (Nat×List Bool×Nat)->List (Nat×List Bool×Nat)->Bs->Option Bs
 |[],[],bs=>aa bs
 |(j,_,off)::js,(o,_,dK)::cs,bs=>bif agu off dK then(match vF bs j (aa o)with
  |some fK=>sZ js cs fK
  |none=>ae)else ae
 |_,_,_=>ae
def JR(ob:Nat->Option (Nat×Th))(s:SS)(d:aC)(bs:Bs):Option (List jL×Bs):=
 match s,d with
 | .val agg sh, .val dZ t=>bif (bif agg then dZ else !dZ)then CW ob sh t bs else ae
 | .ptr j _ off, .ptr o _ dK=>bif agu off dK then(match vF bs j (aa o)with
   |some fK=>aa ([],fK)
   |none=>ae)else ae
 | .at r, .at s x=>if h:s.beq r=af then aa ([⟨r,ja (Row.eq_of_beq h) x⟩],bs)else ae
 | .undef, .undef=>aa ([],bs)
 | .fn f js, .fn f' cs=>bif agu f f' then(match sZ js cs bs with
   |some fK=>aa ([],fK)
   |none=>ae)else ae
 |_,_=>ae
def Hb(ob:Nat->Option (Nat×Th)):SS->aC->Bs->Option (List jL×Bs)
 | .ifc T s,d,bs=>match d with
   | .ifc T' d'=>bif agu T T' then Hb ob s d' bs else ae
   |_=>ae
 |s,d,bs=>JR ob s d bs
def Q7(ob:Nat->Option (Nat×Th))(aD:List (Nat×aC)):List (Nat×SS)->Bs->Option (List jL×Bs)
 |[],bs=>aa ([],bs)
 |(t,s)::l,bs=>match find aD t with
  |some d=>match Hb ob s d bs with
   |some (vs,DB)=>match Q7 ob aD l DB with
    |some (us,Fc)=>aa (vs++us,Fc)
    |none=>ae
   |none=>ae
  |none=>ae
def JT(ob:Nat->Option (Nat×Th))(j:Nat)(s:OS)(bs:Bs):Option (List jL×Bs):=
 match find bs j with
 |some (aa o)=>match ob o with
  |some (_,t)=>match s,t with
   | .own T r, .own T' r' l=>bif agu T T' then(if h:r'.beq r=af then aa ([⟨.slice r,ja (r:= .slice r') (s:= .slice r) (av Row.slice (Row.eq_of_beq h)) l⟩],bs)else ae)else ae
   | .box T sh, .box T' t=>bif agu T T' then CW ob sh t bs else ae
   | .map T K agg V, .map T' K' dZ V' l=>bif agu T T'&&(bif agg then dZ else !dZ)then(if h:K'.beq K=af/\V'.beq V=af then aa ([⟨.slice (.pair K V),ja (r:= .slice (.pair K' V')) (s:= .slice (.pair K V)) (by grind [Row.eq_of_beq]) l⟩],bs)else ae)else ae
   | .deep T d, .deep T' d' l ae=>bif agu T T'&&d'.beq d then aa ([⟨.slice d'.row,l⟩],bs)else ae
   | .smap T K agg V ae, .smap T' K' dZ V' l _=>bif agu T T'&&(bif agg then dZ else !dZ)&&K'.beq K&&V'.beq V then aa ([⟨.slice (.pair K' V'),l⟩],bs)else ae
   | .smap T K agg V (aa n), .smap T' K' dZ V' l (aa (n',left,_))=>bif agu T T'&&(bif agg then dZ else !dZ)&&K'.beq K&&V'.beq V then(match vF bs n (aa n')with
     |some fK=>aa ([⟨.slice (.pair K' V'),l⟩,⟨.slice (.pair K' V'),left⟩],fK)
     |none=>ae)else ae
   |_,_=>ae
  |none=>ae
 |some ae=>match s with
  | .own _ r=>aa ([⟨.slice r,([]:List r.den)⟩],bs)
  | .deep _ d=>aa ([⟨.slice d.row,([]:List d.row.den)⟩],bs)
  |_=>ae
 |none=>ae
def Q8(ob:Nat->Option (Nat×Th)):List (Nat×OS)->Bs->Option (List jL×Bs)
 |[],bs=>aa ([],bs)
 |(j,s)::l,bs=>match JT ob j s bs with
  |some (vs,DB)=>match Q8 ob l DB with
   |some (us,Fc)=>aa (vs++us,Fc)
   |none=>ae
  |none=>ae
section
variable {U:Nat->Prop} {H H':aG} {F:Nat->Prop} {w:World} {n:Nat} {ob:Nat->Option (Nat×Th)}
def AV(bs fK:Bs):Prop:=∀j v,find bs j=aa v->find fK j=aa v
def jb{bs fK:Bs}{j:Nat}{v:Option Nat}(h:vF bs j v=aa fK):AV bs fK/\find fK j=aa v:=by
 unfold vF at h;split at h
 .rename_i hn;obtain rfl:=agq h;refine⟨λi u hu=>?_,by rw[aS,aj rfl]⟩
  grind [aS]
 .rename_i u hu;obtain⟨h1,rfl⟩:=rJ h;obtain rfl:=xC h1;exact⟨λ_ _ h=>h,hu⟩
def valOf(H:aG):Option Nat->Option Value
 |some o=>H.val o
 |none=>aa (.slice ae 0 0)
def nO(H H':aG)(bs:Bs):Prop:=∀j v,find bs j=aa v->∀u,valOf H v=aa u->H'.val j=aa u
def vG:{sh:Sh}->{t:Tree}->{bs fK:Bs}->{vs:List jL}->CW ob sh t bs=aa (vs,fK)->AV bs fK
 | .leaf r,t,bs,fK,vs,h=>by
   unfold CW at h
   split at h<;>cases h
   exact λ_ _ h=>h
 | .own j, .own o,bs,fK,vs,h=>by
   unfold CW at h
   split at h<;>cases h
   rename_i hb;exact(jb hb).1
 | .own j, .nil,bs,fK,vs,h=>by
   unfold CW at h
   split at h<;>cases h
   rename_i hb;exact(jb hb).1
 | .nil, .nil,bs,fK,vs,h=>by cases h;exact λ_ _ h=>h
 | .pair a b,t,bs,fK,vs,h=>by
   unfold CW at h;split at h
   case h_2=>cases h
   split at h
   case h_2=>cases h
   rename_i h1;split at h
   case h_2=>cases h
   rename_i h2;cases h
   exact λj v hj=>vG h2 j v (vG h1 j v hj)
 | .own _, .leaf _ _,_,_,_,h=>by cases h
 | .own _, .pair _ _,_,_,_,h=>by cases h
 | .nil, .leaf _ _,_,_,_,h=>by cases h
 | .nil, .own _,_,_,_,h=>by cases h
 | .nil, .pair _ _,_,_,_,h=>by cases h
 | .own _, .view ..,_,_,_,h=>by cases h
 | .nil, .view ..,_,_,_,h=>by cases h
 | .own _, .junk _,_,_,_,h=>by cases h
 | .nil, .junk _,_,_,_,h=>by cases h
 | .junk n,t,bs,fK,vs,h=>by
   unfold CW at h;obtain⟨_,h⟩:=aP h;cases h
   exact λ_ _ h=>h
def yW(hs:aI U H F w ob n):{sh:Sh}->{t:Tree}->{bs fK:Bs}->{vs:List jL}->{cs:List Value}->CW ob sh t bs=aa (vs,fK)->Holds H F w t cs->nO H H' fK->∀rest,
 Holds H' F w (o7 sh (vs++rest)).1 cs/\(o7 sh (vs++rest)).2=rest
 | .leaf r,t,bs,fK,vs,cs,h,hh,hb,rest=>by
   unfold CW at h
   split at h<;>cases h
   rename_i x hf;refine⟨?_,rfl⟩
   show Holds H' F w (bif r.beq r then Tree.leaf r x else .nil) cs
   rw[Row.beq_refl,cond_true];exact gk hs hf hh
 | .own j, .own o,bs,fK,vs,cs,h,hh,hb,rest=>by
   unfold CW at h
   split at h<;>cases h
   rename_i yB;obtain⟨v,hv,h1,rfl⟩:=hh;exact⟨⟨v,hb _ _ (jb yB).2 v hv,h1,rfl⟩,rfl⟩
 | .own j, .nil,bs,fK,vs,cs,h,hh,hb,rest=>by
   unfold CW at h
   split at h<;>cases h
   rename_i yB;rw[show cs=_ from hh];exact⟨⟨_,hb _ _ (jb yB).2 _ rfl,rfl,rfl⟩,rfl⟩
 | .nil, .nil,bs,fK,vs,cs,h,hh,hb,rest=>by cases h;exact⟨hh,rfl⟩
 | .pair a b,t,bs,fK,vs,cs,h,hh,hb,rest=>by
   unfold CW at h;split at h
   case h_2=>cases h
   rename_i x y qE;split at h
   case h_2=>cases h
   rename_i VQ DB h1;split at h
   case h_2=>cases h
   rename_i us Fc h2;cases h;obtain⟨c1,c2,rfl,g1,g2,_⟩:=hh.split qE
   have IF:nO H H' DB:=λj v hj=>hb j v (vG h2 j v hj)
   obtain⟨k1,k2⟩:=yW hs h1 g1 IF (us++rest);obtain⟨m1,m2⟩:=yW hs h2 g2 hb rest;rw[ahg];unfold o7;rw[k2];exact⟨⟨c1,c2,rfl,k1,m1⟩,m2⟩
 | .own _, .leaf _ _,_,_,_,_,h,_,_,_=>by cases h
 | .own _, .pair _ _,_,_,_,_,h,_,_,_=>by cases h
 | .nil, .leaf _ _,_,_,_,_,h,_,_,_=>by cases h
 | .nil, .own _,_,_,_,_,h,_,_,_=>by cases h
 | .nil, .pair _ _,_,_,_,_,h,_,_,_=>by cases h
 | .own _, .view ..,_,_,_,_,h,_,_,_=>by cases h
 | .nil, .view ..,_,_,_,_,h,_,_,_=>by cases h
 | .own _, .junk _,_,_,_,_,h,_,_,_=>by cases h
 | .nil, .junk _,_,_,_,_,h,_,_,_=>by cases h
 | .junk n,t,bs,fK,vs,cs,h,hh,hb,rest=>by
   unfold CW at h;obtain⟨hn,h⟩:=aP h;cases h;exact⟨⟨hh.length.trans (Nat.eq_of_beq_eq_true hn),hh.jk⟩,rfl⟩
theorem s5:{js cs:List (Nat×List Bool×Nat)}->{bs fK:Bs}->sZ js cs bs=aa fK->AV bs fK
 |[],[],bs,fK,h=>by obtain rfl:=agq h;exact λ_ _ h=>h
 |(j,p,off)::js,(o,p',dK)::cs,bs,fK,h=>by
  unfold sZ at h;obtain⟨_,h⟩:=aP h;split at h
  case h_2=>cases h
  rename_i hb
  exact λi v hi=>s5 h i v ((jb hb).1 i v hi)
 |[],_::_,_,_,h=>by cases h
 |_::_,[],_,_,h=>by cases h
def xD:{js cs:List (Nat×List Bool×Nat)}->{bs fK:Bs}->{vs:List Value}->sZ js cs bs=aa fK->kH H cs vs->nO H H' fK->kH H' js vs
 |[],[],bs,fK,vs,h,hc,hb=>hc
 |(j,p,off)::js,(o,p',dK)::cs,bs,fK,vs,h,hc,hb=>by
  unfold sZ at h;obtain⟨ho,h'⟩:=aP h;clear h;split at h'
  case h_2=>cases h'
  rename_i b1 yB;obtain⟨v,us,rfl,⟨b,h1,rfl⟩,h2⟩:=hc;have ho:=beq_true ho;subst ho;exact⟨_,us,rfl,⟨b,hb _ _ (s5 h' _ _ (jb yB).2) _ h1,rfl⟩,xD h' h2 hb⟩
 |[],_::_,_,_,_,h,_,_=>by cases h
 |_::_,[],_,_,_,h,_,_=>by cases h
def ME{s:SS}{d:aC}{bs fK:Bs}{vs:List jL}(h:JR ob s d bs=aa (vs,fK)):AV bs fK:=by
 unfold JR at h;split at h
 .obtain⟨_,h⟩:=aP h;exact vG h
 .obtain⟨_,h⟩:=aP h
  split at h<;>cases h
  rename_i hb;exact(jb hb).1
 .split at h<;>cases h
  exact λ_ _ h=>h
 .cases h
  exact λ_ _ h=>h
 .obtain⟨_,h'⟩:=aP h
  grind [s5]
 .cases h
def MF{s:SS}{d:aC}{bs fK:Bs}{vs:List jL}(h:Hb ob s d bs=aa (vs,fK)):AV bs fK:=by
 induction s generalizing d with
 |ifc T s ih=>
  cases d with
  |ifc T' d'=>
   obtain⟨_,h'⟩:=aP (show(bif agu T T' then Hb ob s d' bs else ae)=aa (vs,fK)from h);exact ih h'
  |_=>cases h
 |_=>exact ME h
def MG(hs:aI U H F w ob n){s:SS}{d:aC}{bs fK:Bs}{vs:List jL}{v:Value}(h:JR ob s d bs=aa (vs,fK))(hd:aB H F w d v)(hb:nO H H' fK)(rest:List jL):
 aB H' F w (ed s (vs++rest)).1 v/\(ed s (vs++rest)).2=rest:=by
 unfold JR at h;split at h
 .rename_i agg sh dZ t;obtain⟨ha,h'⟩:=aP h;clear h
  have:agg=dZ:=by cases agg<;>cases dZ<;>simp_all
  subst this;obtain⟨cs,h1,h2⟩:=hd;obtain⟨k1,k2⟩:=yW hs h' h1 hb rest;exact⟨⟨cs,k1,h2⟩,k2⟩
 .rename_i j p off o p' dK;obtain⟨ho,h'⟩:=aP h;clear h
  split at h'<;>cases h'
  rename_i yB;obtain⟨b,h1,h2⟩:=hd;refine⟨⟨b,hb _ _ (jb yB).2 _ h1,?_⟩,rfl⟩
  simp_all
 .rename_i r s x
  split at h<;>cases h
  rename_i Ap;obtain rfl:=Row.eq_of_beq Ap;refine⟨?_,rfl⟩
  show aB H' F w (bif s.beq s then aC.at s x else .dead) v
  rw[Row.beq_refl,cond_true];exact hd
 .cases h;exact⟨hd,rfl⟩
 .rename_i f js f' cs;obtain⟨hf,h'⟩:=aP h
  split at h'<;>cases h'
  rename_i yB;obtain⟨us,h1,h2⟩:=hd;refine⟨⟨us,?_,xD yB h2 hb⟩,rfl⟩
  simp_all
 .cases h
def MH(hs:aI U H F w ob n){s:SS}{d:aC}{bs fK:Bs}{vs:List jL}{v:Value}(h:Hb ob s d bs=aa (vs,fK))(hd:aB H F w d v)(hb:nO H H' fK)(rest:List jL):
 aB H' F w (ed s (vs++rest)).1 v/\(ed s (vs++rest)).2=rest:=by
 induction s generalizing d v with
 |ifc T s ih=>
  cases d with
  |ifc T' d'=>
   obtain⟨hT,h'⟩:=aP (show(bif agu T T' then Hb ob s d' bs else ae)=aa (vs,fK)from h);obtain⟨u,e,h2⟩:=hd;obtain⟨k1,k2⟩:=ih h' h2;exact⟨⟨u,by simp_all,k1⟩,k2⟩
  |_=>cases h
 |_=>exact MG hs h hd hb rest
def JU:{l:List (Nat×SS)}->{aD:List (Nat×aC)}->{bs fK:Bs}->{vs:List jL}->Q7 ob aD l bs=aa (vs,fK)->AV bs fK
 |[],_,_,_,_,h=>by cases h;exact λ_ _ h=>h
 |(t,s)::l,aD,bs,fK,vs,h=>by
  unfold Q7 at h;split at h
  case h_2=>cases h
  split at h
  case h_2=>cases h
  rename_i h1;split at h
  case h_2=>cases h
  rename_i h2;cases h
  exact λj v hj=>JU h2 j v (MF h1 j v hj)
def JV(hs:aI U H F w ob n){aD:List (Nat×aC)}{ρ:Nat->Value}(gE:∀t d,find aD t=aa d->aB H F w d (ρ t)):{l:List (Nat×SS)}->{bs fK:Bs}->{vs:List jL}->Q7 ob aD l bs=aa (vs,fK)->nO H H' fK->∀rest,
 (∀t d,find (cS l (vs++rest)).1 t=aa d->aB H' F w d (ρ t))/\(cS l (vs++rest)).2=rest
 |[],bs,fK,vs,h,_,rest=>by cases h;exact⟨λ_ _ h=>(by cases h),rfl⟩
 |(t,s)::l,bs,fK,vs,h,hb,rest=>by
  unfold Q7 at h;split at h
  case h_2=>cases h
  rename_i d hd;split at h
  case h_2=>cases h
  rename_i VQ DB h1;split at h
  case h_2=>cases h
  rename_i us Fc h2;cases h
  have IF:nO H H' DB:=λj v hj=>hb j v (JU h2 j v hj)
  obtain⟨k1,k2⟩:=MH hs h1 (gE t d hd) IF (us++rest);obtain⟨m1,m2⟩:=JV hs gE h2 hb rest
  grind [cS,aS]
end
end Go.Proofs.YtfeahmiobbjklaaGreatDoor
namespace Go.Proofs.YtfeahmiobbjklaaGreatDoor
open Go Go.RowKit
def Tree.owns:Tree->List Nat
 | .own o=>[o]
 | .pair a b=>a.owns++b.owns
 | .view o _ _ _=>[o]
 |_=>[]
def AW:Sh->Tree->List Nat
 | .leaf _,t=>t.owns
 | .pair a b,t=>match t.split with
   |some (x,y)=>AW a x++AW b y
   |none=>[]
 |_,_=>[]
def Fe(aD:List (Nat×aC)):List (Nat×SS)->List Nat
 |[]=>[]
 |(t, .val _ sh)::l=>(match find aD t with
  |some (.val _ tr)=>AW sh tr
  |_=>[])++Fe aD l
 |(t, .ifc _ (.val _ sh))::l=>(match find aD t with
  |some (.ifc _ (.val _ tr))=>AW sh tr
  |_=>[])++Fe aD l
 |_::l=>Fe aD l
def N5(j:Nat):List (Nat×List Bool×Nat)->List (Nat×List Bool×Nat)->Option Nat
 |(j',_)::js,(o,_)::cs=>bif agu j' j then aa o else N5 j js cs
 |_,_=>ae
def AX(aD:List (Nat×aC))(j:Nat):List (Nat×SS)->Option Nat
 |[]=>ae
 |(t, .ptr j' _ _)::l=>bif agu j' j then(match find aD t with
  |some (.ptr o _ _)=>aa o
  |_=>ae)else AX aD j l
 |(t, .ifc _ (.ptr j' _ _))::l=>bif agu j' j then(match find aD t with
  |some (.ifc _ (.ptr o _ _))=>aa o
  |_=>ae)else AX aD j l
 |(t, .fn _ js)::l=>match(match find aD t with
    |some (.fn _ cs)=>N5 j js cs
    |_=>ae)with
  |some o=>aa o
  |none=>AX aD j l
 |_::l=>AX aD j l
def JW(nb:Nat)(aD:List (Nat×aC))(ss:List (Nat×SS))(objs:List (Nat×(Nat×Th))):List (Nat×OS)->List Nat
 |[]=>[]
 |(j, .box _ sh)::l=>(match(bif agW j nb then aa j else AX aD j ss)with
  |some o=>(match find objs o with
   |some (_, .box _ tr)=>AW sh tr
   |_=>[])
  |none=>[])++JW nb aD ss objs l
 |_::l=>JW nb aD ss objs l
def VS(nb:Nat):List (Nat×OS)->Bs
 |[]=>[]
 |(j,_)::l=>bif agW j nb then(j,aa j)::VS nb l else VS nb l
def gM:Bs->List Nat
 |[]=>[]
 |(_,aa o)::l=>o::gM l
 |(_,ae)::l=>gM l
def oq(o:Nat)(l:List Nat):Bool:=l.any (agu o)
def DC:List Nat->Bool
 |[]=>af
 |o::l=> !oq o l&&DC l
def JX(nb nxt:Nat):Bs->Bool
 |[]=>af
 |(j,u)::l=>(bif agW j nb then DA u (aa j)else agW j nxt)&&JX nb nxt l
def DD(objs:List (Nat×(Nat×Th)))(AY:List Nat):List (Nat×(Nat×Th))->Bool
 |[]=>af
 |(o,(s,t))::l=>(match find objs o with
  |some (s',t')=>agu s s'&&(bif eT t then eT t' else !eT t')
  |none=>ag)&& !oq o AY&&DD objs AY l
def xE(nb:Nat)(J:JS)(aD:List (Nat×aC))(objs:List (Nat×(Nat×Th))):List Nat:=Fe aD J.aD++JW nb aD J.aD objs J.objs
def xF(nb:Nat)(frame:List (Nat×(Nat×Th)))(J:JS)(aD:List (Nat×aC))(objs:List (Nat×(Nat×Th))):Option (cV J.rows×Bs×List (Nat×(Nat×Th))):=
 match fy objs (xE nb J aD objs)with
 |none=>ae
 |some aT=>match Q7 (find aT) aD J.aD (VS nb J.objs)with
  |none=>ae
  |some (vs,DB)=>match Q8 (find aT) J.objs DB with
   |none=>ae
   |some (us,Fc)=>bif DC (gM Fc)&&JX nb J.nxt Fc&&Nat.ble (nb+J.objs.length) J.nxt&&DD aT (gM Fc) frame then
     (match AU J.rows (vs++us)with
     |some x=>aa (x,Fc,aT)
     |none=>ae)else ae
def rS:List (Nat×(Nat×Th))->Nat->Option Th
 |[],_=>ae
 |(_,(s,t))::l,m=>bif agu s m then aa t else rS l m
def O5:List (Nat×(Nat×Th))->Nat->Option Nat
 |[],_=>ae
 |(j,(s,_))::l,m=>bif agu s m then aa j else O5 l m
def vH(H:aG)(ob:Nat->Option (Nat×Th)):Option (Option Nat)->Nat->Prop
 |some (aa o)=>match ob o with
  |some (s,_)=>H.sub s
  |none=>λ_=>False
 |_=>λ_=>False
def dU(H:aG)(nb:Nat)(bs:Bs)(cons:List (Nat×(Nat×Th)))(ob:Nat->Option (Nat×Th)):aG where
 val m:=if m<nb then H.val m else match find bs m with
  |some u=>valOf H u
  |none=>ae
 con m:=if m<nb then H.con m else rS cons m
 sub m:=if m<nb then H.sub m else match O5 cons m with
  |some j=>vH H ob (find bs j)
  |none=>λ_=>False
section
variable {U:Nat->Prop} {H H':aG} {F:Nat->Prop} {w:World} {n:Nat} {ob:Nat->Option (Nat×Th)}
def Ff{j:Nat}{s:OS}{bs fK:Bs}{vs:List jL}(h:JT ob j s bs=aa (vs,fK)):AV bs fK:=by
 unfold JT at h;split at h
 .split at h
  case h_2=>cases h
  split at h
  .obtain⟨_,h'⟩:=aP h
   split at h'<;>cases h'
   exact λ_ _ h=>h
  .obtain⟨_,h'⟩:=aP h;exact vG h'
  .obtain⟨_,h'⟩:=aP h
   split at h'<;>cases h'
   exact λ_ _ h=>h
  .obtain⟨_,h'⟩:=aP h;cases h'
   exact λ_ _ h=>h
  .obtain⟨_,h'⟩:=aP h;cases h'
   exact λ_ _ h=>h
  .obtain⟨_,h'⟩:=aP h
   split at h'<;>cases h'
   rename_i yB;exact(jb yB).1
  .cases h
 .split at h<;>cases h
  .exact λ_ _ h=>h
  .exact λ_ _ h=>h
 .cases h
def yX:{l:List (Nat×OS)}->{bs fK:Bs}->{vs:List jL}->Q8 ob l bs=aa (vs,fK)->AV bs fK
 |[],_,_,_,h=>by cases h;exact λ_ _ h=>h
 |(j,s)::l,bs,fK,vs,h=>by
  unfold Q8 at h;split at h
  case h_2=>cases h
  rename_i h1;split at h
  case h_2=>cases h
  rename_i h2;cases h
  exact λj v hj=>yX h2 j v (Ff h1 j v hj)
def kR(H H':aG)(F:Nat->Prop)(w:World)(ob:Nat->Option (Nat×Th))(bs:Bs)(j:Nat)(t:Th):Prop:=
 ∃u v,find bs j=aa u/\valOf H u=aa v/\v.oneCell'=af/\t.base=t/\gX H' F w (vH H ob (find bs j)) v t/\∀k,fp (vH H ob (find bs j)) v t k->∃o s0 t0,u=aa o/\ob o=aa (s0,t0)/\H.val o=aa v/\fp (H.sub s0) v t0 k
def MI(hs:aI U H F w ob n){j:Nat}{s:OS}{bs fK:Bs}{vs:List jL}(h:JT ob j s bs=aa (vs,fK))(hb:nO H H' fK)(rest:List jL):
 kR H H' F w ob bs j (c9 s (vs++rest)).1/\(c9 s (vs++rest)).2=rest:=by
 unfold JT at h;split at h
 .rename_i o Q9;split at h
  case h_2=>cases h
  rename_i s0 t0 cA;obtain⟨v,hv,cL⟩:=hs.obj _ _ _ cA
  have gZ:vH H ob (find bs j)=H.sub s0:=by rw[Q9];simp[vH,cA]
  have mk:∀t,t.base=t->gX H' F w (H.sub s0) v t->(∀k,fp (H.sub s0) v t k->fp (H.sub s0) v t0 k)->kR H H' F w ob bs j t:=by
   intro t hb mE hf;refine⟨aa o,v,Q9,hv,cL.one,hb,by grind,λk hk=>?_⟩;rw[gZ]at hk;exact⟨o,_,_,rfl,cA,hv,hf k hk⟩
  split at h
  .rename_i T r T' r' l;obtain⟨hT,h'⟩:=aP h;clear h
   split at h'<;>cases h'
   rename_i Ap;obtain rfl:=Row.eq_of_beq Ap;obtain rfl:=beq_true hT;refine⟨?_,rfl⟩
   show kR H H' F w ob bs j (bif r'.beq r' then Th.own T r' l else .own T r' [])
   rw[Row.beq_refl,cond_true]
   exact mk _ rfl cL.ok λk hk=>hk
  .rename_i T sh T' t;obtain⟨hT,h'⟩:=aP h;clear h;obtain rfl:=beq_true hT;obtain⟨b,es,e,h1,h2⟩:=cL.ok;obtain⟨k1,k2⟩:=yW hs h' h2 hb rest;exact⟨mk _ rfl ⟨b,es,e,h1,k1⟩ λk hk=>hk,k2⟩
  .rename_i T K agg V T' K' dZ V' l;obtain⟨hT,h'⟩:=aP h;clear h
   split at h'<;>cases h'
   rename_i Ap;obtain⟨O6,ha⟩:=ct hT;clear hT
   have ha:agg=dZ:=by cases agg<;>cases dZ<;>simp_all
   subst ha;obtain⟨hK,hV⟩:=Ap;obtain rfl:=Row.eq_of_beq hK;obtain rfl:=Row.eq_of_beq hV;obtain rfl:=beq_true O6;refine⟨?_,rfl⟩
   show kR H H' F w ob bs j (if h:K'.beq K'=af/\V'.beq V'=af then Th.map T K' agg V' l else .map T K' agg V' [])
   rw[dif_pos ⟨Row.beq_refl _,Row.beq_refl _⟩];obtain⟨b,es,clock,e,h1,h2,h3⟩:=cL.ok
   exact mk _ rfl ⟨b,es,clock,e,h1,h2,h3.gj⟩ λk hk=>hk
  .rename_i T d T' d' l;obtain⟨hT,h'⟩:=aP h;clear h;obtain⟨O6,hd⟩:=ct hT;obtain rfl:=DR.eq_of_beq hd;obtain rfl:=beq_true O6;cases h';refine⟨?_,rfl⟩
   show kR H H' F w ob bs j (if h:d'.row.beq d'.row=af then Th.deep T d' l ae else .deep T d' [] ae)
   rw[dif_pos (Row.beq_refl _)]
   exact mk _ rfl cL.ok λk hk=>hk
  .rename_i T K agg V T' K' dZ V' l it;obtain⟨hT,h'⟩:=aP h;clear h;obtain⟨hT,hd⟩:=ct hT;obtain⟨hT,ul⟩:=ct hT;obtain⟨O6,ha⟩:=ct hT
   have ha:agg=dZ:=by cases agg<;>cases dZ<;>simp_all
   subst ha;obtain rfl:=Row.eq_of_beq hd;obtain rfl:=Row.eq_of_beq ul;obtain rfl:=beq_true O6;cases h';refine⟨?_,rfl⟩
   show kR H H' F w ob bs j (Th.smap T K' agg V' ((pt K' V' ⟨.slice (.pair K' V'),l⟩).getD []) ae)
   rw[sY];obtain⟨b,es,clock,l',e,h0,h1,h2,h3,h4,_⟩:=cL.ok
   exact mk _ rfl ⟨b,es,clock,l',e,h0,h1,h2,h3.gj,h4,trivial⟩ λk hk=>hk
  .rename_i T K agg V nj T' K' dZ V' l n' left cur;obtain⟨hT,h'⟩:=aP h;clear h;obtain⟨hT,hd⟩:=ct hT;obtain⟨hT,ul⟩:=ct hT;obtain⟨O6,ha⟩:=ct hT
   have ha:agg=dZ:=by cases agg<;>cases dZ<;>simp_all
   subst ha;obtain rfl:=Row.eq_of_beq hd;obtain rfl:=Row.eq_of_beq ul;obtain rfl:=beq_true O6
   split at h'<;>cases h'
   rename_i yB;refine⟨?_,rfl⟩
   show kR H H' F w ob bs j (Th.smap T K' agg V' ((pt K' V' ⟨.slice (.pair K' V'),l⟩).getD []) (aa (nj,(pt K' V' ⟨.slice (.pair K' V'),left⟩).getD [],ae)))
   rw[sY,sY];obtain⟨b,es,clock,l',e,h0,h1,h2,h3,h4,r,since,seen,last,i1,i2,i3,i4,i5,i6,i7,⟨l2,i8,i9⟩,_⟩:=cL.ok
   exact mk _ rfl ⟨b,es,clock,l',e,h0,h1,h2,h3.gj,h4,r,since,seen,last,i1,i2,hb _ _ (jb yB).2 _ i3,i4,i5,i6,i7,⟨l2,i8.gj,i9⟩,λp hp=>by cases hp⟩ λk hk=>hk
  .cases h
 .rename_i Q9
  split at h<;>cases h
  .rename_i T r;refine⟨?_,rfl⟩
   show kR H H' F w ob bs j (bif r.beq r then Th.own T r []else .own T r [])
   rw[Row.beq_refl,cond_true];refine⟨ae,_,Q9,rfl,rfl,rfl,(lJ.nil 0 F w T r).2,λk hk=>?_⟩;have gD:bF (.slice ae 0 0) k:=hk;simp[bF,agI]at gD
  .rename_i T d;refine⟨?_,rfl⟩
   show kR H H' F w ob bs j (if h:d.row.beq d.row=af then Th.deep T d [] ae else .deep T d [] ae)
   rw[dif_pos (Row.beq_refl _)]
   have gZ:vH H ob (find bs j)=λ_=>False:=by rw[Q9];rfl
   refine⟨ae,_,Q9,rfl,rfl,rfl,?_,λk hk=>?_⟩
   .rw[gZ];exact⟨[],λ_ _=>False,lR.nil F w T d.low,rfl,λi h=>absurd h (by simp),⟨λk=>by simp[bF,agI],λ_ _ _ h=>absurd h (by simp),λ_ _ h=>absurd h (by simp)⟩⟩
   .rw[gZ]at hk;exact hk.elim
 .cases h
theorem AZ:{l:List (Nat×OS)}->{m k:Nat}->{vs:List jL}->m+l.length<=k->rS (gL m l vs) k=ae
 |[],_,_,_,_=>rfl
 |(j,s)::l,m,k,vs,h=>by
  show(bif agu m k then _ else rS (gL (m+1) l _) k)=ae
  rw[List.length_cons]at h
  have:agu m k=ag:=by
   cases hb:agu m k with
   |false=>rfl
   |true=>have:=beq_true hb;omega
  rw[this,cond_false];exact AZ (by omega)
def JY(hs:aI U H F w ob n):{l:List (Nat×OS)}->{bs fK:Bs}->{vs:List jL}->Q8 ob l bs=aa (vs,fK)->nO H H' fK->∀m,
 ∀j s t,find (gL m l vs) j=aa (s,t)->m<=s/\s<m+l.length/\rS (gL m l vs) s=aa t/\O5 (gL m l vs) s=aa j/\kR H H' F w ob fK j t
 |[],_,_,_,h,_,m=>by cases h;intro j s t h;cases h
 |(j0,s0)::l,bs,fK,vs,h,hb,m=>by
  unfold Q8 at h;split at h
  case h_2=>cases h
  rename_i VQ DB h1;split at h
  case h_2=>cases h
  rename_i us Fc h2;cases h
  have IF:nO H H' DB:=λj v hj=>hb j v (yX h2 j v hj)
  obtain⟨⟨u,v,g1,g2⟩,k2⟩:=MI hs h1 IF us;intro j s t hf;unfold gL at hf⊢;rw[aS]at hf;rw[k2]at hf⊢;split at hf
  .rename_i e;subst e;simp only[agz,Prod.mk.injEq]at hf;obtain⟨rfl,rfl⟩:=hf;have e1:=yX h2 _ _ (Ff h1 _ _ g1);rw[g1]at g2;refine⟨agt _,by simp,?_,?_,u,v,e1,?_⟩
   .show(bif agu m m then _ else _)=_
    simp
   .show(bif agu m m then _ else _)=_
    simp
   grind
  .obtain⟨a1,a2,a3,a4,a5⟩:=JY hs h2 hb (m+1) j s t hf
   have:agu m s=ag:=by
    cases hb:agu m s with
    |false=>rfl
    |true=>have:=beq_true hb;omega
   refine⟨by omega,by grind,?_,?_,a5⟩
   .show(bif agu m s then _ else _)=_
    grind
   .show(bif agu m s then _ else _)=_
    grind
theorem fi{o:Nat}{l:List Nat}:oq o l=af↔o∈l:=any_beq
theorem jt:{bs:Bs}->{j o:Nat}->find bs j=aa (aa o)->o∈gM bs
 |[],_,_,h=>by cases h
 |(i,u)::bs,j,o,h=>by
  rw[aS]at h;split at h
  .obtain rfl:=agq h;exact List.mem_cons_self
  .have:=jt h
   cases u with
   |none=>exact this
   |some q=>exact List.mem_cons_of_mem _ this
def s7:{bs:Bs}->DC (gM bs)=af->{j j' o:Nat}->find bs j=aa (aa o)->find bs j'=aa (aa o)->j=j'
 |[],_,_,_,_,h,_=>by cases h
 |(i,u)::bs,hn,j,j',o,h,h'=>by
  rw[aS]at h h'
  cases u with
  |none=>
   split at h
   .cases h
   .split at h'
    .cases h'
    .exact s7 (bs:=bs) hn h h'
  |some q=>
   obtain⟨hq,Ji⟩:=ct hn
   have hq:q∉gM bs:=λe=>by rw[fi.2 e]at hq;cases hq
   split at h
   .grind [jt]
   .split at h'
    .grind [jt]
    .exact s7 Ji h h'
def vI{nb nxt:Nat}:{bs:Bs}->JX nb nxt bs=af->{j:Nat}->{u:Option Nat}->find bs j=aa u->(j<nb->u=aa j)/\(nb<=j->j<nxt)
 |[],_,_,_,h=>by cases h
 |(i,v)::bs,hk,j,u,h=>by
  obtain⟨h1,h2⟩:=ct hk;rw[aS]at h;split at h
  .rename_i e;subst e;obtain rfl:=agq h
   cases hb:agW i nb with
   |true=>
    rw[hb,cond_true]at h1
    have:i<nb:=by simpa using hb
    grind [xC]
   |false=>
    rw[hb,cond_false]at h1
    have hge:¬i<nb:=λe=>by have:agW i nb=af:=by simpa using e
                           grind
    exact⟨λe=>absurd e hge,λ_=>by simpa using h1⟩
  .exact vI h2 h
def xG{objs:List (Nat×(Nat×Th))}{AY:List Nat}:{fr:List (Nat×(Nat×Th))}->DD objs AY fr=af->{o s:Nat}->{t:Th}->find fr o=aa (s,t)->
 o∉AY/\∃t',find objs o=aa (s,t')/\eT t'=eT t
 |[],_,_,_,_,h=>by cases h
 |(i,(s0,t0))::fr,hf,o,s,t,h=>by
  obtain⟨h1,h2⟩:=ct hf;obtain⟨h1,h3⟩:=ct h1;rw[aS]at h;split at h
  .rename_i e;subst e;simp only[agz,Prod.mk.injEq]at h;obtain⟨rfl,rfl⟩:=h;split at h1
   .rename_i s' t' ho;obtain⟨h4,h5⟩:=ct h1
    grind [beq_true,fi]
   .cases h1
  .exact xG h2 h
def JZ{t t':Th}(h:t.base=t'.base)(hf:eT t=eT t'):t=t':=by
 cases t<;>cases t'<;>simp_all[Th.base,eT]
def vJ{U':Nat->Prop}{H0:aG}{F0:Nat->Prop}{w0:World}{objs0:List (Nat×(Nat×Th))}{nb:Nat}{ns:List Nat}{J:JS}{aD:List (Nat×aC)}{objs aT:List (Nat×(Nat×Th))}{x:cV J.rows}{bs:Bs}{ρ:Nat->Value}
 (h:xF nb (del ns objs0) J aD objs=aa (x,bs,aT))(MJ:aI U H0 F0 w0 (find objs0) nb)(N6:gY H0 nb)(hk:cg H0 F0 w0 H F w)(hs:aI U H F w (find objs) n)(gE:∀t d,find aD t=aa d->aB H F w d (ρ t)):
 ∃F1 H1,aI U H F1 w (find aT) n/\(∀b,F b->F1 b)/\(∀b,F1 b->F b\/bX H (find objs) (xE nb J aD objs) b)/\fy objs (xE nb J aD objs)=aa aT/\H0.le H1/\nO H H1 bs/\gY H1 J.nxt/\
  (∀t d,find (cS J.aD (c7 J.rows x)).1 t=aa d->aB H1 F1 w d (ρ t))/\
  ((∀b,w.heap.size<=b->U' b)->(∀o s t v k,o∈gM bs->find aT o=aa (s,t)->H.val o=aa v->fp (H.sub s) v t k->U' k)->(∀o s t v k,find (del ns objs0) o=aa (s,t)->H.val o=aa v->fp (H.sub s) v t k->U' k)->
    aI U' H1 F1 w (find (gL nb J.objs (cS J.aD (c7 J.rows x)).2++del ns objs0)) J.nxt):=by
 unfold xF at h;split at h
 case h_1=>cases h
 rename_i VT wV;split at h
 case h_1=>cases h
 rename_i vs DB hS;split at h
 case h_1=>cases h
 rename_i us Fc hO;obtain⟨hc,h'⟩:=aP h;clear h;split at h'
 case h_2=>cases h'
 rename_i x' hx;cases h';obtain⟨hc,QZ⟩:=ct hc;obtain⟨hc,JD⟩:=ct hc;obtain⟨xl,Ag⟩:=ct hc
 have JD:nb+J.objs.length<=J.nxt:=by simpa using JD
 obtain⟨F1,uO,Ah,LW⟩:=nN wV hs
 have gx:Step F w F1 w:=λb hb=>⟨Ah b hb,rfl⟩
 have VU:∀t d,find aD t=aa d->aB H F1 w d (ρ t):=λt d hd=>(gE t d hd).keep (aG.le.refl H) gx
 rw[tN hx]
 have J0:∃cons,cons=gL nb J.objs us:=⟨_,rfl⟩
 obtain⟨cons,Fg⟩:=J0
 have A0:H0.le (dU H nb bs cons (find aT)):=by
  have bi:∀s t,H0.con s=aa t->s<nb:=λs t gx=>by
   rcases Nat.lt_or_ge s nb with h|h
   .exact h
   .rw[(N6 s h).2]at gx;cases gx
  refine⟨λo v ho=>?_,λs t gx=>?_,λs t gx=>?_⟩
  .have:o<nb:=by
    rcases Nat.lt_or_ge o nb with h|h
    .exact h
    .rw[(N6 o h).1]at ho;cases ho
   simp[dU,this,hk.gj.val _ _ ho]
  .simp[dU,bi s t gx,hk.gj.con _ _ gx]
  .simp[dU,bi s t gx,hk.gj.sub _ _ gx]
 have s8:nO H (dU H nb bs cons (find aT)) bs:=by
  intro j u hj v hv;obtain⟨a1,a2⟩:=vI Ag hj;by_cases bi:j<nb
  .grind [dU,valOf]
  .simpa[dU,bi,hj]using hv
 have MK:nO H (dU H nb bs cons (find aT)) DB:=λj v hj=>s8 j v (yX hO j v hj)
 obtain⟨p1,p2⟩:=JV uO VU hS MK us
 have Fh:gY (dU H nb bs cons (find aT)) J.nxt:=λm hm=>by
  have ZM:¬m<nb:=by omega
  refine⟨?_,?_⟩
  .simp only[dU,ai ZM];split
   .rename_i u hu;have:=(vI Ag hu).2 (by omega);omega
   .rfl
  grind [dU,AZ]
 refine⟨F1,dU H nb bs cons (find aT),uO,Ah,LW,wV,A0,s8,Fh,p1,λhU1 hU2 hU3=>?_⟩;rw[p2,<-Fg];have RT:=JY (H':=dU H nb bs cons (find aT)) uO hO s8 nb;rw[<-Fg]at RT
 have part:∀o s t,find (cons++del ns objs0) o=aa (s,t)->find cons o=aa (s,t)\/find (del ns objs0) o=aa (s,t):=by
  intro o s t ho;rw[gV]at ho
  cases hm:find cons o with
  |some y=>grind
  |none=>grind
 have yF:∀o s t,find (del ns objs0) o=aa (s,t)->o∉gM bs/\find aT o=aa (s,t)/\∃v,H.val o=aa v/\(dU H nb bs cons (find aT)).val o=aa v/\v.oneCell'=af/\(dU H nb bs cons (find aT)).con s=aa t.base/\(dU H nb bs cons (find aT)).sub s=H.sub s/\gX (dU H nb bs cons (find aT)) F1 w (H.sub s) v t:=by
  intro o s t ho;obtain⟨q1,t',q2,q3⟩:=xG QZ ho;have ho0:=(gW.1 ho).2;obtain⟨v0,GU,DE⟩:=MJ.obj _ _ _ ho0;obtain⟨v1,ry,o6⟩:=uO.obj _ _ _ q2;have e1:=hk.gj.val _ _ GU;rw[ry]at e1;obtain rfl:=agq e1;have e2:=hk.gj.con _ _ DE.con;rw[o6.con]at e2;have ht:=JZ (agq e2) q3;subst ht;refine⟨q1,q2,v1,ry,A0.val _ _ GU,o6.one,A0.con _ _ DE.con,(A0.sub _ _ DE.con).trans (hk.gj.sub _ _ DE.con).symm,?_⟩
  cases t' with
  |fdeep T d l=>exact o6.ok
  |deep T d l hh=>
   obtain⟨lh0,_,_,e0,r0,_⟩:=DE.ok
   refine GC.mono (show GC F1 w T d.low _ v1 l (H.sub s)from o6.ok) (Step.refl F1 w) (λ_ _=>rfl) λi x' hi A hA hr=>?_
   cases hh with
   |none=>exact hr
   |some h=>
    refine⟨hr.1,λhh=>?_⟩;obtain⟨T',e,q,g1,g2,g3⟩:=hr.2 hh;obtain⟨_,_,q0,_,_,k3⟩:=(r0 i (by omega) hi).2 hh;have e3:=hk.gj.val _ _ k3;rw[g3]at e3;exact⟨T',e,q,g1,g2,by rw[agq e3];exact A0.val _ _ k3⟩
  |box T tr=>
   obtain⟨b,es,e,g1,g2⟩:=o6.ok;obtain⟨b',lK,e',Vk,g2'⟩:=DE.ok;exact⟨b,es,e,g1,Holds.back hk.gj A0 g2' g2⟩
  |own T r l=>exact o6.ok
  |um T r l=>exact o6.ok
  |fmap T K agg V l=>exact o6.ok
  |smap T K agg V l it=>
   obtain⟨b,es,clock,l',e,g0,g1,g2,g3,g4,g5⟩:=o6.ok;obtain⟨_,_,_,_,_,_,_,_,_,_,r5⟩:=DE.ok;refine⟨b,es,clock,l',e,g0,g1,g2,g3.gj,g4,g5.gj λn' x u e hu=>?_⟩;subst e;obtain⟨_,_,_,_,_,_,UD,_⟩:=r5;have e3:=hk.gj.val _ _ UD;rw[hu]at e3;rw[agq e3];exact A0.val _ _ UD
  |map T K agg V l=>
   obtain⟨b,es,clock,e,g1,g2,g3⟩:=o6.ok;exact⟨b,es,clock,e,g1,g2,g3.gj⟩
 have RV:∀o s t,find cons o=aa (s,t)->∃v,(dU H nb bs cons (find aT)).val o=aa v/\v.oneCell'=af/\(dU H nb bs cons (find aT)).con s=aa t.base/\gX (dU H nb bs cons (find aT)) F1 w ((dU H nb bs cons (find aT)).sub s) v t/\
  ∀k,fp ((dU H nb bs cons (find aT)).sub s) v t k->∃o' s0 t0,find bs o=aa (aa o')/\find aT o'=aa (s0,t0)/\H.val o'=aa v/\fp (H.sub s0) v t0 k:=by
  intro o s t ho;obtain⟨a1,a2,a3,a4,u,v,b1,b2,b3,b4,b5,b6⟩:=RT o s t ho
  have gZ:(dU H nb bs cons (find aT)).sub s=vH H (find aT) (find bs o):=by
   simp only[dU];rw[ai (by omega),a4]
  rw[gZ];refine⟨v,s8 o u b1 v b2,b3,?_,b5,λk hk=>?_⟩
  .grind [dU]
  .grind
 refine⟨λo s t ho=>?_,λo o' s s' t t' v v' dJ ho lD hv dX k hk gD=>?_,λm hm _=>Fh m hm,uO.lt,hU1,uO.gl⟩
 .rcases part o s t ho with h1|h1
  .obtain⟨v,a1,a2,a3,a4,a5⟩:=RV o s t h1
   refine⟨v,a1,a2,a3,a4,λk hk hF=>?_,λk hk=>?_,λk hk=>?_⟩<;>obtain⟨o',s0,t0,b1,b2,b3,b4⟩:=a5 k hk<;>obtain⟨v',dX,cL⟩:=uO.obj _ _ _ b2
   all_goals
    rw[b3]at dX;obtain rfl:=agq dX
   .exact cL.no k b4 hF
   .exact cL.lt k b4
   grind [jt]
  .obtain⟨q1,q2,v,a1,a2,a3,a4,a6,a5⟩:=yF o s t h1;obtain⟨v',dX,cL⟩:=uO.obj _ _ _ q2;rw[a1]at dX;obtain rfl:=agq dX;exact⟨v,a2,a3,a4,by rw[a6];exact a5,by rw[a6];exact cL.no,by rw[a6];exact cL.lt,(by grind)⟩
 .rcases part o s t ho with h1|h1<;>rcases part o' s' t' lD with h2|h2
  .obtain⟨u,a1,_,_,_,a5⟩:=RV o s t h1;obtain⟨u',c1,_,_,_,c5⟩:=RV o' s' t' h2;rw[hv]at a1;rw[dX]at c1;obtain rfl:=agq a1;obtain rfl:=agq c1;obtain⟨p,s0,t0,d1,d2,d3,d4⟩:=a5 k hk;obtain⟨p',s0',t0',e1,e2,e3,e4⟩:=c5 k gD;refine uO.apart p p' _ _ _ _ _ _ (λe=>dJ ?_) d2 e2 d3 e3 k d4 e4;subst e;exact s7 xl d1 e1
  .obtain⟨u,a1,_,_,_,a5⟩:=RV o s t h1;obtain⟨q1,q2,u',c1,c2,_,_,c6,_⟩:=yF o' s' t' h2;rw[c6]at gD;rw[hv]at a1;rw[dX]at c2;obtain rfl:=agq a1;obtain rfl:=agq c2;obtain⟨p,s0,t0,d1,d2,d3,d4⟩:=a5 k hk;exact uO.apart p o' _ _ _ _ _ _ (λe=>q1 (e▸jt d1)) d2 q2 d3 c1 k d4 gD
  .obtain⟨u,a1,_,_,_,a5⟩:=RV o' s' t' h2;obtain⟨q1,q2,u',c1,c2,_,_,c6,_⟩:=yF o s t h1;rw[c6]at hk;rw[dX]at a1;rw[hv]at c2;obtain rfl:=agq a1;obtain rfl:=agq c2;obtain⟨p,s0,t0,d1,d2,d3,d4⟩:=a5 k gD;exact uO.apart o p _ _ _ _ _ _ (λe=>q1 (e▸jt d1)) q2 d2 c1 d3 k hk d4
  .obtain⟨q1,q2,u,c1,c2,_,_,c6,_⟩:=yF o s t h1;obtain⟨q1',q2',u',c1',Z7,_,_,c6',_⟩:=yF o' s' t' h2;rw[c6]at hk;rw[c6']at gD;rw[hv]at c2;rw[dX]at Z7;obtain rfl:=agq c2;obtain rfl:=agq Z7;exact uO.apart o o' _ _ _ _ _ _ dJ q2 q2' c1 c1' k hk gD
end
end Go.Proofs.YtfeahmiobbjklaaGreatDoor
end
namespace Go.Proofs.YtfeahmiobbjklaaGreatDoor
open Go Go.RowKit
set_option maxRecDepth 100000
set_option linter.unusedSimpArgs false
set_option linter.unusedVariables false
set_option linter.defProp false
section
structure nP where
 inn:JS
 out:JS
 fn:cV inn.rows->Option (cV out.rows)
def wW:List Value->Value
 |[v]=>v
 |vs=> .tuple vs.toArray
structure fL(P:Program)(f:FuncId)(sg:nP):Prop where
 fn:∃fn,P.funcs[f]? =aa fn/\(fn.name== "runtime.NumGoroutine")=ag/\fn.body.isNone=ag
 ok:∀x y,sg.fn x=aa y->∀(args:List Value)(w:World)(H:aG)(F G:Nat->Prop),args.length=sg.inn.aD.length->
  (∀t d,find (cS sg.inn.aD (c7 _ x)).1 t=aa d->aB H F w d (args.getD t undef))->
  aI (λk=>w.heap.size<=k\/G k) H F w (find (gL 0 sg.inn.objs (cS sg.inn.aD (c7 _ x)).2)) sg.inn.nxt->gY H sg.inn.nxt->(∀k,G k->¬F k)->
  Calls P f args.toArray w λe w'=>∃vs,e= .returned (wW vs)/\vs.length=sg.out.aD.length/\∃H' F',Ext G w w'/\H.le H'/\(∀b,F b->F' b)/\(∀b,F' b->F b\/w.heap.size<=b\/G b)/\
   (∀t d,find (cS sg.out.aD (c7 _ y)).1 t=aa d->aB H' F' w' d (vs.getD t undef))/\
   aI (λk=>w.heap.size<=k\/G k) H' F' w' (find (gL sg.inn.nxt sg.out.objs (cS sg.out.aD (c7 _ y)).2)) sg.out.nxt/\gY H' sg.out.nxt
def Sh.qY(φ:Nat->Nat):Sh->Sh
 | .leaf r=> .leaf r
 | .own j=> .own (φ j)
 | .nil=> .nil
 | .pair a b=> .pair (a.qY φ) (b.qY φ)
 | .junk n=> .junk n
def SS.qY(φ:Nat->Nat):SS->SS
 | .val agg t=> .val agg (t.qY φ)
 | .ptr j p off=> .ptr (φ j) p off
 | .at r=> .at r
 | .undef=> .undef
 | .fn f js=> .fn f (js.map λc=>(φ c.1,c.2))
 | .ifc T s=> .ifc T (s.qY φ)
def OS.qY(φ:Nat->Nat):OS->OS
 | .box T t=> .box T (t.qY φ)
 | .own T r=> .own T r
 | .map T K agg V=> .map T K agg V
 | .deep T d=> .deep T d
 | .smap T K agg V it=> .smap T K agg V (it.map φ)
def rT(φ:Nat->Nat):List (Nat×SS)->List (Nat×SS)
 |[]=>[]
 |(t,s)::l=>(t,s.qY φ)::rT φ l
def A3(φ:Nat->Nat):List (Nat×OS)->List (Nat×OS)
 |[]=>[]
 |(j,s)::l=>(φ j,s.qY φ)::A3 φ l
def Row.A4:Row->Bool
 | .slice _=>ag
 | .map .. =>ag
 | .pair a b=>a.A4&&b.A4
 |_=>af
def DR.iV(p:Row->Bool):DR->Bool
 | .leaf r=>p r
 | .sl _ d=>d.iV p
 | .pair a b=>a.iV p&&b.iV p
def Sh.iV(p:Row->Bool):Sh->Bool
 | .leaf r=>p r
 | .pair a b=>a.iV p&&b.iV p
 |_=>af
def SS.iV(p:Row->Bool):SS->Bool
 | .val _ t=>t.iV p
 | .at r=>p (.slice r)
 | .ifc _ s=>s.iV p
 |_=>af
def OS.iV(p:Row->Bool):OS->Bool
 | .box _ t=>t.iV p
 | .own _ r=>p r
 | .map _ _ _ V=>p V
 | .deep _ d=>d.iV p
 | .smap _ _ _ V _=>p V
def qZ(p:Row->Bool):List (Nat×SS)->Bool
 |[]=>af
 |(_,s)::l=>s.iV p&&qZ p l
def xH(p:Row->Bool):List (Nat×OS)->Bool
 |[]=>af
 |(_,s)::l=>s.iV p&&xH p l
section
variable {H H':aG} {F F':Nat->Prop} {w w':World} {φ:Nat->Nat} {p:Row->Bool}
def cF.DF:{r:Row}->{cs:List Value}->{x:r.den}->r.A4=af->cF F w r cs x->cF F' w' r cs x
 | .int _,_,_,_,h=>h
 | .bool,_,_,_,h=>h
 | .str,_,_,_,h=>h
 | .lE,_,_,_,h=>h
 | .nul _,_,_,_,h=>h
 | .map ..,_,_,hf,_=>by cases hf
 | .slice _,_,_,hf,_=>by cases hf
 | .pair a b,_,_,hf,h=>by
   obtain⟨c1,c2,e,h1,h2⟩:=h;obtain⟨f1,f2⟩:=ct hf;exact⟨c1,c2,e,cF.DF f1 h1,cF.DF f2 h2⟩
def Ren(H H':aG)(φ:Nat->Nat):Prop:=∀j v,H.val j=aa v->H'.val (φ j)=aa v
def tO(p:Row->Bool)(F F':Nat->Prop)(w:World):Prop:=∀r,p r=af->∀cs x,cF F w r cs x->cF F' w r cs x
def pu:(sh:Sh)->(vs:List jL)->(o7 (sh.qY φ) vs).2=(o7 sh vs).2
 | .leaf r,[]=>rfl
 | .leaf r,_::_=>rfl
 | .own j,vs=>rfl
 | .nil,vs=>rfl
 | .pair a b,vs=>by
   show(o7 (b.qY φ) (o7 (a.qY φ) vs).2).2=_
   rw[pu a,pu b];rfl
 | .junk _,_=>rfl
def xI(s:SS)(vs:List jL):(ed (s.qY φ) vs).2=(ed s vs).2:=by
 induction s with
 |ifc T s ih=>exact ih
 |val agg t=>exact pu t vs
 |ptr j p off=>rfl
 |«at» r=>cases vs<;>rfl
 |undef=>rfl
 |fn f js=>rfl
theorem xJ(s:OS)(vs:List jL):(c9 (s.qY φ) vs).2=(c9 s vs).2:=by
 cases s with
 |box T t=>exact pu t vs
 |own T r=>rfl
 |map T K agg V=>rfl
 |deep T d=>rfl
 |smap T K agg V it=>
  cases it with
  |none=>cases vs<;>rfl
  |some n=>match vs with
   |[]=>rfl
   |[_]=>rfl
   |_::_::_=>rfl
def A5:(l:List (Nat×SS))->(vs:List jL)->(cS (rT φ l) vs).2=(cS l vs).2
 |[],_=>rfl
 |(t,s)::l,vs=>by
  show(cS (rT φ l) (ed (s.qY φ) vs).2).2=(cS l (ed s vs).2).2
  rw[xI,A5 l]
def rU(hr:Ren H H' φ)(hm:tO p F F' w):{sh:Sh}->{vs:List jL}->{cs:List Value}->sh.iV p=af->Holds H F w (o7 sh vs).1 cs->Holds H' F' w (o7 (sh.qY φ) vs).1 cs
 | .leaf r,[],cs,_,h=>h
 | .leaf r,⟨s,x⟩::vs,cs,hp,h=>by
   have h':Holds H F w (bif s.beq r then Tree.leaf s x else .nil) cs:=h
   show Holds H' F' w (bif s.beq r then Tree.leaf s x else .nil) cs
   cases hb:s.beq r with
   |true=>
    rw[hb,cond_true]at h';obtain rfl:=Row.eq_of_beq hb;exact hm _ hp _ _ h'
   |false=>rw[hb]at h';exact h'
 | .own j,vs,cs,_,h=>by obtain⟨v,h1,h2⟩:=h;exact⟨v,hr j v h1,h2⟩
 | .nil,vs,cs,_,h=>h
 | .pair a b,vs,cs,hp,h=>by
   obtain⟨c1,c2,e,h1,h2⟩:=h;obtain⟨p1,p2⟩:=ct hp;refine⟨c1,c2,e,rU hr hm p1 h1,?_⟩;rw[pu a];exact rU hr hm p2 h2
 | .junk _,vs,cs,_,h=>h
def kH.qY(hr:Ren H H' φ):{cs:List (Nat×List Bool×Nat)}->{vs:List Value}->kH H cs vs->kH H' (cs.map λc=>(φ c.1,c.2)) vs
 |[],_,h=>h
 |_::_,_,h=>by obtain⟨v,us,e,⟨b,h1,h2⟩,h3⟩:=h;exact⟨v,us,e,⟨b,hr _ _ h1,h2⟩,kH.qY hr h3⟩
theorem Hc(hr:Ren H H' φ)(hm:tO p F F' w){s:SS}{vs:List jL}{v:Value}(hp:s.iV p=af)(h:aB H F w (ed s vs).1 v):aB H' F' w (ed (s.qY φ) vs).1 v:=by
 induction s generalizing v with
 |ifc T s ih=>
  obtain⟨u,e,h2⟩:=h;exact⟨u,e,ih hp h2⟩
 |val agg t=>
  obtain⟨cs,h1,h2⟩:=h;exact⟨cs,rU hr hm hp h1,h2⟩
 |ptr j p off=>
  obtain⟨b,h1,h2⟩:=h;exact⟨b,hr _ _ h1,h2⟩
 |«at» r=>
  match vs,h with
  |[],h=>exact h
  |⟨s,x⟩::vs,h=>
   have h':aB H F w (bif s.beq r then aC.at s x else .dead) v:=h
   show aB H' F' w (bif s.beq r then aC.at s x else .dead) v
   cases hb:s.beq r with
   |false=>trivial
   |true=>
    rw[hb,cond_true]at h';obtain rfl:=Row.eq_of_beq hb;obtain⟨b,off,rfl,hF,es,h1,h2,h3⟩:=h'
    have gE:cF F w (.slice s) [.slice (aa ⟨b,off,ae⟩) 1 1] [x]:=⟨aa ⟨b,off,ae⟩,1,rfl,agt _,by unfold maxLen;omega,λi hi=>by
     have e:i=0:=by simp at hi;omega
     subst e
     grind⟩
    obtain⟨A,cap,e1,_,_,uh⟩:=hm (.slice s) hp _ _ gE;obtain⟨b',dK,lK,hA,g1,g2,g3,g4⟩:=uh 0 (by simp);simp only[ahl,ahH,and_true]at e1;obtain⟨e1,_,_⟩:=e1;rw[<-e1]at hA;simp only[agz,Addr.mk.injEq,and_true]at hA;obtain⟨rfl,rfl⟩:=hA;exact⟨b,off,rfl,g1,lK,g2,(by grind),g4⟩
 |undef=>exact h
 |fn f js=>
  obtain⟨us,h1,h2⟩:=h;exact⟨us,h1,h2.qY hr⟩
def fG.oR{K:Row}{agg:Bool}{V:Row}(hm:∀cs x,cF F w V cs x->cF F' w' V cs x):{es:List MapEntry}->{l:List (K.den×V.den)}->fG H F w K agg V es l->fG H' F' w' K agg V es l
 |[],_,h=>h
 |_::_,_,h=>by
  obtain⟨k,x,l',e,h1,⟨cs,h2,GD⟩,h3⟩:=h;exact⟨k,x,l',e,h1,⟨cs,hm _ _ h2,GD⟩,fG.oR hm h3⟩
def cF.vK(hm:tO p F F' w):{d:DR}->{cs:List Value}->{x:d.low.den}->d.iV p=af->cF F w d.low cs x->cF F' w d.low cs x
 | .leaf r,_,_,hp,h=>hm r hp _ _ h
 | .sl _ _,_,_,_,h=>h
 | .pair a b,_,_,hp,h=>by
   obtain⟨p1,p2⟩:=ct hp;obtain⟨c1,c2,e,h1,h2⟩:=h;exact⟨c1,c2,e,cF.vK hm p1 h1,cF.vK hm p2 h2⟩
def lR.oR(hm:tO p F F' w){d:DR}(hp:d.iV p=af){T:TypeId}{v:Value}{l:List d.low.den}(h:lR F w T d.low v l):lR F' w T d.low v l:=by
 obtain⟨xs,h1,h2⟩:=h;exact⟨xs,h1,λi hi=>cF.vK hm hp (h2 i hi)⟩
def jK.oR(hm:tO p F F' w):{d:DR}->{x':d.low.den}->{x:d.row.den}->{S:Nat->Prop}->d.iV p=af->jK F w d x' x S->jK F' w d x' x S
 | .leaf _,_,_,_,_,h=>h
 | .sl _ d,_,_,_,hp,h=>by
   obtain⟨lh,Ss,h1,h2,h3,h4⟩:=h;exact⟨lh,Ss,h1.oR hm (show d.iV p=af from hp),h2,λi a b=>jK.oR hm (show d.iV p=af from hp) (h3 i a b),h4⟩
 | .pair a b,_,_,_,hp,h=>by
   obtain⟨p1,p2⟩:=ct hp;obtain⟨A,B,h1,h2,h3⟩:=h;exact⟨A,B,jK.oR hm p1 h1,jK.oR hm p2 h2,h3⟩
def DG(T:TypeId)(d:DR):(vs:List jL)->∃l,(c9 (.deep T d) vs).1= .deep T d l ae
 |[]=>⟨[],rfl⟩
 |⟨.slice s,l⟩::vs=>by
  unfold c9;simp only
  split<;>exact⟨_,rfl⟩
 |⟨.int _,_⟩::_|⟨.bool,_⟩::_|⟨.str,_⟩::_|⟨.lE,_⟩::_|⟨.nul _,_⟩::_|⟨.pair _ _,_⟩::_|⟨.map ..,_⟩::_=>⟨[],rfl⟩
def Hd(T:TypeId)(K:Row)(agg:Bool)(V:Row):(vs:List jL)->∃l,(c9 (.map T K agg V) vs).1= .map T K agg V l
 |[]=>⟨[],rfl⟩
 |⟨.slice (.pair K' V'),l⟩::vs=>by
  unfold c9;simp only
  split<;>exact⟨_,rfl⟩
 |⟨.slice (.int _),_⟩::_|⟨.slice .bool,_⟩::_|⟨.slice .str,_⟩::_|⟨.slice (.slice _),_⟩::_|⟨.slice .lE,_⟩::_|⟨.slice (.nul _),_⟩::_|⟨.slice (.map ..),_⟩::_=>⟨[],rfl⟩
 |⟨.int _,_⟩::_|⟨.bool,_⟩::_|⟨.str,_⟩::_|⟨.lE,_⟩::_|⟨.nul _,_⟩::_|⟨.pair _ _,_⟩::_|⟨.map ..,_⟩::_=>⟨[],rfl⟩
def s9(hr:Ren H H' φ)(hm:tO p F F' w){s:OS}{vs:List jL}{S:Nat->Prop}{v:Value}(hp:s.iV p=af)(h:gX H F w S v (c9 s vs).1):
 gX H' F' w S v (c9 (s.qY φ) vs).1/\(c9 (s.qY φ) vs).1.base=(c9 (s.qY φ) vs).1/\(∀k,fp S v (c9 (s.qY φ) vs).1 k->fp S v (c9 s vs).1 k):=by
 have own:∀(T:TypeId)(q:Row)(l:List q.den),p q=af->gX H F w S v (.own T q l)->gX H' F' w S v (.own T q l):=λT q l hq ⟨xs,hx,h3⟩=>⟨xs,hx,λi hi=>hm q hq _ _ (h3 i hi)⟩
 cases s with
 |box T t=>
  obtain⟨b,es,e,h1,h2⟩:=h;exact⟨⟨b,es,e,h1,rU hr hm hp h2⟩,rfl,λk hk=>hk⟩
 |own T r=>
  match vs,h with
  |[],h=>exact⟨own T r [] hp h,rfl,λ_ h=>h⟩
  |⟨.slice s,l⟩::vs,h=>
   have h':gX H F w S v (bif s.beq r then Th.own T s l else .own T r []):=h
   show gX H' F' w S v (bif s.beq r then Th.own T s l else .own T r [])/\Th.base (bif s.beq r then Th.own T s l else .own T r [])=(bif s.beq r then Th.own T s l else .own T r [])/\∀k,fp S v (bif s.beq r then Th.own T s l else .own T r []) k->fp S v (bif s.beq r then Th.own T s l else .own T r []) k
   cases hb:s.beq r with
   |true=>
    rw[hb,cond_true]at h';obtain rfl:=Row.eq_of_beq hb;exact⟨own T s l hp h',rfl,λ_ h=>h⟩
   |false=>
    rw[hb,cond_false]at h';exact⟨own T r [] hp h',rfl,λ_ h=>h⟩
  |⟨.int _,_⟩::vs,h=>exact⟨own T r [] hp h,rfl,λ_ h=>h⟩
  |⟨.bool,_⟩::vs,h=>exact⟨own T r [] hp h,rfl,λ_ h=>h⟩
  |⟨.str,_⟩::vs,h=>exact⟨own T r [] hp h,rfl,λ_ h=>h⟩
  |⟨.lE,_⟩::vs,h=>exact⟨own T r [] hp h,rfl,λ_ h=>h⟩
  |⟨.nul _,_⟩::vs,h=>exact⟨own T r [] hp h,rfl,λ_ h=>h⟩
  |⟨.map ..,_⟩::vs,h=>exact⟨own T r [] hp h,rfl,λ_ h=>h⟩
  |⟨.pair _ _,_⟩::vs,h=>exact⟨own T r [] hp h,rfl,λ_ h=>h⟩
 |map T K agg V=>
  have gen:∀l:List (K.den×V.den),gX H F w S v (.map T K agg V l)->gX H' F' w S v (.map T K agg V l):=by
   rintro l ⟨b,es,clock,e,h1,h2,h3⟩
   exact⟨b,es,clock,e,h1,h2,fG.oR (λcs x hr=>hm V hp cs x hr) h3⟩
  obtain⟨l,hl⟩:=Hd T K agg V vs
  show gX H' F' w S v (c9 (OS.map T K agg V) vs).1/\(c9 (OS.map T K agg V) vs).1.base=(c9 (OS.map T K agg V) vs).1/\∀k,fp S v (c9 (OS.map T K agg V) vs).1 k->fp S v (c9 (OS.map T K agg V) vs).1 k
  rw[hl]at h⊢;exact⟨gen l h,rfl,λ_ h=>h⟩
 |deep T d=>
  obtain⟨l,hl⟩:=DG T d vs
  show gX H' F' w S v (c9 (OS.deep T d) vs).1/\(c9 (OS.deep T d) vs).1.base=(c9 (OS.deep T d) vs).1/\∀k,fp S v (c9 (OS.deep T d) vs).1 k->fp S v (c9 (OS.deep T d) vs).1 k
  rw[hl]at h⊢;refine⟨?_,rfl,λ_ h=>h⟩;have h':jK F w (.sl T d) v l S:=h;exact(jK.oR (d:= .sl T d) hm hp h':jK F' w (.sl T d) v l S)
 |smap T K agg V it=>
  have gen:∀(l:List (K.den×V.den)),gX H F w S v (.smap T K agg V l ae)->gX H' F' w S v (.smap T K agg V l ae):=by
   rintro l ⟨b,es,clock,l',e,h0,h1,h2,h3,h4,_⟩
   exact⟨b,es,clock,l',e,h0,h1,h2,fG.oR (λcs x hr=>hm V hp cs x hr) h3,h4,trivial⟩
  have VV:∀(n:Nat)(l left:List (K.den×V.den)),gX H F w S v (.smap T K agg V l (aa (n,left,ae)))->gX H' F' w S v (.smap T K agg V l (aa (φ n,left,ae))):=by
   rintro n l left ⟨b,es,clock,l',e,h0,h1,h2,h3,h4,r,since,seen,last,i1,i2,i3,i4,i5,i6,i7,⟨l2,i8,i9⟩,_⟩
   exact⟨b,es,clock,l',e,h0,h1,h2,fG.oR (λcs x hr=>hm V hp cs x hr) h3,h4,r,since,seen,last,i1,i2,hr _ _ i3,i4,i5,i6,i7,⟨l2,fG.oR (λcs x hr=>hm V hp cs x hr) i8,i9⟩,λp hp=>by cases hp⟩
  cases it with
  |none=>
   match vs,h with
   |[],h=>exact⟨gen _ h,rfl,λ_ h=>h⟩
   |_::_,h=>exact⟨gen _ h,rfl,λ_ h=>h⟩
  |some n=>
   match vs,h with
   |[],h=>exact⟨gen _ h,rfl,λ_ h=>h⟩
   |[_],h=>exact⟨gen _ h,rfl,λ_ h=>h⟩
   |_::_::_,h=>exact⟨VV _ _ _ h,rfl,λ_ h=>h⟩
theorem xK:{l:List (Nat×SS)}->{vs:List jL}->{t:Nat}->{d:aC}->qZ p l=af->find (cS (rT φ l) vs).1 t=aa d->∃s us,d=(ed (s.qY φ) us).1/\find (cS l vs).1 t=aa (ed s us).1/\s.iV p=af
 |[],_,_,_,_,h=>by cases h
 |(t0,s)::l,vs,t,d,hp,h=>by
  obtain⟨p1,p2⟩:=ct hp;have h':find ((t0,(ed (s.qY φ) vs).1)::(cS (rT φ l) (ed (s.qY φ) vs).2).1) t=aa d:=h
  show∃s' us,d=_/\find ((t0,(ed s vs).1)::(cS l (ed s vs).2).1) t=_/\_
  rw[aS]at h';by_cases e:t0=t
  .grind [aS]
  .rw[ai e]at h';rw[xI]at h';obtain⟨s',us,a1,a2,a3⟩:=xK p2 h'
   grind [aS]
def J1(hr:Ren H H' φ)(hm:tO p F F' w){ρ:Nat->Value}{l:List (Nat×SS)}{vs:List jL}(hp:qZ p l=af)(h:∀t d,find (cS l vs).1 t=aa d->aB H F w d (ρ t)):∀t d,find (cS (rT φ l) vs).1 t=aa d->aB H' F' w d (ρ t):=by
 grind [xK,Hc]
def A6{m m':Nat}:{l:List (Nat×OS)}->{vs:List jL}->{o s:Nat}->{t:Th}->find (gL m (A3 φ l) vs) o=aa (s,t)->∃j s' us sh,φ j=o/\t=(c9 (sh.qY φ) us).1/\find (gL m' l vs) j=aa (s',(c9 sh us).1)/\(xH p l=af->sh.iV p=af)/\rS (gL m (A3 φ l) vs) s=aa t/\m<=s/\s<m+l.length/\s'=s-m+m'
 |[],_,_,_,_,h=>by cases h
 |(j,sh)::l,vs,o,s,t,h=>by
  have h':find ((φ j,(m,(c9 (sh.qY φ) vs).1))::gL (m+1) (A3 φ l) (c9 (sh.qY φ) vs).2) o=aa (s,t):=h;rw[aS]at h';split at h'
  .rename_i e;simp only[agz,Prod.mk.injEq]at h';obtain⟨rfl,rfl⟩:=h';refine⟨j,m',vs,sh,e,rfl,?_,λhp=>(ct hp).1,?_,agt _,by simp,by omega⟩
   .show find ((j,(m',(c9 sh vs).1))::_) j=_
    rw[aS,aj rfl]
   .show(bif agu m m then _ else _)=_
    simp
  .rename_i e;rw[xJ]at h';obtain⟨j',s',us,Z8,a1,a2,a3,a4,a5,a6,a7,a8⟩:=A6 (m':=m'+1) h';refine⟨j',s',us,Z8,a1,a2,?_,λhp=>a4 (ct hp).2,?_,by omega,by grind,by omega⟩
   all_goals grind [gL,aS,rS,A3,beq_true,xJ]
def DH:List (Nat×aC)->Option (List (Bool×Tree))
 |[]=>aa []
 |(_, .val a t)::l=>match DH l with
  |some ds=>aa ((a,t)::ds)
  |none=>ae
 |_::_=>ae
def J2:List (Nat×aC)->Option aC
 |[]=>aa .dead
 |[(_,d)]=>aa d
 |l=>match DH l with
  |some ds=>aa (.tup ds)
  |none=>ae
def ta:Nat->List (Nat×SS)->Bool
 |_,[]=>af
 |k,(t,_)::l=>agu t k&&ta (k+1) l
def Fi:{l:List (Nat×SS)}->{vs:List jL}->{k t:Nat}->{d:aC}->ta k l=af->find (cS l vs).1 t=aa d->k<=t
 |[],_,_,_,_,_,h=>by cases h
 |(t0,s)::l,vs,k,t,d,hi,h=>by
  obtain⟨h1,h2⟩:=ct hi;have h':find ((t0,(ed s vs).1)::(cS l (ed s vs).2).1) t=aa d:=h;rw[aS]at h';have:=beq_true h1;split at h'
  .omega
  .have:=Fi h2 h';omega
def J3{f:Nat->Value}:{l:List (Nat×SS)}->{vs:List jL}->{k:Nat}->{ds:List (Bool×Tree)}->ta k l=af->(∀t d,find (cS l vs).1 t=aa d->aB H F w d (f t))->DH (cS l vs).1=aa ds->rH H F w ds ((List.range' k l.length).map f)
 |[],_,_,_,_,_,h=>by cases h;rfl
 |(t0,s)::l,vs,k,ds,hi,mE,h=>by
  obtain⟨h1,h2⟩:=ct hi;obtain rfl:=beq_true h1;have h':DH ((t0,(ed s vs).1)::(cS l (ed s vs).2).1)=aa ds:=h;have RW:∀t d,find ((t0,(ed s vs).1)::(cS l (ed s vs).2).1) t=aa d->aB H F w d (f t):=mE;have h0:=RW t0 _ (by rw[aS,aj rfl]);generalize(ed s vs).1=d0 at*
  cases d0<;>unfold DH at h'<;>try cases h'
  rename_i a t
  split at h'<;>cases h'
  rename_i Vo wS;refine⟨f t0,(List.range' (t0+1) l.length).map f,by simp[List.range'_succ],h0,J3 h2 (λt d hf=>RW t d ?_) wS⟩;have:=Fi h2 hf
  grind [aS]
def A7:{l:List (Nat×SS)}->{k:Nat}->ta k (rT φ l)=ta k l
 |[],_=>rfl
 |(t,s)::l,k=>by
  show(agu t k&&ta (k+1) (rT φ l))=_
  rw[A7];rfl
def tP:{l:List (Nat×SS)}->(rT φ l).length=l.length
 |[]=>rfl
 |(t,s)::l=>by
  show(rT φ l).length+1=l.length+1
  rw[tP]
def DJ(us:List Value):(List.range' 0 us.length).map (λt=>us.getD t undef)=us:=by
 apply List.ext_getElem (by simp)
 grind
def O7{l:List (Nat×SS)}{vs:List jL}{us:List Value}{D:aC}(hi:ta 0 l=af)(hl:us.length=l.length)(mE:∀t d,find (cS l vs).1 t=aa d->aB H F w d (us.getD t undef))(h:J2 (cS l vs).1=aa D):aB H F w D (wW us):=by
 have tup:∀ds,DH (cS l vs).1=aa ds->us.length≠1->aB H F w (.tup ds) (wW us):=by
  intro ds wS dJ;have:=J3 hi mE wS;rw[<-hl,DJ]at this;refine⟨us,?_,this⟩
  match us,dJ with
  |[],_=>rfl
  |[_],h=>grind
  |_::_::_,_=>rfl
 match l,hl,h with
 |[],_,h=>obtain rfl:=agq h;trivial
 |[(t,s)],hl,h=>
  have h':J2 [(t,(ed s vs).1)]=aa D:=h;obtain rfl:=agq h';have ht:=beq_true (ct hi).1
  match us,hl with
  |[u],_=>
   have:=mE t (ed s vs).1 (by
    show find [(t,(ed s vs).1)] t=_
    rw[aS,aj rfl])
   rw[ht]at this;exact this
 |(t,s)::(t',s')::l,hl,h=>
  have h':(match DH (cS ((t,s)::(t',s')::l) vs).1 with|some ds=>aa (aC.tup ds)|none=>ae)=aa D:=h
  grind
end
end
section
def ic:Nat->List aC->List (Nat×aC)
 |_,[]=>[]
 |k,d::ds=>(k,d)::ic (k+1) ds
def N7(n:Nat)(bs:Bs)(aT:List (Nat×(Nat×Th)))(m:Nat)(j:Nat):Nat:=
 bif agW j m then(match find bs j with
  |some (aa o)=>(match find aT o with
   |some _=>o
   |none=>n+j)
  |_=>n+j)else n+j
def oS(aT:List (Nat×(Nat×Th))):List Nat->List (Nat×(Nat×Th))
 |[]=>[]
 |o::os=>match find aT o with
  |some (s,t)=>bif eT t then(o,(s,t))::oS aT os else oS aT os
  |none=>oS aT os
def always(_:Row):Bool:=af
def Fj(sg:nP):Bool:=qZ Row.A4 sg.out.aD&&xH Row.A4 sg.out.objs
def tc{R:Type}(sg:nP)(n:Nat)(bs:Bs)(aT:List (Nat×(Nat×Th)))(nd:List Nat)(y:cV sg.out.rows)(k:dF->Option R):Option R:=
 match J2 (cS (rT (N7 n bs aT sg.inn.nxt) sg.out.aD) (c7 _ y)).1 with
 |some D=>bif Fj sg then k {dst:=D,eat:=gM bs,make:=gL n (A3 (N7 n bs aT sg.inn.nxt) sg.out.objs) (cS (rT (N7 n bs aT sg.inn.nxt) sg.out.aD) (c7 _ y)).2}
   else k {dst:=D,eat:=gM bs++nd,make:=gL n (A3 (N7 n bs aT sg.inn.nxt) sg.out.objs) (cS (rT (N7 n bs aT sg.inn.nxt) sg.out.aD) (c7 _ y)).2++oS aT nd}
 |none=>ae
def ot{R:Type}(objs:List (Nat×(Nat×Th)))(n:Nat)(f:FuncId)(ds:List aC)(k:dF->Option R):List (Nat×nP)->Option R
 |[]=>ae
 |(g,sg)::tab=>bif agu g f then(match xF 0 [] sg.inn (ic 0 ds) objs with
    |some (x,bs,aT)=>bif agu ds.length sg.inn.aD.length&&ta 0 sg.out.aD&&Nat.ble sg.out.nxt 16&&Nat.ble sg.out.objs.length 16&&(qZ always sg.out.aD)then
      (sg.fn x).bind λy=>tc sg n bs aT (xE 0 sg.inn (ic 0 ds) objs) y k else ae
    |none=>ot objs n f ds k tab)else ot objs n f ds k tab
def RX(c:Nat×List Bool×Nat):aC:= .ptr c.1 c.2.1 c.2.2
def vL{H:aG}{F:Nat->Prop}{w:World}:{cs:List (Nat×List Bool×Nat)}->{vs:List Value}->kH H cs vs->fh H F w (cs.map RX) vs
 |[],_,h=>h
 |_::_,_,h=>by obtain⟨v,us,e,h1,h3⟩:=h;exact⟨v,us,e,h1,vL h3⟩
def rV{H:aG}{F:Nat->Prop}{w:World}:{ds es:List aC}->{vs us:List Value}->fh H F w ds vs->fh H F w es us->fh H F w (ds++es) (vs++us)
 |[],_,vs,_,h,h'=>by rw[show vs=[]from h];exact h'
 |_::_,_,_,_,h,h'=>by obtain⟨v,us,rfl,h1,h2⟩:=h;exact⟨v,_,rfl,h1,rV h2 h'⟩
def Fk(rd:Operand->Option aC)(x:Operand):Option (FuncId×List (Nat×List Bool×Nat)):=
 match rd x with
 |some (.fn f caps)=>aa (f,caps)
 |_=>ae
def xL{R:Type}(tab:List (Nat×nP))(rd:Operand->Option aC)(objs:List (Nat×(Nat×Th)))(n:Nat)(x:Operand)(args:List Operand)(k:dF->Option R):Option R:=
 match Fk rd x with
 |some (f,caps)=>match rL rd args with
  |some ds=>ot objs n f (ds++caps.map RX) k tab
  |none=>ae
 |none=>ae
section
variable {P:Program} {ρ:Nat->Value} {w w':World} {H H':aG} {F F':Nat->Prop} {U:Nat->Prop} {n:Nat} {R:Type}
variable {ty:TypeId} {pos:String} {aft:Array Edge} {dst:Option Nat}
def pw:{ds:List aC}->{vs:List Value}->{k:Nat}->fh H F w ds vs->∀t d,find (ic k ds) t=aa d->k<=t/\aB H F w d (vs.getD (t-k) undef)
 |[],_,_,_,_,_,h=>by cases h
 |d0::ds,vs,k,h,t,d,hf=>by
  obtain⟨v,us,rfl,h1,h2⟩:=h;have rD:find ((k,d0)::ic (k+1) ds) t=aa d:=hf;rw[aS]at rD;split at rD
  .grind
  .obtain⟨h3,h4⟩:=pw h2 t d rD
   grind
theorem mb{aT:List (Nat×(Nat×Th))}:{nd:List Nat}->{o s:Nat}->{t:Th}->find (oS aT nd) o=aa (s,t)->o∈nd/\find aT o=aa (s,t)/\eT t=af
 |[],_,_,_,h=>by cases h
 |o0::nd,o,s,t,h=>by
  unfold oS at h;split at h
  .rename_i s0 t0 h0
   cases hb:eT t0 with
   |true=>
    rw[hb,cond_true,aS]at h;split at h
    .grind
    .obtain⟨a,b⟩:=mb h
     grind
   |false=>
    rw[hb,cond_false]at h;obtain⟨a,b⟩:=mb h
    grind
  .obtain⟨a,b⟩:=mb h
   grind
def rW:{l:List (Nat×OS)}->xH always l=af
 |[]=>rfl
 |(t,s)::l=>by
  have ht:∀sh:Sh,sh.iV always=af:=by
   intro sh
   induction sh with
   |leaf r=>rfl
   |own j=>rfl
   |nil=>rfl
   |junk n=>rfl
   |pair a b iha ihb=>show(a.iV always&&b.iV always)=af;grind
  have:s.iV always=af:=by
   cases s with
   |box T t=>exact ht t
   |own T r=>rfl
   |map T K agg V=>rfl
   |deep T d=>
    have hd:∀d:DR,d.iV always=af:=by
     intro d
     induction d with
     |leaf r=>rfl
     |sl T d ih=>exact ih
     |pair a b iha ihb=>show(a.iV always&&b.iV always)=af;grind
    exact hd d
   |smap T K agg V it=>rfl
  show(s.iV always&&xH always l)=af
  rw[this,rW];rfl
def lM(H H':aG)(n:Nat)(cons:List (Nat×(Nat×Th)))(m0:Nat):aG where
 val m:=if n<=m/\m<n+16 then H'.val (m-n)else H.val m
 con m:=if n<=m/\m<n+16 then rS cons m else H.con m
 sub m:=if n<=m/\m<n+16 then H'.sub (m-n+m0)else H.sub m
def He{dd:Option Nat}{f:FuncId}{fn:Func}{g:Operand}{args:Array Operand}{vs us:List Value}{tQ:Array TypeId}(hf:P.funcs[f]? =aa fn)(hn:(fn.name== "runtime.NumGoroutine")=ag)(hb:fn.body.isNone=ag)(LU:args.toList.map (ev ρ)=vs)(hg:ev ρ g= .func (.func f) #[] us.toArray):
 (execOp (ev ρ) ⟨dd, .call {callee:= .value g,args:=args,argTypes:=tQ},ty,pos,aft,ae⟩).run P w= .ok (.enter f (vs++us).toArray) w:=by
 subst LU
 have Ji:¬fn.name= "runtime.NumGoroutine" :=by simpa using hn
 have qR:¬fn.body=ae:=by
  intro e;rw[e]at hb;cases hb
 have e:(Array.map (ev ρ) args++us.toArray)=(args.toList.map (ev ρ)++us).toArray:=by simp
 simp[execOp,resolve,hg,Deferred.ofValue,invoke,callFunc,hf,Ji,qR,go_sem,e]
def Hf{sg:nP}{f:FuncId}(wX:fL P f sg){objs:List (Nat×(Nat×Th))}{op:Op}{k:dF->Option R}{q:R}{ds:List aC}{vs:List Value}{x:cV sg.inn.rows}{bs:Bs}{aT:List (Nat×(Nat×Th))}
 (xM:fh H F w ds vs)(bj:∀fn,P.funcs[f]? =aa fn->(fn.name== "runtime.NumGoroutine")=ag->fn.body.isNone=ag->(execOp (ev ρ) ⟨dst,op,ty,pos,aft,ae⟩).run P w= .ok (.enter f vs.toArray) w)(hs:aI U H F w (find objs) n)
 (VW:xF 0 [] sg.inn (ic 0 ds) objs=aa (x,bs,aT))
 (h':(bif agu ds.length sg.inn.aD.length&&ta 0 sg.out.aD&&Nat.ble sg.out.nxt 16&&Nat.ble sg.out.objs.length 16&&(qZ always sg.out.aD)then
   (sg.fn x).bind λy=>tc sg n bs aT (xE 0 sg.inn (ic 0 ds) objs) y k else ae)=aa q):
 ∃e,k e=aa q/\cd P U H F w ρ (find objs) n ⟨dst,op,ty,pos,aft,ae⟩ e:=by
 obtain⟨hc,h'⟩:=aP h';obtain⟨hc,hc5⟩:=ct hc;obtain⟨hc,QZ⟩:=ct hc;obtain⟨hc,JD⟩:=ct hc;obtain⟨xl,Ag⟩:=ct hc;have xl:=beq_true xl
 have JD:sg.out.nxt<=16:=by simpa using JD
 have QZ:sg.out.objs.length<=16:=by simpa using QZ
 obtain⟨y,hy,h⟩:=bind_some h';clear h';obtain⟨⟨fn,UP,hf2,hf3⟩,mE⟩:=wX;have Z9:=jO xM
 let H0:aG:=⟨λ_=>ae,λ_=>ae,λ_ _=>False⟩
 have MJ:aI U H0 F w (find (del [] [])) 0:=⟨λ_ _ _ h=>(by cases h),λ_ _ _ _ _ _ _ _ _ h=>(by cases h),λ_ _ _=>⟨rfl,rfl⟩,hs.lt,hs.new,hs.gl⟩
 have O8:cg H0 F w H F w:=⟨⟨λ_ _ h=>(by cases h),λ_ _ h=>(by cases h),λ_ _ h=>(by cases h)⟩,Step.refl F w⟩
 have gE:∀t d,find (ic 0 ds) t=aa d->aB H F w d (vs.getD t undef):=λt d hd=>by simpa using(pw xM t d hd).2
 obtain⟨F1,H1,uO,Ah,LW,wV,A0,s8,Fh,Pa,A8⟩:=vJ (U':=λk=>w.heap.size<=k\/∃o∈gM bs,∃s t v,find aT o=aa (s,t)/\H.val o=aa v/\fp (H.sub s) v t k) (ns:=[]) (objs0:=[]) (ρ:=λt=>vs.getD t undef) VW MJ (λ_ _=>⟨rfl,rfl⟩) O8 hs gE;have A8:=A8 (λb hb=> .inl hb) (by grind) (λ_ _ _ _ _ h=>by cases h);generalize hG:(λk=>∃o∈gM bs,∃s t v,find aT o=aa (s,t)/\H.val o=aa v/\fp (H.sub s) v t k)=G
 have RY:∀k,G k->¬F1 k:=by
  rw[<-hG]
  rintro k ⟨o,_,s,t,v,h1,h2,h3⟩
  obtain⟨v',dX,cL⟩:=uO.obj _ _ _ h1;rw[h2]at dX;obtain rfl:=agq dX;exact cL.no k h3
 have VX:∀k,G k->bX H (find objs) (gM bs) k:=by
  rw[<-hG]
  rintro k ⟨o,ho,s,t,v,h1,h2,h3⟩
  rcases jE wV o s t h1 with h4|h4
  .exact⟨o,ho,s,t,v,h4,h2,h3⟩
  .exact(gF h4 h3).elim
 have RZ:aI (λk=>w.heap.size<=k\/G k) H1 F1 w (find (gL 0 sg.inn.objs (cS sg.inn.aD (c7 sg.inn.rows x)).2)) sg.inn.nxt:=by
  rw[show del [] ([]:List (Nat×(Nat×Th)))=[]from rfl,List.append_nil]at A8;rw[<-hG];exact A8
 have R1:=mE x y hy vs w H1 F1 G (by omega) Pa RZ Fh RY;generalize JH:xE 0 sg.inn (ic 0 ds) objs=nd at h LW wV;generalize VY:N7 n bs aT sg.inn.nxt=φ at h;unfold tc at h;rw[VY]at h;split at h
 case h_2=>cases h
 rename_i D hD
 have vx:∀(e:dF),e.dst=D->(∀(w':World)(us:List Value)(H':aG)(F':Nat->Prop),us.length=sg.out.aD.length->Ext G w w'->H1.le H'->(∀b,F1 b->F' b)->(∀b,F' b->F1 b\/w.heap.size<=b\/G b)->
  (∀t d,find (cS sg.out.aD (c7 sg.out.rows y)).1 t=aa d->aB H' F' w' d (us.getD t undef))->aI (λk=>w.heap.size<=k\/G k) H' F' w' (find (gL sg.inn.nxt sg.out.objs (cS sg.out.aD (c7 sg.out.rows y)).2)) sg.out.nxt->gY H' sg.out.nxt->lL H F w (find objs) n e (wW us) w')->
  cd P U H F w ρ (find objs) n ⟨dst,op,ty,pos,aft,ae⟩ e:=by
  intro e he tR;have bj:=bj fn UP hf2 hf3;unfold cd bT;rw[bj];refine R1.mono (by grind)
 generalize Fg:gL n (A3 φ sg.out.objs) (cS (rT φ sg.out.aD) (c7 sg.out.rows y)).2=cons at h;have VZ:=A5 (φ:=φ) sg.out.aD (c7 sg.out.rows y)
 have Pb:∀{H':aG},H1.le H'->gY H' sg.out.nxt->Ren H' (lM H H' n cons sg.inn.nxt) φ/\H.le (lM H H' n cons sg.inn.nxt)/\∀m,(m<n\/n+16<=m)->(H.val m=ae->(lM H H' n cons sg.inn.nxt).val m=ae)/\(H.con m=ae->(lM H H' n cons sg.inn.nxt).con m=ae):=by
  intro H' hle yF
  have DK:∀j v,H'.val j=aa v->j<sg.out.nxt:=λj v hj=>by
   rcases Nat.lt_or_ge j sg.out.nxt with g|g
   .exact g
   .rw[(yF j g).1]at hj;cases hj
  have hold:∀o v,H.val o=aa v->¬(n<=o/\o<n+16):=λo v ho hc=>by
   rw[(hs.fresh o hc.1 hc.2).1]at ho;cases ho
  refine⟨λj v hj=>?_,⟨λo v ho=>?_,λs t gx=>?_,λs t gx=>?_⟩,λm hm=>?_⟩
  .rw[<-VY];have V0:=DK j v hj
   have gen:(lM H H' n cons sg.inn.nxt).val (n+j)=aa v:=by
    simp only[lM];rw[aj (by omega),Nat.add_sub_cancel_left];exact hj
   unfold N7
   cases hb:agW j sg.inn.nxt with
   |false=>simpa using gen
   |true=>
    rw[cond_true];split
    .rename_i o ho;split
     case h_2=>exact gen
     rename_i e he;obtain⟨u,hu,_⟩:=uO.obj o e.1 e.2 he;have h1:=hle.val _ _ (s8 j (aa o) ho u hu)
     grind [lM]
    .exact gen
  .grind [lM]
  .simp only[lM];rw[ai (λhc=>by rw[(hs.fresh s hc.1 hc.2).2]at gx;cases gx)];exact gx
  .simp only[lM];rw[ai (λhc=>by rw[(hs.fresh s hc.1 hc.2).2]at gx;cases gx)]
  .grind [lM]
 have made:∀{p:Row->Bool}{us:List Value}{w':World}{H':aG}{F' F2:Nat->Prop}{eat:List Nat},us.length=sg.out.aD.length->qZ p sg.out.aD=af->xH p sg.out.objs=af->tO p F' F2 w'->Ext G w w'->H1.le H'->(∀b,F2 b->F' b)->(∀o,o∈gM bs->o∈eat)->
  (∀t d,find (cS sg.out.aD (c7 sg.out.rows y)).1 t=aa d->aB H' F' w' d (us.getD t undef))->aI (λk=>w.heap.size<=k\/G k) H' F' w' (find (gL sg.inn.nxt sg.out.objs (cS sg.out.aD (c7 sg.out.rows y)).2)) sg.out.nxt->gY H' sg.out.nxt->
  aB (lM H H' n cons sg.inn.nxt) F2 w' D (wW us)/\Made (lM H H' n cons sg.inn.nxt) F2 w w' (bX H (find objs) eat) cons/\∀o,(find cons o).isSome->o∈eat\/n<=o:=by
  intro p us w' H' F' F2 eat ML Rw Jy US bC hle LW jr GJ MM R2;obtain⟨hr,_,_⟩:=Pb hle R2
  have Fl:∀o s t,find cons o=aa (s,t)->∃j s' us sh,φ j=o/\t=(c9 (sh.qY φ) us).1/\find (gL sg.inn.nxt sg.out.objs (cS sg.out.aD (c7 sg.out.rows y)).2) j=aa (s',(c9 sh us).1)/\sh.iV p=af/\rS cons s=aa t/\n<=s/\s<n+16/\(lM H H' n cons sg.inn.nxt).sub s=H'.sub s':=by
   intro o s t ho;rw[<-Fg]at ho⊢;rw[VZ]at ho⊢;obtain⟨j,s',V2,sh,a1,a2,a3,a4,a5,a6,a7,a8⟩:=A6 (m':=sg.inn.nxt) ho
   have bi:s<n+16:=by omega
   refine⟨j,s',V2,sh,a1,a2,a3,a4 Jy,a5,a6,bi,?_⟩;simp only[lM];rw[aj ⟨a6,bi⟩,a8]
  refine⟨?_,⟨λo s t ho=>?_,λo o' s s' t t' v v' dJ ho lD hv dX k hk gD=>?_⟩,λo ho=>?_⟩
  .exact O7 (by rw[A7];exact Ag) (by rw[tP];exact ML) (J1 hr US Rw GJ) hD
  .obtain⟨j,s',V2,sh,rfl,rfl,a3,a4,a5,a6,a7,a8⟩:=Fl o s t ho;rw[a8];obtain⟨v,hv,cL⟩:=MM.obj _ _ _ a3;obtain⟨b1,b2,b3⟩:=s9 hr US a4 cL.ok;refine⟨v,hr j v hv,cL.one,?_,b1,λk hk=>⟨λe=>cL.no k (b3 k hk) (LW k e),cL.lt k (b3 k hk),?_⟩⟩
   .grind [lM]
   .rcases cL.use k (b3 k hk)with h1|h1
    .exact .inl h1
    .obtain⟨o',lD,rest⟩:=VX k h1;exact .inr ⟨o',jr o' lD,rest⟩
  .obtain⟨j,s1,us1,sh,rfl,rfl,a3,a4,a5,a6,_,a8⟩:=Fl o s t ho;obtain⟨j',s1',abM,Z8,rfl,rfl,a3',a4',a5',a6',_,a8'⟩:=Fl o' s' t' lD;rw[a8]at hk;rw[a8']at gD;obtain⟨u,hu,cL⟩:=MM.obj _ _ _ a3;obtain⟨u',E5,AS⟩:=MM.obj _ _ _ a3';have e1:=hr j u hu;rw[hv]at e1;obtain rfl:=agq e1;have e2:=hr j' u' E5;rw[dX]at e2;obtain rfl:=agq e2;exact MM.apart j j' _ _ _ _ _ _ (λe=>dJ (by rw[e])) a3 a3' hu E5 k ((s9 hr US a4 cL.ok).2.2 k hk) ((s9 hr US a4' AS.ok).2.2 k gD)
  .obtain⟨e,he⟩:=agY.1 ho;obtain⟨j,s',V2,sh,rfl,_⟩:=Fl o e.1 e.2 he;rw[<-VY];unfold N7
   cases agW j sg.inn.nxt with
   |false=>grind
   |true=>
    grind [jt]
 have R3:∀{w':World}{eat:List Nat},Ext G w w'->(∀o,o∈gM bs->o∈eat)->Ext (bX H (find objs) eat) w w':=λbC jr=>⟨bC.os,bC.tape,bC.output,bC.size,λk hk hn=>bC.block k hk λhG=>hn (by
  obtain⟨o,ho,rest⟩:=VX k hG
  exact⟨o,jr o ho,rest⟩)⟩
 cases R4:Fj sg with
 |true=>
  rw[R4,cond_true]at h;obtain⟨p1,p2⟩:=ct R4;refine⟨_,h,vx _ rfl λw' us H' F' ML a1 a2 a3 a4 a5 a6 a7=>?_⟩;obtain⟨_,g2,g3⟩:=Pb a2 a7;obtain⟨m1,m2,m3⟩:=made (F2:=F) (eat:=gM bs) ML p1 p2 (λr hr cs x hx=>cF.DF hr hx) a1 a2 (λb hb=>a3 b (Ah b hb)) (λ_ h=>h) a5 a6 a7;exact⟨_,F,⟨g2,R3 a1 (λ_ h=>h),λ_ h=>h,λ_ h=> .inl h,λb hb=>agK (hs.lt b hb) a1.size⟩,g3,m1,m2,m3⟩
 |false=>
  rw[R4,cond_false]at h;refine⟨_,h,vx _ rfl λw' us H' F' ML a1 a2 a3 a4 a5 a6 a7=>?_⟩;obtain⟨_,g2,g3⟩:=Pb a2 a7;obtain⟨m1,m2,m3⟩:=made (F2:=F') (eat:=gM bs++nd) ML hc5 rW (λr _ cs x hx=>hx) a1 a2 (λ_ h=>h) (λo h=>by simp[h]) a5 a6 a7
  have gx:Step F1 w F' w':=λb hb=>⟨a3 b hb,a1.block b (uO.lt b hb) λe=>RY b e hb⟩
  have um:∀o s t,find (oS aT nd) o=aa (s,t)->o∈nd/\eT t=af/\∃v,H.val o=aa v/\v.oneCell'=af/\H.con s=aa t.base/\gX H F1 w (H.sub s) v t:=by
   intro o s t ho;obtain⟨b1,b2,b3⟩:=mb ho;obtain⟨v,hv,cL⟩:=uO.obj _ _ _ b2;exact⟨b1,b3,v,hv,cL.one,cL.con,cL.ok⟩
  have part:∀o s t,find (cons++oS aT nd) o=aa (s,t)->find cons o=aa (s,t)\/find (oS aT nd) o=aa (s,t):=by
   intro o s t ho;rw[gV]at ho
   cases hm:find cons o with
   |some e=>grind
   |none=>grind
  refine⟨_,F',⟨g2,R3 a1 (λo h=>by simp[h]),λb hb=>a3 b (Ah b hb),λb hb=>?_,a6.lt⟩,g3,m1,⟨λo s t ho=>?_,λo o' s s' t t' v v' dJ ho lD hv dX k hk gD=>?_⟩,λo ho=>?_⟩
  .rcases a4 b hb with h1|h1|h1
   .rcases LW b h1 with h2|⟨o,ho,rest⟩
    .exact .inl h2
    .exact .inr (.inr ⟨o,by simp[ho],rest⟩)
   .grind
   .obtain⟨o,ho,rest⟩:=VX b h1;exact .inr (.inr ⟨o,by simp[ho],rest⟩)
  .rcases part o s t ho with h1|h1
   .exact m2.obj o s t h1
   .obtain⟨b1,b2,v,b3,b4,b5,b6⟩:=um o s t h1;refine⟨v,g2.val _ _ b3,b4,g2.con _ _ b5,by rw[g2.sub _ _ b5];exact b6.heap g2 gx (λk hk=>(gF b2 hk).elim),λk hk=>(gF b2 hk).elim⟩
  .rcases part o s t ho with h1|h1<;>rcases part o' s' t' lD with h2|h2
   .exact m2.apart o o' s s' t t' v v' dJ h1 h2 hv dX k hk gD
   .grind [gF]
   .exact gF (um o s t h1).2.1 hk
   .exact gF (um o s t h1).2.1 hk
  grind [agY]
def nQ{R5:List (Nat×nP)}(wX:∀p∈R5,fL P p.1 p.2){objs:List (Nat×(Nat×Th))}{f:FuncId}{op:Op}{k:dF->Option R}{q:R}{ds:List aC}{vs:List Value}
 (xM:fh H F w ds vs)(bj:∀fn,P.funcs[f]? =aa fn->(fn.name== "runtime.NumGoroutine")=ag->fn.body.isNone=ag->(execOp (ev ρ) ⟨dst,op,ty,pos,aft,ae⟩).run P w= .ok (.enter f vs.toArray) w)(hs:aI U H F w (find objs) n):{tab:List (Nat×nP)}->(∀p∈tab,p∈R5)->ot objs n f ds k tab=aa q->
 ∃e,k e=aa q/\cd P U H F w ρ (find objs) n ⟨dst,op,ty,pos,aft,ae⟩ e
 |[],_,h=>by cases h
 |(f0,sg)::tab,cL,h=>by
  unfold ot at h
  cases hb:agu f0 f with
  |false=>rw[hb,cond_false]at h;exact nQ wX xM bj hs (λp hp=>cL p (by simp[hp])) h
  |true=>
   rw[hb,cond_true]at h;obtain rfl:=beq_true hb;split at h
   case h_2=>exact nQ wX xM bj hs (λp hp=>cL p (by simp[hp])) h
   rename_i x bs aT VW;exact Hf (wX (f0,sg) (cL _ (by simp))) xM bj hs VW h
def A9{tab:List (Nat×nP)}(wX:∀p∈tab,fL P p.1 p.2){rd:Operand->Option aC}(fU:∀x d,rd x=aa d->aB H F w d (ev ρ x)){objs:List (Nat×(Nat×Th))}{g:Operand}{args:Array Operand}{tQ:Array TypeId}{k:dF->Option R}{q:R}
 (h:xL tab rd objs n g args.toList k=aa q)(hs:aI U H F w (find objs) n):
 ∃e,k e=aa q/\cd P U H F w ρ (find objs) n ⟨dst, .call {callee:= .value g,args:=args,argTypes:=tQ},ty,pos,aft,ae⟩ e:=by
 unfold xL at h;split at h
 case h_2=>cases h
 rename_i f caps hc;split at h
 case h_2=>cases h
 rename_i ds wS;unfold Fk at hc;split at hc
 case h_2=>cases hc
 rename_i f' aab hg;cases hc;obtain⟨us,h1,h2⟩:=fU _ _ hg;exact nQ wX (rV (nH (w:=w) (H:=H) (F:=F) (ρ:=ρ) fU wS) (vL (F:=F) (w:=w) h2)) (λfn g1 g2 g3=>He g1 g2 g3 rfl h1) hs (λ_ h=>h) h
end
end
section
section
variable {P:Program} {ρ:Nat->Value} {w w':World} {H H':aG} {F F':Nat->Prop} {U:Nat->Prop} {ob:Nat->Option (Nat×Th)} {n:Nat} {R:Type}
variable {op:Op} {ty:TypeId} {pos:String} {aft:Array Edge} {d:Nat} {dst:Option Nat}
def IE.Fp:IE->Bool
 | .other=>ag
 |_=>af
def xm.Fp{t:TypeId}{k:IE}(h:xm P t k)(hk:k.Fp=af):∃D,P.underlying t=aa D/\∀ms,D≠ .interface ms:=by
 cases k with
 |other=>cases hk
 |struct fs=>obtain⟨arr,h,_⟩:=h;grind
 |_=>exact⟨_,h,λ_ e=>by cases e⟩
def yY(T:aX P)(t:TypeId):Bool:=match find T.und t with
 |some k=>k.Fp
 |none=>ag
def xN(T:aX P){t:TypeId}(h:yY T t=af):∃D,P.underlying t=aa D/\∀ms,D≠ .interface ms:=by
 unfold yY at h;split at h
 .rename_i k hk;exact(T.und_ok _ _ hk).Fp h
 .cases h
def Hg(T:aX P)(t:TypeId)(D:aC)(k:dF->Option R):Option R:=bif yY T t then k {dst:= .ifc t D}else ae
def MN(T:aX P){t:TypeId}{D:aC}{x:Operand}{k:dF->Option R}{q:R}(h:Hg T t D k=aa q)(hs:aI U H F w ob n)(hx:aB H F w D (ev ρ x)):
 ∃e,k e=aa q/\cd P U H F w ρ ob n ⟨aa d, .makeInterface t x,ty,pos,aft,ae⟩ e:=by
 unfold Hg at h;obtain⟨h1,h2⟩:=aP h;obtain⟨D0,hD,hn⟩:=xN T h1;refine⟨_,h2,bz hs (v:= .iface t (ev ρ x)) ?_ ⟨_,rfl,hx⟩⟩
 cases D0 with
 |interface ms=>grind
 |_=>simp[execOp,Instr.makeInterface,run_underlying hD,agB]
def qj(T:aX P)(t:TypeId)(ok:Bool)(D:aC)(k:dF->Option R):Option R:=
 match D with
 | .ifc t' d=>bif agu t' t&&yY T t then(match ok,d with
   |true, .val agg tr=>k {dst:= .tup [(agg,tr),(ag, .leaf .bool af)]}
   |true,_=>ae
   |false,d=>k {dst:=d})else ae
 |_=>ae
def DL(T:aX P){xt t:TypeId}{ok:Bool}{D:aC}{x:Operand}{k:dF->Option R}{q:R}(h:qj T t ok D k=aa q)(hs:aI U H F w ob n)(hx:aB H F w D (ev ρ x)):
 ∃e,k e=aa q/\cd P U H F w ρ ob n ⟨aa d, .typeAssert x xt t ok,ty,pos,aft,ae⟩ e:=by
 unfold qj at h;split at h
 case h_2=>cases h
 rename_i t' dd;obtain⟨h1,h2⟩:=aP h;obtain⟨h1,h3⟩:=ct h1;obtain rfl:=beq_true h1;obtain⟨D0,hD,hn⟩:=xN T h3;obtain⟨u,hu,hd⟩:=hx
 have bj:(Instr.typeAssert (ev ρ x) xt t' ok).run P w= .ok (if ok then .tuple #[u, .bool af]else u) w:=by
  rw[hu]
  cases D0 with
  |interface ms=>grind
  |_=>simp[Instr.typeAssert,run_underlying hD,agB]
 split at h2
 .exact⟨_,h2,bz hs (v:= .tuple #[u, .bool af]) (by simp[execOp,bj,agB]) ⟨[u, .bool af],rfl,_,_,rfl,hd,_,_,rfl,aO.fx ..,rfl⟩⟩
 .cases h2
 .exact⟨_,h2,bz hs (v:=u) (by simp[execOp,bj,agB]) hd⟩
def Fq:List (TypeId×(String×(FuncId×Bool)))->TypeId->String->Option (FuncId×Bool)
 |[],_,_=>ae
 |(t',(nm,p))::l,t,name=>bif agu t' t&&(nm==name)then aa p else Fq l t name
def Ba{t:TypeId}{name:String}{f:FuncId}{pr:Bool}:{l:List (TypeId×(String×(FuncId×Bool)))}->Fq l t name=aa (f,pr)->(t,(name,(f,pr)))∈l
 |[],h=>by cases h
 |(t',(nm,p))::l,h=>by
  unfold Fq at h
  cases hb:agu t' t&&(nm==name)with
  |true=>
   simp_all
  |false=>
   rw[hb,cond_false]at h;exact List.mem_cons_of_mem _ (Ba h)
def DM{t:TypeId}{name:String}{f:FuncId}{pr:Bool}{v u:Value}{fuel:Nat}(h:qG P t name f pr)(hr:∀nm,(receiverAt t (.val v) pr (aa nm)).run P w= .ok u w):(method (fuel+1) t v name).run P w= .ok (f,u) w:=by
 unfold qG at h
 cases hi:P.info? t with
 |none=>grind
 |some ti=>
  rw[hi]at h;have h:(ti.methods.find? λm=>m.name==name).map (λm=>(m.path.toList.length,m.func))=aa (0,aa (f,pr)):=h
  cases hm:ti.methods.find? λm=>m.name==name with
  |none=>grind
  |some m=>
   rw[hm]at h;simp only[Option.map_some,agz,Prod.mk.injEq]at h
   have hp:m.path= #[]:=by
    have:=h.1;simpa using this
   simp[method,typeInfo,hi,hm,hp,follow,h.2,hr,agB,agL]
def Hh{t e:TypeId}{nm:String}{v:Value}(hu:P.underlying t=aa (.pointer e)):(receiverAt t (.val v) af (aa nm)).run P w= .ok v w:=by
 simp[receiverAt,run_underlying hu,Place.get,agB,agL]
def Hi{t e:TypeId}{nm:String}{a:Addr}{u:Value}(hu:P.underlying t=aa (.pointer e))(hl:(loadVar e a).run P w= .ok u w):(receiverAt t (.val (.pointer (aa a))) ag (aa nm)).run P w= .ok u w:=by
 have hw:Builtin.ssaWrapNilChk_ #[t] t #[.pointer (aa a),strVal "",strVal nm]=pure (.pointer (aa a)):=rfl;simp[receiverAt,run_underlying hu,Place.get,hw,asAddr,hl,agB,agL]
def vM{t:TypeId}{name:String}{f:FuncId}{fn:Func}{pr:Bool}{v u:Value}{x:Operand}{args:Array Operand}{tQ:Array TypeId}(h:qG P t name f pr)(hx:ev ρ x= .iface t v)(hr:∀nm,(receiverAt t (.val v) pr (aa nm)).run P w= .ok u w)
 (hf:P.funcs[f]? =aa fn)(hn:(fn.name== "runtime.NumGoroutine")=ag)(hb:fn.body.isNone=ag):
 (execOp (ev ρ) ⟨dst, .call {callee:= .invoke x name,args:=args,argTypes:=tQ},ty,pos,aft,ae⟩).run P w= .ok (.enter f (u::args.toList.map (ev ρ)).toArray) w:=by
 have Ji:¬fn.name= "runtime.NumGoroutine" :=by simpa using hn
 have qR:¬fn.body=ae:=by
  intro e;rw[e]at hb;cases hb
 have hm:=DM (fuel:=P.types.size+99) h hr;have hfu:P.types.size+100=P.types.size+99+1:=rfl
 have e1:(#[Value.iface t v]++Array.map (ev ρ) args).extract 1 (1+args.size)=Array.map (ev ρ) args:=by
  apply Array.ext';simp;exact List.take_of_length_le (by simp)
 have e0:(#[Value.iface t v]++Array.map (ev ρ) args)[0]? =aa (Value.iface t v):=by simp[Array.getElem?_append]
 have e2:(#[u]++Array.map (ev ρ) args)=(u::args.toList.map (ev ρ)).toArray:=by apply Array.ext';simp
 simp[execOp,resolve,hx,invoke,callMethod,hfu,hm,callFunc,hf,Ji,qR,go_sem,e0,e1,e2]
def uP(T:aX P)(ob:Nat->Option (Nat×Th))(e:TypeId)(D:aC):Option aC:=
 match find T.und e with
 |none=>ae
 |some kk=>match D with
  | .ptr o p off=>match ob o with
    |some (_, .box _ tr)=>match tr.get p with
     |some (s,dK)=>bif agu dK off&&l7 T e kk s.size then aa (.val (jN kk) s)else ae
     |none=>ae
    |_=>ae
  |_=>ae
def DN(T:aX P){e:TypeId}{D D':aC}{v:Value}(h:uP T ob e D=aa D')(hs:aI U H F w ob n)(hx:aB H F w D v):∃a u,v= .pointer (aa a)/\(loadVar e a).run P w= .ok u w/\aB H F w D' u:=by
 unfold uP at h;split at h
 .cases h
 rename_i kk hu;split at h
 case h_2=>cases h
 rename_i o p off;split at h
 case h_2=>cases h
 rename_i st0 T0 tr cA;split at h
 case h_2=>cases h
 rename_i s dK hg;obtain⟨h1,h2⟩:=aP h;cases h2;obtain⟨h1,h3⟩:=ct h1;obtain rfl:=beq_true h1;obtain⟨b,hb,rfl⟩:=hx;obtain⟨es,hh,NZ⟩:=hs.box cA hb;obtain⟨g1,g2⟩:=NZ.get hg
 have hc:∀j u,((es.drop dK).take s.size)[j]? =aa u->w.cell? ⟨b,dK+j,ae⟩=aa u:=λj u hj=>by
  grind [vi]
 obtain⟨dd,uH,ul⟩:=(T.und_ok _ _ hu).agg;have hz:=jB T h3;have hl:=g1.length;generalize(es.drop dK).take s.size=cs at g1 hc hl
 cases ha:jN kk with
 |true=>
  rw[aj ha]at hz;obtain⟨r,hr,LQ⟩:=hz;obtain⟨ti,z,h1,_,_,h4,_⟩:=T.row_ok _ _ hr;have V3:(loadCells ⟨b,dK,ae⟩ cs.length).run P w= .ok cs.toArray w:=run_loadCells_list (P:=P) w ⟨b,dK,ae⟩ cs (λj v hv=>by rw[cU];exact hc j v hv)
  have mz:ti.size=cs.length:=by omega
  exact⟨_, .agg cs.toArray,rfl,by simp[loadVar,agL,eW uH,ul,ha,sizeOf,typeInfo,h1,mz,V3],⟨cs,g1,rfl,by simp⟩⟩
 |false=>
  rw[ai (by simp[ha])]at hz
  obtain⟨v,rfl⟩:∃v,cs=[v]:=by
   match cs,hl.trans hz with
   |[v],_=>grind
  have hcv:w.cell? ⟨b,dK,ae⟩=aa v:=hc 0 v rfl;exact⟨_,v,rfl,by simp[loadVar,agL,eW uH,ul,ha,hcv,go_sem],⟨[v],g1,rfl,λ_=>rfl⟩⟩
def qk(T:aX P)(tab:List (Nat×nP))(rd:Operand->Option aC)(objs:List (Nat×(Nat×Th)))(n:Nat)(x:Operand)(name:String)(args:List Operand)(k:dF->Option R):Option R:=
 match rd x with
 |some (.ifc t d)=>match Fq T.mth t name with
  |some (f,pr)=>match find T.und t with
   |some (.ptr e)=>match(bif pr then aa d else uP T (find objs) e d)with
    |some d'=>match rL rd args with
     |some ds=>ot objs n f (d'::ds) k tab
     |none=>ae
    |none=>ae
   |_=>ae
  |none=>ae
 |_=>ae
def vN(T:aX P){tab:List (Nat×nP)}(wX:∀p∈tab,fL P p.1 p.2){rd:Operand->Option aC}(fU:∀x d,rd x=aa d->aB H F w d (ev ρ x)){objs:List (Nat×(Nat×Th))}{x:Operand}{name:String}{args:Array Operand}{tQ:Array TypeId}{k:dF->Option R}{q:R}
 (h:qk T tab rd objs n x name args.toList k=aa q)(hs:aI U H F w (find objs) n):
 ∃e,k e=aa q/\cd P U H F w ρ (find objs) n ⟨dst, .call {callee:= .invoke x name,args:=args,argTypes:=tQ},ty,pos,aft,ae⟩ e:=by
 unfold qk at h;split at h
 case h_2=>cases h
 rename_i t d0 hx;split at h
 case h_2=>cases h
 rename_i f pr hm;split at h
 case h_2=>cases h
 rename_i e hu;split at h
 case h_2=>cases h
 rename_i d' Ab;split at h
 case h_2=>cases h
 rename_i ds wS;obtain⟨v,hv,hdv⟩:=fU _ _ hx;have hM:=T.mth_ok _ (Ba hm);have hu:=T.und_ok _ _ hu;have hdo:=nH (w:=w) (H:=H) (F:=F) (ρ:=ρ) fU wS
 cases pr with
 |true=>
  cases Ab
  have Q1:fh H F w (d0::ds) (v::args.toList.map (ev ρ)):=⟨v,_,rfl,hdv,hdo⟩
  exact nQ wX Q1 (λfn g1 g2 g3=>vM hM hv (λnm=>Hh hu) g1 g2 g3) hs (λ_ h=>h) h
 |false=>
  obtain⟨a,u,rfl,hl,hdu⟩:=DN T (show uP T (find objs) e d0=aa d' from Ab) hs hdv
  have Q1:fh H F w (d'::ds) (u::args.toList.map (ev ρ)):=⟨u,_,rfl,hdu,hdo⟩
  exact nQ wX Q1 (λfn g1 g2 g3=>vM hM hv (λnm=>Hi hu hl) g1 g2 g3) hs (λ_ h=>h) h
end
end
end Go.Proofs.YtfeahmiobbjklaaGreatDoor
