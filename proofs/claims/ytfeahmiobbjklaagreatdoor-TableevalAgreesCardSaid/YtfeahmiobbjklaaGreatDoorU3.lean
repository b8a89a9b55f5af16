/- Joined texts: Smap Apd Pack2 Call Call2 Ifc. -/
import Derived.Test.YtfeahmiobbjklaaGreatDoorU2
import Derived.Maps.RangeRun
set_option linter.defProp false
open _root_.Bool renaming false->ah,true->af
open _root_.Option renaming none->ae,some->aa,isSome_iff_exists->ajb
open _root_.Array renaming getElem?_eq_some_iff->ajc,toList_filter->ajY
open _root_.Go.ChangeMaps renaming setBlock->ajN
open _root_.Go.Instr renaming findAsking->aj4,findNow->ajr,lookup->aj3,mapUpdate->ajE
open _root_.List renaming filter_eq_self->ajX,mem_cons->ai7,mem_filter->aji,pairwise_cons->aiT,getElem_append_right->ajm
open _root_.Go.MapKept renaming run_getObj_map->ajg,run_setObj_map->ajL
open _root_.Nat renaming beq->aiJ,le_refl->aiH,lt_of_lt_of_le->ai1,blt->aja
open _root_.Option.some renaming inj->aiC,injEq->aiO
open _root_.Go.Result renaming andThen->aiQ
open _root_.Go.Value renaming ownBlock->aiY
open _root_.List.cons renaming injEq->ajt
open _root_.Go.Value.slice renaming injEq->ajS
open _root_.Go.Sem renaming run_bind->ai0
namespace Go.Proofs.YtfeahmiobbjklaaGreatDoor
open Go Go.RowKit
set_option maxRecDepth 100000
set_option linter.unusedSimpArgs false
set_option linter.unusedVariables false
set_option linter.defProp false
section
open Go Go.RowKit Go.MapKept
def Lv:(K:Row)->K.den->K.den->Bool
 | .int _,a,b=>decide ((a:Int)<b)
 | .pair (.int _) (.int _),a,b=>decide ((a.1:Int)<b.1\/((a.1:Int)=b.1/\(a.2:Int)<b.2))
 |_,_,_=>ah
def B8{α:Type}(K:Row):List (K.den×α)->K.den->α->List (K.den×α)
 |[],k,v=>[(k,v)]
 |p::l,k,v=>if Lv K k p.1=af then(k,v)::p::l else p::B8 K l k v
noncomputable def q6{α:Type}(K:Row)(l:List (K.den×α))(k:K.den)(v:α):List (K.den×α):=B8 K (l.filter λp=> !eT K p.1 k) k v
theorem qJ{α:Type}{K:Row}(k:K.den)(v:α):(l:List (K.den×α))->(B8 K l k v).Perm ((k,v)::l)
 |[]=> .refl _
 |p::l=>by
  unfold B8;split
  .exact .refl _
  .exact((qJ k v l).cons p).trans (.swap ..)
theorem pL{K:Row}{a b:K.den}(h:eT K a b=af):a=b:=by
 unfold eT at h;split at h
 all_goals grind
theorem rG{K:Row}{a b:K.den}(h:eT K a b=ah):eT K b a=ah:=by
 grind [pL]
def Ak{α:Type}(K:Row)(l:List (K.den×α)):Prop:=l.Pairwise λp q=>eT K p.1 q.1=ah
def Ak.perm{α:Type}{K:Row}{l l':List (K.den×α)}(h:l'.Perm l)(hd:Ak K l):Ak K l':=(h.pairwise_iff λ{a b}=>rG).2 hd
def EZ{α:Type}{K:Row}{x:K.den}{l l':List (K.den×α)}(h:l'.Perm l):Ak K l'->bV K l' x=bV K l x:=by
 induction h with
 |nil=>intro _;rfl
 |cons p _ ih=>
  intro hd;unfold bV;rw[ih (aiT.1 hd).2]
 |swap p q l=>
  intro hd;have Ub:=(aiT.1 hd).1 p (by simp)
  grind [bV,pL]
 |trans h1 h2 ih1 ih2=>intro hd;exact(ih1 hd).trans (ih2 (hd.perm h1.symm))
section
variable {P:Program} {ρ:Nat->Value} {w w':World} {H H':aK} {F F':Nat->Prop} {U:Nat->Prop} {ob:Nat->Option (Nat×Th)} {n:Nat} {R:Type}
variable {op:Op} {ty:TypeId} {pos:String} {aft:Array Edge} {d:Nat}
theorem sz{K:Row}{agg:Bool}{V:Row}:{es:List MapEntry}->{l:List (K.den×V.den)}->gq H F w K agg V es l->∀q∈l,∃e∈es,kK K q.1=aa e.key/\aS H F w agg (.leaf V q.2) e.val
 |[],l,h=>by obtain rfl:l=[]:=h;grind
 |e::es,_,h=>by
  obtain⟨k,x,l',rfl,h1,h2,h3⟩:=h;intro q hq
  rcases ai7.1 hq with rfl|hq
  .grind
  .obtain⟨e',vA,g⟩:=sz h3 q hq
   grind
theorem om{K:Row}{agg:Bool}{V:Row}:{es:List MapEntry}->{l:List (K.den×V.den)}->gq H F w K agg V es l->∀e∈es,∃q∈l,kK K q.1=aa e.key/\aS H F w agg (.leaf V q.2) e.val
 |[],_,_=>λe he=>by cases he
 |e::es,_,h=>by
  obtain⟨k,x,l',rfl,h1,h2,h3⟩:=h;intro e' he
  rcases ai7.1 he with rfl|he
  .simp_all
  .obtain⟨q,hq,g⟩:=om h3 e' he
   grind
def qK{K:Row}{agg:Bool}{V:Row}:{es:List MapEntry}->{l:List (K.den×V.den)}->gq H F w K agg V es l->(es.map (·.key)).Nodup->Ak K l
 |[],l,h,_=>by obtain rfl:l=[]:=h;exact .nil
 |e::es,_,h,hn=>by
  obtain⟨k,x,l',rfl,h1,h2,h3⟩:=h;obtain⟨n1,n2⟩:=List.nodup_cons.1 hn;refine aiT.2 ⟨λq hq=>?_,qK h3 n2⟩
  grind [sz,jt]
def yH{K:Row}{agg:Bool}{V:Row}{e:MapEntry}:{es:List MapEntry}->{l:List (K.den×V.den)}->gq H F w K agg V es l->(es.map (·.born)).Nodup->e∈es->
 ∃p l2,kK K p.1=aa e.key/\aS H F w agg (.leaf V p.2) e.val/\gq H F w K agg V (es.filter λx=> !(x.born==e.born)) l2/\l.Perm (p::l2)
 |[],_,_,_,he=>by cases he
 |e'::es,_,h,hn,he=>by
  obtain⟨k,x,l',rfl,h1,h2,h3⟩:=h;obtain⟨n1,n2⟩:=List.nodup_cons.1 hn;by_cases hb:e'.born=e.born
  .have dA:e∉es:=(by grind)
   grind [ajX]
  .have vA:e∈es:=(by grind)
   obtain⟨p,l2,g1,g2,g3,g4⟩:=yH h3 n2 vA;rw[List.filter_cons_of_pos (by simpa using hb)];exact⟨p,(k,x)::l2,g1,g2,⟨k,x,l2,rfl,h1,h2,g3⟩,(g4.cons _).trans (.swap ..)⟩
def YI(P:Program)(t:TypeId):Prop:=∀(em:Bool)(a b:Value)(w:World),(Instr.checkKey em 10000 t (.agg #[a,b])).run P w= .ok () w
def IS(T:bj P)(kt:TypeId):Row->Bool
 | .pair (.int j) (.int k)=>match find T.eqs kt with
   |some r=>r.beq (.pair (.int j) (.int k))&&T.kys.any (aiJ kt)
   |none=>ah
 |_=>ah
structure RU(P:Program)(kt:TypeId)(K:Row):Prop where
 chk:∀em x v(w:World),kK K x=aa v->(Instr.checkKey em 10000 kt v).run P w= .ok () w
 find:∀x v(w:World)(es:List MapEntry),kK K x=aa v->(∀e∈es,∃k,kK K k=aa e.key)->
  ((Instr.findKey kt v es).run P w= .ok ae w/\∀e∈es,e.key≠v)\/∃j e,(Instr.findKey kt v es).run P w= .ok (aa (j,e.val)) w/\es[j]? =aa e/\e.key=v
 stays:∀x v(w:World),kK K x=aa v->(Instr.keyThatStays v v).run P w= .ok v w
 rep:∀(F:Nat->Prop)(w:World)cs x,cS F w K cs x->kK K x=aa (.agg cs.toArray)
def GQ(T:bj P){kt:TypeId}{K:Row}(h:IS T kt K=af):RU P kt K:=by
 unfold IS at h;split at h
 case h_2=>cases h
 rename_i j k;split at h
 case h_2=>cases h
 rename_i r he;obtain⟨h1,h2⟩:=cI h;obtain rfl:=Row.eq_of_beq h1;obtain⟨KK,dd,hE,hd,_,hD⟩:=T.eqs_ok _ _ he;have hck:YI P kt:=T.kys_ok _ (any_beq.1 h2)
 have rep:∀(F:Nat->Prop)(w:World)cs(x:Int×Int),cS F w (.pair (.int j) (.int k)) cs x->cs=[.int j x.1, .int k x.2]:=by
  rintro F w cs x ⟨c1,c2,rfl,g1,g2⟩
  rw[show c1=_ from g1,show c2=_ from g2];rfl
 have mk:∀(x:Int×Int)(w:World),cS (λ_=>True) w (.pair (.int j) (.int k)) [.int j x.1, .int k x.2] x:=λx w=>⟨[_],[_],rfl,rfl,rfl⟩
 cases hu:P.underlying kt with
 |none=>grind
 |some D=>
  have hA:il D=af:=by rw[hu]at hD;exact hD
  have vY:∀(x y:Int×Int)(w:World),(Op.equal kt (.agg #[.int j x.1, .int k x.2]) (.agg #[.int j y.1, .int k y.2])).run P w= .ok (decide (x=y)) w:=λx y w=>by
   have:=hE dd w w (λ_=>True) _ _ x y (.agg #[.int j x.1, .int k x.2]) (.agg #[.int j y.1, .int k y.2]) ⟨D,hu,by rw[al hA]⟩ ⟨D,hu,by rw[al hA]⟩ (mk x w) (mk y w);rw[hd]at this;unfold Op.equal;rw[show Op.maxDepth=10000 from rfl,this]
  have UX:∀(x:Int×Int)(e:MapEntry)(es:List MapEntry)i,ajr D (.agg #[.int j x.1, .int k x.2]) (e::es) i=ae:=λx e es i=>by
   unfold ajr Instr.sameNow
   grind
  have ask:∀(x:Int×Int)(w:World)(es:List MapEntry)(i:Nat),(∀e∈es,∃y:Int×Int,e.key= .agg #[.int j y.1, .int k y.2])->
   ((aj4 kt (.agg #[.int j x.1, .int k x.2]) es i).run P w= .ok ae w/\∀e∈es,e.key≠ .agg #[.int j x.1, .int k x.2])\/∃q e,(aj4 kt (.agg #[.int j x.1, .int k x.2]) es i).run P w= .ok (aa (i+q,e.val)) w/\es[q]? =aa e/\e.key= .agg #[.int j x.1, .int k x.2]:=by
   intro x w es
   induction es with
   |nil=>intro i _;exact .inl ⟨rfl,λe he=>by cases he⟩
   |cons e es ih=>
    intro i Ue;obtain⟨y,hy⟩:=Ue e (by simp);by_cases r9:x=y
    .subst r9;refine .inr ⟨0,e,?_,rfl,hy⟩;unfold aj4
     simp_all
    .rcases ih (i+1) (λe' vA=>Ue e' (by simp[vA]))with⟨g1,g2⟩|⟨q,e',g1,g2,g3⟩
     .refine .inl ⟨?_,λe' vA=>?_⟩
      .unfold aj4;rw[hy];simp[vY,r9,g1,aiQ]
      grind
     .refine .inr ⟨q+1,e',?_,by simpa using g2,g3⟩;unfold aj4;rw[hy];simp[vY,r9,g1,aiQ,Nat.add_assoc,Nat.add_comm 1]
  refine⟨λem x v w hv=>?_,λx v w es hv Ue=>?_,λx v w hv=>?_,λF w cs x hr=>?_⟩
  .obtain rfl:=aiC hv;exact hck em _ _ w
  .obtain rfl:=aiC hv
   have YJ:∀e∈es,∃y:Int×Int,e.key= .agg #[.int j y.1, .int k y.2]:=λe he=>by
    obtain⟨y,hy⟩:=Ue e he;exact⟨y,(aiC hy).symm⟩
   unfold Instr.findKey
   cases es with
   |nil=>exact .inl ⟨by simp[run_underlying hu,ajr,aiQ],λe he=>by cases he⟩
   |cons e es=>
    rcases ask x w (e::es) 0 YJ with⟨g1,g2⟩|⟨q,e',g1,g2,g3⟩
    .exact .inl ⟨by simp[run_underlying hu,UX,g1,aiQ],g2⟩
    .exact .inr ⟨q,e',by simp[run_underlying hu,UX,g1,aiQ],g2,g3⟩
  .obtain rfl:=aiC hv;unfold Instr.keyThatStays;simp[Instr.sameBits]
  .rw[rep F w cs x hr];rfl
structure SmR where
 o:Nat
 s:Nat
 T:TypeId
 K:Row
 agg:Bool
 V:Row
 l:List (K.den×V.den)
 it:Option (Nat×List (K.den×V.den)×Option (K.den×V.den))
def wy(ob:Nat->Option (Nat×Th)):aF->Option SmR
 | .val ah (.own o)=>match ob o with
   |some (s, .smap T K agg V l it)=>aa ⟨o,s,T,K,agg,V,l,it⟩
   |_=>ae
 |_=>ae
def tH(hs:aL U H F w ob n){D:aF}{m:SmR}{v:Value}(h:wy ob D=aa m)(hd:aE H F w D v):ob m.o=aa (m.s, .smap m.T m.K m.agg m.V m.l m.it)/\H.val m.o=aa v/\iQ H F w (H.sub m.s) v (.smap m.T m.K m.agg m.V m.l m.it):=by
 unfold wy at h;split at h
 .rename_i o;split at h
  .rename_i s T K agg V l it cM;obtain rfl:=aiC h;obtain⟨cs,⟨u,hu,_,e⟩,_,h3⟩:=hd;rw[h3 rfl]at e
   obtain rfl:v=u:=by simpa using e
   obtain⟨v',eR,cL⟩:=hs.obj _ _ _ cM
   grind [Ez.ok]
  .cases h
 .cases h
noncomputable def Al(ob:Nat->Option (Nat×Th))(K:Row):aF->Option K.den
 | .val af t=>flat ob K t
 |_=>ae
def yI(hs:aL U H F w ob n){kt:TypeId}{K:Row}{D:aF}{x:K.den}{v:Value}(hK:RU P kt K)(h:Al ob K D=aa x)(hd:aE H F w D v):kK K x=aa v:=by
 unfold Al at h;split at h
 .obtain⟨cs,h1,h2,_⟩:=hd;rw[h2];exact hK.rep F w cs x (gO hs h h1)
 .cases h
def mN(_:Bool)(T:bj P)(n:Nat)(t:TypeId)(k:ed->Option R):Option R:=
 match find T.und t with
 |some (.map kt vt)=>match find T.row kt with
  |some K=>bif IS T kt K then(match find T.row vt with
   |some V=>match find T.und vt with
    |some kk=>k {dst:= .val ah (.own n),make:=[(n,(n, .smap t K (kL kk) V [] ae))]}
    |none=>ae
   |none=>ae)else ol T n t k
  |none=>ae
 |_=>ae
def Am(b:Bool)(T:bj P){t:TypeId}{k:ed->Option R}{q:R}(h:mN b T n t k=aa q)(hs:aL U H F w ob n):
 ∃e,k e=aa q/\cE P U H F w ρ ob n ⟨aa d, .makeMap t ae,ty,pos,aft,ae⟩ e:=by
 unfold mN at h;split at h
 case h_2=>cases h
 split at h
 case h_2=>cases h
 rename_i K _
 cases hc:IS T _ K with
 |false=>rw[hc,cond_false]at h;exact BX T h hs
 |true=>
  rw[hc,cond_true]at h;split at h
  case h_2=>cases h
  rename_i V _;split at h
  case h_2=>cases h
  rename_i kk _
  have bD:(execOp (ev ρ) ⟨aa d, .makeMap t ae,ty,pos,aft,ae⟩).run P w= .ok (.value (.map (aa w.heap.size))) (w.alloc (.map #[] 0)):=by
   simp[execOp,Instr.makeMap,aiQ]
  refine⟨_,h,ct.val bD ?_⟩
  have hv:(((H.eL n (is w.heap.size)).bG n (.smap t K (kL kk) V [] ae)).cN n (.map (aa w.heap.size))).val n=aa (.map (aa w.heap.size)):=by simp[aK.cN]
  refine lD.OU (v0:= .map (aa w.heap.size)) (S:=is w.heap.size) hs rfl rfl (oh _) ⟨_, #[],0,[],rfl,rfl,(heap_alloc w _).1,stamped_empty 0,rfl, .refl _,trivial⟩ (λk hk=>?_) (nB hv rfl);have hk:k=w.heap.size:=hk;subst hk;exact⟨λe=>by have:=hs.lt _ e;omega,by simp, .inl (aiH _)⟩
def sA{RP kt et:TypeId}{K:Row}{b clock:Nat}{es:Array MapEntry}{x:K.den}{key val:Value}(hm:P.underlying RP=aa (.map kt et))(hK:RU P kt K)(hx:kK K x=aa key)(hb:w.heap[b]? =aa (.map es clock))(Ue:∀e∈es.toList,∃k,kK K k=aa e.key):
 ((ajE RP (.map (aa b)) key val).run P w= .ok () {w with heap:=w.heap.setIfInBounds b (.map (es.push {key,val,born:=clock}) (clock+1))}/\∀e∈es.toList,e.key≠key)\/
 ∃j e,es.toList[j]? =aa e/\e.key=key/\(ajE RP (.map (aa b)) key val).run P w= .ok () {w with heap:=w.heap.setIfInBounds b (.map (es.modify j λe=>{e with key,val}) clock)}:=by
 rcases hK.find x key w es.toList hx Ue with⟨h1,h2⟩|⟨j,e,h1,h2,h3⟩
 .exact .inl ⟨by simp[ajE,run_underlying hm,ajg hb,hK.chk _ _ _ _ hx,h1,ajL _ hb,aiQ],h2⟩
 .refine .inr ⟨j,e,h2,h3,?_⟩
  have hj:es[j]? =aa e:=by simpa using h2
  simp[ajE,run_underlying hm,ajg hb,hK.chk _ _ _ _ hx,h1,hj,h3,hK.stays _ _ _ hx,ajL _ hb,aiQ]
def yJ{K:Row}{agg:Bool}{V:Row}{e:MapEntry}{x:K.den}{y:V.den}(hk:kK K x=aa e.key)(hv:aS H F w agg (.leaf V y) e.val):{es:List MapEntry}->{l:List (K.den×V.den)}->gq H F w K agg V es l->gq H F w K agg V (es++[e]) (l++[(x,y)])
 |[],l,h=>by obtain rfl:l=[]:=h;exact⟨x,y,[],rfl,hk,hv,rfl⟩
 |e'::es,_,h=>by
  obtain⟨k,z,l',rfl,h1,h2,h3⟩:=h;exact⟨k,z,_,rfl,h1,h2,yJ hk hv h3⟩
def uC{K:Row}{agg:Bool}{V:Row}{x:K.den}{y:V.den}{key:Value}{f:MapEntry->MapEntry}(hx:kK K x=aa key)(hf:∀e:MapEntry,(f e).key=key)(hv:∀e,aS H F w agg (.leaf V y) (f e).val):{es:List MapEntry}->{l:List (K.den×V.den)}->{j:Nat}->{e:MapEntry}->
 gq H F w K agg V es l->Ak K l->es[j]? =aa e->e.key=key->∃l2,gq H F w K agg V (es.modify j f) l2/\l2.Perm ((x,y)::l.filter λp=> !eT K p.1 x)
 |[],_,_,_,_,_,hj,_=>by simp at hj
 |e'::es,_,0,e,h,hd,hj,Uf=>by
  obtain⟨k,z,l',rfl,h1,h2,h3⟩:=h;obtain⟨d1,d2⟩:=aiT.1 hd
  obtain rfl:e'=e:=by simpa using hj
  have YK:eT K k x=af:=(jt h1 hx).2 Uf;obtain rfl:=pL YK;refine⟨(k,y)::l',⟨k,y,l',rfl,by grind,hv _,h3⟩,?_⟩
  grind [rG,ajX]
 |e'::es,_,j+1,e,h,hd,hj,Uf=>by
  obtain⟨k,z,l',rfl,h1,h2,h3⟩:=h;obtain⟨d1,d2⟩:=aiT.1 hd
  have Oh:es[j]? =aa e:=by simpa using hj
  obtain⟨l2,g1,g2⟩:=uC hx hf hv h3 d2 Oh Uf;obtain⟨q,hq,XC,_⟩:=om h3 e (List.mem_of_getElem? Oh);have hqx:eT K q.1 x=af:=(jt XC hx).2 Uf;obtain rfl:=pL hqx;have dA:eT K k q.1=ah:=d1 q hq;refine⟨(k,z)::l2,⟨k,z,l2,rfl,h1,h2,g1⟩,?_⟩
  grind
noncomputable def kA(T:bj P)(ob:Nat->Option (Nat×Th))(n:Nat)(t:TypeId)(M X Y:aF)(k:ed->Option R):Option R:=
 match wy ob M with
 |some m=>match find T.und t with
  |some (.map kt _)=>bif IS T kt m.K then(match Al ob m.K X with
   |some x=>match Y with
    | .val eV tr=>bif (bif m.agg then eV else !eV)then(match flat ob m.V tr with
      |some y=>k {dst:= .dead,eat:=[m.o],make:=[(m.o,(n, .smap m.T m.K m.agg m.V (q6 m.K m.l x y) ae))]}
      |none=>ae)else ae
    |_=>ae
   |none=>ae)else ae
  |_=>ae
 |none=>lE T ob n t M X Y k
def wz(T:bj P){t:TypeId}{M X Y:aF}{m x y:Operand}{k:ed->Option R}{q:R}(h:kA T ob n t M X Y k=aa q)(hs:aL U H F w ob n)(hm:aE H F w M (ev ρ m))(hx:aE H F w X (ev ρ x))(hy:aE H F w Y (ev ρ y)):
 ∃e,k e=aa q/\cE P U H F w ρ ob n ⟨ae, .mapUpdate t m x y,ty,pos,aft,ae⟩ e:=by
 unfold kA at h;split at h
 case h_2=>exact xV T h hs hm hx hy
 rename_i r sv;obtain⟨cM,hv,np⟩:=tH hs sv hm;obtain⟨o,s,T0,K,agg,V,l,it⟩:=r;dsimp only at h cM hv np;split at h
 case h_2=>cases h
 rename_i kt vt hu;obtain⟨hc,h'⟩:=aV h;clear h;split at h'
 case h_2=>cases h'
 rename_i a ha;split at h'
 case h_2=>cases h'
 rename_i eV tr;obtain⟨rC,h⟩:=aV h';clear h'
 have rC:agg=eV:=by cases agg<;>cases eV<;>simp_all
 subst rC;split at h
 case h_2=>cases h
 rename_i z hz;refine⟨_,h,?_⟩;have hK:=GQ T hc;have py:=yI hs hK ha hx
 have px:aS H F w agg (.leaf V z) (ev ρ y):=by
  obtain⟨cs,h1,h2⟩:=hy;exact⟨cs,gO hs hz h1,h2⟩
 obtain⟨b,es,clock,l',nM,Ug,hh,iq,wk,IC,_⟩:=np;have yK:=qK wk iq.2.2
 have ke:cx H ob [o] b:=⟨o,by simp,s,_,_,cM,hv,Ug⟩
 have hf:=hs.fresh n (aiH _) (by omega)
 have fin:∀o',(ajE t (.map (aa b)) (ev ρ x) (ev ρ y)).run P w= .ok () {w with heap:=w.heap.setIfInBounds b o'}->
  (∀(H':aK)(w':World),H.le H'->Step F w F w'->∃my nO l2,o'= .map my nO/\Stamped my nO/\gq H' F w' K agg V my.toList l2/\l2.Perm (q6 K l a z))->
  cE P U H F w ρ ob n ⟨ae, .mapUpdate t m x y,ty,pos,aft,ae⟩ {dst:= .dead,eat:=[o],make:=[(o,(n, .smap T0 K agg V (q6 K l a z) ae))]}:=by
  intro o' bD Lp;refine ct.unit (w':={w with heap:=w.heap.setIfInBounds b o'}) ?_ ?_
  .simp[execOp,nM,bD,aiQ]
  .have nP:∀k,k≠b->(w.heap.setIfInBounds b o')[k]? =w.heap[k]? :=(heap_set hh).2
   have dZ:Step F w F {w with heap:=w.heap.setIfInBounds b o'}:=λc hc=>⟨hc,nP c λe=>by subst e;exact hs.fj _ ke hc⟩
   obtain⟨my,nO,l2,rfl,g1,g2,g3⟩:=Lp ((H.eL n (is b)).bG n (.smap T0 K agg V (q6 K l a z) ae)) _ (aK.qE hf.2) dZ;refine lD.Ac (t':= .smap T0 K agg V (q6 K l a z) ae) hs cM hv rfl (by simp) (is b) (λk hk=>?_) ⟨rfl,⟨rfl,aiH _⟩,rfl,by simp,(by grind)⟩ ⟨b,my,nO,l2,nM,rfl,(heap_set hh).1,g1,g2,g3,trivial⟩ trivial;have hk:k=b:=hk
   grind
 have vd:(l'.filter λp=> !eT K p.1 a).Perm (l.filter λp=> !eT K p.1 a):=IC.filter _;have tn:((a,z)::l'.filter λp=> !eT K p.1 a).Perm (q6 K l a z):=(vd.cons _).trans (qJ a z _).symm
 rcases sA (val:=ev ρ y) (T.und_ok _ _ hu) hK py hh (λe he=>by grind [om])with⟨bD,Et⟩|⟨j,e,hj,Uf,bD⟩
 .refine fin _ bD λH' w' hH dZ=>⟨_,_,l'++[(a,z)],rfl,stamped_push iq Et,?_,?_⟩
  .rw[Array.toList_push];exact yJ py (px.keep hH dZ) (wk.keep hH dZ)
  .have e:l'.filter (λp=> !eT K p.1 a)=l':=ajX.2 λq hq=>by
    grind [sz,jt]
   grind
 .refine fin _ bD λH' w' hH dZ=>?_
  obtain⟨l2,g1,g2⟩:=uC (f:=λe=>{e with key:=ev ρ x,val:=ev ρ y}) py (λ_=>rfl) (λ_=>px.keep hH dZ) (wk.keep hH dZ) yK hj Uf;refine⟨_,_,l2,rfl,stamped_modify iq _ _ (λ_ _=>rfl) (λe' _ vA=>?_),by grind,g2.trans tn⟩
  grind
def GR{K:Row}{α:Type}{x:K.den}:{l:List (K.den×α)}->Ak K l->∀q∈l,eT K q.1 x=af->bV K l x=aa q.2
 |p::l,hd,q,hq,hx=>by
  obtain⟨d1,d2⟩:=aiT.1 hd;unfold bV
  rcases ai7.1 hq with rfl|hq
  .rw[al hx]
  .have:¬eT K p.1 x=af:=λg=>by
    grind [pL]
   rw[aj this];exact GR d2 q hq hx
def B9{K:Row}{α:Type}{x:K.den}:{l:List (K.den×α)}->(∀q∈l,eT K q.1 x=ah)->bV K l x=ae
 |[],_=>rfl
 |p::l,h=>by
  unfold bV;rw[aj (by grind)]
  exact B9 λq hq=>h q (by simp[hq])
noncomputable def oo(T:bj P)(ob:Nat->Option (Nat×Th))(_n:Nat)(t:TypeId)(ok:Bool)(M X:aF)(k:ed->Option R):Option R:=
 match wy ob M with
 |some m=>match find T.und t with
  |some (.map kt vt)=>match find T.zer vt with
   |some (eV,V')=>bif IS T kt m.K&&(bif m.agg then eV else !eV)&&V'.beq m.V&&(m.agg||aiJ m.V.size 1)then(match Al ob m.K X with
    |some x=>bif ok then k {dst:= .tup [(m.agg, .leaf m.V ((bV m.K m.l x).getD m.V.zero)),(ah, .leaf .bool (bV m.K m.l x).isSome)]}
     else k {dst:= .val m.agg (.leaf m.V ((bV m.K m.l x).getD m.V.zero))}
    |none=>ae)else ae
   |none=>ae
  |_=>ae
 |none=>qC T ob t ok M X k
def Ca(T:bj P){t:TypeId}{ok:Bool}{M X:aF}{m x:Operand}{k:ed->Option R}{q:R}(h:oo T ob n t ok M X k=aa q)(hs:aL U H F w ob n)(hm:aE H F w M (ev ρ m))(hx:aE H F w X (ev ρ x)):
 ∃e,k e=aa q/\cE P U H F w ρ ob n ⟨aa d, .lookup t m x ok,ty,pos,aft,ae⟩ e:=by
 unfold oo at h;split at h
 case h_2=>exact EO T h hs hm hx
 rename_i r sv;obtain⟨cM,hv,np⟩:=tH hs sv hm;obtain⟨o,s,T0,K,agg,V,l,it⟩:=r;dsimp only at h cM hv np;split at h
 case h_2=>cases h
 rename_i kt vt hu;split at h
 case h_2=>cases h
 rename_i eV V' hz;obtain⟨hc,h'⟩:=aV h;clear h;obtain⟨hc,Uc⟩:=cI hc;obtain⟨hc,Lr⟩:=cI hc;obtain⟨yu,BF⟩:=cI hc
 have rC:agg=eV:=by cases agg<;>cases eV<;>simp_all
 subst rC;obtain rfl:=Row.eq_of_beq Lr;split at h'
 case h_2=>cases h'
 rename_i a ha;have hK:=GQ T yu;have py:=yI hs hK ha hx;obtain⟨b,es,clock,l',nM,Ug,hh,iq,wk,IC,_⟩:=np;have yK:=qK wk iq.2.2;have RV:bV K l a=bV K l' a:=(EZ IC yK).symm
 have mh:agg=ah->V'.size=1:=λe=>by simp_all
 obtain⟨z,EI,GD⟩:=BY (w:=w) (H:=H) (F:=F) (T.zer_ok _ _ _ hz) mh;have GN:=T.und_ok _ _ hu
 have main:∃v,(aj3 t (ev ρ m) (ev ρ x) ok).run P w= .ok (if ok then .tuple #[v, .bool (bV K l a).isSome]else v) w/\aS H F w agg (.leaf V' ((bV K l a).getD V'.zero)) v:=by
  rw[RV]
  rcases hK.find a _ w es.toList py (λe he=>by grind [om])with⟨h1,h2⟩|⟨j,e,h1,h2,h3⟩
  .have hn:bV K l' a=ae:=B9 λq hq=>by
    grind [sz,jt]
   refine⟨z,?_,by grind⟩;rw[nM,hn];simp[aj3,run_underlying GN,ajg hh,hK.chk _ _ _ _ py,h1,EI,aiQ]
  .obtain⟨q,hq,XC,hqv⟩:=om wk e (List.mem_of_getElem? h2);have hl:=GR yK q hq ((jt XC py).2 h3);refine⟨e.val,?_,by grind⟩;rw[nM,hl];simp[aj3,run_underlying GN,ajg hh,hK.chk _ _ _ _ py,h1,aiQ]
 obtain⟨v,bD,np⟩:=main
 cases ok with
 |true=>
  refine⟨_,h',bP hs (v:= .tuple #[v, .bool (bV K l a).isSome]) (by simp[execOp,bD,aiQ]) ⟨[v, .bool (bV K l a).isSome],rfl,_,_,rfl,np,_,_,rfl,aS.ga ..,rfl⟩⟩
 |false=>exact⟨_,h',bP hs (v:=v) (by simp[execOp,bD,aiQ]) np⟩
def tI(T:bj P)(ob:Nat->Option (Nat×Th))(n:Nat)(t:TypeId)(M:aF)(k:ed->Option R):Option R:=
 match wy ob M with
 |some m=>match find T.und t with
  |some (.map _ _)=>k {dst:= .ptr (n+1) [] 0,eat:=[m.o],make:=[(m.o,(n, .smap m.T m.K m.agg m.V m.l (aa (n+1,m.l,ae))))]}
  |_=>ae
 |none=>ae
def E0(es:Array MapEntry):leftOf es #[]=es:=by
 unfold leftOf
 simp_all
def IT(T:bj P){t:TypeId}{M:aF}{m:Operand}{k:ed->Option R}{q:R}(h:tI T ob n t M k=aa q)(hs:aL U H F w ob n)(hm:aE H F w M (ev ρ m)):
 ∃e,k e=aa q/\cE P U H F w ρ ob n ⟨aa d, .range t m,ty,pos,aft,ae⟩ e:=by
 unfold tI at h;split at h
 case h_2=>cases h
 rename_i r sv;obtain⟨cM,hv,np⟩:=tH hs sv hm;obtain⟨o,s,T0,K,agg,V,l,it⟩:=r;dsimp only at h cM hv np;split at h
 case h_2=>cases h
 rename_i kt vt hu;obtain⟨b,es,clock,l',nM,Ug,hh,iq,wk,IC,_⟩:=np;have UY:b<w.heap.size:=(ajc.1 hh).1
 have ke:cx H ob [o] b:=⟨o,by simp,s,_,_,cM,hv,Ug⟩
 obtain⟨v1,vx,cL⟩:=hs.obj _ _ _ cM;rw[hv]at vx;obtain rfl:=aiC vx
 have bD:(execOp (ev ρ) ⟨aa d, .range t m,ty,pos,aft,ae⟩).run P w= .ok (.value (.pointer (aa ⟨w.heap.size,0,ae⟩))) (w.alloc (.mapIter (aa b) clock #[] clock)):=by
  simp[execOp,nM,run_range_map w t kt vt b es clock (T.und_ok _ _ hu) hh,aiQ]
 refine⟨_,h,ct.val bD ?_⟩;have hf:=hs.fresh n (aiH _) (by omega);have YL:=hs.fresh (n+1) (by omega) (by omega)
 let S':Nat->Prop:=λk=>k=b\/k=w.heap.size
 let t':Th:= .smap T0 K agg V l (aa (n+1,l,ae))
 let H1:aK:=((H.eL n S').bG n t').cN (n+1) (.pointer (aa ⟨w.heap.size,0,ae⟩))
 have hle:H.le H1:=(aK.qE hf.2).trans (aK.qy (by simpa[aK.bG,aK.eL]using YL.1))
 have hvn:H1.val (n+1)=aa (.pointer (aa ⟨w.heap.size,0,ae⟩)):=by simp[H1,aK.cN]
 have iS:H1.sub n=S':=by simp[H1,aK.cN,aK.bG,aK.eL]
 have YM:H1.con n=aa t':=by simp[H1,aK.cN,aK.bG,aK.eL]
 have dZ:Step F w F (w.alloc (.mapIter (aa b) clock #[] clock)):=λc hc=>⟨hc,by rw[heap_alloc_old _ _ (hs.lt c hc)]⟩
 refine⟨H1,F,⟨hle,oh _,λ_ h=>h,λ_ h=> .inl h,λc hc=>by have:=hs.lt c hc;simp;omega⟩,λm hm=>?_,⟨_,hvn,rfl⟩,⟨λo' s' q hq=>?_,λo1 o2 s1 s2 q1 q2 u1 u2 dA h1 h2=>?_⟩,λo' h=>?_⟩
 .have a1:m≠n:=by omega
  have a2:m≠n+1:=by omega
  simp[H1,aK.cN,aK.bG,aK.eL,a1,a2]
 .obtain⟨rfl,e⟩:=fk hq;obtain⟨rfl,rfl⟩:=Prod.mk.inj e;refine⟨_,hle.val _ _ hv,cL.one,YM,?_,λk hk=>?_⟩
  .rw[iS];refine⟨b,es,clock,l',nM, .inl rfl,by rw[heap_alloc_old _ _ UY];exact hh,iq,wk.keep hle dZ,IC,w.heap.size,clock, #[],clock, .inr rfl,λe=>by omega,hvn,heap_alloc_new w _,iq.1,aiH _,aiH _,⟨l',?_,IC⟩,λp hp=>by cases hp⟩;rw[E0];exact wk.keep hle dZ
  .rw[iS]at hk;have hk:k=b\/k=w.heap.size:=hk
   rcases hk with rfl|rfl
   .exact⟨hs.fj _ ke,by simp;omega, .inr ke⟩
   .exact⟨λe=>by have:=hs.lt _ e;omega,by simp, .inl (aiH _)⟩
 all_goals grind [fk,ajb]
open Classical in
noncomputable def OW{α β:Type}(p:α->Prop)(k:α->Option β):Option β:=if h:∃r,(∃x,p x)/\∀x,p x->k x=aa r then aa h.choose else ae
def Lx{α β:Type}{p:α->Prop}{k:α->Option β}{q:β}(h:OW p k=aa q):∀x,p x->k x=aa q:=by
 unfold OW at h;split at h
 all_goals grind
def RW{α β:Type}{p:α->Prop}{k:α->Option β}{q:β}(h0:∃x,p x)(h:∀x,p x->k x=aa q):OW p k=aa q:=by
 have hd:∃r,(∃x,p x)/\∀x,p x->k x=aa r:=⟨q,h0,h⟩
 unfold OW;rw[dif_pos hd]
 grind
def An(nn:Nat):List (Nat×(Nat×Th))->Option Nat
 |[]=>ae
 |(o,(_, .smap _ _ _ _ _ (aa (n',_,_))))::l=>bif aiJ n' nn then aa o else An nn l
 |_::l=>An nn l
def GS:Row->Bool
 | .pair (.int _) (.int _)=>af
 |_=>ah
noncomputable def mT{α:Type}(K:Row)(l:List (K.den×α))(k:K.den):List (K.den×α):=l.filter λq=> !eT K q.1 k
noncomputable def Ly(objs:List (Nat×(Nat×Th)))(n:Nat)(X:aF)(k:ed->Option R):Option R:=
 match X with
 | .ptr nn [] 0=>match An nn objs with
   |some o=>match find objs o with
    |some (_, .smap T K agg V l (aa (n',left,_)))=>bif aiJ n' nn&&GS K then
      (if left.isEmpty=af then k {dst:= .tup [(ah, .leaf .bool ah)]}
      else OW (λp=>p∈left) λp=>k {dst:= .tup [(ah, .leaf .bool af),(af, .leaf K p.1),(agg, .leaf V p.2)],eat:=[o],make:=[(o,(n, .smap T K agg V l (aa (nn,mT K left p.1,aa p))))]})else ae
    |_=>ae
   |none=>ae
 |_=>ae
def Cb{K:Row}{x:K.den}{v:Value}(hK:GS K=af)(h:kK K x=aa v):aS H F w af (.leaf K x) v:=by
 unfold GS at hK;split at hK
 .obtain rfl:=aiC h;exact⟨[_,_],⟨[_],[_],rfl,rfl,rfl⟩,rfl,λe=>by cases e⟩
 .cases hK
def Cc(es:Array MapEntry)(seen:Array Nat)(b:Nat):(leftOf es (seen.push b)).toList=(leftOf es seen).toList.filter λx=> !(x.born==b):=by
 unfold leftOf;rw[ajY,ajY,List.filter_filter]
 grind
def Lz{objs:List (Nat×(Nat×Th))}{X:aF}{x:Operand}{k:ed->Option R}{q:R}(h:Ly objs n X k=aa q)(hs:aL U H F w (find objs) n)(hx:aE H F w X (ev ρ x)):
 ∃e,k e=aa q/\cE P U H F w ρ (find objs) n ⟨aa d, .next x ah,ty,pos,aft,ae⟩ e:=by
 unfold Ly at h;split at h
 case h_2=>cases h
 rename_i nn;split at h
 case h_2=>cases h
 rename_i o _;split at h
 case h_2=>cases h
 rename_i s T K agg V l n' left cur cM;obtain⟨hc,h'⟩:=aV h;clear h;obtain⟨yu,hK⟩:=cI hc;obtain rfl:=beq_true yu;obtain⟨v,hv,cL⟩:=hs.obj _ _ _ cM;obtain⟨b,es,clock,l',nM,Ug,hh,iq,wk,IC,r,since,seen,last,hSr,YN,XD,hr,hold,gW,XE,⟨l2,XF,OK⟩,_⟩:=cL.ok;obtain⟨b0,Bx,Gz⟩:=hx;rw[XD]at Bx;cases Bx;have YC:r<w.heap.size:=(ajc.1 hr).1
 rcases run_next_at (P:=P) w ty r b since last seen es clock hr hh hold gW with⟨h0,bD⟩|⟨e,he,w1,XG,bD⟩
 .have hle:l2=[]:=by
   have:(leftOf es seen).toList=[]:=by rw[Array.toList_eq_nil_iff];exact Array.eq_empty_of_size_eq_zero h0
   rw[this]at XF;exact XF
  subst hle;obtain rfl:left=[]:=OK.nil_eq.symm;rw[al (show([]:List (K.den×V.den)).isEmpty=af from rfl)]at h';exact⟨_,h',bP hs (v:= .tuple #[.bool ah]) (by simp[execOp,Gz,bD,aiQ]) ⟨[.bool ah],rfl,_,_,rfl,aS.ga ..,rfl⟩⟩
 .have UZ:((leftOf es seen).toList.map (·.born)).Nodup:=by
   unfold leftOf;rw[ajY];exact(iq.2.1.sublist ((List.filter_sublist).map _))
  have U0:((leftOf es seen).toList.map (·.key)).Nodup:=by
   unfold leftOf;rw[ajY];exact(iq.2.2.sublist ((List.filter_sublist).map _))
  obtain⟨p,l3,g1,g2,g3,g4⟩:=yH XF UZ he;have tJ:p∈left:=OK.mem_iff.1 (g4.mem_iff.2 (by simp))
  have dA:¬left.isEmpty=af:=by
   cases left with
   |nil=>cases tJ
   |cons _ _=>simp
  rw[aj dA]at h';refine⟨_,Lx h' p tJ,?_⟩
  have YO:e∈es.toList:=by
   have:e∈(leftOf es seen).toList:=he;unfold leftOf at this;rw[ajY]at this;exact(aji.1 this).1
  have OX:w1.heap=w.heap:=by rcases XG with rfl|rfl<;>rfl
  have nP:∀k,k≠r->(ajN w1 r (.mapIter (aa b) since (seen.push e.born) clock)).heap[k]? =w.heap[k]? :=λk hk=>by
   rw[<-OX];exact(heap_set (w:=w1) (by rw[OX];exact hr)).2 k hk
  have U1:(ajN w1 r (.mapIter (aa b) since (seen.push e.born) clock)).heap[r]? =aa (.mapIter (aa b) since (seen.push e.born) clock):=(heap_set (w:=w1) (by rw[OX];exact hr)).1
  have ke:∀k,H.sub s k->cx H (find objs) [o] k:=λk hk=>⟨o,by simp,s,_,_,cM,hv,hk⟩
  have hf:=hs.fresh n (aiH _) (by omega)
  let t':Th:= .smap T K agg V l (aa (n',mT K left p.1,aa p))
  let S':Nat->Prop:=λk=>k=b\/k=r
  have hle:H.le ((H.eL n S').bG n t'):=aK.qE hf.2
  have dZ:Step F w F (ajN w1 r (.mapIter (aa b) since (seen.push e.born) clock)):=λc hc=>⟨hc,nP c λg=>by subst g;exact hs.fj _ (ke _ hSr) hc⟩
  refine ct.val (v:= .tuple #[.bool af,e.key,e.val]) (w':=ajN w1 r (.mapIter (aa b) since (seen.push e.born) clock)) (by simp[execOp,Gz,bD,aiQ]) ?_
  have bS:Ext (cx H (find objs) [o]) w (ajN w1 r (.mapIter (aa b) since (seen.push e.born) clock)):=by
   rcases XG with rfl|rfl
   .exact⟨rfl,⟨rfl,aiH _⟩,rfl,by simp[ajN],(by grind)⟩
   .exact⟨rfl,⟨rfl,Nat.le_succ _⟩,rfl,by simp[ajN,OX],(by grind)⟩
  have yK:Ak K left:=(qK XF U0).perm OK.symm;refine lD.Ac (t':=t') hs cM hv rfl (by simp) S' (λk hk=>?_) bS ?_ ?_
  .have hk:k=b\/k=r:=hk
   grind
  .refine⟨b,es,clock,l',nM, .inl rfl,(nP b YN.symm).trans hh,iq,wk.keep hle dZ,IC,r,since,seen.push e.born,clock, .inr rfl,YN,hle.val _ _ XD,U1,hold,XE,XE,⟨l3,?_,?_⟩,λp' Ei=>?_⟩
   .rw[Cc];exact g3.keep hle dZ
   .have vd:left.Perm (p::l3):=OK.symm.trans g4;have hd3:Ak K (p::l3):=yK.perm vd.symm;refine List.Perm.trans ?_ (vd.filter _).symm
    rw[List.filter_cons_of_neg (by
     grind [jt])]
    rw[ajX.2 λq hq=>by rw[rG ((aiT.1 hd3).1 q hq)];rfl]
   .obtain rfl:=aiC Ei;exact⟨rfl,e,YO,⟨seen,rfl⟩,g1,g2.keep hle dZ⟩
  .exact⟨[.bool af,e.key,e.val],rfl,_,_,rfl,aS.ga ..,_,_,rfl,Cb hK g1,_,_,rfl,g2.keep hle dZ,rfl⟩
def E1(objs:List (Nat×(Nat×Th)))(X:aF):Option aF:=
 match X with
 | .ptr nn [] 0=>match An nn objs with
   |some o=>match find objs o with
    |some (_, .smap _ K agg V _ (aa (n',_,aa p)))=>bif aiJ n' nn&&GS K then aa (.tup [(af, .leaf K p.1),(agg, .leaf V p.2)])else ae
    |_=>ae
   |none=>ae
 |_=>ae
theorem IU{objs:List (Nat×(Nat×Th))}{X D:aF}{x:Operand}(h:E1 objs X=aa D)(hs:aL U H F w (find objs) n)(hx:aE H F w X (ev ρ x)):
 cE P U H F w ρ (find objs) n ⟨aa d, .entry x,ty,pos,aft,ae⟩ {dst:=D}:=by
 unfold E1 at h;split at h
 case h_2=>cases h
 rename_i nn;split at h
 case h_2=>cases h
 rename_i o _;split at h
 case h_2=>cases h
 rename_i s T K agg V l n' left p cM;obtain⟨hc,h'⟩:=aV h;obtain⟨yu,hK⟩:=cI hc;obtain rfl:=beq_true yu;obtain rfl:=aiC h';obtain⟨v,hv,cL⟩:=hs.obj _ _ _ cM;obtain⟨b,es,clock,l',nM,Ug,hh,iq,wk,IC,r,since,seen,last,hSr,YN,XD,hr,hold,gW,_,_,YP⟩:=cL.ok;obtain⟨rfl,e,he,⟨s0,rfl⟩,g1,g2⟩:=YP p rfl;obtain⟨b0,Bx,Gz⟩:=hx;rw[XD]at Bx;cases Bx;have bD:=run_entry_at (P:=P) w r b since s0 es last e hr hh he iq.2.1;exact bP hs (v:= .tuple #[e.key,e.val]) (by simp[execOp,Gz,bD,aiQ]) ⟨[e.key,e.val],rfl,_,_,rfl,Cb hK g1,_,_,rfl,g2,rfl⟩
end
end
section
open Go Go.RowKit Go.MapKept
section
variable {P:Program} {ρ:Nat->Value} {w w':World} {H H':aK} {F F':Nat->Prop} {U:Nat->Prop} {ob:Nat->Option (Nat×Th)} {n:Nat} {R:Type}
variable {op:Op} {ty:TypeId} {pos:String} {aft:Array Edge} {d:Nat}
noncomputable def QM(ob:Nat->Option (Nat×Th))(n o:Nat):Option ed:=Lu ob n o
def E2(hs:aL U H F w ob n){o:Nat}{e:ed}(h:QM ob n o=aa e):mz H F w ob n e undef w:=IM hs h
def DR.tK:(d:DR)->d.low.fi=d.row.fi
 | .leaf _=>rfl
 | .sl _ _=>rfl
 | .pair a b=>by show a.low.fi++b.low.fi=a.row.fi++b.row.fi;rw[a.tK,b.tK]
def LA{α β:Type}{l m out:List α}{lx ly:List β}(h:cz l m=aa out)(h1:lx.length=l.length)(h2:ly.length=m.length):cz lx ly=aa (lx++ly)/\out=l++m:=by
 grind [cz]
def uD(T:bj P){t e:TypeId}{r:Row}(hu:find T.und t=aa (.slice e))(hr:find T.row e=aa r){dr:DR}(lz:dr.row=r){x y:Operand}{l m out:List dr.row.den}{Sx:Nat->Prop}{eat:List Nat}{o2 s2:Nat}
 (hs:aL U H F w ob n)(hx:Il F w e dr.low (λ_=>kI F w dr) (ev ρ x) l Sx)(YQ:∀k,Sx k->¬F k)(hxe:∀k,Sx k->cx H ob eat k)(If:∀k,Sx k->k<w.heap.size)
 (vf:ob o2=aa (s2, .deep e dr m ae))(nM:H.val o2=aa (ev ρ y))(ho2:o2∈eat)(OY:∀k,Sx k->¬H.sub s2 k)(ha:cz l m=aa out):
 cE P U H F w ρ ob n ⟨aa d, .call {callee:= .builtin .append,args:= #[x,y],argTypes:= #[t,t]},ty,pos,aft,ae⟩ {dst:= .val ah (.own n),eat:=eat,make:=[(n,(n, .deep e dr out ae))]}:=by
 obtain⟨lx,YR,ON,UD,hrx,GU⟩:=hx;obtain⟨ly,Sy,hoy,Yf,hry,RX⟩:=hs.low vf nM;obtain⟨v2,Ih,OZ⟩:=hs.obj _ _ _ vf;rw[nM]at Ih;obtain rfl:=aiC Ih;obtain⟨Kx,rfl⟩:=LA ha UD Yf;obtain⟨ti,z,h1,h2,h3,h4,h5⟩:=T.row_ok _ _ hr;have ht:=T.und_ok _ _ hu;subst lz;obtain⟨v',w',bD,bS,gY,hm⟩:=vR ty ht h1 h2 (h3.trans dr.tK.symm) (h4.trans dr.size.symm) h5 (base:=0) (l:=lx) ⟨λk hk=>YQ k (GU.bU k hk),ON⟩ hoy.reads Kx hs.lt (Nat.zero_le _)
 have iq:Step F w F w':=Step.ext bS hs.lt λk hk=>YQ k (GU.bU k hk)
 have XH:∀k,H.sub s2 k->cx H ob eat k:=λk hk=>⟨o2,ho2,s2,_,_,vf,nM,hk⟩
 have ack:∀i,i<l.length->∀k,YR i k->w'.heap[k]? =w.heap[k]? :=λi hi k hk=>bS.block k (If k (GU.part hi k hk)) (GU.out i k hi hk)
 have U2:∀i,i<m.length->∀k,Sy i k->w'.heap[k]? =w.heap[k]? :=λi hi k hk=>bS.block k (OZ.lt k (RX.part hi k hk)) λLB=>OY k (GU.bU k LB) (RX.part hi k hk)
 have hlen:(l++m).length=l.length+m.length:=List.length_append
 have hvb:∀k,bU v' k->(Sx k/\bU (ev ρ x) k)\/k=w.heap.size:=by
  intro k hk
  rcases hm with g|g
  .rw[g]at hk;exact .inl ⟨GU.bU k hk,hk⟩
  .simp_all
 let SS:Nat->Nat->Prop:=λi=>if i<l.length then YR i else Sy (i-l.length)
 have Uh:∀i k,i<l.length->SS i k->YR i k:=(by grind)
 have Ui:∀i k,¬i<l.length->SS i k->Sy (i-l.length) k:=(by grind)
 have hSS:∀i k,i<(l++m).length->SS i k->Sx k\/H.sub s2 k:=by
  intro i k hi hk;by_cases aH:i<l.length
  .exact .inl (GU.part aH k (Uh i k aH hk))
  .exact .inr (RX.part (by omega) k (Ui i k aH hk))
 have lW:v'.oneCell'=af:=mC.one (T:=e) (r:=dr.low) gY.2;refine ct.val (v:=v') (w':=w') (by simp[execOp,resolve,invoke,builtin,bD]) (lD.OU (t:= .deep e dr (l++m) ae) (S:=rD (bU v') SS (l++m).length) hs rfl lW ⟨bS.os,bS.tape,bS.output,bS.size,λk hk hn=>bS.block k hk λRy=>hn (hxe k (GU.bU k Ry))⟩ ?_ (λk hk=>?_) (nB (o:=n) (v:=v') (by simp[aK.cN]) lW))
 .refine⟨lx++ly,SS,gY.2,by simp[UD,Yf],λi a b=>?_,⟨λk=>Iff.rfl,λi j k hi hj dA hk kG=>?_,λi k hi hk Ry=>?_⟩⟩
  .show kI F w' dr (lx++ly)[i] (l++m)[i] (SS i)
   by_cases aH:i<l.length
   .grind [kI.keep]
   .have e1:(lx++ly)[i]=ly[i-l.length]'(by grind):=by rw[ajm (by omega)];simp only[UD]
    have e2:(l++m)[i]=m[i-l.length]'(by omega):=ajm (by omega)
    have e3:SS i=Sy (i-l.length):=by simp only[SS,aj aH]
    rw[e1,e2,e3];exact kI.keep iq (hry (i-l.length) _ (by omega)) (U2 _ (by omega))
  .by_cases h1:i<l.length<;>by_cases h2:j<l.length
   .exact GU.two i j k h1 h2 dA (Uh i k h1 hk) (Uh j k h2 kG)
   .exact OY k (GU.part h1 k (Uh i k h1 hk)) (RX.part (by omega) k (Ui j k h2 kG))
   .exact OY k (GU.part h2 k (Uh j k h2 kG)) (RX.part (by omega) k (Ui i k h1 hk))
   .exact RX.two (i-l.length) (j-l.length) k (by omega) (by omega) (by omega) (Ui i k h1 hk) (Ui j k h2 kG)
  .rcases hvb k Ry with⟨g1,g2⟩|g
   .by_cases h1:i<l.length
    .exact GU.out i k h1 (Uh i k h1 hk) g2
    .exact OY k g1 (RX.part (by omega) k (Ui i k h1 hk))
   .rcases hSS i k hi hk with h1|h1
    .grind
    .have:=OZ.lt k h1;omega
 .have hk:rD (bU v') SS (l++m).length k:=hk
  have fin:Sx k\/H.sub s2 k->¬F k/\k<w'.heap.size/\(w.heap.size<=k\/cx H ob eat k):=by
   rintro(h1|h1)
   .exact⟨YQ k h1,ai1 (If k h1) bS.size, .inr (hxe k h1)⟩
   .exact⟨OZ.no k h1,ai1 (OZ.lt k h1) bS.size, .inr (XH k h1)⟩
  rcases hk with hk|⟨i,hi,hk⟩
  .rcases hvb k hk with⟨g,_⟩|g
   .grind
   .exact⟨λe=>by have:=hs.lt k e;omega,gY.lt k hk, .inl (by omega)⟩
  grind
def sB(T:bj P)(ob:Nat->Option (Nat×Th))(n:Nat)(t:TypeId)(X Y:aF)(k:ed->Option R):Option R:=
 match find T.und t with
 |some (.slice e)=>match find T.row e with
  |some r=>match Y with
   | .val ah (.own o2)=>match ob o2 with
     |some (_, .deep T2 d2 m ae)=>bif aiJ T2 e&&d2.row.beq r then(match X with
      | .val ah .nil=>(cz ([]:List d2.row.den) m).bind λl=>k {dst:= .val ah (.own n),eat:=[o2],make:=[(n,(n, .deep e d2 l ae))]}
      | .val ah (.own o1)=>match ob o1 with
        |some (_, .deep T1 d1 l0 ae)=>bif aiJ o1 o2 then ae else bif aiJ T1 e then(if h:d1.beq d2=af then(cz (DR.eq_of_beq h▸l0) m).bind λl=>k {dst:= .val ah (.own n),eat:=[o1,o2],make:=[(n,(n, .deep e d2 l ae))]}else ae)else ae
        |_=>ae
      |_=>ae)else ae
     |_=>ae
   |_=>ae
  |none=>ae
 |_=>ae
def Cf(T:bj P){t:TypeId}{X Y:aF}{x y:Operand}{k:ed->Option R}{q:R}(h:sB T ob n t X Y k=aa q)(hs:aL U H F w ob n)(hx:aE H F w X (ev ρ x))(hy:aE H F w Y (ev ρ y)):
 ∃e,k e=aa q/\cE P U H F w ρ ob n ⟨aa d, .call {callee:= .builtin .append,args:= #[x,y],argTypes:= #[t,t]},ty,pos,aft,ae⟩ e:=by
 unfold sB at h;split at h
 case h_2=>cases h
 rename_i e hu;split at h
 case h_2=>cases h
 rename_i r hr;split at h
 case h_2=>cases h
 rename_i o2;split at h
 case h_2=>cases h
 rename_i s2 T2 d2 m vf;obtain⟨hc,h'⟩:=aV h;clear h;obtain⟨yu,BF⟩:=cI hc;obtain rfl:=beq_true yu;have lz:=Row.eq_of_beq BF;obtain⟨cs,⟨u,OF,_,e2⟩,_,h3⟩:=hy;rw[h3 rfl]at e2
 obtain rfl:ev ρ y=u:=by simpa using e2
 split at h'
 .obtain⟨l,hl,hk⟩:=bind_some h';refine⟨_,hk,uD (Sx:=λ_=>False) T hu hr lz hs ?_ (λ_ h=>h.elim) (λ_ h=>h.elim) (λ_ h=>h.elim) vf OF (by simp) (λ_ h=>h.elim) hl⟩;obtain⟨cs,h1,_,h4⟩:=hx;rw[h4 rfl]at h1;have EB:[ev ρ x]=[Value.slice ae 0 0]:=h1;rw[show ev ρ x= .slice ae 0 0 by simpa using EB];exact⟨[],λ_ _=>False,mC.nil F w T2 d2.low,rfl,λi h=>absurd h (by simp),⟨λk=>by simp[bU,aiY],λ_ _ _ h=>absurd h (by simp),λ_ _ h=>absurd h (by simp)⟩⟩
 .rename_i o1;split at h'
  case h_2=>cases h'
  rename_i s1 T1 d1 l0 Af
  cases dA:aiJ o1 o2 with
  |true=>grind
  |false=>
   rw[dA,cond_false]at h'
   have dA:o1≠o2:=λe=>by simp_all
   obtain⟨hT,h⟩:=aV h';clear h';obtain rfl:=beq_true hT;split at h
   case isFalse=>cases h
   rename_i hb;obtain rfl:=DR.eq_of_beq hb;obtain⟨l,hl,hk⟩:=bind_some h;obtain⟨cs,⟨v,vx,_,e1⟩,_,h4⟩:=hx;rw[h4 rfl]at e1
   obtain rfl:ev ρ x=v:=by simpa using e1
   obtain⟨v',eR,pA⟩:=hs.obj _ _ _ Af;rw[vx]at eR;obtain rfl:=aiC eR;exact⟨_,hk,uD (Sx:=H.sub s1) T hu hr lz hs pA.ok pA.no (λk hk=>⟨o1,by simp,s1,_,_,Af,vx,hk⟩) pA.lt vf OF (by simp) (λk hk=>hs.apart _ _ _ _ _ _ _ _ dA Af vf vx OF k hk) hl⟩
 .cases h'
def LC(ob:Nat->Option (Nat×Th)):aF->Bool
 | .val ah (.own o)=>match ob o with
   |some (_, .deep ..)=>af
   |_=>ah
 |_=>ah
def ot(T:bj P)(ob:Nat->Option (Nat×Th))(n:Nat)(t:TypeId)(X Y:aF)(k:ed->Option R):Option R:=
 bif LC ob Y then sB T ob n t X Y k else qA T ob n t X Y k
def Cg(T:bj P){t:TypeId}{X Y:aF}{x y:Operand}{k:ed->Option R}{q:R}(h:ot T ob n t X Y k=aa q)(hs:aL U H F w ob n)(hx:aE H F w X (ev ρ x))(hy:aE H F w Y (ev ρ y)):
 ∃e,k e=aa q/\cE P U H F w ρ ob n ⟨aa d, .call {callee:= .builtin .append,args:= #[x,y],argTypes:= #[t,t]},ty,pos,aft,ae⟩ e:=by
 unfold ot at h
 cases hb:LC ob Y with
 |true=>rw[hb,cond_true]at h;exact Cf T h hs hx hy
 |false=>rw[hb,cond_false]at h;exact EJ T h hs hx hy
end
end
end Go.Proofs.YtfeahmiobbjklaaGreatDoor
section
open _root_.Bool renaming false->ah,true->af
open _root_.Option renaming none->ae,some->aa
open _root_.Nat renaming beq->aiJ,blt->aja,le_refl->aiH
open _root_.Option.some renaming inj->aiC,injEq->aiO
open _root_.Go.Value renaming ownBlock->aiY
namespace Go.Proofs.YtfeahmiobbjklaaGreatDoor
open Go Go.RowKit
def gf(objs:List (Nat×(Nat×Th))):List Nat->Option (List (Nat×(Nat×Th)))
 |[]=>aa objs
 |o::os=>match find objs o with
  |some (s, .own T r l)=>gf ((o,(s, .u9 T r l))::del [o] objs) os
  |some (s, .map T K agg V l)=>gf ((o,(s, .fmap T K agg V l))::del [o] objs) os
  |some (s, .deep T d l ae)=>gf ((o,(s, .fdeep T d l))::del [o] objs) os
  |some (_, .u9 ..)=>gf objs os
  |some (_, .fmap ..)=>gf objs os
  |some (_, .fdeep ..)=>gf objs os
  |_=>ae
def fE:Th->Bool
 | .u9 .. =>af
 | .fmap .. =>af
 | .fdeep .. =>af
 |_=>ah
structure U3(t t':Th):Prop where
 froz:fE t'=af
 base:t'.base=t.base
 fp:∀S v k,¬fp S v t' k
 ok:∀{H:aK}{F:Nat->Prop}{w:World}{S:Nat->Prop}{v:Value},(∀k,Go.Proofs.YtfeahmiobbjklaaGreatDoor.fp S v t k->¬F k)->iQ H F w S v t->iQ H (λb=>F b\/Go.Proofs.YtfeahmiobbjklaaGreatDoor.fp S v t b) w S v t'
structure cG(H:aK)(F:Nat->Prop)(w:World)(H':aK)(F':Nat->Prop)(w':World):Prop where
 gN:H.le H'
 step:Step F w F' w'
def cG.refl(H:aK)(F:Nat->Prop)(w:World):cG H F w H F w:=⟨aK.le.refl H,Step.refl F w⟩
def cG.trans{H H' va:aK}{F F' E3:Nat->Prop}{w w' xM:World}(h:cG H F w H' F' w')(k:cG H' F' w' va E3 xM):cG H F w va E3 xM:=⟨h.gN.trans k.gN,h.step.trans k.step⟩
structure LD(G:Nat->Prop)(w0:World)(F0:Nat->Prop)(w:World)(F:Nat->Prop):Prop where
 ext:Ext G w0 w
 le:∀b,F0 b->F b
 new:∀b,F b->F0 b\/w0.heap.size<=b\/G b
section
variable {U:Nat->Prop} {H:aK} {F:Nat->Prop} {w:World} {n:Nat}
theorem O0(T:TypeId)(r:Row)(l:List r.den):U3 (.own T r l) (.u9 T r l) where
 froz:=rfl
 base:=rfl
 fp _ _ _ h:=h
 ok hn h:=mw.freeze (base:=0) (T:=T) (l:=l) ⟨hn,h⟩
theorem O1(T:TypeId)(K:Row)(agg:Bool)(V:Row)(l:List (K.den×V.den)):U3 (.map T K agg V l) (.fmap T K agg V l) where
 froz:=rfl
 base:=rfl
 fp _ _ _ h:=h
 ok {H F w S v} _ h:=by
  obtain⟨b,es,clock,h1,h2,h3,h4⟩:=h;obtain⟨g1,g2⟩:=GL h4;refine⟨v,rfl, .inr ⟨b,es,clock,h1, .inr h1,h2,h3,by simpa using g1,λi hi=>?_⟩⟩;obtain⟨e,cs,q1,q2,q3,q4,q5⟩:=g2 i hi;exact⟨e,cs,by simpa using q1,q2,q3.step (Step.freeze F w _),q4,q5⟩
def mC.lz{F:Nat->Prop}{w:World}{T:TypeId}{r:Row}{v:Value}{l:List r.den}(h:mC F w T r v l):cS F w .lz [v] v:=by
 obtain⟨xs,⟨_,h⟩,_⟩:=h
 rcases h with⟨rfl,_⟩|⟨gg,o0,cap,cur,rfl,_⟩<;>exact⟨rfl,_,_,_,rfl⟩
theorem LF(T:TypeId)(d:DR)(l:List d.row.den):U3 (.deep T d l ae) (.fdeep T d l) where
 froz:=rfl
 base:=rfl
 fp _ _ _ h:=h
 ok {H F w S v} hn h:=by
  have h':kI F w (.sl T d) v l S:=h;obtain⟨lh,Ss,h1,_⟩:=h;exact kI.freeze h' hn h1.lz
def O2{objs:List (Nat×(Nat×Th))}{o s:Nat}{t0 t1:Th}(hf:U3 t0 t1)(hs:aL U H F w (find objs) n)(ho:find objs o=aa (s,t0)):
 ∃F',aL U H F' w (find ((o,(s,t1))::del [o] objs)) n/\(∀b,F b->F' b)/\(∀b,F' b->F b\/∃v,H.val o=aa v/\fp (H.sub s) v t0 b):=by
 obtain⟨v,hv,cL⟩:=hs.obj _ _ _ ho;refine⟨λb=>F b\/fp (H.sub s) v t0 b,?_,λ_ h=> .inl h,(by grind)⟩
 have part:∀o' s' t',find ((o,(s,t1))::del [o] objs) o'=aa (s',t')->(o'=o/\s'=s/\t'=t1)\/(o'≠o/\find objs o'=aa (s',t')):=by
  intro o' s' t' h;rw[bd]at h;split at h
  .grind
  .grind [iP]
 have fz:Step F w (λb=>F b\/fp (H.sub s) v t0 b) w:=Step.freeze F w _;refine⟨λo' s' t' h=>?_,λo1 o2 s1 s2 t1' t2 v1 v2 dA h1 h2 e1 e2 k hk kG=>?_,hs.fresh,λb hb=>hb.elim (hs.lt b) (cL.lt b),hs.new,hs.gl.step fz⟩
 .rcases part o' s' t' h with⟨rfl,rfl,rfl⟩|⟨dA,h'⟩
  .exact⟨v,hv,cL.one,by rw[hf.base];exact cL.con,hf.ok cL.no cL.ok,λk hk=>(hf.fp _ _ _ hk).elim,λk hk=>(hf.fp _ _ _ hk).elim,λk hk=>(hf.fp _ _ _ hk).elim⟩
  .obtain⟨v',eR,Ci⟩:=hs.obj _ _ _ h';refine⟨v',eR,Ci.one,Ci.con,Ci.ok.heap (aK.le.refl H) fz λ_ _=>rfl,λk hk hF=>?_,Ci.lt,Ci.use⟩
   rcases hF with hF|hF
   .exact Ci.no k hk hF
   .exact hs.apart _ _ _ _ _ _ _ _ dA h' ho eR hv k hk hF
 .rcases part o1 s1 t1' h1 with⟨rfl,rfl,rfl⟩|⟨ad3,EB⟩
  .exact hf.fp _ _ _ hk
  .rcases part o2 s2 t2 h2 with⟨rfl,rfl,rfl⟩|⟨ad4,Im⟩
   .exact hf.fp _ _ _ kG
   .exact hs.apart _ _ _ _ _ _ _ _ dA EB Im e1 e2 k hk kG
def ou:{os:List Nat}->{F:Nat->Prop}->{objs nC:List (Nat×(Nat×Th))}->gf objs os=aa nC->aL U H F w (find objs) n->
 ∃F',aL U H F' w (find nC) n/\(∀b,F b->F' b)/\(∀b,F' b->F b\/cx H (find objs) os b)
 |[],F,objs,nC,h,hs=>by obtain rfl:=aiC h;grind
 |o::os,F,objs,nC,h,hs=>by
  have main:∀s t t',U3 t t'->find objs o=aa (s,t)->gf ((o,(s,t'))::del [o] objs) os=aa nC->
   ∃F',aL U H F' w (find nC) n/\(∀b,F b->F' b)/\(∀b,F' b->F b\/cx H (find objs) (o::os) b):=by
   intro s t t' hf ho h;obtain⟨F1,a1,a2,a3⟩:=O2 hf hs ho;obtain⟨F2,b1,b2,b3⟩:=ou h a1;refine⟨F2,b1,λb hb=>b2 b (a2 b hb),λb hb=>?_⟩
   rcases b3 b hb with h1|⟨o',mf,s',t',v,h1,h2,h3⟩
   .rcases a3 b h1 with h2|⟨v,hv,hm⟩
    .exact .inl h2
    .exact .inr ⟨o,by simp,s,_,v,ho,hv,hm⟩
   .rw[bd]at h1;split at h1
    .simp only[aiO,Prod.mk.injEq]at h1;rw[<-h1.2]at h3;exact(hf.fp _ _ _ h3).elim
    .exact .inr ⟨o',by simp[mf],s',t',v,(iP.1 h1).2,h2,h3⟩
  have same:gf objs os=aa nC->∃F',aL U H F' w (find nC) n/\(∀b,F b->F' b)/\(∀b,F' b->F b\/cx H (find objs) (o::os) b):=by
   intro h;obtain⟨F2,b1,b2,b3⟩:=ou h hs;exact⟨F2,b1,b2,λb hb=>(b3 b hb).imp id λ⟨o',mf,rest⟩=>⟨o',by simp[mf],rest⟩⟩
  grind [gf,O0,O1,LF]
end
theorem ig{S:Nat->Prop}{v:Value}{t:Th}{k:Nat}(h:fE t=af)(hk:fp S v t k):False:=by
 cases t<;>first|(exact hk)|(cases h)
def kB:{os:List Nat}->{objs nC:List (Nat×(Nat×Th))}->gf objs os=aa nC->∀o s t,find nC o=aa (s,t)->
 find objs o=aa (s,t)\/fE t=af
 |[],objs,nC,h,o,s,t,ho=>by obtain rfl:=aiC h;exact .inl ho
 |o0::os,objs,nC,h,o,s,t,ho=>by
  have main:∀s0 t1,fE t1=af->gf ((o0,(s0,t1))::del [o0] objs) os=aa nC->find objs o=aa (s,t)\/fE t=af:=by
   intro s0 t1 hf h
   rcases kB h o s t ho with h1|g
   .grind [bd,iP]
   .exact .inr g
  unfold gf at h;split at h
  .exact main _ _ rfl h
  .exact main _ _ rfl h
  .exact main _ _ rfl h
  .exact kB h o s t ho
  .exact kB h o s t ho
  .exact kB h o s t ho
  .cases h
inductive Sh where
 |leaf (r:Row)
 |own (j:Nat)
 |nil
 |pair (a b:Sh)
 |junk (n:Nat)
inductive SS where
 |val (agg:Bool) (t:Sh)
 |ptr (j:Nat) (p:List Bool) (off:Nat)
 |at (r:Row)
 |undef
 |fn (f:FuncId) (js:List (Nat×List Bool×Nat))
 |ifc (T:TypeId) (s:SS)
inductive OS where
 |box (T:TypeId) (t:Sh)
 |own (T:TypeId) (r:Row)
 |map (T:TypeId) (K:Row) (agg:Bool) (V:Row)
 |deep (T:TypeId) (d:DR)
 |smap (T:TypeId) (K:Row) (agg:Bool) (V:Row) (it:Option Nat)
structure JS where
 aG:List (Nat×SS)
 objs:List (Nat×OS):=[]
 drop:List Nat:=[]
 nxt:Nat
def Sh.rows:Sh->List Row
 | .leaf r=>[r]
 | .own _=>[]
 | .nil=>[]
 | .pair a b=>a.rows++b.rows
 | .junk _=>[]
def SS.rows:SS->List Row
 | .val _ t=>t.rows
 | .ptr .. =>[]
 | .at r=>[r]
 | .undef=>[]
 | .fn .. =>[]
 | .ifc _ s=>s.rows
def OS.rows:OS->List Row
 | .box _ t=>t.rows
 | .own _ r=>[.slice r]
 | .map _ K _ V=>[.slice (.pair K V)]
 | .deep _ d=>[.slice d.row]
 | .smap _ K _ V ae=>[.slice (.pair K V)]
 | .smap _ K _ V (aa _)=>[.slice (.pair K V), .slice (.pair K V)]
def Cj:List (Nat×SS)->List Row
 |[]=>[]
 |p::l=>p.2.rows++Cj l
def GV:List (Nat×OS)->List Row
 |[]=>[]
 |p::l=>p.2.rows++GV l
def JS.rows(J:JS):List Row:=Cj J.aG++GV J.objs
abbrev kJ:=(r:Row)×r.den
@[reducible] def dj:List Row->Type
  |[]=>Unit
  |[r]=>r.den
  |r::s::rs=>r.den×dj (s::rs)
def dy:(rs:List Row)->dj rs->List kJ
 |[],_=>[]
 |[r],x=>[⟨r,x⟩]
 |r::s::rs,x=>⟨r,x.1⟩::dy (s::rs) x.2
def Ck:(rs:List Row)->List kJ->Option (dj rs)
 |[],[]=>aa ()
 |[r],[⟨s,x⟩]=>if h:s.beq r=af then aa (jH (Row.eq_of_beq h) x)else ae
 |r::r'::rs,⟨s,x⟩::vs=>if h:s.beq r=af then(match Ck (r'::rs) vs with
  |some y=>aa (jH (Row.eq_of_beq h) x,y)
  |none=>ae)else ae
 |_,_=>ae
def yL{r s:Row}(h:s=r)(x:s.den):(⟨r,jH h x⟩:kJ)=⟨s,x⟩:=by subst h;rfl
def uE:{rs:List Row}->{vs:List kJ}->{x:dj rs}->Ck rs vs=aa x->dy rs x=vs
 |[],[],x,_=>rfl
 |[],_::_,_,h=>by cases h
 |[r],[],_,h=>by cases h
 |[r],[⟨s,x⟩],y,h=>by
  unfold Ck at h;split at h
  .rename_i hb;obtain rfl:=aiC h
   show[(⟨r,_⟩:kJ)]=_
   rw[yL]
  .cases h
 |[r],_::_::_,_,h=>by cases h
 |r::r'::rs,[],_,h=>by cases h
 |r::r'::rs,⟨s,x⟩::vs,y,h=>by
  unfold Ck at h;split at h
  .rename_i hb;split at h
   .rename_i z hz;obtain rfl:=aiC h;have:=uE hz
    show(⟨r,_⟩:kJ)::dy (r'::rs) z=_
    rw[yL,this]
   .cases h
  .cases h
def pB:Sh->List kJ->Tree×List kJ
 | .leaf r,⟨s,x⟩::vs=>(bif s.beq r then .leaf s x else .nil,vs)
 | .leaf _,[]=>(.nil,[])
 | .own j,vs=>(.own j,vs)
 | .nil,vs=>(.nil,vs)
 | .pair a b,vs=>(.pair (pB a vs).1 (pB b (pB a vs).2).1,(pB b (pB a vs).2).2)
 | .junk n,vs=>(.junk n,vs)
def eW:SS->List kJ->aF×List kJ
 | .val agg t,vs=>(.val agg (pB t vs).1,(pB t vs).2)
 | .ptr j p off,vs=>(.ptr j p off,vs)
 | .at r,⟨s,x⟩::vs=>(bif s.beq r then .at s x else .dead,vs)
 | .at _,[]=>(.dead,[])
 | .undef,vs=>(.undef,vs)
 | .fn f js,vs=>(.fn f js,vs)
 | .ifc T s,vs=>(.ifc T (eW s vs).1,(eW s vs).2)
def dh:List (Nat×SS)->List kJ->List (Nat×aF)×List kJ
 |[],vs=>([],vs)
 |(t,s)::l,vs=>((t,(eW s vs).1)::(dh l (eW s vs).2).1,(dh l (eW s vs).2).2)
def pM(K V:Row)(d:kJ):Option (List (K.den×V.den)):=if h:d.1.beq (.slice (.pair K V))=af then aa (jH (s:= .slice (.pair K V)) (Row.eq_of_beq h) d.2)else ae
def RY(T:TypeId)(K:Row)(agg:Bool)(V:Row):Option Nat->List kJ->Th×List kJ
 |none,d::vs=>(.smap T K agg V ((pM K V d).getD []) ae,vs)
 |some n,d::d'::vs=>(.smap T K agg V ((pM K V d).getD []) (aa (n,(pM K V d').getD [],ae)),vs)
 |_,vs=>(.smap T K agg V [] ae,vs)
def tL{K V:Row}(l:List (K.den×V.den)):pM K V ⟨.slice (.pair K V),l⟩=aa l:=by
 unfold pM;rw[dif_pos (Row.beq_refl _)];rfl
def dz:OS->List kJ->Th×List kJ
 | .box T t,vs=>(.box T (pB t vs).1,(pB t vs).2)
 | .own T r,⟨.slice s,l⟩::vs=>(bif s.beq r then .own T s l else .own T r [],vs)
 | .own T r,vs=>(.own T r [],vs)
 | .map T K agg V,⟨.slice (.pair K' V'),l⟩::vs=>(if h:K'.beq K=af/\V'.beq V=af then .map T K agg V (jH (r:= .slice (.pair K' V')) (s:= .slice (.pair K V)) (by grind [Row.eq_of_beq]) l)else .map T K agg V [],vs)
 | .map T K agg V,vs=>(.map T K agg V [],vs)
 | .deep T d,⟨.slice s,l⟩::vs=>(if h:s.beq d.row=af then .deep T d (jH (r:= .slice s) (s:= .slice d.row) (aw Row.slice (Row.eq_of_beq h)) l) ae else .deep T d [] ae,vs)
 | .deep T d,vs=>(.deep T d [] ae,vs)
 | .smap T K agg V it,vs=>RY T K agg V it vs
def ir(m:Nat):List (Nat×OS)->List kJ->List (Nat×(Nat×Th))
 |[],_=>[]
 |(j,s)::l,vs=>(j,(m,(dz s vs).1))::ir (m+1) l (dz s vs).2
abbrev Bs:=List (Nat×Option Nat)
def E4:Option Nat->Option Nat->Bool
 |some a,aa b=>aiJ a b
 |none,ae=>af
 |_,_=>ah
theorem yM{a b:Option Nat}(h:E4 a b=af):a=b:=by
 cases a<;>cases b<;>first|rfl|cases h|(rw[beq_true h])
def wA(bs:Bs)(j:Nat)(v:Option Nat):Option Bs:=
 match find bs j with
 |none=>aa ((j,v)::bs)
 |some u=>bif E4 u v then aa bs else ae
def Ej(ob:Nat->Option (Nat×Th)):Sh->Tree->Bs->Option (List kJ×Bs)
 | .leaf r,t,bs=>match flat ob r t with
   |some x=>aa ([⟨r,x⟩],bs)
   |none=>ae
 | .own j, .own o,bs=>match wA bs j (aa o)with
   |some gx=>aa ([],gx)
   |none=>ae
 | .own j, .nil,bs=>match wA bs j ae with
   |some gx=>aa ([],gx)
   |none=>ae
 | .nil, .nil,bs=>aa ([],bs)
 | .junk n,t,bs=>bif aiJ t.size n then aa ([],bs)else ae
 | .pair a b,t,bs=>match t.split with
   |some (x,y)=>match Ej ob a x bs with
    |some (vs,E5)=>match Ej ob b y E5 with
     |some (us,GW)=>aa (vs++us,GW)
     |none=>ae
    |none=>ae
   |none=>ae
 |_,_,_=>ae
def tM:List (Nat×List Bool×Nat)->List (Nat×List Bool×Nat)->Bs->Option Bs
 |[],[],bs=>aa bs
 |(j,_,off)::js,(o,_,ef)::cs,bs=>bif aiJ off ef then(match wA bs j (aa o)with
  |some gx=>tM js cs gx
  |none=>ae)else ae
 |_,_,_=>ae
def LG(ob:Nat->Option (Nat×Th))(s:SS)(d:aF)(bs:Bs):Option (List kJ×Bs):=
 match s,d with
 | .val agg sh, .val eV t=>bif (bif agg then eV else !eV)then Ej ob sh t bs else ae
 | .ptr j _ off, .ptr o _ ef=>bif aiJ off ef then(match wA bs j (aa o)with
   |some gx=>aa ([],gx)
   |none=>ae)else ae
 | .at r, .at s x=>if h:s.beq r=af then aa ([⟨r,jH (Row.eq_of_beq h) x⟩],bs)else ae
 | .undef, .undef=>aa ([],bs)
 | .fn f js, .fn f' cs=>bif aiJ f f' then(match tM js cs bs with
   |some gx=>aa ([],gx)
   |none=>ae)else ae
 |_,_=>ae
def IV(ob:Nat->Option (Nat×Th)):SS->aF->Bs->Option (List kJ×Bs)
 | .ifc T s,d,bs=>match d with
   | .ifc T' d'=>bif aiJ T T' then IV ob s d' bs else ae
   |_=>ae
 |s,d,bs=>LG ob s d bs
def Uj(ob:Nat->Option (Nat×Th))(aG:List (Nat×aF)):List (Nat×SS)->Bs->Option (List kJ×Bs)
 |[],bs=>aa ([],bs)
 |(t,s)::l,bs=>match find aG t with
  |some d=>match IV ob s d bs with
   |some (vs,E5)=>match Uj ob aG l E5 with
    |some (us,GW)=>aa (vs++us,GW)
    |none=>ae
   |none=>ae
  |none=>ae
def LH(ob:Nat->Option (Nat×Th))(j:Nat)(s:OS)(bs:Bs):Option (List kJ×Bs):=
 match find bs j with
 |some (aa o)=>match ob o with
  |some (_,t)=>match s,t with
   | .own T r, .own T' r' l=>bif aiJ T T' then(if h:r'.beq r=af then aa ([⟨.slice r,jH (r:= .slice r') (s:= .slice r) (aw Row.slice (Row.eq_of_beq h)) l⟩],bs)else ae)else ae
   | .box T sh, .box T' t=>bif aiJ T T' then Ej ob sh t bs else ae
   | .map T K agg V, .map T' K' eV V' l=>bif aiJ T T'&&(bif agg then eV else !eV)then(if h:K'.beq K=af/\V'.beq V=af then aa ([⟨.slice (.pair K V),jH (r:= .slice (.pair K' V')) (s:= .slice (.pair K V)) (by grind [Row.eq_of_beq]) l⟩],bs)else ae)else ae
   | .deep T d, .deep T' d' l ae=>bif aiJ T T'&&d'.beq d then aa ([⟨.slice d'.row,l⟩],bs)else ae
   | .smap T K agg V ae, .smap T' K' eV V' l _=>bif aiJ T T'&&(bif agg then eV else !eV)&&K'.beq K&&V'.beq V then aa ([⟨.slice (.pair K' V'),l⟩],bs)else ae
   | .smap T K agg V (aa n), .smap T' K' eV V' l (aa (n',left,_))=>bif aiJ T T'&&(bif agg then eV else !eV)&&K'.beq K&&V'.beq V then(match wA bs n (aa n')with
     |some gx=>aa ([⟨.slice (.pair K' V'),l⟩,⟨.slice (.pair K' V'),left⟩],gx)
     |none=>ae)else ae
   |_,_=>ae
  |none=>ae
 |some ae=>match s with
  | .own _ r=>aa ([⟨.slice r,([]:List r.den)⟩],bs)
  | .deep _ d=>aa ([⟨.slice d.row,([]:List d.row.den)⟩],bs)
  |_=>ae
 |none=>ae
def Uk(ob:Nat->Option (Nat×Th)):List (Nat×OS)->Bs->Option (List kJ×Bs)
 |[],bs=>aa ([],bs)
 |(j,s)::l,bs=>match LH ob j s bs with
  |some (vs,E5)=>match Uk ob l E5 with
   |some (us,GW)=>aa (vs++us,GW)
   |none=>ae
  |none=>ae
section
variable {U:Nat->Prop} {H H':aK} {F:Nat->Prop} {w:World} {n:Nat} {ob:Nat->Option (Nat×Th)}
def Cm(bs gx:Bs):Prop:=∀j v,find bs j=aa v->find gx j=aa v
def jI{bs gx:Bs}{j:Nat}{v:Option Nat}(h:wA bs j v=aa gx):Cm bs gx/\find gx j=aa v:=by
 unfold wA at h;split at h
 .rename_i hn;obtain rfl:=aiC h;refine⟨λi u hu=>?_,by rw[bd,al rfl]⟩
  grind [bd]
 .rename_i u hu;obtain⟨h1,rfl⟩:=sr h;obtain rfl:=yM h1;exact⟨λ_ _ h=>h,hu⟩
def valOf(H:aK):Option Nat->Option Value
 |some o=>H.val o
 |none=>aa (.slice ae 0 0)
def ov(H H':aK)(bs:Bs):Prop:=∀j v,find bs j=aa v->∀u,valOf H v=aa u->H'.val j=aa u
def wB:{sh:Sh}->{t:Tree}->{bs gx:Bs}->{vs:List kJ}->Ej ob sh t bs=aa (vs,gx)->Cm bs gx
 | .leaf r,t,bs,gx,vs,h=>by
   unfold Ej at h
   split at h<;>cases h
   exact λ_ _ h=>h
 | .own j, .own o,bs,gx,vs,h=>by
   unfold Ej at h
   split at h<;>cases h
   rename_i hb;exact(jI hb).1
 | .own j, .nil,bs,gx,vs,h=>by
   unfold Ej at h
   split at h<;>cases h
   rename_i hb;exact(jI hb).1
 | .nil, .nil,bs,gx,vs,h=>by cases h;exact λ_ _ h=>h
 | .pair a b,t,bs,gx,vs,h=>by
   unfold Ej at h;split at h
   case h_2=>cases h
   split at h
   case h_2=>cases h
   rename_i h1;split at h
   case h_2=>cases h
   rename_i h2;cases h
   exact λj v hj=>wB h2 j v (wB h1 j v hj)
 | .own _, .leaf _ _,_,_,_,h=>by cases h
 | .own _, .pair _ _,_,_,_,h=>by cases h
 | .nil, .leaf _ _,_,_,_,h=>by cases h
 | .nil, .own _,_,_,_,h=>by cases h
 | .nil, .pair _ _,_,_,_,h=>by cases h
 | .own _, .view ..,_,_,_,h=>by cases h
 | .nil, .view ..,_,_,_,h=>by cases h
 | .own _, .junk _,_,_,_,h=>by cases h
 | .nil, .junk _,_,_,_,h=>by cases h
 | .junk n,t,bs,gx,vs,h=>by
   unfold Ej at h;obtain⟨_,h⟩:=aV h;cases h
   exact λ_ _ h=>h
def Ao(hs:aL U H F w ob n):{sh:Sh}->{t:Tree}->{bs gx:Bs}->{vs:List kJ}->{cs:List Value}->Ej ob sh t bs=aa (vs,gx)->Holds H F w t cs->ov H H' gx->∀rest,
 Holds H' F w (pB sh (vs++rest)).1 cs/\(pB sh (vs++rest)).2=rest
 | .leaf r,t,bs,gx,vs,cs,h,hh,hb,rest=>by
   unfold Ej at h
   split at h<;>cases h
   rename_i x hf;refine⟨?_,rfl⟩
   show Holds H' F w (bif r.beq r then Tree.leaf r x else .nil) cs
   rw[Row.beq_refl,cond_true];exact gO hs hf hh
 | .own j, .own o,bs,gx,vs,cs,h,hh,hb,rest=>by
   unfold Ej at h
   split at h<;>cases h
   rename_i Bz;obtain⟨v,hv,h1,rfl⟩:=hh;exact⟨⟨v,hb _ _ (jI Bz).2 v hv,h1,rfl⟩,rfl⟩
 | .own j, .nil,bs,gx,vs,cs,h,hh,hb,rest=>by
   unfold Ej at h
   split at h<;>cases h
   rename_i Bz;rw[show cs=_ from hh];exact⟨⟨_,hb _ _ (jI Bz).2 _ rfl,rfl,rfl⟩,rfl⟩
 | .nil, .nil,bs,gx,vs,cs,h,hh,hb,rest=>by cases h;exact⟨hh,rfl⟩
 | .pair a b,t,bs,gx,vs,cs,h,hh,hb,rest=>by
   unfold Ej at h;split at h
   case h_2=>cases h
   rename_i x y u7;split at h
   case h_2=>cases h
   rename_i YS E5 h1;split at h
   case h_2=>cases h
   rename_i us GW h2;cases h;obtain⟨c1,c2,rfl,g1,g2,_⟩:=hh.split u7
   have Kw:ov H H' E5:=λj v hj=>hb j v (wB h2 j v hj)
   obtain⟨k1,k2⟩:=Ao hs h1 g1 Kw (us++rest);obtain⟨m1,m2⟩:=Ao hs h2 g2 hb rest;rw[List.append_assoc];unfold pB;rw[k2];exact⟨⟨c1,c2,rfl,k1,m1⟩,m2⟩
 | .own _, .leaf _ _,_,_,_,_,h,_,_,_=>by cases h
 | .own _, .pair _ _,_,_,_,_,h,_,_,_=>by cases h
 | .nil, .leaf _ _,_,_,_,_,h,_,_,_=>by cases h
 | .nil, .own _,_,_,_,_,h,_,_,_=>by cases h
 | .nil, .pair _ _,_,_,_,_,h,_,_,_=>by cases h
 | .own _, .view ..,_,_,_,_,h,_,_,_=>by cases h
 | .nil, .view ..,_,_,_,_,h,_,_,_=>by cases h
 | .own _, .junk _,_,_,_,_,h,_,_,_=>by cases h
 | .nil, .junk _,_,_,_,_,h,_,_,_=>by cases h
 | .junk n,t,bs,gx,vs,cs,h,hh,hb,rest=>by
   unfold Ej at h;obtain⟨hn,h⟩:=aV h;cases h;exact⟨⟨hh.length.trans (Nat.eq_of_beq_eq_true hn),hh.jR⟩,rfl⟩
theorem tN:{js cs:List (Nat×List Bool×Nat)}->{bs gx:Bs}->tM js cs bs=aa gx->Cm bs gx
 |[],[],bs,gx,h=>by obtain rfl:=aiC h;exact λ_ _ h=>h
 |(j,p,off)::js,(o,p',ef)::cs,bs,gx,h=>by
  unfold tM at h;obtain⟨_,h⟩:=aV h;split at h
  case h_2=>cases h
  rename_i hb
  exact λi v hi=>tN h i v ((jI hb).1 i v hi)
 |[],_::_,_,_,h=>by cases h
 |_::_,[],_,_,h=>by cases h
def yN:{js cs:List (Nat×List Bool×Nat)}->{bs gx:Bs}->{vs:List Value}->tM js cs bs=aa gx->lC H cs vs->ov H H' gx->lC H' js vs
 |[],[],bs,gx,vs,h,hc,hb=>hc
 |(j,p,off)::js,(o,p',ef)::cs,bs,gx,vs,h,hc,hb=>by
  unfold tM at h;obtain⟨ho,h'⟩:=aV h;clear h;split at h'
  case h_2=>cases h'
  rename_i b1 Bz;obtain⟨v,us,rfl,⟨b,h1,rfl⟩,h2⟩:=hc;have ho:=beq_true ho;subst ho;exact⟨_,us,rfl,⟨b,hb _ _ (tN h' _ _ (jI Bz).2) _ h1,rfl⟩,yN h' h2 hb⟩
 |[],_::_,_,_,_,h,_,_=>by cases h
 |_::_,[],_,_,_,h,_,_=>by cases h
def O4{s:SS}{d:aF}{bs gx:Bs}{vs:List kJ}(h:LG ob s d bs=aa (vs,gx)):Cm bs gx:=by
 unfold LG at h;split at h
 .obtain⟨_,h⟩:=aV h;exact wB h
 .obtain⟨_,h⟩:=aV h
  split at h<;>cases h
  rename_i hb;exact(jI hb).1
 .split at h<;>cases h
  exact λ_ _ h=>h
 .cases h
  exact λ_ _ h=>h
 .obtain⟨_,h'⟩:=aV h
  grind [tN]
 .cases h
def O5{s:SS}{d:aF}{bs gx:Bs}{vs:List kJ}(h:IV ob s d bs=aa (vs,gx)):Cm bs gx:=by
 induction s generalizing d with
 |ifc T s ih=>
  cases d with
  |ifc T' d'=>
   obtain⟨_,h'⟩:=aV (show(bif aiJ T T' then IV ob s d' bs else ae)=aa (vs,gx)from h);exact ih h'
  |_=>cases h
 |_=>exact O4 h
def O6(hs:aL U H F w ob n){s:SS}{d:aF}{bs gx:Bs}{vs:List kJ}{v:Value}(h:LG ob s d bs=aa (vs,gx))(hd:aE H F w d v)(hb:ov H H' gx)(rest:List kJ):
 aE H' F w (eW s (vs++rest)).1 v/\(eW s (vs++rest)).2=rest:=by
 unfold LG at h;split at h
 .rename_i agg sh eV t;obtain⟨ha,h'⟩:=aV h;clear h
  have:agg=eV:=by cases agg<;>cases eV<;>simp_all
  subst this;obtain⟨cs,h1,h2⟩:=hd;obtain⟨k1,k2⟩:=Ao hs h' h1 hb rest;exact⟨⟨cs,k1,h2⟩,k2⟩
 .rename_i j p off o p' ef;obtain⟨ho,h'⟩:=aV h;clear h
  split at h'<;>cases h'
  rename_i Bz;obtain⟨b,h1,h2⟩:=hd;refine⟨⟨b,hb _ _ (jI Bz).2 _ h1,?_⟩,rfl⟩
  simp_all
 .rename_i r s x
  split at h<;>cases h
  rename_i BN;obtain rfl:=Row.eq_of_beq BN;refine⟨?_,rfl⟩
  show aE H' F w (bif s.beq s then aF.at s x else .dead) v
  rw[Row.beq_refl,cond_true];exact hd
 .cases h;exact⟨hd,rfl⟩
 .rename_i f js f' cs;obtain⟨hf,h'⟩:=aV h
  split at h'<;>cases h'
  rename_i Bz;obtain⟨us,h1,h2⟩:=hd;refine⟨⟨us,?_,yN Bz h2 hb⟩,rfl⟩
  simp_all
 .cases h
def O7(hs:aL U H F w ob n){s:SS}{d:aF}{bs gx:Bs}{vs:List kJ}{v:Value}(h:IV ob s d bs=aa (vs,gx))(hd:aE H F w d v)(hb:ov H H' gx)(rest:List kJ):
 aE H' F w (eW s (vs++rest)).1 v/\(eW s (vs++rest)).2=rest:=by
 induction s generalizing d v with
 |ifc T s ih=>
  cases d with
  |ifc T' d'=>
   obtain⟨hT,h'⟩:=aV (show(bif aiJ T T' then IV ob s d' bs else ae)=aa (vs,gx)from h);obtain⟨u,e,h2⟩:=hd;obtain⟨k1,k2⟩:=ih h' h2;exact⟨⟨u,by simp_all,k1⟩,k2⟩
  |_=>cases h
 |_=>exact O6 hs h hd hb rest
def LI:{l:List (Nat×SS)}->{aG:List (Nat×aF)}->{bs gx:Bs}->{vs:List kJ}->Uj ob aG l bs=aa (vs,gx)->Cm bs gx
 |[],_,_,_,_,h=>by cases h;exact λ_ _ h=>h
 |(t,s)::l,aG,bs,gx,vs,h=>by
  unfold Uj at h;split at h
  case h_2=>cases h
  split at h
  case h_2=>cases h
  rename_i h1;split at h
  case h_2=>cases h
  rename_i h2;cases h
  exact λj v hj=>LI h2 j v (O5 h1 j v hj)
def LJ(hs:aL U H F w ob n){aG:List (Nat×aF)}{ρ:Nat->Value}(gW:∀t d,find aG t=aa d->aE H F w d (ρ t)):{l:List (Nat×SS)}->{bs gx:Bs}->{vs:List kJ}->Uj ob aG l bs=aa (vs,gx)->ov H H' gx->∀rest,
 (∀t d,find (dh l (vs++rest)).1 t=aa d->aE H' F w d (ρ t))/\(dh l (vs++rest)).2=rest
 |[],bs,gx,vs,h,_,rest=>by cases h;exact⟨λ_ _ h=>(by cases h),rfl⟩
 |(t,s)::l,bs,gx,vs,h,hb,rest=>by
  unfold Uj at h;split at h
  case h_2=>cases h
  rename_i d hd;split at h
  case h_2=>cases h
  rename_i YS E5 h1;split at h
  case h_2=>cases h
  rename_i us GW h2;cases h
  have Kw:ov H H' E5:=λj v hj=>hb j v (LI h2 j v hj)
  obtain⟨k1,k2⟩:=O7 hs h1 (gW t d hd) Kw (us++rest);obtain⟨m1,m2⟩:=LJ hs gW h2 hb rest
  grind [dh,bd]
end
end Go.Proofs.YtfeahmiobbjklaaGreatDoor
namespace Go.Proofs.YtfeahmiobbjklaaGreatDoor
open Go Go.RowKit
def Tree.owns:Tree->List Nat
 | .own o=>[o]
 | .pair a b=>a.owns++b.owns
 | .view o _ _ _=>[o]
 |_=>[]
def Cn:Sh->Tree->List Nat
 | .leaf _,t=>t.owns
 | .pair a b,t=>match t.split with
   |some (x,y)=>Cn a x++Cn b y
   |none=>[]
 |_,_=>[]
def GX(aG:List (Nat×aF)):List (Nat×SS)->List Nat
 |[]=>[]
 |(t, .val _ sh)::l=>(match find aG t with
  |some (.val _ tr)=>Cn sh tr
  |_=>[])++GX aG l
 |(t, .ifc _ (.val _ sh))::l=>(match find aG t with
  |some (.ifc _ (.val _ tr))=>Cn sh tr
  |_=>[])++GX aG l
 |_::l=>GX aG l
def QN(j:Nat):List (Nat×List Bool×Nat)->List (Nat×List Bool×Nat)->Option Nat
 |(j',_)::js,(o,_)::cs=>bif aiJ j' j then aa o else QN j js cs
 |_,_=>ae
def Co(aG:List (Nat×aF))(j:Nat):List (Nat×SS)->Option Nat
 |[]=>ae
 |(t, .ptr j' _ _)::l=>bif aiJ j' j then(match find aG t with
  |some (.ptr o _ _)=>aa o
  |_=>ae)else Co aG j l
 |(t, .ifc _ (.ptr j' _ _))::l=>bif aiJ j' j then(match find aG t with
  |some (.ifc _ (.ptr o _ _))=>aa o
  |_=>ae)else Co aG j l
 |(t, .fn _ js)::l=>match(match find aG t with
    |some (.fn _ cs)=>QN j js cs
    |_=>ae)with
  |some o=>aa o
  |none=>Co aG j l
 |_::l=>Co aG j l
def LK(nb:Nat)(aG:List (Nat×aF))(ss:List (Nat×SS))(objs:List (Nat×(Nat×Th))):List (Nat×OS)->List Nat
 |[]=>[]
 |(j, .box _ sh)::l=>(match(bif aja j nb then aa j else Co aG j ss)with
  |some o=>(match find objs o with
   |some (_, .box _ tr)=>Cn sh tr
   |_=>[])
  |none=>[])++LK nb aG ss objs l
 |_::l=>LK nb aG ss objs l
def YT(nb:Nat):List (Nat×OS)->Bs
 |[]=>[]
 |(j,_)::l=>bif aja j nb then(j,aa j)::YT nb l else YT nb l
def iu:Bs->List Nat
 |[]=>[]
 |(_,aa o)::l=>o::iu l
 |(_,ae)::l=>iu l
def oQ(o:Nat)(l:List Nat):Bool:=l.any (aiJ o)
def E6:List Nat->Bool
 |[]=>af
 |o::l=> !oQ o l&&E6 l
def LL(nb nxt:Nat):Bs->Bool
 |[]=>af
 |(j,u)::l=>(bif aja j nb then E4 u (aa j)else aja j nxt)&&LL nb nxt l
def E7(objs:List (Nat×(Nat×Th)))(Cp:List Nat):List (Nat×(Nat×Th))->Bool
 |[]=>af
 |(o,(s,t))::l=>(match find objs o with
  |some (s',t')=>aiJ s s'&&(bif fE t then fE t' else !fE t')
  |none=>ah)&& !oQ o Cp&&E7 objs Cp l
def yO(nb:Nat)(J:JS)(aG:List (Nat×aF))(objs:List (Nat×(Nat×Th))):List Nat:=GX aG J.aG++LK nb aG J.aG objs J.objs
def yP(nb:Nat)(frame:List (Nat×(Nat×Th)))(J:JS)(aG:List (Nat×aF))(objs:List (Nat×(Nat×Th))):Option (dj J.rows×Bs×List (Nat×(Nat×Th))):=
 match gf objs (yO nb J aG objs)with
 |none=>ae
 |some be=>match Uj (find be) aG J.aG (YT nb J.objs)with
  |none=>ae
  |some (vs,E5)=>match Uk (find be) J.objs E5 with
   |none=>ae
   |some (us,GW)=>bif E6 (iu GW)&&LL nb J.nxt GW&&Nat.ble (nb+J.objs.length) J.nxt&&E7 be (iu GW) frame then
     (match Ck J.rows (vs++us)with
     |some x=>aa (x,GW,be)
     |none=>ae)else ae
def sC:List (Nat×(Nat×Th))->Nat->Option Th
 |[],_=>ae
 |(_,(s,t))::l,m=>bif aiJ s m then aa t else sC l m
def RZ:List (Nat×(Nat×Th))->Nat->Option Nat
 |[],_=>ae
 |(j,(s,_))::l,m=>bif aiJ s m then aa j else RZ l m
def wC(H:aK)(ob:Nat->Option (Nat×Th)):Option (Option Nat)->Nat->Prop
 |some (aa o)=>match ob o with
  |some (s,_)=>H.sub s
  |none=>λ_=>False
 |_=>λ_=>False
def eM(H:aK)(nb:Nat)(bs:Bs)(cons:List (Nat×(Nat×Th)))(ob:Nat->Option (Nat×Th)):aK where
 val m:=if m<nb then H.val m else match find bs m with
  |some u=>valOf H u
  |none=>ae
 con m:=if m<nb then H.con m else sC cons m
 sub m:=if m<nb then H.sub m else match RZ cons m with
  |some j=>wC H ob (find bs j)
  |none=>λ_=>False
section
variable {U:Nat->Prop} {H H':aK} {F:Nat->Prop} {w:World} {n:Nat} {ob:Nat->Option (Nat×Th)}
def GY{j:Nat}{s:OS}{bs gx:Bs}{vs:List kJ}(h:LH ob j s bs=aa (vs,gx)):Cm bs gx:=by
 unfold LH at h;split at h
 .split at h
  case h_2=>cases h
  split at h
  .obtain⟨_,h'⟩:=aV h
   split at h'<;>cases h'
   exact λ_ _ h=>h
  .obtain⟨_,h'⟩:=aV h;exact wB h'
  .obtain⟨_,h'⟩:=aV h
   split at h'<;>cases h'
   exact λ_ _ h=>h
  .obtain⟨_,h'⟩:=aV h;cases h'
   exact λ_ _ h=>h
  .obtain⟨_,h'⟩:=aV h;cases h'
   exact λ_ _ h=>h
  .obtain⟨_,h'⟩:=aV h
   split at h'<;>cases h'
   rename_i Bz;exact(jI Bz).1
  .cases h
 .split at h<;>cases h
  .exact λ_ _ h=>h
  .exact λ_ _ h=>h
 .cases h
def Ap:{l:List (Nat×OS)}->{bs gx:Bs}->{vs:List kJ}->Uk ob l bs=aa (vs,gx)->Cm bs gx
 |[],_,_,_,h=>by cases h;exact λ_ _ h=>h
 |(j,s)::l,bs,gx,vs,h=>by
  unfold Uk at h;split at h
  case h_2=>cases h
  rename_i h1;split at h
  case h_2=>cases h
  rename_i h2;cases h
  exact λj v hj=>Ap h2 j v (GY h1 j v hj)
def lM(H H':aK)(F:Nat->Prop)(w:World)(ob:Nat->Option (Nat×Th))(bs:Bs)(j:Nat)(t:Th):Prop:=
 ∃u v,find bs j=aa u/\valOf H u=aa v/\v.oneCell'=af/\t.base=t/\iQ H' F w (wC H ob (find bs j)) v t/\∀k,fp (wC H ob (find bs j)) v t k->∃o s0 t0,u=aa o/\ob o=aa (s0,t0)/\H.val o=aa v/\fp (H.sub s0) v t0 k
def O8(hs:aL U H F w ob n){j:Nat}{s:OS}{bs gx:Bs}{vs:List kJ}(h:LH ob j s bs=aa (vs,gx))(hb:ov H H' gx)(rest:List kJ):
 lM H H' F w ob bs j (dz s (vs++rest)).1/\(dz s (vs++rest)).2=rest:=by
 unfold LH at h;split at h
 .rename_i o Ul;split at h
  case h_2=>cases h
  rename_i s0 t0 cM;obtain⟨v,hv,cL⟩:=hs.obj _ _ _ cM
  have iS:wC H ob (find bs j)=H.sub s0:=by rw[Ul];simp[wC,cM]
  have mk:∀t,t.base=t->iQ H' F w (H.sub s0) v t->(∀k,fp (H.sub s0) v t k->fp (H.sub s0) v t0 k)->lM H H' F w ob bs j t:=by
   intro t hb np hf;refine⟨aa o,v,Ul,hv,cL.one,hb,by grind,λk hk=>?_⟩;rw[iS]at hk;exact⟨o,_,_,rfl,cM,hv,hf k hk⟩
  split at h
  .rename_i T r T' r' l;obtain⟨hT,h'⟩:=aV h;clear h
   split at h'<;>cases h'
   rename_i BN;obtain rfl:=Row.eq_of_beq BN;obtain rfl:=beq_true hT;refine⟨?_,rfl⟩
   show lM H H' F w ob bs j (bif r'.beq r' then Th.own T r' l else .own T r' [])
   rw[Row.beq_refl,cond_true]
   exact mk _ rfl cL.ok λk hk=>hk
  .rename_i T sh T' t;obtain⟨hT,h'⟩:=aV h;clear h;obtain rfl:=beq_true hT;obtain⟨b,es,e,h1,h2⟩:=cL.ok;obtain⟨k1,k2⟩:=Ao hs h' h2 hb rest;exact⟨mk _ rfl ⟨b,es,e,h1,k1⟩ λk hk=>hk,k2⟩
  .rename_i T K agg V T' K' eV V' l;obtain⟨hT,h'⟩:=aV h;clear h
   split at h'<;>cases h'
   rename_i BN;obtain⟨R0,ha⟩:=cI hT;clear hT
   have ha:agg=eV:=by cases agg<;>cases eV<;>simp_all
   subst ha;obtain⟨hK,hV⟩:=BN;obtain rfl:=Row.eq_of_beq hK;obtain rfl:=Row.eq_of_beq hV;obtain rfl:=beq_true R0;refine⟨?_,rfl⟩
   show lM H H' F w ob bs j (if h:K'.beq K'=af/\V'.beq V'=af then Th.map T K' agg V' l else .map T K' agg V' [])
   rw[dif_pos ⟨Row.beq_refl _,Row.beq_refl _⟩];obtain⟨b,es,clock,e,h1,h2,h3⟩:=cL.ok
   exact mk _ rfl ⟨b,es,clock,e,h1,h2,h3.gN⟩ λk hk=>hk
  .rename_i T d T' d' l;obtain⟨hT,h'⟩:=aV h;clear h;obtain⟨R0,hd⟩:=cI hT;obtain rfl:=DR.eq_of_beq hd;obtain rfl:=beq_true R0;cases h';refine⟨?_,rfl⟩
   show lM H H' F w ob bs j (if h:d'.row.beq d'.row=af then Th.deep T d' l ae else .deep T d' [] ae)
   rw[dif_pos (Row.beq_refl _)]
   exact mk _ rfl cL.ok λk hk=>hk
  .rename_i T K agg V T' K' eV V' l it;obtain⟨hT,h'⟩:=aV h;clear h;obtain⟨hT,hd⟩:=cI hT;obtain⟨hT,xL⟩:=cI hT;obtain⟨R0,ha⟩:=cI hT
   have ha:agg=eV:=by cases agg<;>cases eV<;>simp_all
   subst ha;obtain rfl:=Row.eq_of_beq hd;obtain rfl:=Row.eq_of_beq xL;obtain rfl:=beq_true R0;cases h';refine⟨?_,rfl⟩
   show lM H H' F w ob bs j (Th.smap T K' agg V' ((pM K' V' ⟨.slice (.pair K' V'),l⟩).getD []) ae)
   rw[tL];obtain⟨b,es,clock,l',e,h0,h1,h2,h3,h4,_⟩:=cL.ok
   exact mk _ rfl ⟨b,es,clock,l',e,h0,h1,h2,h3.gN,h4,trivial⟩ λk hk=>hk
  .rename_i T K agg V nj T' K' eV V' l n' left cur;obtain⟨hT,h'⟩:=aV h;clear h;obtain⟨hT,hd⟩:=cI hT;obtain⟨hT,xL⟩:=cI hT;obtain⟨R0,ha⟩:=cI hT
   have ha:agg=eV:=by cases agg<;>cases eV<;>simp_all
   subst ha;obtain rfl:=Row.eq_of_beq hd;obtain rfl:=Row.eq_of_beq xL;obtain rfl:=beq_true R0
   split at h'<;>cases h'
   rename_i Bz;refine⟨?_,rfl⟩
   show lM H H' F w ob bs j (Th.smap T K' agg V' ((pM K' V' ⟨.slice (.pair K' V'),l⟩).getD []) (aa (nj,(pM K' V' ⟨.slice (.pair K' V'),left⟩).getD [],ae)))
   rw[tL,tL];obtain⟨b,es,clock,l',e,h0,h1,h2,h3,h4,r,since,seen,last,i1,i2,i3,i4,i5,i6,i7,⟨l2,i8,i9⟩,_⟩:=cL.ok
   exact mk _ rfl ⟨b,es,clock,l',e,h0,h1,h2,h3.gN,h4,r,since,seen,last,i1,i2,hb _ _ (jI Bz).2 _ i3,i4,i5,i6,i7,⟨l2,i8.gN,i9⟩,λp hp=>by cases hp⟩ λk hk=>hk
  .cases h
 .rename_i Ul
  split at h<;>cases h
  .rename_i T r;refine⟨?_,rfl⟩
   show lM H H' F w ob bs j (bif r.beq r then Th.own T r []else .own T r [])
   rw[Row.beq_refl,cond_true];refine⟨ae,_,Ul,rfl,rfl,rfl,(mw.nil 0 F w T r).2,λk hk=>?_⟩;have kG:bU (.slice ae 0 0) k:=hk;simp[bU,aiY]at kG
  .rename_i T d;refine⟨?_,rfl⟩
   show lM H H' F w ob bs j (if h:d.row.beq d.row=af then Th.deep T d [] ae else .deep T d [] ae)
   rw[dif_pos (Row.beq_refl _)]
   have iS:wC H ob (find bs j)=λ_=>False:=by rw[Ul];rfl
   refine⟨ae,_,Ul,rfl,rfl,rfl,?_,λk hk=>?_⟩
   .rw[iS];exact⟨[],λ_ _=>False,mC.nil F w T d.low,rfl,λi h=>absurd h (by simp),⟨λk=>by simp[bU,aiY],λ_ _ _ h=>absurd h (by simp),λ_ _ h=>absurd h (by simp)⟩⟩
   .rw[iS]at hk;exact hk.elim
 .cases h
theorem Cq:{l:List (Nat×OS)}->{m k:Nat}->{vs:List kJ}->m+l.length<=k->sC (ir m l vs) k=ae
 |[],_,_,_,_=>rfl
 |(j,s)::l,m,k,vs,h=>by
  show(bif aiJ m k then _ else sC (ir (m+1) l _) k)=ae
  rw[List.length_cons]at h
  have:aiJ m k=ah:=by
   cases hb:aiJ m k with
   |false=>rfl
   |true=>have:=beq_true hb;omega
  rw[this,cond_false];exact Cq (by omega)
def LM(hs:aL U H F w ob n):{l:List (Nat×OS)}->{bs gx:Bs}->{vs:List kJ}->Uk ob l bs=aa (vs,gx)->ov H H' gx->∀m,
 ∀j s t,find (ir m l vs) j=aa (s,t)->m<=s/\s<m+l.length/\sC (ir m l vs) s=aa t/\RZ (ir m l vs) s=aa j/\lM H H' F w ob gx j t
 |[],_,_,_,h,_,m=>by cases h;intro j s t h;cases h
 |(j0,s0)::l,bs,gx,vs,h,hb,m=>by
  unfold Uk at h;split at h
  case h_2=>cases h
  rename_i YS E5 h1;split at h
  case h_2=>cases h
  rename_i us GW h2;cases h
  have Kw:ov H H' E5:=λj v hj=>hb j v (Ap h2 j v hj)
  obtain⟨⟨u,v,g1,g2⟩,k2⟩:=O8 hs h1 Kw us;intro j s t hf;unfold ir at hf⊢;rw[bd]at hf;rw[k2]at hf⊢;split at hf
  .rename_i e;subst e;simp only[aiO,Prod.mk.injEq]at hf;obtain⟨rfl,rfl⟩:=hf;have e1:=Ap h2 _ _ (GY h1 _ _ g1);rw[g1]at g2;refine⟨aiH _,by simp,?_,?_,u,v,e1,?_⟩
   .show(bif aiJ m m then _ else _)=_
    simp
   .show(bif aiJ m m then _ else _)=_
    simp
   grind
  .obtain⟨a1,a2,a3,a4,a5⟩:=LM hs h2 hb (m+1) j s t hf
   have:aiJ m s=ah:=by
    cases hb:aiJ m s with
    |false=>rfl
    |true=>have:=beq_true hb;omega
   refine⟨by omega,by grind,?_,?_,a5⟩
   .show(bif aiJ m s then _ else _)=_
    grind
   .show(bif aiJ m s then _ else _)=_
    grind
theorem fQ{o:Nat}{l:List Nat}:oQ o l=af↔o∈l:=any_beq
theorem kf:{bs:Bs}->{j o:Nat}->find bs j=aa (aa o)->o∈iu bs
 |[],_,_,h=>by cases h
 |(i,u)::bs,j,o,h=>by
  rw[bd]at h;split at h
  .obtain rfl:=aiC h;exact List.mem_cons_self
  .have:=kf h
   cases u with
   |none=>exact this
   |some q=>exact List.mem_cons_of_mem _ this
def tO:{bs:Bs}->E6 (iu bs)=af->{j j' o:Nat}->find bs j=aa (aa o)->find bs j'=aa (aa o)->j=j'
 |[],_,_,_,_,h,_=>by cases h
 |(i,u)::bs,hn,j,j',o,h,h'=>by
  rw[bd]at h h'
  cases u with
  |none=>
   split at h
   .cases h
   .split at h'
    .cases h'
    .exact tO (bs:=bs) hn h h'
  |some q=>
   obtain⟨hq,K8⟩:=cI hn
   have hq:q∉iu bs:=λe=>by rw[fQ.2 e]at hq;cases hq
   split at h
   .grind [kf]
   .split at h'
    .grind [kf]
    .exact tO K8 h h'
def wD{nb nxt:Nat}:{bs:Bs}->LL nb nxt bs=af->{j:Nat}->{u:Option Nat}->find bs j=aa u->(j<nb->u=aa j)/\(nb<=j->j<nxt)
 |[],_,_,_,h=>by cases h
 |(i,v)::bs,hk,j,u,h=>by
  obtain⟨h1,h2⟩:=cI hk;rw[bd]at h;split at h
  .rename_i e;subst e;obtain rfl:=aiC h
   cases hb:aja i nb with
   |true=>
    rw[hb,cond_true]at h1
    have:i<nb:=by simpa using hb
    grind [yM]
   |false=>
    rw[hb,cond_false]at h1
    have hge:¬i<nb:=λe=>by have:aja i nb=af:=by simpa using e
                           grind
    exact⟨λe=>absurd e hge,λ_=>by simpa using h1⟩
  .exact wD h2 h
def yQ{objs:List (Nat×(Nat×Th))}{Cp:List Nat}:{fr:List (Nat×(Nat×Th))}->E7 objs Cp fr=af->{o s:Nat}->{t:Th}->find fr o=aa (s,t)->
 o∉Cp/\∃t',find objs o=aa (s,t')/\fE t'=fE t
 |[],_,_,_,_,h=>by cases h
 |(i,(s0,t0))::fr,hf,o,s,t,h=>by
  obtain⟨h1,h2⟩:=cI hf;obtain⟨h1,h3⟩:=cI h1;rw[bd]at h;split at h
  .rename_i e;subst e;simp only[aiO,Prod.mk.injEq]at h;obtain⟨rfl,rfl⟩:=h;split at h1
   .rename_i s' t' ho;obtain⟨h4,h5⟩:=cI h1
    grind [beq_true,fQ]
   .cases h1
  .exact yQ h2 h
def LN{t t':Th}(h:t.base=t'.base)(hf:fE t=fE t'):t=t':=by
 cases t<;>cases t'<;>simp_all[Th.base,fE]
def wE{U':Nat->Prop}{H0:aK}{F0:Nat->Prop}{w0:World}{objs0:List (Nat×(Nat×Th))}{nb:Nat}{ns:List Nat}{J:JS}{aG:List (Nat×aF)}{objs be:List (Nat×(Nat×Th))}{x:dj J.rows}{bs:Bs}{ρ:Nat->Value}
 (h:yP nb (del ns objs0) J aG objs=aa (x,bs,be))(Pa:aL U H0 F0 w0 (find objs0) nb)(QO:iR H0 nb)(hk:cG H0 F0 w0 H F w)(hs:aL U H F w (find objs) n)(gW:∀t d,find aG t=aa d->aE H F w d (ρ t)):
 ∃F1 H1,aL U H F1 w (find be) n/\(∀b,F b->F1 b)/\(∀b,F1 b->F b\/cx H (find objs) (yO nb J aG objs) b)/\gf objs (yO nb J aG objs)=aa be/\H0.le H1/\ov H H1 bs/\iR H1 J.nxt/\
  (∀t d,find (dh J.aG (dy J.rows x)).1 t=aa d->aE H1 F1 w d (ρ t))/\
  ((∀b,w.heap.size<=b->U' b)->(∀o s t v k,o∈iu bs->find be o=aa (s,t)->H.val o=aa v->fp (H.sub s) v t k->U' k)->(∀o s t v k,find (del ns objs0) o=aa (s,t)->H.val o=aa v->fp (H.sub s) v t k->U' k)->
    aL U' H1 F1 w (find (ir nb J.objs (dh J.aG (dy J.rows x)).2++del ns objs0)) J.nxt):=by
 unfold yP at h;split at h
 case h_1=>cases h
 rename_i YU xX;split at h
 case h_1=>cases h
 rename_i vs E5 hS;split at h
 case h_1=>cases h
 rename_i us GW hO;obtain⟨hc,h'⟩:=aV h;clear h;split at h'
 case h_2=>cases h'
 rename_i x' hx;cases h';obtain⟨hc,Uc⟩:=cI hc;obtain⟨hc,Lr⟩:=cI hc;obtain⟨yu,BF⟩:=cI hc
 have Lr:nb+J.objs.length<=J.nxt:=by simpa using Lr
 obtain⟨F1,vE,Ev,Oj⟩:=ou xX hs
 have iq:Step F w F1 w:=λb hb=>⟨Ev b hb,rfl⟩
 have YV:∀t d,find aG t=aa d->aE H F1 w d (ρ t):=λt d hd=>(gW t d hd).keep (aK.le.refl H) iq
 rw[uE hx]
 have LO:∃cons,cons=ir nb J.objs us:=⟨_,rfl⟩
 obtain⟨cons,GZ⟩:=LO
 have Cr:H0.le (eM H nb bs cons (find be)):=by
  have aH:∀s t,H0.con s=aa t->s<nb:=λs t iq=>by
   rcases Nat.lt_or_ge s nb with h|h
   .exact h
   .rw[(QO s h).2]at iq;cases iq
  refine⟨λo v ho=>?_,λs t iq=>?_,λs t iq=>?_⟩
  .have:o<nb:=by
    rcases Nat.lt_or_ge o nb with h|h
    .exact h
    .rw[(QO o h).1]at ho;cases ho
   simp[eM,this,hk.gN.val _ _ ho]
  .simp[eM,aH s t iq,hk.gN.con _ _ iq]
  .simp[eM,aH s t iq,hk.gN.sub _ _ iq]
 have tP:ov H (eM H nb bs cons (find be)) bs:=by
  intro j u hj v hv;obtain⟨a1,a2⟩:=wD BF hj;by_cases aH:j<nb
  .grind [eM,valOf]
  .simpa[eM,aH,hj]using hv
 have Pb:ov H (eM H nb bs cons (find be)) E5:=λj v hj=>tP j v (Ap hO j v hj)
 obtain⟨p1,p2⟩:=LJ vE YV hS Pb us
 have G0:iR (eM H nb bs cons (find be)) J.nxt:=λm hm=>by
  have Ua:¬m<nb:=by omega
  refine⟨?_,?_⟩
  .simp only[eM,aj Ua];split
   .rename_i u hu;have:=(wD BF hu).2 (by omega);omega
   .rfl
  grind [eM,Cq]
 refine⟨F1,eM H nb bs cons (find be),vE,Ev,Oj,xX,Cr,tP,G0,p1,λhU1 hU2 hU3=>?_⟩;rw[p2,<-GZ];have U4:=LM (H':=eM H nb bs cons (find be)) vE hO tP nb;rw[<-GZ]at U4
 have part:∀o s t,find (cons++del ns objs0) o=aa (s,t)->find cons o=aa (s,t)\/find (del ns objs0) o=aa (s,t):=by
  intro o s t ho;rw[iO]at ho
  cases hm:find cons o with
  |some y=>grind
  |none=>grind
 have zY:∀o s t,find (del ns objs0) o=aa (s,t)->o∉iu bs/\find be o=aa (s,t)/\∃v,H.val o=aa v/\(eM H nb bs cons (find be)).val o=aa v/\v.oneCell'=af/\(eM H nb bs cons (find be)).con s=aa t.base/\(eM H nb bs cons (find be)).sub s=H.sub s/\iQ (eM H nb bs cons (find be)) F1 w (H.sub s) v t:=by
  intro o s t ho;obtain⟨q1,t',q2,q3⟩:=yQ Uc ho;have ho0:=(iP.1 ho).2;obtain⟨v0,RF,E8⟩:=Pa.obj _ _ _ ho0;obtain⟨v1,vx,pA⟩:=vE.obj _ _ _ q2;have e1:=hk.gN.val _ _ RF;rw[vx]at e1;obtain rfl:=aiC e1;have e2:=hk.gN.con _ _ E8.con;rw[pA.con]at e2;have ht:=LN (aiC e2) q3;subst ht;refine⟨q1,q2,v1,vx,Cr.val _ _ RF,pA.one,Cr.con _ _ E8.con,(Cr.sub _ _ E8.con).trans (hk.gN.sub _ _ E8.con).symm,?_⟩
  cases t' with
  |fdeep T d l=>exact pA.ok
  |deep T d l hh=>
   obtain⟨lh0,_,_,e0,r0,_⟩:=E8.ok
   refine Il.mono (show Il F1 w T d.low _ v1 l (H.sub s)from pA.ok) (Step.refl F1 w) (λ_ _=>rfl) λi x' hi A hA hr=>?_
   cases hh with
   |none=>exact hr
   |some h=>
    refine⟨hr.1,λhh=>?_⟩;obtain⟨T',e,q,g1,g2,g3⟩:=hr.2 hh;obtain⟨_,_,q0,_,_,k3⟩:=(r0 i (by omega) hi).2 hh;have e3:=hk.gN.val _ _ k3;rw[g3]at e3;exact⟨T',e,q,g1,g2,by rw[aiC e3];exact Cr.val _ _ k3⟩
  |box T tr=>
   obtain⟨b,es,e,g1,g2⟩:=pA.ok;obtain⟨b',my,e',UI,g2'⟩:=E8.ok;exact⟨b,es,e,g1,Holds.back hk.gN Cr g2' g2⟩
  |own T r l=>exact pA.ok
  |u9 T r l=>exact pA.ok
  |fmap T K agg V l=>exact pA.ok
  |smap T K agg V l it=>
   obtain⟨b,es,clock,l',e,g0,g1,g2,g3,g4,g5⟩:=pA.ok;obtain⟨_,_,_,_,_,_,_,_,_,_,r5⟩:=E8.ok;refine⟨b,es,clock,l',e,g0,g1,g2,g3.gN,g4,g5.gN λn' x u e hu=>?_⟩;subst e;obtain⟨_,_,_,_,_,_,Xq,_⟩:=r5;have e3:=hk.gN.val _ _ Xq;rw[hu]at e3;rw[aiC e3];exact Cr.val _ _ Xq
  |map T K agg V l=>
   obtain⟨b,es,clock,e,g1,g2,g3⟩:=pA.ok;exact⟨b,es,clock,e,g1,g2,g3.gN⟩
 have U5:∀o s t,find cons o=aa (s,t)->∃v,(eM H nb bs cons (find be)).val o=aa v/\v.oneCell'=af/\(eM H nb bs cons (find be)).con s=aa t.base/\iQ (eM H nb bs cons (find be)) F1 w ((eM H nb bs cons (find be)).sub s) v t/\
  ∀k,fp ((eM H nb bs cons (find be)).sub s) v t k->∃o' s0 t0,find bs o=aa (aa o')/\find be o'=aa (s0,t0)/\H.val o'=aa v/\fp (H.sub s0) v t0 k:=by
  intro o s t ho;obtain⟨a1,a2,a3,a4,u,v,b1,b2,b3,b4,b5,b6⟩:=U4 o s t ho
  have iS:(eM H nb bs cons (find be)).sub s=wC H (find be) (find bs o):=by
   simp only[eM];rw[aj (by omega),a4]
  rw[iS];refine⟨v,tP o u b1 v b2,b3,?_,b5,λk hk=>?_⟩
  .grind [eM]
  .grind
 refine⟨λo s t ho=>?_,λo o' s s' t t' v v' dA ho mf hv eR k hk kG=>?_,λm hm _=>G0 m hm,vE.lt,hU1,vE.gl⟩
 .rcases part o s t ho with h1|h1
  .obtain⟨v,a1,a2,a3,a4,a5⟩:=U5 o s t h1
   refine⟨v,a1,a2,a3,a4,λk hk hF=>?_,λk hk=>?_,λk hk=>?_⟩<;>obtain⟨o',s0,t0,b1,b2,b3,b4⟩:=a5 k hk<;>obtain⟨v',eR,cL⟩:=vE.obj _ _ _ b2
   all_goals
    rw[b3]at eR;obtain rfl:=aiC eR
   .exact cL.no k b4 hF
   .exact cL.lt k b4
   grind [kf]
  .obtain⟨q1,q2,v,a1,a2,a3,a4,a6,a5⟩:=zY o s t h1;obtain⟨v',eR,cL⟩:=vE.obj _ _ _ q2;rw[a1]at eR;obtain rfl:=aiC eR;exact⟨v,a2,a3,a4,by rw[a6];exact a5,by rw[a6];exact cL.no,by rw[a6];exact cL.lt,(by grind)⟩
 .rcases part o s t ho with h1|h1<;>rcases part o' s' t' mf with h2|h2
  .obtain⟨u,a1,_,_,_,a5⟩:=U5 o s t h1;obtain⟨u',c1,_,_,_,c5⟩:=U5 o' s' t' h2;rw[hv]at a1;rw[eR]at c1;obtain rfl:=aiC a1;obtain rfl:=aiC c1;obtain⟨p,s0,t0,d1,d2,d3,d4⟩:=a5 k hk;obtain⟨p',s0',t0',e1,e2,e3,e4⟩:=c5 k kG;refine vE.apart p p' _ _ _ _ _ _ (λe=>dA ?_) d2 e2 d3 e3 k d4 e4;subst e;exact tO yu d1 e1
  .obtain⟨u,a1,_,_,_,a5⟩:=U5 o s t h1;obtain⟨q1,q2,u',c1,c2,_,_,c6,_⟩:=zY o' s' t' h2;rw[c6]at kG;rw[hv]at a1;rw[eR]at c2;obtain rfl:=aiC a1;obtain rfl:=aiC c2;obtain⟨p,s0,t0,d1,d2,d3,d4⟩:=a5 k hk;exact vE.apart p o' _ _ _ _ _ _ (λe=>q1 (e▸kf d1)) d2 q2 d3 c1 k d4 kG
  .obtain⟨u,a1,_,_,_,a5⟩:=U5 o' s' t' h2;obtain⟨q1,q2,u',c1,c2,_,_,c6,_⟩:=zY o s t h1;rw[c6]at hk;rw[eR]at a1;rw[hv]at c2;obtain rfl:=aiC a1;obtain rfl:=aiC c2;obtain⟨p,s0,t0,d1,d2,d3,d4⟩:=a5 k kG;exact vE.apart o p _ _ _ _ _ _ (λe=>q1 (e▸kf d1)) q2 d2 c1 d3 k hk d4
  .obtain⟨q1,q2,u,c1,c2,_,_,c6,_⟩:=zY o s t h1;obtain⟨q1',q2',u',XI,U6,_,_,c6',_⟩:=zY o' s' t' h2;rw[c6]at hk;rw[c6']at kG;rw[hv]at c2;rw[eR]at U6;obtain rfl:=aiC c2;obtain rfl:=aiC U6;exact vE.apart o o' _ _ _ _ _ _ dA q2 q2' c1 XI k hk kG
end
end Go.Proofs.YtfeahmiobbjklaaGreatDoor
end
namespace Go.Proofs.YtfeahmiobbjklaaGreatDoor
open Go Go.RowKit
set_option maxRecDepth 100000
set_option linter.unusedSimpArgs false
set_option linter.unusedVariables false
set_option linter.defProp false
section
structure pj where
 inn:JS
 out:JS
 fn:dj inn.rows->Option (dj out.rows)
def xY:List Value->Value
 |[v]=>v
 |vs=> .tuple vs.toArray
structure gZ(P:Program)(f:FuncId)(sg:pj):Prop where
 fn:∃fn,P.funcs[f]? =aa fn/\(fn.name== "runtime.NumGoroutine")=ah/\fn.body.isNone=ah
 ok:∀x y,sg.fn x=aa y->∀(args:List Value)(w:World)(H:aK)(F G:Nat->Prop),args.length=sg.inn.aG.length->
  (∀t d,find (dh sg.inn.aG (dy _ x)).1 t=aa d->aE H F w d (args.getD t undef))->
  aL (λk=>w.heap.size<=k\/G k) H F w (find (ir 0 sg.inn.objs (dh sg.inn.aG (dy _ x)).2)) sg.inn.nxt->iR H sg.inn.nxt->(∀k,G k->¬F k)->
  Calls P f args.toArray w λe w'=>∃vs,e= .returned (xY vs)/\vs.length=sg.out.aG.length/\∃H' F',Ext G w w'/\H.le H'/\(∀b,F b->F' b)/\(∀b,F' b->F b\/w.heap.size<=b\/G b)/\
   (∀t d,find (dh sg.out.aG (dy _ y)).1 t=aa d->aE H' F' w' d (vs.getD t undef))/\
   aL (λk=>w.heap.size<=k\/G k) H' F' w' (find (ir sg.inn.nxt sg.out.objs (dh sg.out.aG (dy _ y)).2)) sg.out.nxt/\iR H' sg.out.nxt
def Sh.rH(φ:Nat->Nat):Sh->Sh
 | .leaf r=> .leaf r
 | .own j=> .own (φ j)
 | .nil=> .nil
 | .pair a b=> .pair (a.rH φ) (b.rH φ)
 | .junk n=> .junk n
def SS.rH(φ:Nat->Nat):SS->SS
 | .val agg t=> .val agg (t.rH φ)
 | .ptr j p off=> .ptr (φ j) p off
 | .at r=> .at r
 | .undef=> .undef
 | .fn f js=> .fn f (js.map λc=>(φ c.1,c.2))
 | .ifc T s=> .ifc T (s.rH φ)
def OS.rH(φ:Nat->Nat):OS->OS
 | .box T t=> .box T (t.rH φ)
 | .own T r=> .own T r
 | .map T K agg V=> .map T K agg V
 | .deep T d=> .deep T d
 | .smap T K agg V it=> .smap T K agg V (it.map φ)
def sD(φ:Nat->Nat):List (Nat×SS)->List (Nat×SS)
 |[]=>[]
 |(t,s)::l=>(t,s.rH φ)::sD φ l
def Ct(φ:Nat->Nat):List (Nat×OS)->List (Nat×OS)
 |[]=>[]
 |(j,s)::l=>(φ j,s.rH φ)::Ct φ l
def Row.Cu:Row->Bool
 | .slice _=>ah
 | .map .. =>ah
 | .pair a b=>a.Cu&&b.Cu
 |_=>af
def DR.jC(p:Row->Bool):DR->Bool
 | .leaf r=>p r
 | .sl _ d=>d.jC p
 | .pair a b=>a.jC p&&b.jC p
def Sh.jC(p:Row->Bool):Sh->Bool
 | .leaf r=>p r
 | .pair a b=>a.jC p&&b.jC p
 |_=>af
def SS.jC(p:Row->Bool):SS->Bool
 | .val _ t=>t.jC p
 | .at r=>p (.slice r)
 | .ifc _ s=>s.jC p
 |_=>af
def OS.jC(p:Row->Bool):OS->Bool
 | .box _ t=>t.jC p
 | .own _ r=>p r
 | .map _ _ _ V=>p V
 | .deep _ d=>d.jC p
 | .smap _ _ _ V _=>p V
def rI(p:Row->Bool):List (Nat×SS)->Bool
 |[]=>af
 |(_,s)::l=>s.jC p&&rI p l
def yR(p:Row->Bool):List (Nat×OS)->Bool
 |[]=>af
 |(_,s)::l=>s.jC p&&yR p l
section
variable {H H':aK} {F F':Nat->Prop} {w w':World} {φ:Nat->Nat} {p:Row->Bool}
def cS.E9:{r:Row}->{cs:List Value}->{x:r.den}->r.Cu=af->cS F w r cs x->cS F' w' r cs x
 | .int _,_,_,_,h=>h
 | .bool,_,_,_,h=>h
 | .str,_,_,_,h=>h
 | .lz,_,_,_,h=>h
 | .nul _,_,_,_,h=>h
 | .map ..,_,_,hf,_=>by cases hf
 | .slice _,_,_,hf,_=>by cases hf
 | .pair a b,_,_,hf,h=>by
   obtain⟨c1,c2,e,h1,h2⟩:=h;obtain⟨f1,f2⟩:=cI hf;exact⟨c1,c2,e,cS.E9 f1 h1,cS.E9 f2 h2⟩
def Ren(H H':aK)(φ:Nat->Nat):Prop:=∀j v,H.val j=aa v->H'.val (φ j)=aa v
def uF(p:Row->Bool)(F F':Nat->Prop)(w:World):Prop:=∀r,p r=af->∀cs x,cS F w r cs x->cS F' w r cs x
def pO:(sh:Sh)->(vs:List kJ)->(pB (sh.rH φ) vs).2=(pB sh vs).2
 | .leaf r,[]=>rfl
 | .leaf r,_::_=>rfl
 | .own j,vs=>rfl
 | .nil,vs=>rfl
 | .pair a b,vs=>by
   show(pB (b.rH φ) (pB (a.rH φ) vs).2).2=_
   rw[pO a,pO b];rfl
 | .junk _,_=>rfl
def yS(s:SS)(vs:List kJ):(eW (s.rH φ) vs).2=(eW s vs).2:=by
 induction s with
 |ifc T s ih=>exact ih
 |val agg t=>exact pO t vs
 |ptr j p off=>rfl
 |«at» r=>cases vs<;>rfl
 |undef=>rfl
 |fn f js=>rfl
theorem yT(s:OS)(vs:List kJ):(dz (s.rH φ) vs).2=(dz s vs).2:=by
 cases s with
 |box T t=>exact pO t vs
 |own T r=>rfl
 |map T K agg V=>rfl
 |deep T d=>rfl
 |smap T K agg V it=>
  cases it with
  |none=>cases vs<;>rfl
  |some n=>match vs with
   |[]=>rfl
   |[_]=>rfl
   |_::_::_=>rfl
def Cv:(l:List (Nat×SS))->(vs:List kJ)->(dh (sD φ l) vs).2=(dh l vs).2
 |[],_=>rfl
 |(t,s)::l,vs=>by
  show(dh (sD φ l) (eW (s.rH φ) vs).2).2=(dh l (eW s vs).2).2
  rw[yS,Cv l]
def sE(hr:Ren H H' φ)(hm:uF p F F' w):{sh:Sh}->{vs:List kJ}->{cs:List Value}->sh.jC p=af->Holds H F w (pB sh vs).1 cs->Holds H' F' w (pB (sh.rH φ) vs).1 cs
 | .leaf r,[],cs,_,h=>h
 | .leaf r,⟨s,x⟩::vs,cs,hp,h=>by
   have h':Holds H F w (bif s.beq r then Tree.leaf s x else .nil) cs:=h
   show Holds H' F' w (bif s.beq r then Tree.leaf s x else .nil) cs
   cases hb:s.beq r with
   |true=>
    rw[hb,cond_true]at h';obtain rfl:=Row.eq_of_beq hb;exact hm _ hp _ _ h'
   |false=>rw[hb]at h';exact h'
 | .own j,vs,cs,_,h=>by obtain⟨v,h1,h2⟩:=h;exact⟨v,hr j v h1,h2⟩
 | .nil,vs,cs,_,h=>h
 | .pair a b,vs,cs,hp,h=>by
   obtain⟨c1,c2,e,h1,h2⟩:=h;obtain⟨p1,p2⟩:=cI hp;refine⟨c1,c2,e,sE hr hm p1 h1,?_⟩;rw[pO a];exact sE hr hm p2 h2
 | .junk _,vs,cs,_,h=>h
def lC.rH(hr:Ren H H' φ):{cs:List (Nat×List Bool×Nat)}->{vs:List Value}->lC H cs vs->lC H' (cs.map λc=>(φ c.1,c.2)) vs
 |[],_,h=>h
 |_::_,_,h=>by obtain⟨v,us,e,⟨b,h1,h2⟩,h3⟩:=h;exact⟨v,us,e,⟨b,hr _ _ h1,h2⟩,lC.rH hr h3⟩
theorem IW(hr:Ren H H' φ)(hm:uF p F F' w){s:SS}{vs:List kJ}{v:Value}(hp:s.jC p=af)(h:aE H F w (eW s vs).1 v):aE H' F' w (eW (s.rH φ) vs).1 v:=by
 induction s generalizing v with
 |ifc T s ih=>
  obtain⟨u,e,h2⟩:=h;exact⟨u,e,ih hp h2⟩
 |val agg t=>
  obtain⟨cs,h1,h2⟩:=h;exact⟨cs,sE hr hm hp h1,h2⟩
 |ptr j p off=>
  obtain⟨b,h1,h2⟩:=h;exact⟨b,hr _ _ h1,h2⟩
 |«at» r=>
  match vs,h with
  |[],h=>exact h
  |⟨s,x⟩::vs,h=>
   have h':aE H F w (bif s.beq r then aF.at s x else .dead) v:=h
   show aE H' F' w (bif s.beq r then aF.at s x else .dead) v
   cases hb:s.beq r with
   |false=>trivial
   |true=>
    rw[hb,cond_true]at h';obtain rfl:=Row.eq_of_beq hb;obtain⟨b,off,rfl,hF,es,h1,h2,h3⟩:=h'
    have gW:cS F w (.slice s) [.slice (aa ⟨b,off,ae⟩) 1 1] [x]:=⟨aa ⟨b,off,ae⟩,1,rfl,aiH _,by unfold maxLen;omega,λi hi=>by
     have e:i=0:=by simp at hi;omega
     subst e
     grind⟩
    obtain⟨A,cap,e1,_,_,uX⟩:=hm (.slice s) hp _ _ gW;obtain⟨b',ef,my,hA,g1,g2,g3,g4⟩:=uX 0 (by simp);simp only[ajt,ajS,and_true]at e1;obtain⟨e1,_,_⟩:=e1;rw[<-e1]at hA;simp only[aiO,Addr.mk.injEq,and_true]at hA;obtain⟨rfl,rfl⟩:=hA;exact⟨b,off,rfl,g1,my,g2,(by grind),g4⟩
 |undef=>exact h
 |fn f js=>
  obtain⟨us,h1,h2⟩:=h;exact⟨us,h1,h2.rH hr⟩
def gq.pk{K:Row}{agg:Bool}{V:Row}(hm:∀cs x,cS F w V cs x->cS F' w' V cs x):{es:List MapEntry}->{l:List (K.den×V.den)}->gq H F w K agg V es l->gq H' F' w' K agg V es l
 |[],_,h=>h
 |_::_,_,h=>by
  obtain⟨k,x,l',e,h1,⟨cs,h2,Im⟩,h3⟩:=h;exact⟨k,x,l',e,h1,⟨cs,hm _ _ h2,Im⟩,gq.pk hm h3⟩
def cS.wF(hm:uF p F F' w):{d:DR}->{cs:List Value}->{x:d.low.den}->d.jC p=af->cS F w d.low cs x->cS F' w d.low cs x
 | .leaf r,_,_,hp,h=>hm r hp _ _ h
 | .sl _ _,_,_,_,h=>h
 | .pair a b,_,_,hp,h=>by
   obtain⟨p1,p2⟩:=cI hp;obtain⟨c1,c2,e,h1,h2⟩:=h;exact⟨c1,c2,e,cS.wF hm p1 h1,cS.wF hm p2 h2⟩
def mC.pk(hm:uF p F F' w){d:DR}(hp:d.jC p=af){T:TypeId}{v:Value}{l:List d.low.den}(h:mC F w T d.low v l):mC F' w T d.low v l:=by
 obtain⟨xs,h1,h2⟩:=h;exact⟨xs,h1,λi hi=>cS.wF hm hp (h2 i hi)⟩
def kI.pk(hm:uF p F F' w):{d:DR}->{x':d.low.den}->{x:d.row.den}->{S:Nat->Prop}->d.jC p=af->kI F w d x' x S->kI F' w d x' x S
 | .leaf _,_,_,_,_,h=>h
 | .sl _ d,_,_,_,hp,h=>by
   obtain⟨lh,Ss,h1,h2,h3,h4⟩:=h;exact⟨lh,Ss,h1.pk hm (show d.jC p=af from hp),h2,λi a b=>kI.pk hm (show d.jC p=af from hp) (h3 i a b),h4⟩
 | .pair a b,_,_,_,hp,h=>by
   obtain⟨p1,p2⟩:=cI hp;obtain⟨A,B,h1,h2,h3⟩:=h;exact⟨A,B,kI.pk hm p1 h1,kI.pk hm p2 h2,h3⟩
def Fa(T:TypeId)(d:DR):(vs:List kJ)->∃l,(dz (.deep T d) vs).1= .deep T d l ae
 |[]=>⟨[],rfl⟩
 |⟨.slice s,l⟩::vs=>by
  unfold dz;simp only
  split<;>exact⟨_,rfl⟩
 |⟨.int _,_⟩::_|⟨.bool,_⟩::_|⟨.str,_⟩::_|⟨.lz,_⟩::_|⟨.nul _,_⟩::_|⟨.pair _ _,_⟩::_|⟨.map ..,_⟩::_=>⟨[],rfl⟩
def IX(T:TypeId)(K:Row)(agg:Bool)(V:Row):(vs:List kJ)->∃l,(dz (.map T K agg V) vs).1= .map T K agg V l
 |[]=>⟨[],rfl⟩
 |⟨.slice (.pair K' V'),l⟩::vs=>by
  unfold dz;simp only
  split<;>exact⟨_,rfl⟩
 |⟨.slice (.int _),_⟩::_|⟨.slice .bool,_⟩::_|⟨.slice .str,_⟩::_|⟨.slice (.slice _),_⟩::_|⟨.slice .lz,_⟩::_|⟨.slice (.nul _),_⟩::_|⟨.slice (.map ..),_⟩::_=>⟨[],rfl⟩
 |⟨.int _,_⟩::_|⟨.bool,_⟩::_|⟨.str,_⟩::_|⟨.lz,_⟩::_|⟨.nul _,_⟩::_|⟨.pair _ _,_⟩::_|⟨.map ..,_⟩::_=>⟨[],rfl⟩
def tQ(hr:Ren H H' φ)(hm:uF p F F' w){s:OS}{vs:List kJ}{S:Nat->Prop}{v:Value}(hp:s.jC p=af)(h:iQ H F w S v (dz s vs).1):
 iQ H' F' w S v (dz (s.rH φ) vs).1/\(dz (s.rH φ) vs).1.base=(dz (s.rH φ) vs).1/\(∀k,fp S v (dz (s.rH φ) vs).1 k->fp S v (dz s vs).1 k):=by
 have own:∀(T:TypeId)(q:Row)(l:List q.den),p q=af->iQ H F w S v (.own T q l)->iQ H' F' w S v (.own T q l):=λT q l hq ⟨xs,hx,h3⟩=>⟨xs,hx,λi hi=>hm q hq _ _ (h3 i hi)⟩
 cases s with
 |box T t=>
  obtain⟨b,es,e,h1,h2⟩:=h;exact⟨⟨b,es,e,h1,sE hr hm hp h2⟩,rfl,λk hk=>hk⟩
 |own T r=>
  match vs,h with
  |[],h=>exact⟨own T r [] hp h,rfl,λ_ h=>h⟩
  |⟨.slice s,l⟩::vs,h=>
   have h':iQ H F w S v (bif s.beq r then Th.own T s l else .own T r []):=h
   show iQ H' F' w S v (bif s.beq r then Th.own T s l else .own T r [])/\Th.base (bif s.beq r then Th.own T s l else .own T r [])=(bif s.beq r then Th.own T s l else .own T r [])/\∀k,fp S v (bif s.beq r then Th.own T s l else .own T r []) k->fp S v (bif s.beq r then Th.own T s l else .own T r []) k
   cases hb:s.beq r with
   |true=>
    rw[hb,cond_true]at h';obtain rfl:=Row.eq_of_beq hb;exact⟨own T s l hp h',rfl,λ_ h=>h⟩
   |false=>
    rw[hb,cond_false]at h';exact⟨own T r [] hp h',rfl,λ_ h=>h⟩
  |⟨.int _,_⟩::vs,h=>exact⟨own T r [] hp h,rfl,λ_ h=>h⟩
  |⟨.bool,_⟩::vs,h=>exact⟨own T r [] hp h,rfl,λ_ h=>h⟩
  |⟨.str,_⟩::vs,h=>exact⟨own T r [] hp h,rfl,λ_ h=>h⟩
  |⟨.lz,_⟩::vs,h=>exact⟨own T r [] hp h,rfl,λ_ h=>h⟩
  |⟨.nul _,_⟩::vs,h=>exact⟨own T r [] hp h,rfl,λ_ h=>h⟩
  |⟨.map ..,_⟩::vs,h=>exact⟨own T r [] hp h,rfl,λ_ h=>h⟩
  |⟨.pair _ _,_⟩::vs,h=>exact⟨own T r [] hp h,rfl,λ_ h=>h⟩
 |map T K agg V=>
  have gen:∀l:List (K.den×V.den),iQ H F w S v (.map T K agg V l)->iQ H' F' w S v (.map T K agg V l):=by
   rintro l ⟨b,es,clock,e,h1,h2,h3⟩
   exact⟨b,es,clock,e,h1,h2,gq.pk (λcs x hr=>hm V hp cs x hr) h3⟩
  obtain⟨l,hl⟩:=IX T K agg V vs
  show iQ H' F' w S v (dz (OS.map T K agg V) vs).1/\(dz (OS.map T K agg V) vs).1.base=(dz (OS.map T K agg V) vs).1/\∀k,fp S v (dz (OS.map T K agg V) vs).1 k->fp S v (dz (OS.map T K agg V) vs).1 k
  rw[hl]at h⊢;exact⟨gen l h,rfl,λ_ h=>h⟩
 |deep T d=>
  obtain⟨l,hl⟩:=Fa T d vs
  show iQ H' F' w S v (dz (OS.deep T d) vs).1/\(dz (OS.deep T d) vs).1.base=(dz (OS.deep T d) vs).1/\∀k,fp S v (dz (OS.deep T d) vs).1 k->fp S v (dz (OS.deep T d) vs).1 k
  rw[hl]at h⊢;refine⟨?_,rfl,λ_ h=>h⟩;have h':kI F w (.sl T d) v l S:=h;exact(kI.pk (d:= .sl T d) hm hp h':kI F' w (.sl T d) v l S)
 |smap T K agg V it=>
  have gen:∀(l:List (K.den×V.den)),iQ H F w S v (.smap T K agg V l ae)->iQ H' F' w S v (.smap T K agg V l ae):=by
   rintro l ⟨b,es,clock,l',e,h0,h1,h2,h3,h4,_⟩
   exact⟨b,es,clock,l',e,h0,h1,h2,gq.pk (λcs x hr=>hm V hp cs x hr) h3,h4,trivial⟩
  have YW:∀(n:Nat)(l left:List (K.den×V.den)),iQ H F w S v (.smap T K agg V l (aa (n,left,ae)))->iQ H' F' w S v (.smap T K agg V l (aa (φ n,left,ae))):=by
   rintro n l left ⟨b,es,clock,l',e,h0,h1,h2,h3,h4,r,since,seen,last,i1,i2,i3,i4,i5,i6,i7,⟨l2,i8,i9⟩,_⟩
   exact⟨b,es,clock,l',e,h0,h1,h2,gq.pk (λcs x hr=>hm V hp cs x hr) h3,h4,r,since,seen,last,i1,i2,hr _ _ i3,i4,i5,i6,i7,⟨l2,gq.pk (λcs x hr=>hm V hp cs x hr) i8,i9⟩,λp hp=>by cases hp⟩
  cases it with
  |none=>
   match vs,h with
   |[],h=>exact⟨gen _ h,rfl,λ_ h=>h⟩
   |_::_,h=>exact⟨gen _ h,rfl,λ_ h=>h⟩
  |some n=>
   match vs,h with
   |[],h=>exact⟨gen _ h,rfl,λ_ h=>h⟩
   |[_],h=>exact⟨gen _ h,rfl,λ_ h=>h⟩
   |_::_::_,h=>exact⟨YW _ _ _ h,rfl,λ_ h=>h⟩
theorem yU:{l:List (Nat×SS)}->{vs:List kJ}->{t:Nat}->{d:aF}->rI p l=af->find (dh (sD φ l) vs).1 t=aa d->∃s us,d=(eW (s.rH φ) us).1/\find (dh l vs).1 t=aa (eW s us).1/\s.jC p=af
 |[],_,_,_,_,h=>by cases h
 |(t0,s)::l,vs,t,d,hp,h=>by
  obtain⟨p1,p2⟩:=cI hp;have h':find ((t0,(eW (s.rH φ) vs).1)::(dh (sD φ l) (eW (s.rH φ) vs).2).1) t=aa d:=h
  show∃s' us,d=_/\find ((t0,(eW s vs).1)::(dh l (eW s vs).2).1) t=_/\_
  rw[bd]at h';by_cases e:t0=t
  .grind [bd]
  .rw[aj e]at h';rw[yS]at h';obtain⟨s',us,a1,a2,a3⟩:=yU p2 h'
   grind [bd]
def LP(hr:Ren H H' φ)(hm:uF p F F' w){ρ:Nat->Value}{l:List (Nat×SS)}{vs:List kJ}(hp:rI p l=af)(h:∀t d,find (dh l vs).1 t=aa d->aE H F w d (ρ t)):∀t d,find (dh (sD φ l) vs).1 t=aa d->aE H' F' w d (ρ t):=by
 grind [yU,IW]
def Cw{m m':Nat}:{l:List (Nat×OS)}->{vs:List kJ}->{o s:Nat}->{t:Th}->find (ir m (Ct φ l) vs) o=aa (s,t)->∃j s' us sh,φ j=o/\t=(dz (sh.rH φ) us).1/\find (ir m' l vs) j=aa (s',(dz sh us).1)/\(yR p l=af->sh.jC p=af)/\sC (ir m (Ct φ l) vs) s=aa t/\m<=s/\s<m+l.length/\s'=s-m+m'
 |[],_,_,_,_,h=>by cases h
 |(j,sh)::l,vs,o,s,t,h=>by
  have h':find ((φ j,(m,(dz (sh.rH φ) vs).1))::ir (m+1) (Ct φ l) (dz (sh.rH φ) vs).2) o=aa (s,t):=h;rw[bd]at h';split at h'
  .rename_i e;simp only[aiO,Prod.mk.injEq]at h';obtain⟨rfl,rfl⟩:=h';refine⟨j,m',vs,sh,e,rfl,?_,λhp=>(cI hp).1,?_,aiH _,by simp,by omega⟩
   .show find ((j,(m',(dz sh vs).1))::_) j=_
    rw[bd,al rfl]
   .show(bif aiJ m m then _ else _)=_
    simp
  .rename_i e;rw[yT]at h';obtain⟨j',s',us,sh',a1,a2,a3,a4,a5,a6,a7,a8⟩:=Cw (m':=m'+1) h';refine⟨j',s',us,sh',a1,a2,?_,λhp=>a4 (cI hp).2,?_,by omega,by grind,by omega⟩
   all_goals grind [ir,bd,sC,Ct,beq_true,yT]
def Fb:List (Nat×aF)->Option (List (Bool×Tree))
 |[]=>aa []
 |(_, .val a t)::l=>match Fb l with
  |some ds=>aa ((a,t)::ds)
  |none=>ae
 |_::_=>ae
def LQ:List (Nat×aF)->Option aF
 |[]=>aa .dead
 |[(_,d)]=>aa d
 |l=>match Fb l with
  |some ds=>aa (.tup ds)
  |none=>ae
def tR:Nat->List (Nat×SS)->Bool
 |_,[]=>af
 |k,(t,_)::l=>aiJ t k&&tR (k+1) l
def G1:{l:List (Nat×SS)}->{vs:List kJ}->{k t:Nat}->{d:aF}->tR k l=af->find (dh l vs).1 t=aa d->k<=t
 |[],_,_,_,_,_,h=>by cases h
 |(t0,s)::l,vs,k,t,d,hi,h=>by
  obtain⟨h1,h2⟩:=cI hi;have h':find ((t0,(eW s vs).1)::(dh l (eW s vs).2).1) t=aa d:=h;rw[bd]at h';have:=beq_true h1;split at h'
  .omega
  .have:=G1 h2 h';omega
def LR{f:Nat->Value}:{l:List (Nat×SS)}->{vs:List kJ}->{k:Nat}->{ds:List (Bool×Tree)}->tR k l=af->(∀t d,find (dh l vs).1 t=aa d->aE H F w d (f t))->Fb (dh l vs).1=aa ds->sj H F w ds ((List.range' k l.length).map f)
 |[],_,_,_,_,_,h=>by cases h;rfl
 |(t0,s)::l,vs,k,ds,hi,np,h=>by
  obtain⟨h1,h2⟩:=cI hi;obtain rfl:=beq_true h1;have h':Fb ((t0,(eW s vs).1)::(dh l (eW s vs).2).1)=aa ds:=h;have U7:∀t d,find ((t0,(eW s vs).1)::(dh l (eW s vs).2).1) t=aa d->aE H F w d (f t):=np;have h0:=U7 t0 _ (by rw[bd,al rfl]);generalize(eW s vs).1=d0 at*
  cases d0<;>unfold Fb at h'<;>try cases h'
  rename_i a t
  split at h'<;>cases h'
  rename_i Yn xU;refine⟨f t0,(List.range' (t0+1) l.length).map f,by simp[List.range'_succ],h0,LR h2 (λt d hf=>U7 t d ?_) xU⟩;have:=G1 h2 hf
  grind [bd]
def Cx:{l:List (Nat×SS)}->{k:Nat}->tR k (sD φ l)=tR k l
 |[],_=>rfl
 |(t,s)::l,k=>by
  show(aiJ t k&&tR (k+1) (sD φ l))=_
  rw[Cx];rfl
def uG:{l:List (Nat×SS)}->(sD φ l).length=l.length
 |[]=>rfl
 |(t,s)::l=>by
  show(sD φ l).length+1=l.length+1
  rw[uG]
def Fc(us:List Value):(List.range' 0 us.length).map (λt=>us.getD t undef)=us:=by
 apply List.ext_getElem (by simp)
 grind
def R1{l:List (Nat×SS)}{vs:List kJ}{us:List Value}{D:aF}(hi:tR 0 l=af)(hl:us.length=l.length)(np:∀t d,find (dh l vs).1 t=aa d->aE H F w d (us.getD t undef))(h:LQ (dh l vs).1=aa D):aE H F w D (xY us):=by
 have tup:∀ds,Fb (dh l vs).1=aa ds->us.length≠1->aE H F w (.tup ds) (xY us):=by
  intro ds xU dA;have:=LR hi np xU;rw[<-hl,Fc]at this;refine⟨us,?_,this⟩
  match us,dA with
  |[],_=>rfl
  |[_],h=>grind
  |_::_::_,_=>rfl
 match l,hl,h with
 |[],_,h=>obtain rfl:=aiC h;trivial
 |[(t,s)],hl,h=>
  have h':LQ [(t,(eW s vs).1)]=aa D:=h;obtain rfl:=aiC h';have ht:=beq_true (cI hi).1
  match us,hl with
  |[u],_=>
   have:=np t (eW s vs).1 (by
    show find [(t,(eW s vs).1)] t=_
    rw[bd,al rfl])
   rw[ht]at this;exact this
 |(t,s)::(t',s')::l,hl,h=>
  have h':(match Fb (dh ((t,s)::(t',s')::l) vs).1 with|some ds=>aa (aF.tup ds)|none=>ae)=aa D:=h
  grind
end
end
section
def iV:Nat->List aF->List (Nat×aF)
 |_,[]=>[]
 |k,d::ds=>(k,d)::iV (k+1) ds
def QP(n:Nat)(bs:Bs)(be:List (Nat×(Nat×Th)))(m:Nat)(j:Nat):Nat:=
 bif aja j m then(match find bs j with
  |some (aa o)=>(match find be o with
   |some _=>o
   |none=>n+j)
  |_=>n+j)else n+j
def pn(be:List (Nat×(Nat×Th))):List Nat->List (Nat×(Nat×Th))
 |[]=>[]
 |o::os=>match find be o with
  |some (s,t)=>bif fE t then(o,(s,t))::pn be os else pn be os
  |none=>pn be os
def always(_:Row):Bool:=af
def G2(sg:pj):Bool:=rI Row.Cu sg.out.aG&&yR Row.Cu sg.out.objs
def tS{R:Type}(sg:pj)(n:Nat)(bs:Bs)(be:List (Nat×(Nat×Th)))(nd:List Nat)(y:dj sg.out.rows)(k:ed->Option R):Option R:=
 match LQ (dh (sD (QP n bs be sg.inn.nxt) sg.out.aG) (dy _ y)).1 with
 |some D=>bif G2 sg then k {dst:=D,eat:=iu bs,make:=ir n (Ct (QP n bs be sg.inn.nxt) sg.out.objs) (dh (sD (QP n bs be sg.inn.nxt) sg.out.aG) (dy _ y)).2}
   else k {dst:=D,eat:=iu bs++nd,make:=ir n (Ct (QP n bs be sg.inn.nxt) sg.out.objs) (dh (sD (QP n bs be sg.inn.nxt) sg.out.aG) (dy _ y)).2++pn be nd}
 |none=>ae
def oR{R:Type}(objs:List (Nat×(Nat×Th)))(n:Nat)(f:FuncId)(ds:List aF)(k:ed->Option R):List (Nat×pj)->Option R
 |[]=>ae
 |(g,sg)::tab=>bif aiJ g f then(match yP 0 [] sg.inn (iV 0 ds) objs with
    |some (x,bs,be)=>bif aiJ ds.length sg.inn.aG.length&&tR 0 sg.out.aG&&Nat.ble sg.out.nxt 16&&Nat.ble sg.out.objs.length 16&&(rI always sg.out.aG)then
      (sg.fn x).bind λy=>tS sg n bs be (yO 0 sg.inn (iV 0 ds) objs) y k else ae
    |none=>oR objs n f ds k tab)else oR objs n f ds k tab
def U8(c:Nat×List Bool×Nat):aF:= .ptr c.1 c.2.1 c.2.2
def wG{H:aK}{F:Nat->Prop}{w:World}:{cs:List (Nat×List Bool×Nat)}->{vs:List Value}->lC H cs vs->fP H F w (cs.map U8) vs
 |[],_,h=>h
 |_::_,_,h=>by obtain⟨v,us,e,h1,h3⟩:=h;exact⟨v,us,e,h1,wG h3⟩
def sF{H:aK}{F:Nat->Prop}{w:World}:{ds es:List aF}->{vs us:List Value}->fP H F w ds vs->fP H F w es us->fP H F w (ds++es) (vs++us)
 |[],_,vs,_,h,h'=>by rw[show vs=[]from h];exact h'
 |_::_,_,_,_,h,h'=>by obtain⟨v,us,rfl,h1,h2⟩:=h;exact⟨v,_,rfl,h1,sF h2 h'⟩
def G3(rd:Operand->Option aF)(x:Operand):Option (FuncId×List (Nat×List Bool×Nat)):=
 match rd x with
 |some (.fn f caps)=>aa (f,caps)
 |_=>ae
def yV{R:Type}(tab:List (Nat×pj))(rd:Operand->Option aF)(objs:List (Nat×(Nat×Th)))(n:Nat)(x:Operand)(args:List Operand)(k:ed->Option R):Option R:=
 match G3 rd x with
 |some (f,caps)=>match su rd args with
  |some ds=>oR objs n f (ds++caps.map U8) k tab
  |none=>ae
 |none=>ae
section
variable {P:Program} {ρ:Nat->Value} {w w':World} {H H':aK} {F F':Nat->Prop} {U:Nat->Prop} {n:Nat} {R:Type}
variable {ty:TypeId} {pos:String} {aft:Array Edge} {dst:Option Nat}
def pP:{ds:List aF}->{vs:List Value}->{k:Nat}->fP H F w ds vs->∀t d,find (iV k ds) t=aa d->k<=t/\aE H F w d (vs.getD (t-k) undef)
 |[],_,_,_,_,_,h=>by cases h
 |d0::ds,vs,k,h,t,d,hf=>by
  obtain⟨v,us,rfl,h1,h2⟩:=h;have sd:find ((k,d0)::iV (k+1) ds) t=aa d:=hf;rw[bd]at sd;split at sd
  .grind
  .obtain⟨h3,h4⟩:=pP h2 t d sd
   grind
theorem mU{be:List (Nat×(Nat×Th))}:{nd:List Nat}->{o s:Nat}->{t:Th}->find (pn be nd) o=aa (s,t)->o∈nd/\find be o=aa (s,t)/\fE t=af
 |[],_,_,_,h=>by cases h
 |o0::nd,o,s,t,h=>by
  unfold pn at h;split at h
  .rename_i s0 t0 h0
   cases hb:fE t0 with
   |true=>
    rw[hb,cond_true,bd]at h;split at h
    .grind
    .obtain⟨a,b⟩:=mU h
     grind
   |false=>
    rw[hb,cond_false]at h;obtain⟨a,b⟩:=mU h
    grind
  .obtain⟨a,b⟩:=mU h
   grind
def sG:{l:List (Nat×OS)}->yR always l=af
 |[]=>rfl
 |(t,s)::l=>by
  have ht:∀sh:Sh,sh.jC always=af:=by
   intro sh
   induction sh with
   |leaf r=>rfl
   |own j=>rfl
   |nil=>rfl
   |junk n=>rfl
   |pair a b iha ihb=>show(a.jC always&&b.jC always)=af;grind
  have:s.jC always=af:=by
   cases s with
   |box T t=>exact ht t
   |own T r=>rfl
   |map T K agg V=>rfl
   |deep T d=>
    have hd:∀d:DR,d.jC always=af:=by
     intro d
     induction d with
     |leaf r=>rfl
     |sl T d ih=>exact ih
     |pair a b iha ihb=>show(a.jC always&&b.jC always)=af;grind
    exact hd d
   |smap T K agg V it=>rfl
  show(s.jC always&&yR always l)=af
  rw[this,sG];rfl
def mA(H H':aK)(n:Nat)(cons:List (Nat×(Nat×Th)))(m0:Nat):aK where
 val m:=if n<=m/\m<n+16 then H'.val (m-n)else H.val m
 con m:=if n<=m/\m<n+16 then sC cons m else H.con m
 sub m:=if n<=m/\m<n+16 then H'.sub (m-n+m0)else H.sub m
def IY{dd:Option Nat}{f:FuncId}{fn:Func}{g:Operand}{args:Array Operand}{vs us:List Value}{uH:Array TypeId}(hf:P.funcs[f]? =aa fn)(hn:(fn.name== "runtime.NumGoroutine")=ah)(hb:fn.body.isNone=ah)(Yt:args.toList.map (ev ρ)=vs)(hg:ev ρ g= .func (.func f) #[] us.toArray):
 (execOp (ev ρ) ⟨dd, .call {callee:= .value g,args:=args,argTypes:=uH},ty,pos,aft,ae⟩).run P w= .ok (.enter f (vs++us).toArray) w:=by
 subst Yt
 have K8:¬fn.name= "runtime.NumGoroutine" :=by simpa using hn
 have tj:¬fn.body=ae:=by
  intro e;rw[e]at hb;cases hb
 have e:(Array.map (ev ρ) args++us.toArray)=(args.toList.map (ev ρ)++us).toArray:=by simp
 simp[execOp,resolve,hg,Deferred.ofValue,invoke,callFunc,hf,K8,tj,go_sem,e]
def IZ{sg:pj}{f:FuncId}(xZ:gZ P f sg){objs:List (Nat×(Nat×Th))}{op:Op}{k:ed->Option R}{q:R}{ds:List aF}{vs:List Value}{x:dj sg.inn.rows}{bs:Bs}{be:List (Nat×(Nat×Th))}
 (yW:fP H F w ds vs)(bD:∀fn,P.funcs[f]? =aa fn->(fn.name== "runtime.NumGoroutine")=ah->fn.body.isNone=ah->(execOp (ev ρ) ⟨dst,op,ty,pos,aft,ae⟩).run P w= .ok (.enter f vs.toArray) w)(hs:aL U H F w (find objs) n)
 (vF:yP 0 [] sg.inn (iV 0 ds) objs=aa (x,bs,be))
 (h':(bif aiJ ds.length sg.inn.aG.length&&tR 0 sg.out.aG&&Nat.ble sg.out.nxt 16&&Nat.ble sg.out.objs.length 16&&(rI always sg.out.aG)then
   (sg.fn x).bind λy=>tS sg n bs be (yO 0 sg.inn (iV 0 ds) objs) y k else ae)=aa q):
 ∃e,k e=aa q/\cE P U H F w ρ (find objs) n ⟨dst,op,ty,pos,aft,ae⟩ e:=by
 obtain⟨hc,h'⟩:=aV h';obtain⟨hc,hc5⟩:=cI hc;obtain⟨hc,Uc⟩:=cI hc;obtain⟨hc,Lr⟩:=cI hc;obtain⟨yu,BF⟩:=cI hc;have yu:=beq_true yu
 have Lr:sg.out.nxt<=16:=by simpa using Lr
 have Uc:sg.out.objs.length<=16:=by simpa using Uc
 obtain⟨y,hy,h⟩:=bind_some h';clear h';obtain⟨⟨fn,YL,hf2,hf3⟩,np⟩:=xZ;have aco:=kM yW
 let H0:aK:=⟨λ_=>ae,λ_=>ae,λ_ _=>False⟩
 have Pa:aL U H0 F w (find (del [] [])) 0:=⟨λ_ _ _ h=>(by cases h),λ_ _ _ _ _ _ _ _ _ h=>(by cases h),λ_ _ _=>⟨rfl,rfl⟩,hs.lt,hs.new,hs.gl⟩
 have hk0:cG H0 F w H F w:=⟨⟨λ_ _ h=>(by cases h),λ_ _ h=>(by cases h),λ_ _ h=>(by cases h)⟩,Step.refl F w⟩
 have gW:∀t d,find (iV 0 ds) t=aa d->aE H F w d (vs.getD t undef):=λt d hd=>by simpa using(pP yW t d hd).2
 obtain⟨F1,H1,vE,Ev,Oj,xX,Cr,tP,G0,R2,Cy⟩:=wE (U':=λk=>w.heap.size<=k\/∃o∈iu bs,∃s t v,find be o=aa (s,t)/\H.val o=aa v/\fp (H.sub s) v t k) (ns:=[]) (objs0:=[]) (ρ:=λt=>vs.getD t undef) vF Pa (λ_ _=>⟨rfl,rfl⟩) hk0 hs gW;have Cy:=Cy (λb hb=> .inl hb) (by grind) (λ_ _ _ _ _ h=>by cases h);generalize hG:(λk=>∃o∈iu bs,∃s t v,find be o=aa (s,t)/\H.val o=aa v/\fp (H.sub s) v t k)=G
 have U9:∀k,G k->¬F1 k:=by
  rw[<-hG]
  rintro k ⟨o,_,s,t,v,h1,h2,h3⟩
  obtain⟨v',eR,cL⟩:=vE.obj _ _ _ h1;rw[h2]at eR;obtain rfl:=aiC eR;exact cL.no k h3
 have YX:∀k,G k->cx H (find objs) (iu bs) k:=by
  rw[<-hG]
  rintro k ⟨o,ho,s,t,v,h1,h2,h3⟩
  rcases kB xX o s t h1 with h4|h4
  .exact⟨o,ho,s,t,v,h4,h2,h3⟩
  .exact(ig h4 h3).elim
 have Va:aL (λk=>w.heap.size<=k\/G k) H1 F1 w (find (ir 0 sg.inn.objs (dh sg.inn.aG (dy sg.inn.rows x)).2)) sg.inn.nxt:=by
  rw[show del [] ([]:List (Nat×(Nat×Th)))=[]from rfl,List.append_nil]at Cy;rw[<-hG];exact Cy
 have Vb:=np x y hy vs w H1 F1 G (by omega) R2 Va G0 U9;generalize EV:yO 0 sg.inn (iV 0 ds) objs=nd at h Oj xX;generalize YY:QP n bs be sg.inn.nxt=φ at h;unfold tS at h;rw[YY]at h;split at h
 case h_2=>cases h
 rename_i D hD
 have wk:∀(e:ed),e.dst=D->(∀(w':World)(us:List Value)(H':aK)(F':Nat->Prop),us.length=sg.out.aG.length->Ext G w w'->H1.le H'->(∀b,F1 b->F' b)->(∀b,F' b->F1 b\/w.heap.size<=b\/G b)->
  (∀t d,find (dh sg.out.aG (dy sg.out.rows y)).1 t=aa d->aE H' F' w' d (us.getD t undef))->aL (λk=>w.heap.size<=k\/G k) H' F' w' (find (ir sg.inn.nxt sg.out.objs (dh sg.out.aG (dy sg.out.rows y)).2)) sg.out.nxt->iR H' sg.out.nxt->mz H F w (find objs) n e (xY us) w')->
  cE P U H F w ρ (find objs) n ⟨dst,op,ty,pos,aft,ae⟩ e:=by
  intro e he uI;have bD:=bD fn YL hf2 hf3;unfold cE ct;rw[bD];refine Vb.mono (by grind)
 generalize GZ:ir n (Ct φ sg.out.objs) (dh (sD φ sg.out.aG) (dy sg.out.rows y)).2=cons at h;have YZ:=Cv (φ:=φ) sg.out.aG (dy sg.out.rows y)
 have R3:∀{H':aK},H1.le H'->iR H' sg.out.nxt->Ren H' (mA H H' n cons sg.inn.nxt) φ/\H.le (mA H H' n cons sg.inn.nxt)/\∀m,(m<n\/n+16<=m)->(H.val m=ae->(mA H H' n cons sg.inn.nxt).val m=ae)/\(H.con m=ae->(mA H H' n cons sg.inn.nxt).con m=ae):=by
  intro H' hle zY
  have Fe:∀j v,H'.val j=aa v->j<sg.out.nxt:=λj v hj=>by
   rcases Nat.lt_or_ge j sg.out.nxt with g|g
   .exact g
   .rw[(zY j g).1]at hj;cases hj
  have hold:∀o v,H.val o=aa v->¬(n<=o/\o<n+16):=λo v ho hc=>by
   rw[(hs.fresh o hc.1 hc.2).1]at ho;cases ho
  refine⟨λj v hj=>?_,⟨λo v ho=>?_,λs t iq=>?_,λs t iq=>?_⟩,λm hm=>?_⟩
  .rw[<-YY];have Vc:=Fe j v hj
   have gen:(mA H H' n cons sg.inn.nxt).val (n+j)=aa v:=by
    simp only[mA];rw[al (by omega),Nat.add_sub_cancel_left];exact hj
   unfold QP
   cases hb:aja j sg.inn.nxt with
   |false=>simpa using gen
   |true=>
    rw[cond_true];split
    .rename_i o ho;split
     case h_2=>exact gen
     rename_i e he;obtain⟨u,hu,_⟩:=vE.obj o e.1 e.2 he;have h1:=hle.val _ _ (tP j (aa o) ho u hu)
     grind [mA]
    .exact gen
  .grind [mA]
  .simp only[mA];rw[aj (λhc=>by rw[(hs.fresh s hc.1 hc.2).2]at iq;cases iq)];exact iq
  .simp only[mA];rw[aj (λhc=>by rw[(hs.fresh s hc.1 hc.2).2]at iq;cases iq)]
  .grind [mA]
 have made:∀{p:Row->Bool}{us:List Value}{w':World}{H':aK}{F' F2:Nat->Prop}{eat:List Nat},us.length=sg.out.aG.length->rI p sg.out.aG=af->yR p sg.out.objs=af->uF p F' F2 w'->Ext G w w'->H1.le H'->(∀b,F2 b->F' b)->(∀o,o∈iu bs->o∈eat)->
  (∀t d,find (dh sg.out.aG (dy sg.out.rows y)).1 t=aa d->aE H' F' w' d (us.getD t undef))->aL (λk=>w.heap.size<=k\/G k) H' F' w' (find (ir sg.inn.nxt sg.out.objs (dh sg.out.aG (dy sg.out.rows y)).2)) sg.out.nxt->iR H' sg.out.nxt->
  aE (mA H H' n cons sg.inn.nxt) F2 w' D (xY us)/\Made (mA H H' n cons sg.inn.nxt) F2 w w' (cx H (find objs) eat) cons/\∀o,(find cons o).isSome->o∈eat\/n<=o:=by
  intro p us w' H' F' F2 eat Pd Xw OK XJ bS hle Oj ke Iu Pe Vd;obtain⟨hr,_,_⟩:=R3 hle Vd
  have G4:∀o s t,find cons o=aa (s,t)->∃j s' us sh,φ j=o/\t=(dz (sh.rH φ) us).1/\find (ir sg.inn.nxt sg.out.objs (dh sg.out.aG (dy sg.out.rows y)).2) j=aa (s',(dz sh us).1)/\sh.jC p=af/\sC cons s=aa t/\n<=s/\s<n+16/\(mA H H' n cons sg.inn.nxt).sub s=H'.sub s':=by
   intro o s t ho;rw[<-GZ]at ho⊢;rw[YZ]at ho⊢;obtain⟨j,s',Y0,sh,a1,a2,a3,a4,a5,a6,a7,a8⟩:=Cw (m':=sg.inn.nxt) ho
   have aH:s<n+16:=by omega
   refine⟨j,s',Y0,sh,a1,a2,a3,a4 OK,a5,a6,aH,?_⟩;simp only[mA];rw[al ⟨a6,aH⟩,a8]
  refine⟨?_,⟨λo s t ho=>?_,λo o' s s' t t' v v' dA ho mf hv eR k hk kG=>?_⟩,λo ho=>?_⟩
  .exact R1 (by rw[Cx];exact BF) (by rw[uG];exact Pd) (LP hr XJ Xw Iu) hD
  .obtain⟨j,s',Y0,sh,rfl,rfl,a3,a4,a5,a6,a7,a8⟩:=G4 o s t ho;rw[a8];obtain⟨v,hv,cL⟩:=Pe.obj _ _ _ a3;obtain⟨b1,b2,b3⟩:=tQ hr XJ a4 cL.ok;refine⟨v,hr j v hv,cL.one,?_,b1,λk hk=>⟨λe=>cL.no k (b3 k hk) (Oj k e),cL.lt k (b3 k hk),?_⟩⟩
   .grind [mA]
   .rcases cL.use k (b3 k hk)with h1|h1
    .exact .inl h1
    .obtain⟨o',mf,rest⟩:=YX k h1;exact .inr ⟨o',ke o' mf,rest⟩
  .obtain⟨j,s1,us1,sh,rfl,rfl,a3,a4,a5,a6,_,a8⟩:=G4 o s t ho;obtain⟨j',s1',aeg,sh',rfl,rfl,a3',a4',a5',a6',_,a8'⟩:=G4 o' s' t' mf;rw[a8]at hk;rw[a8']at kG;obtain⟨u,hu,cL⟩:=Pe.obj _ _ _ a3;obtain⟨u',GN,Ci⟩:=Pe.obj _ _ _ a3';have e1:=hr j u hu;rw[hv]at e1;obtain rfl:=aiC e1;have e2:=hr j' u' GN;rw[eR]at e2;obtain rfl:=aiC e2;exact Pe.apart j j' _ _ _ _ _ _ (λe=>dA (by rw[e])) a3 a3' hu GN k ((tQ hr XJ a4 cL.ok).2.2 k hk) ((tQ hr XJ a4' Ci.ok).2.2 k kG)
  .obtain⟨e,he⟩:=ajb.1 ho;obtain⟨j,s',Y0,sh,rfl,_⟩:=G4 o e.1 e.2 he;rw[<-YY];unfold QP
   cases aja j sg.inn.nxt with
   |false=>grind
   |true=>
    grind [kf]
 have Ve:∀{w':World}{eat:List Nat},Ext G w w'->(∀o,o∈iu bs->o∈eat)->Ext (cx H (find objs) eat) w w':=λbS ke=>⟨bS.os,bS.tape,bS.output,bS.size,λk hk hn=>bS.block k hk λhG=>hn (by
  obtain⟨o,ho,rest⟩:=YX k hG
  exact⟨o,ke o ho,rest⟩)⟩
 cases Vf:G2 sg with
 |true=>
  rw[Vf,cond_true]at h;obtain⟨p1,p2⟩:=cI Vf;refine⟨_,h,wk _ rfl λw' us H' F' Pd a1 a2 a3 a4 a5 a6 a7=>?_⟩;obtain⟨_,g2,g3⟩:=R3 a2 a7;obtain⟨m1,m2,m3⟩:=made (F2:=F) (eat:=iu bs) Pd p1 p2 (λr hr cs x hx=>cS.E9 hr hx) a1 a2 (λb hb=>a3 b (Ev b hb)) (λ_ h=>h) a5 a6 a7;exact⟨_,F,⟨g2,Ve a1 (λ_ h=>h),λ_ h=>h,λ_ h=> .inl h,λb hb=>ai1 (hs.lt b hb) a1.size⟩,g3,m1,m2,m3⟩
 |false=>
  rw[Vf,cond_false]at h;refine⟨_,h,wk _ rfl λw' us H' F' Pd a1 a2 a3 a4 a5 a6 a7=>?_⟩;obtain⟨_,g2,g3⟩:=R3 a2 a7;obtain⟨m1,m2,m3⟩:=made (F2:=F') (eat:=iu bs++nd) Pd hc5 sG (λr _ cs x hx=>hx) a1 a2 (λ_ h=>h) (λo h=>by simp[h]) a5 a6 a7
  have iq:Step F1 w F' w':=λb hb=>⟨a3 b hb,a1.block b (vE.lt b hb) λe=>U9 b e hb⟩
  have u9:∀o s t,find (pn be nd) o=aa (s,t)->o∈nd/\fE t=af/\∃v,H.val o=aa v/\v.oneCell'=af/\H.con s=aa t.base/\iQ H F1 w (H.sub s) v t:=by
   intro o s t ho;obtain⟨b1,b2,b3⟩:=mU ho;obtain⟨v,hv,cL⟩:=vE.obj _ _ _ b2;exact⟨b1,b3,v,hv,cL.one,cL.con,cL.ok⟩
  have part:∀o s t,find (cons++pn be nd) o=aa (s,t)->find cons o=aa (s,t)\/find (pn be nd) o=aa (s,t):=by
   intro o s t ho;rw[iO]at ho
   cases hm:find cons o with
   |some e=>grind
   |none=>grind
  refine⟨_,F',⟨g2,Ve a1 (λo h=>by simp[h]),λb hb=>a3 b (Ev b hb),λb hb=>?_,a6.lt⟩,g3,m1,⟨λo s t ho=>?_,λo o' s s' t t' v v' dA ho mf hv eR k hk kG=>?_⟩,λo ho=>?_⟩
  .rcases a4 b hb with h1|h1|h1
   .rcases Oj b h1 with h2|⟨o,ho,rest⟩
    .exact .inl h2
    .exact .inr (.inr ⟨o,by simp[ho],rest⟩)
   .grind
   .obtain⟨o,ho,rest⟩:=YX b h1;exact .inr (.inr ⟨o,by simp[ho],rest⟩)
  .rcases part o s t ho with h1|h1
   .exact m2.obj o s t h1
   .obtain⟨b1,b2,v,b3,b4,b5,b6⟩:=u9 o s t h1;refine⟨v,g2.val _ _ b3,b4,g2.con _ _ b5,by rw[g2.sub _ _ b5];exact b6.heap g2 iq (λk hk=>(ig b2 hk).elim),λk hk=>(ig b2 hk).elim⟩
  .rcases part o s t ho with h1|h1<;>rcases part o' s' t' mf with h2|h2
   .exact m2.apart o o' s s' t t' v v' dA h1 h2 hv eR k hk kG
   .grind [ig]
   .exact ig (u9 o s t h1).2.1 hk
   .exact ig (u9 o s t h1).2.1 hk
  grind [ajb]
def ow{Vg:List (Nat×pj)}(xZ:∀p∈Vg,gZ P p.1 p.2){objs:List (Nat×(Nat×Th))}{f:FuncId}{op:Op}{k:ed->Option R}{q:R}{ds:List aF}{vs:List Value}
 (yW:fP H F w ds vs)(bD:∀fn,P.funcs[f]? =aa fn->(fn.name== "runtime.NumGoroutine")=ah->fn.body.isNone=ah->(execOp (ev ρ) ⟨dst,op,ty,pos,aft,ae⟩).run P w= .ok (.enter f vs.toArray) w)(hs:aL U H F w (find objs) n):{tab:List (Nat×pj)}->(∀p∈tab,p∈Vg)->oR objs n f ds k tab=aa q->
 ∃e,k e=aa q/\cE P U H F w ρ (find objs) n ⟨dst,op,ty,pos,aft,ae⟩ e
 |[],_,h=>by cases h
 |(f0,sg)::tab,cL,h=>by
  unfold oR at h
  cases hb:aiJ f0 f with
  |false=>rw[hb,cond_false]at h;exact ow xZ yW bD hs (λp hp=>cL p (by simp[hp])) h
  |true=>
   rw[hb,cond_true]at h;obtain rfl:=beq_true hb;split at h
   case h_2=>exact ow xZ yW bD hs (λp hp=>cL p (by simp[hp])) h
   rename_i x bs be vF;exact IZ (xZ (f0,sg) (cL _ (by simp))) yW bD hs vF h
def Cz{tab:List (Nat×pj)}(xZ:∀p∈tab,gZ P p.1 p.2){rd:Operand->Option aF}(gJ:∀x d,rd x=aa d->aE H F w d (ev ρ x)){objs:List (Nat×(Nat×Th))}{g:Operand}{args:Array Operand}{uH:Array TypeId}{k:ed->Option R}{q:R}
 (h:yV tab rd objs n g args.toList k=aa q)(hs:aL U H F w (find objs) n):
 ∃e,k e=aa q/\cE P U H F w ρ (find objs) n ⟨dst, .call {callee:= .value g,args:=args,argTypes:=uH},ty,pos,aft,ae⟩ e:=by
 unfold yV at h;split at h
 case h_2=>cases h
 rename_i f caps hc;split at h
 case h_2=>cases h
 rename_i ds xU;unfold G3 at hc;split at hc
 case h_2=>cases hc
 rename_i f' acq hg;cases hc;obtain⟨us,h1,h2⟩:=gJ _ _ hg;exact ow xZ (sF (oi (w:=w) (H:=H) (F:=F) (ρ:=ρ) gJ xU) (wG (F:=F) (w:=w) h2)) (λfn g1 g2 g3=>IY g1 g2 g3 rfl h1) hs (λ_ h=>h) h
end
end
section
section
variable {P:Program} {ρ:Nat->Value} {w w':World} {H H':aK} {F F':Nat->Prop} {U:Nat->Prop} {ob:Nat->Option (Nat×Th)} {n:Nat} {R:Type}
variable {op:Op} {ty:TypeId} {pos:String} {aft:Array Edge} {d:Nat} {dst:Option Nat}
def Kt.G5:Kt->Bool
 | .other=>ah
 |_=>af
def yv.G5{t:TypeId}{k:Kt}(h:yv P t k)(hk:k.G5=af):∃D,P.underlying t=aa D/\∀ms,D≠ .interface ms:=by
 cases k with
 |other=>cases hk
 |struct fs=>obtain⟨arr,h,_⟩:=h;grind
 |_=>exact⟨_,h,λ_ e=>by cases e⟩
def Aq(T:bj P)(t:TypeId):Bool:=match find T.und t with
 |some k=>k.G5
 |none=>ah
def yX(T:bj P){t:TypeId}(h:Aq T t=af):∃D,P.underlying t=aa D/\∀ms,D≠ .interface ms:=by
 unfold Aq at h;split at h
 .rename_i k hk;exact(T.und_ok _ _ hk).G5 h
 .cases h
def I0(T:bj P)(t:TypeId)(D:aF)(k:ed->Option R):Option R:=bif Aq T t then k {dst:= .ifc t D}else ae
def Pf(T:bj P){t:TypeId}{D:aF}{x:Operand}{k:ed->Option R}{q:R}(h:I0 T t D k=aa q)(hs:aL U H F w ob n)(hx:aE H F w D (ev ρ x)):
 ∃e,k e=aa q/\cE P U H F w ρ ob n ⟨aa d, .makeInterface t x,ty,pos,aft,ae⟩ e:=by
 unfold I0 at h;obtain⟨h1,h2⟩:=aV h;obtain⟨D0,hD,hn⟩:=yX T h1;refine⟨_,h2,bP hs (v:= .iface t (ev ρ x)) ?_ ⟨_,rfl,hx⟩⟩
 cases D0 with
 |interface ms=>grind
 |_=>simp[execOp,Instr.makeInterface,run_underlying hD,aiQ]
def qL(T:bj P)(t:TypeId)(ok:Bool)(D:aF)(k:ed->Option R):Option R:=
 match D with
 | .ifc t' d=>bif aiJ t' t&&Aq T t then(match ok,d with
   |true, .val agg tr=>k {dst:= .tup [(agg,tr),(ah, .leaf .bool af)]}
   |true,_=>ae
   |false,d=>k {dst:=d})else ae
 |_=>ae
def Ff(T:bj P){xt t:TypeId}{ok:Bool}{D:aF}{x:Operand}{k:ed->Option R}{q:R}(h:qL T t ok D k=aa q)(hs:aL U H F w ob n)(hx:aE H F w D (ev ρ x)):
 ∃e,k e=aa q/\cE P U H F w ρ ob n ⟨aa d, .typeAssert x xt t ok,ty,pos,aft,ae⟩ e:=by
 unfold qL at h;split at h
 case h_2=>cases h
 rename_i t' dd;obtain⟨h1,h2⟩:=aV h;obtain⟨h1,h3⟩:=cI h1;obtain rfl:=beq_true h1;obtain⟨D0,hD,hn⟩:=yX T h3;obtain⟨u,hu,hd⟩:=hx
 have bD:(Instr.typeAssert (ev ρ x) xt t' ok).run P w= .ok (if ok then .tuple #[u, .bool af]else u) w:=by
  rw[hu]
  cases D0 with
  |interface ms=>grind
  |_=>simp[Instr.typeAssert,run_underlying hD,aiQ]
 split at h2
 .exact⟨_,h2,bP hs (v:= .tuple #[u, .bool af]) (by simp[execOp,bD,aiQ]) ⟨[u, .bool af],rfl,_,_,rfl,hd,_,_,rfl,aS.ga ..,rfl⟩⟩
 .cases h2
 .exact⟨_,h2,bP hs (v:=u) (by simp[execOp,bD,aiQ]) hd⟩
def G6:List (TypeId×(String×(FuncId×Bool)))->TypeId->String->Option (FuncId×Bool)
 |[],_,_=>ae
 |(t',(nm,p))::l,t,name=>bif aiJ t' t&&(nm==name)then aa p else G6 l t name
def CA{t:TypeId}{name:String}{f:FuncId}{pr:Bool}:{l:List (TypeId×(String×(FuncId×Bool)))}->G6 l t name=aa (f,pr)->(t,(name,(f,pr)))∈l
 |[],h=>by cases h
 |(t',(nm,p))::l,h=>by
  unfold G6 at h
  cases hb:aiJ t' t&&(nm==name)with
  |true=>
   simp_all
  |false=>
   rw[hb,cond_false]at h;exact List.mem_cons_of_mem _ (CA h)
def Fg{t:TypeId}{name:String}{f:FuncId}{pr:Bool}{v u:Value}{fuel:Nat}(h:ri P t name f pr)(hr:∀nm,(receiverAt t (.val v) pr (aa nm)).run P w= .ok u w):(method (fuel+1) t v name).run P w= .ok (f,u) w:=by
 unfold ri at h
 cases hi:P.info? t with
 |none=>grind
 |some ti=>
  rw[hi]at h;have h:(ti.methods.find? λm=>m.name==name).map (λm=>(m.path.toList.length,m.func))=aa (0,aa (f,pr)):=h
  cases hm:ti.methods.find? λm=>m.name==name with
  |none=>grind
  |some m=>
   rw[hm]at h;simp only[Option.map_some,aiO,Prod.mk.injEq]at h
   have hp:m.path= #[]:=by
    have:=h.1;simpa using this
   simp[method,typeInfo,hi,hm,hp,follow,h.2,hr,aiQ,ai0]
def I1{t e:TypeId}{nm:String}{v:Value}(hu:P.underlying t=aa (.pointer e)):(receiverAt t (.val v) af (aa nm)).run P w= .ok v w:=by
 simp[receiverAt,run_underlying hu,Place.get,aiQ,ai0]
def I2{t e:TypeId}{nm:String}{a:Addr}{u:Value}(hu:P.underlying t=aa (.pointer e))(hl:(loadVar e a).run P w= .ok u w):(receiverAt t (.val (.pointer (aa a))) ah (aa nm)).run P w= .ok u w:=by
 have hw:Builtin.ssaWrapNilChk_ #[t] t #[.pointer (aa a),strVal "",strVal nm]=pure (.pointer (aa a)):=rfl;simp[receiverAt,run_underlying hu,Place.get,hw,asAddr,hl,aiQ,ai0]
def wH{t:TypeId}{name:String}{f:FuncId}{fn:Func}{pr:Bool}{v u:Value}{x:Operand}{args:Array Operand}{uH:Array TypeId}(h:ri P t name f pr)(hx:ev ρ x= .iface t v)(hr:∀nm,(receiverAt t (.val v) pr (aa nm)).run P w= .ok u w)
 (hf:P.funcs[f]? =aa fn)(hn:(fn.name== "runtime.NumGoroutine")=ah)(hb:fn.body.isNone=ah):
 (execOp (ev ρ) ⟨dst, .call {callee:= .invoke x name,args:=args,argTypes:=uH},ty,pos,aft,ae⟩).run P w= .ok (.enter f (u::args.toList.map (ev ρ)).toArray) w:=by
 have K8:¬fn.name= "runtime.NumGoroutine" :=by simpa using hn
 have tj:¬fn.body=ae:=by
  intro e;rw[e]at hb;cases hb
 have hm:=Fg (fuel:=P.types.size+99) h hr;have hfu:P.types.size+100=P.types.size+99+1:=rfl
 have e1:(#[Value.iface t v]++Array.map (ev ρ) args).extract 1 (1+args.size)=Array.map (ev ρ) args:=by
  apply Array.ext';simp;exact List.take_of_length_le (by simp)
 have e0:(#[Value.iface t v]++Array.map (ev ρ) args)[0]? =aa (Value.iface t v):=by simp[Array.getElem?_append]
 have e2:(#[u]++Array.map (ev ρ) args)=(u::args.toList.map (ev ρ)).toArray:=by apply Array.ext';simp
 simp[execOp,resolve,hx,invoke,callMethod,hfu,hm,callFunc,hf,K8,tj,go_sem,e0,e1,e2]
def vG(T:bj P)(ob:Nat->Option (Nat×Th))(e:TypeId)(D:aF):Option aF:=
 match find T.und e with
 |none=>ae
 |some kk=>match D with
  | .ptr o p off=>match ob o with
    |some (_, .box _ tr)=>match tr.get p with
     |some (s,ef)=>bif aiJ ef off&&mS T e kk s.size then aa (.val (kL kk) s)else ae
     |none=>ae
    |_=>ae
  |_=>ae
def Fh(T:bj P){e:TypeId}{D D':aF}{v:Value}(h:vG T ob e D=aa D')(hs:aL U H F w ob n)(hx:aE H F w D v):∃a u,v= .pointer (aa a)/\(loadVar e a).run P w= .ok u w/\aE H F w D' u:=by
 unfold vG at h;split at h
 .cases h
 rename_i kk hu;split at h
 case h_2=>cases h
 rename_i o p off;split at h
 case h_2=>cases h
 rename_i st0 T0 tr cM;split at h
 case h_2=>cases h
 rename_i s ef hg;obtain⟨h1,h2⟩:=aV h;cases h2;obtain⟨h1,h3⟩:=cI h1;obtain rfl:=beq_true h1;obtain⟨b,hb,rfl⟩:=hx;obtain⟨es,hh,QK⟩:=hs.box cM hb;obtain⟨g1,g2⟩:=QK.get hg
 have hc:∀j u,((es.drop ef).take s.size)[j]? =aa u->w.cell? ⟨b,ef+j,ae⟩=aa u:=λj u hj=>by
  grind [vZ]
 obtain⟨dd,xP,xL⟩:=(T.und_ok _ _ hu).agg;have hz:=kw T h3;have hl:=g1.length;generalize(es.drop ef).take s.size=cs at g1 hc hl
 cases ha:kL kk with
 |true=>
  rw[al ha]at hz;obtain⟨r,hr,Oe⟩:=hz;obtain⟨ti,z,h1,_,_,h4,_⟩:=T.row_ok _ _ hr;have Y1:(loadCells ⟨b,ef,ae⟩ cs.length).run P w= .ok cs.toArray w:=run_loadCells_list (P:=P) w ⟨b,ef,ae⟩ cs (λj v hv=>by rw[di];exact hc j v hv)
  have mh:ti.size=cs.length:=by omega
  exact⟨_, .agg cs.toArray,rfl,by simp[loadVar,ai0,fJ xP,xL,ha,sizeOf,typeInfo,h1,mh,Y1],⟨cs,g1,rfl,by simp⟩⟩
 |false=>
  rw[aj (by simp[ha])]at hz
  obtain⟨v,rfl⟩:∃v,cs=[v]:=by
   match cs,hl.trans hz with
   |[v],_=>grind
  have hcv:w.cell? ⟨b,ef,ae⟩=aa v:=hc 0 v rfl;exact⟨_,v,rfl,by simp[loadVar,ai0,fJ xP,xL,ha,hcv,go_sem],⟨[v],g1,rfl,λ_=>rfl⟩⟩
def qM(T:bj P)(tab:List (Nat×pj))(rd:Operand->Option aF)(objs:List (Nat×(Nat×Th)))(n:Nat)(x:Operand)(name:String)(args:List Operand)(k:ed->Option R):Option R:=
 match rd x with
 |some (.ifc t d)=>match G6 T.mth t name with
  |some (f,pr)=>match find T.und t with
   |some (.ptr e)=>match(bif pr then aa d else vG T (find objs) e d)with
    |some d'=>match su rd args with
     |some ds=>oR objs n f (d'::ds) k tab
     |none=>ae
    |none=>ae
   |_=>ae
  |none=>ae
 |_=>ae
def wI(T:bj P){tab:List (Nat×pj)}(xZ:∀p∈tab,gZ P p.1 p.2){rd:Operand->Option aF}(gJ:∀x d,rd x=aa d->aE H F w d (ev ρ x)){objs:List (Nat×(Nat×Th))}{x:Operand}{name:String}{args:Array Operand}{uH:Array TypeId}{k:ed->Option R}{q:R}
 (h:qM T tab rd objs n x name args.toList k=aa q)(hs:aL U H F w (find objs) n):
 ∃e,k e=aa q/\cE P U H F w ρ (find objs) n ⟨dst, .call {callee:= .invoke x name,args:=args,argTypes:=uH},ty,pos,aft,ae⟩ e:=by
 unfold qM at h;split at h
 case h_2=>cases h
 rename_i t d0 hx;split at h
 case h_2=>cases h
 rename_i f pr hm;split at h
 case h_2=>cases h
 rename_i e hu;split at h
 case h_2=>cases h
 rename_i d' Bw;split at h
 case h_2=>cases h
 rename_i ds xU;obtain⟨v,hv,hdv⟩:=gJ _ _ hx;have hM:=T.mth_ok _ (CA hm);have hu:=T.und_ok _ _ hu;have XK:=oi (w:=w) (H:=H) (F:=F) (ρ:=ρ) gJ xU
 cases pr with
 |true=>
  cases Bw
  have OV:fP H F w (d0::ds) (v::args.toList.map (ev ρ)):=⟨v,_,rfl,hdv,XK⟩
  exact ow xZ OV (λfn g1 g2 g3=>wH hM hv (λnm=>I1 hu) g1 g2 g3) hs (λ_ h=>h) h
 |false=>
  obtain⟨a,u,rfl,hl,hdu⟩:=Fh T (show vG T (find objs) e d0=aa d' from Bw) hs hdv
  have OV:fP H F w (d'::ds) (u::args.toList.map (ev ρ)):=⟨u,_,rfl,hdu,XK⟩
  exact ow xZ OV (λfn g1 g2 g3=>wH hM hv (λnm=>I2 hu hl) g1 g2 g3) hs (λ_ h=>h) h
end
end
end Go.Proofs.YtfeahmiobbjklaaGreatDoor
