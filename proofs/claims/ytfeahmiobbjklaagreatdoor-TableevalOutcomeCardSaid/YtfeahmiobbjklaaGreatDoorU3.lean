/- Joined texts: Smap Apd Pack2 Call Call2 Ifc. -/
import Derived.Test.YtfeahmiobbjklaaGreatDoorU2
import Derived.Maps.RangeRun
set_option linter.defProp false
open _root_.Bool renaming false->ag,true->af
open _root_.Option renaming none->ae,some->aa,isSome_iff_exists->ag5
open _root_.Array renaming getElem?_eq_some_iff->ag6,toList_filter->ahQ
open _root_.Go.ChangeMaps renaming setBlock->ahG
open _root_.Go.Instr renaming findAsking->ahX,findNow->ahl,lookup->ahW,mapUpdate->ahx
open _root_.List renaming filter_eq_self->ahP,mem_cons->agY,mem_filter->ahi,pairwise_cons->agO,getElem_append_right->ahh
open _root_.Go.MapKept renaming run_getObj_map->ahc,run_setObj_map->ahE
open _root_.Nat renaming beq->agC,le_refl->agB,lt_of_lt_of_le->agV,blt->ag4
open _root_.Option.some renaming inj->agx,injEq->agH
open _root_.Go.Result renaming andThen->agI
open _root_.Go.Value renaming ownBlock->agR
open _root_.List.cons renaming injEq->aht
open _root_.Go.Value.slice renaming injEq->ahJ
open _root_.Go.Sem renaming run_bind->agU
namespace Go.Proofs.YtfeahmiobbjklaaGreatDoor
open Go Go.RowKit
set_option maxRecDepth 100000
set_option linter.unusedSimpArgs false
set_option linter.unusedVariables false
set_option linter.defProp false
section
open Go Go.RowKit Go.MapKept
def Ke:(K:Row)->K.den->K.den->Bool
 | .int _,a,b=>decide ((a:Int)<b)
 | .pair (.int _) (.int _),a,b=>decide ((a.1:Int)<b.1\/((a.1:Int)=b.1/\(a.2:Int)<b.2))
 |_,_,_=>ag
def Bh{α:Type}(K:Row):List (K.den×α)->K.den->α->List (K.den×α)
 |[],k,v=>[(k,v)]
 |p::l,k,v=>if Ke K k p.1=af then(k,v)::p::l else p::Bh K l k v
noncomputable def qs{α:Type}(K:Row)(l:List (K.den×α))(k:K.den)(v:α):List (K.den×α):=Bh K (l.filter λp=> !eA K p.1 k) k v
theorem p5{α:Type}{K:Row}(k:K.den)(v:α):(l:List (K.den×α))->(Bh K l k v).Perm ((k,v)::l)
 |[]=> .refl _
 |p::l=>by
  unfold Bh;split
  .exact .refl _
  .exact((p5 k v l).cons p).trans (.swap ..)
theorem o5{K:Row}{a b:K.den}(h:eA K a b=af):a=b:=by
 unfold eA at h;split at h
 all_goals grind
theorem qQ{K:Row}{a b:K.den}(h:eA K a b=ag):eA K b a=ag:=by
 grind [o5]
def zn{α:Type}(K:Row)(l:List (K.den×α)):Prop:=l.Pairwise λp q=>eA K p.1 q.1=ag
def zn.perm{α:Type}{K:Row}{l l':List (K.den×α)}(h:l'.Perm l)(hd:zn K l):zn K l':=(h.pairwise_iff λ{a b}=>qQ).2 hd
def D3{α:Type}{K:Row}{x:K.den}{l l':List (K.den×α)}(h:l'.Perm l):zn K l'->bR K l' x=bR K l x:=by
 induction h with
 |nil=>intro _;rfl
 |cons p _ ih=>
  intro hd;unfold bR;rw[ih (agO.1 hd).2]
 |swap p q l=>
  intro hd;have R4:=(agO.1 hd).1 p (by simp)
  grind [bR,o5]
 |trans h1 h2 ih1 ih2=>intro hd;exact(ih1 hd).trans (ih2 (hd.perm h1.symm))
section
variable {P:Program} {ρ:Nat->Value} {w w':World} {H H':aI} {F F':Nat->Prop} {U:Nat->Prop} {ob:Nat->Option (Nat×Th)} {n:Nat} {R:Type}
variable {op:Op} {ty:TypeId} {pos:String} {aft:Array Edge} {d:Nat}
theorem rL{K:Row}{agg:Bool}{V:Row}:{es:List MapEntry}->{l:List (K.den×V.den)}->fO H F w K agg V es l->∀q∈l,∃e∈es,kf K q.1=aa e.key/\aO H F w agg (.leaf V q.2) e.val
 |[],l,h=>by obtain rfl:l=[]:=h;grind
 |e::es,_,h=>by
  obtain⟨k,x,l',rfl,h1,h2,h3⟩:=h;intro q hq
  rcases agY.1 hq with rfl|hq
  .grind
  .obtain⟨e',sN,g⟩:=rL h3 q hq
   grind
theorem nI{K:Row}{agg:Bool}{V:Row}:{es:List MapEntry}->{l:List (K.den×V.den)}->fO H F w K agg V es l->∀e∈es,∃q∈l,kf K q.1=aa e.key/\aO H F w agg (.leaf V q.2) e.val
 |[],_,_=>λe he=>by cases he
 |e::es,_,h=>by
  obtain⟨k,x,l',rfl,h1,h2,h3⟩:=h;intro e' he
  rcases agY.1 he with rfl|he
  .simp_all
  .obtain⟨q,hq,g⟩:=nI h3 e' he
   grind
def p6{K:Row}{agg:Bool}{V:Row}:{es:List MapEntry}->{l:List (K.den×V.den)}->fO H F w K agg V es l->(es.map (·.key)).Nodup->zn K l
 |[],l,h,_=>by obtain rfl:l=[]:=h;exact .nil
 |e::es,_,h,hn=>by
  obtain⟨k,x,l',rfl,h1,h2,h3⟩:=h;obtain⟨n1,n2⟩:=List.nodup_cons.1 hn;refine agO.2 ⟨λq hq=>?_,p6 h3 n2⟩
  grind [rL,iT]
def xQ{K:Row}{agg:Bool}{V:Row}{e:MapEntry}:{es:List MapEntry}->{l:List (K.den×V.den)}->fO H F w K agg V es l->(es.map (·.born)).Nodup->e∈es->
 ∃p l2,kf K p.1=aa e.key/\aO H F w agg (.leaf V p.2) e.val/\fO H F w K agg V (es.filter λx=> !(x.born==e.born)) l2/\l.Perm (p::l2)
 |[],_,_,_,he=>by cases he
 |e'::es,_,h,hn,he=>by
  obtain⟨k,x,l',rfl,h1,h2,h3⟩:=h;obtain⟨n1,n2⟩:=List.nodup_cons.1 hn;by_cases hb:e'.born=e.born
  .have du:e∉es:=(by grind)
   grind [ahP]
  .have sN:e∈es:=(by grind)
   obtain⟨p,l2,g1,g2,g3,g4⟩:=xQ h3 n2 sN;rw[List.filter_cons_of_pos (by simpa using hb)];exact⟨p,(k,x)::l2,g1,g2,⟨k,x,l2,rfl,h1,h2,g3⟩,(g4.cons _).trans (.swap ..)⟩
def WA(P:Program)(t:TypeId):Prop:=∀(em:Bool)(a b:Value)(w:World),(Instr.checkKey em 10000 t (.agg #[a,b])).run P w= .ok () w
def Hw(T:be P)(kt:TypeId):Row->Bool
 | .pair (.int j) (.int k)=>match find T.eqs kt with
   |some r=>r.beq (.pair (.int j) (.int k))&&T.kys.any (agC kt)
   |none=>ag
 |_=>ag
structure P4(P:Program)(kt:TypeId)(K:Row):Prop where
 chk:∀em x v(w:World),kf K x=aa v->(Instr.checkKey em 10000 kt v).run P w= .ok () w
 find:∀x v(w:World)(es:List MapEntry),kf K x=aa v->(∀e∈es,∃k,kf K k=aa e.key)->
  ((Instr.findKey kt v es).run P w= .ok ae w/\∀e∈es,e.key≠v)\/∃j e,(Instr.findKey kt v es).run P w= .ok (aa (j,e.val)) w/\es[j]? =aa e/\e.key=v
 stays:∀x v(w:World),kf K x=aa v->(Instr.keyThatStays v v).run P w= .ok v w
 rep:∀(F:Nat->Prop)(w:World)cs x,cD F w K cs x->kf K x=aa (.agg cs.toArray)
def FL(T:be P){kt:TypeId}{K:Row}(h:Hw T kt K=af):P4 P kt K:=by
 unfold Hw at h;split at h
 case h_2=>cases h
 rename_i j k;split at h
 case h_2=>cases h
 rename_i r he;obtain⟨h1,h2⟩:=cx h;obtain rfl:=Row.eq_of_beq h1;obtain⟨KK,dd,hE,hd,_,hD⟩:=T.eqs_ok _ _ he;have hck:WA P kt:=T.kys_ok _ (any_beq.1 h2)
 have rep:∀(F:Nat->Prop)(w:World)cs(x:Int×Int),cD F w (.pair (.int j) (.int k)) cs x->cs=[.int j x.1, .int k x.2]:=by
  rintro F w cs x ⟨c1,c2,rfl,g1,g2⟩
  rw[show c1=_ from g1,show c2=_ from g2];rfl
 have mk:∀(x:Int×Int)(w:World),cD (λ_=>True) w (.pair (.int j) (.int k)) [.int j x.1, .int k x.2] x:=λx w=>⟨[_],[_],rfl,rfl,rfl⟩
 cases hu:P.underlying kt with
 |none=>grind
 |some D=>
  have hA:gL D=af:=by rw[hu]at hD;exact hD
  have vq:∀(x y:Int×Int)(w:World),(Op.equal kt (.agg #[.int j x.1, .int k x.2]) (.agg #[.int j y.1, .int k y.2])).run P w= .ok (decide (x=y)) w:=λx y w=>by
   have:=hE dd w w (λ_=>True) _ _ x y (.agg #[.int j x.1, .int k x.2]) (.agg #[.int j y.1, .int k y.2]) ⟨D,hu,by rw[aj hA]⟩ ⟨D,hu,by rw[aj hA]⟩ (mk x w) (mk y w);rw[hd]at this;unfold Op.equal;rw[show Op.maxDepth=10000 from rfl,this]
  have SN:∀(x:Int×Int)(e:MapEntry)(es:List MapEntry)i,ahl D (.agg #[.int j x.1, .int k x.2]) (e::es) i=ae:=λx e es i=>by
   unfold ahl Instr.sameNow
   grind
  have ask:∀(x:Int×Int)(w:World)(es:List MapEntry)(i:Nat),(∀e∈es,∃y:Int×Int,e.key= .agg #[.int j y.1, .int k y.2])->
   ((ahX kt (.agg #[.int j x.1, .int k x.2]) es i).run P w= .ok ae w/\∀e∈es,e.key≠ .agg #[.int j x.1, .int k x.2])\/∃q e,(ahX kt (.agg #[.int j x.1, .int k x.2]) es i).run P w= .ok (aa (i+q,e.val)) w/\es[q]? =aa e/\e.key= .agg #[.int j x.1, .int k x.2]:=by
   intro x w es
   induction es with
   |nil=>intro i _;exact .inl ⟨rfl,λe he=>by cases he⟩
   |cons e es ih=>
    intro i R8;obtain⟨y,hy⟩:=R8 e (by simp);by_cases ry:x=y
    .subst ry;refine .inr ⟨0,e,?_,rfl,hy⟩;unfold ahX
     simp_all
    .rcases ih (i+1) (λe' sN=>R8 e' (by simp[sN]))with⟨g1,g2⟩|⟨q,e',g1,g2,g3⟩
     .refine .inl ⟨?_,λe' sN=>?_⟩
      .unfold ahX;rw[hy];simp[vq,ry,g1,agI]
      grind
     .refine .inr ⟨q+1,e',?_,by simpa using g2,g3⟩;unfold ahX;rw[hy];simp[vq,ry,g1,agI,Nat.add_assoc,Nat.add_comm 1]
  refine⟨λem x v w hv=>?_,λx v w es hv R8=>?_,λx v w hv=>?_,λF w cs x hr=>?_⟩
  .obtain rfl:=agx hv;exact hck em _ _ w
  .obtain rfl:=agx hv
   have WB:∀e∈es,∃y:Int×Int,e.key= .agg #[.int j y.1, .int k y.2]:=λe he=>by
    obtain⟨y,hy⟩:=R8 e he;exact⟨y,(agx hy).symm⟩
   unfold Instr.findKey
   cases es with
   |nil=>exact .inl ⟨by simp[run_underlying hu,ahl,agI],λe he=>by cases he⟩
   |cons e es=>
    rcases ask x w (e::es) 0 WB with⟨g1,g2⟩|⟨q,e',g1,g2,g3⟩
    .exact .inl ⟨by simp[run_underlying hu,SN,g1,agI],g2⟩
    .exact .inr ⟨q,e',by simp[run_underlying hu,SN,g1,agI],g2,g3⟩
  .obtain rfl:=agx hv;unfold Instr.keyThatStays;simp[Instr.sameBits]
  .rw[rep F w cs x hr];rfl
structure Z9 where
 o:Nat
 s:Nat
 T:TypeId
 K:Row
 agg:Bool
 V:Row
 l:List (K.den×V.den)
 it:Option (Nat×List (K.den×V.den)×Option (K.den×V.den))
def vK(ob:Nat->Option (Nat×Th)):aD->Option Z9
 | .val ag (.own o)=>match ob o with
   |some (s, .smap T K agg V l it)=>aa ⟨o,s,T,K,agg,V,l,it⟩
   |_=>ae
 |_=>ae
def sS(hs:aJ U H F w ob n){D:aD}{m:Z9}{v:Value}(h:vK ob D=aa m)(hd:aC H F w D v):ob m.o=aa (m.s, .smap m.T m.K m.agg m.V m.l m.it)/\H.val m.o=aa v/\iy H F w (H.sub m.s) v (.smap m.T m.K m.agg m.V m.l m.it):=by
 unfold vK at h;split at h
 .rename_i o;split at h
  .rename_i s T K agg V l it cz;obtain rfl:=agx h;obtain⟨cs,⟨u,hu,_,e⟩,_,h3⟩:=hd;rw[h3 rfl]at e
   obtain rfl:v=u:=by simpa using e
   obtain⟨v',ey,cG⟩:=hs.obj _ _ _ cz
   grind [DA.ok]
  .cases h
 .cases h
noncomputable def zo(ob:Nat->Option (Nat×Th))(K:Row):aD->Option K.den
 | .val af t=>flat ob K t
 |_=>ae
def xR(hs:aJ U H F w ob n){kt:TypeId}{K:Row}{D:aD}{x:K.den}{v:Value}(hK:P4 P kt K)(h:zo ob K D=aa x)(hd:aC H F w D v):kf K x=aa v:=by
 unfold zo at h;split at h
 .obtain⟨cs,h1,h2,_⟩:=hd;rw[h2];exact hK.rep F w cs x (gn hs h h1)
 .cases h
def mb(_:Bool)(T:be P)(n:Nat)(t:TypeId)(k:dL->Option R):Option R:=
 match find T.und t with
 |some (.map kt vt)=>match find T.row kt with
  |some K=>bif Hw T kt K then(match find T.row vt with
   |some V=>match find T.und vt with
    |some kk=>k {dst:= .val ag (.own n),make:=[(n,(n, .smap t K (kg kk) V [] ae))]}
    |none=>ae
   |none=>ae)else nG T n t k
  |none=>ae
 |_=>ae
def zp(b:Bool)(T:be P){t:TypeId}{k:dL->Option R}{q:R}(h:mb b T n t k=aa q)(hs:aJ U H F w ob n):
 ∃e,k e=aa q/\cr P U H F w ρ ob n ⟨aa d, .makeMap t ae,ty,pos,aft,ae⟩ e:=by
 unfold mb at h;split at h
 case h_2=>cases h
 split at h
 case h_2=>cases h
 rename_i K _
 cases hc:Hw T _ K with
 |false=>rw[hc,cond_false]at h;exact A8 T h hs
 |true=>
  rw[hc,cond_true]at h;split at h
  case h_2=>cases h
  rename_i V _;split at h
  case h_2=>cases h
  rename_i kk _
  have bz:(execOp (ev ρ) ⟨aa d, .makeMap t ae,ty,pos,aft,ae⟩).run P w= .ok (.value (.map (aa w.heap.size))) (w.alloc (.map #[] 0)):=by
   simp[execOp,Instr.makeMap,agI]
  refine⟨_,h,b9.val bz ?_⟩
  have hv:(((H.dZ n (is w.heap.size)).bC n (.smap t K (kg kk) V [] ae)).cA n (.map (aa w.heap.size))).val n=aa (.map (aa w.heap.size)):=by simp[aI.cA]
  refine kY.Nc (v0:= .map (aa w.heap.size)) (S:=is w.heap.size) hs rfl rfl (nD _) ⟨_, #[],0,[],rfl,rfl,(heap_alloc w _).1,stamped_empty 0,rfl, .refl _,trivial⟩ (λk hk=>?_) (mK hv rfl);have hk:k=w.heap.size:=hk;subst hk;exact⟨λe=>by have:=hs.lt _ e;omega,by simp, .inl (agB _)⟩
def rM{P1 kt et:TypeId}{K:Row}{b clock:Nat}{es:Array MapEntry}{x:K.den}{key val:Value}(hm:P.underlying P1=aa (.map kt et))(hK:P4 P kt K)(hx:kf K x=aa key)(hb:w.heap[b]? =aa (.map es clock))(R8:∀e∈es.toList,∃k,kf K k=aa e.key):
 ((ahx P1 (.map (aa b)) key val).run P w= .ok () {w with heap:=w.heap.setIfInBounds b (.map (es.push {key,val,born:=clock}) (clock+1))}/\∀e∈es.toList,e.key≠key)\/
 ∃j e,es.toList[j]? =aa e/\e.key=key/\(ahx P1 (.map (aa b)) key val).run P w= .ok () {w with heap:=w.heap.setIfInBounds b (.map (es.modify j λe=>{e with key,val}) clock)}:=by
 rcases hK.find x key w es.toList hx R8 with⟨h1,h2⟩|⟨j,e,h1,h2,h3⟩
 .exact .inl ⟨by simp[ahx,run_underlying hm,ahc hb,hK.chk _ _ _ _ hx,h1,ahE _ hb,agI],h2⟩
 .refine .inr ⟨j,e,h2,h3,?_⟩
  have hj:es[j]? =aa e:=by simpa using h2
  simp[ahx,run_underlying hm,ahc hb,hK.chk _ _ _ _ hx,h1,hj,h3,hK.stays _ _ _ hx,ahE _ hb,agI]
def xS{K:Row}{agg:Bool}{V:Row}{e:MapEntry}{x:K.den}{y:V.den}(hk:kf K x=aa e.key)(hv:aO H F w agg (.leaf V y) e.val):{es:List MapEntry}->{l:List (K.den×V.den)}->fO H F w K agg V es l->fO H F w K agg V (es++[e]) (l++[(x,y)])
 |[],l,h=>by obtain rfl:l=[]:=h;exact⟨x,y,[],rfl,hk,hv,rfl⟩
 |e'::es,_,h=>by
  obtain⟨k,z,l',rfl,h1,h2,h3⟩:=h;exact⟨k,z,_,rfl,h1,h2,xS hk hv h3⟩
def tL{K:Row}{agg:Bool}{V:Row}{x:K.den}{y:V.den}{key:Value}{f:MapEntry->MapEntry}(hx:kf K x=aa key)(hf:∀e:MapEntry,(f e).key=key)(hv:∀e,aO H F w agg (.leaf V y) (f e).val):{es:List MapEntry}->{l:List (K.den×V.den)}->{j:Nat}->{e:MapEntry}->
 fO H F w K agg V es l->zn K l->es[j]? =aa e->e.key=key->∃l2,fO H F w K agg V (es.modify j f) l2/\l2.Perm ((x,y)::l.filter λp=> !eA K p.1 x)
 |[],_,_,_,_,_,hj,_=>by simp at hj
 |e'::es,_,0,e,h,hd,hj,R9=>by
  obtain⟨k,z,l',rfl,h1,h2,h3⟩:=h;obtain⟨d1,d2⟩:=agO.1 hd
  obtain rfl:e'=e:=by simpa using hj
  have WC:eA K k x=af:=(iT h1 hx).2 R9;obtain rfl:=o5 WC;refine⟨(k,y)::l',⟨k,y,l',rfl,by grind,hv _,h3⟩,?_⟩
  grind [qQ,ahP]
 |e'::es,_,j+1,e,h,hd,hj,R9=>by
  obtain⟨k,z,l',rfl,h1,h2,h3⟩:=h;obtain⟨d1,d2⟩:=agO.1 hd
  have Na:es[j]? =aa e:=by simpa using hj
  obtain⟨l2,g1,g2⟩:=tL hx hf hv h3 d2 Na R9;obtain⟨q,hq,Vt,_⟩:=nI h3 e (List.mem_of_getElem? Na);have hqx:eA K q.1 x=af:=(iT Vt hx).2 R9;obtain rfl:=o5 hqx;have du:eA K k q.1=ag:=d1 q hq;refine⟨(k,z)::l2,⟨k,z,l2,rfl,h1,h2,g1⟩,?_⟩
  grind
noncomputable def jV(T:be P)(ob:Nat->Option (Nat×Th))(n:Nat)(t:TypeId)(M X Y:aD)(k:dL->Option R):Option R:=
 match vK ob M with
 |some m=>match find T.und t with
  |some (.map kt _)=>bif Hw T kt m.K then(match zo ob m.K X with
   |some x=>match Y with
    | .val eB tr=>bif (bif m.agg then eB else !eB)then(match flat ob m.V tr with
      |some y=>k {dst:= .dead,eat:=[m.o],make:=[(m.o,(n, .smap m.T m.K m.agg m.V (qs m.K m.l x y) ae))]}
      |none=>ae)else ae
    |_=>ae
   |none=>ae)else ae
  |_=>ae
 |none=>kZ T ob n t M X Y k
def vL(T:be P){t:TypeId}{M X Y:aD}{m x y:Operand}{k:dL->Option R}{q:R}(h:jV T ob n t M X Y k=aa q)(hs:aJ U H F w ob n)(hm:aC H F w M (ev ρ m))(hx:aC H F w X (ev ρ x))(hy:aC H F w Y (ev ρ y)):
 ∃e,k e=aa q/\cr P U H F w ρ ob n ⟨ae, .mapUpdate t m x y,ty,pos,aft,ae⟩ e:=by
 unfold jV at h;split at h
 case h_2=>exact xd T h hs hm hx hy
 rename_i r rI;obtain⟨cz,hv,mG⟩:=sS hs rI hm;obtain⟨o,s,T0,K,agg,V,l,it⟩:=r;dsimp only at h cz hv mG;split at h
 case h_2=>cases h
 rename_i kt vt hu;obtain⟨hc,h'⟩:=aQ h;clear h;split at h'
 case h_2=>cases h'
 rename_i a ha;split at h'
 case h_2=>cases h'
 rename_i eB tr;obtain⟨qM,h⟩:=aQ h';clear h'
 have qM:agg=eB:=by cases agg<;>cases eB<;>simp_all
 subst qM;split at h
 case h_2=>cases h
 rename_i z hz;refine⟨_,h,?_⟩;have hK:=FL T hc;have oO:=xR hs hK ha hx
 have oN:aO H F w agg (.leaf V z) (ev ρ y):=by
  obtain⟨cs,h1,h2⟩:=hy;exact⟨cs,gn hs hz h1,h2⟩
 obtain⟨b,es,clock,l',na,Sa,hh,gM,vE,Hg,_⟩:=mG;have xT:=p6 vE gM.2.2
 have jI:cn H ob [o] b:=⟨o,by simp,s,_,_,cz,hv,Sa⟩
 have hf:=hs.fresh n (agB _) (by omega)
 have fin:∀o',(ahx t (.map (aa b)) (ev ρ x) (ev ρ y)).run P w= .ok () {w with heap:=w.heap.setIfInBounds b o'}->
  (∀(H':aI)(w':World),H.le H'->Step F w F w'->∃lP nf l2,o'= .map lP nf/\Stamped lP nf/\fO H' F w' K agg V lP.toList l2/\l2.Perm (qs K l a z))->
  cr P U H F w ρ ob n ⟨ae, .mapUpdate t m x y,ty,pos,aft,ae⟩ {dst:= .dead,eat:=[o],make:=[(o,(n, .smap T0 K agg V (qs K l a z) ae))]}:=by
  intro o' bz J8;refine b9.unit (w':={w with heap:=w.heap.setIfInBounds b o'}) ?_ ?_
  .simp[execOp,na,bz,agI]
  .have ng:∀k,k≠b->(w.heap.setIfInBounds b o')[k]? =w.heap[k]? :=(heap_set hh).2
   have dJ:Step F w F {w with heap:=w.heap.setIfInBounds b o'}:=λc hc=>⟨hc,ng c λe=>by subst e;exact hs.eQ _ jI hc⟩
   obtain⟨lP,nf,l2,rfl,g1,g2,g3⟩:=J8 ((H.dZ n (is b)).bC n (.smap T0 K agg V (qs K l a z) ae)) _ (aI.pX hf.2) dJ;refine kY.zd (t':= .smap T0 K agg V (qs K l a z) ae) hs cz hv rfl (by simp) (is b) (λk hk=>?_) ⟨rfl,⟨rfl,agB _⟩,rfl,by simp,(by grind)⟩ ⟨b,lP,nf,l2,na,rfl,(heap_set hh).1,g1,g2,g3,trivial⟩ trivial;have hk:k=b:=hk
   grind
 have wZ:(l'.filter λp=> !eA K p.1 a).Perm (l.filter λp=> !eA K p.1 a):=Hg.filter _;have sE:((a,z)::l'.filter λp=> !eA K p.1 a).Perm (qs K l a z):=(wZ.cons _).trans (p5 a z _).symm
 rcases rM (val:=ev ρ y) (T.und_ok _ _ hu) hK oO hh (λe he=>by grind [nI])with⟨bz,AG⟩|⟨j,e,hj,R9,bz⟩
 .refine fin _ bz λH' w' hH dJ=>⟨_,_,l'++[(a,z)],rfl,stamped_push gM AG,?_,?_⟩
  .rw[Array.toList_push];exact xS oO (oN.keep hH dJ) (vE.keep hH dJ)
  .have e:l'.filter (λp=> !eA K p.1 a)=l':=ahP.2 λq hq=>by
    grind [rL,iT]
   grind
 .refine fin _ bz λH' w' hH dJ=>?_
  obtain⟨l2,g1,g2⟩:=tL (f:=λe=>{e with key:=ev ρ x,val:=ev ρ y}) oO (λ_=>rfl) (λ_=>oN.keep hH dJ) (vE.keep hH dJ) xT hj R9;refine⟨_,_,l2,rfl,stamped_modify gM _ _ (λ_ _=>rfl) (λe' _ sN=>?_),by grind,g2.trans sE⟩
  grind
def FM{K:Row}{α:Type}{x:K.den}:{l:List (K.den×α)}->zn K l->∀q∈l,eA K q.1 x=af->bR K l x=aa q.2
 |p::l,hd,q,hq,hx=>by
  obtain⟨d1,d2⟩:=agO.1 hd;unfold bR
  rcases agY.1 hq with rfl|hq
  .rw[aj hx]
  .have:¬eA K p.1 x=af:=λg=>by
    grind [o5]
   rw[ai this];exact FM d2 q hq hx
def Bi{K:Row}{α:Type}{x:K.den}:{l:List (K.den×α)}->(∀q∈l,eA K q.1 x=ag)->bR K l x=ae
 |[],_=>rfl
 |p::l,h=>by
  unfold bR;rw[ai (by grind)]
  exact Bi λq hq=>h q (by simp[hq])
noncomputable def nJ(T:be P)(ob:Nat->Option (Nat×Th))(_n:Nat)(t:TypeId)(ok:Bool)(M X:aD)(k:dL->Option R):Option R:=
 match vK ob M with
 |some m=>match find T.und t with
  |some (.map kt vt)=>match find T.zer vt with
   |some (eB,V')=>bif Hw T kt m.K&&(bif m.agg then eB else !eB)&&V'.beq m.V&&(m.agg||agC m.V.size 1)then(match zo ob m.K X with
    |some x=>bif ok then k {dst:= .tup [(m.agg, .leaf m.V ((bR m.K m.l x).getD m.V.zero)),(ag, .leaf .bool (bR m.K m.l x).isSome)]}
     else k {dst:= .val m.agg (.leaf m.V ((bR m.K m.l x).getD m.V.zero))}
    |none=>ae)else ae
   |none=>ae
  |_=>ae
 |none=>pV T ob t ok M X k
def Bj(T:be P){t:TypeId}{ok:Bool}{M X:aD}{m x:Operand}{k:dL->Option R}{q:R}(h:nJ T ob n t ok M X k=aa q)(hs:aJ U H F w ob n)(hm:aC H F w M (ev ρ m))(hx:aC H F w X (ev ρ x)):
 ∃e,k e=aa q/\cr P U H F w ρ ob n ⟨aa d, .lookup t m x ok,ty,pos,aft,ae⟩ e:=by
 unfold nJ at h;split at h
 case h_2=>exact DQ T h hs hm hx
 rename_i r rI;obtain⟨cz,hv,mG⟩:=sS hs rI hm;obtain⟨o,s,T0,K,agg,V,l,it⟩:=r;dsimp only at h cz hv mG;split at h
 case h_2=>cases h
 rename_i kt vt hu;split at h
 case h_2=>cases h
 rename_i eB V' hz;obtain⟨hc,h'⟩:=aQ h;clear h;obtain⟨hc,R5⟩:=cx hc;obtain⟨hc,Ka⟩:=cx hc;obtain⟨xD,AN⟩:=cx hc
 have qM:agg=eB:=by cases agg<;>cases eB<;>simp_all
 subst qM;obtain rfl:=Row.eq_of_beq Ka;split at h'
 case h_2=>cases h'
 rename_i a ha;have hK:=FL T xD;have oO:=xR hs hK ha hx;obtain⟨b,es,clock,l',na,Sa,hh,gM,vE,Hg,_⟩:=mG;have xT:=p6 vE gM.2.2;have P5:bR K l a=bR K l' a:=(D3 Hg xT).symm
 have lJ:agg=ag->V'.size=1:=λe=>by simp_all
 obtain⟨z,DK,Fz⟩:=A9 (w:=w) (H:=H) (F:=F) (T.zer_ok _ _ _ hz) lJ;have FI:=T.und_ok _ _ hu
 have main:∃v,(ahW t (ev ρ m) (ev ρ x) ok).run P w= .ok (if ok then .tuple #[v, .bool (bR K l a).isSome]else v) w/\aO H F w agg (.leaf V' ((bR K l a).getD V'.zero)) v:=by
  rw[P5]
  rcases hK.find a _ w es.toList oO (λe he=>by grind [nI])with⟨h1,h2⟩|⟨j,e,h1,h2,h3⟩
  .have hn:bR K l' a=ae:=Bi λq hq=>by
    grind [rL,iT]
   refine⟨z,?_,by grind⟩;rw[na,hn];simp[ahW,run_underlying FI,ahc hh,hK.chk _ _ _ _ oO,h1,DK,agI]
  .obtain⟨q,hq,Vt,hqv⟩:=nI vE e (List.mem_of_getElem? h2);have hl:=FM xT q hq ((iT Vt oO).2 h3);refine⟨e.val,?_,by grind⟩;rw[na,hl];simp[ahW,run_underlying FI,ahc hh,hK.chk _ _ _ _ oO,h1,agI]
 obtain⟨v,bz,mG⟩:=main
 cases ok with
 |true=>
  refine⟨_,h',bM hs (v:= .tuple #[v, .bool (bR K l a).isSome]) (by simp[execOp,bz,agI]) ⟨[v, .bool (bR K l a).isSome],rfl,_,_,rfl,mG,_,_,rfl,aO.fG ..,rfl⟩⟩
 |false=>exact⟨_,h',bM hs (v:=v) (by simp[execOp,bz,agI]) mG⟩
def sT(T:be P)(ob:Nat->Option (Nat×Th))(n:Nat)(t:TypeId)(M:aD)(k:dL->Option R):Option R:=
 match vK ob M with
 |some m=>match find T.und t with
  |some (.map _ _)=>k {dst:= .ptr (n+1) [] 0,eat:=[m.o],make:=[(m.o,(n, .smap m.T m.K m.agg m.V m.l (aa (n+1,m.l,ae))))]}
  |_=>ae
 |none=>ae
def D4(es:Array MapEntry):leftOf es #[]=es:=by
 unfold leftOf
 simp_all
def Hx(T:be P){t:TypeId}{M:aD}{m:Operand}{k:dL->Option R}{q:R}(h:sT T ob n t M k=aa q)(hs:aJ U H F w ob n)(hm:aC H F w M (ev ρ m)):
 ∃e,k e=aa q/\cr P U H F w ρ ob n ⟨aa d, .range t m,ty,pos,aft,ae⟩ e:=by
 unfold sT at h;split at h
 case h_2=>cases h
 rename_i r rI;obtain⟨cz,hv,mG⟩:=sS hs rI hm;obtain⟨o,s,T0,K,agg,V,l,it⟩:=r;dsimp only at h cz hv mG;split at h
 case h_2=>cases h
 rename_i kt vt hu;obtain⟨b,es,clock,l',na,Sa,hh,gM,vE,Hg,_⟩:=mG;have SO:b<w.heap.size:=(ag6.1 hh).1
 have jI:cn H ob [o] b:=⟨o,by simp,s,_,_,cz,hv,Sa⟩
 obtain⟨v1,uP,cG⟩:=hs.obj _ _ _ cz;rw[hv]at uP;obtain rfl:=agx uP
 have bz:(execOp (ev ρ) ⟨aa d, .range t m,ty,pos,aft,ae⟩).run P w= .ok (.value (.pointer (aa ⟨w.heap.size,0,ae⟩))) (w.alloc (.mapIter (aa b) clock #[] clock)):=by
  simp[execOp,na,run_range_map w t kt vt b es clock (T.und_ok _ _ hu) hh,agI]
 refine⟨_,h,b9.val bz ?_⟩;have hf:=hs.fresh n (agB _) (by omega);have WD:=hs.fresh (n+1) (by omega) (by omega)
 let S':Nat->Prop:=λk=>k=b\/k=w.heap.size
 let t':Th:= .smap T0 K agg V l (aa (n+1,l,ae))
 let H1:aI:=((H.dZ n S').bC n t').cA (n+1) (.pointer (aa ⟨w.heap.size,0,ae⟩))
 have hle:H.le H1:=(aI.pX hf.2).trans (aI.pR (by simpa[aI.bC,aI.dZ]using WD.1))
 have hvn:H1.val (n+1)=aa (.pointer (aa ⟨w.heap.size,0,ae⟩)):=by simp[H1,aI.cA]
 have iA:H1.sub n=S':=by simp[H1,aI.cA,aI.bC,aI.dZ]
 have WE:H1.con n=aa t':=by simp[H1,aI.cA,aI.bC,aI.dZ]
 have dJ:Step F w F (w.alloc (.mapIter (aa b) clock #[] clock)):=λc hc=>⟨hc,by rw[heap_alloc_old _ _ (hs.lt c hc)]⟩
 refine⟨H1,F,⟨hle,nD _,λ_ h=>h,λ_ h=> .inl h,λc hc=>by have:=hs.lt c hc;simp;omega⟩,λm hm=>?_,⟨_,hvn,rfl⟩,⟨λo' s' q hq=>?_,λo1 o2 s1 s2 q1 q2 u1 u2 du h1 h2=>?_⟩,λo' h=>?_⟩
 .have a1:m≠n:=by omega
  have a2:m≠n+1:=by omega
  simp[H1,aI.cA,aI.bC,aI.dZ,a1,a2]
 .obtain⟨rfl,e⟩:=eR hq;obtain⟨rfl,rfl⟩:=Prod.mk.inj e;refine⟨_,hle.val _ _ hv,cG.one,WE,?_,λk hk=>?_⟩
  .rw[iA];refine⟨b,es,clock,l',na, .inl rfl,by rw[heap_alloc_old _ _ SO];exact hh,gM,vE.keep hle dJ,Hg,w.heap.size,clock, #[],clock, .inr rfl,λe=>by omega,hvn,heap_alloc_new w _,gM.1,agB _,agB _,⟨l',?_,Hg⟩,λp hp=>by cases hp⟩;rw[D4];exact vE.keep hle dJ
  .rw[iA]at hk;have hk:k=b\/k=w.heap.size:=hk
   rcases hk with rfl|rfl
   .exact⟨hs.eQ _ jI,by simp;omega, .inr jI⟩
   .exact⟨λe=>by have:=hs.lt _ e;omega,by simp, .inl (agB _)⟩
 all_goals grind [eR,ag5]
open Classical in
noncomputable def Nd{α β:Type}(p:α->Prop)(k:α->Option β):Option β:=if h:∃r,(∃x,p x)/\∀x,p x->k x=aa r then aa h.choose else ae
def Kf{α β:Type}{p:α->Prop}{k:α->Option β}{q:β}(h:Nd p k=aa q):∀x,p x->k x=aa q:=by
 unfold Nd at h;split at h
 all_goals grind
def P6{α β:Type}{p:α->Prop}{k:α->Option β}{q:β}(h0:∃x,p x)(h:∀x,p x->k x=aa q):Nd p k=aa q:=by
 have hd:∃r,(∃x,p x)/\∀x,p x->k x=aa r:=⟨q,h0,h⟩
 unfold Nd;rw[dif_pos hd]
 grind
def zq(nn:Nat):List (Nat×(Nat×Th))->Option Nat
 |[]=>ae
 |(o,(_, .smap _ _ _ _ _ (aa (n',_,_))))::l=>bif agC n' nn then aa o else zq nn l
 |_::l=>zq nn l
def FN:Row->Bool
 | .pair (.int _) (.int _)=>af
 |_=>ag
noncomputable def mj{α:Type}(K:Row)(l:List (K.den×α))(k:K.den):List (K.den×α):=l.filter λq=> !eA K q.1 k
noncomputable def Kg(objs:List (Nat×(Nat×Th)))(n:Nat)(X:aD)(k:dL->Option R):Option R:=
 match X with
 | .ptr nn [] 0=>match zq nn objs with
   |some o=>match find objs o with
    |some (_, .smap T K agg V l (aa (n',left,_)))=>bif agC n' nn&&FN K then
      (if left.isEmpty=af then k {dst:= .tup [(ag, .leaf .bool ag)]}
      else Nd (λp=>p∈left) λp=>k {dst:= .tup [(ag, .leaf .bool af),(af, .leaf K p.1),(agg, .leaf V p.2)],eat:=[o],make:=[(o,(n, .smap T K agg V l (aa (nn,mj K left p.1,aa p))))]})else ae
    |_=>ae
   |none=>ae
 |_=>ae
def Bk{K:Row}{x:K.den}{v:Value}(hK:FN K=af)(h:kf K x=aa v):aO H F w af (.leaf K x) v:=by
 unfold FN at hK;split at hK
 .obtain rfl:=agx h;exact⟨[_,_],⟨[_],[_],rfl,rfl,rfl⟩,rfl,λe=>by cases e⟩
 .cases hK
def Bl(es:Array MapEntry)(seen:Array Nat)(b:Nat):(leftOf es (seen.push b)).toList=(leftOf es seen).toList.filter λx=> !(x.born==b):=by
 unfold leftOf;rw[ahQ,ahQ,List.filter_filter]
 grind
def Kh{objs:List (Nat×(Nat×Th))}{X:aD}{x:Operand}{k:dL->Option R}{q:R}(h:Kg objs n X k=aa q)(hs:aJ U H F w (find objs) n)(hx:aC H F w X (ev ρ x)):
 ∃e,k e=aa q/\cr P U H F w ρ (find objs) n ⟨aa d, .next x ag,ty,pos,aft,ae⟩ e:=by
 unfold Kg at h;split at h
 case h_2=>cases h
 rename_i nn;split at h
 case h_2=>cases h
 rename_i o _;split at h
 case h_2=>cases h
 rename_i s T K agg V l n' left cur cz;obtain⟨hc,h'⟩:=aQ h;clear h;obtain⟨xD,hK⟩:=cx hc;obtain rfl:=beq_true xD;obtain⟨v,hv,cG⟩:=hs.obj _ _ _ cz;obtain⟨b,es,clock,l',na,Sa,hh,gM,vE,Hg,r,since,seen,last,hSr,WG,Vu,hr,hold,gN,Vv,⟨l2,Vw,M3⟩,_⟩:=cG.ok;obtain⟨b0,Dh,Fv⟩:=hx;rw[Vu]at Dh;cases Dh;have Wu:r<w.heap.size:=(ag6.1 hr).1
 rcases run_next_at (P:=P) w ty r b since last seen es clock hr hh hold gN with⟨h0,bz⟩|⟨e,he,w1,Vx,bz⟩
 .have hle:l2=[]:=by
   have:(leftOf es seen).toList=[]:=by rw[Array.toList_eq_nil_iff];exact Array.eq_empty_of_size_eq_zero h0
   rw[this]at Vw;exact Vw
  subst hle;obtain rfl:left=[]:=M3.nil_eq.symm;rw[aj (show([]:List (K.den×V.den)).isEmpty=af from rfl)]at h';exact⟨_,h',bM hs (v:= .tuple #[.bool ag]) (by simp[execOp,Fv,bz,agI]) ⟨[.bool ag],rfl,_,_,rfl,aO.fG ..,rfl⟩⟩
 .have SP:((leftOf es seen).toList.map (·.born)).Nodup:=by
   unfold leftOf;rw[ahQ];exact(gM.2.1.sublist ((List.filter_sublist).map _))
  have SQ:((leftOf es seen).toList.map (·.key)).Nodup:=by
   unfold leftOf;rw[ahQ];exact(gM.2.2.sublist ((List.filter_sublist).map _))
  obtain⟨p,l3,g1,g2,g3,g4⟩:=xQ Vw SP he;have sU:p∈left:=M3.mem_iff.1 (g4.mem_iff.2 (by simp))
  have du:¬left.isEmpty=af:=by
   cases left with
   |nil=>cases sU
   |cons _ _=>simp
  rw[ai du]at h';refine⟨_,Kf h' p sU,?_⟩
  have WH:e∈es.toList:=by
   have:e∈(leftOf es seen).toList:=he;unfold leftOf at this;rw[ahQ]at this;exact(ahi.1 this).1
  have Nf:w1.heap=w.heap:=by rcases Vx with rfl|rfl<;>rfl
  have ng:∀k,k≠r->(ahG w1 r (.mapIter (aa b) since (seen.push e.born) clock)).heap[k]? =w.heap[k]? :=λk hk=>by
   rw[<-Nf];exact(heap_set (w:=w1) (by rw[Nf];exact hr)).2 k hk
  have SR:(ahG w1 r (.mapIter (aa b) since (seen.push e.born) clock)).heap[r]? =aa (.mapIter (aa b) since (seen.push e.born) clock):=(heap_set (w:=w1) (by rw[Nf];exact hr)).1
  have jI:∀k,H.sub s k->cn H (find objs) [o] k:=λk hk=>⟨o,by simp,s,_,_,cz,hv,hk⟩
  have hf:=hs.fresh n (agB _) (by omega)
  let t':Th:= .smap T K agg V l (aa (n',mj K left p.1,aa p))
  let S':Nat->Prop:=λk=>k=b\/k=r
  have hle:H.le ((H.dZ n S').bC n t'):=aI.pX hf.2
  have dJ:Step F w F (ahG w1 r (.mapIter (aa b) since (seen.push e.born) clock)):=λc hc=>⟨hc,ng c λg=>by subst g;exact hs.eQ _ (jI _ hSr) hc⟩
  refine b9.val (v:= .tuple #[.bool af,e.key,e.val]) (w':=ahG w1 r (.mapIter (aa b) since (seen.push e.born) clock)) (by simp[execOp,Fv,bz,agI]) ?_
  have bO:Ext (cn H (find objs) [o]) w (ahG w1 r (.mapIter (aa b) since (seen.push e.born) clock)):=by
   rcases Vx with rfl|rfl
   .exact⟨rfl,⟨rfl,agB _⟩,rfl,by simp[ahG],(by grind)⟩
   .exact⟨rfl,⟨rfl,Nat.le_succ _⟩,rfl,by simp[ahG,Nf],(by grind)⟩
  have xT:zn K left:=(p6 Vw SQ).perm M3.symm;refine kY.zd (t':=t') hs cz hv rfl (by simp) S' (λk hk=>?_) bO ?_ ?_
  .have hk:k=b\/k=r:=hk
   grind
  .refine⟨b,es,clock,l',na, .inl rfl,(ng b WG.symm).trans hh,gM,vE.keep hle dJ,Hg,r,since,seen.push e.born,clock, .inr rfl,WG,hle.val _ _ Vu,SR,hold,Vv,Vv,⟨l3,?_,?_⟩,λp' Dj=>?_⟩
   .rw[Bl];exact g3.keep hle dJ
   .have wZ:left.Perm (p::l3):=M3.symm.trans g4;have hd3:zn K (p::l3):=xT.perm wZ.symm;refine List.Perm.trans ?_ (wZ.filter _).symm
    rw[List.filter_cons_of_neg (by
     grind [iT])]
    rw[ahP.2 λq hq=>by rw[qQ ((agO.1 hd3).1 q hq)];rfl]
   .obtain rfl:=agx Dj;exact⟨rfl,e,WH,⟨seen,rfl⟩,g1,g2.keep hle dJ⟩
  .exact⟨[.bool af,e.key,e.val],rfl,_,_,rfl,aO.fG ..,_,_,rfl,Bk hK g1,_,_,rfl,g2.keep hle dJ,rfl⟩
def D5(objs:List (Nat×(Nat×Th)))(X:aD):Option aD:=
 match X with
 | .ptr nn [] 0=>match zq nn objs with
   |some o=>match find objs o with
    |some (_, .smap _ K agg V _ (aa (n',_,aa p)))=>bif agC n' nn&&FN K then aa (.tup [(af, .leaf K p.1),(agg, .leaf V p.2)])else ae
    |_=>ae
   |none=>ae
 |_=>ae
theorem Hy{objs:List (Nat×(Nat×Th))}{X D:aD}{x:Operand}(h:D5 objs X=aa D)(hs:aJ U H F w (find objs) n)(hx:aC H F w X (ev ρ x)):
 cr P U H F w ρ (find objs) n ⟨aa d, .entry x,ty,pos,aft,ae⟩ {dst:=D}:=by
 unfold D5 at h;split at h
 case h_2=>cases h
 rename_i nn;split at h
 case h_2=>cases h
 rename_i o _;split at h
 case h_2=>cases h
 rename_i s T K agg V l n' left p cz;obtain⟨hc,h'⟩:=aQ h;obtain⟨xD,hK⟩:=cx hc;obtain rfl:=beq_true xD;obtain rfl:=agx h';obtain⟨v,hv,cG⟩:=hs.obj _ _ _ cz;obtain⟨b,es,clock,l',na,Sa,hh,gM,vE,Hg,r,since,seen,last,hSr,WG,Vu,hr,hold,gN,_,_,WI⟩:=cG.ok;obtain⟨rfl,e,he,⟨s0,rfl⟩,g1,g2⟩:=WI p rfl;obtain⟨b0,Dh,Fv⟩:=hx;rw[Vu]at Dh;cases Dh;have bz:=run_entry_at (P:=P) w r b since s0 es last e hr hh he gM.2.1;exact bM hs (v:= .tuple #[e.key,e.val]) (by simp[execOp,Fv,bz,agI]) ⟨[e.key,e.val],rfl,_,_,rfl,Bk hK g1,_,_,rfl,g2,rfl⟩
end
end
section
open Go Go.RowKit Go.MapKept
section
variable {P:Program} {ρ:Nat->Value} {w w':World} {H H':aI} {F F':Nat->Prop} {U:Nat->Prop} {ob:Nat->Option (Nat×Th)} {n:Nat} {R:Type}
variable {op:Op} {ty:TypeId} {pos:String} {aft:Array Edge} {d:Nat}
noncomputable def OW(ob:Nat->Option (Nat×Th))(n o:Nat):Option dL:=Kd ob n o
def D6(hs:aJ U H F w ob n){o:Nat}{e:dL}(h:OW ob n o=aa e):lQ H F w ob n e undef w:=Hq hs h
def DR.sV:(d:DR)->d.low.eP=d.row.eP
 | .leaf _=>rfl
 | .sl _ _=>rfl
 | .pair a b=>by show a.low.eP++b.low.eP=a.row.eP++b.row.eP;rw[a.sV,b.sV]
def Ki{α β:Type}{l m out:List α}{lx ly:List β}(h:cm l m=aa out)(h1:lx.length=l.length)(h2:ly.length=m.length):cm lx ly=aa (lx++ly)/\out=l++m:=by
 grind [cm]
def tM(T:be P){t e:TypeId}{r:Row}(hu:find T.und t=aa (.slice e))(hr:find T.row e=aa r){dr:DR}(kU:dr.row=r){x y:Operand}{l m out:List dr.row.den}{Sx:Nat->Prop}{eat:List Nat}{o2 s2:Nat}
 (hs:aJ U H F w ob n)(hx:G2 F w e dr.low (λ_=>kc F w dr) (ev ρ x) l Sx)(WJ:∀k,Sx k->¬F k)(hxe:∀k,Sx k->cn H ob eat k)(GV:∀k,Sx k->k<w.heap.size)
 (uw:ob o2=aa (s2, .deep e dr m ae))(na:H.val o2=aa (ev ρ y))(ho2:o2∈eat)(Ng:∀k,Sx k->¬H.sub s2 k)(ha:cm l m=aa out):
 cr P U H F w ρ ob n ⟨aa d, .call {callee:= .builtin .append,args:= #[x,y],argTypes:= #[t,t]},ty,pos,aft,ae⟩ {dst:= .val ag (.own n),eat:=eat,make:=[(n,(n, .deep e dr out ae))]}:=by
 obtain⟨lx,WK,M6,Sr,hrx,FO⟩:=hx;obtain⟨ly,Sy,hoy,V5,hry,P7⟩:=hs.low uw na;obtain⟨v2,GX,Nh⟩:=hs.obj _ _ _ uw;rw[na]at GX;obtain rfl:=agx GX;obtain⟨hal,rfl⟩:=Ki ha Sr V5;obtain⟨ti,z,h1,h2,h3,h4,h5⟩:=T.row_ok _ _ hr;have ht:=T.und_ok _ _ hu;subst kU;obtain⟨v',w',bz,bO,gC,hm⟩:=vi ty ht h1 h2 (h3.trans dr.sV.symm) (h4.trans dr.size.symm) h5 (base:=0) (l:=lx) ⟨λk hk=>WJ k (FO.bP k hk),M6⟩ hoy.reads hal hs.lt (Nat.zero_le _)
 have gM:Step F w F w':=Step.ext bO hs.lt λk hk=>WJ k (FO.bP k hk)
 have Vy:∀k,H.sub s2 k->cn H ob eat k:=λk hk=>⟨o2,ho2,s2,_,_,uw,na,hk⟩
 have aad:∀i,i<l.length->∀k,WK i k->w'.heap[k]? =w.heap[k]? :=λi hi k hk=>bO.block k (GV k (FO.part hi k hk)) (FO.out i k hi hk)
 have SU:∀i,i<m.length->∀k,Sy i k->w'.heap[k]? =w.heap[k]? :=λi hi k hk=>bO.block k (Nh.lt k (P7.part hi k hk)) λKj=>Ng k (FO.bP k Kj) (P7.part hi k hk)
 have hlen:(l++m).length=l.length+m.length:=List.length_append
 have hvb:∀k,bP v' k->(Sx k/\bP (ev ρ x) k)\/k=w.heap.size:=by
  intro k hk
  rcases hm with g|g
  .rw[g]at hk;exact .inl ⟨FO.bP k hk,hk⟩
  .simp_all
 let SS:Nat->Nat->Prop:=λi=>if i<l.length then WK i else Sy (i-l.length)
 have Sb:∀i k,i<l.length->SS i k->WK i k:=(by grind)
 have Sc:∀i k,¬i<l.length->SS i k->Sy (i-l.length) k:=(by grind)
 have hSS:∀i k,i<(l++m).length->SS i k->Sx k\/H.sub s2 k:=by
  intro i k hi hk;by_cases aH:i<l.length
  .exact .inl (FO.part aH k (Sb i k aH hk))
  .exact .inr (P7.part (by omega) k (Sc i k aH hk))
 have lv:v'.oneCell'=af:=lU.one (T:=e) (r:=dr.low) gC.2;refine b9.val (v:=v') (w':=w') (by simp[execOp,resolve,invoke,builtin,bz]) (kY.Nc (t:= .deep e dr (l++m) ae) (S:=qN (bP v') SS (l++m).length) hs rfl lv ⟨bO.os,bO.tape,bO.output,bO.size,λk hk hn=>bO.block k hk λPN=>hn (hxe k (FO.bP k PN))⟩ ?_ (λk hk=>?_) (mK (o:=n) (v:=v') (by simp[aI.cA]) lv))
 .refine⟨lx++ly,SS,gC.2,by simp[Sr,V5],λi a b=>?_,⟨λk=>Iff.rfl,λi j k hi hj du hk lf=>?_,λi k hi hk PN=>?_⟩⟩
  .show kc F w' dr (lx++ly)[i] (l++m)[i] (SS i)
   by_cases aH:i<l.length
   .grind [kc.keep]
   .have e1:(lx++ly)[i]=ly[i-l.length]'(by grind):=by rw[ahh (by omega)];simp only[Sr]
    have e2:(l++m)[i]=m[i-l.length]'(by omega):=ahh (by omega)
    have e3:SS i=Sy (i-l.length):=by simp only[SS,ai aH]
    rw[e1,e2,e3];exact kc.keep gM (hry (i-l.length) _ (by omega)) (SU _ (by omega))
  .by_cases h1:i<l.length<;>by_cases h2:j<l.length
   .exact FO.two i j k h1 h2 du (Sb i k h1 hk) (Sb j k h2 lf)
   .exact Ng k (FO.part h1 k (Sb i k h1 hk)) (P7.part (by omega) k (Sc j k h2 lf))
   .exact Ng k (FO.part h2 k (Sb j k h2 lf)) (P7.part (by omega) k (Sc i k h1 hk))
   .exact P7.two (i-l.length) (j-l.length) k (by omega) (by omega) (by omega) (Sc i k h1 hk) (Sc j k h2 lf)
  .rcases hvb k PN with⟨g1,g2⟩|g
   .by_cases h1:i<l.length
    .exact FO.out i k h1 (Sb i k h1 hk) g2
    .exact Ng k g1 (P7.part (by omega) k (Sc i k h1 hk))
   .rcases hSS i k hi hk with h1|h1
    .grind
    .have:=Nh.lt k h1;omega
 .have hk:qN (bP v') SS (l++m).length k:=hk
  have fin:Sx k\/H.sub s2 k->¬F k/\k<w'.heap.size/\(w.heap.size<=k\/cn H ob eat k):=by
   rintro(h1|h1)
   .exact⟨WJ k h1,agV (GV k h1) bO.size, .inr (hxe k h1)⟩
   .exact⟨Nh.no k h1,agV (Nh.lt k h1) bO.size, .inr (Vy k h1)⟩
  rcases hk with hk|⟨i,hi,hk⟩
  .rcases hvb k hk with⟨g,_⟩|g
   .grind
   .exact⟨λe=>by have:=hs.lt k e;omega,gC.lt k hk, .inl (by omega)⟩
  grind
def rN(T:be P)(ob:Nat->Option (Nat×Th))(n:Nat)(t:TypeId)(X Y:aD)(k:dL->Option R):Option R:=
 match find T.und t with
 |some (.slice e)=>match find T.row e with
  |some r=>match Y with
   | .val ag (.own o2)=>match ob o2 with
     |some (_, .deep T2 d2 m ae)=>bif agC T2 e&&d2.row.beq r then(match X with
      | .val ag .nil=>(cm ([]:List d2.row.den) m).bind λl=>k {dst:= .val ag (.own n),eat:=[o2],make:=[(n,(n, .deep e d2 l ae))]}
      | .val ag (.own o1)=>match ob o1 with
        |some (_, .deep T1 d1 l0 ae)=>bif agC o1 o2 then ae else bif agC T1 e then(if h:d1.beq d2=af then(cm (DR.eq_of_beq h▸l0) m).bind λl=>k {dst:= .val ag (.own n),eat:=[o1,o2],make:=[(n,(n, .deep e d2 l ae))]}else ae)else ae
        |_=>ae
      |_=>ae)else ae
     |_=>ae
   |_=>ae
  |none=>ae
 |_=>ae
def Bm(T:be P){t:TypeId}{X Y:aD}{x y:Operand}{k:dL->Option R}{q:R}(h:rN T ob n t X Y k=aa q)(hs:aJ U H F w ob n)(hx:aC H F w X (ev ρ x))(hy:aC H F w Y (ev ρ y)):
 ∃e,k e=aa q/\cr P U H F w ρ ob n ⟨aa d, .call {callee:= .builtin .append,args:= #[x,y],argTypes:= #[t,t]},ty,pos,aft,ae⟩ e:=by
 unfold rN at h;split at h
 case h_2=>cases h
 rename_i e hu;split at h
 case h_2=>cases h
 rename_i r hr;split at h
 case h_2=>cases h
 rename_i o2;split at h
 case h_2=>cases h
 rename_i s2 T2 d2 m uw;obtain⟨hc,h'⟩:=aQ h;clear h;obtain⟨xD,AN⟩:=cx hc;obtain rfl:=beq_true xD;have kU:=Row.eq_of_beq AN;obtain⟨cs,⟨u,MY,_,e2⟩,_,h3⟩:=hy;rw[h3 rfl]at e2
 obtain rfl:ev ρ y=u:=by simpa using e2
 split at h'
 .obtain⟨l,hl,hk⟩:=bind_some h';refine⟨_,hk,tM (Sx:=λ_=>False) T hu hr kU hs ?_ (λ_ h=>h.elim) (λ_ h=>h.elim) (λ_ h=>h.elim) uw MY (by simp) (λ_ h=>h.elim) hl⟩;obtain⟨cs,h1,_,h4⟩:=hx;rw[h4 rfl]at h1;have DC:[ev ρ x]=[Value.slice ae 0 0]:=h1;rw[show ev ρ x= .slice ae 0 0 by simpa using DC];exact⟨[],λ_ _=>False,lU.nil F w T2 d2.low,rfl,λi h=>absurd h (by simp),⟨λk=>by simp[bP,agR],λ_ _ _ h=>absurd h (by simp),λ_ _ h=>absurd h (by simp)⟩⟩
 .rename_i o1;split at h'
  case h_2=>cases h'
  rename_i s1 T1 d1 l0 zg
  cases du:agC o1 o2 with
  |true=>grind
  |false=>
   rw[du,cond_false]at h'
   have du:o1≠o2:=λe=>by simp_all
   obtain⟨hT,h⟩:=aQ h';clear h';obtain rfl:=beq_true hT;split at h
   case isFalse=>cases h
   rename_i hb;obtain rfl:=DR.eq_of_beq hb;obtain⟨l,hl,hk⟩:=bind_some h;obtain⟨cs,⟨v,uP,_,e1⟩,_,h4⟩:=hx;rw[h4 rfl]at e1
   obtain rfl:ev ρ x=v:=by simpa using e1
   obtain⟨v',ey,oQ⟩:=hs.obj _ _ _ zg;rw[uP]at ey;obtain rfl:=agx ey;exact⟨_,hk,tM (Sx:=H.sub s1) T hu hr kU hs oQ.ok oQ.no (λk hk=>⟨o1,by simp,s1,_,_,zg,uP,hk⟩) oQ.lt uw MY (by simp) (λk hk=>hs.apart _ _ _ _ _ _ _ _ du zg uw uP MY k hk) hl⟩
 .cases h'
def Kk(ob:Nat->Option (Nat×Th)):aD->Bool
 | .val ag (.own o)=>match ob o with
   |some (_, .deep ..)=>af
   |_=>ag
 |_=>ag
def nK(T:be P)(ob:Nat->Option (Nat×Th))(n:Nat)(t:TypeId)(X Y:aD)(k:dL->Option R):Option R:=
 bif Kk ob Y then rN T ob n t X Y k else pT T ob n t X Y k
def Bn(T:be P){t:TypeId}{X Y:aD}{x y:Operand}{k:dL->Option R}{q:R}(h:nK T ob n t X Y k=aa q)(hs:aJ U H F w ob n)(hx:aC H F w X (ev ρ x))(hy:aC H F w Y (ev ρ y)):
 ∃e,k e=aa q/\cr P U H F w ρ ob n ⟨aa d, .call {callee:= .builtin .append,args:= #[x,y],argTypes:= #[t,t]},ty,pos,aft,ae⟩ e:=by
 unfold nK at h
 cases hb:Kk ob Y with
 |true=>rw[hb,cond_true]at h;exact Bm T h hs hx hy
 |false=>rw[hb,cond_false]at h;exact DL T h hs hx hy
end
end
end Go.Proofs.YtfeahmiobbjklaaGreatDoor
section
open _root_.Bool renaming false->ag,true->af
open _root_.Option renaming none->ae,some->aa
open _root_.List renaming append_assoc->ahr
open _root_.Nat renaming beq->agC,blt->ag4,le_refl->agB
open _root_.Option.some renaming inj->agx,injEq->agH
open _root_.Go.Value renaming ownBlock->agR
namespace Go.Proofs.YtfeahmiobbjklaaGreatDoor
open Go Go.RowKit
def fH(objs:List (Nat×(Nat×Th))):List Nat->Option (List (Nat×(Nat×Th)))
 |[]=>aa objs
 |o::os=>match find objs o with
  |some (s, .own T r l)=>fH ((o,(s, .um T r l))::del [o] objs) os
  |some (s, .map T K agg V l)=>fH ((o,(s, .fmap T K agg V l))::del [o] objs) os
  |some (s, .deep T d l ae)=>fH ((o,(s, .fdeep T d l))::del [o] objs) os
  |some (_, .um ..)=>fH objs os
  |some (_, .fmap ..)=>fH objs os
  |some (_, .fdeep ..)=>fH objs os
  |_=>ae
def fe:Th->Bool
 | .um .. =>af
 | .fmap .. =>af
 | .fdeep .. =>af
 |_=>ag
structure SV(t t':Th):Prop where
 froz:fe t'=af
 base:t'.base=t.base
 fp:∀S v k,¬fp S v t' k
 ok:∀{H:aI}{F:Nat->Prop}{w:World}{S:Nat->Prop}{v:Value},(∀k,Go.Proofs.YtfeahmiobbjklaaGreatDoor.fp S v t k->¬F k)->iy H F w S v t->iy H (λb=>F b\/Go.Proofs.YtfeahmiobbjklaaGreatDoor.fp S v t b) w S v t'
structure cu(H:aI)(F:Nat->Prop)(w:World)(H':aI)(F':Nat->Prop)(w':World):Prop where
 gm:H.le H'
 step:Step F w F' w'
def cu.refl(H:aI)(F:Nat->Prop)(w:World):cu H F w H F w:=⟨aI.le.refl H,Step.refl F w⟩
def cu.trans{H H' uo:aI}{F F' D7:Nat->Prop}{w w' wY:World}(h:cu H F w H' F' w')(k:cu H' F' w' uo D7 wY):cu H F w uo D7 wY:=⟨h.gm.trans k.gm,h.step.trans k.step⟩
structure Kl(G:Nat->Prop)(w0:World)(F0:Nat->Prop)(w:World)(F:Nat->Prop):Prop where
 ext:Ext G w0 w
 le:∀b,F0 b->F b
 new:∀b,F b->F0 b\/w0.heap.size<=b\/G b
section
variable {U:Nat->Prop} {H:aI} {F:Nat->Prop} {w:World} {n:Nat}
theorem Ni(T:TypeId)(r:Row)(l:List r.den):SV (.own T r l) (.um T r l) where
 froz:=rfl
 base:=rfl
 fp _ _ _ h:=h
 ok hn h:=lO.freeze (base:=0) (T:=T) (l:=l) ⟨hn,h⟩
theorem Nj(T:TypeId)(K:Row)(agg:Bool)(V:Row)(l:List (K.den×V.den)):SV (.map T K agg V l) (.fmap T K agg V l) where
 froz:=rfl
 base:=rfl
 fp _ _ _ h:=h
 ok {H F w S v} _ h:=by
  obtain⟨b,es,clock,h1,h2,h3,h4⟩:=h;obtain⟨g1,g2⟩:=FG h4;refine⟨v,rfl, .inr ⟨b,es,clock,h1, .inr h1,h2,h3,by simpa using g1,λi hi=>?_⟩⟩;obtain⟨e,cs,q1,q2,q3,q4,q5⟩:=g2 i hi;exact⟨e,cs,by simpa using q1,q2,q3.step (Step.freeze F w _),q4,q5⟩
def lU.kU{F:Nat->Prop}{w:World}{T:TypeId}{r:Row}{v:Value}{l:List r.den}(h:lU F w T r v l):cD F w .kU [v] v:=by
 obtain⟨xs,⟨_,h⟩,_⟩:=h
 rcases h with⟨rfl,_⟩|⟨gg,o0,cap,cur,rfl,_⟩<;>exact⟨rfl,_,_,_,rfl⟩
theorem Km(T:TypeId)(d:DR)(l:List d.row.den):SV (.deep T d l ae) (.fdeep T d l) where
 froz:=rfl
 base:=rfl
 fp _ _ _ h:=h
 ok {H F w S v} hn h:=by
  have h':kc F w (.sl T d) v l S:=h;obtain⟨lh,Ss,h1,_⟩:=h;exact kc.freeze h' hn h1.kU
def Nk{objs:List (Nat×(Nat×Th))}{o s:Nat}{t0 t1:Th}(hf:SV t0 t1)(hs:aJ U H F w (find objs) n)(ho:find objs o=aa (s,t0)):
 ∃F',aJ U H F' w (find ((o,(s,t1))::del [o] objs)) n/\(∀b,F b->F' b)/\(∀b,F' b->F b\/∃v,H.val o=aa v/\fp (H.sub s) v t0 b):=by
 obtain⟨v,hv,cG⟩:=hs.obj _ _ _ ho;refine⟨λb=>F b\/fp (H.sub s) v t0 b,?_,λ_ h=> .inl h,(by grind)⟩
 have part:∀o' s' t',find ((o,(s,t1))::del [o] objs) o'=aa (s',t')->(o'=o/\s'=s/\t'=t1)\/(o'≠o/\find objs o'=aa (s',t')):=by
  intro o' s' t' h;rw[aY]at h;split at h
  .grind
  .grind [iu]
 have fz:Step F w (λb=>F b\/fp (H.sub s) v t0 b) w:=Step.freeze F w _;refine⟨λo' s' t' h=>?_,λo1 o2 s1 s2 t1' t2 v1 v2 du h1 h2 e1 e2 k hk lf=>?_,hs.fresh,λb hb=>hb.elim (hs.lt b) (cG.lt b),hs.new,hs.gl.step fz⟩
 .rcases part o' s' t' h with⟨rfl,rfl,rfl⟩|⟨du,h'⟩
  .exact⟨v,hv,cG.one,by rw[hf.base];exact cG.con,hf.ok cG.no cG.ok,λk hk=>(hf.fp _ _ _ hk).elim,λk hk=>(hf.fp _ _ _ hk).elim,λk hk=>(hf.fp _ _ _ hk).elim⟩
  .obtain⟨v',ey,Bo⟩:=hs.obj _ _ _ h';refine⟨v',ey,Bo.one,Bo.con,Bo.ok.heap (aI.le.refl H) fz λ_ _=>rfl,λk hk hF=>?_,Bo.lt,Bo.use⟩
   rcases hF with hF|hF
   .exact Bo.no k hk hF
   .exact hs.apart _ _ _ _ _ _ _ _ du h' ho ey hv k hk hF
 .rcases part o1 s1 t1' h1 with⟨rfl,rfl,rfl⟩|⟨abQ,DC⟩
  .exact hf.fp _ _ _ hk
  .rcases part o2 s2 t2 h2 with⟨rfl,rfl,rfl⟩|⟨abR,G3⟩
   .exact hf.fp _ _ _ lf
   .exact hs.apart _ _ _ _ _ _ _ _ du DC G3 e1 e2 k hk lf
def nL:{os:List Nat}->{F:Nat->Prop}->{objs mL:List (Nat×(Nat×Th))}->fH objs os=aa mL->aJ U H F w (find objs) n->
 ∃F',aJ U H F' w (find mL) n/\(∀b,F b->F' b)/\(∀b,F' b->F b\/cn H (find objs) os b)
 |[],F,objs,mL,h,hs=>by obtain rfl:=agx h;grind
 |o::os,F,objs,mL,h,hs=>by
  have main:∀s t t',SV t t'->find objs o=aa (s,t)->fH ((o,(s,t'))::del [o] objs) os=aa mL->
   ∃F',aJ U H F' w (find mL) n/\(∀b,F b->F' b)/\(∀b,F' b->F b\/cn H (find objs) (o::os) b):=by
   intro s t t' hf ho h;obtain⟨F1,a1,a2,a3⟩:=Nk hf hs ho;obtain⟨F2,b1,b2,b3⟩:=nL h a1;refine⟨F2,b1,λb hb=>b2 b (a2 b hb),λb hb=>?_⟩
   rcases b3 b hb with h1|⟨o',lI,s',t',v,h1,h2,h3⟩
   .rcases a3 b h1 with h2|⟨v,hv,hm⟩
    .exact .inl h2
    .exact .inr ⟨o,by simp,s,_,v,ho,hv,hm⟩
   .rw[aY]at h1;split at h1
    .simp only[agH,Prod.mk.injEq]at h1;rw[<-h1.2]at h3;exact(hf.fp _ _ _ h3).elim
    .exact .inr ⟨o',by simp[lI],s',t',v,(iu.1 h1).2,h2,h3⟩
  have same:fH objs os=aa mL->∃F',aJ U H F' w (find mL) n/\(∀b,F b->F' b)/\(∀b,F' b->F b\/cn H (find objs) (o::os) b):=by
   intro h;obtain⟨F2,b1,b2,b3⟩:=nL h hs;exact⟨F2,b1,b2,λb hb=>(b3 b hb).imp id λ⟨o',lI,rest⟩=>⟨o',by simp[lI],rest⟩⟩
  grind [fH,Ni,Nj,Km]
end
theorem gI{S:Nat->Prop}{v:Value}{t:Th}{k:Nat}(h:fe t=af)(hk:fp S v t k):False:=by
 cases t<;>first|(exact hk)|(cases h)
def jW:{os:List Nat}->{objs mL:List (Nat×(Nat×Th))}->fH objs os=aa mL->∀o s t,find mL o=aa (s,t)->
 find objs o=aa (s,t)\/fe t=af
 |[],objs,mL,h,o,s,t,ho=>by obtain rfl:=agx h;exact .inl ho
 |o0::os,objs,mL,h,o,s,t,ho=>by
  have main:∀s0 t1,fe t1=af->fH ((o0,(s0,t1))::del [o0] objs) os=aa mL->find objs o=aa (s,t)\/fe t=af:=by
   intro s0 t1 hf h
   rcases jW h o s t ho with h1|g
   .grind [aY,iu]
   .exact .inr g
  unfold fH at h;split at h
  .exact main _ _ rfl h
  .exact main _ _ rfl h
  .exact main _ _ rfl h
  .exact jW h o s t ho
  .exact jW h o s t ho
  .exact jW h o s t ho
  .cases h
inductive Sh where
 |leaf (r:Row)
 |own (j:Nat)
 |nil
 |pair (a b:Sh)
 |junk (n:Nat)
inductive SS where
 |val (agg:Bool) (t:Sh)
 |ptr (j:Nat) (p:List Bool) (off:Nat)
 |at (r:Row)
 |undef
 |fn (f:FuncId) (js:List (Nat×List Bool×Nat))
 |ifc (T:TypeId) (s:SS)
inductive OS where
 |box (T:TypeId) (t:Sh)
 |own (T:TypeId) (r:Row)
 |map (T:TypeId) (K:Row) (agg:Bool) (V:Row)
 |deep (T:TypeId) (d:DR)
 |smap (T:TypeId) (K:Row) (agg:Bool) (V:Row) (it:Option Nat)
structure JS where
 aF:List (Nat×SS)
 objs:List (Nat×OS):=[]
 drop:List Nat:=[]
 nxt:Nat
def Sh.rows:Sh->List Row
 | .leaf r=>[r]
 | .own _=>[]
 | .nil=>[]
 | .pair a b=>a.rows++b.rows
 | .junk _=>[]
def SS.rows:SS->List Row
 | .val _ t=>t.rows
 | .ptr .. =>[]
 | .at r=>[r]
 | .undef=>[]
 | .fn .. =>[]
 | .ifc _ s=>s.rows
def OS.rows:OS->List Row
 | .box _ t=>t.rows
 | .own _ r=>[.slice r]
 | .map _ K _ V=>[.slice (.pair K V)]
 | .deep _ d=>[.slice d.row]
 | .smap _ K _ V ae=>[.slice (.pair K V)]
 | .smap _ K _ V (aa _)=>[.slice (.pair K V), .slice (.pair K V)]
def Bp:List (Nat×SS)->List Row
 |[]=>[]
 |p::l=>p.2.rows++Bp l
def FP:List (Nat×OS)->List Row
 |[]=>[]
 |p::l=>p.2.rows++FP l
def JS.rows(J:JS):List Row:=Bp J.aF++FP J.objs
abbrev ke:=(r:Row)×r.den
@[reducible] def cW:List Row->Type
  |[]=>Unit
  |[r]=>r.den
  |r::s::rs=>r.den×cW (s::rs)
def dc:(rs:List Row)->cW rs->List ke
 |[],_=>[]
 |[r],x=>[⟨r,x⟩]
 |r::s::rs,x=>⟨r,x.1⟩::dc (s::rs) x.2
def Bq:(rs:List Row)->List ke->Option (cW rs)
 |[],[]=>aa ()
 |[r],[⟨s,x⟩]=>if h:s.beq r=af then aa (jo (Row.eq_of_beq h) x)else ae
 |r::r'::rs,⟨s,x⟩::vs=>if h:s.beq r=af then(match Bq (r'::rs) vs with
  |some y=>aa (jo (Row.eq_of_beq h) x,y)
  |none=>ae)else ae
 |_,_=>ae
def xU{r s:Row}(h:s=r)(x:s.den):(⟨r,jo h x⟩:ke)=⟨s,x⟩:=by subst h;rfl
def tN:{rs:List Row}->{vs:List ke}->{x:cW rs}->Bq rs vs=aa x->dc rs x=vs
 |[],[],x,_=>rfl
 |[],_::_,_,h=>by cases h
 |[r],[],_,h=>by cases h
 |[r],[⟨s,x⟩],y,h=>by
  unfold Bq at h;split at h
  .rename_i hb;obtain rfl:=agx h
   show[(⟨r,_⟩:ke)]=_
   rw[xU]
  .cases h
 |[r],_::_::_,_,h=>by cases h
 |r::r'::rs,[],_,h=>by cases h
 |r::r'::rs,⟨s,x⟩::vs,y,h=>by
  unfold Bq at h;split at h
  .rename_i hb;split at h
   .rename_i z hz;obtain rfl:=agx h;have:=tN hz
    show(⟨r,_⟩:ke)::dc (r'::rs) z=_
    rw[xU,this]
   .cases h
  .cases h
def oR:Sh->List ke->Tree×List ke
 | .leaf r,⟨s,x⟩::vs=>(bif s.beq r then .leaf s x else .nil,vs)
 | .leaf _,[]=>(.nil,[])
 | .own j,vs=>(.own j,vs)
 | .nil,vs=>(.nil,vs)
 | .pair a b,vs=>(.pair (oR a vs).1 (oR b (oR a vs).2).1,(oR b (oR a vs).2).2)
 | .junk n,vs=>(.junk n,vs)
def eC:SS->List ke->aD×List ke
 | .val agg t,vs=>(.val agg (oR t vs).1,(oR t vs).2)
 | .ptr j p off,vs=>(.ptr j p off,vs)
 | .at r,⟨s,x⟩::vs=>(bif s.beq r then .at s x else .dead,vs)
 | .at _,[]=>(.dead,[])
 | .undef,vs=>(.undef,vs)
 | .fn f js,vs=>(.fn f js,vs)
 | .ifc T s,vs=>(.ifc T (eC s vs).1,(eC s vs).2)
def cU:List (Nat×SS)->List ke->List (Nat×aD)×List ke
 |[],vs=>([],vs)
 |(t,s)::l,vs=>((t,(eC s vs).1)::(cU l (eC s vs).2).1,(cU l (eC s vs).2).2)
def o6(K V:Row)(d:ke):Option (List (K.den×V.den)):=if h:d.1.beq (.slice (.pair K V))=af then aa (jo (s:= .slice (.pair K V)) (Row.eq_of_beq h) d.2)else ae
def P8(T:TypeId)(K:Row)(agg:Bool)(V:Row):Option Nat->List ke->Th×List ke
 |none,d::vs=>(.smap T K agg V ((o6 K V d).getD []) ae,vs)
 |some n,d::d'::vs=>(.smap T K agg V ((o6 K V d).getD []) (aa (n,(o6 K V d').getD [],ae)),vs)
 |_,vs=>(.smap T K agg V [] ae,vs)
def sW{K V:Row}(l:List (K.den×V.den)):o6 K V ⟨.slice (.pair K V),l⟩=aa l:=by
 unfold o6;rw[dif_pos (Row.beq_refl _)];rfl
def de:OS->List ke->Th×List ke
 | .box T t,vs=>(.box T (oR t vs).1,(oR t vs).2)
 | .own T r,⟨.slice s,l⟩::vs=>(bif s.beq r then .own T s l else .own T r [],vs)
 | .own T r,vs=>(.own T r [],vs)
 | .map T K agg V,⟨.slice (.pair K' V'),l⟩::vs=>(if h:K'.beq K=af/\V'.beq V=af then .map T K agg V (jo (r:= .slice (.pair K' V')) (s:= .slice (.pair K V)) (by grind [Row.eq_of_beq]) l)else .map T K agg V [],vs)
 | .map T K agg V,vs=>(.map T K agg V [],vs)
 | .deep T d,⟨.slice s,l⟩::vs=>(if h:s.beq d.row=af then .deep T d (jo (r:= .slice s) (s:= .slice d.row) (av Row.slice (Row.eq_of_beq h)) l) ae else .deep T d [] ae,vs)
 | .deep T d,vs=>(.deep T d [] ae,vs)
 | .smap T K agg V it,vs=>P8 T K agg V it vs
def gO(m:Nat):List (Nat×OS)->List ke->List (Nat×(Nat×Th))
 |[],_=>[]
 |(j,s)::l,vs=>(j,(m,(de s vs).1))::gO (m+1) l (de s vs).2
abbrev Bs:=List (Nat×Option Nat)
def D8:Option Nat->Option Nat->Bool
 |some a,aa b=>agC a b
 |none,ae=>af
 |_,_=>ag
theorem xV{a b:Option Nat}(h:D8 a b=af):a=b:=by
 cases a<;>cases b<;>first|rfl|cases h|(rw[beq_true h])
def vM(bs:Bs)(j:Nat)(v:Option Nat):Option Bs:=
 match find bs j with
 |none=>aa ((j,v)::bs)
 |some u=>bif D8 u v then aa bs else ae
def Dk(ob:Nat->Option (Nat×Th)):Sh->Tree->Bs->Option (List ke×Bs)
 | .leaf r,t,bs=>match flat ob r t with
   |some x=>aa ([⟨r,x⟩],bs)
   |none=>ae
 | .own j, .own o,bs=>match vM bs j (aa o)with
   |some fT=>aa ([],fT)
   |none=>ae
 | .own j, .nil,bs=>match vM bs j ae with
   |some fT=>aa ([],fT)
   |none=>ae
 | .nil, .nil,bs=>aa ([],bs)
 | .junk n,t,bs=>bif agC t.size n then aa ([],bs)else ae
 | .pair a b,t,bs=>match t.split with
   |some (x,y)=>match Dk ob a x bs with
    |some (vs,D9)=>match Dk ob b y D9 with
     |some (us,FQ)=>aa (vs++us,FQ)
     |none=>ae
    |none=>ae
   |none=>ae
 |_,_,_=>ae
def sX:List (Nat×List Bool×Nat)->List (Nat×List Bool×Nat)->Bs->Option Bs
 |[],[],bs=>aa bs
 |(j,_,off)::js,(o,_,dN)::cs,bs=>bif agC off dN then(match vM bs j (aa o)with
  |some fT=>sX js cs fT
  |none=>ae)else ae
 |_,_,_=>ae
def Kn(ob:Nat->Option (Nat×Th))(s:SS)(d:aD)(bs:Bs):Option (List ke×Bs):=
 match s,d with
 | .val agg sh, .val eB t=>bif (bif agg then eB else !eB)then Dk ob sh t bs else ae
 | .ptr j _ off, .ptr o _ dN=>bif agC off dN then(match vM bs j (aa o)with
   |some fT=>aa ([],fT)
   |none=>ae)else ae
 | .at r, .at s x=>if h:s.beq r=af then aa ([⟨r,jo (Row.eq_of_beq h) x⟩],bs)else ae
 | .undef, .undef=>aa ([],bs)
 | .fn f js, .fn f' cs=>bif agC f f' then(match sX js cs bs with
   |some fT=>aa ([],fT)
   |none=>ae)else ae
 |_,_=>ae
def Hz(ob:Nat->Option (Nat×Th)):SS->aD->Bs->Option (List ke×Bs)
 | .ifc T s,d,bs=>match d with
   | .ifc T' d'=>bif agC T T' then Hz ob s d' bs else ae
   |_=>ae
 |s,d,bs=>Kn ob s d bs
def Sd(ob:Nat->Option (Nat×Th))(aF:List (Nat×aD)):List (Nat×SS)->Bs->Option (List ke×Bs)
 |[],bs=>aa ([],bs)
 |(t,s)::l,bs=>match find aF t with
  |some d=>match Hz ob s d bs with
   |some (vs,D9)=>match Sd ob aF l D9 with
    |some (us,FQ)=>aa (vs++us,FQ)
    |none=>ae
   |none=>ae
  |none=>ae
def Ko(ob:Nat->Option (Nat×Th))(j:Nat)(s:OS)(bs:Bs):Option (List ke×Bs):=
 match find bs j with
 |some (aa o)=>match ob o with
  |some (_,t)=>match s,t with
   | .own T r, .own T' r' l=>bif agC T T' then(if h:r'.beq r=af then aa ([⟨.slice r,jo (r:= .slice r') (s:= .slice r) (av Row.slice (Row.eq_of_beq h)) l⟩],bs)else ae)else ae
   | .box T sh, .box T' t=>bif agC T T' then Dk ob sh t bs else ae
   | .map T K agg V, .map T' K' eB V' l=>bif agC T T'&&(bif agg then eB else !eB)then(if h:K'.beq K=af/\V'.beq V=af then aa ([⟨.slice (.pair K V),jo (r:= .slice (.pair K' V')) (s:= .slice (.pair K V)) (by grind [Row.eq_of_beq]) l⟩],bs)else ae)else ae
   | .deep T d, .deep T' d' l ae=>bif agC T T'&&d'.beq d then aa ([⟨.slice d'.row,l⟩],bs)else ae
   | .smap T K agg V ae, .smap T' K' eB V' l _=>bif agC T T'&&(bif agg then eB else !eB)&&K'.beq K&&V'.beq V then aa ([⟨.slice (.pair K' V'),l⟩],bs)else ae
   | .smap T K agg V (aa n), .smap T' K' eB V' l (aa (n',left,_))=>bif agC T T'&&(bif agg then eB else !eB)&&K'.beq K&&V'.beq V then(match vM bs n (aa n')with
     |some fT=>aa ([⟨.slice (.pair K' V'),l⟩,⟨.slice (.pair K' V'),left⟩],fT)
     |none=>ae)else ae
   |_,_=>ae
  |none=>ae
 |some ae=>match s with
  | .own _ r=>aa ([⟨.slice r,([]:List r.den)⟩],bs)
  | .deep _ d=>aa ([⟨.slice d.row,([]:List d.row.den)⟩],bs)
  |_=>ae
 |none=>ae
def Se(ob:Nat->Option (Nat×Th)):List (Nat×OS)->Bs->Option (List ke×Bs)
 |[],bs=>aa ([],bs)
 |(j,s)::l,bs=>match Ko ob j s bs with
  |some (vs,D9)=>match Se ob l D9 with
   |some (us,FQ)=>aa (vs++us,FQ)
   |none=>ae
  |none=>ae
section
variable {U:Nat->Prop} {H H':aI} {F:Nat->Prop} {w:World} {n:Nat} {ob:Nat->Option (Nat×Th)}
def Br(bs fT:Bs):Prop:=∀j v,find bs j=aa v->find fT j=aa v
def jq{bs fT:Bs}{j:Nat}{v:Option Nat}(h:vM bs j v=aa fT):Br bs fT/\find fT j=aa v:=by
 unfold vM at h;split at h
 .rename_i hn;obtain rfl:=agx h;refine⟨λi u hu=>?_,by rw[aY,aj rfl]⟩
  grind [aY]
 .rename_i u hu;obtain⟨h1,rfl⟩:=rG h;obtain rfl:=xV h1;exact⟨λ_ _ h=>h,hu⟩
def valOf(H:aI):Option Nat->Option Value
 |some o=>H.val o
 |none=>aa (.slice ae 0 0)
def nM(H H':aI)(bs:Bs):Prop:=∀j v,find bs j=aa v->∀u,valOf H v=aa u->H'.val j=aa u
def vN:{sh:Sh}->{t:Tree}->{bs fT:Bs}->{vs:List ke}->Dk ob sh t bs=aa (vs,fT)->Br bs fT
 | .leaf r,t,bs,fT,vs,h=>by
   unfold Dk at h
   split at h<;>cases h
   exact λ_ _ h=>h
 | .own j, .own o,bs,fT,vs,h=>by
   unfold Dk at h
   split at h<;>cases h
   rename_i hb;exact(jq hb).1
 | .own j, .nil,bs,fT,vs,h=>by
   unfold Dk at h
   split at h<;>cases h
   rename_i hb;exact(jq hb).1
 | .nil, .nil,bs,fT,vs,h=>by cases h;exact λ_ _ h=>h
 | .pair a b,t,bs,fT,vs,h=>by
   unfold Dk at h;split at h
   case h_2=>cases h
   split at h
   case h_2=>cases h
   rename_i h1;split at h
   case h_2=>cases h
   rename_i h2;cases h
   exact λj v hj=>vN h2 j v (vN h1 j v hj)
 | .own _, .leaf _ _,_,_,_,h=>by cases h
 | .own _, .pair _ _,_,_,_,h=>by cases h
 | .nil, .leaf _ _,_,_,_,h=>by cases h
 | .nil, .own _,_,_,_,h=>by cases h
 | .nil, .pair _ _,_,_,_,h=>by cases h
 | .own _, .view ..,_,_,_,h=>by cases h
 | .nil, .view ..,_,_,_,h=>by cases h
 | .own _, .junk _,_,_,_,h=>by cases h
 | .nil, .junk _,_,_,_,h=>by cases h
 | .junk n,t,bs,fT,vs,h=>by
   unfold Dk at h;obtain⟨_,h⟩:=aQ h;cases h
   exact λ_ _ h=>h
def zr(hs:aJ U H F w ob n):{sh:Sh}->{t:Tree}->{bs fT:Bs}->{vs:List ke}->{cs:List Value}->Dk ob sh t bs=aa (vs,fT)->Holds H F w t cs->nM H H' fT->∀rest,
 Holds H' F w (oR sh (vs++rest)).1 cs/\(oR sh (vs++rest)).2=rest
 | .leaf r,t,bs,fT,vs,cs,h,hh,hb,rest=>by
   unfold Dk at h
   split at h<;>cases h
   rename_i x hf;refine⟨?_,rfl⟩
   show Holds H' F w (bif r.beq r then Tree.leaf r x else .nil) cs
   rw[Row.beq_refl,cond_true];exact gn hs hf hh
 | .own j, .own o,bs,fT,vs,cs,h,hh,hb,rest=>by
   unfold Dk at h
   split at h<;>cases h
   rename_i AJ;obtain⟨v,hv,h1,rfl⟩:=hh;exact⟨⟨v,hb _ _ (jq AJ).2 v hv,h1,rfl⟩,rfl⟩
 | .own j, .nil,bs,fT,vs,cs,h,hh,hb,rest=>by
   unfold Dk at h
   split at h<;>cases h
   rename_i AJ;rw[show cs=_ from hh];exact⟨⟨_,hb _ _ (jq AJ).2 _ rfl,rfl,rfl⟩,rfl⟩
 | .nil, .nil,bs,fT,vs,cs,h,hh,hb,rest=>by cases h;exact⟨hh,rfl⟩
 | .pair a b,t,bs,fT,vs,cs,h,hh,hb,rest=>by
   unfold Dk at h;split at h
   case h_2=>cases h
   rename_i x y uk;split at h
   case h_2=>cases h
   rename_i WL D9 h1;split at h
   case h_2=>cases h
   rename_i us FQ h2;cases h;obtain⟨c1,c2,rfl,g1,g2,_⟩:=hh.split uk
   have Jg:nM H H' D9:=λj v hj=>hb j v (vN h2 j v hj)
   obtain⟨k1,k2⟩:=zr hs h1 g1 Jg (us++rest);obtain⟨m1,m2⟩:=zr hs h2 g2 hb rest;rw[ahr];unfold oR;rw[k2];exact⟨⟨c1,c2,rfl,k1,m1⟩,m2⟩
 | .own _, .leaf _ _,_,_,_,_,h,_,_,_=>by cases h
 | .own _, .pair _ _,_,_,_,_,h,_,_,_=>by cases h
 | .nil, .leaf _ _,_,_,_,_,h,_,_,_=>by cases h
 | .nil, .own _,_,_,_,_,h,_,_,_=>by cases h
 | .nil, .pair _ _,_,_,_,_,h,_,_,_=>by cases h
 | .own _, .view ..,_,_,_,_,h,_,_,_=>by cases h
 | .nil, .view ..,_,_,_,_,h,_,_,_=>by cases h
 | .own _, .junk _,_,_,_,_,h,_,_,_=>by cases h
 | .nil, .junk _,_,_,_,_,h,_,_,_=>by cases h
 | .junk n,t,bs,fT,vs,cs,h,hh,hb,rest=>by
   unfold Dk at h;obtain⟨hn,h⟩:=aQ h;cases h;exact⟨⟨hh.length.trans (Nat.eq_of_beq_eq_true hn),hh.jy⟩,rfl⟩
theorem sY:{js cs:List (Nat×List Bool×Nat)}->{bs fT:Bs}->sX js cs bs=aa fT->Br bs fT
 |[],[],bs,fT,h=>by obtain rfl:=agx h;exact λ_ _ h=>h
 |(j,p,off)::js,(o,p',dN)::cs,bs,fT,h=>by
  unfold sX at h;obtain⟨_,h⟩:=aQ h;split at h
  case h_2=>cases h
  rename_i hb
  exact λi v hi=>sY h i v ((jq hb).1 i v hi)
 |[],_::_,_,_,h=>by cases h
 |_::_,[],_,_,h=>by cases h
def xW:{js cs:List (Nat×List Bool×Nat)}->{bs fT:Bs}->{vs:List Value}->sX js cs bs=aa fT->kX H cs vs->nM H H' fT->kX H' js vs
 |[],[],bs,fT,vs,h,hc,hb=>hc
 |(j,p,off)::js,(o,p',dN)::cs,bs,fT,vs,h,hc,hb=>by
  unfold sX at h;obtain⟨ho,h'⟩:=aQ h;clear h;split at h'
  case h_2=>cases h'
  rename_i b1 AJ;obtain⟨v,us,rfl,⟨b,h1,rfl⟩,h2⟩:=hc;have ho:=beq_true ho;subst ho;exact⟨_,us,rfl,⟨b,hb _ _ (sY h' _ _ (jq AJ).2) _ h1,rfl⟩,xW h' h2 hb⟩
 |[],_::_,_,_,_,h,_,_=>by cases h
 |_::_,[],_,_,_,h,_,_=>by cases h
def Nl{s:SS}{d:aD}{bs fT:Bs}{vs:List ke}(h:Kn ob s d bs=aa (vs,fT)):Br bs fT:=by
 unfold Kn at h;split at h
 .obtain⟨_,h⟩:=aQ h;exact vN h
 .obtain⟨_,h⟩:=aQ h
  split at h<;>cases h
  rename_i hb;exact(jq hb).1
 .split at h<;>cases h
  exact λ_ _ h=>h
 .cases h
  exact λ_ _ h=>h
 .obtain⟨_,h'⟩:=aQ h
  grind [sY]
 .cases h
def Nn{s:SS}{d:aD}{bs fT:Bs}{vs:List ke}(h:Hz ob s d bs=aa (vs,fT)):Br bs fT:=by
 induction s generalizing d with
 |ifc T s ih=>
  cases d with
  |ifc T' d'=>
   obtain⟨_,h'⟩:=aQ (show(bif agC T T' then Hz ob s d' bs else ae)=aa (vs,fT)from h);exact ih h'
  |_=>cases h
 |_=>exact Nl h
def No(hs:aJ U H F w ob n){s:SS}{d:aD}{bs fT:Bs}{vs:List ke}{v:Value}(h:Kn ob s d bs=aa (vs,fT))(hd:aC H F w d v)(hb:nM H H' fT)(rest:List ke):
 aC H' F w (eC s (vs++rest)).1 v/\(eC s (vs++rest)).2=rest:=by
 unfold Kn at h;split at h
 .rename_i agg sh eB t;obtain⟨ha,h'⟩:=aQ h;clear h
  have:agg=eB:=by cases agg<;>cases eB<;>simp_all
  subst this;obtain⟨cs,h1,h2⟩:=hd;obtain⟨k1,k2⟩:=zr hs h' h1 hb rest;exact⟨⟨cs,k1,h2⟩,k2⟩
 .rename_i j p off o p' dN;obtain⟨ho,h'⟩:=aQ h;clear h
  split at h'<;>cases h'
  rename_i AJ;obtain⟨b,h1,h2⟩:=hd;refine⟨⟨b,hb _ _ (jq AJ).2 _ h1,?_⟩,rfl⟩
  simp_all
 .rename_i r s x
  split at h<;>cases h
  rename_i AW;obtain rfl:=Row.eq_of_beq AW;refine⟨?_,rfl⟩
  show aC H' F w (bif s.beq s then aD.at s x else .dead) v
  rw[Row.beq_refl,cond_true];exact hd
 .cases h;exact⟨hd,rfl⟩
 .rename_i f js f' cs;obtain⟨hf,h'⟩:=aQ h
  split at h'<;>cases h'
  rename_i AJ;obtain⟨us,h1,h2⟩:=hd;refine⟨⟨us,?_,xW AJ h2 hb⟩,rfl⟩
  simp_all
 .cases h
def Np(hs:aJ U H F w ob n){s:SS}{d:aD}{bs fT:Bs}{vs:List ke}{v:Value}(h:Hz ob s d bs=aa (vs,fT))(hd:aC H F w d v)(hb:nM H H' fT)(rest:List ke):
 aC H' F w (eC s (vs++rest)).1 v/\(eC s (vs++rest)).2=rest:=by
 induction s generalizing d v with
 |ifc T s ih=>
  cases d with
  |ifc T' d'=>
   obtain⟨hT,h'⟩:=aQ (show(bif agC T T' then Hz ob s d' bs else ae)=aa (vs,fT)from h);obtain⟨u,e,h2⟩:=hd;obtain⟨k1,k2⟩:=ih h' h2;exact⟨⟨u,by simp_all,k1⟩,k2⟩
  |_=>cases h
 |_=>exact No hs h hd hb rest
def Kp:{l:List (Nat×SS)}->{aF:List (Nat×aD)}->{bs fT:Bs}->{vs:List ke}->Sd ob aF l bs=aa (vs,fT)->Br bs fT
 |[],_,_,_,_,h=>by cases h;exact λ_ _ h=>h
 |(t,s)::l,aF,bs,fT,vs,h=>by
  unfold Sd at h;split at h
  case h_2=>cases h
  split at h
  case h_2=>cases h
  rename_i h1;split at h
  case h_2=>cases h
  rename_i h2;cases h
  exact λj v hj=>Kp h2 j v (Nn h1 j v hj)
def Kq(hs:aJ U H F w ob n){aF:List (Nat×aD)}{ρ:Nat->Value}(gN:∀t d,find aF t=aa d->aC H F w d (ρ t)):{l:List (Nat×SS)}->{bs fT:Bs}->{vs:List ke}->Sd ob aF l bs=aa (vs,fT)->nM H H' fT->∀rest,
 (∀t d,find (cU l (vs++rest)).1 t=aa d->aC H' F w d (ρ t))/\(cU l (vs++rest)).2=rest
 |[],bs,fT,vs,h,_,rest=>by cases h;exact⟨λ_ _ h=>(by cases h),rfl⟩
 |(t,s)::l,bs,fT,vs,h,hb,rest=>by
  unfold Sd at h;split at h
  case h_2=>cases h
  rename_i d hd;split at h
  case h_2=>cases h
  rename_i WL D9 h1;split at h
  case h_2=>cases h
  rename_i us FQ h2;cases h
  have Jg:nM H H' D9:=λj v hj=>hb j v (Kp h2 j v hj)
  obtain⟨k1,k2⟩:=Np hs h1 (gN t d hd) Jg (us++rest);obtain⟨m1,m2⟩:=Kq hs gN h2 hb rest
  grind [cU,aY]
end
end Go.Proofs.YtfeahmiobbjklaaGreatDoor
namespace Go.Proofs.YtfeahmiobbjklaaGreatDoor
open Go Go.RowKit
def Tree.owns:Tree->List Nat
 | .own o=>[o]
 | .pair a b=>a.owns++b.owns
 | .view o _ _ _=>[o]
 |_=>[]
def Bt:Sh->Tree->List Nat
 | .leaf _,t=>t.owns
 | .pair a b,t=>match t.split with
   |some (x,y)=>Bt a x++Bt b y
   |none=>[]
 |_,_=>[]
def FR(aF:List (Nat×aD)):List (Nat×SS)->List Nat
 |[]=>[]
 |(t, .val _ sh)::l=>(match find aF t with
  |some (.val _ tr)=>Bt sh tr
  |_=>[])++FR aF l
 |(t, .ifc _ (.val _ sh))::l=>(match find aF t with
  |some (.ifc _ (.val _ tr))=>Bt sh tr
  |_=>[])++FR aF l
 |_::l=>FR aF l
def OX(j:Nat):List (Nat×List Bool×Nat)->List (Nat×List Bool×Nat)->Option Nat
 |(j',_)::js,(o,_)::cs=>bif agC j' j then aa o else OX j js cs
 |_,_=>ae
def Bu(aF:List (Nat×aD))(j:Nat):List (Nat×SS)->Option Nat
 |[]=>ae
 |(t, .ptr j' _ _)::l=>bif agC j' j then(match find aF t with
  |some (.ptr o _ _)=>aa o
  |_=>ae)else Bu aF j l
 |(t, .ifc _ (.ptr j' _ _))::l=>bif agC j' j then(match find aF t with
  |some (.ifc _ (.ptr o _ _))=>aa o
  |_=>ae)else Bu aF j l
 |(t, .fn _ js)::l=>match(match find aF t with
    |some (.fn _ cs)=>OX j js cs
    |_=>ae)with
  |some o=>aa o
  |none=>Bu aF j l
 |_::l=>Bu aF j l
def Kr(nb:Nat)(aF:List (Nat×aD))(ss:List (Nat×SS))(objs:List (Nat×(Nat×Th))):List (Nat×OS)->List Nat
 |[]=>[]
 |(j, .box _ sh)::l=>(match(bif ag4 j nb then aa j else Bu aF j ss)with
  |some o=>(match find objs o with
   |some (_, .box _ tr)=>Bt sh tr
   |_=>[])
  |none=>[])++Kr nb aF ss objs l
 |_::l=>Kr nb aF ss objs l
def WM(nb:Nat):List (Nat×OS)->Bs
 |[]=>[]
 |(j,_)::l=>bif ag4 j nb then(j,aa j)::WM nb l else WM nb l
def gP:Bs->List Nat
 |[]=>[]
 |(_,aa o)::l=>o::gP l
 |(_,ae)::l=>gP l
def oe(o:Nat)(l:List Nat):Bool:=l.any (agC o)
def Ea:List Nat->Bool
 |[]=>af
 |o::l=> !oe o l&&Ea l
def Ks(nb nxt:Nat):Bs->Bool
 |[]=>af
 |(j,u)::l=>(bif ag4 j nb then D8 u (aa j)else ag4 j nxt)&&Ks nb nxt l
def Eb(objs:List (Nat×(Nat×Th)))(Bv:List Nat):List (Nat×(Nat×Th))->Bool
 |[]=>af
 |(o,(s,t))::l=>(match find objs o with
  |some (s',t')=>agC s s'&&(bif fe t then fe t' else !fe t')
  |none=>ag)&& !oe o Bv&&Eb objs Bv l
def xX(nb:Nat)(J:JS)(aF:List (Nat×aD))(objs:List (Nat×(Nat×Th))):List Nat:=FR aF J.aF++Kr nb aF J.aF objs J.objs
def xY(nb:Nat)(frame:List (Nat×(Nat×Th)))(J:JS)(aF:List (Nat×aD))(objs:List (Nat×(Nat×Th))):Option (cW J.rows×Bs×List (Nat×(Nat×Th))):=
 match fH objs (xX nb J aF objs)with
 |none=>ae
 |some aZ=>match Sd (find aZ) aF J.aF (WM nb J.objs)with
  |none=>ae
  |some (vs,D9)=>match Se (find aZ) J.objs D9 with
   |none=>ae
   |some (us,FQ)=>bif Ea (gP FQ)&&Ks nb J.nxt FQ&&Nat.ble (nb+J.objs.length) J.nxt&&Eb aZ (gP FQ) frame then
     (match Bq J.rows (vs++us)with
     |some x=>aa (x,FQ,aZ)
     |none=>ae)else ae
def rO:List (Nat×(Nat×Th))->Nat->Option Th
 |[],_=>ae
 |(_,(s,t))::l,m=>bif agC s m then aa t else rO l m
def P9:List (Nat×(Nat×Th))->Nat->Option Nat
 |[],_=>ae
 |(j,(s,_))::l,m=>bif agC s m then aa j else P9 l m
def vO(H:aI)(ob:Nat->Option (Nat×Th)):Option (Option Nat)->Nat->Prop
 |some (aa o)=>match ob o with
  |some (s,_)=>H.sub s
  |none=>λ_=>False
 |_=>λ_=>False
def ec(H:aI)(nb:Nat)(bs:Bs)(cons:List (Nat×(Nat×Th)))(ob:Nat->Option (Nat×Th)):aI where
 val m:=if m<nb then H.val m else match find bs m with
  |some u=>valOf H u
  |none=>ae
 con m:=if m<nb then H.con m else rO cons m
 sub m:=if m<nb then H.sub m else match P9 cons m with
  |some j=>vO H ob (find bs j)
  |none=>λ_=>False
section
variable {U:Nat->Prop} {H H':aI} {F:Nat->Prop} {w:World} {n:Nat} {ob:Nat->Option (Nat×Th)}
def FT{j:Nat}{s:OS}{bs fT:Bs}{vs:List ke}(h:Ko ob j s bs=aa (vs,fT)):Br bs fT:=by
 unfold Ko at h;split at h
 .split at h
  case h_2=>cases h
  split at h
  .obtain⟨_,h'⟩:=aQ h
   split at h'<;>cases h'
   exact λ_ _ h=>h
  .obtain⟨_,h'⟩:=aQ h;exact vN h'
  .obtain⟨_,h'⟩:=aQ h
   split at h'<;>cases h'
   exact λ_ _ h=>h
  .obtain⟨_,h'⟩:=aQ h;cases h'
   exact λ_ _ h=>h
  .obtain⟨_,h'⟩:=aQ h;cases h'
   exact λ_ _ h=>h
  .obtain⟨_,h'⟩:=aQ h
   split at h'<;>cases h'
   rename_i AJ;exact(jq AJ).1
  .cases h
 .split at h<;>cases h
  .exact λ_ _ h=>h
  .exact λ_ _ h=>h
 .cases h
def zt:{l:List (Nat×OS)}->{bs fT:Bs}->{vs:List ke}->Se ob l bs=aa (vs,fT)->Br bs fT
 |[],_,_,_,h=>by cases h;exact λ_ _ h=>h
 |(j,s)::l,bs,fT,vs,h=>by
  unfold Se at h;split at h
  case h_2=>cases h
  rename_i h1;split at h
  case h_2=>cases h
  rename_i h2;cases h
  exact λj v hj=>zt h2 j v (FT h1 j v hj)
def lg(H H':aI)(F:Nat->Prop)(w:World)(ob:Nat->Option (Nat×Th))(bs:Bs)(j:Nat)(t:Th):Prop:=
 ∃u v,find bs j=aa u/\valOf H u=aa v/\v.oneCell'=af/\t.base=t/\iy H' F w (vO H ob (find bs j)) v t/\∀k,fp (vO H ob (find bs j)) v t k->∃o s0 t0,u=aa o/\ob o=aa (s0,t0)/\H.val o=aa v/\fp (H.sub s0) v t0 k
def Nq(hs:aJ U H F w ob n){j:Nat}{s:OS}{bs fT:Bs}{vs:List ke}(h:Ko ob j s bs=aa (vs,fT))(hb:nM H H' fT)(rest:List ke):
 lg H H' F w ob bs j (de s (vs++rest)).1/\(de s (vs++rest)).2=rest:=by
 unfold Ko at h;split at h
 .rename_i o Sf;split at h
  case h_2=>cases h
  rename_i s0 t0 cz;obtain⟨v,hv,cG⟩:=hs.obj _ _ _ cz
  have iA:vO H ob (find bs j)=H.sub s0:=by rw[Sf];simp[vO,cz]
  have mk:∀t,t.base=t->iy H' F w (H.sub s0) v t->(∀k,fp (H.sub s0) v t k->fp (H.sub s0) v t0 k)->lg H H' F w ob bs j t:=by
   intro t hb mG hf;refine⟨aa o,v,Sf,hv,cG.one,hb,by grind,λk hk=>?_⟩;rw[iA]at hk;exact⟨o,_,_,rfl,cz,hv,hf k hk⟩
  split at h
  .rename_i T r T' r' l;obtain⟨hT,h'⟩:=aQ h;clear h
   split at h'<;>cases h'
   rename_i AW;obtain rfl:=Row.eq_of_beq AW;obtain rfl:=beq_true hT;refine⟨?_,rfl⟩
   show lg H H' F w ob bs j (bif r'.beq r' then Th.own T r' l else .own T r' [])
   rw[Row.beq_refl,cond_true]
   exact mk _ rfl cG.ok λk hk=>hk
  .rename_i T sh T' t;obtain⟨hT,h'⟩:=aQ h;clear h;obtain rfl:=beq_true hT;obtain⟨b,es,e,h1,h2⟩:=cG.ok;obtain⟨k1,k2⟩:=zr hs h' h2 hb rest;exact⟨mk _ rfl ⟨b,es,e,h1,k1⟩ λk hk=>hk,k2⟩
  .rename_i T K agg V T' K' eB V' l;obtain⟨hT,h'⟩:=aQ h;clear h
   split at h'<;>cases h'
   rename_i AW;obtain⟨Qa,ha⟩:=cx hT;clear hT
   have ha:agg=eB:=by cases agg<;>cases eB<;>simp_all
   subst ha;obtain⟨hK,hV⟩:=AW;obtain rfl:=Row.eq_of_beq hK;obtain rfl:=Row.eq_of_beq hV;obtain rfl:=beq_true Qa;refine⟨?_,rfl⟩
   show lg H H' F w ob bs j (if h:K'.beq K'=af/\V'.beq V'=af then Th.map T K' agg V' l else .map T K' agg V' [])
   rw[dif_pos ⟨Row.beq_refl _,Row.beq_refl _⟩];obtain⟨b,es,clock,e,h1,h2,h3⟩:=cG.ok
   exact mk _ rfl ⟨b,es,clock,e,h1,h2,h3.gm⟩ λk hk=>hk
  .rename_i T d T' d' l;obtain⟨hT,h'⟩:=aQ h;clear h;obtain⟨Qa,hd⟩:=cx hT;obtain rfl:=DR.eq_of_beq hd;obtain rfl:=beq_true Qa;cases h';refine⟨?_,rfl⟩
   show lg H H' F w ob bs j (if h:d'.row.beq d'.row=af then Th.deep T d' l ae else .deep T d' [] ae)
   rw[dif_pos (Row.beq_refl _)]
   exact mk _ rfl cG.ok λk hk=>hk
  .rename_i T K agg V T' K' eB V' l it;obtain⟨hT,h'⟩:=aQ h;clear h;obtain⟨hT,hd⟩:=cx hT;obtain⟨hT,wX⟩:=cx hT;obtain⟨Qa,ha⟩:=cx hT
   have ha:agg=eB:=by cases agg<;>cases eB<;>simp_all
   subst ha;obtain rfl:=Row.eq_of_beq hd;obtain rfl:=Row.eq_of_beq wX;obtain rfl:=beq_true Qa;cases h';refine⟨?_,rfl⟩
   show lg H H' F w ob bs j (Th.smap T K' agg V' ((o6 K' V' ⟨.slice (.pair K' V'),l⟩).getD []) ae)
   rw[sW];obtain⟨b,es,clock,l',e,h0,h1,h2,h3,h4,_⟩:=cG.ok
   exact mk _ rfl ⟨b,es,clock,l',e,h0,h1,h2,h3.gm,h4,trivial⟩ λk hk=>hk
  .rename_i T K agg V nj T' K' eB V' l n' left cur;obtain⟨hT,h'⟩:=aQ h;clear h;obtain⟨hT,hd⟩:=cx hT;obtain⟨hT,wX⟩:=cx hT;obtain⟨Qa,ha⟩:=cx hT
   have ha:agg=eB:=by cases agg<;>cases eB<;>simp_all
   subst ha;obtain rfl:=Row.eq_of_beq hd;obtain rfl:=Row.eq_of_beq wX;obtain rfl:=beq_true Qa
   split at h'<;>cases h'
   rename_i AJ;refine⟨?_,rfl⟩
   show lg H H' F w ob bs j (Th.smap T K' agg V' ((o6 K' V' ⟨.slice (.pair K' V'),l⟩).getD []) (aa (nj,(o6 K' V' ⟨.slice (.pair K' V'),left⟩).getD [],ae)))
   rw[sW,sW];obtain⟨b,es,clock,l',e,h0,h1,h2,h3,h4,r,since,seen,last,i1,i2,i3,i4,i5,i6,i7,⟨l2,i8,i9⟩,_⟩:=cG.ok
   exact mk _ rfl ⟨b,es,clock,l',e,h0,h1,h2,h3.gm,h4,r,since,seen,last,i1,i2,hb _ _ (jq AJ).2 _ i3,i4,i5,i6,i7,⟨l2,i8.gm,i9⟩,λp hp=>by cases hp⟩ λk hk=>hk
  .cases h
 .rename_i Sf
  split at h<;>cases h
  .rename_i T r;refine⟨?_,rfl⟩
   show lg H H' F w ob bs j (bif r.beq r then Th.own T r []else .own T r [])
   rw[Row.beq_refl,cond_true];refine⟨ae,_,Sf,rfl,rfl,rfl,(lO.nil 0 F w T r).2,λk hk=>?_⟩;have lf:bP (.slice ae 0 0) k:=hk;simp[bP,agR]at lf
  .rename_i T d;refine⟨?_,rfl⟩
   show lg H H' F w ob bs j (if h:d.row.beq d.row=af then Th.deep T d [] ae else .deep T d [] ae)
   rw[dif_pos (Row.beq_refl _)]
   have iA:vO H ob (find bs j)=λ_=>False:=by rw[Sf];rfl
   refine⟨ae,_,Sf,rfl,rfl,rfl,?_,λk hk=>?_⟩
   .rw[iA];exact⟨[],λ_ _=>False,lU.nil F w T d.low,rfl,λi h=>absurd h (by simp),⟨λk=>by simp[bP,agR],λ_ _ _ h=>absurd h (by simp),λ_ _ h=>absurd h (by simp)⟩⟩
   .rw[iA]at hk;exact hk.elim
 .cases h
theorem Bw:{l:List (Nat×OS)}->{m k:Nat}->{vs:List ke}->m+l.length<=k->rO (gO m l vs) k=ae
 |[],_,_,_,_=>rfl
 |(j,s)::l,m,k,vs,h=>by
  show(bif agC m k then _ else rO (gO (m+1) l _) k)=ae
  rw[List.length_cons]at h
  have:agC m k=ag:=by
   cases hb:agC m k with
   |false=>rfl
   |true=>have:=beq_true hb;omega
  rw[this,cond_false];exact Bw (by omega)
def Kt(hs:aJ U H F w ob n):{l:List (Nat×OS)}->{bs fT:Bs}->{vs:List ke}->Se ob l bs=aa (vs,fT)->nM H H' fT->∀m,
 ∀j s t,find (gO m l vs) j=aa (s,t)->m<=s/\s<m+l.length/\rO (gO m l vs) s=aa t/\P9 (gO m l vs) s=aa j/\lg H H' F w ob fT j t
 |[],_,_,_,h,_,m=>by cases h;intro j s t h;cases h
 |(j0,s0)::l,bs,fT,vs,h,hb,m=>by
  unfold Se at h;split at h
  case h_2=>cases h
  rename_i WL D9 h1;split at h
  case h_2=>cases h
  rename_i us FQ h2;cases h
  have Jg:nM H H' D9:=λj v hj=>hb j v (zt h2 j v hj)
  obtain⟨⟨u,v,g1,g2⟩,k2⟩:=Nq hs h1 Jg us;intro j s t hf;unfold gO at hf⊢;rw[aY]at hf;rw[k2]at hf⊢;split at hf
  .rename_i e;subst e;simp only[agH,Prod.mk.injEq]at hf;obtain⟨rfl,rfl⟩:=hf;have e1:=zt h2 _ _ (FT h1 _ _ g1);rw[g1]at g2;refine⟨agB _,by simp,?_,?_,u,v,e1,?_⟩
   .show(bif agC m m then _ else _)=_
    simp
   .show(bif agC m m then _ else _)=_
    simp
   grind
  .obtain⟨a1,a2,a3,a4,a5⟩:=Kt hs h2 hb (m+1) j s t hf
   have:agC m s=ag:=by
    cases hb:agC m s with
    |false=>rfl
    |true=>have:=beq_true hb;omega
   refine⟨by omega,by grind,?_,?_,a5⟩
   .show(bif agC m s then _ else _)=_
    grind
   .show(bif agC m s then _ else _)=_
    grind
theorem fy{o:Nat}{l:List Nat}:oe o l=af↔o∈l:=any_beq
theorem jJ:{bs:Bs}->{j o:Nat}->find bs j=aa (aa o)->o∈gP bs
 |[],_,_,h=>by cases h
 |(i,u)::bs,j,o,h=>by
  rw[aY]at h;split at h
  .obtain rfl:=agx h;exact List.mem_cons_self
  .have:=jJ h
   cases u with
   |none=>exact this
   |some q=>exact List.mem_cons_of_mem _ this
def sZ:{bs:Bs}->Ea (gP bs)=af->{j j' o:Nat}->find bs j=aa (aa o)->find bs j'=aa (aa o)->j=j'
 |[],_,_,_,_,h,_=>by cases h
 |(i,u)::bs,hn,j,j',o,h,h'=>by
  rw[aY]at h h'
  cases u with
  |none=>
   split at h
   .cases h
   .split at h'
    .cases h'
    .exact sZ (bs:=bs) hn h h'
  |some q=>
   obtain⟨hq,GY⟩:=cx hn
   have hq:q∉gP bs:=λe=>by rw[fy.2 e]at hq;cases hq
   split at h
   .grind [jJ]
   .split at h'
    .grind [jJ]
    .exact sZ GY h h'
def vP{nb nxt:Nat}:{bs:Bs}->Ks nb nxt bs=af->{j:Nat}->{u:Option Nat}->find bs j=aa u->(j<nb->u=aa j)/\(nb<=j->j<nxt)
 |[],_,_,_,h=>by cases h
 |(i,v)::bs,hk,j,u,h=>by
  obtain⟨h1,h2⟩:=cx hk;rw[aY]at h;split at h
  .rename_i e;subst e;obtain rfl:=agx h
   cases hb:ag4 i nb with
   |true=>
    rw[hb,cond_true]at h1
    have:i<nb:=by simpa using hb
    grind [xV]
   |false=>
    rw[hb,cond_false]at h1
    have hge:¬i<nb:=λe=>by have:ag4 i nb=af:=by simpa using e
                           grind
    exact⟨λe=>absurd e hge,λ_=>by simpa using h1⟩
  .exact vP h2 h
def xZ{objs:List (Nat×(Nat×Th))}{Bv:List Nat}:{fr:List (Nat×(Nat×Th))}->Eb objs Bv fr=af->{o s:Nat}->{t:Th}->find fr o=aa (s,t)->
 o∉Bv/\∃t',find objs o=aa (s,t')/\fe t'=fe t
 |[],_,_,_,_,h=>by cases h
 |(i,(s0,t0))::fr,hf,o,s,t,h=>by
  obtain⟨h1,h2⟩:=cx hf;obtain⟨h1,h3⟩:=cx h1;rw[aY]at h;split at h
  .rename_i e;subst e;simp only[agH,Prod.mk.injEq]at h;obtain⟨rfl,rfl⟩:=h;split at h1
   .rename_i s' t' ho;obtain⟨h4,h5⟩:=cx h1
    grind [beq_true,fy]
   .cases h1
  .exact xZ h2 h
def Ku{t t':Th}(h:t.base=t'.base)(hf:fe t=fe t'):t=t':=by
 cases t<;>cases t'<;>simp_all[Th.base,fe]
def vQ{U':Nat->Prop}{H0:aI}{F0:Nat->Prop}{w0:World}{objs0:List (Nat×(Nat×Th))}{nb:Nat}{ns:List Nat}{J:JS}{aF:List (Nat×aD)}{objs aZ:List (Nat×(Nat×Th))}{x:cW J.rows}{bs:Bs}{ρ:Nat->Value}
 (h:xY nb (del ns objs0) J aF objs=aa (x,bs,aZ))(Nr:aJ U H0 F0 w0 (find objs0) nb)(OY:iz H0 nb)(hk:cu H0 F0 w0 H F w)(hs:aJ U H F w (find objs) n)(gN:∀t d,find aF t=aa d->aC H F w d (ρ t)):
 ∃F1 H1,aJ U H F1 w (find aZ) n/\(∀b,F b->F1 b)/\(∀b,F1 b->F b\/cn H (find objs) (xX nb J aF objs) b)/\fH objs (xX nb J aF objs)=aa aZ/\H0.le H1/\nM H H1 bs/\iz H1 J.nxt/\
  (∀t d,find (cU J.aF (dc J.rows x)).1 t=aa d->aC H1 F1 w d (ρ t))/\
  ((∀b,w.heap.size<=b->U' b)->(∀o s t v k,o∈gP bs->find aZ o=aa (s,t)->H.val o=aa v->fp (H.sub s) v t k->U' k)->(∀o s t v k,find (del ns objs0) o=aa (s,t)->H.val o=aa v->fp (H.sub s) v t k->U' k)->
    aJ U' H1 F1 w (find (gO nb J.objs (cU J.aF (dc J.rows x)).2++del ns objs0)) J.nxt):=by
 unfold xY at h;split at h
 case h_1=>cases h
 rename_i WN xf;split at h
 case h_1=>cases h
 rename_i vs D9 hS;split at h
 case h_1=>cases h
 rename_i us FQ hO;obtain⟨hc,h'⟩:=aQ h;clear h;split at h'
 case h_2=>cases h'
 rename_i x' hx;cases h';obtain⟨hc,R5⟩:=cx hc;obtain⟨hc,Ka⟩:=cx hc;obtain⟨xD,AN⟩:=cx hc
 have Ka:nb+J.objs.length<=J.nxt:=by simpa using Ka
 obtain⟨F1,uV,Dx,ME⟩:=nL xf hs
 have gM:Step F w F1 w:=λb hb=>⟨Dx b hb,rfl⟩
 have WO:∀t d,find aF t=aa d->aC H F1 w d (ρ t):=λt d hd=>(gN t d hd).keep (aI.le.refl H) gM
 rw[tN hx]
 have Kv:∃cons,cons=gO nb J.objs us:=⟨_,rfl⟩
 obtain⟨cons,FU⟩:=Kv
 have Bx:H0.le (ec H nb bs cons (find aZ)):=by
  have aH:∀s t,H0.con s=aa t->s<nb:=λs t gM=>by
   rcases Nat.lt_or_ge s nb with h|h
   .exact h
   .rw[(OY s h).2]at gM;cases gM
  refine⟨λo v ho=>?_,λs t gM=>?_,λs t gM=>?_⟩
  .have:o<nb:=by
    rcases Nat.lt_or_ge o nb with h|h
    .exact h
    .rw[(OY o h).1]at ho;cases ho
   simp[ec,this,hk.gm.val _ _ ho]
  .simp[ec,aH s t gM,hk.gm.con _ _ gM]
  .simp[ec,aH s t gM,hk.gm.sub _ _ gM]
 have s5:nM H (ec H nb bs cons (find aZ)) bs:=by
  intro j u hj v hv;obtain⟨a1,a2⟩:=vP AN hj;by_cases aH:j<nb
  .grind [ec,valOf]
  .simpa[ec,aH,hj]using hv
 have Ns:nM H (ec H nb bs cons (find aZ)) D9:=λj v hj=>s5 j v (zt hO j v hj)
 obtain⟨p1,p2⟩:=Kq uV WO hS Ns us
 have FV:iz (ec H nb bs cons (find aZ)) J.nxt:=λm hm=>by
  have R2:¬m<nb:=by omega
  refine⟨?_,?_⟩
  .simp only[ec,ai R2];split
   .rename_i u hu;have:=(vP AN hu).2 (by omega);omega
   .rfl
  grind [ec,Bw]
 refine⟨F1,ec H nb bs cons (find aZ),uV,Dx,ME,xf,Bx,s5,FV,p1,λhU1 hU2 hU3=>?_⟩;rw[p2,<-FU];have SX:=Kt (H':=ec H nb bs cons (find aZ)) uV hO s5 nb;rw[<-FU]at SX
 have part:∀o s t,find (cons++del ns objs0) o=aa (s,t)->find cons o=aa (s,t)\/find (del ns objs0) o=aa (s,t):=by
  intro o s t ho;rw[ir]at ho
  cases hm:find cons o with
  |some y=>grind
  |none=>grind
 have yY:∀o s t,find (del ns objs0) o=aa (s,t)->o∉gP bs/\find aZ o=aa (s,t)/\∃v,H.val o=aa v/\(ec H nb bs cons (find aZ)).val o=aa v/\v.oneCell'=af/\(ec H nb bs cons (find aZ)).con s=aa t.base/\(ec H nb bs cons (find aZ)).sub s=H.sub s/\iy (ec H nb bs cons (find aZ)) F1 w (H.sub s) v t:=by
  intro o s t ho;obtain⟨q1,t',q2,q3⟩:=xZ R5 ho;have ho0:=(iu.1 ho).2;obtain⟨v0,PU,Ec⟩:=Nr.obj _ _ _ ho0;obtain⟨v1,uP,oQ⟩:=uV.obj _ _ _ q2;have e1:=hk.gm.val _ _ PU;rw[uP]at e1;obtain rfl:=agx e1;have e2:=hk.gm.con _ _ Ec.con;rw[oQ.con]at e2;have ht:=Ku (agx e2) q3;subst ht;refine⟨q1,q2,v1,uP,Bx.val _ _ PU,oQ.one,Bx.con _ _ Ec.con,(Bx.sub _ _ Ec.con).trans (hk.gm.sub _ _ Ec.con).symm,?_⟩
  cases t' with
  |fdeep T d l=>exact oQ.ok
  |deep T d l hh=>
   obtain⟨lh0,_,_,e0,r0,_⟩:=Ec.ok
   refine G2.mono (show G2 F1 w T d.low _ v1 l (H.sub s)from oQ.ok) (Step.refl F1 w) (λ_ _=>rfl) λi x' hi A hA hr=>?_
   cases hh with
   |none=>exact hr
   |some h=>
    refine⟨hr.1,λhh=>?_⟩;obtain⟨T',e,q,g1,g2,g3⟩:=hr.2 hh;obtain⟨_,_,q0,_,_,k3⟩:=(r0 i (by omega) hi).2 hh;have e3:=hk.gm.val _ _ k3;rw[g3]at e3;exact⟨T',e,q,g1,g2,by rw[agx e3];exact Bx.val _ _ k3⟩
  |box T tr=>
   obtain⟨b,es,e,g1,g2⟩:=oQ.ok;obtain⟨b',lP,e',Sz,g2'⟩:=Ec.ok;exact⟨b,es,e,g1,Holds.back hk.gm Bx g2' g2⟩
  |own T r l=>exact oQ.ok
  |um T r l=>exact oQ.ok
  |fmap T K agg V l=>exact oQ.ok
  |smap T K agg V l it=>
   obtain⟨b,es,clock,l',e,g0,g1,g2,g3,g4,g5⟩:=oQ.ok;obtain⟨_,_,_,_,_,_,_,_,_,_,r5⟩:=Ec.ok;refine⟨b,es,clock,l',e,g0,g1,g2,g3.gm,g4,g5.gm λn' x u e hu=>?_⟩;subst e;obtain⟨_,_,_,_,_,_,Vf,_⟩:=r5;have e3:=hk.gm.val _ _ Vf;rw[hu]at e3;rw[agx e3];exact Bx.val _ _ Vf
  |map T K agg V l=>
   obtain⟨b,es,clock,e,g1,g2,g3⟩:=oQ.ok;exact⟨b,es,clock,e,g1,g2,g3.gm⟩
 have SY:∀o s t,find cons o=aa (s,t)->∃v,(ec H nb bs cons (find aZ)).val o=aa v/\v.oneCell'=af/\(ec H nb bs cons (find aZ)).con s=aa t.base/\iy (ec H nb bs cons (find aZ)) F1 w ((ec H nb bs cons (find aZ)).sub s) v t/\
  ∀k,fp ((ec H nb bs cons (find aZ)).sub s) v t k->∃o' s0 t0,find bs o=aa (aa o')/\find aZ o'=aa (s0,t0)/\H.val o'=aa v/\fp (H.sub s0) v t0 k:=by
  intro o s t ho;obtain⟨a1,a2,a3,a4,u,v,b1,b2,b3,b4,b5,b6⟩:=SX o s t ho
  have iA:(ec H nb bs cons (find aZ)).sub s=vO H (find aZ) (find bs o):=by
   simp only[ec];rw[ai (by omega),a4]
  rw[iA];refine⟨v,s5 o u b1 v b2,b3,?_,b5,λk hk=>?_⟩
  .grind [ec]
  .grind
 refine⟨λo s t ho=>?_,λo o' s s' t t' v v' du ho lI hv ey k hk lf=>?_,λm hm _=>FV m hm,uV.lt,hU1,uV.gl⟩
 .rcases part o s t ho with h1|h1
  .obtain⟨v,a1,a2,a3,a4,a5⟩:=SY o s t h1
   refine⟨v,a1,a2,a3,a4,λk hk hF=>?_,λk hk=>?_,λk hk=>?_⟩<;>obtain⟨o',s0,t0,b1,b2,b3,b4⟩:=a5 k hk<;>obtain⟨v',ey,cG⟩:=uV.obj _ _ _ b2
   all_goals
    rw[b3]at ey;obtain rfl:=agx ey
   .exact cG.no k b4 hF
   .exact cG.lt k b4
   grind [jJ]
  .obtain⟨q1,q2,v,a1,a2,a3,a4,a6,a5⟩:=yY o s t h1;obtain⟨v',ey,cG⟩:=uV.obj _ _ _ q2;rw[a1]at ey;obtain rfl:=agx ey;exact⟨v,a2,a3,a4,by rw[a6];exact a5,by rw[a6];exact cG.no,by rw[a6];exact cG.lt,(by grind)⟩
 .rcases part o s t ho with h1|h1<;>rcases part o' s' t' lI with h2|h2
  .obtain⟨u,a1,_,_,_,a5⟩:=SY o s t h1;obtain⟨u',c1,_,_,_,c5⟩:=SY o' s' t' h2;rw[hv]at a1;rw[ey]at c1;obtain rfl:=agx a1;obtain rfl:=agx c1;obtain⟨p,s0,t0,d1,d2,d3,d4⟩:=a5 k hk;obtain⟨p',s0',t0',e1,e2,e3,e4⟩:=c5 k lf;refine uV.apart p p' _ _ _ _ _ _ (λe=>du ?_) d2 e2 d3 e3 k d4 e4;subst e;exact sZ xD d1 e1
  .obtain⟨u,a1,_,_,_,a5⟩:=SY o s t h1;obtain⟨q1,q2,u',c1,c2,_,_,c6,_⟩:=yY o' s' t' h2;rw[c6]at lf;rw[hv]at a1;rw[ey]at c2;obtain rfl:=agx a1;obtain rfl:=agx c2;obtain⟨p,s0,t0,d1,d2,d3,d4⟩:=a5 k hk;exact uV.apart p o' _ _ _ _ _ _ (λe=>q1 (e▸jJ d1)) d2 q2 d3 c1 k d4 lf
  .obtain⟨u,a1,_,_,_,a5⟩:=SY o' s' t' h2;obtain⟨q1,q2,u',c1,c2,_,_,c6,_⟩:=yY o s t h1;rw[c6]at hk;rw[ey]at a1;rw[hv]at c2;obtain rfl:=agx a1;obtain rfl:=agx c2;obtain⟨p,s0,t0,d1,d2,d3,d4⟩:=a5 k lf;exact uV.apart o p _ _ _ _ _ _ (λe=>q1 (e▸jJ d1)) q2 d2 c1 d3 k hk d4
  .obtain⟨q1,q2,u,c1,c2,_,_,c6,_⟩:=yY o s t h1;obtain⟨q1',q2',u',Vz,SZ,_,_,c6',_⟩:=yY o' s' t' h2;rw[c6]at hk;rw[c6']at lf;rw[hv]at c2;rw[ey]at SZ;obtain rfl:=agx c2;obtain rfl:=agx SZ;exact uV.apart o o' _ _ _ _ _ _ du q2 q2' c1 Vz k hk lf
end
end Go.Proofs.YtfeahmiobbjklaaGreatDoor
end
namespace Go.Proofs.YtfeahmiobbjklaaGreatDoor
open Go Go.RowKit
set_option maxRecDepth 100000
set_option linter.unusedSimpArgs false
set_option linter.unusedVariables false
set_option linter.defProp false
section
structure oH where
 inn:JS
 out:JS
 fn:cW inn.rows->Option (cW out.rows)
def xg:List Value->Value
 |[v]=>v
 |vs=> .tuple vs.toArray
structure gD(P:Program)(f:FuncId)(sg:oH):Prop where
 fn:∃fn,P.funcs[f]? =aa fn/\(fn.name== "runtime.NumGoroutine")=ag/\fn.body.isNone=ag
 ok:∀x y,sg.fn x=aa y->∀(args:List Value)(w:World)(H:aI)(F G:Nat->Prop),args.length=sg.inn.aF.length->
  (∀t d,find (cU sg.inn.aF (dc _ x)).1 t=aa d->aC H F w d (args.getD t undef))->
  aJ (λk=>w.heap.size<=k\/G k) H F w (find (gO 0 sg.inn.objs (cU sg.inn.aF (dc _ x)).2)) sg.inn.nxt->iz H sg.inn.nxt->(∀k,G k->¬F k)->
  Calls P f args.toArray w λe w'=>∃vs,e= .returned (xg vs)/\vs.length=sg.out.aF.length/\∃H' F',Ext G w w'/\H.le H'/\(∀b,F b->F' b)/\(∀b,F' b->F b\/w.heap.size<=b\/G b)/\
   (∀t d,find (cU sg.out.aF (dc _ y)).1 t=aa d->aC H' F' w' d (vs.getD t undef))/\
   aJ (λk=>w.heap.size<=k\/G k) H' F' w' (find (gO sg.inn.nxt sg.out.objs (cU sg.out.aF (dc _ y)).2)) sg.out.nxt/\iz H' sg.out.nxt
def Sh.qR(φ:Nat->Nat):Sh->Sh
 | .leaf r=> .leaf r
 | .own j=> .own (φ j)
 | .nil=> .nil
 | .pair a b=> .pair (a.qR φ) (b.qR φ)
 | .junk n=> .junk n
def SS.qR(φ:Nat->Nat):SS->SS
 | .val agg t=> .val agg (t.qR φ)
 | .ptr j p off=> .ptr (φ j) p off
 | .at r=> .at r
 | .undef=> .undef
 | .fn f js=> .fn f (js.map λc=>(φ c.1,c.2))
 | .ifc T s=> .ifc T (s.qR φ)
def OS.qR(φ:Nat->Nat):OS->OS
 | .box T t=> .box T (t.qR φ)
 | .own T r=> .own T r
 | .map T K agg V=> .map T K agg V
 | .deep T d=> .deep T d
 | .smap T K agg V it=> .smap T K agg V (it.map φ)
def rP(φ:Nat->Nat):List (Nat×SS)->List (Nat×SS)
 |[]=>[]
 |(t,s)::l=>(t,s.qR φ)::rP φ l
def By(φ:Nat->Nat):List (Nat×OS)->List (Nat×OS)
 |[]=>[]
 |(j,s)::l=>(φ j,s.qR φ)::By φ l
def Row.Bz:Row->Bool
 | .slice _=>ag
 | .map .. =>ag
 | .pair a b=>a.Bz&&b.Bz
 |_=>af
def DR.jh(p:Row->Bool):DR->Bool
 | .leaf r=>p r
 | .sl _ d=>d.jh p
 | .pair a b=>a.jh p&&b.jh p
def Sh.jh(p:Row->Bool):Sh->Bool
 | .leaf r=>p r
 | .pair a b=>a.jh p&&b.jh p
 |_=>af
def SS.jh(p:Row->Bool):SS->Bool
 | .val _ t=>t.jh p
 | .at r=>p (.slice r)
 | .ifc _ s=>s.jh p
 |_=>af
def OS.jh(p:Row->Bool):OS->Bool
 | .box _ t=>t.jh p
 | .own _ r=>p r
 | .map _ _ _ V=>p V
 | .deep _ d=>d.jh p
 | .smap _ _ _ V _=>p V
def qS(p:Row->Bool):List (Nat×SS)->Bool
 |[]=>af
 |(_,s)::l=>s.jh p&&qS p l
def ya(p:Row->Bool):List (Nat×OS)->Bool
 |[]=>af
 |(_,s)::l=>s.jh p&&ya p l
section
variable {H H':aI} {F F':Nat->Prop} {w w':World} {φ:Nat->Nat} {p:Row->Bool}
def cD.Ed:{r:Row}->{cs:List Value}->{x:r.den}->r.Bz=af->cD F w r cs x->cD F' w' r cs x
 | .int _,_,_,_,h=>h
 | .bool,_,_,_,h=>h
 | .str,_,_,_,h=>h
 | .kU,_,_,_,h=>h
 | .nul _,_,_,_,h=>h
 | .map ..,_,_,hf,_=>by cases hf
 | .slice _,_,_,hf,_=>by cases hf
 | .pair a b,_,_,hf,h=>by
   obtain⟨c1,c2,e,h1,h2⟩:=h;obtain⟨f1,f2⟩:=cx hf;exact⟨c1,c2,e,cD.Ed f1 h1,cD.Ed f2 h2⟩
def Ren(H H':aI)(φ:Nat->Nat):Prop:=∀j v,H.val j=aa v->H'.val (φ j)=aa v
def tO(p:Row->Bool)(F F':Nat->Prop)(w:World):Prop:=∀r,p r=af->∀cs x,cD F w r cs x->cD F' w r cs x
def o7:(sh:Sh)->(vs:List ke)->(oR (sh.qR φ) vs).2=(oR sh vs).2
 | .leaf r,[]=>rfl
 | .leaf r,_::_=>rfl
 | .own j,vs=>rfl
 | .nil,vs=>rfl
 | .pair a b,vs=>by
   show(oR (b.qR φ) (oR (a.qR φ) vs).2).2=_
   rw[o7 a,o7 b];rfl
 | .junk _,_=>rfl
def yb(s:SS)(vs:List ke):(eC (s.qR φ) vs).2=(eC s vs).2:=by
 induction s with
 |ifc T s ih=>exact ih
 |val agg t=>exact o7 t vs
 |ptr j p off=>rfl
 |«at» r=>cases vs<;>rfl
 |undef=>rfl
 |fn f js=>rfl
theorem yc(s:OS)(vs:List ke):(de (s.qR φ) vs).2=(de s vs).2:=by
 cases s with
 |box T t=>exact o7 t vs
 |own T r=>rfl
 |map T K agg V=>rfl
 |deep T d=>rfl
 |smap T K agg V it=>
  cases it with
  |none=>cases vs<;>rfl
  |some n=>match vs with
   |[]=>rfl
   |[_]=>rfl
   |_::_::_=>rfl
def BA:(l:List (Nat×SS))->(vs:List ke)->(cU (rP φ l) vs).2=(cU l vs).2
 |[],_=>rfl
 |(t,s)::l,vs=>by
  show(cU (rP φ l) (eC (s.qR φ) vs).2).2=(cU l (eC s vs).2).2
  rw[yb,BA l]
def rQ(hr:Ren H H' φ)(hm:tO p F F' w):{sh:Sh}->{vs:List ke}->{cs:List Value}->sh.jh p=af->Holds H F w (oR sh vs).1 cs->Holds H' F' w (oR (sh.qR φ) vs).1 cs
 | .leaf r,[],cs,_,h=>h
 | .leaf r,⟨s,x⟩::vs,cs,hp,h=>by
   have h':Holds H F w (bif s.beq r then Tree.leaf s x else .nil) cs:=h
   show Holds H' F' w (bif s.beq r then Tree.leaf s x else .nil) cs
   cases hb:s.beq r with
   |true=>
    rw[hb,cond_true]at h';obtain rfl:=Row.eq_of_beq hb;exact hm _ hp _ _ h'
   |false=>rw[hb]at h';exact h'
 | .own j,vs,cs,_,h=>by obtain⟨v,h1,h2⟩:=h;exact⟨v,hr j v h1,h2⟩
 | .nil,vs,cs,_,h=>h
 | .pair a b,vs,cs,hp,h=>by
   obtain⟨c1,c2,e,h1,h2⟩:=h;obtain⟨p1,p2⟩:=cx hp;refine⟨c1,c2,e,rQ hr hm p1 h1,?_⟩;rw[o7 a];exact rQ hr hm p2 h2
 | .junk _,vs,cs,_,h=>h
def kX.qR(hr:Ren H H' φ):{cs:List (Nat×List Bool×Nat)}->{vs:List Value}->kX H cs vs->kX H' (cs.map λc=>(φ c.1,c.2)) vs
 |[],_,h=>h
 |_::_,_,h=>by obtain⟨v,us,e,⟨b,h1,h2⟩,h3⟩:=h;exact⟨v,us,e,⟨b,hr _ _ h1,h2⟩,kX.qR hr h3⟩
theorem HA(hr:Ren H H' φ)(hm:tO p F F' w){s:SS}{vs:List ke}{v:Value}(hp:s.jh p=af)(h:aC H F w (eC s vs).1 v):aC H' F' w (eC (s.qR φ) vs).1 v:=by
 induction s generalizing v with
 |ifc T s ih=>
  obtain⟨u,e,h2⟩:=h;exact⟨u,e,ih hp h2⟩
 |val agg t=>
  obtain⟨cs,h1,h2⟩:=h;exact⟨cs,rQ hr hm hp h1,h2⟩
 |ptr j p off=>
  obtain⟨b,h1,h2⟩:=h;exact⟨b,hr _ _ h1,h2⟩
 |«at» r=>
  match vs,h with
  |[],h=>exact h
  |⟨s,x⟩::vs,h=>
   have h':aC H F w (bif s.beq r then aD.at s x else .dead) v:=h
   show aC H' F' w (bif s.beq r then aD.at s x else .dead) v
   cases hb:s.beq r with
   |false=>trivial
   |true=>
    rw[hb,cond_true]at h';obtain rfl:=Row.eq_of_beq hb;obtain⟨b,off,rfl,hF,es,h1,h2,h3⟩:=h'
    have gN:cD F w (.slice s) [.slice (aa ⟨b,off,ae⟩) 1 1] [x]:=⟨aa ⟨b,off,ae⟩,1,rfl,agB _,by unfold maxLen;omega,λi hi=>by
     have e:i=0:=by simp at hi;omega
     subst e
     grind⟩
    obtain⟨A,cap,e1,_,_,ug⟩:=hm (.slice s) hp _ _ gN;obtain⟨b',dN,lP,hA,g1,g2,g3,g4⟩:=ug 0 (by simp);simp only[aht,ahJ,and_true]at e1;obtain⟨e1,_,_⟩:=e1;rw[<-e1]at hA;simp only[agH,Addr.mk.injEq,and_true]at hA;obtain⟨rfl,rfl⟩:=hA;exact⟨b,off,rfl,g1,lP,g2,(by grind),g4⟩
 |undef=>exact h
 |fn f js=>
  obtain⟨us,h1,h2⟩:=h;exact⟨us,h1,h2.qR hr⟩
def fO.oI{K:Row}{agg:Bool}{V:Row}(hm:∀cs x,cD F w V cs x->cD F' w' V cs x):{es:List MapEntry}->{l:List (K.den×V.den)}->fO H F w K agg V es l->fO H' F' w' K agg V es l
 |[],_,h=>h
 |_::_,_,h=>by
  obtain⟨k,x,l',e,h1,⟨cs,h2,G3⟩,h3⟩:=h;exact⟨k,x,l',e,h1,⟨cs,hm _ _ h2,G3⟩,fO.oI hm h3⟩
def cD.vR(hm:tO p F F' w):{d:DR}->{cs:List Value}->{x:d.low.den}->d.jh p=af->cD F w d.low cs x->cD F' w d.low cs x
 | .leaf r,_,_,hp,h=>hm r hp _ _ h
 | .sl _ _,_,_,_,h=>h
 | .pair a b,_,_,hp,h=>by
   obtain⟨p1,p2⟩:=cx hp;obtain⟨c1,c2,e,h1,h2⟩:=h;exact⟨c1,c2,e,cD.vR hm p1 h1,cD.vR hm p2 h2⟩
def lU.oI(hm:tO p F F' w){d:DR}(hp:d.jh p=af){T:TypeId}{v:Value}{l:List d.low.den}(h:lU F w T d.low v l):lU F' w T d.low v l:=by
 obtain⟨xs,h1,h2⟩:=h;exact⟨xs,h1,λi hi=>cD.vR hm hp (h2 i hi)⟩
def kc.oI(hm:tO p F F' w):{d:DR}->{x':d.low.den}->{x:d.row.den}->{S:Nat->Prop}->d.jh p=af->kc F w d x' x S->kc F' w d x' x S
 | .leaf _,_,_,_,_,h=>h
 | .sl _ d,_,_,_,hp,h=>by
   obtain⟨lh,Ss,h1,h2,h3,h4⟩:=h;exact⟨lh,Ss,h1.oI hm (show d.jh p=af from hp),h2,λi a b=>kc.oI hm (show d.jh p=af from hp) (h3 i a b),h4⟩
 | .pair a b,_,_,_,hp,h=>by
   obtain⟨p1,p2⟩:=cx hp;obtain⟨A,B,h1,h2,h3⟩:=h;exact⟨A,B,kc.oI hm p1 h1,kc.oI hm p2 h2,h3⟩
def Ee(T:TypeId)(d:DR):(vs:List ke)->∃l,(de (.deep T d) vs).1= .deep T d l ae
 |[]=>⟨[],rfl⟩
 |⟨.slice s,l⟩::vs=>by
  unfold de;simp only
  split<;>exact⟨_,rfl⟩
 |⟨.int _,_⟩::_|⟨.bool,_⟩::_|⟨.str,_⟩::_|⟨.kU,_⟩::_|⟨.nul _,_⟩::_|⟨.pair _ _,_⟩::_|⟨.map ..,_⟩::_=>⟨[],rfl⟩
def HB(T:TypeId)(K:Row)(agg:Bool)(V:Row):(vs:List ke)->∃l,(de (.map T K agg V) vs).1= .map T K agg V l
 |[]=>⟨[],rfl⟩
 |⟨.slice (.pair K' V'),l⟩::vs=>by
  unfold de;simp only
  split<;>exact⟨_,rfl⟩
 |⟨.slice (.int _),_⟩::_|⟨.slice .bool,_⟩::_|⟨.slice .str,_⟩::_|⟨.slice (.slice _),_⟩::_|⟨.slice .kU,_⟩::_|⟨.slice (.nul _),_⟩::_|⟨.slice (.map ..),_⟩::_=>⟨[],rfl⟩
 |⟨.int _,_⟩::_|⟨.bool,_⟩::_|⟨.str,_⟩::_|⟨.kU,_⟩::_|⟨.nul _,_⟩::_|⟨.pair _ _,_⟩::_|⟨.map ..,_⟩::_=>⟨[],rfl⟩
def s6(hr:Ren H H' φ)(hm:tO p F F' w){s:OS}{vs:List ke}{S:Nat->Prop}{v:Value}(hp:s.jh p=af)(h:iy H F w S v (de s vs).1):
 iy H' F' w S v (de (s.qR φ) vs).1/\(de (s.qR φ) vs).1.base=(de (s.qR φ) vs).1/\(∀k,fp S v (de (s.qR φ) vs).1 k->fp S v (de s vs).1 k):=by
 have own:∀(T:TypeId)(q:Row)(l:List q.den),p q=af->iy H F w S v (.own T q l)->iy H' F' w S v (.own T q l):=λT q l hq ⟨xs,hx,h3⟩=>⟨xs,hx,λi hi=>hm q hq _ _ (h3 i hi)⟩
 cases s with
 |box T t=>
  obtain⟨b,es,e,h1,h2⟩:=h;exact⟨⟨b,es,e,h1,rQ hr hm hp h2⟩,rfl,λk hk=>hk⟩
 |own T r=>
  match vs,h with
  |[],h=>exact⟨own T r [] hp h,rfl,λ_ h=>h⟩
  |⟨.slice s,l⟩::vs,h=>
   have h':iy H F w S v (bif s.beq r then Th.own T s l else .own T r []):=h
   show iy H' F' w S v (bif s.beq r then Th.own T s l else .own T r [])/\Th.base (bif s.beq r then Th.own T s l else .own T r [])=(bif s.beq r then Th.own T s l else .own T r [])/\∀k,fp S v (bif s.beq r then Th.own T s l else .own T r []) k->fp S v (bif s.beq r then Th.own T s l else .own T r []) k
   cases hb:s.beq r with
   |true=>
    rw[hb,cond_true]at h';obtain rfl:=Row.eq_of_beq hb;exact⟨own T s l hp h',rfl,λ_ h=>h⟩
   |false=>
    rw[hb,cond_false]at h';exact⟨own T r [] hp h',rfl,λ_ h=>h⟩
  |⟨.int _,_⟩::vs,h=>exact⟨own T r [] hp h,rfl,λ_ h=>h⟩
  |⟨.bool,_⟩::vs,h=>exact⟨own T r [] hp h,rfl,λ_ h=>h⟩
  |⟨.str,_⟩::vs,h=>exact⟨own T r [] hp h,rfl,λ_ h=>h⟩
  |⟨.kU,_⟩::vs,h=>exact⟨own T r [] hp h,rfl,λ_ h=>h⟩
  |⟨.nul _,_⟩::vs,h=>exact⟨own T r [] hp h,rfl,λ_ h=>h⟩
  |⟨.map ..,_⟩::vs,h=>exact⟨own T r [] hp h,rfl,λ_ h=>h⟩
  |⟨.pair _ _,_⟩::vs,h=>exact⟨own T r [] hp h,rfl,λ_ h=>h⟩
 |map T K agg V=>
  have gen:∀l:List (K.den×V.den),iy H F w S v (.map T K agg V l)->iy H' F' w S v (.map T K agg V l):=by
   rintro l ⟨b,es,clock,e,h1,h2,h3⟩
   exact⟨b,es,clock,e,h1,h2,fO.oI (λcs x hr=>hm V hp cs x hr) h3⟩
  obtain⟨l,hl⟩:=HB T K agg V vs
  show iy H' F' w S v (de (OS.map T K agg V) vs).1/\(de (OS.map T K agg V) vs).1.base=(de (OS.map T K agg V) vs).1/\∀k,fp S v (de (OS.map T K agg V) vs).1 k->fp S v (de (OS.map T K agg V) vs).1 k
  rw[hl]at h⊢;exact⟨gen l h,rfl,λ_ h=>h⟩
 |deep T d=>
  obtain⟨l,hl⟩:=Ee T d vs
  show iy H' F' w S v (de (OS.deep T d) vs).1/\(de (OS.deep T d) vs).1.base=(de (OS.deep T d) vs).1/\∀k,fp S v (de (OS.deep T d) vs).1 k->fp S v (de (OS.deep T d) vs).1 k
  rw[hl]at h⊢;refine⟨?_,rfl,λ_ h=>h⟩;have h':kc F w (.sl T d) v l S:=h;exact(kc.oI (d:= .sl T d) hm hp h':kc F' w (.sl T d) v l S)
 |smap T K agg V it=>
  have gen:∀(l:List (K.den×V.den)),iy H F w S v (.smap T K agg V l ae)->iy H' F' w S v (.smap T K agg V l ae):=by
   rintro l ⟨b,es,clock,l',e,h0,h1,h2,h3,h4,_⟩
   exact⟨b,es,clock,l',e,h0,h1,h2,fO.oI (λcs x hr=>hm V hp cs x hr) h3,h4,trivial⟩
  have WQ:∀(n:Nat)(l left:List (K.den×V.den)),iy H F w S v (.smap T K agg V l (aa (n,left,ae)))->iy H' F' w S v (.smap T K agg V l (aa (φ n,left,ae))):=by
   rintro n l left ⟨b,es,clock,l',e,h0,h1,h2,h3,h4,r,since,seen,last,i1,i2,i3,i4,i5,i6,i7,⟨l2,i8,i9⟩,_⟩
   exact⟨b,es,clock,l',e,h0,h1,h2,fO.oI (λcs x hr=>hm V hp cs x hr) h3,h4,r,since,seen,last,i1,i2,hr _ _ i3,i4,i5,i6,i7,⟨l2,fO.oI (λcs x hr=>hm V hp cs x hr) i8,i9⟩,λp hp=>by cases hp⟩
  cases it with
  |none=>
   match vs,h with
   |[],h=>exact⟨gen _ h,rfl,λ_ h=>h⟩
   |_::_,h=>exact⟨gen _ h,rfl,λ_ h=>h⟩
  |some n=>
   match vs,h with
   |[],h=>exact⟨gen _ h,rfl,λ_ h=>h⟩
   |[_],h=>exact⟨gen _ h,rfl,λ_ h=>h⟩
   |_::_::_,h=>exact⟨WQ _ _ _ h,rfl,λ_ h=>h⟩
theorem yd:{l:List (Nat×SS)}->{vs:List ke}->{t:Nat}->{d:aD}->qS p l=af->find (cU (rP φ l) vs).1 t=aa d->∃s us,d=(eC (s.qR φ) us).1/\find (cU l vs).1 t=aa (eC s us).1/\s.jh p=af
 |[],_,_,_,_,h=>by cases h
 |(t0,s)::l,vs,t,d,hp,h=>by
  obtain⟨p1,p2⟩:=cx hp;have h':find ((t0,(eC (s.qR φ) vs).1)::(cU (rP φ l) (eC (s.qR φ) vs).2).1) t=aa d:=h
  show∃s' us,d=_/\find ((t0,(eC s vs).1)::(cU l (eC s vs).2).1) t=_/\_
  rw[aY]at h';by_cases e:t0=t
  .grind [aY]
  .rw[ai e]at h';rw[yb]at h';obtain⟨s',us,a1,a2,a3⟩:=yd p2 h'
   grind [aY]
def Kw(hr:Ren H H' φ)(hm:tO p F F' w){ρ:Nat->Value}{l:List (Nat×SS)}{vs:List ke}(hp:qS p l=af)(h:∀t d,find (cU l vs).1 t=aa d->aC H F w d (ρ t)):∀t d,find (cU (rP φ l) vs).1 t=aa d->aC H' F' w d (ρ t):=by
 grind [yd,HA]
def BC{m m':Nat}:{l:List (Nat×OS)}->{vs:List ke}->{o s:Nat}->{t:Th}->find (gO m (By φ l) vs) o=aa (s,t)->∃j s' us sh,φ j=o/\t=(de (sh.qR φ) us).1/\find (gO m' l vs) j=aa (s',(de sh us).1)/\(ya p l=af->sh.jh p=af)/\rO (gO m (By φ l) vs) s=aa t/\m<=s/\s<m+l.length/\s'=s-m+m'
 |[],_,_,_,_,h=>by cases h
 |(j,sh)::l,vs,o,s,t,h=>by
  have h':find ((φ j,(m,(de (sh.qR φ) vs).1))::gO (m+1) (By φ l) (de (sh.qR φ) vs).2) o=aa (s,t):=h;rw[aY]at h';split at h'
  .rename_i e;simp only[agH,Prod.mk.injEq]at h';obtain⟨rfl,rfl⟩:=h';refine⟨j,m',vs,sh,e,rfl,?_,λhp=>(cx hp).1,?_,agB _,by simp,by omega⟩
   .show find ((j,(m',(de sh vs).1))::_) j=_
    rw[aY,aj rfl]
   .show(bif agC m m then _ else _)=_
    simp
  .rename_i e;rw[yc]at h';obtain⟨j',s',us,sh',a1,a2,a3,a4,a5,a6,a7,a8⟩:=BC (m':=m'+1) h';refine⟨j',s',us,sh',a1,a2,?_,λhp=>a4 (cx hp).2,?_,by omega,by grind,by omega⟩
   all_goals grind [gO,aY,rO,By,beq_true,yc]
def Ef:List (Nat×aD)->Option (List (Bool×Tree))
 |[]=>aa []
 |(_, .val a t)::l=>match Ef l with
  |some ds=>aa ((a,t)::ds)
  |none=>ae
 |_::_=>ae
def Kx:List (Nat×aD)->Option aD
 |[]=>aa .dead
 |[(_,d)]=>aa d
 |l=>match Ef l with
  |some ds=>aa (.tup ds)
  |none=>ae
def s7:Nat->List (Nat×SS)->Bool
 |_,[]=>af
 |k,(t,_)::l=>agC t k&&s7 (k+1) l
def FW:{l:List (Nat×SS)}->{vs:List ke}->{k t:Nat}->{d:aD}->s7 k l=af->find (cU l vs).1 t=aa d->k<=t
 |[],_,_,_,_,_,h=>by cases h
 |(t0,s)::l,vs,k,t,d,hi,h=>by
  obtain⟨h1,h2⟩:=cx hi;have h':find ((t0,(eC s vs).1)::(cU l (eC s vs).2).1) t=aa d:=h;rw[aY]at h';have:=beq_true h1;split at h'
  .omega
  .have:=FW h2 h';omega
def Ky{f:Nat->Value}:{l:List (Nat×SS)}->{vs:List ke}->{k:Nat}->{ds:List (Bool×Tree)}->s7 k l=af->(∀t d,find (cU l vs).1 t=aa d->aC H F w d (f t))->Ef (cU l vs).1=aa ds->rE H F w ds ((List.range' k l.length).map f)
 |[],_,_,_,_,_,h=>by cases h;rfl
 |(t0,s)::l,vs,k,ds,hi,mG,h=>by
  obtain⟨h1,h2⟩:=cx hi;obtain rfl:=beq_true h1;have h':Ef ((t0,(eC s vs).1)::(cU l (eC s vs).2).1)=aa ds:=h;have S0:∀t d,find ((t0,(eC s vs).1)::(cU l (eC s vs).2).1) t=aa d->aC H F w d (f t):=mG;have h0:=S0 t0 _ (by rw[aY,aj rfl]);generalize(eC s vs).1=d0 at*
  cases d0<;>unfold Ef at h'<;>try cases h'
  rename_i a t
  split at h'<;>cases h'
  rename_i Wf xc;refine⟨f t0,(List.range' (t0+1) l.length).map f,by simp[List.range'_succ],h0,Ky h2 (λt d hf=>S0 t d ?_) xc⟩;have:=FW h2 hf
  grind [aY]
def BD:{l:List (Nat×SS)}->{k:Nat}->s7 k (rP φ l)=s7 k l
 |[],_=>rfl
 |(t,s)::l,k=>by
  show(agC t k&&s7 (k+1) (rP φ l))=_
  rw[BD];rfl
def tP:{l:List (Nat×SS)}->(rP φ l).length=l.length
 |[]=>rfl
 |(t,s)::l=>by
  show(rP φ l).length+1=l.length+1
  rw[tP]
def Eg(us:List Value):(List.range' 0 us.length).map (λt=>us.getD t undef)=us:=by
 apply List.ext_getElem (by simp)
 grind
def Qb{l:List (Nat×SS)}{vs:List ke}{us:List Value}{D:aD}(hi:s7 0 l=af)(hl:us.length=l.length)(mG:∀t d,find (cU l vs).1 t=aa d->aC H F w d (us.getD t undef))(h:Kx (cU l vs).1=aa D):aC H F w D (xg us):=by
 have tup:∀ds,Ef (cU l vs).1=aa ds->us.length≠1->aC H F w (.tup ds) (xg us):=by
  intro ds xc du;have:=Ky hi mG xc;rw[<-hl,Eg]at this;refine⟨us,?_,this⟩
  match us,du with
  |[],_=>rfl
  |[_],h=>grind
  |_::_::_,_=>rfl
 match l,hl,h with
 |[],_,h=>obtain rfl:=agx h;trivial
 |[(t,s)],hl,h=>
  have h':Kx [(t,(eC s vs).1)]=aa D:=h;obtain rfl:=agx h';have ht:=beq_true (cx hi).1
  match us,hl with
  |[u],_=>
   have:=mG t (eC s vs).1 (by
    show find [(t,(eC s vs).1)] t=_
    rw[aY,aj rfl])
   rw[ht]at this;exact this
 |(t,s)::(t',s')::l,hl,h=>
  have h':(match Ef (cU ((t,s)::(t',s')::l) vs).1 with|some ds=>aa (aD.tup ds)|none=>ae)=aa D:=h
  grind
end
end
section
def iD:Nat->List aD->List (Nat×aD)
 |_,[]=>[]
 |k,d::ds=>(k,d)::iD (k+1) ds
def OZ(n:Nat)(bs:Bs)(aZ:List (Nat×(Nat×Th)))(m:Nat)(j:Nat):Nat:=
 bif ag4 j m then(match find bs j with
  |some (aa o)=>(match find aZ o with
   |some _=>o
   |none=>n+j)
  |_=>n+j)else n+j
def oJ(aZ:List (Nat×(Nat×Th))):List Nat->List (Nat×(Nat×Th))
 |[]=>[]
 |o::os=>match find aZ o with
  |some (s,t)=>bif fe t then(o,(s,t))::oJ aZ os else oJ aZ os
  |none=>oJ aZ os
def always(_:Row):Bool:=af
def FX(sg:oH):Bool:=qS Row.Bz sg.out.aF&&ya Row.Bz sg.out.objs
def s9{R:Type}(sg:oH)(n:Nat)(bs:Bs)(aZ:List (Nat×(Nat×Th)))(nd:List Nat)(y:cW sg.out.rows)(k:dL->Option R):Option R:=
 match Kx (cU (rP (OZ n bs aZ sg.inn.nxt) sg.out.aF) (dc _ y)).1 with
 |some D=>bif FX sg then k {dst:=D,eat:=gP bs,make:=gO n (By (OZ n bs aZ sg.inn.nxt) sg.out.objs) (cU (rP (OZ n bs aZ sg.inn.nxt) sg.out.aF) (dc _ y)).2}
   else k {dst:=D,eat:=gP bs++nd,make:=gO n (By (OZ n bs aZ sg.inn.nxt) sg.out.objs) (cU (rP (OZ n bs aZ sg.inn.nxt) sg.out.aF) (dc _ y)).2++oJ aZ nd}
 |none=>ae
def og{R:Type}(objs:List (Nat×(Nat×Th)))(n:Nat)(f:FuncId)(ds:List aD)(k:dL->Option R):List (Nat×oH)->Option R
 |[]=>ae
 |(g,sg)::tab=>bif agC g f then(match xY 0 [] sg.inn (iD 0 ds) objs with
    |some (x,bs,aZ)=>bif agC ds.length sg.inn.aF.length&&s7 0 sg.out.aF&&Nat.ble sg.out.nxt 16&&Nat.ble sg.out.objs.length 16&&(qS always sg.out.aF)then
      (sg.fn x).bind λy=>s9 sg n bs aZ (xX 0 sg.inn (iD 0 ds) objs) y k else ae
    |none=>og objs n f ds k tab)else og objs n f ds k tab
def S3(c:Nat×List Bool×Nat):aD:= .ptr c.1 c.2.1 c.2.2
def vS{H:aI}{F:Nat->Prop}{w:World}:{cs:List (Nat×List Bool×Nat)}->{vs:List Value}->kX H cs vs->fx H F w (cs.map S3) vs
 |[],_,h=>h
 |_::_,_,h=>by obtain⟨v,us,e,h1,h3⟩:=h;exact⟨v,us,e,h1,vS h3⟩
def rR{H:aI}{F:Nat->Prop}{w:World}:{ds es:List aD}->{vs us:List Value}->fx H F w ds vs->fx H F w es us->fx H F w (ds++es) (vs++us)
 |[],_,vs,_,h,h'=>by rw[show vs=[]from h];exact h'
 |_::_,_,_,_,h,h'=>by obtain⟨v,us,rfl,h1,h2⟩:=h;exact⟨v,_,rfl,h1,rR h2 h'⟩
def FY(rd:Operand->Option aD)(x:Operand):Option (FuncId×List (Nat×List Bool×Nat)):=
 match rd x with
 |some (.fn f caps)=>aa (f,caps)
 |_=>ae
def ye{R:Type}(tab:List (Nat×oH))(rd:Operand->Option aD)(objs:List (Nat×(Nat×Th)))(n:Nat)(x:Operand)(args:List Operand)(k:dL->Option R):Option R:=
 match FY rd x with
 |some (f,caps)=>match rH rd args with
  |some ds=>og objs n f (ds++caps.map S3) k tab
  |none=>ae
 |none=>ae
section
variable {P:Program} {ρ:Nat->Value} {w w':World} {H H':aI} {F F':Nat->Prop} {U:Nat->Prop} {n:Nat} {R:Type}
variable {ty:TypeId} {pos:String} {aft:Array Edge} {dst:Option Nat}
def o8:{ds:List aD}->{vs:List Value}->{k:Nat}->fx H F w ds vs->∀t d,find (iD k ds) t=aa d->k<=t/\aC H F w d (vs.getD (t-k) undef)
 |[],_,_,_,_,_,h=>by cases h
 |d0::ds,vs,k,h,t,d,hf=>by
  obtain⟨v,us,rfl,h1,h2⟩:=h;have rA:find ((k,d0)::iD (k+1) ds) t=aa d:=hf;rw[aY]at rA;split at rA
  .grind
  .obtain⟨h3,h4⟩:=o8 h2 t d rA
   grind
theorem ml{aZ:List (Nat×(Nat×Th))}:{nd:List Nat}->{o s:Nat}->{t:Th}->find (oJ aZ nd) o=aa (s,t)->o∈nd/\find aZ o=aa (s,t)/\fe t=af
 |[],_,_,_,h=>by cases h
 |o0::nd,o,s,t,h=>by
  unfold oJ at h;split at h
  .rename_i s0 t0 h0
   cases hb:fe t0 with
   |true=>
    rw[hb,cond_true,aY]at h;split at h
    .grind
    .obtain⟨a,b⟩:=ml h
     grind
   |false=>
    rw[hb,cond_false]at h;obtain⟨a,b⟩:=ml h
    grind
  .obtain⟨a,b⟩:=ml h
   grind
def rS:{l:List (Nat×OS)}->ya always l=af
 |[]=>rfl
 |(t,s)::l=>by
  have ht:∀sh:Sh,sh.jh always=af:=by
   intro sh
   induction sh with
   |leaf r=>rfl
   |own j=>rfl
   |nil=>rfl
   |junk n=>rfl
   |pair a b iha ihb=>show(a.jh always&&b.jh always)=af;grind
  have:s.jh always=af:=by
   cases s with
   |box T t=>exact ht t
   |own T r=>rfl
   |map T K agg V=>rfl
   |deep T d=>
    have hd:∀d:DR,d.jh always=af:=by
     intro d
     induction d with
     |leaf r=>rfl
     |sl T d ih=>exact ih
     |pair a b iha ihb=>show(a.jh always&&b.jh always)=af;grind
    exact hd d
   |smap T K agg V it=>rfl
  show(s.jh always&&ya always l)=af
  rw[this,rS];rfl
def lR(H H':aI)(n:Nat)(cons:List (Nat×(Nat×Th)))(m0:Nat):aI where
 val m:=if n<=m/\m<n+16 then H'.val (m-n)else H.val m
 con m:=if n<=m/\m<n+16 then rO cons m else H.con m
 sub m:=if n<=m/\m<n+16 then H'.sub (m-n+m0)else H.sub m
def HC{dd:Option Nat}{f:FuncId}{fn:Func}{g:Operand}{args:Array Operand}{vs us:List Value}{tQ:Array TypeId}(hf:P.funcs[f]? =aa fn)(hn:(fn.name== "runtime.NumGoroutine")=ag)(hb:fn.body.isNone=ag)(Wl:args.toList.map (ev ρ)=vs)(hg:ev ρ g= .func (.func f) #[] us.toArray):
 (execOp (ev ρ) ⟨dd, .call {callee:= .value g,args:=args,argTypes:=tQ},ty,pos,aft,ae⟩).run P w= .ok (.enter f (vs++us).toArray) w:=by
 subst Wl
 have GY:¬fn.name= "runtime.NumGoroutine" :=by simpa using hn
 have sC:¬fn.body=ae:=by
  intro e;rw[e]at hb;cases hb
 have e:(Array.map (ev ρ) args++us.toArray)=(args.toList.map (ev ρ)++us).toArray:=by simp
 simp[execOp,resolve,hg,Deferred.ofValue,invoke,callFunc,hf,GY,sC,go_sem,e]
def HD{sg:oH}{f:FuncId}(xh:gD P f sg){objs:List (Nat×(Nat×Th))}{op:Op}{k:dL->Option R}{q:R}{ds:List aD}{vs:List Value}{x:cW sg.inn.rows}{bs:Bs}{aZ:List (Nat×(Nat×Th))}
 (yf:fx H F w ds vs)(bz:∀fn,P.funcs[f]? =aa fn->(fn.name== "runtime.NumGoroutine")=ag->fn.body.isNone=ag->(execOp (ev ρ) ⟨dst,op,ty,pos,aft,ae⟩).run P w= .ok (.enter f vs.toArray) w)(hs:aJ U H F w (find objs) n)
 (uW:xY 0 [] sg.inn (iD 0 ds) objs=aa (x,bs,aZ))
 (h':(bif agC ds.length sg.inn.aF.length&&s7 0 sg.out.aF&&Nat.ble sg.out.nxt 16&&Nat.ble sg.out.objs.length 16&&(qS always sg.out.aF)then
   (sg.fn x).bind λy=>s9 sg n bs aZ (xX 0 sg.inn (iD 0 ds) objs) y k else ae)=aa q):
 ∃e,k e=aa q/\cr P U H F w ρ (find objs) n ⟨dst,op,ty,pos,aft,ae⟩ e:=by
 obtain⟨hc,h'⟩:=aQ h';obtain⟨hc,hc5⟩:=cx hc;obtain⟨hc,R5⟩:=cx hc;obtain⟨hc,Ka⟩:=cx hc;obtain⟨xD,AN⟩:=cx hc;have xD:=beq_true xD
 have Ka:sg.out.nxt<=16:=by simpa using Ka
 have R5:sg.out.objs.length<=16:=by simpa using R5
 obtain⟨y,hy,h⟩:=bind_some h';clear h';obtain⟨⟨fn,WD,hf2,hf3⟩,mG⟩:=xh;have aag:=kh yf
 let H0:aI:=⟨λ_=>ae,λ_=>ae,λ_ _=>False⟩
 have Nr:aJ U H0 F w (find (del [] [])) 0:=⟨λ_ _ _ h=>(by cases h),λ_ _ _ _ _ _ _ _ _ h=>(by cases h),λ_ _ _=>⟨rfl,rfl⟩,hs.lt,hs.new,hs.gl⟩
 have hk0:cu H0 F w H F w:=⟨⟨λ_ _ h=>(by cases h),λ_ _ h=>(by cases h),λ_ _ h=>(by cases h)⟩,Step.refl F w⟩
 have gN:∀t d,find (iD 0 ds) t=aa d->aC H F w d (vs.getD t undef):=λt d hd=>by simpa using(o8 yf t d hd).2
 obtain⟨F1,H1,uV,Dx,ME,xf,Bx,s5,FV,Qc,BE⟩:=vQ (U':=λk=>w.heap.size<=k\/∃o∈gP bs,∃s t v,find aZ o=aa (s,t)/\H.val o=aa v/\fp (H.sub s) v t k) (ns:=[]) (objs0:=[]) (ρ:=λt=>vs.getD t undef) uW Nr (λ_ _=>⟨rfl,rfl⟩) hk0 hs gN;have BE:=BE (λb hb=> .inl hb) (by grind) (λ_ _ _ _ _ h=>by cases h);generalize hG:(λk=>∃o∈gP bs,∃s t v,find aZ o=aa (s,t)/\H.val o=aa v/\fp (H.sub s) v t k)=G
 have S4:∀k,G k->¬F1 k:=by
  rw[<-hG]
  rintro k ⟨o,_,s,t,v,h1,h2,h3⟩
  obtain⟨v',ey,cG⟩:=uV.obj _ _ _ h1;rw[h2]at ey;obtain rfl:=agx ey;exact cG.no k h3
 have WR:∀k,G k->cn H (find objs) (gP bs) k:=by
  rw[<-hG]
  rintro k ⟨o,ho,s,t,v,h1,h2,h3⟩
  rcases jW xf o s t h1 with h4|h4
  .exact⟨o,ho,s,t,v,h4,h2,h3⟩
  .exact(gI h4 h3).elim
 have S5:aJ (λk=>w.heap.size<=k\/G k) H1 F1 w (find (gO 0 sg.inn.objs (cU sg.inn.aF (dc sg.inn.rows x)).2)) sg.inn.nxt:=by
  rw[show del [] ([]:List (Nat×(Nat×Th)))=[]from rfl,List.append_nil]at BE;rw[<-hG];exact BE
 have S6:=mG x y hy vs w H1 F1 G (by omega) Qc S5 FV S4;generalize Hs:xX 0 sg.inn (iD 0 ds) objs=nd at h ME xf;generalize WS:OZ n bs aZ sg.inn.nxt=φ at h;unfold s9 at h;rw[WS]at h;split at h
 case h_2=>cases h
 rename_i D hD
 have vE:∀(e:dL),e.dst=D->(∀(w':World)(us:List Value)(H':aI)(F':Nat->Prop),us.length=sg.out.aF.length->Ext G w w'->H1.le H'->(∀b,F1 b->F' b)->(∀b,F' b->F1 b\/w.heap.size<=b\/G b)->
  (∀t d,find (cU sg.out.aF (dc sg.out.rows y)).1 t=aa d->aC H' F' w' d (us.getD t undef))->aJ (λk=>w.heap.size<=k\/G k) H' F' w' (find (gO sg.inn.nxt sg.out.objs (cU sg.out.aF (dc sg.out.rows y)).2)) sg.out.nxt->iz H' sg.out.nxt->lQ H F w (find objs) n e (xg us) w')->
  cr P U H F w ρ (find objs) n ⟨dst,op,ty,pos,aft,ae⟩ e:=by
  intro e he tR;have bz:=bz fn WD hf2 hf3;unfold cr b9;rw[bz];refine S6.mono (by grind)
 generalize FU:gO n (By φ sg.out.objs) (cU (rP φ sg.out.aF) (dc sg.out.rows y)).2=cons at h;have WT:=BA (φ:=φ) sg.out.aF (dc sg.out.rows y)
 have Qd:∀{H':aI},H1.le H'->iz H' sg.out.nxt->Ren H' (lR H H' n cons sg.inn.nxt) φ/\H.le (lR H H' n cons sg.inn.nxt)/\∀m,(m<n\/n+16<=m)->(H.val m=ae->(lR H H' n cons sg.inn.nxt).val m=ae)/\(H.con m=ae->(lR H H' n cons sg.inn.nxt).con m=ae):=by
  intro H' hle yY
  have Eh:∀j v,H'.val j=aa v->j<sg.out.nxt:=λj v hj=>by
   rcases Nat.lt_or_ge j sg.out.nxt with g|g
   .exact g
   .rw[(yY j g).1]at hj;cases hj
  have hold:∀o v,H.val o=aa v->¬(n<=o/\o<n+16):=λo v ho hc=>by
   rw[(hs.fresh o hc.1 hc.2).1]at ho;cases ho
  refine⟨λj v hj=>?_,⟨λo v ho=>?_,λs t gM=>?_,λs t gM=>?_⟩,λm hm=>?_⟩
  .rw[<-WS];have S7:=Eh j v hj
   have gen:(lR H H' n cons sg.inn.nxt).val (n+j)=aa v:=by
    simp only[lR];rw[aj (by omega),Nat.add_sub_cancel_left];exact hj
   unfold OZ
   cases hb:ag4 j sg.inn.nxt with
   |false=>simpa using gen
   |true=>
    rw[cond_true];split
    .rename_i o ho;split
     case h_2=>exact gen
     rename_i e he;obtain⟨u,hu,_⟩:=uV.obj o e.1 e.2 he;have h1:=hle.val _ _ (s5 j (aa o) ho u hu)
     grind [lR]
    .exact gen
  .grind [lR]
  .simp only[lR];rw[ai (λhc=>by rw[(hs.fresh s hc.1 hc.2).2]at gM;cases gM)];exact gM
  .simp only[lR];rw[ai (λhc=>by rw[(hs.fresh s hc.1 hc.2).2]at gM;cases gM)]
  .grind [lR]
 have made:∀{p:Row->Bool}{us:List Value}{w':World}{H':aI}{F' F2:Nat->Prop}{eat:List Nat},us.length=sg.out.aF.length->qS p sg.out.aF=af->ya p sg.out.objs=af->tO p F' F2 w'->Ext G w w'->H1.le H'->(∀b,F2 b->F' b)->(∀o,o∈gP bs->o∈eat)->
  (∀t d,find (cU sg.out.aF (dc sg.out.rows y)).1 t=aa d->aC H' F' w' d (us.getD t undef))->aJ (λk=>w.heap.size<=k\/G k) H' F' w' (find (gO sg.inn.nxt sg.out.objs (cU sg.out.aF (dc sg.out.rows y)).2)) sg.out.nxt->iz H' sg.out.nxt->
  aC (lR H H' n cons sg.inn.nxt) F2 w' D (xg us)/\Made (lR H H' n cons sg.inn.nxt) F2 w w' (cn H (find objs) eat) cons/\∀o,(find cons o).isSome->o∈eat\/n<=o:=by
  intro p us w' H' F' F2 eat Nt Vm M3 VA bO hle ME jI G9 Nu S8;obtain⟨hr,_,_⟩:=Qd hle S8
  have FZ:∀o s t,find cons o=aa (s,t)->∃j s' us sh,φ j=o/\t=(de (sh.qR φ) us).1/\find (gO sg.inn.nxt sg.out.objs (cU sg.out.aF (dc sg.out.rows y)).2) j=aa (s',(de sh us).1)/\sh.jh p=af/\rO cons s=aa t/\n<=s/\s<n+16/\(lR H H' n cons sg.inn.nxt).sub s=H'.sub s':=by
   intro o s t ho;rw[<-FU]at ho⊢;rw[WT]at ho⊢;obtain⟨j,s',WU,sh,a1,a2,a3,a4,a5,a6,a7,a8⟩:=BC (m':=sg.inn.nxt) ho
   have aH:s<n+16:=by omega
   refine⟨j,s',WU,sh,a1,a2,a3,a4 M3,a5,a6,aH,?_⟩;simp only[lR];rw[aj ⟨a6,aH⟩,a8]
  refine⟨?_,⟨λo s t ho=>?_,λo o' s s' t t' v v' du ho lI hv ey k hk lf=>?_⟩,λo ho=>?_⟩
  .exact Qb (by rw[BD];exact AN) (by rw[tP];exact Nt) (Kw hr VA Vm G9) hD
  .obtain⟨j,s',WU,sh,rfl,rfl,a3,a4,a5,a6,a7,a8⟩:=FZ o s t ho;rw[a8];obtain⟨v,hv,cG⟩:=Nu.obj _ _ _ a3;obtain⟨b1,b2,b3⟩:=s6 hr VA a4 cG.ok;refine⟨v,hr j v hv,cG.one,?_,b1,λk hk=>⟨λe=>cG.no k (b3 k hk) (ME k e),cG.lt k (b3 k hk),?_⟩⟩
   .grind [lR]
   .rcases cG.use k (b3 k hk)with h1|h1
    .exact .inl h1
    .obtain⟨o',lI,rest⟩:=WR k h1;exact .inr ⟨o',jI o' lI,rest⟩
  .obtain⟨j,s1,us1,sh,rfl,rfl,a3,a4,a5,a6,_,a8⟩:=FZ o s t ho;obtain⟨j',s1',ab3,sh',rfl,rfl,a3',a4',a5',a6',_,a8'⟩:=FZ o' s' t' lI;rw[a8]at hk;rw[a8']at lf;obtain⟨u,hu,cG⟩:=Nu.obj _ _ _ a3;obtain⟨u',FI,Bo⟩:=Nu.obj _ _ _ a3';have e1:=hr j u hu;rw[hv]at e1;obtain rfl:=agx e1;have e2:=hr j' u' FI;rw[ey]at e2;obtain rfl:=agx e2;exact Nu.apart j j' _ _ _ _ _ _ (λe=>du (by rw[e])) a3 a3' hu FI k ((s6 hr VA a4 cG.ok).2.2 k hk) ((s6 hr VA a4' Bo.ok).2.2 k lf)
  .obtain⟨e,he⟩:=ag5.1 ho;obtain⟨j,s',WU,sh,rfl,_⟩:=FZ o e.1 e.2 he;rw[<-WS];unfold OZ
   cases ag4 j sg.inn.nxt with
   |false=>grind
   |true=>
    grind [jJ]
 have S9:∀{w':World}{eat:List Nat},Ext G w w'->(∀o,o∈gP bs->o∈eat)->Ext (cn H (find objs) eat) w w':=λbO jI=>⟨bO.os,bO.tape,bO.output,bO.size,λk hk hn=>bO.block k hk λhG=>hn (by
  obtain⟨o,ho,rest⟩:=WR k hG
  exact⟨o,jI o ho,rest⟩)⟩
 cases Ta:FX sg with
 |true=>
  rw[Ta,cond_true]at h;obtain⟨p1,p2⟩:=cx Ta;refine⟨_,h,vE _ rfl λw' us H' F' Nt a1 a2 a3 a4 a5 a6 a7=>?_⟩;obtain⟨_,g2,g3⟩:=Qd a2 a7;obtain⟨m1,m2,m3⟩:=made (F2:=F) (eat:=gP bs) Nt p1 p2 (λr hr cs x hx=>cD.Ed hr hx) a1 a2 (λb hb=>a3 b (Dx b hb)) (λ_ h=>h) a5 a6 a7;exact⟨_,F,⟨g2,S9 a1 (λ_ h=>h),λ_ h=>h,λ_ h=> .inl h,λb hb=>agV (hs.lt b hb) a1.size⟩,g3,m1,m2,m3⟩
 |false=>
  rw[Ta,cond_false]at h;refine⟨_,h,vE _ rfl λw' us H' F' Nt a1 a2 a3 a4 a5 a6 a7=>?_⟩;obtain⟨_,g2,g3⟩:=Qd a2 a7;obtain⟨m1,m2,m3⟩:=made (F2:=F') (eat:=gP bs++nd) Nt hc5 rS (λr _ cs x hx=>hx) a1 a2 (λ_ h=>h) (λo h=>by simp[h]) a5 a6 a7
  have gM:Step F1 w F' w':=λb hb=>⟨a3 b hb,a1.block b (uV.lt b hb) λe=>S4 b e hb⟩
  have um:∀o s t,find (oJ aZ nd) o=aa (s,t)->o∈nd/\fe t=af/\∃v,H.val o=aa v/\v.oneCell'=af/\H.con s=aa t.base/\iy H F1 w (H.sub s) v t:=by
   intro o s t ho;obtain⟨b1,b2,b3⟩:=ml ho;obtain⟨v,hv,cG⟩:=uV.obj _ _ _ b2;exact⟨b1,b3,v,hv,cG.one,cG.con,cG.ok⟩
  have part:∀o s t,find (cons++oJ aZ nd) o=aa (s,t)->find cons o=aa (s,t)\/find (oJ aZ nd) o=aa (s,t):=by
   intro o s t ho;rw[ir]at ho
   cases hm:find cons o with
   |some e=>grind
   |none=>grind
  refine⟨_,F',⟨g2,S9 a1 (λo h=>by simp[h]),λb hb=>a3 b (Dx b hb),λb hb=>?_,a6.lt⟩,g3,m1,⟨λo s t ho=>?_,λo o' s s' t t' v v' du ho lI hv ey k hk lf=>?_⟩,λo ho=>?_⟩
  .rcases a4 b hb with h1|h1|h1
   .rcases ME b h1 with h2|⟨o,ho,rest⟩
    .exact .inl h2
    .exact .inr (.inr ⟨o,by simp[ho],rest⟩)
   .grind
   .obtain⟨o,ho,rest⟩:=WR b h1;exact .inr (.inr ⟨o,by simp[ho],rest⟩)
  .rcases part o s t ho with h1|h1
   .exact m2.obj o s t h1
   .obtain⟨b1,b2,v,b3,b4,b5,b6⟩:=um o s t h1;refine⟨v,g2.val _ _ b3,b4,g2.con _ _ b5,by rw[g2.sub _ _ b5];exact b6.heap g2 gM (λk hk=>(gI b2 hk).elim),λk hk=>(gI b2 hk).elim⟩
  .rcases part o s t ho with h1|h1<;>rcases part o' s' t' lI with h2|h2
   .exact m2.apart o o' s s' t t' v v' du h1 h2 hv ey k hk lf
   .grind [gI]
   .exact gI (um o s t h1).2.1 hk
   .exact gI (um o s t h1).2.1 hk
  grind [ag5]
def nN{Tb:List (Nat×oH)}(xh:∀p∈Tb,gD P p.1 p.2){objs:List (Nat×(Nat×Th))}{f:FuncId}{op:Op}{k:dL->Option R}{q:R}{ds:List aD}{vs:List Value}
 (yf:fx H F w ds vs)(bz:∀fn,P.funcs[f]? =aa fn->(fn.name== "runtime.NumGoroutine")=ag->fn.body.isNone=ag->(execOp (ev ρ) ⟨dst,op,ty,pos,aft,ae⟩).run P w= .ok (.enter f vs.toArray) w)(hs:aJ U H F w (find objs) n):{tab:List (Nat×oH)}->(∀p∈tab,p∈Tb)->og objs n f ds k tab=aa q->
 ∃e,k e=aa q/\cr P U H F w ρ (find objs) n ⟨dst,op,ty,pos,aft,ae⟩ e
 |[],_,h=>by cases h
 |(f0,sg)::tab,cG,h=>by
  unfold og at h
  cases hb:agC f0 f with
  |false=>rw[hb,cond_false]at h;exact nN xh yf bz hs (λp hp=>cG p (by simp[hp])) h
  |true=>
   rw[hb,cond_true]at h;obtain rfl:=beq_true hb;split at h
   case h_2=>exact nN xh yf bz hs (λp hp=>cG p (by simp[hp])) h
   rename_i x bs aZ uW;exact HD (xh (f0,sg) (cG _ (by simp))) yf bz hs uW h
def BF{tab:List (Nat×oH)}(xh:∀p∈tab,gD P p.1 p.2){rd:Operand->Option aD}(gf:∀x d,rd x=aa d->aC H F w d (ev ρ x)){objs:List (Nat×(Nat×Th))}{g:Operand}{args:Array Operand}{tQ:Array TypeId}{k:dL->Option R}{q:R}
 (h:ye tab rd objs n g args.toList k=aa q)(hs:aJ U H F w (find objs) n):
 ∃e,k e=aa q/\cr P U H F w ρ (find objs) n ⟨dst, .call {callee:= .value g,args:=args,argTypes:=tQ},ty,pos,aft,ae⟩ e:=by
 unfold ye at h;split at h
 case h_2=>cases h
 rename_i f caps hc;split at h
 case h_2=>cases h
 rename_i ds xc;unfold FY at hc;split at hc
 case h_2=>cases hc
 rename_i f' aai hg;cases hc;obtain⟨us,h1,h2⟩:=gf _ _ hg;exact nN xh (rR (nE (w:=w) (H:=H) (F:=F) (ρ:=ρ) gf xc) (vS (F:=F) (w:=w) h2)) (λfn g1 g2 g3=>HC g1 g2 g3 rfl h1) hs (λ_ h=>h) h
end
end
section
section
variable {P:Program} {ρ:Nat->Value} {w w':World} {H H':aI} {F F':Nat->Prop} {U:Nat->Prop} {ob:Nat->Option (Nat×Th)} {n:Nat} {R:Type}
variable {op:Op} {ty:TypeId} {pos:String} {aft:Array Edge} {d:Nat} {dst:Option Nat}
def Jd.F5:Jd->Bool
 | .other=>ag
 |_=>af
def xF.F5{t:TypeId}{k:Jd}(h:xF P t k)(hk:k.F5=af):∃D,P.underlying t=aa D/\∀ms,D≠ .interface ms:=by
 cases k with
 |other=>cases hk
 |struct fs=>obtain⟨arr,h,_⟩:=h;grind
 |_=>exact⟨_,h,λ_ e=>by cases e⟩
def zu(T:be P)(t:TypeId):Bool:=match find T.und t with
 |some k=>k.F5
 |none=>ag
def yg(T:be P){t:TypeId}(h:zu T t=af):∃D,P.underlying t=aa D/\∀ms,D≠ .interface ms:=by
 unfold zu at h;split at h
 .rename_i k hk;exact(T.und_ok _ _ hk).F5 h
 .cases h
def HE(T:be P)(t:TypeId)(D:aD)(k:dL->Option R):Option R:=bif zu T t then k {dst:= .ifc t D}else ae
def Nv(T:be P){t:TypeId}{D:aD}{x:Operand}{k:dL->Option R}{q:R}(h:HE T t D k=aa q)(hs:aJ U H F w ob n)(hx:aC H F w D (ev ρ x)):
 ∃e,k e=aa q/\cr P U H F w ρ ob n ⟨aa d, .makeInterface t x,ty,pos,aft,ae⟩ e:=by
 unfold HE at h;obtain⟨h1,h2⟩:=aQ h;obtain⟨D0,hD,hn⟩:=yg T h1;refine⟨_,h2,bM hs (v:= .iface t (ev ρ x)) ?_ ⟨_,rfl,hx⟩⟩
 cases D0 with
 |interface ms=>grind
 |_=>simp[execOp,Instr.makeInterface,run_underlying hD,agI]
def p7(T:be P)(t:TypeId)(ok:Bool)(D:aD)(k:dL->Option R):Option R:=
 match D with
 | .ifc t' d=>bif agC t' t&&zu T t then(match ok,d with
   |true, .val agg tr=>k {dst:= .tup [(agg,tr),(ag, .leaf .bool af)]}
   |true,_=>ae
   |false,d=>k {dst:=d})else ae
 |_=>ae
def Ei(T:be P){xt t:TypeId}{ok:Bool}{D:aD}{x:Operand}{k:dL->Option R}{q:R}(h:p7 T t ok D k=aa q)(hs:aJ U H F w ob n)(hx:aC H F w D (ev ρ x)):
 ∃e,k e=aa q/\cr P U H F w ρ ob n ⟨aa d, .typeAssert x xt t ok,ty,pos,aft,ae⟩ e:=by
 unfold p7 at h;split at h
 case h_2=>cases h
 rename_i t' dd;obtain⟨h1,h2⟩:=aQ h;obtain⟨h1,h3⟩:=cx h1;obtain rfl:=beq_true h1;obtain⟨D0,hD,hn⟩:=yg T h3;obtain⟨u,hu,hd⟩:=hx
 have bz:(Instr.typeAssert (ev ρ x) xt t' ok).run P w= .ok (if ok then .tuple #[u, .bool af]else u) w:=by
  rw[hu]
  cases D0 with
  |interface ms=>grind
  |_=>simp[Instr.typeAssert,run_underlying hD,agI]
 split at h2
 .exact⟨_,h2,bM hs (v:= .tuple #[u, .bool af]) (by simp[execOp,bz,agI]) ⟨[u, .bool af],rfl,_,_,rfl,hd,_,_,rfl,aO.fG ..,rfl⟩⟩
 .cases h2
 .exact⟨_,h2,bM hs (v:=u) (by simp[execOp,bz,agI]) hd⟩
def F6:List (TypeId×(String×(FuncId×Bool)))->TypeId->String->Option (FuncId×Bool)
 |[],_,_=>ae
 |(t',(nm,p))::l,t,name=>bif agC t' t&&(nm==name)then aa p else F6 l t name
def BG{t:TypeId}{name:String}{f:FuncId}{pr:Bool}:{l:List (TypeId×(String×(FuncId×Bool)))}->F6 l t name=aa (f,pr)->(t,(name,(f,pr)))∈l
 |[],h=>by cases h
 |(t',(nm,p))::l,h=>by
  unfold F6 at h
  cases hb:agC t' t&&(nm==name)with
  |true=>
   simp_all
  |false=>
   rw[hb,cond_false]at h;exact List.mem_cons_of_mem _ (BG h)
def Ej{t:TypeId}{name:String}{f:FuncId}{pr:Bool}{v u:Value}{fuel:Nat}(h:qx P t name f pr)(hr:∀nm,(receiverAt t (.val v) pr (aa nm)).run P w= .ok u w):(method (fuel+1) t v name).run P w= .ok (f,u) w:=by
 unfold qx at h
 cases hi:P.info? t with
 |none=>grind
 |some ti=>
  rw[hi]at h;have h:(ti.methods.find? λm=>m.name==name).map (λm=>(m.path.toList.length,m.func))=aa (0,aa (f,pr)):=h
  cases hm:ti.methods.find? λm=>m.name==name with
  |none=>grind
  |some m=>
   rw[hm]at h;simp only[Option.map_some,agH,Prod.mk.injEq]at h
   have hp:m.path= #[]:=by
    have:=h.1;simpa using this
   simp[method,typeInfo,hi,hm,hp,follow,h.2,hr,agI,agU]
def HF{t e:TypeId}{nm:String}{v:Value}(hu:P.underlying t=aa (.pointer e)):(receiverAt t (.val v) af (aa nm)).run P w= .ok v w:=by
 simp[receiverAt,run_underlying hu,Place.get,agI,agU]
def HG{t e:TypeId}{nm:String}{a:Addr}{u:Value}(hu:P.underlying t=aa (.pointer e))(hl:(loadVar e a).run P w= .ok u w):(receiverAt t (.val (.pointer (aa a))) ag (aa nm)).run P w= .ok u w:=by
 have hw:Builtin.ssaWrapNilChk_ #[t] t #[.pointer (aa a),strVal "",strVal nm]=pure (.pointer (aa a)):=rfl;simp[receiverAt,run_underlying hu,Place.get,hw,asAddr,hl,agI,agU]
def vT{t:TypeId}{name:String}{f:FuncId}{fn:Func}{pr:Bool}{v u:Value}{x:Operand}{args:Array Operand}{tQ:Array TypeId}(h:qx P t name f pr)(hx:ev ρ x= .iface t v)(hr:∀nm,(receiverAt t (.val v) pr (aa nm)).run P w= .ok u w)
 (hf:P.funcs[f]? =aa fn)(hn:(fn.name== "runtime.NumGoroutine")=ag)(hb:fn.body.isNone=ag):
 (execOp (ev ρ) ⟨dst, .call {callee:= .invoke x name,args:=args,argTypes:=tQ},ty,pos,aft,ae⟩).run P w= .ok (.enter f (u::args.toList.map (ev ρ)).toArray) w:=by
 have GY:¬fn.name= "runtime.NumGoroutine" :=by simpa using hn
 have sC:¬fn.body=ae:=by
  intro e;rw[e]at hb;cases hb
 have hm:=Ej (fuel:=P.types.size+99) h hr;have hfu:P.types.size+100=P.types.size+99+1:=rfl
 have e1:(#[Value.iface t v]++Array.map (ev ρ) args).extract 1 (1+args.size)=Array.map (ev ρ) args:=by
  apply Array.ext';simp;exact List.take_of_length_le (by simp)
 have e0:(#[Value.iface t v]++Array.map (ev ρ) args)[0]? =aa (Value.iface t v):=by simp[Array.getElem?_append]
 have e2:(#[u]++Array.map (ev ρ) args)=(u::args.toList.map (ev ρ)).toArray:=by apply Array.ext';simp
 simp[execOp,resolve,hx,invoke,callMethod,hfu,hm,callFunc,hf,GY,sC,go_sem,e0,e1,e2]
def uX(T:be P)(ob:Nat->Option (Nat×Th))(e:TypeId)(D:aD):Option aD:=
 match find T.und e with
 |none=>ae
 |some kk=>match D with
  | .ptr o p off=>match ob o with
    |some (_, .box _ tr)=>match tr.get p with
     |some (s,dN)=>bif agC dN off&&mh T e kk s.size then aa (.val (kg kk) s)else ae
     |none=>ae
    |_=>ae
  |_=>ae
def Ek(T:be P){e:TypeId}{D D':aD}{v:Value}(h:uX T ob e D=aa D')(hs:aJ U H F w ob n)(hx:aC H F w D v):∃a u,v= .pointer (aa a)/\(loadVar e a).run P w= .ok u w/\aC H F w D' u:=by
 unfold uX at h;split at h
 .cases h
 rename_i kk hu;split at h
 case h_2=>cases h
 rename_i o p off;split at h
 case h_2=>cases h
 rename_i st0 T0 tr cz;split at h
 case h_2=>cases h
 rename_i s dN hg;obtain⟨h1,h2⟩:=aQ h;cases h2;obtain⟨h1,h3⟩:=cx h1;obtain rfl:=beq_true h1;obtain⟨b,hb,rfl⟩:=hx;obtain⟨es,hh,OU⟩:=hs.box cz hb;obtain⟨g1,g2⟩:=OU.get hg
 have hc:∀j u,((es.drop dN).take s.size)[j]? =aa u->w.cell? ⟨b,dN+j,ae⟩=aa u:=λj u hj=>by
  grind [vr]
 obtain⟨dd,xE,wX⟩:=(T.und_ok _ _ hu).agg;have hz:=jT T h3;have hl:=g1.length;generalize(es.drop dN).take s.size=cs at g1 hc hl
 cases ha:kg kk with
 |true=>
  rw[aj ha]at hz;obtain⟨r,hr,MB⟩:=hz;obtain⟨ti,z,h1,_,_,h4,_⟩:=T.row_ok _ _ hr;have WV:(loadCells ⟨b,dN,ae⟩ cs.length).run P w= .ok cs.toArray w:=run_loadCells_list (P:=P) w ⟨b,dN,ae⟩ cs (λj v hv=>by rw[cV];exact hc j v hv)
  have lJ:ti.size=cs.length:=by omega
  exact⟨_, .agg cs.toArray,rfl,by simp[loadVar,agU,fk xE,wX,ha,sizeOf,typeInfo,h1,lJ,WV],⟨cs,g1,rfl,by simp⟩⟩
 |false=>
  rw[ai (by simp[ha])]at hz
  obtain⟨v,rfl⟩:∃v,cs=[v]:=by
   match cs,hl.trans hz with
   |[v],_=>grind
  have hcv:w.cell? ⟨b,dN,ae⟩=aa v:=hc 0 v rfl;exact⟨_,v,rfl,by simp[loadVar,agU,fk xE,wX,ha,hcv,go_sem],⟨[v],g1,rfl,λ_=>rfl⟩⟩
def p8(T:be P)(tab:List (Nat×oH))(rd:Operand->Option aD)(objs:List (Nat×(Nat×Th)))(n:Nat)(x:Operand)(name:String)(args:List Operand)(k:dL->Option R):Option R:=
 match rd x with
 |some (.ifc t d)=>match F6 T.mth t name with
  |some (f,pr)=>match find T.und t with
   |some (.ptr e)=>match(bif pr then aa d else uX T (find objs) e d)with
    |some d'=>match rH rd args with
     |some ds=>og objs n f (d'::ds) k tab
     |none=>ae
    |none=>ae
   |_=>ae
  |none=>ae
 |_=>ae
def vU(T:be P){tab:List (Nat×oH)}(xh:∀p∈tab,gD P p.1 p.2){rd:Operand->Option aD}(gf:∀x d,rd x=aa d->aC H F w d (ev ρ x)){objs:List (Nat×(Nat×Th))}{x:Operand}{name:String}{args:Array Operand}{tQ:Array TypeId}{k:dL->Option R}{q:R}
 (h:p8 T tab rd objs n x name args.toList k=aa q)(hs:aJ U H F w (find objs) n):
 ∃e,k e=aa q/\cr P U H F w ρ (find objs) n ⟨dst, .call {callee:= .invoke x name,args:=args,argTypes:=tQ},ty,pos,aft,ae⟩ e:=by
 unfold p8 at h;split at h
 case h_2=>cases h
 rename_i t d0 hx;split at h
 case h_2=>cases h
 rename_i f pr hm;split at h
 case h_2=>cases h
 rename_i e hu;split at h
 case h_2=>cases h
 rename_i d' AF;split at h
 case h_2=>cases h
 rename_i ds xc;obtain⟨v,hv,hdv⟩:=gf _ _ hx;have hM:=T.mth_ok _ (BG hm);have hu:=T.und_ok _ _ hu;have VB:=nE (w:=w) (H:=H) (F:=F) (ρ:=ρ) gf xc
 cases pr with
 |true=>
  cases AF
  have R7:fx H F w (d0::ds) (v::args.toList.map (ev ρ)):=⟨v,_,rfl,hdv,VB⟩
  exact nN xh R7 (λfn g1 g2 g3=>vT hM hv (λnm=>HF hu) g1 g2 g3) hs (λ_ h=>h) h
 |false=>
  obtain⟨a,u,rfl,hl,hdu⟩:=Ek T (show uX T (find objs) e d0=aa d' from AF) hs hdv
  have R7:fx H F w (d'::ds) (u::args.toList.map (ev ρ)):=⟨u,_,rfl,hdu,VB⟩
  exact nN xh R7 (λfn g1 g2 g3=>vT hM hv (λnm=>HG hu hl) g1 g2 g3) hs (λ_ h=>h) h
end
end
end Go.Proofs.YtfeahmiobbjklaaGreatDoor
