/- Joined texts: PY5 PY6 P27c PQ PQ2 PQ3 PQ4 PQ5 PQ6 PQ7 PQ8 P28 CV. -/
import Derived.Test.YtfjgcenlllgonaaGreatDoorU10
import Derived.Test.YtfjgcenlllgonaaGreatDoorU1
import Derived.Test.YtfjgcenlllgonaaGreatDoorU8
set_option linter.defProp false
open _root_.Bool renaming false->ah,true->af,false_eq_true->aqM,not_true->ari
open _root_.Option renaming some->aa,bind_some->aqI,getD_some->arn,none->ae
open _root_.Int renaming tdiv->aqW,tmod->aqY,toNat_natCast->aqR,tdiv_eq_ediv_of_nonneg->aq0,tmod_eq_emod_of_nonneg->aq3
open _root_.Go.IntKind renaming i64->aqJ
open _root_.List renaming getElem?_eq_some_iff->aqQ,getElem_mem->aqN,mem_cons_self->ary,mem_of_getElem?->arJ,getD->arm,getElem?_eq_getElem->aqK,length_map->arb,take_length->ara,append_assoc->ard,getD_cons_succ->ar4,getD_cons_zero->ar3,length_append->aqT,length_cons->arh,length_singleton->aq8,mem_append->aq7,mem_cons->arw,mem_singleton->aq5,replicate->aqO,drop_eq_getElem_cons->aq6,getElem?_append_right->arD,getElem_append_right->are,length_take->aq9,getElem?_drop->arC,getElem?_map->arP,getElem_of_mem->aqZ
open _root_.Nat renaming zero_le->aq2,le_refl->aqS,min_eq_left->arF,zero_add->arl
open _root_.List.cons renaming injEq->arE
open _root_.Sum renaming inl->arj,inr->arc
open _root_.Option.some renaming inj->aqL
namespace Go.Proofs.YtfjgcenlllgonaaGreatDoor
open Go Go.RowKit
set_option maxRecDepth 100000
set_option linter.unusedSimpArgs false
set_option linter.unusedVariables false
set_option linter.defProp false
namespace L.P
structure Yz(s:Sg)(env:bR.den):Prop where
 inp:∀(k:Nat)(t:Ty),s.2.2.1[k]? =aa t->∃v,env.2.1[k]? =aa v/\ma v t
 dfs:∀(k:Nat)(t:Ty),s.2.2.2.1[k]? =aa t->∃v,env.2.2.1[k]? =aa v/\(ma v t\/(v.1:Int)=0)
 mts:∀(k:Nat)(t:Ty),s.2.2.2.2.1[k]? =aa t->env.2.2.2.2.1[k]? =aa t
 mem:∀l∈env.2.2.2.1,∀(k:Nat)(t:Ty),s.2.2.2.2.1[k]? =aa t->∃v,l[k]? =aa v/\(ma v t\/(v.1:Int)=0)
 tbs:∀(k:Nat)(T:aP.den),s.2.1[k]? =aa T->∃T':aP.den,env.2.2.2.2.2[k]? =aa T'/\T'.2.1=T.2.1/\T'.2.2.1=T.2.2.1
def oW(t:Ty)(r:Vl×Int):Prop:=C3 r.2/\(r.2=0->ma r.1 t)
def JU{l:List Vl}(hl:l.length<=100000)(h:∀v∈l,bD v.1 v.2.1 v.2.2):M.cL aJ l=aa af:=by
 apply Wp.eq;unfold M.cL;refine Wp.loop (λs:Int=>∃i:Nat,s=i/\i<=l.length) (λs=>(l.length-s).toNat) ⟨0,rfl,aq2 _⟩ (by unfold aJ;omega) ?_
 rintro _ ⟨i,rfl,hi⟩
 refine Wp.dec (λaI=>?_) λ_=> .some rfl
 have jn:i<l.length:=by omega
 rw[aF jn];simp only[aqI,cH];rw[au (h _ (aqN jn))];simp only[ari,aqM,if_false];rw[aU (by omega)];exact .some ⟨⟨i+1,rfl,jn⟩,by simp only;omega⟩
def Hl{op m:Int}(h0:0<=ar op)(hu:m=0\/us op)(EO:op=14\/op=15\/op=16->0<=m/\m<=5)(Ia:op=34->0<=m/\aqY m 8<=5)(h6:op=6->0<=m):M.cK aJ (op,m)=aa af:=by
 apply Wp.eq;unfold M.cK;dsimp only[aC,Row.den];rw[dE,DZ];simp only[aqI,aQ,kj]
 refine Wp.seq (· =ah) ?_ λj hj=>?_
 .refine Wp.dec (λh=>by omega) λ_=>?_
  refine Wp.mO (λh=>Wp.seq _ (Lq ..) λy hy=> .some ?_) λ_=> .some rfl
  grind
 .subst hj;simp only[aqM,if_false];refine .some ?_
  grind
def uO{op m:Int}{args:List Vl}{env:bR.den}{t:Ty}(Lp:M.cK aJ (op,m)=aa af)(ha:(args.length:Int)=ar op)(rF:∀v∈args,bD v.1 v.2.1 v.2.2)(hx:Wp (M.dN aJ (op,m) env) λx=>x=af->Wp (M.bi aJ (op,m) args env) (· =af)/\Wp (M.bl aJ (op,m) args env) (RO t)):Wp (M.cx aJ (op,m) args env) (oW t):=by
 have EN:=lR op;unfold M.cx;dsimp only[aC,Row.den];rw[Lp];simp only[aqI,dE,ari,aqM,if_false];rw[au ha];simp only[ari,aqM,if_false]
 refine Wp.seq _ hx λx hx=>?_
 refine Wp.ite (λ_=> .some ⟨.inr (.inr (.inl rfl)),λh=>by cases h⟩) λhc=>?_
 obtain⟨h1,h2⟩:=hx (by simpa using hc);rw[JU (by omega) rF,Wp.eq h1];simp only[aqI,ari,aqM,if_false]
 refine Wp.seq _ h2 λy hy=>?_
 refine Wp.mO (λh=> .some ⟨hy.1,λg=>absurd g h⟩) λh=>?_
 rw[cH];simp only[aqI]
 exact Wp.mO (λ_=> .some ⟨.inr (.inl rfl),λh=>by cases h⟩) λhp=> .some ⟨.inl rfl,λ_=>⟨hp,hy.2 h⟩⟩
def wC{N:Nat}{op m:Int}{env:bR.den}(h1:¬op=7)(h2:¬op=8)(h3:¬op=33)(h4:¬op=34)(h5:¬(op=36\/op=37\/op=38\/op=39)):M.bi N (op,m) [] env=aa af:=by
 unfold M.bi
 grind
def qN{α:Type}{l:List α}{k:Nat}{x:α}(h:l[k]? =aa x):idx l (k:Int)=aa x:=by
 grind [aF]
def Hm{op:Int}{t:Ty}{j:Nat}:{ms:List (List Vl)}->(∀l∈ms,∃v,l[j]? =aa v/\(ma v t\/(v.1:Int)=0))->{first:Bool}->{acc c:Int}->mu op t j ms first acc= .inr c->c=3\/c=6
 |[],_,_,_,_,h=>by cases h
 |l::ms,hv,first,acc,c,h=>by
  obtain⟨v,h1,h2⟩:=hv l (ary ..);rw[mu,h1]at h;simp only at h;split at h
  .grind
  .rename_i hn;rw[al (h2.resolve_right hn)]at h;split at h
   .exact Hm (by grind) h
   grind
def U8{op:Int}{t:Ty}{j:Nat}{ms:List (List Vl)}(h:∀l∈ms,∃v,l[j]? =aa v/\(ma v t\/(v.1:Int)=0))(ht:(t.2:Int)=0):RO t (Jm op t j ms):=by
 unfold Jm;split
 .exact⟨.inr (.inr (.inl rfl)),λg=>by cases g⟩
 .split
  .exact⟨.inl rfl,λ_=>⟨rfl,ht.symm⟩⟩
  .rename_i c hc;have:=Hm h hc;refine⟨?_,λg=>?_⟩
   all_goals grind [P.C3]
def RQ{op m:Int}{ts:List Ty}{s:Sg}{t:Ty}{args:List Vl}{env:bR.den}(he:kl env)(ag:Yz s env)(nt:NT op m ts s t)(h0:0<=ar op)(hu:m=0\/us op)(hl:(ts.length:Int)=ar op)(ha:xJ args ts):Wp (M.cx aJ (op,m) args env) (oW t):=by
 have IL:(args.length:Int)=ar op:=by rw[ha.len];exact hl
 have c0:C3 0:= .inl rfl
 have no:ar op=0->args=[]:=λh=>List.length_eq_zero_iff.1 (by omega)
 have wf:∀(_:op=14\/op=15\/op=16->0<=m/\m<=5)(_:op=34->0<=m/\aqY m 8<=5)(_:op=6->0<=m),M.cK aJ (op,m)=aa af:=λa b c=>Hl h0 hu a b c
 have ex:∀Q:Prop,(Exs op m env->Q)->Wp (M.dN aJ (op,m) env) λx=>x=af->Q:=λQ h=>(ur aJ op m env).mono λx hx g=>h (hx g)
 rcases nt with⟨ho,rfl⟩|⟨ho,hm,rfl⟩|⟨ho,hL⟩|⟨ho,hL⟩|⟨ho,rfl⟩|⟨ho,a,rfl,hT⟩|⟨ho,rfl⟩|⟨ho,hL,MX,Pj,hk3⟩|⟨hm,hR⟩
 .obtain rfl:=no (by unfold ar;grind);refine uO (wf (by omega) (by omega) (by omega)) IL ha.pl (ex _ λ_=>⟨?_,?_⟩)
  .rw[wC (by omega) (by omega) (by omega) (by omega) (by omega)];exact .some rfl
  .unfold M.bl;dsimp only[aC,Row.den];rw[GJ op 1 2 3 4 5];simp only[aqI]
   exact Wp.dec (λ_=> .some ⟨c0,λ_=>⟨rfl,rfl⟩⟩) λh=>by omega
 .subst ho;obtain rfl:=no rfl;refine uO (by grind) IL ha.pl (ex _ λ_=>⟨?_,?_⟩)
  .rw[wC (by omega) (by omega) (by omega) (by omega) (by omega)];exact .some rfl
  .exact .of (x:=(((6:Int),(aqJ.wrap (aqW m 16),aqY m 16)),(0:Int))) rfl ⟨c0,λ_=>⟨rfl,rfl⟩⟩
 .subst ho;obtain rfl:=no rfl;obtain⟨k,rfl,h1,_⟩:=hL;obtain⟨v,h2,h3⟩:=ag.inp k t h1;refine uO (wf (by omega) (by omega) (by omega)) IL ha.pl (ex _ λ_=>⟨?_,?_⟩)
  .show Wp ((idx env.2.1 (k:Int)).bind λx1=>(M.du aJ x1).bind λy2=>aa y2) _
   rw[qN h2];simp only[aqI,cH];exact .some (au h3.1)
  .show Wp ((idx env.2.1 (k:Int)).bind λx2=>aa (x2,(0:Int))) _
   rw[qN h2];exact .some ⟨c0,λ_=>h3.2⟩
 .subst ho;obtain rfl:=no rfl;obtain⟨k,rfl,h1,_⟩:=hL;obtain⟨v,h2,h3⟩:=ag.dfs k t h1;have hk:k<env.2.2.1.length:=(aqQ.1 h2).1;refine uO (wf (by omega) (by omega) (by omega)) IL ha.pl ?_
  refine Wp.of (x:= !decide ((v.1:Int)=0)) ?_ λhx=>?_
  .unfold M.dN;dsimp only[aC,Row.den];rw[qN h2];simp[hk]
  have h3:=h3.resolve_right (by simpa using hx);refine⟨?_,?_⟩
  .show Wp ((idx env.2.2.1 (k:Int)).bind λx1=>(M.du aJ x1).bind λy2=>aa y2) _
   rw[qN h2];simp only[aqI,cH];exact .some (au h3.1)
  .show Wp ((idx env.2.2.1 (k:Int)).bind λx2=>aa (x2,(0:Int))) _
   rw[qN h2];exact .some ⟨c0,λ_=>h3.2⟩
 .subst ho;obtain rfl:=no rfl;refine uO (wf (by omega) (by omega) (by omega)) IL ha.pl (ex _ λ_=>⟨?_,?_⟩)
  .rw[wC (by omega) (by omega) (by omega) (by omega) (by omega)];exact .some rfl
  .exact .of (x:=(((5:Int),((0:Int),env.1)),(0:Int))) rfl ⟨c0,λ_=>⟨rfl,rfl⟩⟩
 .obtain⟨v,rfl,hv⟩:=Lv ha;obtain⟨k,T,h1,v1,v2,rfl,h3⟩:=hT;obtain⟨T',g1,g2,g3⟩:=ag.tbs k T h1;have hTl:=he.2 T' (arJ g1)
  rcases h3 with⟨rfl,m0,m1,m2,hw,k1,k2,rfl⟩|⟨dG,rfl,rfl⟩
  .have key:T'.2.1=((3,0):Int×Int):=by
    rw[g2];refine Prod.ext k1 ?_;unfold mH at v1;rw[k1]at v1
    rcases v1 with h|h
    .exact h.2.2
    .exact absurd h.1 (by decide)
   have val:T'.2.2.1=((4,0):Int×Int):=by
    rw[g3];refine Prod.ext k2 ?_;unfold mH at v2;rw[k2]at v2
    rcases v2 with h|h
    .exact h.2.2
    .exact absurd h.1 (by decide)
   refine uO (by grind) IL ha.pl (ex _ λ_=>⟨?_,?_⟩)
   .unfold M.bi;dsimp only[aC,Row.den];rw[hw,qN g1];simp only[aqI,pG];rw[key,val,show(v.1:Int)=3 from hv.2.1.trans k1];exact .of (x:=af) rfl rfl
   .unfold M.bl;dsimp only[aC,Row.den];rw[hw,qN g1];simp only[aqI,pG]
    show Wp ((M.gi aJ T' env.1 v.2.2 (aqY m 8)).bind λZl=>aa (((3:Int),((0:Int),Zl.1)),Zl.2)) _
    refine Wp.seq _ (tc ⟨m1,m2⟩ key val hTl) λr hr=> .some ⟨hr.c3,λ_=>?_⟩
    grind
  .obtain rfl:op=33:=by omega
   refine uO (wf (by omega) (by omega) (by omega)) IL ha.pl (ex _ λ_=>⟨?_,?_⟩)
   .unfold M.bi;dsimp only[aC,Row.den];rw[qN g1];simp only[aqI,pG,rT];rw[g2,g3,au hv];unfold mH at v2;refine .of (x:=af) ?_ rfl
    grind
   .unfold M.bl;dsimp only[aC,Row.den];rw[qN g1];simp only[aqI,pG]
    show Wp ((M.jN aJ T' env.1 v.2.2).bind λy8=>if(!y8.2)=af then aa (((0:Int),((0:Int),(0:Int))),(6:Int))else(idx T'.2.2.2 y8.1).bind λx9=>aa ((T'.2.2.1.1,(T'.2.2.1.2,x9.2.2.2)),(0:Int))) _
    refine Wp.seq _ (xz _ _ _ hTl) λr hr=>?_
    refine Wp.ite (λ_=> .some ⟨.inr (.inr (.inl rfl)),λg=>by cases g⟩) λhc=>?_
    obtain⟨a,b⟩:=hr (by simpa using hc);refine Wp.bind (Wp.iz a b λz _ _=> .some ⟨c0,λ_=>?_⟩)
    grind
 .subst ho;obtain rfl:=no rfl;refine uO (wf (by omega) (by omega) (by omega)) IL ha.pl (ex _ λ_=>⟨?_,?_⟩)
  .rw[wC (by omega) (by omega) (by omega) (by omega) (by omega)];exact .some rfl
  .exact .of (x:=(((2:Int),((0:Int),(env.2.2.2.1.length:Int))),(0:Int))) rfl ⟨c0,λ_=>⟨rfl,rfl⟩⟩
 .obtain rfl:=no (by rcases ho with h|h|h|h<;>rw[h]<;>rfl);obtain⟨k,rfl,h1,hvt⟩:=hL;have g1:=ag.mts k t h1;obtain⟨hk,hkt⟩:=aqQ.1 g1
  have t5:(t.1:Int)≠6:=by
   intro h6
   rcases ho with h|h|h|h
   .grind
   .grind
   .grind
   .grind
  have t2:(t.2:Int)=0:=by
   unfold mH at hvt
   rcases hvt with h|h
   .exact h.2.2
   .exact absurd h.1 t5
  have alw:SZ op t:=by
   refine⟨t2,?_⟩
   rcases ho with rfl|rfl|rfl|rfl
   .grind
   .grind
   .grind
   .grind
  refine uO (wf (by omega) (by omega) (by omega)) IL ha.pl (ex _ λ_=>⟨?_,?_⟩)
  .unfold M.bi;dsimp only[aC,Row.den];rw[wo,av (show¬op=7 by omega),av (show¬op=8 by omega),av (show¬op=33 by omega),av (show¬op=34 by omega),au ho];simp only[aqM,if_false,if_true,aqI];rw[qN g1];simp only[aqI,oc];exact .some (au alw)
  .unfold M.bl;dsimp only[aC,Row.den];rw[GJ,wo,av (show¬(op=1\/op=2\/op=3\/op=4\/op=5) by omega),av (show¬op=6 by omega),av (show¬op=7 by omega),av (show¬op=8 by omega),av (show¬op=9 by omega),av (show¬op=35 by omega),au ho];simp only[aqM,if_false,if_true,aqI];rw[pW (by unfold aJ;omega) ho hk he.1 (by rw[hkt];exact alw),hkt];exact .some (U8 (λl hl=>ag.mem l hl k t h1) t2)
 .have hp:Ie op:=by
   unfold Ie
   rcases hR with⟨h,_⟩|⟨h,_⟩|⟨h,_⟩|⟨h,_⟩|⟨h,_⟩|⟨h,_⟩|⟨h,_⟩|⟨h,_⟩|⟨h,_⟩|⟨h,_⟩|⟨h,_⟩|⟨h,_⟩|⟨h,_⟩|⟨h,_⟩|⟨h,_⟩<;>omega
  unfold Ie at hp;exact uO (wf hm (by omega) (by omega)) IL ha.pl (ex _ λ_=>RP hm hR ha)
end L.P
namespace L.P
def Typ(e:List Ty)(st:List Nat)(s:Sg)(ty:Nat->Ty)(i:Nat):Prop:=
 ∀h:i<e.length,((e[i].2:Int)=0\/us e[i].1)/\NT e[i].1 e[i].2 ((opsL st (ar e[i].1).toNat i).map ty) s (ty i)
def wD{e:List Ty}{st:List Nat}(v:Ib e st){i:Nat}(h:i<e.length):∀o∈opsL st (ar e[i].1).toNat i,o<i:=λo ho=>(v.ops h o ho).1
def JV{st l:List Nat}{i:Nat}(c:Ch st i l){a:Nat}(ha:a<=l.length):∀o∈opsL st a i,o<i:=λo ho=>(Q1 c a ha o ho).1
def CQ{e:List Ty}{s:Sg}(hw:∀n∈e,WF aD n):Wp (M.iO aJ e s) λr=>r.2.2=0->∃st,Whole e st/\∃ty:Nat->Ty,r.1=ty (e.length-1)/\∀i,Typ e st s ty i:=by
 unfold M.iO;rw[pE];simp only[aqI]
 rcases JC e with RR|⟨st,w⟩
 .rw[al (by simp[RR])]
  exact .some λh=>absurd h RR
 rw[w.res];simp only;rw[aj (by simp)];have hp:0<e.length:=List.length_pos_iff.2 w.ne;have hle:=w.le;refine Wp.join (Wp.loop (λq:Int×List Ty=>∃k:Nat,q.1=k/\k<=e.length/\∃l,Ch st k l/\∃ty:Nat->Ty,q.2=(opsL st l.length k).map ty/\∀j,j<k->Typ e st s ty j) (λq=>(e.length-q.1).toNat) ⟨0,rfl,aq2 _,[], .nil,λ_=>((0:Int),(0:Int)),rfl,λj h=>by omega⟩ (by unfold aJ;simp only;omega) ?_)
 rintro⟨_,kz⟩ ⟨k,rfl,hk,l,hc,ty,RV,N0⟩
 dsimp only at RV⊢
 refine Wp.dec (λaI=>?_) λhge=> .some ?_
 .have aI:k<e.length:=by omega
  have Ly:=hw _ (aqN aI);obtain⟨v1,l',v2,v3,v4,v5⟩:=w.val.node k aI;obtain rfl:=v2.Nw hc;have EN:=lR e[k].1
  have jq:kz.length=l'.length:=by rw[RV,arb,ee]
  rw[aF aI];simp only[aqI,dE]
  refine Wp.seq (λj=>j=ah->((e[k].2:Int)=0\/us e[k].1)) ?_ λj hj=>?_
  .refine Wp.mO (λ_=>Wp.seq _ (Lq ..) λy hy=> .some λh=> .inr (hy.1 (by simpa using h))) λh=> .some λ_=> .inl h
  refine Wp.ite (λ_=> .some ?_) λhcj=>?_
  .show(2:Int)=0->_
   exact λh=>by cases h
  have Zo:=hj (by simpa using hcj)
  obtain⟨a,ha⟩:∃a:Nat,ar e[k].1=a:=⟨(ar e[k].1).toNat,by omega⟩
  have TB:(ar e[k].1).toNat=a:=by omega
  have RW:=hc.next v1 v3 v5;rw[TB]at v3 RW;rw[ha]at RW v5
  have wl:aqJ.wrap ((kz.length:Int)-ar e[k].1)=((kz.length-a:Nat):Int):=by rw[aH (by omega) (by omega)];omega
  rw[wl,pA (kz.length-a) kz.length rfl rfl (by omega) (aqS _),jC (by omega),ara];simp only[aqI];have JW:=JR hc a v3
  have PB:kz.drop (kz.length-a)=(opsL st a k).map ty:=by
   rw[jq,RV,<-List.map_drop,JW,List.drop_append_of_le_length (by rw[ee];exact aqS _),List.drop_of_length_le (by rw[ee];exact aqS _),List.nil_append]
  have ES:kz.take (kz.length-a)=(opsL st (l'.length-a) (pZ (a:Int) k l')).map ty:=by
   rw[jq,RV,<-List.map_take,JW,List.take_append_of_le_length (by rw[ee];exact aqS _),List.take_of_length_le (by rw[ee];exact aqS _)]
  rw[PB,ES];have hm:(e[k].2:Int)<=9223372036854775807:=Ly.2.2;have Wu:=U5 aJ e[k].1 e[k].2 hm ((opsL st a k).map ty) s (by rw[arb,ee];exact ha.symm)
  refine Wp.seq _ Wu λr hr=>?_
  refine Wp.mO (λh=> .some ?_) λh0=>?_
  .exact λg=>absurd g h
  have hr:=hr h0;rw[br (by simp[ee];omega)];simp only[aqI];rw[aU (by omega)];refine .some ⟨⟨k+1,rfl,aI,_,RW,λi=>if i=k then r.1 else ty i,?_,λj hj h=>?_⟩,by simp only;omega⟩
  .have e1:(l'.take (l'.length-a)++[pZ (a:Int) k l']).length=l'.length-a+1:=by simp
   have hg:st.getD (k+1-1) 0=pZ (a:Int) k l':=by simp[arm,v5]
   have e2:opsL st (l'.length-a+1) (k+1)=opsL st (l'.length-a) (pZ (a:Int) k l')++[k]:=by rw[opsL,hg];rfl
   have e3:(opsL st (l'.length-a) (pZ (a:Int) k l')).map (λi=>if i=k then r.1 else ty i)=(opsL st (l'.length-a) (pZ (a:Int) k l')).map ty:=List.map_congr_left λo ho=>by
    have:o<k:=JV hc (aqS _) o (by rw[JW];exact List.mem_append_left _ ho);rw[aj (by omega)]
   rw[e1,e2,List.map_append,e3];simp
  .have same:∀i,i<=k->∀o∈opsL st (ar e[j].1).toNat j,(if o=k then r.1 else ty o)=ty o:=λi _ o ho=>by
    have:=wD w.val h o ho;rw[aj (by omega)]
   rw[List.map_congr_left (same k (aqS _))];by_cases S7:j=k
   .subst S7;refine⟨Zo,?_⟩;dsimp only;rw[al rfl,TB];exact hr
   .dsimp only;rw[aj S7];exact N0 j (by omega) h
 .obtain rfl:k=e.length:=by omega
  show Wp ((idx kz 0).bind _) _
  rw[RV,U6 w hc]
  exact .some λ_=>⟨st,w,ty,rfl,λi h=>N0 i h h⟩
def Hn{g:Nat->Vl×Int}{ty:Nat->Ty}:∀{os:List Nat},(∀o∈os,oW (ty o) (g o))->(∀vs,gH g os= .inl vs->xJ vs (os.map ty))/\∀c,gH g os= .inr c->C3 c
 |[],_=>⟨λvs h=>by cases h;trivial,λc h=>by cases h⟩
 |o::os,h=>by
  obtain⟨i1,i2⟩:=Hn (os:=os) λx hx=>h x (List.mem_cons_of_mem _ hx)
  obtain⟨t1,t2⟩:=h o (ary ..);rw[gH];split
  .rename_i h0
   cases hq:gH g os with
   |inl vs=>exact⟨λws hw=>by cases hw;exact⟨t2 h0,i1 vs hq⟩,λc hc=>by cases hc⟩
   |inr d=>exact⟨λws hw=>(by cases hw),λc hc=>by cases hc;exact i2 _ hq⟩
  .exact⟨λws hw=>(by cases hw),λc hc=>by cases hc;exact t1⟩
def zf{r:Vl×Int}{t:Ty}(h:oW t r)(ht:(t.1:Int)=1):(fS r).2=r.2/\(r.2=0->(fS r).1=r.1):=by
 unfold fS;by_cases h0:r.2=0
 .rw[aj (λg=>g h0),al ⟨(h.2 h0).2.1.trans ht,(h.2 h0).1⟩];exact⟨h0.symm,λ_=>rfl⟩
 .rw[al h0];exact⟨rfl,λg=>absurd g h0⟩
def Em{r:Vl×Int}{t:Ty}(h:oW t r)(ht:(t.1:Int)=1):oW t (fS r):=by
 obtain⟨h1,h2⟩:=zf h ht;exact⟨by rw[h1];exact h.1,λg=>by rw[h2 (h1▸g)];exact h.2 (h1▸g)⟩
def Eo{r:Vl×Int}{a:Ty}(h:oW a r)(ha:(a.1:Int)=1):oW ((1:Int),(0:Int)) r:=
 ⟨h.1,λg=>⟨(h.2 g).1,(h.2 g).2.1.trans ha,(h.2 g).2.2.trans (Hk (h.2 g) (by rw[ha];decide))⟩⟩
def Lz{op:Int}{ts:List Ty}{t:Ty}(hz:cI op)(h:RT op ts t):((op=23\/op=24)/\∃a b:Ty,ts=[a,b]/\(a.1:Int)=1/\(b.1:Int)=1/\t=((1:Int),(0:Int)))\/(op=26/\∃a b:Ty,ts=[a,b,b]/\(a.1:Int)=1/\t=b):=by
 unfold cI at hz
 rcases h with⟨h,_⟩|⟨h,_⟩|⟨h,_⟩|⟨h,_⟩|⟨h,_⟩|⟨h,_⟩|⟨h,_⟩|⟨h,_⟩|⟨h,_⟩|⟨h,_⟩|⟨h,_⟩|h|h|⟨h,_⟩|⟨h,_⟩
 case inr.inr.inr.inr.inr.inr.inr.inr.inr.inr.inr.inl=>exact .inl h
 case inr.inr.inr.inr.inr.inr.inr.inr.inr.inr.inr.inr.inl=>exact .inr h
 all_goals omega
def vr{e:List Ty}{st:List Nat}{s:Sg}{ty:Nat->Ty}{env:bR.den}(w:Whole e st)(he:kl env)(ag:Yz s env)(N0:∀i,Typ e st s ty i):∀(f i:Nat),i<f->i<e.length->oW (ty i) (gI (mv env) e st f i)
 |0,i,hf,_=>by omega
 |f+1,i,hf,hi=>by
  have ih:=vr w he ag N0 f;have aI:=wD w.val hi;obtain⟨Zo,Wu⟩:=N0 i hi;obtain⟨v1,_⟩:=w.val.node i hi
  have hge:e.getD i ((0,0):Int×Int)=e[i]:=by simp only[arm,aqK hi,arn]
  have hlen:=ee st (ar e[i].1).toNat i
  have OJ:∀o∈opsL st (ar e[i].1).toNat i,oW (ty o) (gI (mv env) e st f o):=λo ho=>ih o (by have:=aI o ho;omega) (by have:=aI o ho;omega)
  rw[gI,hge];generalize hn:e[i]=n at*;obtain⟨(op:Int),(m:Int)⟩:=n;dsimp only[aC,Row.den]at*;generalize opsL st (ar op).toNat i=os at*;generalize gI (mv env) e st f=g at*;by_cases hz:cI op
  .rw[al hz]
   have hR:RT op (os.map ty) (ty i):=by
    unfold cI at hz
    rcases Wu with⟨ho,_⟩|⟨ho,_⟩|⟨ho,_⟩|⟨ho,_⟩|⟨ho,_⟩|⟨ho,_⟩|⟨ho,_⟩|⟨ho,_⟩|⟨_,hR⟩
    .omega
    .omega
    .omega
    .omega
    .omega
    .omega
    .omega
    .omega
    .exact hR
   unfold GX;dsimp only;have Ou:m=0:=Zo.resolve_right (by unfold cI at hz;unfold us;omega);rw[aj (λh=>h Ou)]
   rcases Lz hz hR with⟨ho,a,b,Ep,ha,hb,ht⟩|⟨ho,a,b,Ep,ha,ht⟩
   .obtain⟨o1,o2,rfl⟩:=JP (l:=os) (by rw[<-arb (f:=ty),Ep];rfl);simp only[List.map_cons,List.map_nil,arE,and_true]at Ep;have h1:=OJ o1 (by simp);have h2:=OJ o2 (by simp);rw[Ep.1]at h1;rw[Ep.2]at h2;have t1:=Eo (Em h1 ha) ha;have t2:=Eo (Em h2 hb) hb;rw[ht]
    show oW _ (if(fS (g o1)).2≠0 then(z3,(fS (g o1)).2)else if op=26/\((fS (g o1)).1.2.2:Int)=1 then g o2 else if op=26 then _ else if(op=23)=(((fS (g o1)).1.2.2:Int)=0)then((fS (g o1)).1,0)else fS (g o2))
    by_cases h0:(fS (g o1)).2≠0
    .rw[al h0];exact⟨t1.1,λh=>absurd h h0⟩
    .rw[aj h0,aj (by omega),aj (by omega)];split
     .exact⟨.inl rfl,λ_=>t1.2 (by omega)⟩
     .exact t2
   .obtain⟨o1,o2,o3,rfl⟩:=Hf (l:=os) (by rw[<-arb (f:=ty),Ep];rfl);simp only[List.map_cons,List.map_nil,arE,and_true]at Ep;have h1:=OJ o1 (by simp);have h2:=OJ o2 (by simp);have h3:=OJ o3 (by simp);rw[Ep.1]at h1;rw[Ep.2.1]at h2;rw[Ep.2.2]at h3;have t1:=Eo (Em h1 ha) ha;rw[ht]
    show oW _ (if(fS (g o1)).2≠0 then(z3,(fS (g o1)).2)else if op=26/\((fS (g o1)).1.2.2:Int)=1 then g o2 else if op=26 then g o3 else _)
    by_cases h0:(fS (g o1)).2≠0
    .rw[al h0];exact⟨t1.1,λh=>absurd h h0⟩
    .rw[aj h0];split
     .exact h2
     .exact h3
  .rw[aj hz];obtain⟨i1,i2⟩:=Hn OJ
   cases hq:gH g os with
   |inr c=>exact⟨i2 c hq,λh=>absurd h (AO hq)⟩
   |inl vs=>
    obtain⟨r,hr,sB⟩:=RQ he ag Wu v1 Zo (by rw[arb,hlen];omega) (i1 vs hq)
    show oW (ty i) ((M.cx aJ (op,m) vs env).getD (z3,0))
    rw[hr];exact sB
end L.P
namespace L.P
def Cmp(code:List Ty)(env:bR.den)(b b':Nat)(q:Vl×Int):Prop:=∀S:List Vl,(q.2=0->∀r,dF code env b' (S++[q.1]) r->dF code env b S r)/\(q.2≠0->dF code env b S (z3,q.2))
def Ho{code:List Ty}{F:List Int}{env:bR.den}{g:Nat->Nat->Int->List (Ty×Int)}{v:Nat->Vl×Int}:∀(os:List Nat)(b:Nat)(d:Int),(∀o∈os,∀(b:Nat)(d:Int),At code F b (g o b d)->b+(g o b d).length<=code.length->Cmp code env b (b+(g o b d).length) (v o))->At code F b (qb g os b d)->b+(qb g os b d).length<=code.length->∀S:List Vl,(∀vs,gH v os= .inl vs->∀r,dF code env (b+(qb g os b d).length) (S++vs) r->dF code env b S r)/\(∀c,gH v os= .inr c->dF code env b S (z3,c))
 |[],b,d,_,_,_,S=>by
  refine⟨λvs h r hr=>?_,λc h=>by cases h⟩;cases h;simpa[qb]using hr
 |o::os,b,d,hg,hA,hl,S=>by
  rw[qb]at hA hl⊢;rw[aqT]at hl⊢;obtain⟨h1,h2⟩:=hg o (ary ..) b d hA.left (by omega) S;have ih:=Ho (v:=v) (env:=env) os (b+(g o b d).length) (d+1) (λo ho=>hg o (List.mem_cons_of_mem _ ho)) hA.right (by omega);rw[gH];by_cases h0:(v o).2=0
  .rw[al h0];obtain⟨i1,i2⟩:=ih (S++[(v o).1])
   cases hq:gH v os with
   |inl vs=>
    refine⟨λws hw r hr=>?_,λc hc=>by cases hc⟩;cases hw;refine h1 h0 r (i1 vs hq r ?_);rw[ard,List.singleton_append,Nat.add_assoc];exact hr
   |inr c=>
    refine⟨λws hw=>(by cases hw),λc' hc=>?_⟩;cases hc;exact h1 h0 _ (i2 c hq)
  .rw[aj h0];refine⟨λws hw=>(by cases hw),λc hc=>?_⟩;cases hc;exact h2 h0
def YA{op:Int}{E:Int}{top:Vl}(ho:op=23\/op=24)(hv:(top.2.2:Int)=0\/(top.2.2:Int)=1):Ei ((if op=24 then 53 else 52,E):Int×Int) top=af↔((op=23)=((top.2.2:Int)=0)):=by
 unfold Ei
 rcases ho with rfl|rfl<;>rcases hv with h|h<;>rw[h]<;>simp
def RX{v:Vl}{a:Ty}(h:ma v a)(ha:(a.1:Int)=1):(v.1:Int)=1/\((v.2.2:Int)=0\/(v.2.2:Int)=1):=by
 obtain⟨(k:Int),(e:Int),(n:Int)⟩:=v;obtain⟨(p:Int),(q:Int)⟩:=a;obtain⟨h1,h2,h3⟩:=h;dsimp only[aC,Row.den]at*;unfold bD at h1;omega
def U9{op m:Int}{ts:List Ty}{s:Sg}{t:Ty}(hz:cI op)(Wu:NT op m ts s t):RT op ts t:=by
 unfold cI at hz
 rcases Wu with⟨ho,_⟩|⟨ho,_⟩|⟨ho,_⟩|⟨ho,_⟩|⟨ho,_⟩|⟨ho,_⟩|⟨ho,_⟩|⟨ho,_⟩|⟨_,hR⟩
 case inr.inr.inr.inr.inr.inr.inr.inr=>exact hR
 all_goals omega
def LA{code:List Ty}{F:List Int}{e:List Ty}{st:List Nat}{s:Sg}{ty:Nat->Ty}{env:bR.den}(w:Whole e st)(he:kl env)(ag:Yz s env)(N0:∀i,Typ e st s ty i):∀(f i b:Nat)(d:Int),i<f->i<e.length->At code F b (cg e st f i b d)->b+(cg e st f i b d).length<=code.length->Cmp code env b (b+(cg e st f i b d).length) (gI (mv env) e st f i)
 |0,_,_,_,h,_,_,_=>by omega
 |f+1,i,b,d,hf,hi,hA,hl=>by
  have ih:=LA (code:=code) (F:=F) w he ag N0 f;have YB:=vr w he ag N0 f;have aI:=wD w.val hi;obtain⟨Zo,Wu⟩:=N0 i hi;obtain⟨v1,_⟩:=w.val.node i hi
  have hge:e.getD i ((0,0):Int×Int)=e[i]:=by simp only[arm,aqK hi,arn]
  have hlen:=ee st (ar e[i].1).toNat i;rw[gI,hge];rw[cg,hge]at hA hl⊢;generalize opsL st (ar e[i].1).toNat i=os at*;by_cases hz:cI e[i].1
  .rw[al hz];have hR:=U9 hz Wu
   have Ou:(e[i].2:Int)=0:=Zo.resolve_right (by
    unfold cI at hz;unfold us
    rcases hz with h|h|h<;>rw[h]<;>decide)
   have OB:∀o∈os,oW (ty o) (gI (mv env) e st f o):=λo ho=>YB o (by have:=aI o ho;omega) (by have:=aI o ho;omega)
   have OJ:∀o∈os,∀(b:Nat)(d:Int),At code F b (cg e st f o b d)->b+(cg e st f o b d).length<=code.length->Cmp code env b (b+(cg e st f o b d).length) (gI (mv env) e st f o):=λo ho b d hA' zJ=>ih o b d (by have:=aI o ho;omega) (by have:=aI o ho;omega) hA' zJ
   unfold GX;generalize gI (mv env) e st f=g at*
   rcases Lz hz hR with⟨ho,a,b',Ep,ha,hb,ht⟩|⟨ho,a,b',Ep,ha,ht⟩
   .obtain⟨o0,o1,rfl⟩:=JP (l:=os) (by rw[<-arb (f:=ty),Ep];rfl);simp only[List.map_cons,List.map_nil,arE,and_true]at Ep;have t0:=OB o0 (by simp);have t1:=OB o1 (by simp);rw[Ep.1]at t0;rw[Ep.2]at t1;rw[al ho]at hA hl⊢;rw[aj (λh=>h Ou)];unfold yl at hA hl⊢;have i0:=OJ o0 (by simp) b d;simp only[ar3,ar4]at hA hl⊢;generalize cg e st f o0 b d=g0 at*;have i1:=OJ o1 (by simp) (b+g0.length+1) d;generalize cg e st f o1 (b+g0.length+1) d=g1 at*;rw[aqT,arh]at hl⊢
    have eE:b+(g0.length+(g1.length+1))=b+g0.length+1+g1.length:=by omega
    rw[eE]at hl⊢;have a1:=hA.right.head.1;dsimp only at a1;intro S;obtain⟨c1,c2⟩:=i0 hA.left (by omega) S;obtain⟨d1,d2⟩:=i1 hA.right.tail (by omega) S;obtain⟨e1,e2⟩:=zf t0 ha;obtain⟨f1,f2⟩:=zf t1 hb;rw[e1];by_cases h0:(g o0).2=0
    .obtain⟨k1,k2⟩:=RX (t0.2 h0) ha;rw[aj (λh=>h h0),e2 h0,aj (λh=>by rcases ho with g|g<;>(rw[h.1]at g;exact absurd g (by decide))),aj (λh=>by rcases ho with g|g<;>(rw[h]at g;exact absurd g (by decide)))];have hj:=YA (E:=((b+g0.length+1+g1.length:Nat):Int)) ho k2
     have fJ:((if(e[i].1:Int)=24 then(53:Int)else 52)=50\/(if(e[i].1:Int)=24 then(53:Int)else 52)=52\/(if(e[i].1:Int)=24 then(53:Int)else 52)=53):=by split<;>simp
     have aiP:¬(if(e[i].1:Int)=24 then(53:Int)else 52)=50:=by split<;>decide
     by_cases hJ:((e[i].1:Int)=23)=(((g o0).1.2.2:Int)=0)
     .rw[al hJ];refine⟨λ_ r hr=>c1 h0 r (dF.cond a1 fJ rfl (by omega) hl k1 k2 ?_),λh=>absurd rfl h⟩;rw[al (hj.2 hJ),aj (by rw[hj.2 hJ];exact λh=>h.elim (λh=>by cases h) aiP)];exact hr
     .rw[aj hJ]
      have hjf:Ei ((if(e[i].1:Int)=24 then 53 else 52,((b+g0.length+1+g1.length:Nat):Int)):Int×Int) (g o0).1=ah:=by
       rw[<-Bool.not_eq_true];exact λh=>hJ (hj.1 h)
      have step:∀r,dF code env (b+g0.length+1) S r->dF code env b S r:=λr hr=>c1 h0 r (dF.cond a1 fJ rfl (by omega) hl k1 k2 (by
       rw[hjf,aj (by simp),al (.inl rfl)]
       exact hr))
      refine⟨λh r hr=>step r (d1 (by rw[<-f1];exact h) r (by rw[f2 (by rw[<-f1];exact h)]at hr;exact hr)),λh=>?_⟩;rw[f1]at h⊢;exact step _ (d2 h)
    .rw[al h0];exact⟨λh=>absurd h h0,λ_=>c2 h0⟩
   .obtain⟨o0,o1,o2,rfl⟩:=Hf (l:=os) (by rw[<-arb (f:=ty),Ep];rfl);simp only[List.map_cons,List.map_nil,arE,and_true]at Ep;have t0:=OB o0 (by simp);rw[Ep.1]at t0
    have Ic:¬((e[i].1:Int)=23\/(e[i].1:Int)=24):=λh=>by rcases h with g|g<;>(rw[ho]at g;exact absurd g (by decide))
    rw[aj Ic,al ho]at hA hl⊢;rw[aj (λh=>h Ou)];unfold Hg at hA hl⊢;generalize hE:qM (cg e st f) [o0,o1,o2] b d=E at*;unfold qM at hE;have i0:=OJ o0 (by simp) b d;simp only[ar3,ar4]at hA hl hE⊢;generalize cg e st f o0 b d=g0 at*;have i1:=OJ o1 (by simp) (b+g0.length+1) d;generalize cg e st f o1 (b+g0.length+1) d=g1 at*;have i2:=OJ o2 (by simp) E d;generalize cg e st f o2 E d=g2 at*;rw[aqT,arh,aqT,arh]at hl⊢
    have eE:b+(g0.length+(g1.length+(g2.length+1)+1))=E+g2.length:=by omega
    rw[eE]at hl⊢;have a1:=hA.right.head.1;have a2:=hA.right.tail;have a3:=a2.right.head.1;have a5:=a2.right.tail;rw[hE]at a5;dsimp only at a1 a3;intro S;obtain⟨c1,c2⟩:=i0 hA.left (by omega) S;obtain⟨d1,d2⟩:=i1 a2.left (by omega) S;obtain⟨x1,x2⟩:=i2 a5 hl S;obtain⟨e1,e2⟩:=zf t0 ha;rw[e1];by_cases h0:(g o0).2=0
    .obtain⟨k1,k2⟩:=RX (t0.2 h0) ha;rw[aj (λh=>h h0),e2 h0]
     have hj:Ei ((50,(E:Int)):Int×Int) (g o0).1=af↔¬((g o0).1.2.2:Int)=1:=by
      unfold Ei;simp
     by_cases hJ:((g o0).1.2.2:Int)=1
     .rw[al ⟨ho,hJ⟩]
      have hjf:Ei ((50,(E:Int)):Int×Int) (g o0).1=ah:=by
       rw[<-Bool.not_eq_true];exact λh=>hj.1 h hJ
      have step:∀r,dF code env (b+g0.length+1) S r->dF code env b S r:=λr hr=>c1 h0 r (dF.cond a1 (.inl rfl) rfl (by omega) (by omega) k1 k2 (by
       rw[hjf,aj (by simp),al (.inl rfl)]
       exact hr))
      exact⟨λh r hr=>step r (d1 h r (dF.jump a3 rfl rfl (by omega) (by omega) hr)),λh=>step _ (d2 h)⟩
     .rw[aj (λh=>hJ h.2),al ho]
      have step:∀r,dF code env E S r->dF code env b S r:=λr hr=>c1 h0 r (dF.cond a1 (.inl rfl) rfl (by omega) (by omega) k1 k2 (by
       rw[al (hj.2 hJ),al (.inr rfl)]
       exact hr))
      exact⟨λh r hr=>step r (x1 h r hr),λh=>step _ (x2 h)⟩
    .rw[al h0];exact⟨λh=>absurd h h0,λ_=>c2 h0⟩
  have Ic:¬((e[i].1:Int)=23\/(e[i].1:Int)=24):=λh=>hz (h.elim .inl λh=> .inr (.inl h))
  have Ln:¬(e[i].1:Int)=26:=λh=>hz (.inr (.inr h))
  rw[aj hz];rw[aj Ic,aj Ln]at hA hl⊢;rw[aqT,aq8]at hl⊢
  obtain⟨a,ha⟩:∃a:Nat,ar e[i].1=a:=⟨(ar e[i].1).toNat,by omega⟩
  have hj:¬(50<=(e[i].1:Int)/\(e[i].1:Int)<=53):=λh=>by have:=RD h.1;omega
  obtain⟨b1,_⟩:=hA.right.head;dsimp only at b1;intro S;obtain⟨h1,h2⟩:=Ho (code:=code) (F:=F) (env:=env) (g:=cg e st f) (v:=gI (mv env) e st f) os b d (λo ho b' d' hA' zJ=>ih o b' d' (by have:=aI o ho;omega) (by have:=aI o ho;omega) hA' zJ) hA.left (by omega) S
  cases hq:gH (gI (mv env) e st f) os with
  |inr c=>
   refine⟨λh=>absurd h (AO hq),λ_=>h2 c hq⟩
  |inl vs=>
   have MB:vs.length=a:=by rw[xE hq,hlen];omega
   have jq:(S++vs).length-a=S.length:=by rw[aqT];omega
   have mX:(S++vs).drop ((S++vs).length-a)=vs:=by rw[jq];simp
   have VP:(S++vs).take ((S++vs).length-a)=S:=by rw[jq];simp
   refine⟨λh0 r hr=>h1 vs hq r ?_,λh0=>h1 vs hq _ ?_⟩
   .refine dF.op b1 hj ha (by rw[aqT];omega) (by rw[mX];exact h0) ?_;rw[mX,VP];rw[<-Nat.add_assoc]at hr;exact hr
   .have:=dF.fail (env:=env) (S:=S++vs) b1 hj ha (by rw[aqT];omega) (by rw[mX];exact h0);rw[mX]at this;exact this
def LB{e:List Ty}{st:List Nat}{env:bR.den}(w:Whole e st)(he:kl env)(hw:∀n∈e,WF aD n):∀(f i:Nat),i<f->i<e.length->(gI (mv env) e st f i).2≠0->(gI (mv env) e st f i).1=z3
 |0,_,h,_,_=>by omega
 |f+1,i,hf,hi,h=>by
  have hge:e.getD i ((0,0):Int×Int)=e[i]:=by simp only[arm,aqK hi,arn]
  have aI:=wD w.val hi;have hlen:=ee st (ar e[i].1).toNat i
  have ih:∀o∈opsL st (ar e[i].1).toNat i,(gI (mv env) e st f o).2≠0->(gI (mv env) e st f o).1=z3:=λo ho=>LB w he hw f o (by have:=aI o ho;omega) (by have:=aI o ho;omega)
  have zb:∀r:Vl×Int,(fS r).2≠0->(fS r).1=z3:=λr=>by
   unfold fS;split
   .exact λ_=>rfl
   split
   .exact λh=>absurd rfl h
   .exact λ_=>rfl
  rw[gI,hge]at h⊢;by_cases hz:cI e[i].1
  .rw[al hz]at h⊢;generalize hos:opsL st (ar e[i].1).toNat i=os at*;generalize gI (mv env) e st f=g at*;unfold GX at h⊢;split at h
   .rename_i c;rw[al c]
   rename_i c1;rw[aj c1];split at h
   .rename_i c;rw[al c]
   rename_i c2;rw[aj c2]
   have h3:(e[i].1:Int)=26->∃o0 o1 o2,os=[o0,o1,o2]:=λg=>Hf (by rw[hlen,g];rfl)
   split at h
   .rename_i c;rw[al c];obtain⟨o0,o1,o2,rfl⟩:=h3 c.1;exact ih o1 (by simp) h
   rename_i c3;rw[aj c3];split at h
   .rename_i c;rw[al c];obtain⟨o0,o1,o2,rfl⟩:=h3 c;exact ih o2 (by simp) h
   rename_i c4;rw[aj c4];split at h
   .exact absurd rfl h
   .rename_i c;rw[aj c];exact zb _ h
  .rw[aj hz]at h⊢
   cases hq:gH (gI (mv env) e st f) (opsL st (ar e[i].1).toNat i)with
   |inr c=>rfl
   |inl vs=>
    rw[hq]at h
    have hl:vs.length<=100000:=by
     have a1:=xE hq;have a3:=lR e[i].1;omega
    exact(Lb he (hw _ (aqN hi)) hl).bad h
def LC{P:Ty×Int->Prop}{g:Nat->Nat->Int->List (Ty×Int)}:∀(os:List Nat)(b:Nat)(d:Int),(∀o∈os,∀b d,∀x∈g o b d,P x)->∀x∈qb g os b d,P x
 |[],_,_,_,x,h=>by simp[qb]at h
 |o::os,b,d,hg,x,h=>by
  rw[qb]at h
  rcases aq7.1 h with h|h
  .exact hg o (ary ..) _ _ x h
  .exact LC os _ _ (λo ho=>hg o (List.mem_cons_of_mem _ ho)) x h
def RY{e:List Ty}{st:List Nat}(w:Whole e st):∀(f i b:Nat)(d:Int),i<e.length->∀x∈cg e st f i b d,((x.1.1:Int)=50\/(x.1.1:Int)=51\/(x.1.1:Int)=52\/(x.1.1:Int)=53)\/x.1∈e
 |0,_,_,_,_,x,h=>by simp[cg]at h
 |f+1,i,b,d,hi,x,h=>by
  have hge:e.getD i ((0,0):Int×Int)=e[i]:=by simp only[arm,aqK hi,arn]
  have aI:=wD w.val hi;have hlen:=ee st (ar e[i].1).toNat i
  have ih:∀o∈opsL st (ar e[i].1).toNat i,∀b d,∀x∈cg e st f o b d,((x.1.1:Int)=50\/(x.1.1:Int)=51\/(x.1.1:Int)=52\/(x.1.1:Int)=53)\/x.1∈e:=λo ho b d=>RY w f o b d (by have:=aI o ho;omega)
  rw[cg,hge]at h;generalize opsL st (ar e[i].1).toNat i=os at*;split at h
  .rename_i fJ;obtain⟨o0,o1,rfl⟩:=JP (l:=os) (by rw[hlen];rcases fJ with g|g<;>rw[g]<;>rfl);unfold yl at h
   rcases aq7.1 h with h|h
   .exact ih o0 (by simp) _ _ x h
   rcases arw.1 h with rfl|h
   .left
    show(if _ then(53:Int)else 52)=50\/(if _ then(53:Int)else 52)=51\/(if _ then(53:Int)else 52)=52\/(if _ then(53:Int)else 52)=53
    split<;>simp
   .exact ih o1 (by simp) _ _ x h
  split at h
  .rename_i fJ;obtain⟨o0,o1,o2,rfl⟩:=Hf (l:=os) (by rw[hlen,fJ];rfl);unfold Hg at h
   rcases aq7.1 h with h|h
   .exact ih o0 (by simp) _ _ x h
   rcases arw.1 h with rfl|h
   .exact .inl (.inl rfl)
   rcases aq7.1 h with h|h
   .exact ih o1 (by simp) _ _ x h
   rcases arw.1 h with rfl|h
   .exact .inl (.inr (.inl rfl))
   .exact ih o2 (by simp) _ _ x h
  .rcases aq7.1 h with h|h
   .exact LC os _ _ ih x h
   .rw[aq5.1 h];exact .inr (aqN hi)
end L.P
namespace L.P.Q
def z3:Vl:=((0,0,0):Int×Int×Int)
def cI(op:Int):Prop:=op=23\/op=24\/op=26
instance(op:Int):Decidable (cI op):=by unfold cI;infer_instance
noncomputable def mv(env:bR.den)(n:Ty)(args:List Vl):Vl×Int:=(M.cx aJ n args env).getD (z3,0)
def La{env:bR.den}(he:kl env){n:Ty}(hn:WF aD n){args:List Vl}(hl:args.length<=100000):M.cx aJ n args env=aa (mv env n args):=by
 obtain⟨r,hr,_⟩:=tl (n:=n) (args:=args) he hn hl;unfold mv;rw[hr];rfl
def Lb{env:bR.den}(he:kl env){n:Ty}(hn:WF aD n){args:List Vl}(hl:args.length<=100000):UF (mv env n args):=by
 obtain⟨r,hr,h⟩:=tl (n:=n) (args:=args) he hn hl;unfold mv;rw[hr];exact h
def pK(N:Nat)(op:Int):M.gA N op=aa (decide (50<=op/\op<=53)):=by
 unfold M.gA
 by_cases h:50<=op<;>simp[h]
def r9(N:Nat)(op:Int):M.dU N op=aa (decide (¬cI op/\(50<=op/\op<=53\/0<=ar op))):=by
 unfold M.dU;rw[DZ,pK,dE];simp only[aqI];unfold cI;by_cases h:op=23\/op=24\/op=26
 .simp[h]
 .by_cases h2:50<=op/\op<=53
  .simp[h,h2]
  .simp[h,h2]
def ux(N:Nat)(op:Int):M.lv N op=aa (decide (op=50\/op=52\/op=53)):=by
 unfold M.lv;by_cases h:op=50
 .simp[h]
 .by_cases h2:op=52
  .simp[h2]
  .simp[h,h2]
def gd(D:List Int)(k:Nat):Int:=D.getD k (-1)
theorem me{D:List Int}{t:Nat}(ht:t<D.length)(d:Int)(k:Nat):gd (D.set t d) k=if k=t then d else gd D k:=by
 unfold gd arm;by_cases h:k=t
 .subst h;rw[al rfl,List.getElem?_set_self ht];rfl
 .rw[aj h,List.getElem?_set_ne (by omega)]
def oh{D:List Int}{t:Nat}(ht:t<D.length):idx D (t:Int)=aa (gd D t):=by
 rw[aF ht];simp[gd,arm,ht]
def Bd(D:List Int):Prop:=∀k,-1<=gd D k/\gd D k<=12
structure Mn(D D':List Int)(i:Nat):Prop where
 len:D'.length=D.length
 keep:∀k,0<=gd D k->gd D' k=gd D k
 low:∀k,k<=i->gd D' k=gd D k
def Mn.trans{A B C:List Int}{i:Nat}(h:Mn A B i)(h':Mn B C i):Mn A C i:=
 ⟨h'.len.trans h.len,λk hk=>by rw[h'.keep k (by rw[h.keep k hk];exact hk),h.keep k hk],λk hk=>by rw[h'.low k hk,h.low k hk]⟩
def wE{N:Nat}{D:List Int}{t i:Nat}{d:Int}(ht:t<D.length)(uZ:i<t)(hd:0<=d/\d<=12)(hB:Bd D):Wp (M.bW N (t:Int) d D) λr=>(r.1=0->Mn D r.2 i/\Bd r.2/\gd r.2 t=d)/\(gd D t= -1->r=(0,D.set t d)):=by
 unfold M.bW;rw[oh ht];simp only[aqI,aQ];by_cases h0:0<=gd D t
 .rw[au h0];simp only[if_true];by_cases h1:gd D t=d
  .rw[aj (by simp[h1])]
   refine .some ⟨λ_=>⟨⟨by simp[bn],λk _=>?_,λk hk=>?_⟩,λk=>?_,?_⟩,λh=>by omega⟩<;>simp only[bn,aqR,me ht]
   .split
    .rename_i h;rw[h,h1]
    .rfl
   .rw[aj (by omega)]
   .split
    .omega
    .exact hB k
   .simp
  .rw[al (by simp[h1])];exact .some ⟨λh=>by simp at h,λh=>by omega⟩
 .rw[av h0];simp only[aqM,if_false]
  refine .some ⟨λ_=>⟨⟨by simp[bn],λk hk=>?_,λk hk=>?_⟩,λk=>?_,?_⟩,λh=>by simp[bn]⟩<;>simp only[bn,aqR,me ht]
  .rw[aj (λh=>by rw[h]at hk;exact h0 hk)]
  .rw[aj (by omega)]
  .split
   .omega
   .exact hB k
  .simp
def p5(len:Nat)(D:List Int)(j:Nat)(n:Ty):Prop:=
 ((n.1:Int)=51/\∃t:Nat,(n.2:Int)=t/\j<t/\t<=len/\gd D t=gd D j)\/
 (((n.1:Int)=50\/(n.1:Int)=52\/(n.1:Int)=53)/\1<=gd D j/\gd D (j+1)=gd D j-1/\∃t:Nat,(n.2:Int)=t/\j<t/\t<=len/\gd D t=if(n.1:Int)=50 then gd D j-1 else gd D j)\/
 ((n.1:Int)≠51/\¬((n.1:Int)=50\/(n.1:Int)=52\/(n.1:Int)=53)/\0<=ar n.1/\ar n.1<=gd D j/\gd D (j+1)=gd D j-ar n.1+1/\gd D j-ar n.1+1<=12)
def p5.mono{len j i:Nat}{D D':List Int}{n:Ty}(h:p5 len D j n)(hj:0<=gd D j)(m:Mn D D' i):p5 len D' j n:=by
 have e:=m.keep j hj
 rcases h with⟨h1,t,h2,h3,h4,h5⟩|⟨h1,h2,h3,t,h4,h5,h6,h7⟩|⟨h1,h2,h3,h4,h5,h6⟩
 .exact .inl ⟨h1,t,h2,h3,h4,by rw[m.keep t (by omega),h5,e]⟩
 .have e1:=m.keep (j+1) (by omega);have e2:=m.keep t (by rw[h7];split<;>omega);exact .inr (.inl ⟨h1,by omega,by omega,t,h4,h5,h6,by rw[e2,e];exact h7⟩)
 .have e1:=m.keep (j+1) (by omega);exact .inr (.inr ⟨h1,h2,h3,by omega,by omega,by omega⟩)
def Va{N:Nat}{code:List Ty}{D:List Int}{i:Nat}(hl:code.length<=128)(hi:i<code.length)(hD:D.length=code.length+1)(hB:Bd D)(h0:0<=gd D i):Wp (M.cQ N code (i:Int) code[i] D) λr=>r.1=0->Mn D r.2 i/\Bd r.2/\p5 code.length r.2 i code[i]/\¬cI code[i].1:=by
 unfold M.cQ;generalize code[i]=n;obtain⟨(op:Int),(m:Int)⟩:=n;dsimp only[aC,Row.den]at*;have EN:=lR op;have hBi:=hB i;rw[r9,pK,oh (by omega),dE,DZ];simp only[aqI,aQ];by_cases c1:¬cI op/\(50<=op/\op<=53\/0<=ar op)
 case neg=>
  rw[av c1];simp only[Bool.not_false,if_true]
  exact .some λh=>by simp at h
 rw[au c1];simp only[ari,aqM,if_false];by_cases c2:50<=op/\op<=53
 .rw[au c2];simp only[if_true];by_cases c3:m<=i\/(code.length:Int)<m
  .have:(if decide (m<=(i:Int))=af then af else decide ((code.length:Int)<m))=af:=by
    rcases c3 with c|c<;>simp[c]
   rw[al this]
   exact .some λh=>by simp at h
  have hc:(if decide (m<=(i:Int))=af then af else decide ((code.length:Int)<m))=ah:=by
   rw[aj (by simp;omega)];simp;omega
  rw[aj (by rw[hc];simp)]
  obtain⟨t,rfl⟩:∃t:Nat,m=t:=⟨m.toNat,by omega⟩
  refine Wp.dec (λc4=>?_) λc4=>?_
  .refine Wp.seq _ (wE (t:=t) (i:=i) (by omega) (by omega) (by omega) hB) λr hr=> .some λh=>?_
   obtain⟨a1,a2,a3⟩:=hr.1 h;exact⟨a1,a2, .inl ⟨c4,t,rfl,by omega,by omega,by rw[a3,a1.low i (aqS _)]⟩,c1.1⟩
  refine Wp.dec (λc5=>?_) λc5=>by omega
  refine Wp.dec (λc6=> .some λh=>by simp at h) λc6=>?_
  have w1:aqJ.wrap (gd D i-1)=gd D i-1:=aH (by omega) (by omega);rw[w1,aU (by omega)]
  refine Wp.seq _ (wE (t:=i+1) (i:=i) (by omega) (by omega) (by omega) hB) λr hr=>?_
  refine Wp.mO (λc7=> .some λh=>absurd h c7) λc7=>?_
  obtain⟨a1,a2,a3⟩:=hr.1 c7;have Ap:=a1.low i (aqS _)
  refine Wp.seq _ (wE (D:=r.2) (t:=t) (i:=i) (by rw[a1.len];omega) (by omega) (by split<;>omega) a2) λr' Db=> .some λh=>?_
  obtain⟨b1,b2,b3⟩:=Db.1 h;refine⟨a1.trans b1,b2, .inr (.inl ⟨c5,?_,?_,t,rfl,by omega,by omega,?_⟩),c1.1⟩
  .rw[b1.low i (aqS _)];show 1<=gd r.2 i;omega
  .show gd r'.2 (i+1)=gd r'.2 i-1
   rw[b1.low i (aqS _),b1.keep (i+1) (by omega)];omega
  .show gd r'.2 t=if op=50 then gd r'.2 i-1 else gd r'.2 i
   rw[b1.low i (aqS _),b3,Ap]
   by_cases Yv:op=50<;>simp[Yv]
 .rw[av c2];simp only[aqM,if_false]
  refine Wp.dec (λc4=>by omega) λc4=>?_
  refine Wp.dec (λc5=>by omega) λc5=>?_
  refine Wp.dec (λc6=> .some λh=>by simp at h) λc6=>?_
  have w1:aqJ.wrap (gd D i-ar op)=gd D i-ar op:=aH (by omega) (by omega);have w2:aqJ.wrap (gd D i-ar op+1)=gd D i-ar op+1:=aH (by omega) (by omega);rw[w1,w2]
  refine Wp.dec (λc7=> .some λh=>by simp at h) λc7=>?_
  rw[aU (by omega)]
  refine Wp.seq _ (wE (t:=i+1) (i:=i) (by omega) (by omega) (by omega) hB) λr hr=> .some λh=>?_
  obtain⟨a1,a2,a3⟩:=hr.1 h;have Ap:=a1.low i (aqS _);exact⟨a1,a2, .inr (.inr ⟨c4,c5,by show 0<=ar op;omega,by show ar op<=gd r.2 i;omega,by show gd r.2 (i+1)=gd r.2 i-ar op+1;omega,by show gd r.2 i-ar op+1<=12;omega⟩),c1.1⟩
structure Fits(code:List Ty)(F:List Int):Prop where
 pos:0<code.length
 le:code.length<=128
 len:F.length=code.length+1
 bd:Bd F
 first:gd F 0=0
 last:gd F code.length=1
 step:∀j(h:j<code.length),0<=gd F j->p5 code.length F j code[j]/\¬cI code[j].1
def Eh(n k:Nat):gd (aqO n (-1)) k= -1:=by
 unfold gd arm;by_cases h:k<n
 .simp[h]
 .rw[List.getElem?_eq_none (by simp;omega)];rfl
def ym(code:List Ty):Wp (M.dt aJ code) λy=>y.2=0->∃F,Fits code F:=by
 unfold M.dt
 refine Wp.dec (λh=> .some λh=>by simp at h) λh1=>?_
 refine Wp.dec (λh=> .some λh=>by simp at h) λh2=>?_
 have hl:code.length<=128:=by omega
 have hp:0<code.length:=by omega
 rw[aU (by omega)]
 have Bc:ol ((code.length+1:Nat):Int) (0:Int)=aa (aqO (code.length+1) 0):=by
  unfold ol;rw[al (by omega),aqR]
 rw[Bc];simp only[aqI];refine Wp.seq (· =aqO (code.length+1) (-1:Int)) ?_ ?_
 .refine Wp.loop (λs:Int×List Int=>∃k m:Nat,s=((k:Int),aqO k (-1)++aqO m 0)/\k+m=code.length+1) (λs=>(code.length+1-s.1).toNat) ⟨0,code.length+1,by simp,by omega⟩ (by unfold aJ;simp only;omega) ?_
  rintro _ ⟨k,m,rfl,hk⟩
  simp only[List.length_replicate]
  refine Wp.dec (λh=>?_) λh=> .some ?_
  .obtain⟨m,rfl⟩:∃m',m=m'+1:=⟨m-1,by omega⟩
   rw[aF (by simp)];simp only[aqI];rw[aU (by omega)];refine .some ⟨⟨k+1,m,?_,by omega⟩,by simp only;omega⟩;refine Prod.ext rfl ?_;simp only[bn,aqR];rw[List.set_append_right _ _ (by simp),List.replicate_succ];simp[List.replicate_succ']
  .obtain rfl:m=0:=by omega
   obtain rfl:k=code.length+1:=by omega
   show _=_
   simp
 rintro _ rfl
 have e1:idx (aqO (code.length+1) (-1:Int)) 0=aa (-1):=by rw[List.replicate_succ];rfl
 rw[e1];simp only[aqI];have e0:bn (aqO (code.length+1) (-1:Int)) (0:Int) (0:Int)=(aqO (code.length+1) (-1:Int)).set 0 0:=rfl;rw[e0]
 have g0:∀k,gd ((aqO (code.length+1) (-1:Int)).set 0 0) k=if k=0 then 0 else-1:=λk=>by
  rw[me (by simp),Eh]
 refine Wp.join (Wp.loop (λs:Int×Int×List Int=>∃i:Nat,s.2.1=i/\i<=code.length/\s.2.2.length=code.length+1/\Bd s.2.2/\gd s.2.2 0=0/\∀j(h:j<code.length),j<i->0<=gd s.2.2 j->p5 code.length s.2.2 j code[j]/\¬cI code[j].1) (λs=>(code.length-s.2.1).toNat) ⟨0,rfl,aq2 _,by simp,λk=>?_,?_,λj _ h=>by omega⟩ (by unfold aJ;simp only;omega) ?_)
 .simp only[g0];split<;>omega
 .simp only[g0];rfl
 rintro⟨g,at',D⟩ ⟨i,vy,hi,hD,hB,hz,hs⟩
 dsimp only at vy hi hD hB hz hs⊢;subst vy
 refine Wp.dec (λaI=>?_) λhge=> .some ?_
 .have aI:i<code.length:=by omega
  rw[aU (by omega),aF aI,oh (by omega)];simp only[aqI];refine Wp.join ?_
  refine Wp.dec (λJB=> .some ?_) λoZ=>?_
  .refine Wp.some ?_;refine⟨⟨i+1,rfl,aI,hD,hB,hz,λj h hj h0=>hs j h ?_ h0⟩,by simp only;omega⟩
   rcases Nat.lt_or_ge j i with h'|h'
   .exact h'
   .have:j=i:=by omega
    subst this;dsimp only at h0;omega
  .refine Wp.seq _ (Va hl aI hD hB (by omega)) λr hr=>?_
   refine Wp.mO (λdG=> .some ?_) λsB=> .some ?_
   .exact(λh=>absurd h dG:r.1=0->∃F,Fits code F)
   .obtain⟨a1,a2,a3,a4⟩:=hr sB;refine Wp.some ?_;refine⟨⟨i+1,rfl,aI,by rw[<-hD];exact a1.len,a2,by rw[<-hz];exact a1.low 0 (aq2 _),λj h hj h0=>?_⟩,by simp only;omega⟩
    rcases Nat.lt_or_ge j i with h'|h'
    .have e:=a1.low j (by omega)
     have h0':0<=gd D j:=by rw[<-e];exact h0
     obtain⟨b1,b2⟩:=hs j h h' h0';exact⟨b1.mono h0' a1,b2⟩
    .have:j=i:=by omega
     subst this;exact⟨a3,a4⟩
 .obtain rfl:i=code.length:=by omega
  show Wp ((idx D (code.length:Int)).bind _) _
  rw[oh (by omega)];simp only[aqI]
  refine Wp.dec (λh=> .some λh=>by simp at h) λh3=>?_
  refine Wp.dec (λh=> .some λh=>by simp at h) λh4=> .some λ_=>⟨D,hp,hl,hD,hB,hz,by omega,λj h h0=>hs j h h h0⟩
structure Cs(F D:List Int):Prop where
 len:D.length=F.length
 ok:∀k,gd D k= -1\/gd D k=gd F k
def Cs.set{F D:List Int}(c:Cs F D){t:Nat}(ht:t<F.length):Cs F (D.set t (gd F t)):=by
 refine⟨by rw[List.length_set,c.len],λk=>?_⟩;rw[me (by rw[c.len];exact ht)];split
 .rename_i h;rw[h];exact .inr rfl
 .exact c.ok k
def pH{N:Nat}{F D:List Int}(c:Cs F D){t:Nat}(ht:t<F.length):M.bW N (t:Int) (gd F t) D=aa (0,D.set t (gd F t)):=by
 have htD:t<D.length:=by rw[c.len];exact ht
 unfold M.bW;rw[oh htD];simp only[aqI,aQ]
 rcases c.ok t with h|h
 .rw[h];rfl
 .rw[h]
  by_cases h0:0<=gd F t<;>simp[h0,bn]
def JT{N:Nat}{code:List Ty}{F D:List Int}(f:Fits code F)(c:Cs F D){i:Nat}(hi:i<code.length)(h0:gd D i=gd F i)(hp:0<=gd F i):Wp (M.cQ N code (i:Int) code[i] D) λr=>r.1=0/\Cs F r.2/\∃t,i<t/\t<=code.length/\0<=gd r.2 t:=by
 have hle:=f.le;have Zm:=f.len;have hDl:=c.len;have hb:=f.bd i;have Ko:=f.bd (i+1);obtain⟨hs,NU⟩:=f.step i hi hp;unfold M.cQ;generalize code[i]=n at*;obtain⟨(op:Int),(m:Int)⟩:=n;dsimp only[aC,Row.den]at*;have EN:=lR op;rw[r9,pK,oh (by omega),dE,DZ,h0];simp only[aqI]
 have e0:(50<=op/\op<=53\/0<=ar op)->(50<=op/\op<=53->(i:Int)<m/\m<=(code.length:Int))->(if(!decide (¬cI op/\(50<=op/\op<=53\/0<=ar op)))=af then aa af else(if decide (50<=op/\op<=53)=af then(if decide (m<=(i:Int))=af then aa af else aa (decide ((code.length:Int)<m)))else aa ah))=aa ah:=by
  intro g1 g2;rw[au (show¬cI op/\(50<=op/\op<=53\/0<=ar op)from⟨NU,g1⟩),aj (by simp)];by_cases g:50<=op/\op<=53
  .obtain⟨g3,g4⟩:=g2 g;rw[au g,al rfl,av (by omega),aj (by simp),av (by omega)]
  .rw[av g,aj (by simp)]
 rcases hs with⟨h1,t,h2,h3,h4,h5⟩|⟨h1,h2,h3,t,h4,h5,h6,h7⟩|⟨h1,h2,h3,h4,h5,h6⟩
 .dsimp only[aC,Row.den]at*;subst h2;rw[e0 (.inl (by omega)) (λ_=>by omega)];simp only[aqI,aqM,if_false]
  refine Wp.dec (λ_=>?_) λh=>absurd h1 h
  rw[<-h5,pH c (by omega)];refine .some ⟨rfl,c.set (by omega),t,h3,h4,?_⟩
  show 0<=gd (D.set t (gd F t)) t
  rw[me (by omega),al rfl];omega
 .dsimp only[aC,Row.den]at*;subst h4;rw[e0 (.inl (by omega)) (λ_=>by omega)];simp only[aqI,aqM,if_false]
  refine Wp.dec (λh=>by omega) λ_=>?_
  refine Wp.dec (λ_=>?_) λh=>absurd h1 h
  refine Wp.dec (λh=>by omega) λ_=>?_
  have w1:aqJ.wrap (gd F i-1)=gd F (i+1):=by rw[aH (by omega) (by omega),h3]
  rw[w1,aU (by omega),pH c (by omega)];have c1:=c.set (t:=i+1) (by omega);simp only[aqI]
  refine Wp.mO (λh=>absurd trivial h) λ_=>?_
  have e7:(if decide (op=50)=af then aa (gd F (i+1))else aa (gd F i))=aa (gd F t):=by
   by_cases Yv:op=50
   .rw[au Yv,al rfl,h7,al Yv,h3]
   .rw[av Yv,aj (by simp),h7,aj Yv]
  rw[e7];simp only[aqI];rw[pH c1 (by omega)];have c2:=c1.set (t:=t) (by omega);refine .some ⟨rfl,c2,t,h5,h6,?_⟩
  show 0<=gd (((D.set (i+1) (gd F (i+1)))).set t (gd F t)) t
  rw[me (by rw[List.length_set];omega),al rfl,h7]
  split<;>omega
 .dsimp only[aC,Row.den]at*
  have fJ:¬(50<=op/\op<=53):=by
   intro h
   have:op=50\/op=51\/op=52\/op=53:=by omega
   omega
  rw[e0 (.inr h3) (λh=>absurd h fJ)];simp only[aqI,aqM,if_false]
  refine Wp.dec (λh=>absurd h h1) λ_=>?_
  refine Wp.dec (λh=>absurd h h2) λ_=>?_
  refine Wp.dec (λh=>by omega) λ_=>?_
  have w1:aqJ.wrap (gd F i-ar op)=gd F i-ar op:=aH (by omega) (by omega)
  have w2:aqJ.wrap (gd F i-ar op+1)=gd F (i+1):=by rw[aH (by omega) (by omega),h5]
  rw[w1,w2]
  refine Wp.dec (λh=>by omega) λ_=>?_
  rw[aU (by omega),pH c (by omega)];refine .some ⟨rfl,c.set (by omega),i+1,by omega,by omega,?_⟩
  show 0<=gd (D.set (i+1) (gd F (i+1))) (i+1)
  rw[me (by omega),al rfl];omega
def Fits.verify{code:List Ty}{F:List Int}(f:Fits code F):Wp (M.dt aJ code) λy=>y.2=0:=by
 have hl:=f.le;have hp:=f.pos;have Zm:=f.len;unfold M.dt
 refine Wp.dec (λh=>by omega) λh1=>?_
 refine Wp.dec (λh=>by omega) λh2=>?_
 rw[aU (by omega)]
 have Bc:ol ((code.length+1:Nat):Int) (0:Int)=aa (aqO (code.length+1) 0):=by
  unfold ol;rw[al (by omega),aqR]
 rw[Bc];simp only[aqI];refine Wp.seq (· =aqO (code.length+1) (-1:Int)) ?_ ?_
 .refine Wp.loop (λs:Int×List Int=>∃k m:Nat,s=((k:Int),aqO k (-1)++aqO m 0)/\k+m=code.length+1) (λs=>(code.length+1-s.1).toNat) ⟨0,code.length+1,by simp,by omega⟩ (by unfold aJ;simp only;omega) ?_
  rintro _ ⟨k,m,rfl,hk⟩
  simp only[List.length_replicate]
  refine Wp.dec (λh=>?_) λh=> .some ?_
  .obtain⟨m,rfl⟩:∃m',m=m'+1:=⟨m-1,by omega⟩
   rw[aF (by simp)];simp only[aqI];rw[aU (by omega)];refine .some ⟨⟨k+1,m,?_,by omega⟩,by simp only;omega⟩;refine Prod.ext rfl ?_;simp only[bn,aqR];rw[List.set_append_right _ _ (by simp),List.replicate_succ];simp[List.replicate_succ']
  .obtain rfl:m=0:=by omega
   obtain rfl:k=code.length+1:=by omega
   show _=_
   simp
 rintro _ rfl
 have e1:idx (aqO (code.length+1) (-1:Int)) 0=aa (-1):=by rw[List.replicate_succ];rfl
 rw[e1];simp only[aqI];have e0:bn (aqO (code.length+1) (-1:Int)) (0:Int) (0:Int)=(aqO (code.length+1) (-1:Int)).set 0 0:=rfl;rw[e0]
 have g0:∀k,gd ((aqO (code.length+1) (-1:Int)).set 0 0) k=if k=0 then 0 else-1:=λk=>by
  rw[me (by simp),Eh]
 refine Wp.join (Wp.loop (λs:Int×Int×List Int=>∃i:Nat,s.2.1=i/\i<=code.length/\Cs F s.2.2/\∃k,i<=k/\k<=code.length/\0<=gd s.2.2 k) (λs=>(code.length-s.2.1).toNat) ⟨0,rfl,aq2 _,⟨by simp[Zm],λk=>?_⟩,0,aqS _,aq2 _,?_⟩ (by unfold aJ;simp only;omega) ?_)
 .simp only[g0];split
  .rename_i h;rw[h,f.first];exact .inr rfl
  .exact .inl rfl
 .simp only[g0];decide
 rintro⟨g,at',D⟩ ⟨i,vy,hi,hc,k,MX,Pj,hk3⟩
 dsimp only at vy hi hc hk3⊢;subst vy;have hDl:=hc.len
 refine Wp.dec (λaI=>?_) λhge=> .some ?_
 .have aI:i<code.length:=by omega
  rw[aU (by omega),aF aI,oh (by omega)];simp only[aqI];refine Wp.join ?_
  refine Wp.dec (λJB=> .some ?_) λoZ=>?_
  .refine Wp.some ⟨⟨i+1,rfl,aI,hc,k,?_,Pj,hk3⟩,by simp only;omega⟩;by_cases e:k=i
   .subst e;omega
   .omega
  have hgi:gd D i=gd F i:=(hc.ok i).resolve_left (by omega)
  refine Wp.seq _ (JT f hc aI hgi (by omega)) λr hr=>?_
  obtain⟨r1,r2,t,r3,r4,r5⟩:=hr
  refine Wp.mO (λh=>absurd r1 h) λ_=> .some ?_
  exact Wp.some ⟨⟨i+1,rfl,aI,r2,t,r3,r4,r5⟩,by simp only;omega⟩
 .obtain rfl:i=code.length:=by omega
  show Wp ((idx D (code.length:Int)).bind _) _
  obtain rfl:k=code.length:=by omega
  rw[oh (by omega),(hc.ok _).resolve_left (by omega),f.last];exact .some rfl
end L.P.Q
namespace L.P.Q
def Hp{α:Type}(p:List α)(x:α):idx (p++[x]) (p.length:Int)=aa x:=by
 rw[aF (by simp)];simp
def Ei(n:Ty)(top:Vl):Bool:=decide (decide ((top.2.2:Int)=1)=decide ((n.1:Int)=53))
inductive dF(code:List Ty)(env:bR.den):Nat->List Vl->Vl×Int->Prop
 |done {v:Vl} {S:List Vl}:dF code env code.length (v::S) (v,0)
 |jump {p t:Nat} {S:List Vl} {r:Vl×Int} {n:Ty} (h:code[p]? =aa n) (tB:(n.1:Int)=51) (ht:(n.2:Int)=t) (JO:p<t) (A9:t<=code.length) (next:dF code env t S r):dF code env p S r
 |op {p a:Nat} {S:List Vl} {r:Vl×Int} {n:Ty} (h:code[p]? =aa n) (dG:¬(50<=(n.1:Int)/\(n.1:Int)<=53)) (ha:ar n.1=a) (hs:a<=S.length) (h0:(mv env n (S.drop (S.length-a))).2=0) (next:dF code env (p+1) (S.take (S.length-a)++[(mv env n (S.drop (S.length-a))).1]) r):dF code env p S r
 |fail {p a:Nat} {S:List Vl} {n:Ty} (h:code[p]? =aa n) (dG:¬(50<=(n.1:Int)/\(n.1:Int)<=53)) (ha:ar n.1=a) (hs:a<=S.length) (h0:(mv env n (S.drop (S.length-a))).2≠0):dF code env p S (z3,(mv env n (S.drop (S.length-a))).2)
 |cond {p t:Nat} {S:List Vl} {r:Vl×Int} {n:Ty} {top:Vl} (h:code[p]? =aa n) (fJ:(n.1:Int)=50\/(n.1:Int)=52\/(n.1:Int)=53) (ht:(n.2:Int)=t) (JO:p<t) (A9:t<=code.length) (hk:(top.1:Int)=1) (hv:(top.2.2:Int)=0\/(top.2.2:Int)=1) (next:dF code env (if Ei n top=af then t else p+1) (if Ei n top=ah\/(n.1:Int)=50 then S else S++[top]) r):dF code env p (S++[top]) r
 |cbad {p:Nat} {S:List Vl} {n:Ty} {top:Vl} (h:code[p]? =aa n) (fJ:(n.1:Int)=50\/(n.1:Int)=52\/(n.1:Int)=53) (hk:¬((top.1:Int)=1/\((top.2.2:Int)=0\/(top.2.2:Int)=1))):dF code env p (S++[top]) (z3,8)
def RZ{code:List Ty}{env:bR.den}{r:Vl×Int}(he:kl env)(hw:∀n∈code,WF aD n)(hl:code.length<=128)(aiR:Wp (M.dt aJ code) λy=>y.2=0)(hr:dF code env 0 [] r):Wp (M.rL aJ code env) λx=>x.1=r.1/\x.2.2=r.2:=by
 unfold M.rL
 refine Wp.seq _ aiR λy hy=>?_
 refine Wp.mO (λh=>absurd hy h) λ_=>?_
 refine Wp.join (Wp.loop (λs:Int×Int×List Vl=>∃q k:Nat,s.1=q/\s.2.1=k/\k<=code.length/\q<=k/\s.2.2.length<=k/\dF code env k s.2.2 r) (λs=>(code.length-s.2.1).toNat) ⟨0,0,rfl,rfl,aq2 _,aqS _,aqS _,hr⟩ (by unfold aJ;simp only;omega) ?_)
 rintro⟨_,_,kz⟩ ⟨q,k,rfl,rfl,hk,hq,Zg,cO⟩
 dsimp only at Zg cO⊢
 cases cO with
 | @done v S=>
   refine Wp.dec (λh=>by omega) λ_=> .some ?_
   show Wp ((idx (v::S) (0:Int)).bind _) _
   exact .some ⟨rfl,rfl⟩
 | @jump _ t _ _ n h tB ht JO A9 next=>
   obtain⟨aI,hn⟩:=aqQ.1 h
   refine Wp.dec (λ_=>?_) λh=>by omega
   rw[aF aI,hn];simp only[aqI];rw[aU (k:=q) (by omega)];refine Wp.join (Wp.dec (λ_=> .some ?_) λh=>absurd tB h);refine Wp.some ⟨⟨q+1,t,rfl,ht,A9,by omega,by show kz.length<=t;omega,next⟩,?_⟩;simp only[ht];omega
 | @op _ a _ _ n h dG ha hs h0 next=>
   obtain⟨aI,hn⟩:=aqQ.1 h;have Ly:WF aD n:=hw n (arJ h)
   refine Wp.dec (λ_=>?_) λh=>by omega
   rw[aF aI,hn];simp only[aqI,ux,dE,aQ];rw[aU (k:=q) (by omega)]
   have n1:¬(n.1:Int)=51:=λh=>dG (by rw[h];decide)
   have n2:¬((n.1:Int)=50\/(n.1:Int)=52\/(n.1:Int)=53):=λh=>dG (by rcases h with h|h|h<;>rw[h]<;>decide)
   refine Wp.join (Wp.dec (λh=>absurd h n1) λ_=>?_);rw[av n2];simp only[Bool.not_false,if_true]
   have wl:aqJ.wrap ((kz.length:Int)-(a:Int))=((kz.length-a:Nat):Int):=by rw[aH (by omega) (by omega)];omega
   rw[ha,wl,pA (kz.length-a) kz.length rfl rfl (by omega) (aqS _),jC (by omega),ara,aU (k:=k) (by omega)];simp only[aqI];rw[La he Ly (by simp;omega)];simp only[aqI]
   refine Wp.mO (λh=>absurd h0 h) λ_=>?_
   rw[br (by simp;omega)];simp only[aqI];refine .some (Wp.some ⟨⟨q+1,k+1,rfl,rfl,aI,by omega,?_,next⟩,by simp only;omega⟩);simp;omega
 | @fail _ a _ n h dG ha hs h0=>
   obtain⟨aI,hn⟩:=aqQ.1 h;have Ly:WF aD n:=hw n (arJ h)
   refine Wp.dec (λ_=>?_) λh=>by omega
   rw[aF aI,hn];simp only[aqI,ux,dE,aQ]
   have n1:¬(n.1:Int)=51:=λh=>dG (by rw[h];decide)
   have n2:¬((n.1:Int)=50\/(n.1:Int)=52\/(n.1:Int)=53):=λh=>dG (by rcases h with h|h|h<;>rw[h]<;>decide)
   refine Wp.join (Wp.dec (λh=>absurd h n1) λ_=>?_);rw[av n2];simp only[Bool.not_false,if_true]
   have wl:aqJ.wrap ((kz.length:Int)-(a:Int))=((kz.length-a:Nat):Int):=by rw[aH (by omega) (by omega)];omega
   rw[ha,wl,pA (kz.length-a) kz.length rfl rfl (by omega) (aqS _),ara];simp only[aqI];rw[La he Ly (by simp;omega)];simp only[aqI]
   refine Wp.mO (λ_=> .some ?_) λh=>absurd h h0
   exact⟨rfl,rfl⟩
 | @cond _ t S _ n top h fJ ht JO A9 hkd hv next=>
   obtain⟨aI,hn⟩:=aqQ.1 h
   refine Wp.dec (λ_=>?_) λh=>by omega
   rw[aF aI,hn];simp only[aqI,ux,dE,aQ];rw[aU (k:=q) (by omega)]
   have n1:¬(n.1:Int)=51:=λh=>by rcases fJ with g|g|g<;>(rw[h]at g;exact absurd g (by decide))
   refine Wp.join (Wp.dec (λh=>absurd h n1) λ_=>?_);rw[au fJ];simp only[ari,aqM,if_false];rw[aqT,aq8]at Zg⊢
   have wl:aqJ.wrap (((S.length+1:Nat):Int)-1)=(S.length:Int):=by rw[aH (by omega) (by omega)];omega
   rw[wl,Hp S top];simp only[aqI];rw[aj (by rw[hkd];rcases hv with g|g<;>rw[g]<;>simp)];rw[jC (by simp),aU (k:=k) (by omega),List.take_append_of_le_length (aqS _),ara];simp only[aqI]
   have Zk:∀b:Bool,(if b=af then n.2 else((k+1:Nat):Int))=((if b=af then t else k+1:Nat):Int):=λb=>by cases b<;>simp[ht]
   rw[Zk];have hb:decide (decide ((top.2.2:Int)=1)=decide ((n.1:Int)=53))=Ei n top:=rfl;rw[hb];generalize Ei n top=b at*
   have fin:∀(S':List Vl),S'.length<=k->dF code env (if b=af then t else k+1) S' r->Cy (λs:Int×Int×List Vl=>∃q k:Nat,s.1=q/\s.2.1=k/\k<=code.length/\q<=k/\s.2.2.length<=k/\dF code env k s.2.2 r) (λs=>(code.length-s.2.1).toNat) ((q:Int),(k:Int),S++[top]) (vZ (λj2:Int×List Vl=>(idx j2.2 0).bind λx17=>aa (x17,j2.1,0)) λx:Vl×Int×Int=>x.1=r.1/\x.2.2=r.2) (arj (((q+1:Nat):Int),((if b=af then t else k+1:Nat):Int),S')):=by
    intro S' hS hR;refine⟨⟨q+1,if b=af then t else k+1,rfl,rfl,by split<;>omega,by split<;>omega,by show S'.length<=_;split<;>omega,hR⟩,?_⟩
    simp only;split<;>omega
   refine Wp.ite (λhp=> .some ?_) λhp=> .some ?_
   .have hx:b=ah\/(n.1:Int)=50:=by
     cases b with
     |false=>exact .inl rfl
     |true=>exact .inr (by simpa using hp)
    have ex:(if b=ah\/(n.1:Int)=50 then S else S++[top])=S:=al hx
    rw[ex]at next
    exact Wp.some (fin S (by omega) next)
   .have hx:¬(b=ah\/(n.1:Int)=50):=by
     cases b with
     |false=>simp at hp
     |true=>simpa using hp
    have ex:(if b=ah\/(n.1:Int)=50 then S else S++[top])=S++[top]:=aj hx
    rw[ex]at next
    exact Wp.some (fin (S++[top]) (by rw[aqT,aq8];exact Zg) next)
 | @cbad _ S n top h fJ RR=>
   obtain⟨aI,hn⟩:=aqQ.1 h
   refine Wp.dec (λ_=>?_) λh=>by omega
   rw[aF aI,hn];simp only[aqI,ux,dE,aQ]
   have n1:¬(n.1:Int)=51:=λh=>by rcases fJ with g|g|g<;>(rw[h]at g;exact absurd g (by decide))
   refine Wp.join (Wp.dec (λh=>absurd h n1) λ_=>?_);rw[au fJ];simp only[ari,aqM,if_false];rw[aqT,aq8]at Zg⊢
   have wl:aqJ.wrap (((S.length+1:Nat):Int)-1)=(S.length:Int):=by rw[aH (by omega) (by omega)];omega
   rw[wl,Hp S top];simp only[aqI]
   rw[al (by
    by_cases h1:(top.1:Int)=1
    .have h2:¬(top.2.2:Int)=0:=λh=>RR ⟨h1, .inl h⟩
     have h3:¬(top.2.2:Int)=1:=λh=>RR ⟨h1, .inr h⟩
     simp[h1,h2,h3]
    .simp[h1])]
   exact .some ⟨rfl,rfl⟩
end L.P.Q
section
namespace L.P.Q
def nat_eq{u t:Nat}{x:Int}(h1:x=u)(h2:x=t):u=t:=by omega
def nX(n:Ty):Prop:=50<=(n.1:Int)/\(n.1:Int)<=53
instance(n:Ty):Decidable (nX n):=by unfold nX;infer_instance
def CR(n:Ty):Prop:=(n.1:Int)=50\/(n.1:Int)=52\/(n.1:Int)=53
def CR.nX{n:Ty}(h:CR n):nX n:=by
 obtain⟨(o:Int),(m:Int)⟩:=n;unfold CR at h;unfold L.P.Q.nX;dsimp only[aC,Row.den]at*;omega
def uP{n:Ty}(h:(n.1:Int)=51):nX n:=by
 obtain⟨(o:Int),(m:Int)⟩:=n;unfold nX;dsimp only[aC,Row.den]at*;omega
def pL{n:Ty}(h:nX n):(n.1:Int)=51\/CR n:=by
 obtain⟨(o:Int),(m:Int)⟩:=n;unfold nX at h;unfold CR;dsimp only[aC,Row.den]at*;omega
def qO{n:Ty}(h:CR n):¬(n.1:Int)=51:=by
 obtain⟨(o:Int),(m:Int)⟩:=n;unfold CR at h;dsimp only[aC,Row.den]at*;omega
def Hq{n:Ty}(h:nX n):¬cI n.1:=by
 obtain⟨(o:Int),(m:Int)⟩:=n;unfold nX at h;unfold cI;dsimp only[aC,Row.den]at*;omega
section
variable {a b:List Ty} {env:bR.den} {p:Nat} {S:List Vl} {r:Vl×Int} {n:Ty}
def dF.YC(hr:dF a env p S r)(hp:p=a.length):∃v S',S=v::S'/\r=(v,0):=by
 have no:∀{n:Ty},a[p]? =aa n->False:=λ{n}h=>by subst hp;simp at h
 cases hr with
 |done=>exact⟨_,_,rfl,rfl⟩
 |jump h=>exact(no h).elim
 |op h=>exact(no h).elim
 |fail h=>exact(no h).elim
 |cond h=>exact(no h).elim
 |cbad h=>exact(no h).elim
def dF.R1(hr:dF a env p S r)(hn:a[p]? =aa n)(hj:¬nX n):∃k:Nat,ar n.1=k/\k<=S.length/\
 (((mv env n (S.drop (S.length-k))).2=0/\dF a env (p+1) (S.take (S.length-k)++[(mv env n (S.drop (S.length-k))).1]) r)\/((mv env n (S.drop (S.length-k))).2≠0/\r=(z3,(mv env n (S.drop (S.length-k))).2))):=by
 cases hr with
 |done=>simp at hn
 |jump h tB=>obtain rfl:=aqL (h.symm.trans hn);exact absurd (uP tB) hj
 |op h dG ha hs h0 next=>obtain rfl:=aqL (h.symm.trans hn);exact⟨_,ha,hs, .inl ⟨h0,next⟩⟩
 |fail h dG ha hs h0=>obtain rfl:=aqL (h.symm.trans hn);exact⟨_,ha,hs, .inr ⟨h0,rfl⟩⟩
 |cond h fJ=>obtain rfl:=aqL (h.symm.trans hn);exact absurd (CR.nX fJ) hj
 |cbad h fJ=>obtain rfl:=aqL (h.symm.trans hn);exact absurd (CR.nX fJ) hj
def dF.LD(hr:dF a env p S r)(hn:a[p]? =aa n)(tB:(n.1:Int)=51):∃t:Nat,(n.2:Int)=t/\p<t/\t<=a.length/\dF a env t S r:=by
 cases hr with
 |done=>simp at hn
 |jump h _ ht JO A9 next=>obtain rfl:=aqL (h.symm.trans hn);exact⟨_,ht,JO,A9,next⟩
 |op h dG=>obtain rfl:=aqL (h.symm.trans hn);exact absurd (uP tB) dG
 |fail h dG=>obtain rfl:=aqL (h.symm.trans hn);exact absurd (uP tB) dG
 |cond h fJ=>obtain rfl:=aqL (h.symm.trans hn);exact absurd tB (qO fJ)
 |cbad h fJ=>obtain rfl:=aqL (h.symm.trans hn);exact absurd tB (qO fJ)
def Ed(top:Vl):Prop:=(top.1:Int)=1/\((top.2.2:Int)=0\/(top.2.2:Int)=1)
def dF.Vb(hr:dF a env p S r)(hn:a[p]? =aa n)(hc:CR n):∃S' top,S=S'++[top]/\((¬Ed top/\r=(z3,8))\/
 (Ed top/\∃t:Nat,(n.2:Int)=t/\p<t/\t<=a.length/\dF a env (if Ei n top=af then t else p+1) (if Ei n top=ah\/(n.1:Int)=50 then S' else S'++[top]) r)):=by
 cases hr with
 |done=>simp at hn
 |jump h tB=>obtain rfl:=aqL (h.symm.trans hn);exact absurd tB (qO hc)
 |op h dG=>obtain rfl:=aqL (h.symm.trans hn);exact absurd (CR.nX hc) dG
 |fail h dG=>obtain rfl:=aqL (h.symm.trans hn);exact absurd (CR.nX hc) dG
 |cond h fJ ht JO A9 hk hv next=>obtain rfl:=aqL (h.symm.trans hn);exact⟨_,_,rfl, .inr ⟨⟨hk,hv⟩,_,ht,JO,A9,next⟩⟩
 |cbad h fJ hk=>obtain rfl:=aqL (h.symm.trans hn);exact⟨_,_,rfl, .inl ⟨hk,rfl⟩⟩
def dF.lit{v:Vl}(hr:dF a env p S r)(hn:a[p]? =aa n)(hj:¬nX n)(h0:ar n.1=0)(hv:mv env n []=(v,0)):dF a env (p+1) (S++[v]) r:=by
 obtain⟨k,h1,h2,h3⟩:=hr.R1 hn hj
 obtain rfl:k=0:=by omega
 rw[Nat.sub_zero,List.drop_length,ara,hv]at h3
 rcases h3 with h3|h3
 .exact h3.2
 .exact absurd rfl h3.1
def dF.opI{vs:List Vl}{v:Vl}(hr:dF a env p (S++vs) r)(hn:a[p]? =aa n)(hj:¬nX n)(h0:ar n.1=(vs.length:Int))(hv:mv env n vs=(v,0)):dF a env (p+1) (S++[v]) r:=by
 obtain⟨k,h1,h2,h3⟩:=hr.R1 hn hj
 obtain rfl:k=vs.length:=by omega
 rw[aqT,Nat.add_sub_cancel,List.drop_left,List.take_left,hv]at h3
 rcases h3 with h3|h3
 .exact h3.2
 .exact absurd rfl h3.1
end
inductive Ta(a b:List Ty)(R:Nat->Nat->Prop)(p q:Nat):Prop
 |op {n:Ty} (ha:a[p]? =aa n) (hb:b[q]? =aa n) (hn:¬nX n) (hr:R (p+1) (q+1)):Ta a b R p q
 |jump {n n':Ty} {t t':Nat} (ha:a[p]? =aa n) (hb:b[q]? =aa n') (h1:(n.1:Int)=51) (h2:(n'.1:Int)=51) (e1:(n.2:Int)=t) (e2:(n'.2:Int)=t') (hq:q<t') (hr:R t t'):Ta a b R p q
 |cond {n n':Ty} {t t':Nat} (ha:a[p]? =aa n) (hb:b[q]? =aa n') (h1:CR n) (h2:(n'.1:Int)=n.1) (e1:(n.2:Int)=t) (e2:(n'.2:Int)=t') (hq:q<t') (hr:R t t') (hs:R (p+1) (q+1)):Ta a b R p q
 |block {k:Nat} {n m:Ty} {vs:List Vl} {v:Vl} (hl:∀j,j<k->∃x y,a[p+j]? =aa x/\vs[j]? =aa y/\¬nX x/\ar x.1=0/\∀env,kl env->mv env x []=(y,0)) (hk:vs.length=k) (hn:a[p+k]? =aa n) (hj:¬nX n) (ha:ar n.1=k)
   (hv:∀env,kl env->mv env n vs=(v,0)) (hm:b[q]? =aa m) (Wv:¬nX m) (ham:ar m.1=0) (NU:¬cI m.1) (hvm:∀env,kl env->mv env m []=(v,0)) (hr:R (p+k+1) (q+1)):Ta a b R p q
structure Vc(a b:List Ty)(F F':List Int)(R:Nat->Nat->Prop):Prop where
 fits:Fits a F
 pos:0<b.length
 le:b.length<=128
 len:F'.length=b.length+1
 bd:Bd F'
 dep:∀p q,R p q->0<=gd F p/\p<=a.length/\q<=b.length/\gd F' q=gd F p
 st:∀p q,R p q->(p=a.length/\q=b.length)\/Ta a b R p q\/∃(n:Ty)(t:Nat),a[p]? =aa n/\(n.1:Int)=51/\(n.2:Int)=t/\R t q
 back:∀q,q<b.length->0<=gd F' q->∃p,R p q/\Ta a b R p q
 zero:R 0 0
 fin:R a.length b.length
section
variable {a b:List Ty} {F F':List Int} {R:Nat->Nat->Prop}
def Fits.at(f:Fits a F){p:Nat}{n:Ty}(hn:a[p]? =aa n)(h0:0<=gd F p):p5 a.length F p n/\¬cI n.1:=by
 obtain⟨h,rfl⟩:=aqQ.1 hn;exact f.step p h h0
def Fits.op(f:Fits a F){p:Nat}{n:Ty}(hn:a[p]? =aa n)(hj:¬nX n)(h0:0<=gd F p):0<=ar n.1/\ar n.1<=gd F p/\gd F (p+1)=gd F p-ar n.1+1/\gd F p-ar n.1+1<=12/\¬cI n.1:=by
 obtain⟨h1,h2⟩:=f.at hn h0
 rcases h1 with⟨h,_⟩|⟨h,_⟩|⟨_,_,g1,g2,g3,g4⟩
 .exact absurd (uP h) hj
 .exact absurd (CR.nX h) hj
 .exact⟨g1,g2,g3,g4,h2⟩
def vt(f:Fits a F){p:Nat}(h0:0<=gd F p):∀(k:Nat),(∀j,j<k->∃x:Ty,a[p+j]? =aa x/\¬nX x/\ar x.1=0)->gd F (p+k)=gd F p+k
 |0,_=>by simp
 |k+1,h=>by
  have ih:=vt f h0 k λj hj=>h j (by omega)
  obtain⟨x,h1,h2,h3⟩:=h k (by omega);obtain⟨_,_,g,_⟩:=f.op h1 h2 (by omega);rw[<-Nat.add_assoc,g];omega
def Vc.to(s:Vc a b F F' R):Fits b F':=by
 refine⟨s.pos,s.le,s.len,s.bd,?_,?_,λq hq h0=>?_⟩
 .rw[(s.dep _ _ s.zero).2.2.2];exact s.fits.first
 .rw[(s.dep _ _ s.fin).2.2.2];exact s.fits.last
 obtain⟨p,hR,g⟩:=s.back q hq h0;obtain⟨d1,d2,d3,d4⟩:=s.dep p q hR
 cases g with
 | @op n ha hb hn hr=>
   have e:b[q]=n:=(aqQ.1 hb).2;obtain⟨g1,g2,g3,g4,g5⟩:=s.fits.op ha hn d1;obtain⟨_,_,_,d5⟩:=s.dep _ _ hr;rw[e];exact⟨.inr (.inr ⟨λh=>hn (uP h),λh=>hn (CR.nX h),g1,by omega,by omega,by omega⟩),g5⟩
 | @jump n n' t t' ha hb h1 h2 e1 e2 sC hr=>
   have e:b[q]=n':=(aqQ.1 hb).2;obtain⟨g1,_⟩:=s.fits.at ha d1;obtain⟨_,_,c3,d5⟩:=s.dep _ _ hr;rw[e];refine⟨.inl ⟨h2,t',e2,sC,c3,?_⟩,Hq (uP h2)⟩
   rcases g1 with⟨_,u,u1,u2,u3,u4⟩|⟨h,_⟩|⟨h,_⟩
   .have:u=t:=nat_eq u1 e1;subst this;omega
   .exact absurd h1 (qO h)
   .exact absurd h1 h
 | @cond n n' t t' ha hb h1 h2 e1 e2 sC hr hs=>
   have e:b[q]=n':=(aqQ.1 hb).2;obtain⟨g1,_⟩:=s.fits.at ha d1;obtain⟨_,_,c3,d5⟩:=s.dep _ _ hr;obtain⟨_,_,_,d6⟩:=s.dep _ _ hs
   have Da:CR n':=by unfold CR;rw[h2];exact h1
   rw[e];refine⟨.inr (.inl ⟨Da,?_⟩),Hq Da.nX⟩
   rcases g1 with⟨h,_⟩|⟨_,g2,g3,u,u1,u2,u3,u4⟩|⟨_,h,_⟩
   .exact absurd h (qO h1)
   .have:u=t:=nat_eq u1 e1;subst this;refine⟨by omega,by omega,t',e2,sC,c3,?_⟩;rw[d5,u4,d4,h2]
   .exact absurd h1 h
 | @block k n m vs v hl hk hn hj ha hv hm Wv ham NU hvm hr=>
   have e:b[q]=m:=(aqQ.1 hm).2
   have hd:=vt s.fits d1 k λj hj=>by
    obtain⟨x,_,x1,_,x2,x3,_⟩:=hl j hj;exact⟨x,x1,x2,x3⟩
   obtain⟨g1,g2,g3,g4,_⟩:=s.fits.op hn hj (by omega);obtain⟨_,_,_,d5⟩:=s.dep _ _ hr;rw[e];exact⟨.inr (.inr ⟨λh=>Wv (uP h),λh=>Wv (CR.nX h),by omega,by omega,by omega,by omega⟩),NU⟩
def dF.lits{env:bR.den}{p:Nat}{S:List Vl}{r:Vl×Int}{vs:List Vl}:∀(k:Nat),k<=vs.length->(∀j,j<k->∃(x:Ty)(y:Vl),a[p+j]? =aa x/\vs[j]? =aa y/\¬nX x/\ar x.1=0/\mv env x []=(y,0))->dF a env p S r->dF a env (p+k) (S++vs.take k) r
 |0,_,_,h=>by simpa using h
 |k+1,hk,hl,h=>by
  have ih:=dF.lits k (by omega) (λj hj=>hl j (by omega)) h;obtain⟨x,y,h1,h2,h3,h4,h5⟩:=hl k (by omega);have:=ih.lit h1 h3 h4 h5
  have e:vs.take (k+1)=vs.take k++[y]:=by
   obtain⟨aI,rfl⟩:=aqQ.1 h2;exact List.take_succ_eq_append_getElem aI
  rw[e,<-ard];exact this
def Vc.runs(s:Vc a b F F' R){env:bR.den}(he:kl env){r:Vl×Int}:∀(m p q:Nat)(S:List Vl),a.length-p=m->R p q->dF a env p S r->dF b env q S r:=by
 intro m
 induction m using Nat.strongRecOn with
 |_ m ih=>
  intro p q S hm hR hr
  have Zp:∀p' q' S',p<p'->R p' q'->dF a env p' S' r->dF b env q' S' r:=λp' q' S' h hR'=>by
   have:=(s.dep p' q' hR').2.1;exact ih (a.length-p') (by omega) p' q' S' rfl hR'
  rcases s.st p q hR with⟨e1,e2⟩|g|⟨n,t,ha,tB,ht,hR'⟩
  .obtain⟨v,S',rfl,rfl⟩:=hr.YC e1;rw[e2];exact .done
  .cases g with
   | @op n ha hb hn Db=>
     obtain⟨k,h1,h2,h3⟩:=hr.R1 ha hn
     rcases h3 with⟨h3,h4⟩|⟨h3,rfl⟩
     .exact .op hb hn h1 h2 h3 (Zp _ _ _ (by omega) Db h4)
     .exact .fail hb hn h1 h2 h3
   | @jump n n' t t' ha hb h1 h2 e1 e2 sC Db=>
     obtain⟨u,u1,u2,u3,u4⟩:=hr.LD ha h1;have:u=t:=nat_eq u1 e1;subst this;exact .jump hb h2 e2 sC (s.dep _ _ Db).2.2.1 (Zp _ _ _ u2 Db u4)
   | @cond n n' t t' ha hb h1 h2 e1 e2 sC Db hs=>
     have Da:CR n':=by unfold CR;rw[h2];exact h1
     obtain⟨S',top,rfl,h3⟩:=hr.Vb ha h1
     rcases h3 with⟨h3,rfl⟩|⟨h3,u,u1,u2,u3,u4⟩
     .exact .cbad hb Da h3
     .have:u=t:=nat_eq u1 e1;subst this
      have ej:Ei n' top=Ei n top:=by unfold Ei;rw[h2]
      refine .cond hb Da e2 sC (s.dep _ _ Db).2.2.1 h3.1 h3.2 ?_;rw[ej,h2];by_cases hj:Ei n top=af
      .rw[al hj]at u4⊢;exact Zp _ _ _ u2 Db u4
      .rw[aj hj]at u4⊢;exact Zp _ _ _ (by omega) hs u4
   | @block k n m vs v hl hk hn hj ha hv hm Wv ham NU hvm Db=>
     have h1:=dF.lits (vs:=vs) k (by omega) (λj hj=>by
      obtain⟨x,y,x1,x2,x3,x4,x5⟩:=hl j hj
      exact⟨x,y,x1,x2,x3,x4,x5 env he⟩) hr
     rw[List.take_of_length_le (by omega)]at h1;have h2:=h1.opI hn hj (by rw[ha,hk]) (hv env he);have h3:=Zp _ _ _ (by omega) Db h2;have e:=hvm env he;refine .op (a:=0) hm Wv (by rw[ham];rfl) (aq2 _) ?_ ?_
     .rw[Nat.sub_zero,List.drop_length,e]
     .rw[Nat.sub_zero,List.drop_length,ara,e];exact h3
  .obtain⟨u,u1,u2,u3,u4⟩:=hr.LD ha tB;have:u=t:=nat_eq u1 ht;subst this;exact Zp _ _ _ u2 hR' u4
end
structure sa(a b:List Ty):Prop where
 fits:∃F,Fits b F
 le:b.length<=a.length
 wf:∀n∈b,WF aD n
 runs:∀env,kl env->∀r,dF a env 0 [] r->dF b env 0 [] r
def sa.trans{a b c:List Ty}(h:sa a b)(k:sa b c):sa a c:=⟨k.fits,Nat.le_trans k.le h.le,k.wf,λenv he r hr=>k.runs env he r (h.runs env he r hr)⟩
def Vc.same{a b:List Ty}{F F':List Int}{R:Nat->Nat->Prop}(s:Vc a b F F' R)(hl:b.length<=a.length)(hw:∀n∈b,WF aD n):sa a b:=
 ⟨⟨F',s.to⟩,hl,hw,λ_ he _ hr=>s.runs he _ 0 0 [] rfl s.zero hr⟩
end L.P.Q
end
namespace L.P.Q
def p7(N:Nat)(op:Int):M.eL N op=aa (decide (50<=op/\op<=53)):=by
 unfold M.eL
 by_cases h:50<=op<;>simp[h]
def e0:bR.den:=((0,[],[],[],[],[]):Int×List Vl×List Vl×List (List Vl)×List Ty×List aP.den)
def Hr:kl e0:=⟨by decide,λt h=>by cases h⟩
def LF{n:Ty}{args:List Vl}{env:bR.den}(he:kl env)(hn:WF aD n)(hl:args.length<=100000):Wp (M.cx aJ n args env) λr=>r.2=0->(args.length:Int)=ar n.1/\∀v∈args,bD v.1 v.2.1 v.2.2:=by
 obtain⟨op,m⟩:=n;have hm:=hn.2;unfold M.cx
 refine Wp.seq (λj=>j=ah->Fm op m/\(args.length:Int)=ar op) ?_ λj hj=>?_
 .refine Wp.seq _ (uq ..) λy hy=>?_
  refine Wp.ite (λ_=> .some λh=>by cases h) λhc=>?_
  rw[dE]
  exact .some λh=>⟨hy (by simpa using hc),by simpa using h⟩
 refine Wp.ite (λ_=> .some λh=>absurd h (by decide)) λhc=>?_
 obtain⟨hf,ha⟩:=hj (by simpa using hc)
 refine Wp.seq _ (ur ..) λy hy=>?_
 refine Wp.ite (λ_=> .some λh=>absurd h (by decide)) λC9=>?_
 have hx:=hy (by simpa using C9)
 have Ia:op=34->0<=aqJ.wrap (aqW m 8):=λe=>by
  have h0:=(hf.2.2.1 e).1;have h1:(m:Int)<=9223372036854775807:=hm.2;rw[aq0 h0];dsimp only[aC,Row.den]at h0 h1⊢;rw[aH (by omega) (by omega)];omega
 refine Wp.seq (λj=>j=ah->Aws op m env/\∀v∈args,bD v.1 v.2.1 v.2.2) ?_ λj5 hj5=>?_
 .refine Wp.seq _ (GK _ hl (by unfold aJ;omega)) λy hy=>?_
  refine Wp.ite (λ_=> .some λh=>by cases h) λhc=>?_
  exact Wp.seq _ (Au hx ha Ia) λz hz=> .some λh=>⟨hz (by simpa using h),hy (by simpa using hc)⟩
 refine Wp.ite (λ_=> .some λh=>absurd h (by decide)) λTW=>?_
 obtain⟨haw,rF⟩:=hj5 (by simpa using TW)
 refine Wp.seq _ (Aw he hf hx ha haw Ia) λr hr=>?_
 refine Wp.mO (λ_=> .some λ_=>⟨ha,rF⟩) λ_=>?_
 rw[cH];simp only[aqI]
 exact Wp.mO (λ_=> .some λ_=>⟨ha,rF⟩) λhp=> .some λ_=>⟨ha,rF⟩
def Vd{op m:Int}(h:op=33\/op=34)(hm:m<=9223372036854775807)(args:List Vl):Wp (M.cx aJ ((op,m):Int×Int) args e0) λr=>r.2≠0:=by
 unfold M.cx
 refine Wp.seq (λj=>j=ah->Fm op m) ?_ λj hj=>?_
 .refine Wp.seq _ (uq ..) λy hy=>?_
  refine Wp.ite (λ_=> .some λh=>by cases h) λhc=>?_
  rw[dE]
  exact .some λ_=>hy (by simpa using hc)
 refine Wp.ite (λ_=> .some (by decide)) λhc=>?_
 have hf:=hj (by simpa using hc)
 have he:M.dN aJ ((op,m):Int×Int) e0=aa ah:=by
  unfold M.dN
  rcases h with rfl|rfl
  .by_cases h0:0<=m
   .simp[e0,h0];exact av (Int.not_lt.2 h0)
   .simp[h0]
  .have h0:=(hf.2.2.1 rfl).1
   have hw:aqJ.wrap (aqW m 8)=m/8:=by
    rw[aq0 h0,aH (by omega) (by omega)]
   simp[e0,hw];omega
 rw[he];simp only[aqI,Bool.not_false,if_true];exact .some (by decide)
def YD{n:Ty}(hn:WF aD n)(h1:1<=ar n.1){args:List Vl}(h0:(mv e0 n args).2=0)(env:bR.den):mv env n args=mv e0 n args:=by
 obtain⟨(op:Int),(m:Int)⟩:=n;by_cases h:op=33\/op=34
 .obtain⟨r,hr,dG⟩:=Vd h hn.2.2 args;unfold mv at h0;rw[hr]at h0;exact absurd h0 dG
 .have ha:10<=op/\op<=32:=by
   revert h1
   show 1<=ar op->_
   unfold ar;intro h1;split at h1
   .omega
   .omega
  have ne:∀k:Int,(k<=9\/33<=k)->decide (op=k)=ah:=λk hk=>av (by omega)
  have e:M.cx aJ ((op,m):Int×Int) args env=M.cx aJ ((op,m):Int×Int) args e0:=by
   unfold M.cx M.dN M.bi M.bl;simp only[ne 1 (by omega),ne 2 (by omega),ne 3 (by omega),ne 4 (by omega),ne 5 (by omega),ne 6 (by omega),ne 7 (by omega),ne 8 (by omega),ne 9 (by omega),ne 33 (by omega),ne 34 (by omega),ne 35 (by omega),ne 36 (by omega),ne 37 (by omega),ne 38 (by omega),ne 39 (by omega),aqM,if_false,aqI]
  unfold mv;exact ay (λx=>x.getD (z3,0)) e
def wF(n:Ty):Option Vl:=
 if 1<=(n.1:Int)/\(n.1:Int)<=5 then aa ((n.1,0,n.2):Int×Int×Int)else if(n.1:Int)=6/\0<=(n.2:Int)/\(n.2:Int)<128 then aa ((6,(n.2:Int)/16,(n.2:Int)%16):Int×Int×Int)else ae
def rq(v:Vl):Ty:=if 1<=(v.1:Int)/\(v.1:Int)<=5 then((v.1,v.2.2):Int×Int)else((6,16*(v.2.1:Int)+v.2.2):Int×Int)
def yK(N:Nat)(n:Ty):M.iD N n=aa (match wF n with
 |some v=>(v,af)
 |none=>(z3,ah)):=by
 obtain⟨(op:Int),(m:Int)⟩:=n;unfold M.iD wF bK;dsimp only[aC,Row.den];by_cases h1:op=1
 .subst h1;simp
 by_cases h2:op=2
 .subst h2;simp
 by_cases h3:op=3
 .subst h3;simp
 by_cases h4:op=4
 .subst h4;simp
 by_cases h5:op=5
 .subst h5;simp
 rw[aj (show¬(1<=op/\op<=5) by omega)];by_cases h6:op=6
 .subst h6;by_cases h7:0<=m
  .by_cases h8:m<128
   .have w:aqJ.wrap (aqW m 16)=m/16:=by rw[aq0 h7,aH (by omega) (by omega)]
    have w2:aqY m 16=m%16:=aq3 h7;simp[h7,h8,w,w2]
   .simp[h7,h8,z3]
  .simp[h7,z3]
 .simp[h1,h2,h3,h4,h5,h6,z3]
def yo{k e n:Int}(h:bD k e n):((1<=k/\k<=5)/\e=0/\-1000000000000000<=n/\n<=1000000000000000)\/(k=6/\0<=e/\e<=7/\0<=n/\n<=15):=by
 unfold bD at h;omega
def BL(N:Nat){v:Vl}(hp:bD v.1 v.2.1 v.2.2):M.jk N v=aa (rq v):=by
 obtain⟨(k:Int),(e:Int),(n:Int)⟩:=v;unfold M.jk rq;dsimp only[aC,Row.den]at*;by_cases h1:k=1
 .subst h1;simp
 by_cases h2:k=2
 .subst h2;simp
 by_cases h3:k=3
 .subst h3;simp
 by_cases h4:k=4
 .subst h4;simp
 by_cases h5:k=5
 .subst h5;simp
 rcases yo hp with h|⟨h6,h7,h8,h9,h10⟩
 .omega
 .have w1:aqJ.wrap (16*e)=16*e:=aH (by omega) (by omega);have w2:aqJ.wrap (16*e+n)=16*e+n:=aH (by omega) (by omega);rw[aj (show¬(1<=k/\k<=5) by omega)];simp[h1,h2,h3,h4,h5,w1,w2]
def wG{n:Ty}{v:Vl}(h:wF n=aa v):¬nX n/\ar n.1=0/\¬cI n.1:=by
 obtain⟨(op:Int),(m:Int)⟩:=n
 have:1<=op/\op<=6:=by
  unfold wF at h;dsimp only[aC,Row.den]at h;split at h
  .omega
  .split at h
   .omega
   .cases h
 refine⟨?_,?_,?_⟩
 .show¬(50<=op/\op<=53);omega
 .show ar op=0
  unfold ar;rw[al (by omega)]
 .show¬(op=23\/op=24\/op=26);omega
def LG{v:Vl}(hp:bD v.1 v.2.1 v.2.2):wF (rq v)=aa v/\WF aD (rq v):=by
 obtain⟨(k:Int),(e:Int),(n:Int)⟩:=v;dsimp only[aC,Row.den]at hp
 rcases yo hp with⟨h1,rfl,h3,h4⟩|⟨rfl,h7,h8,h9,h10⟩
 .have e1:rq ((k,0,n):Int×Int×Int)=((k,n):Int×Int):=by unfold rq;dsimp only[aC,Row.den];rw[al h1]
  rw[e1];refine⟨by unfold wF;dsimp only[aC,Row.den];rw[al h1],⟨?_,?_⟩,?_,?_⟩
  .show(-9223372036854775808:Int)<=k;omega
  .show k<=(9223372036854775807:Int);omega
  .show(-9223372036854775808:Int)<=n;omega
  .show n<=(9223372036854775807:Int);omega
 .have e1:rq ((6,e,n):Int×Int×Int)=((6,16*e+n):Int×Int):=by unfold rq;dsimp only[aC,Row.den];rw[aj (by decide)]
  rw[e1];refine⟨?_,⟨?_,?_⟩,?_,?_⟩
  .unfold wF;dsimp only[aC,Row.den];rw[aj (by decide),al ⟨rfl,by omega,by omega⟩,show(16*e+n)/16=e by omega,show(16*e+n)%16=n by omega]
  .show(-9223372036854775808:Int)<=6;decide
  .show(6:Int)<=9223372036854775807;decide
  .show(-9223372036854775808:Int)<=16*e+n;omega
  .show 16*e+n<=(9223372036854775807:Int);omega
def Ve{op m:Int}(fJ:op=1\/op=2\/op=3\/op=4\/op=5\/op=6)(h6:op=6->0<=m/\m<128){v:Vl}(hv:wF ((op,m):Int×Int)=aa v)(hp:bD v.1 v.2.1 v.2.2)(env:bR.den):M.cx aJ ((op,m):Int×Int) [] env=aa (v,0):=by
 have ha:ar op=0:=by unfold ar;rw[al (by omega)]
 have ne:∀k:Int,7<=k->decide (op=k)=ah:=λk hk=>av (by omega)
 have hu:M.fM aJ op=aa af:=by
  rcases fJ with rfl|rfl|rfl|rfl|rfl|rfl<;>(show(_:Option Bool)=_;kernel_rfl)
 have Lp:M.cK aJ ((op,m):Int×Int)=aa af:=by
  unfold M.cK;simp only[dE,ha,hu,ne 14 (by omega),ne 15 (by omega),ne 16 (by omega),ne 34 (by omega),aqI,aqM,if_false]
  by_cases hm:m=0<;>by_cases h:op=6<;>simp[hm,h]
  exact(h6 h).1
 have hex:M.dN aJ ((op,m):Int×Int) env=aa af:=by
  unfold M.dN;simp only[ne 7 (by omega),ne 8 (by omega),ne 33 (by omega),ne 34 (by omega),ne 36 (by omega),ne 37 (by omega),ne 38 (by omega),ne 39 (by omega),aqI,aqM,if_false]
 have rF:M.cL aJ []=aa af:=by
  apply Wp.eq;unfold M.cL;refine Wp.loop (λs=>s=0) (λ_=>0) rfl (by unfold aJ;omega) ?_
  rintro _ rfl
  exact Wp.dec (λh=>absurd h (by simp)) λ_=> .some rfl
 have IL:M.bi aJ ((op,m):Int×Int) [] env=aa af:=by
  unfold M.bi;simp only[ne 7 (by omega),ne 8 (by omega),ne 33 (by omega),ne 34 (by omega),ne 36 (by omega),ne 37 (by omega),ne 38 (by omega),ne 39 (by omega),aqI,aqM,if_false];simp
 have hco:M.bl aJ ((op,m):Int×Int) [] env=aa (v,0):=by
  unfold M.bl;unfold wF at hv;dsimp only[aC,Row.den]at hv⊢;by_cases h:op=6
  .subst h;obtain⟨m1,m2⟩:=h6 rfl;rw[aj (by decide),al ⟨rfl,m1,m2⟩]at hv;obtain rfl:=aqL hv
   have w:aqJ.wrap (aqW m 16)=m/16:=by rw[aq0 m1,aH (by omega) (by omega)]
   have w2:aqY m 16=m%16:=aq3 m1;simp[w,w2]
  .rw[al (by omega)]at hv;obtain rfl:=aqL hv
   rcases fJ with rfl|rfl|rfl|rfl|rfl|rfl
   .simp
   .simp
   .simp
   .simp
   .simp
   .exact absurd rfl h
 unfold M.cx;simp only[Lp,dE,ha,hex,rF,IL,hco,aqI,cH,au hp];simp
def R2{n:Ty}{v:Vl}(hv:wF n=aa v)(hp:bD v.1 v.2.1 v.2.2)(env:bR.den):mv env n []=(v,0):=by
 obtain⟨(op:Int),(m:Int)⟩:=n
 have h:(op=1\/op=2\/op=3\/op=4\/op=5\/op=6)/\(op=6->0<=m/\m<128):=by
  have gZ:=hv;unfold wF at gZ;dsimp only[aC,Row.den]at gZ;split at gZ
  .omega
  .split at gZ
   .omega
   .cases gZ
 unfold mv;rw[Ve h.1 h.2 hv hp env];rfl
end L.P.Q
namespace L.P.Q
def Hs{α:Type}{f:α->α}{body:Int×List α->Option ((Int×List α)⊕List α)}{l0:List α}(hl:l0.length<=1000)
 (hb:∀(j:Nat)(hj:j<l0.length)(l:List α)(EK:l.length=l0.length),l[j]'(by omega)=l0[j]->Wp (body ((j:Int),l)) λs=>s= .inl (((j+1:Nat):Int),l.set j (f l0[j])))
 (he:∀l:List α,l.length=l0.length->Wp (body ((l0.length:Int),l)) λs=>s= .inr l):Wp (Loop body aJ ((0:Int),l0)) λr=>r=l0.map f:=by
 refine Wp.loop (λs=>∃k:Nat,s=((k:Int),(l0.take k).map f++l0.drop k)/\k<=l0.length) (λs=>(l0.length-s.1).toNat) ⟨0,by simp,aq2 _⟩ (by unfold aJ;simp only;omega) ?_
 rintro _ ⟨k,rfl,hk⟩
 have hlen:((l0.take k).map f++l0.drop k).length=l0.length:=by simp;omega
 by_cases h:k<l0.length
 .refine(hb k h _ hlen ?_).mono ?_
  .rw[are (by simp;omega)];simp[arF hk]
  .rintro _ rfl
   refine⟨⟨k+1,?_,h⟩,by simp only;omega⟩;refine Prod.ext rfl ?_
   show(List.map f (List.take k l0)++List.drop k l0).set k (f l0[k])=_
   rw[List.set_append_right _ _ (by simp;omega),List.take_succ_eq_append_getElem h,List.map_append,ard]
   congr 1
   rw[arb,aq9,arF hk,Nat.sub_self,aq6 h];rfl
 .obtain rfl:k=l0.length:=by omega
  refine(he _ hlen).mono ?_
  rintro _ rfl
  show _=_
  simp
structure YE(code:List Ty)(i k:Nat)(v:Vl):Prop where
 k1:1<=k
 ki:k<=i
 ex:∃(n:Ty)(vs:List Vl),code[i]? =aa n/\¬nX n/\ar n.1=k/\vs.length=k/\(∀j,j<k->∃x y,code[i-k+j]? =aa x/\vs[j]? =aa y/\wF x=aa y)/\mv e0 n vs=(v,0)
 nj:∀m∈code,nX m->¬((i:Int)-k<m.2/\(m.2:Int)<=i)
def Vf{code:List Ty}{i:Nat}(hi:i<code.length)(hl:code.length<=1000)(hw:∀n∈code,WF aD n):Wp (M.kr aJ code (i:Int)) λr=>r.2.2=af->∃(k:Nat)(v:Vl),r.2.1=(k:Int)/\r.1=rq v/\YE code i k v:=by
 have no:∀(c:Int)(m:Ty),((m,c,ah):Ty×Int×Bool).2.2=af->∃(k:Nat)(v:Vl),((m,c,ah):Ty×Int×Bool).2.1=(k:Int)/\((m,c,ah):Ty×Int×Bool).1=rq v/\YE code i k v:=λc m h=>by cases h
 have hn:=hw _ (aqN hi);have hge:=aqK hi;unfold M.kr;rw[aF hi];generalize code[i]=n at hn hge;simp only[aqI,p7,dE]
 refine Wp.dec (λ_=> .some (no 0 ((0,0):Int×Int))) λhj=>?_
 have EN:=lR n.1
 refine Wp.seq (λj=>j=ah->1<=ar n.1/\ar n.1<=i) ?_ λjj hjj=>?_
 .refine Wp.dec (λ_=> .some λh=>by cases h) λh1=> .some λh2=>?_
  have h2:=aq h2;omega
 refine Wp.ite (λ_=> .some (no 0 ((0,0):Int×Int))) λhc=>?_
 obtain⟨q1,q2⟩:=hjj (by simpa using hc)
 obtain⟨k,hk⟩:∃k:Nat,ar n.1=k:=⟨(ar n.1).toNat,by omega⟩
 rw[hk]at q1 q2 EN⊢
 have MX:1<=k:=by omega
 have Yw:k<=i:=by omega
 have w1:aqJ.wrap ((i:Int)-(k:Int))=((i-k:Nat):Int):=by rw[aH (by omega) (by omega)];omega
 rw[w1,pA (i-k) i rfl rfl (by omega) (by omega)];simp only[aqI]
 have Ac:((code.take i).drop (i-k)).length=k:=by simp;omega
 have hcg:∀j(h:j<((code.take i).drop (i-k)).length),code[i-k+j]? =aa (((code.take i).drop (i-k))[j]):=by
  intro j h;rw[List.getElem_drop,List.getElem_take];exact aqK _
 obtain⟨l6,hl6⟩:∃l6,l6=(code.take i).drop (i-k):=⟨_,rfl⟩
 rw[<-hl6];rw[<-hl6]at Ac
 replace hcg:∀j(h:j<l6.length),code[i-k+j]? =aa l6[j]:=by subst hl6;exact hcg
 clear hl6;refine Wp.join (Wp.loop (λs:Int×List Vl=>∃j:Nat,s.1=j/\j<=k/\s.2.length=j/\∀t,t<j->∃x y,code[i-k+t]? =aa x/\s.2[t]? =aa y/\wF x=aa y) (λs=>(k-s.1).toNat) ⟨0,rfl,aq2 _,rfl,λt h=>by omega⟩ (by unfold aJ;simp only;omega) ?_)
 rintro⟨_,vs⟩ ⟨j,rfl,S7,MB,hv⟩
 dsimp only at MB hv⊢
 refine Wp.dec (λh=>?_) λh=> .some ?_
 .have EL:j<l6.length:=by omega
  rw[aF EL];simp only[aqI,yK];cases hlv:wF l6[j]with
  |none=>
   simp only[Bool.not_false,if_true];exact .some (no 0 ((0,0):Int×Int))
  |some v=>
   simp only[ari,aqM,if_false];rw[br (by simp;omega),aU (by omega)];simp only[aqI];refine .some ⟨⟨j+1,rfl,by omega,by simp[MB],λt ht=>?_⟩,by simp only;omega⟩;by_cases htj:t<j
   .obtain⟨x,y,h1,h2,h3⟩:=hv t htj;exact⟨x,y,h1,by rw[List.getElem?_append_left (by omega)];exact h2,h3⟩
   .obtain rfl:t=j:=by omega
    exact⟨_,v,hcg t EL,by rw[arD (by omega)];simp[MB],hlv⟩
 obtain rfl:j=k:=by omega
 refine Wp.join (Wp.loop (λs:Int=>∃t:Nat,s=t/\t<=code.length/\∀m∈code.take t,nX m->¬((i:Int)-j<m.2/\(m.2:Int)<=i)) (λs=>(code.length-s).toNat) ⟨0,rfl,aq2 _,by simp⟩ (by unfold aJ;omega) ?_)
 rintro _ ⟨t,rfl,ht,hnj⟩
 refine Wp.dec (λh=>?_) λh=> .some ?_
 .have Ox:t<code.length:=by omega
  rw[aF Ox];simp only[aqI]
  refine Wp.seq (λb=>b=ah->nX code[t]->¬((i:Int)-j<(code[t].2:Int)/\(code[t].2:Int)<=i)) ?_ λb hb=>?_
  .refine Wp.dec (λg1=>Wp.dec (λg2=> .some λg3 _=>?_) λg2=> .some λ_ _ g=>?_) λg1=> .some λ_ g=>absurd g g1
   .have g3:=aq g3
    exact λg=>g3 g.2
   .apply g2;have g4:=g.1;revert g4;generalize(code[t].2:Int)=z;intro g4;dsimp only[aC,Row.den]at*;omega
  refine Wp.ite (λ_=> .some (no 0 ((0,0):Int×Int))) λC9=> .some ?_
  rw[aU (by omega)];refine⟨⟨t+1,rfl,Ox,λm hm Wv=>?_⟩,by simp only;omega⟩;rw[List.take_succ_eq_append_getElem Ox]at hm
  rcases aq7.1 hm with hm|hm
  .exact hnj m hm Wv
  .obtain rfl:=aq5.1 hm;exact hb (by simpa using C9) Wv
 rw[List.take_of_length_le (by omega)]at hnj
 show Wp ((M.cx aJ n vs e0).bind _) _
 obtain⟨r,hr,hra⟩:=LF (args:=vs) Hr hn (by omega);obtain⟨r',Db,aiV⟩:=tl (args:=vs) Hr hn (by omega);rw[hr]at Db;obtain rfl:=aqL Db;rw[hr];simp only[aqI]
 refine Wp.mO (λ_=> .some (no 0 ((0,0):Int×Int))) λh0=>?_
 rw[BL _ (aiV.ok h0)];simp only[aqI]
 have Il:mv e0 n vs=(r.1,0):=by
  unfold mv;rw[hr];exact Prod.ext rfl h0
 exact .some λ_=>⟨j,r.1,rfl,rfl,MX,Yw,⟨n,vs,hge,hj,hk,MB,hv,Il⟩,hnj⟩
def LH(i k:Nat)(n:Ty):Ty:=if nX n/\(i:Int)<n.2 then((n.1,(n.2:Int)-k):Int×Int)else n
def uF(code:List Ty)(i k:Nat)(m:Ty):List Ty:=((code.take (i-k)++[m])++code.drop (i+1)).map (LH i k)
def Vg{code:List Ty}{i k:Nat}{m:Ty}(hi:i<code.length)(hk:k<=i)(hl:code.length<=1000)(hw:∀n∈code,WF aD n)(hm:¬nX m):Wp (M.fW aJ code (i:Int) (k:Int) m) λr=>r=uF code i k m:=by
 unfold M.fW
 have w1:aqJ.wrap ((i:Int)-(k:Int))=((i-k:Nat):Int):=by rw[aH (by omega) (by omega)];omega
 rw[w1,jC (by omega),aU (by omega),pA (i+1) code.length rfl rfl (by omega) (aqS _),ara];simp only[aqI];rw[br (by simp;omega)];simp only[aqI,List.nil_append];rw[br (by simp;omega)];simp only[aqI];rw[br (by simp;omega)];simp only[aqI]
 have hwl:∀n∈(code.take (i-k)++[m])++code.drop (i+1),n=m\/n∈code:=by
  intro n hn
  rcases aq7.1 hn with hn|hn
  .rcases aq7.1 hn with hn|hn
   .exact .inr (List.mem_of_mem_take hn)
   .exact .inl (aq5.1 hn)
  .exact .inr (List.mem_of_mem_drop hn)
 have EK:((code.take (i-k)++[m])++code.drop (i+1)).length<=1000:=by simp;omega
 unfold uF;generalize(code.take (i-k)++[m])++code.drop (i+1)=l5 at hwl EK⊢
 refine Hs EK (λj hj l hlen Yo=>?_) λl hlen=>?_
 .have SO:j<l.length:=by omega
  have EM:=hwl _ (aqN hj);dsimp only;rw[aF SO,Yo];simp only[aqI,p7,aQ];generalize hx:l5[j]=x at EM Yo⊢;refine .some ?_;rw[al (au (by omega)),aU (by omega)]
  have hw':nX x->WF aD x:=λh=>EM.elim (λe=>absurd (e▸h) hm) (hw x)
  have e:(if(if decide (50<=(x.1:Int)/\(x.1:Int)<=53)=af then decide ((i:Int)<x.2)else ah)=af then bn l (j:Int) ((x.1,aqJ.wrap ((x.2:Int)-(k:Int))):Int×Int)else l)=l.set j (LH i k x):=by
   unfold LH;by_cases h:nX x/\(i:Int)<x.2
   .have wP:=(hw' h.1).2.2;have g:(50<=(x.1:Int)/\(x.1:Int)<=53):=h.1
    have w2:aqJ.wrap ((x.2:Int)-(k:Int))=(x.2:Int)-k:=by
     have h2:=h.2;revert wP h2;generalize(x.2:Int)=z;intro wP h2;have:z<=9223372036854775807:=wP;dsimp only[aC,Row.den]at*;exact aH (by omega) (by omega)
    rw[al h,al (by simp[g,h.2]),w2];simp[bn]
   .rw[aj h,aj (λhc=>h ?_)]
    .rw[<-Yo];simp
    .by_cases g:(50<=(x.1:Int)/\(x.1:Int)<=53)
     .rw[al (au g)]at hc;exact⟨g,by simpa using hc⟩
     .rw[aj (by simpa using g)]at hc;cases hc
  rw[e]
 .dsimp only
  exact Wp.dec (λh=>by omega) λ_=> .some rfl
end L.P.Q
section
namespace L.P.Q
def LI(i k:Nat)(n:Ty):((LH i k n).1:Int)=n.1:=by
 unfold LH
 split<;>rfl
def LJ{i k:Nat}{n:Ty}(h:¬nX n):LH i k n=n:=by
 unfold LH;rw[aj (λg=>h g.1)]
section
variable {code:List Ty} {i k:Nat} {m:Ty}
def Ht(hi:i<code.length)(hk:k<=i):(uF code i k m).length+k=code.length:=by
 simp[uF];omega
def Vh{q:Nat}(hi:i<code.length)(h:q<i-k):(uF code i k m)[q]? =(code[q]?).map (LH i k):=by
 unfold uF;rw[arP,ard,List.getElem?_append_left (by simp;omega),List.getElem?_take_of_lt h]
def Vi(hi:i<code.length)(hm:¬nX m):(uF code i k m)[i-k]? =aa m:=by
 unfold uF;rw[arP,ard,arD (by simp;omega),aq9,arF (by omega),Nat.sub_self];simp[LJ hm]
def Vj{q:Nat}(hi:i<code.length)(hk:k<=i)(h:i-k<q):(uF code i k m)[q]? =(code[q+k]?).map (LH i k):=by
 unfold uF;rw[arP,arD (by simp;omega),aqT,aq9,arF (by omega),aq8,arC]
 congr 2
 omega
def xK(F:List Int)(q:Nat):gd F q=(F[q]?).getD (-1):=rfl
def FR(code:List Ty)(F:List Int)(i k:Nat)(p q:Nat):Prop:=0<=gd F p/\p<=code.length/\((p<=i-k/\q=p)\/(i<p/\q+k=p))
def N1{v:Vl}{F:List Int}(f:Fits code F)(hi:i<code.length)(h:YE code i k v)(hw:∀n∈code,WF aD n):sa code (uF code i k (rq v)):=by
 obtain⟨MX,Yw,⟨n,vs,hn,hj,ha,MB,Zq,Il⟩,hnj⟩:=h;have Ly:=hw n (arJ hn)
 have rF:∀u∈vs,bD u.1 u.2.1 u.2.2:=by
  obtain⟨r,hr,hh⟩:=LF (args:=vs) Hr Ly (by have:=lR n.1;omega)
  have e:r=(v,0):=by
   unfold mv at Il;rw[hr]at Il;exact Il
  rw[e]at hh;exact(hh rfl).2
 have hpv:bD v.1 v.2.1 v.2.2:=by
  have:=(Lb (args:=vs) Hr Ly (by have:=lR n.1;omega)).ok (by rw[Il]);rw[Il]at this;exact this
 obtain⟨hlv,hlw⟩:=LG hpv;obtain⟨l1,l2,l3⟩:=wG hlv;have hbl:=Ht (m:=rq v) hi Yw;have hle:=f.le;have Zm:=f.len
 have g1:∀q,q<=i-k->gd (F.take (i-k+1)++F.drop (i+1)) q=gd F q:=by
  intro q hq;rw[xK,List.getElem?_append_left (by simp;omega),List.getElem?_take_of_lt (by omega)];rfl
 have g2:∀q,i-k<q->gd (F.take (i-k+1)++F.drop (i+1)) q=gd F (q+k):=by
  intro q hq;rw[xK,arD (by simp;omega),aq9,arF (by omega),arC,xK]
  congr 2
  omega
 have dep:∀p q,FR code F i k p q->gd (F.take (i-k+1)++F.drop (i+1)) q=gd F p:=by
  rintro p q ⟨_,_,⟨a1,rfl⟩|⟨a1,a2⟩⟩
  .exact g1 _ a1
  .rw[g2 _ (by omega),a2]
 have keep:∀p q x,FR code F i k p q->p≠i-k->code[p]? =aa x->Ta code (uF code i k (rq v)) (FR code F i k) p q:=by
  rintro p q x ⟨b1,b2,b3⟩ dG hx
  have aI:p<code.length:=(aqQ.1 hx).1
  have hb:(uF code i k (rq v))[q]? =aa (LH i k x):=by
   rcases b3 with⟨a1,rfl⟩|⟨a1,rfl⟩
   .rw[Vh hi (by omega),hx];rfl
   .rw[Vj hi Yw (by omega),hx];rfl
  have next:0<=gd F (p+1)->FR code F i k (p+1) (q+1):=λh=>⟨h,aI,by omega⟩
  have tgt:∀t:Nat,nX x->(x.2:Int)=t->p<t->t<=code.length->0<=gd F t->∃t':Nat,((LH i k x).2:Int)=t'/\q<t'/\FR code F i k t t':=by
   intro t F8 ht JO A9 ht0;have hn:=hnj x (arJ hx) F8;rw[ht]at hn;have hn:¬((i:Int)-k<(t:Int)/\(t:Int)<=i):=hn;by_cases hc:i<t
   .refine⟨t-k,?_,by omega,ht0,A9, .inr ⟨hc,by omega⟩⟩;unfold LH;rw[al ⟨F8,by rw[ht];exact(by omega:(i:Int)<(t:Int))⟩]
    show(x.2:Int)-k=_
    rw[ht];exact(by omega:(t:Int)-k=((t-k:Nat):Int))
   .refine⟨t,?_,by omega,ht0,A9, .inl ⟨by omega,rfl⟩⟩;unfold LH;rw[aj (λg=>by have g2:=g.2;rw[ht]at g2;have g2:(i:Int)<(t:Int):=g2;omega)];exact ht
  by_cases F8:nX x
  .obtain⟨s1,_⟩:=f.at hx b1
   rcases s1 with⟨c1,t,c2,c3,c4,c5⟩|⟨c1,c2,c3,t,c4,c5,c6,c7⟩|⟨c1,c2,_⟩
   .obtain⟨t',d1,d2,d3⟩:=tgt t F8 c2 c3 c4 (by omega);exact .jump hx hb c1 ((LI i k x).trans c1) c2 d1 d2 d3
   .obtain⟨t',d1,d2,d3⟩:=tgt t F8 c4 c5 c6 (by rw[c7];split<;>omega);exact .cond hx hb c1 (LI i k x) c4 d1 d2 d3 (next (by omega))
   .exact(pL F8).elim (λe=>absurd e c1) (λe=>absurd e c2)
  .rw[LJ F8]at hb;obtain⟨s1,s2,s3,_⟩:=f.op hx F8 b1;exact .op hx hb F8 (next (by omega))
 have sA:0<=gd F (i-k)->Ta code (uF code i k (rq v)) (FR code F i k) (i-k) (i-k):=by
  intro h0
  have hd:=vt f h0 k λj hj=>by
   obtain⟨x,y,x1,_,x2⟩:=Zq j hj;obtain⟨y1,y2,_⟩:=wG x2;exact⟨x,x1,y1,y2⟩
  have e1:i-k+k=i:=by omega
  rw[e1]at hd;obtain⟨s1,s2,s3,_⟩:=f.op hn hj (by omega);refine .block (k:=k) (n:=n) (m:=rq v) (vs:=vs) (v:=v) (λj EL=>?_) MB (by rw[e1];exact hn) hj ha (λenv _=>?_) (Vi hi l1) l1 l2 l3 (λenv _=>R2 hlv hpv env) ?_
  .obtain⟨x,y,x1,x2,x3⟩:=Zq j EL;obtain⟨y1,y2,_⟩:=wG x3;exact⟨x,y,x1,x2,y1,y2,λenv _=>R2 x3 (rF y (arJ x2)) env⟩
  .rw[YD Ly (by omega) (by rw[Il]) env,Il]
  .rw[e1];exact⟨by omega,by omega, .inr ⟨by omega,by omega⟩⟩
 have bwd:Bd F:=f.bd
 have s:Vc code (uF code i k (rq v)) F (F.take (i-k+1)++F.drop (i+1)) (FR code F i k):=by
  refine⟨f,by omega,by omega,by simp;omega,λq=>?_,λp q h=>⟨h.1,h.2.1,?_,dep p q h⟩,λp q h=>?_,λq hq h0=>?_,⟨by rw[f.first];decide,aq2 _, .inl ⟨aq2 _,rfl⟩⟩,⟨by rw[f.last];decide,aqS _, .inr ⟨hi,by omega⟩⟩⟩
  .by_cases hq:q<=i-k
   .rw[g1 q hq];exact bwd q
   .rw[g2 q (by omega)];exact bwd _
  .obtain⟨_,a2,a3⟩:=h;omega
  .by_cases hp:p=code.length
   .left
    refine⟨hp,?_⟩;obtain⟨_,a2,a3⟩:=h;omega
   .right;left
    have aI:p<code.length:=by have:=h.2.1;omega
    by_cases xk:p=i-k
    .obtain⟨a1,a2,a3⟩:=h
     have hq:q=i-k:=by omega
     subst xk;rw[hq];exact sA a1
    .exact keep p q _ h xk (aqK aI)
  .by_cases hqk:q<=i-k
   .rw[g1 q hqk]at h0
    have hR:FR code F i k q q:=⟨h0,by omega, .inl ⟨hqk,rfl⟩⟩
    by_cases he:q=i-k
    .subst he;exact⟨_,hR,sA h0⟩
    .exact⟨q,hR,keep q q _ hR he (aqK (by omega))⟩
   .rw[g2 q (by omega)]at h0
    have hR:FR code F i k (q+k) q:=⟨h0,by omega, .inr ⟨by omega,rfl⟩⟩
    exact⟨q+k,hR,keep _ q _ hR (by omega) (aqK (by omega))⟩
 refine s.same (by omega) λx hx=>?_
 obtain⟨y,hy,rfl⟩:=List.mem_map.1 hx
 have Qf:WF aD y:=by
  rcases aq7.1 hy with hy|hy
  .rcases aq7.1 hy with hy|hy
   .exact hw y (List.mem_of_mem_take hy)
   .obtain rfl:=aq5.1 hy;exact hlw
  .exact hw y (List.mem_of_mem_drop hy)
 unfold LH;split
 .rename_i hc;refine⟨Qf.1,?_,?_⟩
  .have h2:=hc.2;have h3:=Qf.2.1
   show(-9223372036854775808:Int)<=(y.2:Int)-k
   revert h2 h3;generalize(y.2:Int)=z;intro h2 h3;dsimp only[aC,Row.den]at*;omega
  .have h3:=Qf.2.2
   show(y.2:Int)-k<=(9223372036854775807:Int)
   revert h3;generalize(y.2:Int)=z;intro h3;have h4:z<=(9223372036854775807:Int):=h3;dsimp only[aC,Row.den]at*;omega
 .exact Qf
end
def AT{l:List Ty}(hl:l.length<=1000):M.aL aJ l=aa l:=by
 unfold M.aL
 have e:cf ([]:List aD.den) l=aa l:=by rw[br (by simp;omega)];rfl
 rw[e];simp only[aqI];split
 .rename_i h;have:l=[]:=List.length_eq_zero_iff.1 (Nat.eq_of_beq_eq_true h);subst this;unfold zU;rw[al rfl]
 .rfl
def tD(code:List Ty):Wp (M.gr aJ code) λb=>b=af↔∃F,Fits code F:=by
 unfold M.gr;obtain⟨y,hy,h⟩:=ym code;rw[hy];simp only[aqI];refine .some ⟨λhb=>h (by simpa using hb),λ⟨F,f⟩=>?_⟩;obtain⟨y',Qf,h'⟩:=f.verify;rw[hy]at Qf;obtain rfl:=aqL Qf;simpa using h'
def YF(code:List Ty):Prop:=∀i:Nat,i<code.length->Wp (M.kr aJ code (i:Int)) λr=>r.2.2=ah
def Vk{code:List Ty}(hl:code.length<=1000)(hw:∀n∈code,WF aD n):Wp (M.fy aJ code) λy=>((¬∃F,Fits code F)/\y=code)\/((∃F,Fits code F)/\sa code y/\YF y):=by
 unfold M.fy;rw[AT hl];simp only[aqI];obtain⟨b,hb,Ix⟩:=tD code;rw[hb];simp only[aqI];refine Wp.join (Wp.ite (λhc=> .some ?_) λhc=> .some ?_)
 .exact .inl ⟨λh=>(by rw[Ix.2 h]at hc;cases hc),rfl⟩
 have hF:∃F,Fits code F:=Ix.1 (by simpa using hc)
 have R3:sa code code:=⟨hF,aqS _,hw,λ_ _ _ h=>h⟩
 refine Wp.loop (λs:List Ty=>sa code s) (λs=>s.length) R3 (by unfold aJ;omega) ?_;intro s hs;have jq:s.length<=1000:=Nat.le_trans hs.le hl;refine Wp.join (Wp.loop (λt:Int×List Ty=>∃i:Nat,t.1=i/\i<=s.length/\t.2=s/\∀j,j<i->Wp (M.kr aJ s (j:Int)) λr=>r.2.2=ah) (λt=>(s.length-t.1).toNat) ⟨0,rfl,aq2 _,rfl,λj h=>by omega⟩ (by unfold aJ;simp only;omega) ?_)
 rintro⟨_,s⟩ ⟨i,rfl,hi,rfl,BQ⟩
 dsimp only at hi BQ jq hs⊢
 refine Wp.dec (λh=>?_) λh=> .some (.some ?_)
 .have jn:i<s.length:=by omega
  obtain⟨r,hr,Ya⟩:=Vf jn jq hs.wf;rw[hr];simp only[aqI]
  refine Wp.ite (λh1=>?_) λh1=> .some ?_
  .obtain⟨k,v,e1,e2,hf⟩:=Ya h1
   have hpv:¬nX (rq v):=by
    obtain⟨n,vs,hn,_,_,MB,_,Il⟩:=hf.ex;have:=(Lb (args:=vs) Hr (hs.wf n (arJ hn)) (by have:=hf.ki;omega)).ok (by rw[Il]);rw[Il]at this;exact(wG (LG this).1).1
   rw[e1,e2]
   refine Wp.seq _ (Vg jn hf.ki jq hs.wf hpv) λy hy=> .some ?_
   obtain⟨F,f⟩:=hs.fits;rw[hy];refine⟨hs.trans (N1 f jn hf hs.wf),?_⟩;have:=Ht (m:=rq v) jn hf.ki;have:=hf.k1
   show(uF s i k (rq v)).length<s.length
   omega
  .rw[aU (by omega)];refine⟨⟨i+1,rfl,jn,rfl,λj hj=>?_⟩,by simp only;omega⟩;by_cases e:j=i
   .subst e;exact⟨r,hr,by simpa using h1⟩
   .exact BQ j (by omega)
 .obtain rfl:i=s.length:=by omega
  exact .inr ⟨hF,hs,BQ⟩
end L.P.Q
end
namespace L.P.Q
inductive OK(code:List Ty):Int->Int->Prop
 |refl (t:Int):OK code t t
 |next {t:Nat} {n:Ty} {T:Int} (h:code[t]? =aa n) (tB:(n.1:Int)=51) (aI:(t:Int)<n.2) (hT:OK code n.2 T):OK code t T
def OK.snoc{code:List Ty}{s:Int}{t:Nat}{n:Ty}(h:OK code s t)(hn:code[t]? =aa n)(tB:(n.1:Int)=51)(aI:(t:Int)<n.2):OK code s n.2:=by
 generalize hx:(t:Int)=x at h
 induction h with
 |refl u=>subst hx;exact .next hn tB aI (.refl _)
 |next g g51 glt gT ih=>exact .next g g51 glt (ih hx)
def Ran(x:Int):Prop:= -9223372036854775808<=x/\x<=9223372036854775807
def R4{n:Ty}(h:WF aD n):Ran n.2:=h.2
def N2{code:List Ty}(hl:code.length<=1000)(hw:∀n∈code,WF aD n){t0:Int}(h0:Ran t0):Wp (Loop (S:=Int) (X:=Int) (λs9=>
((if(decide ((0:Int)<=s9))=af then
(if(decide (s9<(code.length:Int)))=af then
(idx code s9).bind λUy=>
(if(decide (Uy.1=(51:Int)))=af then
(idx code s9).bind λx12=>
some (decide (s9<x12.2))
else
some ah)
else
some ah)
else
some ah):Option (Bool)).bind λj10=>
(if j10=af then
(idx code s9).bind λYG=>
some (arj YG.2)
else
some (arc s9))) aJ t0) λT=>OK code t0 T/\Ran T:=by
 refine Wp.loop (λs=>OK code t0 s/\Ran s) (λs=>(code.length-s).toNat) ⟨.refl _,h0⟩ (by obtain⟨a,b⟩:=h0;unfold aJ;omega) ?_
 rintro s ⟨hs,hr⟩
 refine Wp.seq (λb=>b=af->∃(t:Nat)(n:Ty),s=t/\code[t]? =aa n/\(n.1:Int)=51/\(t:Int)<n.2) ?_ λb hb=>?_
 .refine Wp.dec (λh1=>Wp.dec (λh2=>?_) λ_=> .some λh=>by cases h) λ_=> .some λh=>by cases h
  obtain⟨t,rfl⟩:∃t:Nat,s=t:=⟨s.toNat,by omega⟩
  have ht:t<code.length:=by omega
  rw[aF ht];simp only[aqI]
  refine Wp.dec (λh3=> .some λh4=>?_) λ_=> .some λh=>by cases h
  exact⟨t,_,rfl,aqK ht,h3,ao h4⟩
 .refine Wp.ite (λh=>?_) λ_=> .some ⟨hs,hr⟩
  obtain⟨t,n,rfl,h1,h2,h3⟩:=hb h;obtain⟨ht,rfl⟩:=aqQ.1 h1;rw[aF ht];simp only[aqI];refine .some ⟨⟨hs.snoc h1 h2 h3,R4 (hw _ (aqN ht))⟩,?_⟩;revert h3;generalize(code[t].2:Int)=z;intro h3;have h3:(t:Int)<z:=h3
  show((code.length:Int)-z).toNat<((code.length:Int)-t).toNat
  have:(t:Int)<code.length:=by omega
  omega
def Th1(code:List Ty)(n m:Ty):Prop:=(m.1:Int)=n.1/\WF aD m/\(¬nX n->m=n)/\(nX n->OK code n.2 m.2)
def N3{code:List Ty}(hl:code.length<=1000)(hw:∀n∈code,WF aD n):Wp (M.gh aJ code) λy=>((¬∃F,Fits code F)/\y=code)\/((∃F,Fits code F)/\y.length=code.length/\∀(i:Nat)n,code[i]? =aa n->∃m,y[i]? =aa m/\Th1 code n m):=by
 unfold M.gh;rw[AT hl];simp only[aqI];obtain⟨b,hb,Ix⟩:=tD code;rw[hb];simp only[aqI]
 refine Wp.ite (λhc=> .some (.inl ⟨λh=>(by rw[Ix.2 h]at hc;cases hc),rfl⟩)) λhc=>?_
 have hF:∃F,Fits code F:=Ix.1 (by simpa using hc);refine Wp.loop (λs:Int×List Ty=>∃i:Nat,s.1=i/\i<=code.length/\s.2.length=code.length/\(∀(j:Nat)n,code[j]? =aa n->j<i->∃m,s.2[j]? =aa m/\Th1 code n m)/\∀j:Nat,i<=j->s.2[j]? =code[j]?) (λs=>(code.length-s.1).toNat) ⟨0,rfl,aq2 _,rfl,λj n _ h=>by omega,λj _=>rfl⟩ (by unfold aJ;simp only;omega) ?_
 rintro⟨_,out⟩ ⟨i,rfl,hi,hol,R5,R6⟩
 dsimp only at hol R5 R6⊢
 refine Wp.dec (λh=>?_) λh=> .some (.inr ⟨hF,hol,λj n hn=>R5 j n hn ?_⟩)
 case refine_2=>
  have:=(aqQ.1 hn).1;omega
 have jn:i<code.length:=by omega
 have hio:i<out.length:=by omega
 have hge:=aqK jn
 have hoe:out[i]=code[i]:=by
  have:=R6 i (aqS _);rw[aqK hio,hge]at this;exact aqL this
 have Ly:=hw _ (aqN jn);rw[aF jn];simp only[aqI,p7]
 refine Wp.seq (λo=>o.length=code.length/\(∃m,o[i]? =aa m/\Th1 code code[i] m)/\∀j:Nat,j≠i->o[j]? =out[j]?) ?_ λo ho=> .some ?_
 .refine Wp.seq (λo=>o.length=code.length/\(∃m,o[i]? =aa m/\Th1 code code[i] m)/\∀j:Nat,j≠i->o[j]? =out[j]?) ?_ λo ho=> .some ho
  generalize code[i]=n at Ly hoe hge⊢
  refine Wp.mO (λhj=> .some ⟨hol,⟨n,by rw[aqK hio,hoe],rfl,Ly,λ_=>rfl,λh=>absurd h hj⟩,λj _=>rfl⟩) λhj=>?_
  refine Wp.seq _ (N2 hl hw (R4 Ly)) λT hT=>?_
  rw[aF hio,hoe];simp only[aqI];refine .some ⟨by simp[bn,hol],⟨((n.1,T):Int×Int),by simp[bn,hio],rfl,⟨Ly.1,hT.2⟩,λh=>absurd hj h,λ_=>hT.1⟩,λj hj=>?_⟩;simp only[bn,aqR];rw[List.getElem?_set_ne (Ne.symm hj)]
 .obtain⟨o1,o2,o3⟩:=ho;rw[aU (by omega)];refine⟨⟨i+1,rfl,jn,o1,λj n hn hj=>?_,λj hj=>?_⟩,by simp only;omega⟩
  .by_cases e:j=i
   .subst e;rw[hge]at hn;obtain rfl:=aqL hn;exact o2
   .obtain⟨m,m1,m2⟩:=R5 j n hn (by omega);exact⟨m,by rw[o3 j e];exact m1,m2⟩
  .rw[o3 j (by omega)];exact R6 j (by omega)
def xL{code:List Ty}{F:List Int}(f:Fits code F){x T:Int}(h:OK code x T):∀p:Nat,x=p->0<=gd F p->p<=code.length->∃q:Nat,T=q/\p<=q/\q<=code.length/\gd F q=gd F p:=by
 induction h with
 |refl t=>exact λp e h0 hp=>⟨p,e,aqS _,hp,rfl⟩
 | @next t n T hn tB aI hT ih=>
   intro p e h0 hp
   obtain rfl:t=p:=by omega
   obtain⟨s,_⟩:=f.at hn h0
   rcases s with⟨_,u,u1,u2,u3,u4⟩|⟨c,_⟩|⟨c,_⟩
   .obtain⟨q,q1,q2,q3,q4⟩:=ih u u1 (by omega) u3;exact⟨q,q1,by omega,q3,by omega⟩
   .exact absurd tB (qO c)
   .exact absurd tB c
def Hu{code y:List Ty}{F:List Int}(f:Fits code F)(YH:y.length=code.length)(hy:∀(i:Nat)n,code[i]? =aa n->∃m,y[i]? =aa m/\Th1 code n m):sa code y:=by
 have one:∀p:Nat,p<code.length->0<=gd F p->Ta code y (λp q=>0<=gd F p/\p<=code.length/\OK code p q) p p:=by
  intro p hp h0;have hge:=aqK hp;generalize code[p]=n at hge;obtain⟨m,hm,e1,hwm,BQ,hth⟩:=hy p n hge;by_cases hj:nX n
  .obtain⟨s,_⟩:=f.at hge h0;have ht:=hth hj
   rcases s with⟨c1,t,c2,c3,c4,c5⟩|⟨c1,c2,c3,t,c4,c5,c6,c7⟩|⟨c1,c2,_⟩
   .rw[show(n.2:Int)=t from c2]at ht;obtain⟨q,q1,q2,q3,q4⟩:=xL f ht t rfl (by omega) c4;rw[show(m.2:Int)=q from q1]at ht;exact .jump hge hm c1 (e1.trans c1) c2 q1 (by omega) ⟨by omega,c4,ht⟩
   .have h7:0<=gd F t:=by rw[c7];split<;>omega
    rw[show(n.2:Int)=t from c4]at ht;obtain⟨q,q1,q2,q3,q4⟩:=xL f ht t rfl h7 c6;rw[show(m.2:Int)=q from q1]at ht;exact .cond hge hm c1 e1 c4 q1 (by omega) ⟨h7,c6,ht⟩ ⟨by omega,hp, .refl _⟩
   .exact(pL hj).elim (λe=>absurd e c1) (λe=>absurd e c2)
  .rw[BQ hj]at hm;obtain⟨s1,s2,s3,_⟩:=f.op hge hj h0;exact .op hge hm hj ⟨by omega,hp, .refl _⟩
 have s:Vc code y F F (λp q=>0<=gd F p/\p<=code.length/\OK code p q):=by
  refine⟨f,by rw[YH];exact f.pos,by rw[YH];exact f.le,by rw[YH];exact f.len,f.bd,λp q h=>?_,λp q h=>?_,λq hq h0=>⟨q,⟨h0,by omega, .refl _⟩,one q (by omega) h0⟩,⟨by rw[f.first];decide,aq2 _, .refl _⟩,?_⟩
  .obtain⟨a1,a2,a3⟩:=h;obtain⟨q',b1,b2,b3,b4⟩:=xL f a3 p rfl a1 a2
   obtain rfl:q=q':=by omega
   exact⟨a1,a2,by omega,b4⟩
  .obtain⟨a1,a2,a3⟩:=h;generalize hx:(p:Int)=x at a3;generalize hz:(q:Int)=z at a3
   cases a3 with
   |refl t=>
    obtain rfl:p=q:=by omega
    by_cases hp:p=code.length
    .exact .inl ⟨hp,by omega⟩
    .exact .inr (.inl (one p (by omega) a1))
   | @next t n T hn tB aI hT=>
     obtain rfl:p=t:=by omega
     obtain⟨s,_⟩:=f.at hn a1
     rcases s with⟨_,u,u1,u2,u3,u4⟩|⟨c,_⟩|⟨c,_⟩
     .refine .inr (.inr ⟨n,u,hn,tB,u1,by omega,u3,?_⟩);rw[show(n.2:Int)=u from u1]at hT;exact hT
     .exact absurd tB (qO c)
     .exact absurd tB c
  .rw[YH];exact⟨by rw[f.last];decide,aqS _, .refl _⟩
 refine s.same (by omega) λm hm=>?_
 obtain⟨i,hi,rfl⟩:=aqZ hm
 have jn:i<code.length:=by omega
 obtain⟨m',h1,h2⟩:=hy i _ (aqK jn);rw[aqK hi]at h1;rw[aqL h1];exact h2.2.1
end L.P.Q
namespace L.P.Q
def gb(l:List Bool)(k:Nat):Bool:=l.getD k ah
def vu{l:List Bool}{t:Nat}(ht:t<l.length)(d:Bool)(k:Nat):gb (l.set t d) k=if k=t then d else gb l k:=by
 unfold gb arm;by_cases h:k=t
 .subst h;rw[al rfl,List.getElem?_set_self ht];rfl
 .rw[aj h,List.getElem?_set_ne (by omega)]
def xM{l:List Bool}{t:Nat}(ht:t<l.length):idx l (t:Int)=aa (gb l t):=by
 rw[aF ht];simp[gb,arm,ht]
def YI(n k:Nat):gb (aqO n ah) k=ah:=by
 unfold gb arm;by_cases h:k<n
 .simp[h]
 .rw[List.getElem?_eq_none (by simp;omega)];rfl
structure RL(code:List Ty)(F:List Int)(l:List Bool):Prop where
 len:l.length=code.length+1
 zero:gb l 0=af
 sound:∀i,gb l i=af->0<=gd F i
 step:∀(i:Nat)n,code[i]? =aa n->gb l i=af->((n.1:Int)≠51->gb l (i+1)=af)/\(nX n->∀t:Nat,(n.2:Int)=t->gb l t=af)
def Er{code:List Ty}{F:List Int}(f:Fits code F):Wp (M.ik aJ code) λr=>∃l,RL code F l/\r=l.take code.length:=by
 have hle:=f.le;have oZ:=f.pos;unfold M.ik;rw[aU (by omega)]
 have Bc:ol ((code.length+1:Nat):Int) ah=aa (aqO (code.length+1) ah):=by
  unfold ol;rw[al (by omega),aqR]
 rw[Bc];simp only[aqI]
 have e1:idx (aqO (code.length+1) ah) 0=aa ah:=by rw[List.replicate_succ];rfl
 rw[e1];simp only[aqI];have es:bn (aqO (code.length+1) ah) (0:Int) af=(aqO (code.length+1) ah).set 0 af:=rfl;rw[es]
 have g0:∀k,gb ((aqO (code.length+1) ah).set 0 af) k=if k=0 then af else ah:=λk=>by
  rw[vu (by simp),YI]
 refine Wp.seq (RL code F) ?_ λl hl=>?_
 .refine Wp.loop (λs:Int×List Bool=>∃i:Nat,s.1=i/\i<=code.length/\s.2.length=code.length+1/\gb s.2 0=af/\(∀j,gb s.2 j=af->0<=gd F j)/\∀(j:Nat)n,j<i->code[j]? =aa n->gb s.2 j=af->((n.1:Int)≠51->gb s.2 (j+1)=af)/\(nX n->∀t:Nat,(n.2:Int)=t->gb s.2 t=af)) (λs=>(code.length-s.1).toNat) ⟨0,rfl,aq2 _,by simp,by rw[g0];rfl,λj hj=>?_,λj n h=>by omega⟩ (by unfold aJ;simp only;omega) ?_
  .simp only[g0]at hj;split at hj
   .rename_i e;subst e;rw[f.first];decide
   .cases hj
  rintro⟨_,l⟩ ⟨i,rfl,hi,EK,hz,hs,mf⟩
  dsimp only at EK hz hs mf⊢
  refine Wp.dec (λh=>?_) λh=> .some ⟨EK,hz,hs,λj n hn=>mf j n ?_ hn⟩
  case refine_2=>
   have:=(aqQ.1 hn).1;omega
  have jn:i<code.length:=by omega
  have hge:=aqK jn;rw[aF jn,xM (by omega)];generalize code[i]=n at hge⊢;simp only[aqI,p7]
  have mono:∀{a b:List Bool}{t:Nat},t<a.length->0<=gd F t->b=a.set t af->(∀j,gb a j=af->0<=gd F j)->(∀j,gb b j=af->0<=gd F j)/\(∀j,gb a j=af->gb b j=af)/\(∀j,j≠t->gb b j=gb a j)/\gb b t=af:=by
   intro a b t ht h0 e hs;subst e;refine⟨λj hj=>?_,λj hj=>?_,λj hj=>?_,?_⟩
   .rw[vu ht]at hj;split at hj
    .rename_i e;rw[e];exact h0
    .exact hs j hj
   .rw[vu ht];split
    .rfl
    .exact hj
   .rw[vu ht,aj hj]
   .rw[vu ht,al rfl]
  refine Wp.seq (λo=>o.length=code.length+1/\(∀j,gb o j=af->0<=gd F j)/\(∀j,gb l j=af->gb o j=af)/\(∀j,j<=i->gb o j=gb l j)/\(gb l i=af->((n.1:Int)≠51->gb o (i+1)=af)/\(nX n->∀t:Nat,(n.2:Int)=t->gb o t=af))) ?_ λo ho=> .some ?_
  .by_cases hg:gb l i=af
   .rw[aj (by simp[hg])];have h0:=hs i hg;obtain⟨sp,_⟩:=f.at hge h0
    have hnx:(n.1:Int)≠51->0<=gd F (i+1):=by
     intro h
     rcases sp with⟨c,_⟩|⟨_,c2,c3,_⟩|⟨_,_,c3,c4,c5,_⟩
     .exact absurd c h
     .omega
     .omega
    have htg:nX n->∃t:Nat,(n.2:Int)=t/\i<t/\t<=code.length/\0<=gd F t:=by
     intro h
     rcases sp with⟨_,t,c2,c3,c4,c5⟩|⟨_,c2,c3,t,c4,c5,c6,c7⟩|⟨c1,c2,_⟩
     .exact⟨t,c2,c3,c4,by omega⟩
     .exact⟨t,c4,c5,c6,by rw[c7];split<;>omega⟩
     .exact(pL h).elim (λe=>absurd e c1) (λe=>absurd e c2)
    refine Wp.seq (λo=>o.length=code.length+1/\(∀j,gb o j=af->0<=gd F j)/\(∀j,gb l j=af->gb o j=af)/\(∀j,j<=i->gb o j=gb l j)/\((n.1:Int)≠51->gb o (i+1)=af)) ?_ λo ho=>?_
    .refine Wp.mO (λtB=>?_) λtB=> .some ⟨EK,hs,λ_ h=>h,λ_ _=>rfl,λh=>absurd tB h⟩
     rw[aU (by omega),xM (by omega)];simp only[aqI];obtain⟨m1,m2,m3,m4⟩:=mono (a:=l) (t:=i+1) (by omega) (hnx tB) rfl hs;refine .some ⟨by simp[bn,EK],m1,m2,λj hj=>m3 j (by omega),λ_=>m4⟩
    obtain⟨o1,o2,o3,o4,o5⟩:=ho
    refine Wp.dec (λhj=>?_) λhj=> .some ⟨o1,o2,o3,o4,λ_=>⟨o5,λh=>absurd h hj⟩⟩
    obtain⟨t,t1,t2,t3,t4⟩:=htg hj;rw[show(n.2:Int)=t from t1,xM (by omega)];simp only[aqI];obtain⟨m1,m2,m3,m4⟩:=mono (a:=o) (t:=t) (by omega) t4 rfl o2;refine .some ⟨by simp[bn,o1],m1,λj h=>m2 j (o3 j h),λj hj=>by rw[<-o4 j hj];exact m3 j (by omega),λ_=>⟨λh=>m2 _ (o5 h),λ_ u hu=>?_⟩⟩
    have:u=t:=by have h:(t:Int)=u:=hu;omega
    subst this;exact m4
   .rw[al (by simpa using hg)];exact .some ⟨EK,hs,λ_ h=>h,λ_ _=>rfl,λh=>absurd h hg⟩
  .obtain⟨o1,o2,o3,o4,o5⟩:=ho;rw[aU (by omega)];refine⟨⟨i+1,rfl,jn,o1,o3 0 hz,o2,λj m hj hm hgj=>?_⟩,by simp only;omega⟩;by_cases e:j=i
   .subst e;rw[hge]at hm;obtain rfl:=aqL hm;rw[o4 j (aqS _)]at hgj;exact o5 hgj
   .rw[o4 j (by omega)]at hgj;obtain⟨a1,a2⟩:=mf j m (by omega) hm hgj;exact⟨λh=>o3 _ (a1 h),λh t ht=>o3 _ (a2 h t ht)⟩
 .rw[jC (by rw[hl.len];omega)];simp only[aqI];exact .some ⟨l,hl,rfl⟩
def tE(n:Ty)(i:Nat):Prop:=(n.1:Int)=51/\(n.2:Int)=((i+1:Nat):Int)
instance(n:Ty)(i:Nat):Decidable (tE n i):=by unfold tE;infer_instance
structure KL(code:List Ty)(l K:List Bool):Prop where
 len:K.length=code.length
 ok:∀(i:Nat)n,code[i]? =aa n->(gb K i=af↔gb l i=af/\¬tE n i)
def ct(K:List Bool):Nat->Nat
 |0=>0
 |i+1=>ct K i+if gb K i=af then 1 else 0
def kp{α:Type}(g:Nat->α)(K:List Bool):Nat->List α
 |0=>[]
 |i+1=>kp g K i++if gb K i=af then[g i]else[]
def oi{α:Type}(g:Nat->α)(K:List Bool):∀i,(kp g K i).length=ct K i
 |0=>rfl
 |i+1=>by
  rw[kp,ct,aqT,oi g K i]
  split<;>rfl
def Es(K:List Bool){i j:Nat}(h:i<=j):ct K i<=ct K j:=by
 induction j with
 |zero=>obtain rfl:i=0:=by omega
        exact aqS _
 |succ j ih=>
  by_cases e:i=j+1
  .rw[e];exact aqS _
  .have:=ih (by omega);rw[ct];omega
def CS(K:List Bool):∀i,ct K i<=i
 |0=>aqS _
 |i+1=>by
  have:=CS K i;rw[ct]
  split<;>omega
def AU{α:Type}(g:Nat->α)(K:List Bool){i:Nat}(hi:gb K i=af):∀j,i<j->(kp g K j)[ct K i]? =aa (g i):=by
 intro j
 induction j with
 |zero=>intro h;omega
 |succ j ih=>
  intro h;rw[kp];by_cases e:i=j
  .subst e;rw[al hi,arD (by rw[oi];exact aqS _),oi,Nat.sub_self];rfl
  .have aI:ct K i<(kp g K j).length:=by
    rw[oi];have h1:ct K (i+1)<=ct K j:=Es K (by omega);rw[ct,al hi]at h1;omega
   rw[List.getElem?_append_left aI];exact ih (by omega)
def Et(K:List Bool){q:Nat}:∀j,q<ct K j->∃i,i<j/\gb K i=af/\ct K i=q:=by
 intro j
 induction j with
 |zero=>intro h;simp[ct]at h
 |succ j ih=>
  intro h;by_cases hq:q<ct K j
  .obtain⟨i,h1,h2,h3⟩:=ih hq;exact⟨i,by omega,h2,h3⟩
  .rw[ct]at h;by_cases hk:gb K j=af
   .rw[al hk]at h;exact⟨j,by omega,hk,by omega⟩
   .rw[aj hk]at h;omega
def rj(K:List Bool)(n:Ty):Ty:=if nX n then((n.1,((ct K (n.2:Int).toNat:Nat):Int)):Int×Int)else n
def rem(code:List Ty)(K:List Bool):List Ty:=(kp (λi=>code.getD i ((0,0):Int×Int)) K code.length).map (rj K)
def R7(K:List Bool)(n:Ty):((rj K n).1:Int)=n.1:=by
 unfold rj
 split<;>rfl
def R8{K:List Bool}{n:Ty}(h:¬nX n):rj K n=n:=by
 unfold rj;rw[aj h]
def yL{code:List Ty}{K:List Bool}(hl:code.length<=1000)(hK:K.length=code.length)(hj:∀(i:Nat)n,code[i]? =aa n->gb K i=af->nX n->∃t:Nat,(n.2:Int)=t/\t<=code.length):Wp (M.fL aJ code K) λr=>r=rem code K:=by
 unfold M.fL;rw[aU (by omega)]
 have Bc:ol ((code.length+1:Nat):Int) (0:Int)=aa (aqO (code.length+1) 0):=by
  unfold ol;rw[al (by omega),aqR]
 rw[Bc];simp only[aqI]
 refine Wp.seq (λj=>j.1.length=code.length+1/\(∀t:Nat,t<code.length->j.1[t]? =aa (((ct K t:Nat):Int)))/\j.2=kp (λi=>code.getD i ((0,0):Int×Int)) K code.length) ?_ λj hjj=>?_
 .refine Wp.loop (λs:Int×List Int×List Ty=>∃i:Nat,s.1=i/\i<=code.length/\s.2.1.length=code.length+1/\(∀t:Nat,t<i->s.2.1[t]? =aa (((ct K t:Nat):Int)))/\s.2.2=kp (λi=>code.getD i ((0,0):Int×Int)) K i) (λs=>(code.length-s.1).toNat) ⟨0,rfl,aq2 _,by simp,λt h=>by omega,rfl⟩ (by unfold aJ;simp only;omega) ?_
  rintro⟨_,ps,_⟩ ⟨i,rfl,hi,rF,hp,rfl⟩
  dsimp only at rF hp⊢
  refine Wp.dec (λh=>?_) λh=> .some ?_
  .have jn:i<code.length:=by omega
   rw[aF jn,aF (show i<ps.length by omega),xM (by omega)];simp only[aqI]
   have Ue:code.getD i ((0,0):Int×Int)=code[i]:=by simp only[arm,jn,aqK,arn]
   have If:=oi (λi=>code.getD i ((0,0):Int×Int)) K i;have Ac:=CS K i
   refine Wp.seq (λo=>o=(ps.set i (((ct K i:Nat):Int)),kp (λi=>code.getD i ((0,0):Int×Int)) K (i+1))) ?_ λo ho=> .some ?_
   .by_cases hg:gb K i=af
    .rw[al hg,br (by rw[If];simp;omega)];simp only[aqI];refine .some ?_;rw[kp,al hg,Ue,If];rfl
    .rw[aj hg];refine .some ?_;rw[kp,aj hg,List.append_nil,If];rfl
   .subst ho;rw[aU (by omega)];refine⟨⟨i+1,rfl,jn,by simp[rF],λt ht=>?_,rfl⟩,by simp only;omega⟩
    show(ps.set i _)[t]? =_
    by_cases e:t=i
    .subst e;rw[List.getElem?_set_self (by omega)]
    .rw[List.getElem?_set_ne (by omega)];exact hp t (by omega)
  .obtain rfl:i=code.length:=by omega
   exact⟨rF,hp,rfl⟩
 .obtain⟨ps,res⟩:=j;obtain⟨p1,p2,rfl⟩:=hjj;dsimp only at p1 p2⊢;rw[aF (show code.length<ps.length by omega)];simp only[aqI];have Ac:=CS K code.length;have If:=oi (λi=>code.getD i ((0,0):Int×Int)) K code.length
  have hps:∀t:Nat,t<=code.length->idx (bn ps (code.length:Int) (((kp (λi=>code.getD i ((0,0):Int×Int)) K code.length).length:Nat):Int)) (t:Int)=aa (((ct K t:Nat):Int)):=by
   intro t ht
   have hlen:t<(bn ps (code.length:Int) (((kp (λi=>code.getD i ((0,0):Int×Int)) K code.length).length:Nat):Int)).length:=by simp[bn];omega
   rw[aF hlen]
   have e:(bn ps (code.length:Int) (((kp (λi=>code.getD i ((0,0):Int×Int)) K code.length).length:Nat):Int))[t]? =aa (((ct K t:Nat):Int)):=by
    unfold bn;rw[aqR,If];by_cases e:t=code.length
    .subst e;rw[List.getElem?_set_self (by omega)]
    .rw[List.getElem?_set_ne (by omega)];exact p2 t (by omega)
   rw[aqK hlen]at e;exact e
  unfold rem
  refine Hs (by omega) (λq hq l EK hlq=>?_) λl EK=>?_
  .have hq2:q<l.length:=by omega
   have hqc:q<ct K code.length:=by omega
   obtain⟨i,i1,i2,i3⟩:=Et K _ hqc
   have Ue:code.getD i ((0,0):Int×Int)=code[i]:=by simp only[arm,i1,aqK,arn]
   have hx:(kp (λi=>code.getD i ((0,0):Int×Int)) K code.length)[q]=code[i]:=by
    have:=AU (λi=>code.getD i ((0,0):Int×Int)) K i2 code.length i1;rw[i3,aqK hq,Ue]at this;exact aqL this
   have hge:=aqK i1;rw[hx]at hlq⊢;generalize code[i]=x at hlq hge⊢;dsimp only;rw[aF hq2,hlq];simp only[aqI,p7]
   refine Wp.dec (λ_=>?_) λh=>by omega
   refine Wp.seq (λo=>o=l.set q (rj K x)) ?_ λo ho=> .some ?_
   .refine Wp.dec (λF8=>?_) λF8=> .some ?_
    .obtain⟨t,t1,t2⟩:=hj i x hge i2 F8;rw[show(x.2:Int)=t from t1,hps t t2];simp only[aqI];refine .some ?_;unfold rj;rw[al (show nX x from F8),t1];simp[bn]
    .rw[R8 F8,<-hlq];simp
   .rw[ho,aU (by omega)]
  .dsimp only
   exact Wp.dec (λh=>by omega) λ_=> .some rfl
def Hv{K:List Bool}(hl:K.length<=1000):Wp (M.ed aJ K ah) λb=>(b=af->∃i,i<K.length/\gb K i=ah):=by
 unfold M.ed M.jM
 refine Wp.seq (λr:Int=>0<=r->∃i,i<K.length/\gb K i=ah) ?_ λr hr=> .some λh=>hr (by simpa using h)
 refine Wp.loop (λs:Int=>∃i:Nat,s=i/\i<=K.length) (λs=>(K.length-s).toNat) ⟨0,rfl,aq2 _⟩ (by unfold aJ;omega) ?_
 rintro _ ⟨i,rfl,hi⟩
 refine Wp.dec (λh=>?_) λh=> .some λh=>absurd h (by decide)
 have jn:i<K.length:=by omega
 rw[xM jn];simp only[aqI]
 refine Wp.dec (λh1=> .some λ_=>⟨i,jn,h1.symm⟩) λh1=> .some ?_
 rw[aU (by omega)];exact⟨⟨i+1,rfl,jn⟩,by simp only;omega⟩
def R9{code:List Ty}{F:List Int}{l K:List Bool}(f:Fits code F)(hw:∀n∈code,WF aD n)(r:RL code F l)(k:KL code l K):sa code (rem code K)/\(rem code K).length=ct K code.length:=by
 have hlen:(rem code K).length=ct K code.length:=by unfold rem;rw[arb,oi]
 have Ac:=CS K code.length;have hle:=f.le;refine⟨?_,hlen⟩
 have gF:∀i,gb K i=af->i<code.length->gd (kp (λi=>gd F i) K code.length++[1]) (ct K i)=gd F i:=by
  intro i hi aI;have:=AU (λi=>gd F i) K hi code.length aI;have hl2:ct K i<(kp (λi=>gd F i) K code.length).length:=(aqQ.1 this).1;rw[xK,List.getElem?_append_left hl2,this];rfl
 have gL:gd (kp (λi=>gd F i) K code.length++[1]) (ct K code.length)=1:=by
  rw[xK,arD (by rw[oi];exact aqS _),oi,Nat.sub_self];rfl
 have skip:∀(p:Nat)n,code[p]? =aa n->gb l p=af->¬gb K p=af->tE n p/\gb l (p+1)=af/\gd F (p+1)=gd F p/\ct K (p+1)=ct K p:=by
  intro p n hn hg hk
  have hx:tE n p:=by
   by_cases h:tE n p
   .exact h
   .exact absurd ((k.ok p n hn).2 ⟨hg,h⟩) hk
  refine⟨hx,(r.step p n hn hg).2 (uP hx.1) (p+1) hx.2,?_,by rw[ct,aj hk];rfl⟩;obtain⟨s,_⟩:=f.at hn (r.sound p hg)
  rcases s with⟨_,u,u1,u2,u3,u4⟩|⟨c,_⟩|⟨c,_⟩
  .have:u=p+1:=nat_eq u1 hx.2;rw[<-this];exact u4
  .exact absurd hx.1 (qO c)
  .exact absurd hx.1 c
 have dep:∀(m p:Nat),code.length-p<=m->p<=code.length->gb l p=af->gd (kp (λi=>gd F i) K code.length++[1]) (ct K p)=gd F p:=by
  intro m
  induction m with
  |zero=>
   intro p hm hp hg
   obtain rfl:p=code.length:=by omega
   rw[gL,f.last]
  |succ m ih=>
   intro p hm hp hg;by_cases aI:p<code.length
   .by_cases hk:gb K p=af
    .exact gF p hk aI
    .obtain⟨_,h1,h2,h3⟩:=skip p _ (aqK aI) hg hk;rw[<-h3,<-h2];exact ih (p+1) (by omega) aI h1
   .obtain rfl:p=code.length:=by omega
    rw[gL,f.last]
 have aiY:∀(m p:Nat),code.length-p<=m->p<=code.length->gb l p=af->gb l code.length=af:=by
  intro m
  induction m with
  |zero=>
   intro p hm hp hg
   obtain rfl:p=code.length:=by omega
   exact hg
  |succ m ih=>
   intro p hm hp hg;by_cases aI:p<code.length
   .have hge:=aqK aI;obtain⟨s1,s2⟩:=r.step p _ hge hg;by_cases tB:(code[p].1:Int)=51
    .obtain⟨s,_⟩:=f.at hge (r.sound p hg)
     rcases s with⟨_,u,u1,u2,u3,u4⟩|⟨c,_⟩|⟨c,_⟩
     .exact ih u (by omega) u3 (s2 (uP tB) u u1)
     .exact absurd tB (qO c)
     .exact absurd tB c
    .exact ih (p+1) (by omega) aI (s1 tB)
   .obtain rfl:p=code.length:=by omega
    exact hg
 have aiZ:=aiY code.length 0 (by omega) (aq2 _) r.zero
 have one:∀p:Nat,p<code.length->gb K p=af->Ta code (rem code K) (λp q=>gb l p=af/\p<=code.length/\q=ct K p) p (ct K p):=by
  intro p hp hk;have hge:=aqK hp
  have hb:(rem code K)[ct K p]? =aa (rj K code[p]):=by
   unfold rem;rw[arP,AU _ K hk code.length hp];simp only[arm,hge,arn,Option.map_some]
  have Xl:ct K (p+1)=ct K p+1:=by rw[ct,al hk]
  generalize code[p]=n at hge hb;have hg:=((k.ok p n hge).1 hk).1;obtain⟨s1,s2⟩:=r.step p n hge hg
  have tgt:∀t:Nat,nX n->(n.2:Int)=t->p<t->t<=code.length->((rj K n).2:Int)=((ct K t:Nat):Int)/\ct K p<ct K t/\gb l t=af:=by
   intro t hj ht JO A9;refine⟨?_,?_,s2 hj t ht⟩
   .unfold rj;rw[al hj]
    show((ct K (n.2:Int).toNat:Nat):Int)=_
    rw[ht];rfl
   .have:=Es K (show p+1<=t by omega);omega
  by_cases hj:nX n
  .obtain⟨s,_⟩:=f.at hge (r.sound p hg)
   rcases s with⟨c1,t,c2,c3,c4,c5⟩|⟨c1,c2,c3,t,c4,c5,c6,c7⟩|⟨c1,c2,_⟩
   .obtain⟨t1,t2,t3⟩:=tgt t hj c2 c3 c4;exact .jump hge hb c1 ((R7 K n).trans c1) c2 t1 t2 ⟨t3,c4,rfl⟩
   .obtain⟨t1,t2,t3⟩:=tgt t hj c4 c5 c6;exact .cond hge hb c1 (R7 K n) c4 t1 t2 ⟨t3,c6,rfl⟩ ⟨s1 (qO c1),hp,Xl.symm⟩
   .exact(pL hj).elim (λe=>absurd e c1) (λe=>absurd e c2)
  .rw[R8 hj]at hb;exact .op hge hb hj ⟨s1 (λh=>hj (uP h)),hp,Xl.symm⟩
 have d0:=dep code.length 0 (by omega) (aq2 _) r.zero;rw[f.first]at d0
 have oZ:0<ct K code.length:=by
  rcases Nat.eq_zero_or_pos (ct K code.length)with h|h
  .rw[h]at gL;have e:ct K 0=0:=rfl;rw[e,gL]at d0;cases d0
  .exact h
 have s:Vc code (rem code K) F (kp (λi=>gd F i) K code.length++[1]) (λp q=>gb l p=af/\p<=code.length/\q=ct K p):=by
  refine⟨f,by omega,by omega,by rw[aqT,oi,hlen];rfl,λq=>?_,λp q h=>?_,λp q h=>?_,λq hq h0=>?_,⟨r.zero,aq2 _,rfl⟩,⟨aiZ,aqS _,hlen⟩⟩
  .rw[xK]
   cases hx:(kp (λi=>gd F i) K code.length++[1])[q]? with
   |none=>decide
   |some z=>
    show-1<=z/\z<=12
    have hm:=arJ hx
    rcases aq7.1 hm with hm|hm
    .obtain⟨q',sC,rfl⟩:=aqZ hm;rw[oi]at sC;obtain⟨i,i1,i2,i3⟩:=Et K _ sC;have:=AU (λi=>gd F i) K i2 code.length i1;rw[i3,aqK (by rw[oi];exact sC)]at this;rw[aqL this];exact f.bd i
    .rw[aq5.1 hm];decide
  .obtain⟨a1,a2,rfl⟩:=h;exact⟨r.sound p a1,a2,by rw[hlen];exact Es K a2,dep code.length p (by omega) a2 a1⟩
  .obtain⟨a1,a2,rfl⟩:=h;by_cases hp:p=code.length
   .exact .inl ⟨hp,by rw[hlen,hp]⟩
   .have aI:p<code.length:=by omega
    by_cases hk:gb K p=af
    .exact .inr (.inl (one p aI hk))
    .have hge:=aqK aI;obtain⟨h1,h2,_,h3⟩:=skip p _ hge a1 hk;exact .inr (.inr ⟨_,p+1,hge,h1.1,h1.2,h2,aI,h3.symm⟩)
  .rw[hlen]at hq;obtain⟨i,i1,i2,i3⟩:=Et K _ hq;subst i3;exact⟨i,⟨((k.ok i _ (aqK i1)).1 i2).1,by omega,rfl⟩,one i i1 i2⟩
 refine s.same (by omega) λm hm=>?_
 unfold rem at hm;obtain⟨y,hy,rfl⟩:=List.mem_map.1 hm;obtain⟨q,hq,rfl⟩:=aqZ hy;have sC:=hq;rw[oi]at sC;obtain⟨i,i1,i2,i3⟩:=Et K _ sC;have:=AU (λi=>code.getD i ((0,0):Int×Int)) K i2 code.length i1;rw[i3,aqK hq]at this;have e:=aqL this
 have Ue:code.getD i ((0,0):Int×Int)=code[i]:=by simp only[arm,i1,aqK,arn]
 rw[e,Ue];have hwi:=hw _ (aqN i1);unfold rj;split
 .rename_i hj;refine⟨hwi.1,?_,?_⟩
  .show(-9223372036854775808:Int)<=((ct K _:Nat):Int);omega
  .show((ct K (code[i].2:Int).toNat:Nat):Int)<=(9223372036854775807:Int)
   by_cases Zk:∃t:Nat,(code[i].2:Int)=t/\t<=code.length
   .obtain⟨t,t1,t2⟩:=Zk;rw[t1,aqR];have:=CS K t;omega
   .exfalso;apply Zk;have hge:=aqK i1;obtain⟨s,_⟩:=f.at hge (r.sound i ((k.ok i _ hge).1 i2).1)
    rcases s with⟨c1,t,c2,c3,c4,c5⟩|⟨c1,c2,c3,t,c4,c5,c6,c7⟩|⟨c1,c2,_⟩
    .exact⟨t,c2,c4⟩
    .exact⟨t,c4,c6⟩
    .exact(pL hj).elim (λe=>absurd e c1) (λe=>absurd e c2)
 .exact hwi
end L.P.Q
namespace L.P.Q
noncomputable def LK(s4:List aD.den):Option (List aD.den⊕List aD.den):=
(M.ik aJ s4).bind λy5=>
(Loop (S:=Int×List Bool) (X:=List Bool) (λs7=>
(if(decide (s7.1<(s4.length:Int)))=af then
((idx s4 s7.1).bind λx9=>
((if(decide (x9.1=(51:Int)))=af then
some (decide (x9.2=(aqJ.wrap (s7.1+(1:Int)))))
else
some ah):Option (Bool)).bind λj10=>
(if j10=af then
(idx s7.2 s7.1).bind λUy=>
some (bn s7.2 s7.1 ah)
else
some s7.2):Option (List Bool)).bind λj8=>
some (arj (aqJ.wrap (s7.1+(1:Int)),j8))
else
some (arc s7.2))) aJ ((0:Int),y5):Option (List Bool)).bind λj6=>
(M.ed aJ j6 ah).bind λZl=>
(if Zl=af then
(M.fL aJ s4 j6).bind λy13=>
some (arj y13)
else
some (arc s4))
def Ww{K:List Bool}:∀{j:Nat},(∃i,i<j/\gb K i=ah)->ct K j<j
 |0,⟨i,h,_⟩=>by omega
 |j+1,⟨i,h,hk⟩=>by
  rw[ct];by_cases e:i=j
  .subst e;rw[aj (by simp[hk])];have:=CS K i;omega
  .have:=Ww (K:=K) (j:=j) ⟨i,by omega,hk⟩
   split<;>omega
def Sa{code:List Ty}{F:List Int}(f:Fits code F)(hw:∀n∈code,WF aD n):Wp (LK code) λr=>(∃y,r= .inl y/\sa code y/\y.length<code.length)\/r= .inr code:=by
 have hle:=f.le;unfold LK
 refine Wp.seq _ (Er f) λy hy=>?_
 obtain⟨l,r,rfl⟩:=hy;have hrl:=r.len
 refine Wp.seq (KL code l) ?_ λK k=>?_
 .refine Wp.loop (λs:Int×List Bool=>∃i:Nat,s.1=i/\i<=code.length/\s.2.length=code.length/\(∀(j:Nat)n,j<i->code[j]? =aa n->(gb s.2 j=af↔gb l j=af/\¬tE n j))/\∀j,i<=j->j<code.length->gb s.2 j=gb l j) (λs=>(code.length-s.1).toNat) ⟨0,rfl,aq2 _,by simp;omega,λj n h=>by omega,λj _ hj=>?_⟩ (by unfold aJ;simp only;omega) ?_
  .show gb (l.take code.length) j=gb l j
   unfold gb;rw[arm,arm,List.getElem?_take_of_lt hj]
  rintro⟨_,K⟩ ⟨i,rfl,hi,hKl,hd,hr⟩
  dsimp only at hKl hd hr⊢
  refine Wp.dec (λh=>?_) λh=> .some ⟨hKl,λj n hn=>hd j n ?_ hn⟩
  case refine_2=>
   have:=(aqQ.1 hn).1;omega
  have jn:i<code.length:=by omega
  have hge:=aqK jn;rw[aF jn];generalize code[i]=n at hge⊢;simp only[aqI]
  refine Wp.seq (λo=>o.length=code.length/\(gb o i=af↔gb l i=af/\¬tE n i)/\∀j,j≠i->gb o j=gb K j) ?_ λo ho=> .some ?_
  .refine Wp.seq (λb=>b=decide (tE n i)) ?_ λb hb=>?_
   .rw[aU (by omega)]
    refine Wp.dec (λh1=> .some ?_) λh1=> .some ?_
    .unfold tE
     by_cases h2:(n.2:Int)=((i+1:Nat):Int)
     .simp[h1,h2]
     .simp[h1,h2]
    .unfold tE;simp[h1]
   .subst hb
    refine Wp.dec (λh1=>?_) λh1=> .some ⟨hKl,?_,λ_ _=>rfl⟩
    .rw[xM (by omega)];simp only[aqI];refine .some ⟨by simp[bn,hKl],?_,λj hj=>?_⟩
     .show gb (K.set i ah) i=af↔_
      rw[vu (by omega),al rfl];simp[h1]
     .show gb (K.set i ah) j=gb K j
      rw[vu (by omega),aj hj]
    .rw[hr i (aqS _) jn];simp[h1]
  .obtain⟨o1,o2,o3⟩:=ho;rw[aU (by omega)];refine⟨⟨i+1,rfl,jn,o1,λj m hj hm=>?_,λj hj SO=>?_⟩,by simp only;omega⟩
   .by_cases e:j=i
    .subst e;rw[hge]at hm;obtain rfl:=aqL hm;exact o2
    .show gb o j=af↔_
     rw[o3 j e];exact hd j m (by omega) hm
   .show gb o j=gb l j
    rw[o3 j (by omega)];exact hr j (by omega) SO
 .refine Wp.seq _ (Hv (by rw[k.len];omega)) λb hb=>?_
  refine Wp.ite (λh=>?_) λ_=> .some (.inr rfl)
  have hx:=hb h;rw[k.len]at hx
  refine Wp.seq _ (yL (by omega) k.len λi n hn hk hj=>?_) λz hz=> .some (.inl ⟨z,rfl,?_⟩)
  .obtain⟨s,_⟩:=f.at hn (r.sound i ((k.ok i n hn).1 hk).1)
   rcases s with⟨c1,t,c2,c3,c4,c5⟩|⟨c1,c2,c3,t,c4,c5,c6,c7⟩|⟨c1,c2,_⟩
   .exact⟨t,c2,c4⟩
   .exact⟨t,c4,c6⟩
   .exact(pL hj).elim (λe=>absurd e c1) (λe=>absurd e c2)
  .obtain⟨a1,a2⟩:=R9 f hw r k;rw[hz];refine⟨a1,?_⟩;rw[a2];exact Ww hx
def N4{code:List Ty}(hl:code.length<=1000)(hw:∀n∈code,WF aD n):Wp (M.dM aJ code) λy=>((¬∃F,Fits code F)/\y=code)\/((∃F,Fits code F)/\sa code y/\LK y=aa (.inr y)):=by
 unfold M.dM;rw[AT hl];simp only[aqI];obtain⟨b,hb,Ix⟩:=tD code;rw[hb];simp only[aqI];refine Wp.join (Wp.ite (λhc=> .some ?_) λhc=> .some ?_)
 .exact .inl ⟨λh=>(by rw[Ix.2 h]at hc;cases hc),rfl⟩
 have hF:∃F,Fits code F:=Ix.1 (by simpa using hc)
 have R3:sa code code:=⟨hF,aqS _,hw,λ_ _ _ h=>h⟩
 show Wp (Loop LK aJ code) _
 refine Wp.loop (λs:List Ty=>sa code s) (λs=>s.length) R3 (by unfold aJ;omega) ?_;intro s hs;obtain⟨F,f⟩:=hs.fits;obtain⟨r,hr,h⟩:=Sa f hs.wf;refine⟨r,hr,?_⟩
 rcases h with⟨y,rfl,h1,h2⟩|rfl
 .exact⟨hs.trans h1,h2⟩
 .exact .inr ⟨hF,hs,hr⟩
end L.P.Q
namespace L.P.V
def ai0{code:List Ty}{env:bR.den}{p:Nat}{S:List Vl}{r:Vl×Int}(h:P.dF code env p S r):P.Q.dF code env p S r:=by
 induction h with
 |done=>exact .done
 |jump h tB ht JO A9 _ ih=>exact .jump h tB ht JO A9 ih
 |op h dG ha hs h0 _ ih=>exact .op h dG ha hs h0 ih
 |fail h dG ha hs h0=>exact .fail h dG ha hs h0
 |cond h fJ ht JO A9 hk hv _ ih=>exact .cond h fJ ht JO A9 hk hv ih
structure Code(e:List Ty)(s:Sg)(y:List Ty):Prop where
 pos:0<y.length
 le:y.length<=128
 wf:∀n∈y,WF aD n
 verify:Wp (M.dt aJ y) λv=>v.2=0
 run:∀env,kl env->AA env->Yz s env->∃n v,M.rL aJ y env=aa (v.1,n,v.2)/\M.mN aJ e env=aa v
def Hw{code:List Ty}(hl:code.length<=1000)(hw:∀n∈code,WF aD n)(hF:∃F,P.Q.Fits code F):Wp (M.kD aJ code) (P.Q.sa code):=by
 have thr:∀{a:List Ty},a.length<=1000->(∀n∈a,WF aD n)->(∃F,P.Q.Fits a F)->Wp (M.gh aJ a) λy=>P.Q.sa a y:=λ{a}hl hw hF=>(P.Q.N3 hl hw).mono λy hy=>by
  rcases hy with⟨h,_⟩|⟨⟨F,f⟩,e1,e2⟩
  .exact absurd hF h
  .exact P.Q.Hu f e1 e2
 have fol:∀{a:List Ty},a.length<=1000->(∀n∈a,WF aD n)->(∃F,P.Q.Fits a F)->Wp (M.fy aJ a) λy=>P.Q.sa a y:=λ{a}hl hw hF=>(P.Q.Vk hl hw).mono λy hy=>by
  rcases hy with⟨h,_⟩|⟨_,h,_⟩
  .exact absurd hF h
  .exact h
 have rmv:∀{a:List Ty},a.length<=1000->(∀n∈a,WF aD n)->(∃F,P.Q.Fits a F)->Wp (M.dM aJ a) λy=>P.Q.sa a y:=λ{a}hl hw hF=>(P.Q.N4 hl hw).mono λy hy=>by
  rcases hy with⟨h,_⟩|⟨_,h,_⟩
  .exact absurd hF h
  .exact h
 unfold M.kD
 refine Wp.seq _ (fol hl hw hF) λz1 t1=>?_
 refine Wp.seq _ (thr (Nat.le_trans t1.le hl) t1.wf t1.fits) λz2 t2=>?_
 have t12:=t1.trans t2
 exact Wp.seq _ (rmv (Nat.le_trans t12.le hl) t12.wf t12.fits) λz3 t3=> .some (t12.trans t3)
def LL{e:List Ty}{s:Sg}(Lp:∀n∈e,WF aD n){r:Ty×Int×Int}(hT:M.iO aJ e s=aa r)(h0:r.2.2=0):Wp (M.cB aJ e) (Code e s):=by
 obtain⟨r',er,hr⟩:=CQ (s:=s) Lp;rw[hT]at er;obtain rfl:=aqL er;obtain⟨st,w,ty,Kj,N0⟩:=hr h0;have oZ:0<e.length:=List.length_pos_iff.2 w.ne;have hle:=w.le;have f:=RF w
 have acf:M.lq aJ e=aa (0,ins (lg e st)):=by
  have mf:M.kZ aJ e=aa ((pD e).2.1,(pD e).2.2):=by
   unfold M.kZ;rw[pE];rfl
  unfold M.lq;rw[mf,w.res];simp only[aqI];rw[aj (by simp),show aqJ.wrap ((e.length:Int)-1)=((e.length-1:Nat):Int) by rw[aH (by omega) (by omega)];omega];unfold M.k6;rw[AR w e.length (e.length-1) aJ (by omega) (by omega) (by unfold aJ;omega) [] 0 (by simp;omega)];rfl
 have hA:At (ins (lg e st)) (AS e st) 0 (lg e st):=λk hk=>by
  rw[arl];refine⟨by simp[ins,hk],?_⟩;unfold gd arm AS;rw[List.getElem?_append_left (by simpa using hk)];simp[hk]
 have acg:∀env,kl env->Yz s env->P.dF (ins (lg e st)) env 0 [] ((gI (mv env) e st e.length (e.length-1)).1,(gI (mv env) e st e.length (e.length-1)).2):=λenv he ag=>by
  have ai1:=LA (code:=ins (lg e st)) (F:=AS e st) w he ag N0 e.length (e.length-1) 0 0 (by omega) (by omega) hA (by rw[arl];exact Nat.le_of_eq (arb ..).symm);obtain⟨c1,c2⟩:=ai1 [];rw[arl]at c1;by_cases hz:(gI (mv env) e st e.length (e.length-1)).2=0
  .refine c1 hz _ ?_;rw[hz,show(cg e st e.length (e.length-1) 0 0).length=(ins (lg e st)).length from(arb ..).symm];exact P.dF.done
  .rw[LB w he Lp e.length (e.length-1) (by omega) (by omega) hz];exact c2 hz
 have hwc:∀n∈ins (lg e st),WF aD n:=λn hn=>by
  obtain⟨j,hj,rfl⟩:=List.mem_iff_getElem.1 hn;obtain⟨uH,_⟩:=f.step j hj;have aos:=f.le;obtain⟨x,hx,hxn⟩:=List.mem_map.1 (aqN hj)
  rcases RY w e.length (e.length-1) 0 0 (by omega) x hx with h|h
  .rw[hxn]at h;generalize(ins (lg e st))[j]=n at*;obtain⟨(op:Int),(m:Int)⟩:=n;dsimp only[aC,Row.den]at*
   have hm:0<=m/\m<=128:=by
    rcases uH with⟨h1,t,h2,h3,h4,h5⟩|⟨h1,h2,h3,t,h4,h5,h6,h7⟩|⟨h1,h2,h3,h4,h5,h6⟩
    .dsimp only[aC,Row.den]at*;omega
    .dsimp only[aC,Row.den]at*;omega
    .dsimp only[aC,Row.den]at*;omega
   refine⟨⟨?_,?_⟩,⟨?_,?_⟩⟩
   .show(-9223372036854775808:Int)<=op;omega
   .show op<=(9223372036854775807:Int);omega
   .show(-9223372036854775808:Int)<=m;omega
   .show m<=(9223372036854775807:Int);omega
  .rw[hxn]at h;exact Lp _ h
 have Uw:∃F,P.Q.Fits (ins (lg e st)) F:=by
  obtain⟨v,ev,hv⟩:=P.Q.ym (ins (lg e st));obtain⟨v',ev',gZ⟩:=NV f;rw[ev]at ev';obtain rfl:=aqL ev';exact hv gZ
 unfold M.cB;rw[aj (by rw[az];omega),acf,aqI];dsimp only
 refine Wp.seq _ (Hw (by have:=f.le;omega) hwc Uw) λy hy=> .some ?_
 obtain⟨F',f'⟩:=hy.fits;refine⟨f'.pos,f'.le,hy.wf,f'.verify,λenv he ht ag=>?_⟩;obtain⟨x,hx,x1,x2⟩:=P.Q.RZ he hy.wf f'.le f'.verify (hy.runs env he _ (ai0 (acg env he ag)));obtain⟨v,n,c⟩:=x;dsimp only at x1 x2;refine⟨n,_,?_,He w he ht Lp⟩;rw[hx,x1,x2]
end L.P.V
end Go.Proofs.YtfjgcenlllgonaaGreatDoor
