/- Joined texts: PX PX3 PX5 PS PM PX6 PY PX7 PM5 KPC CA KQ. -/
import Derived.Test.YtfjgcenlllgonaaGreatDoorU11
import Derived.Test.YtfjgcenlllgonaaGreatDoorU12
import Derived.Test.YtfjgcenlllgonaaGreatDoorU9
import Derived.Test.YtfjgcenlllgonaaGreatDoorU10
import Derived.Test.YtfjgcenlllgonaaGreatDoorU8
open _root_.Option renaming some->aa,bind_some->aoy,getD_some->ao8,bind_none->aqe
open _root_.Int renaming toNat_natCast->aoF,toNat_of_nonneg->apI,eq_ofNat_of_zero_le->aoU
open _root_.Go.IntKind renaming i64->aoz
open _root_.List renaming append_nil->apq,drop_eq_getElem_cons->ao2,getD->apb,getElem?_append_left->apc,getElem?_append_right->apk,getElem?_drop->apx,getElem?_eq_getElem->aoA,getElem?_eq_some_iff->aoI,getElem?_map->apD,getElem_append_left->aoK,getElem_append_right->ao1,getElem_map->apB,getElem_mem->aoG,length_append->aoH,length_map->ao5,length_singleton->aoT,map_append->apj,mem_append->ao7,mem_singleton->aoY,replicate->aoE,replicate_succ->apr,set_append_right->apw,take_length->ao3,take_succ_eq_append_getElem->apf,length_eq_zero_iff->apL,append_assoc->ape,getD_cons_succ->aqb,getD_cons_zero->ap2,length_cons->apa,length_set->ap6,length_take->ao0,mem_cons->apH,mem_map->apY,length_eq_one_iff->aqm,map_cons->aqi,getElem_of_mem->aoS,take_add_one->apS
open _root_.Nat renaming le_of_lt->aql,le_refl->aoJ,lt_or_ge->aph,zero_le->aoR,zero_add->apn
open _root_.Option.some renaming inj->aoB
open _root_.Bool renaming false->ag,true->af,false_eq_true->aoC,not_false->apd,not_true->aoX,eq_iff_iff->aoO,false_ne_true->aqo
open _root_.Sum renaming inl->ao4,inr->aoV
open _root_.List.cons renaming injEq->ap5
namespace Go.Proofs.YtfjgcenlllgonaaGreatDoor
open Go Go.RowKit
set_option maxRecDepth 100000
set_option linter.unusedSimpArgs false
set_option linter.unusedVariables false
set_option linter.defProp false
namespace L.P
abbrev dR(l:List Nat):List Int:=l.map (λn:Nat=>(n:Int))
def rr(a:Int)(i:Nat)(sk:List Nat):Nat:=if a=0 then i else sk.getD (sk.length-a.toNat) 0
def iN:List Ty->Nat->List Nat->List Nat->(Nat×Int)⊕(List Nat×List Nat)
 |[],_,st,sk=> .inr (st,sk)
 |n::e,i,st,sk=>
  if ar n.1<0 then .inl (i,2)else if(sk.length:Int)<ar n.1 then .inl (i,5)else
  if 12<sk.length-(ar n.1).toNat+1 then .inl (i,16)else iN e (i+1) (st++[rr (ar n.1) i sk]) (sk.take (sk.length-(ar n.1).toNat)++[rr (ar n.1) i sk])
def pV(e:List Ty):Int×Int×List Int:=
 if 48<e.length then(0,4,[])else if e.length=0 then(0,5,[])else match iN e 0 [] []with
  | .inl (i,c)=>(i,c,[])
  | .inr (st,sk)=>if 1<sk.length then(e.length,4,[])else(0,0,dR st)
theorem DH(st:List Nat)(m:Nat)(v:Nat):be (dR st++aoE (m+1) (0:Int)) (st.length:Int) (v:Int)=dR (st++[v])++aoE m (0:Int):=by
 unfold be;rw[aoF,apw _ _ (by simp),apr];simp
theorem xq(st:List Nat)(m:Nat)(u v:Nat):be (dR (st++[u])++aoE m (0:Int)) (st.length:Int) (v:Int)=dR (st++[v])++aoE m (0:Int):=by
 unfold be;rw[aoF,List.set_append_left _ _ (by simp)]
 congr 1
 simp only[dR,apj];rw[apw _ _ (by simp)];simp
theorem wF(e:List Ty):M.gC aG e=aa (pV e):=by
 apply Wp.eq;unfold M.gC pV
 refine Wp.dec (λh=> .some ?_) λh1=>?_
 .rw[aj (by omega)]
 rw[ai (show¬48<e.length by omega)]
 refine Wp.dec (λh=> .some ?_) λh2=>?_
 .rw[aj (show e.length=0 by omega)]
 rw[ai (show¬e.length=0 by omega)]
 have Be:pw (e.length:Int) (0:Int)=aa (aoE e.length 0):=by
  unfold pw;rw[aj (by omega),aoF]
 rw[Be];simp only[aoy];refine Wp.join (Wp.loop (λs:Int×List Int×List Int=>∃st sk:List Nat,s=((st.length:Int),dR st++aoE (e.length-st.length) 0,dR sk)/\st.length<=e.length/\sk.length<=12/\iN (e.drop st.length) st.length st sk=iN e 0 [] []) (λs=>(e.length-s.1).toNat) ⟨[],[],by simp,by simp,by simp,by simp⟩ (by simp only;unfold aG;omega) ?_)
 rintro _ ⟨st,sk,rfl,lm,hsk,cD⟩
 simp only
 refine Wp.dec (λhk=>?_) λhk=> .some ?_
 case refine_2=>
  have hd:e.drop st.length=[]:=List.drop_of_length_le (by omega);rw[hd]at cD;rw[<-cD]
  have h0:e.length-st.length=0:=by omega
  rw[h0];simp only[iN,List.replicate_zero,apq]
  show Wp _ _
  refine Wp.dec (λh=> .some ?_) λh=> .some ?_
  .rw[aj (by simp at h;omega)]
  .rw[ai (by simp at h;omega)]
 have dT:st.length<e.length:=by omega
 have hd:e.drop st.length=e[st.length]::e.drop (st.length+1):=ao2 dT
 obtain⟨m,hm⟩:∃m,e.length-st.length=m+1:=⟨e.length-st.length-1,by omega⟩
 rw[hd]at cD;rw[aD dT,hm];simp only[aoy,eJ];generalize gx:(e[st.length].1:Int)=op;rw[iN]at cD;rw[gx]at cD;have DI:=kE op
 refine Wp.dec (λh=> .some ?_) λIN=>?_
 .rw[aj h]at cD
  show _=_
  rw[<-cD]
 rw[ai IN]at cD
 refine Wp.dec (λh=> .some ?_) λhlen=>?_
 .rw[aj (by simpa using h)]at cD
  show _=_
  rw[<-cD]
 have hlen:¬(sk.length:Int)<ar op:=by simpa using hlen
 rw[ai hlen]at cD
 obtain⟨a,ha⟩:∃a:Nat,ar op=a:=⟨(ar op).toNat,by omega⟩
 rw[ha]at cD IN hlen DI⊢
 have agM:a<=sk.length:=by omega
 have e6:idx (dR st++aoE (m+1) (0:Int)) (st.length:Int)=aa 0:=by
  rw[aD (by simp)];rw[ao1 (by simp)];simp
 rw[e6]
 have hw:aoz.wrap (((dR sk).length:Int)-(a:Int))=((sk.length-a:Nat):Int):=by
  rw[ao5,aE (by omega) (by omega)];omega
 have hs:rr (a:Int) st.length sk=(if a=0 then st.length else sk.getD (sk.length-a) 0):=by
  unfold rr;by_cases h0:a=0
  .subst h0;simp
  .rw[ai (by omega),ai h0,aoF]
 simp only[aoy,DH,hw];refine Wp.seq (· =dR (st++[rr (a:Int) st.length sk])++aoE m (0:Int)) ?_ ?_
 .refine Wp.dec (λh=>?_) λh=>?_
  .have aJ:sk.length-a<(dR sk).length:=by simp;omega
   rw[aD aJ]
   have e9:idx (dR (st++[st.length])++aoE m (0:Int)) (st.length:Int)=aa (st.length:Int):=by
    rw[aD (by simp)];rw[aoK (by simp)];simp
   simp only[aoy,e9,apB,xq];refine .some ?_;rw[hs,ai (by omega),show sk.getD (sk.length-a) 0=sk[sk.length-a]'(by simpa using aJ) by simp[apb,show sk.length-a<sk.length by omega]]
  .refine .some ?_;rw[hs,aj (by omega)]
 .rintro _ rfl
  generalize rr (a:Int) st.length sk=s at cD⊢
  have AT:fo (dR sk) (0:Int) ((sk.length-a:Nat):Int)=aa (dR (sk.take (sk.length-a))):=by
   rw[mG (by simp)];simp
  have e11:idx (dR (st++[s])++aoE m (0:Int)) (st.length:Int)=aa (s:Int):=by
   rw[aD (by simp)];rw[aoK (by simp)];simp
  have WV:bR (dR (sk.take (sk.length-a))) [(s:Int)]=aa (dR (sk.take (sk.length-a)++[s])):=by
   rw[bF (by simp;omega)];simp
  rw[AT];simp only[aoy,e11,WV]
  have hl:(dR (sk.take (sk.length-a)++[s])).length=sk.length-a+1:=by simp
  rw[hl];rw[aoF]at cD
  refine Wp.dec (λh=> .some ?_) λh=> .some ?_
  .rw[aj (by omega)]at cD
   show _=_
   rw[<-cD]
  .rw[ai (by omega)]at cD;rw[aL (by omega)];refine⟨⟨st++[s],sk.take (sk.length-a)++[s],?_,by simp;omega,by simp;omega,?_⟩,by simp only;omega⟩
   .have:e.length-(st++[s]).length=m:=by simp;omega
    rw[this];simp
   .rw[aoH];exact cD
inductive Ch(st:List Nat):Nat->List Nat->Prop
 |nil:Ch st 0 []
 |snoc {i s:Nat} {l:List Nat} (h:st[i]? =aa s) (hs:s<=i) (c:Ch st s l):Ch st (i+1) (l++[s])
theorem Ch.mono{st cM:List Nat}(hs:∀i s:Nat,st[i]? =aa s->cM[i]? =aa s){i:Nat}{l:List Nat}(h:Ch st i l):Ch cM i l:=by
 induction h with
 |nil=>exact .nil
 |snoc h1 h2 _ ih=>exact .snoc (hs _ _ h1) h2 ih
theorem wG{st:List Nat}{x i s:Nat}(h:st[i]? =aa s):(st++[x])[i]? =aa s:=by
 obtain⟨hi,_⟩:=aoI.1 h;rw[apc hi,h]
theorem Ch.lt{st:List Nat}{i:Nat}{l:List Nat}(h:Ch st i l):∀x∈l,x<i:=by
 induction h with
 |nil=>simp
 |snoc h1 h2 _ ih=>
  intro x hx
  rcases ao7.1 hx with hx|hx
  .have:=ih x hx;omega
  .rw[aoY.1 hx];omega
theorem Ch.take{st:List Nat}{i:Nat}{l:List Nat}(h:Ch st i l):∀m(hm:m<l.length),Ch st l[m] (l.take m):=by
 induction h with
 |nil=>intro m hm;simp at hm
 | @snoc i s l h1 h2 c ih=>
   intro m hm;by_cases LO:m<l.length
   .rw[aoK LO,List.take_append_of_le_length (by omega)];exact ih m LO
   .have:m=l.length:=by simp at hm;omega
    subst this;rw[ao1 (by omega),List.take_append_of_le_length (by omega),ao3];simpa using c
theorem Ch.Qu{st:List Nat}{i:Nat}{l l':List Nat}(h:Ch st i l)(h':Ch st i l'):l=l':=by
 induction h generalizing l' with
 |nil=>cases h' with
  |nil=>rfl
 | @snoc i s l h1 h2 c ih=>
   cases h' with
   |snoc g1 g2 c'=>
    rw[h1]at g1;obtain rfl:=aoB g1;rw[ih c']
theorem Ch.pos{st:List Nat}{i:Nat}{l:List Nat}(h:Ch st i l)(hi:0<i):l≠[]:=by
 cases h with
 |nil=>omega
 |snoc=>simp
structure CG(e:List Ty)(st:List Nat):Prop where
 len:st.length=e.length
 node:∀p(h:p<e.length),0<=ar e[p].1/\∃l,Ch st p l/\(ar e[p].1).toNat<=l.length/\l.length-(ar e[p].1).toNat+1<=12/\st[p]? =aa (rr (ar e[p].1) p l)
theorem CG.nil:CG [] []:=⟨rfl,λp h=>by simp at h⟩
theorem CG.snoc{e:List Ty}{st:List Nat}(v:CG e st){n:Ty}{sk:List Nat}(h0:0<=ar n.1)(hc:Ch st e.length sk)(ha:(ar n.1).toNat<=sk.length)(hd:sk.length-(ar n.1).toNat+1<=12):CG (e++[n]) (st++[rr (ar n.1) e.length sk]):=by
 refine⟨by simp[v.len],λp hp=>?_⟩;by_cases h:p<e.length
 .rw[aoK h];obtain⟨h1,l,h2,h3,h4,h5⟩:=v.node p h;exact⟨h1,l,h2.mono λ_ _ h=>wG h,h3,h4,wG h5⟩
 .have:p=e.length:=by simp at hp;omega
  subst this;rw[ao1 (by omega)];simp only[Nat.sub_self,List.getElem_cons_zero];refine⟨h0,sk,hc.mono λ_ _ h=>wG h,ha,hd,?_⟩;rw[<-v.len,apk (by omega)];simp[v.len]
theorem D9{a:Int}{i:Nat}{st l:List Nat}(h0:0<=a)(hc:Ch st i l)(ha:a.toNat<=l.length):rr a i l<=i:=by
 unfold rr;split
 .exact aoJ _
 .have aJ:l.length-a.toNat<l.length:=by omega
  simp only[apb,aoA aJ,ao8];exact aql (hc.lt _ (aoG aJ))
theorem Ch.next{st l:List Nat}{i:Nat}{a:Int}(h0:0<=a)(hc:Ch st i l)(ha:a.toNat<=l.length)(hs:st[i]? =aa (rr a i l)):Ch st (i+1) (l.take (l.length-a.toNat)++[rr a i l]):=by
 refine .snoc hs (D9 h0 hc ha) ?_;unfold rr;by_cases h:a=0
 .rw[aj h];subst h;simpa using hc
 .have aJ:l.length-a.toNat<l.length:=by omega
  rw[ai h];simp only[apb,aoA aJ,ao8];exact hc.take _ aJ
theorem G6:∀(Rz pre:List Ty)(st sk cM ND:List Nat),CG pre st->Ch st pre.length sk->iN Rz pre.length st sk= .inr (cM,ND)->CG (pre++Rz) cM/\Ch cM (pre++Rz).length ND
 |[],pre,st,sk,cM,ND,v,c,h=>by
  rw[iN]at h;cases h;rw[apq];exact⟨v,c⟩
 |n::Rz,pre,st,sk,cM,ND,v,c,h=>by
  rw[iN]at h;split at h
  .cases h
  split at h
  .cases h
  split at h
  .cases h
  rename_i h1 h2 h3
  have h0:0<=ar n.1:=by omega
  have ha:(ar n.1).toNat<=sk.length:=by omega
  have v':=v.snoc h0 c ha (by omega)
  have c1:Ch (st++[rr (ar n.1) pre.length sk]) pre.length sk:=c.mono λ_ _ h=>wG h
  have hs:(st++[rr (ar n.1) pre.length sk])[pre.length]? =aa (rr (ar n.1) pre.length sk):=by
   rw[<-v.len,apk (by omega)];simp[v.len]
  have c':=c1.next h0 ha hs;have:=G6 Rz (pre++[n]) _ _ cM ND v' (by simpa using c') (by simpa using h);simpa using this
theorem G7{e:List Ty}{st:List Nat}(v:CG e st):∀(Rz pre:List Ty)(sk:List Nat),pre++Rz=e->Ch st pre.length sk->∃ND,iN Rz pre.length (st.take pre.length) sk= .inr (st,ND)/\Ch st e.length ND
 |[],pre,sk,he,c=>by
  rw[apq]at he;subst he;exact⟨sk,by rw[iN,<-v.len,ao3],c⟩
 |n::Rz,pre,sk,he,c=>by
  subst he;obtain⟨h0,l,h1,h2,h3,h4⟩:=v.node pre.length (by simp);rw[ao1 (by omega)]at h0 h2 h3 h4;simp only[Nat.sub_self,List.getElem_cons_zero]at h0 h2 h3 h4;obtain rfl:=h1.Qu c;rw[iN,ai (by omega),ai (by omega),ai (by omega)];have c':=c.next h0 h2 h4;obtain⟨ND,g1,g2⟩:=G7 v Rz (pre++[n]) _ (by simp) (by simpa using c');refine⟨ND,?_,g2⟩;rw[<-g1]
  have:(st.take pre.length++[rr (ar n.1) pre.length l])=st.take (pre++[n]).length:=by
   obtain⟨hi,hg⟩:=aoI.1 h4;rw[aoH,aoT,apf hi,hg]
  rw[this];simp
theorem QZ{st:List Nat}{P:Nat}(IH:∀p:Nat,p<P->∀q s:Nat,st[p]? =aa s->s<=q->q<=p->∃s':Nat,st[q]? =aa s'/\s<=s'){i:Nat}{l:List Nat}(c:Ch st i l):i<=P->∀m(hm:m<l.length)q,l[m]<=q->q<i->∃s',st[q]? =aa s'/\l[m]<=s':=by
 induction c with
 |nil=>intro _ m hm;simp at hm
 | @snoc i s l h1 h2 c ih=>
   intro hP m hm q hq hqi;by_cases hs:s<=q
   .obtain⟨s',g1,g2⟩:=IH i (by omega) q s h1 hs (by omega);refine⟨s',g1,?_⟩;by_cases LO:m<l.length
    .rw[aoK LO];have:=c.lt _ (aoG LO);omega
    .have:m=l.length:=by simp at hm;omega
     subst this;simpa using g2
   .have LO:m<l.length:=by
     by_cases LO:m<l.length
     .exact LO
     .have:m=l.length:=by simp at hm;omega
      subst this;simp at hq;omega
    rw[aoK LO]at hq⊢;exact ih (by omega) m LO q hq (by omega)
theorem CG.nest{e:List Ty}{st:List Nat}(v:CG e st):∀p q s:Nat,st[p]? =aa s->s<=q->q<=p->∃s':Nat,st[q]? =aa s'/\s<=s':=by
 intro p
 induction p using Nat.strongRecOn with
 |_ p IH=>
  intro q s hp hsq hqp;by_cases hq:q=p
  .subst hq;exact⟨s,hp,aoJ _⟩
  .have aJ:p<e.length:=by rw[<-v.len];exact(aoI.1 hp).1
   obtain⟨h0,l,h1,h2,h3,h4⟩:=v.node p aJ;rw[hp]at h4;have h4:=aoB h4;unfold rr at h4;split at h4
   .omega
   .rename_i dS
    have hm:l.length-(ar e[p].1).toNat<l.length:=by omega
    simp only[apb,aoA hm,ao8]at h4;have:=QZ (P:=p) IH h1 (aoJ _) _ hm q (by rw[<-h4];exact hsq) (by omega);rw[<-h4]at this;exact this
def Nn(st:List Nat)(s P:Nat):List Nat:=((st.take (P+1)).drop s).map (· -s)
theorem AF{st:List Nat}{s P q t:Nat}(h:st[q]? =aa t)(hs:s<=q)(hq:q<=P):(Nn st s P)[q-s]? =aa (t-s):=by
 unfold Nn;rw[apD,apx,show s+(q-s)=q by omega,List.getElem?_take_of_lt (by omega),h];rfl
theorem Ch.cut{e:List Ty}{st:List Nat}(v:CG e st){P s:Nat}(hP:st[P]? =aa s){i:Nat}{l:List Nat}(c:Ch st i l):s<=i->i<=P+1->∃l0 l1,l=l0++l1/\Ch st s l0/\(∀x∈l1,s<=x)/\Ch (Nn st s P) (i-s) (l1.map (· -s)):=by
 induction c with
 |nil=>
  intro h1 _
  obtain rfl:s=0:=by omega
  exact⟨[],[],rfl, .nil,by simp, .nil⟩
 | @snoc i t l h1 h2 c ih=>
   intro h3 h4;by_cases hs:s=i+1
   .subst hs;exact⟨l++[t],[],by simp, .snoc h1 h2 c,by simp,by simpa using .nil⟩
   .obtain⟨t',g1,g2⟩:=v.nest P i s hP (by omega) (by omega);rw[h1]at g1;obtain rfl:=aoB g1;obtain⟨l0,l1,rfl,k1,k2,k3⟩:=ih g2 (by omega);refine⟨l0,l1++[t],by simp,k1,λx hx=>?_,?_⟩
    .rcases ao7.1 hx with hx|hx
     .exact k2 x hx
     .rw[aoY.1 hx];exact g2
    .rw[show i+1-s=(i-s)+1 by omega,apj];exact .snoc (AF h1 (by omega) (by omega)) (by simp only;omega) k3
theorem CG.cut{e:List Ty}{st:List Nat}(v:CG e st){P s:Nat}(hP:st[P]? =aa s):CG ((e.take (P+1)).drop s) (Nn st s P):=by
 have aJ:P<e.length:=by rw[<-v.len];exact(aoI.1 hP).1
 refine⟨by simp[Nn,v.len],λp hp=>?_⟩
 have hp':s+p<P+1:=by simp at hp;omega
 have Lr:((e.take (P+1)).drop s)[p]=e[s+p]:=by simp
 rw[Lr];obtain⟨h0,l,h1,h2,h3,h4⟩:=v.node (s+p) (by omega);obtain⟨l0,l1,rfl,k1,k2,k3⟩:=h1.cut v hP (by omega) (by omega);rw[Nat.add_sub_cancel_left]at k3;obtain⟨t,g1,g2⟩:=v.nest P (s+p) s hP (by omega) (by omega);have e4:=g1;rw[h4]at g1;have g1:=aoB g1
 have OJ:(ar e[s+p].1).toNat<=l1.length:=by
  by_cases ha:ar e[s+p].1=0
  .omega
  .unfold rr at g1;rw[ai ha]at g1
   have hm:(l0++l1).length-(ar e[s+p].1).toNat<(l0++l1).length:=by omega
   simp only[apb,aoA hm,ao8]at g1
   rcases aph ((l0++l1).length-(ar e[s+p].1).toNat) l0.length with hc|hc
   .rw[aoK hc]at g1;have:=k1.lt _ (aoG hc);omega
   .simp at hc h2;omega
 refine⟨h0,l1.map (· -s),k3,by simpa using OJ,by simp at h3⊢;omega,?_⟩;have AT:=AF (s:=s) (P:=P) e4 (by omega) (by omega);rw[Nat.add_sub_cancel_left]at AT;rw[AT,<-g1];refine aw aa ?_;unfold rr;by_cases ha:ar e[s+p].1=0
 .rw[aj ha,aj ha];omega
 .rw[ai ha,ai ha]
  have hm:(l0++l1).length-(ar e[s+p].1).toNat<(l0++l1).length:=by omega
  have hm1:l1.length-(ar e[s+p].1).toNat<l1.length:=by omega
  simp only[apb,aoA hm,ao8,ao5,apD,aoA hm1,Option.map_some];rw[ao1 (by simp;omega)]
  congr 2
  simp;omega
end L.P
namespace L.P
def opsL(st:List Nat):Nat->Nat->List Nat
 |0,_=>[]
 |a+1,i=>opsL st a (st.getD (i-1) 0)++[i-1]
theorem lT(st:List Nat):∀a i,(opsL st a i).length=a
 |0,_=>rfl
 |a+1,i=>by simp[opsL,lT st a]
theorem Xu{st l:List Nat}{i:Nat}(c:Ch st i l):∀a,a<=l.length->(∀o∈opsL st a i,o<i/\(if h:l.length-a<l.length then l[l.length-a]else i)<=o/\∃s,st[o]? =aa s/\s<=o/\(if h:l.length-a<l.length then l[l.length-a]else i)<=s):=by
 induction c with
 |nil=>intro a ha o ho;simp at ha;subst ha;simp[opsL]at ho
 | @snoc i s l h1 h2 c ih=>
   intro a ha o ho
   cases a with
   |zero=>simp[opsL]at ho
   |succ a=>
    have aJ:(l++[s]).length-(a+1)<(l++[s]).length:=by simp;omega
    rw[dif_pos aJ]
    have e1:(l++[s])[(l++[s]).length-(a+1)]=(if h:l.length-a<l.length then l[l.length-a]else s):=by
     split
     .rename_i h;rw[aoK (by simp;omega)]
      congr 1
      simp
     .rename_i h;rw[ao1 (by simp;omega)];simp
    rw[e1]
    have hg:st.getD (i+1-1) 0=s:=by simp[apb,h1]
    rw[opsL,hg]at ho;simp at ha
    have hle:(if h:l.length-a<l.length then l[l.length-a]else s)<=s:=by
     split
     .rename_i h;exact aql (c.lt _ (aoG h))
     .exact aoJ _
    rcases ao7.1 ho with ho|ho
    .obtain⟨g1,g2,t,g3,g4,g5⟩:=ih a ha o ho;exact⟨by omega,g2,t,g3,g4,g5⟩
    .rw[aoY.1 ho,Nat.add_sub_cancel];exact⟨by omega,by omega,s,h1,h2,hle⟩
theorem CG.ops{e:List Ty}{st:List Nat}(v:CG e st){p:Nat}(h:p<e.length):∀o∈opsL st (ar e[p].1).toNat p,o<p/\∃s t,st[o]? =aa s/\s<=o/\st[p]? =aa t/\t<=s:=by
 obtain⟨h0,l,h1,h2,_,h4⟩:=v.node p h;intro o ho;obtain⟨g1,g2,s,g3,g4,g5⟩:=Xu h1 _ h2 o ho;refine⟨g1,s,_,g3,g4,h4,?_⟩;unfold rr;split
 .rename_i hz;rw[hz]at ho;simp[opsL]at ho
 .have hm:l.length-(ar e[p].1).toNat<l.length:=by omega
  rw[dif_pos hm]at g5;simpa[apb,aoA hm]using g5
def z3:Vl:=((0,0,0):Int×Int×Int)
def cH(op:Int):Prop:=op=23\/op=24\/op=26
instance(op:Int):Decidable (cH op):=by unfold cH;infer_instance
noncomputable def qK(env:cz.den)(n:Ty)(args:List Vl):Vl×Int:=(M.cr aG n args env).getD (z3,0)
theorem UX{env:cz.den}(he:qx env){n:Ty}(hn:WF aA n){args:List Vl}(hl:args.length<=100000):M.cr aG n args env=aa (qK env n args):=by
 obtain⟨r,hr,_⟩:=tG (n:=n) (args:=args) he hn hl;unfold qK;rw[hr];rfl
theorem KV{env:cz.den}(he:qx env){n:Ty}(hn:WF aA n){args:List Vl}(hl:args.length<=100000):Tz (qK env n args):=by
 obtain⟨r,hr,h⟩:=tG (n:=n) (args:=args) he hn hl;unfold qK;rw[hr];exact h
end L.P
namespace L.P
structure Whole(e:List Ty)(st:List Nat):Prop where
 val:CG e st
 ne:e≠[]
 le:e.length<=48
 one:st[e.length-1]? =aa 0
 res:pV e=(0,0,dR st)
theorem CH:∀(e:List Ty)(i:Nat)(st sk:List Nat)(j:Nat)(c:Int),iN e i st sk= .inl (j,c)->c=2\/c=5\/c=16
 |[],_,_,_,_,_,h=>by rw[iN]at h;cases h
 |n::e,i,st,sk,j,c,h=>by
  rw[iN]at h;split at h
  .cases h;exact .inl rfl
  split at h
  .cases h;exact .inr (.inl rfl)
  split at h
  .cases h;exact .inr (.inr rfl)
  exact CH e _ _ _ j c h
theorem Ch.T4{st l:List Nat}{n:Nat}(h:Ch st n l)(hl:l=[]):n=0:=by
 cases h with
 |nil=>rfl
 |snoc=>simp at hl
theorem Ch.Q0{st l:List Nat}{n:Nat}(h:Ch st n l)(hl:n=0):l=[]:=by
 cases h with
 |nil=>rfl
 |snoc=>omega
theorem Ch.one{st l:List Nat}{n:Nat}(h:Ch st n l)(hn:0<n):l.length<=1↔st[n-1]? =aa 0:=by
 cases h with
 |nil=>omega
 | @snoc i s l h1 h2 c=>
   rw[Nat.add_sub_cancel,h1];constructor
   .intro hl;have:l=[]:=apL.1 (by rw[aoH,aoT]at hl;omega);rw[c.T4 this]
   .intro hs
    have h0:s=0:=by simpa using hs
    rw[h0]at c;rw[c.Q0 rfl];simp
theorem G8{e:List Ty}{st:List Nat}(v:CG e st)(dS:e≠[])(hl:e.length<=48)(h1:st[e.length-1]? =aa 0):Whole e st:=by
 have pC:0<e.length:=List.length_pos_iff.2 dS;refine⟨v,dS,hl,h1,?_⟩;obtain⟨sk,g1,g2⟩:=G7 v e [] [] rfl .nil;simp only[List.length_nil,List.take_zero]at g1;unfold pV;rw[ai (by omega),ai (by omega),g1];simp only;rw[ai];have:=(g2.one pC).2 h1;omega
theorem Jo(e:List Ty):(pV e).2.1≠0\/∃st,Whole e st:=by
 unfold pV;split
 .left;show(4:Int)≠0;decide
 rename_i hl;split
 .left;show(5:Int)≠0;decide
 rename_i dS
 cases hs:iN e 0 [] []with
 |inl p=>
  left
  obtain⟨j,c⟩:=p
  show c≠0
  have:=CH _ _ _ _ _ _ hs;omega
 |inr p=>
  obtain⟨st,sk⟩:=p;obtain⟨v,c⟩:=G6 e [] [] [] st sk CG.nil .nil hs;simp only[List.nil_append]at v c;by_cases h1:1<sk.length
  .left
   simp only[aj h1];decide
  .right
   exact⟨st,G8 v (λh=>dS (by rw[h];rfl)) (by omega) ((c.one (by omega)).1 (by omega))⟩
theorem Whole.sub{e:List Ty}{st:List Nat}(w:Whole e st){o s:Nat}(ho:st[o]? =aa s)(hs:s<=o):Whole ((e.take (o+1)).drop s) (Nn st s o):=by
 have aJ:o<e.length:=by rw[<-w.val.len];exact(aoI.1 ho).1
 have hlen:((e.take (o+1)).drop s).length=o+1-s:=by simp;omega
 have hle:=w.le;refine G8 (w.val.cut ho) (λh=>?_) (by omega) ?_
 .rw[h]at hlen;simp at hlen;omega
 .rw[hlen,show o+1-s-1=o-s by omega,AF ho hs (aoJ _),Nat.sub_self]
end L.P
namespace L.P
end L.P
namespace L.P
theorem mH(N:Nat)(op:Int):M.fS N op=aa (decide (50<=op/\op<=53)):=by
 unfold M.fS
 by_cases h:50<=op<;>simp[h]
theorem od(N:Nat)(op:Int):M.dI N op=aa (decide (¬cH op/\(50<=op/\op<=53\/0<=ar op))):=by
 unfold M.dI;rw[D2,mH,eJ];simp only[aoy];unfold cH;by_cases h:op=23\/op=24\/op=26
 .simp[h]
 .by_cases h2:50<=op/\op<=53
  .simp[h,h2]
  .simp[h,h2]
def gd(D:List Int)(k:Nat):Int:=D.getD k (-1)
theorem kK{D:List Int}{t:Nat}(ht:t<D.length)(d:Int)(k:Nat):gd (D.set t d) k=if k=t then d else gd D k:=by
 unfold gd apb;by_cases h:k=t
 .subst h;rw[aj rfl,List.getElem?_set_self ht];rfl
 .rw[ai h,List.getElem?_set_ne (by omega)]
theorem fA{D:List Int}{t:Nat}(ht:t<D.length):idx D (t:Int)=aa (gd D t):=by
 rw[aD ht];simp[gd,apb,ht]
def Bd(D:List Int):Prop:=∀k,-1<=gd D k/\gd D k<=12
structure Mn(D D':List Int)(i:Nat):Prop where
 len:D'.length=D.length
 keep:∀k,0<=gd D k->gd D' k=gd D k
 low:∀k,k<=i->gd D' k=gd D k
theorem Mn.refl(D:List Int)(i:Nat):Mn D D i:=⟨rfl,λ_ _=>rfl,λ_ _=>rfl⟩
theorem Mn.trans{A B C:List Int}{i:Nat}(h:Mn A B i)(h':Mn B C i):Mn A C i:=
 ⟨h'.len.trans h.len,λk hk=>by rw[h'.keep k (by rw[h.keep k hk];exact hk),h.keep k hk],λk hk=>by rw[h'.low k hk,h.low k hk]⟩
theorem nE{N:Nat}{D:List Int}{t i:Nat}{d:Int}(ht:t<D.length)(sB:i<t)(hd:0<=d/\d<=12)(hB:Bd D):Wp (M.bl N (t:Int) d D) λr=>(r.1=0->Mn D r.2 i/\Bd r.2/\gd r.2 t=d)/\(gd D t= -1->r=(0,D.set t d)):=by
 unfold M.bl;rw[fA ht];simp only[aoy,aK];by_cases h0:0<=gd D t
 .rw[ao h0];simp only[if_true];by_cases h1:gd D t=d
  .rw[ai (by simp[h1])]
   refine .some ⟨λ_=>⟨⟨by simp[be],λk _=>?_,λk hk=>?_⟩,λk=>?_,?_⟩,λh=>by omega⟩<;>simp only[be,aoF,kK ht]
   .split
    .rename_i h;rw[h,h1]
    .rfl
   .rw[ai (by omega)]
   .split
    .omega
    .exact hB k
   .simp
  .rw[aj (by simp[h1])];exact .some ⟨λh=>by simp at h,λh=>by omega⟩
 .rw[aq h0];simp only[aoC,if_false]
  refine .some ⟨λ_=>⟨⟨by simp[be],λk hk=>?_,λk hk=>?_⟩,λk=>?_,?_⟩,λh=>by simp[be]⟩<;>simp only[be,aoF,kK ht]
  .rw[ai (λh=>by rw[h]at hk;exact h0 hk)]
  .rw[ai (by omega)]
  .split
   .omega
   .exact hB k
  .simp
def lF(len:Nat)(D:List Int)(j:Nat)(n:Ty):Prop:=
 ((n.1:Int)=51/\∃t:Nat,(n.2:Int)=t/\j<t/\t<=len/\gd D t=gd D j)\/
 (((n.1:Int)=50\/(n.1:Int)=52\/(n.1:Int)=53)/\1<=gd D j/\gd D (j+1)=gd D j-1/\∃t:Nat,(n.2:Int)=t/\j<t/\t<=len/\gd D t=if(n.1:Int)=50 then gd D j-1 else gd D j)\/
 ((n.1:Int)≠51/\¬((n.1:Int)=50\/(n.1:Int)=52\/(n.1:Int)=53)/\0<=ar n.1/\ar n.1<=gd D j/\gd D (j+1)=gd D j-ar n.1+1/\gd D j-ar n.1+1<=12)
theorem lF.mono{len j i:Nat}{D D':List Int}{n:Ty}(h:lF len D j n)(hj:0<=gd D j)(m:Mn D D' i):lF len D' j n:=by
 have e:=m.keep j hj
 rcases h with⟨h1,t,h2,h3,h4,h5⟩|⟨h1,h2,h3,t,h4,h5,h6,h7⟩|⟨h1,h2,h3,h4,h5,h6⟩
 .exact .inl ⟨h1,t,h2,h3,h4,by rw[m.keep t (by omega),h5,e]⟩
 .have e1:=m.keep (j+1) (by omega);have e2:=m.keep t (by rw[h7];split<;>omega);exact .inr (.inl ⟨h1,by omega,by omega,t,h4,h5,h6,by rw[e2,e];exact h7⟩)
 .have e1:=m.keep (j+1) (by omega);exact .inr (.inr ⟨h1,h2,h3,by omega,by omega,by omega⟩)
theorem D3{N:Nat}{code:List Ty}{D:List Int}{i:Nat}(hl:code.length<=128)(hi:i<code.length)(hD:D.length=code.length+1)(hB:Bd D)(h0:0<=gd D i):Wp (M.bO N code (i:Int) code[i] D) λr=>(r.1=0->Mn D r.2 i/\Bd r.2/\lF code.length r.2 i code[i])/\((code[i].1:Int)<=39->¬cH code[i].1->0<=ar code[i].1->ar code[i].1<=gd D i->gd D i-ar code[i].1+1<=12->gd D (i+1)= -1->r=(0,D.set (i+1) (gd D i-ar code[i].1+1))):=by
 unfold M.bO;generalize code[i]=n;obtain⟨(op:Int),(m:Int)⟩:=n;dsimp only[aB,Row.den]at*;have DI:=kE op;have hBi:=hB i;rw[od,mH,fA (by omega),eJ,D2];simp only[aoy,aK];by_cases c1:¬cH op/\(50<=op/\op<=53\/0<=ar op)
 case neg=>
  rw[aq c1];simp only[apd,if_true];refine .some ⟨λh=>by simp at h,λh1 h2 h3=>absurd ⟨h2, .inr h3⟩ c1⟩
 rw[ao c1];simp only[aoX,aoC,if_false];by_cases c2:50<=op/\op<=53
 .rw[ao c2];simp only[if_true];by_cases c3:m<=i\/(code.length:Int)<m
  .have:(if decide (m<=(i:Int))=af then af else decide ((code.length:Int)<m))=af:=by
    rcases c3 with c|c<;>simp[c]
   rw[aj this];exact .some ⟨λh=>by simp at h,λh=>by omega⟩
  have hc:(if decide (m<=(i:Int))=af then af else decide ((code.length:Int)<m))=ag:=by
   rw[ai (by simp;omega)];simp;omega
  rw[ai (by rw[hc];simp)]
  obtain⟨t,rfl⟩:∃t:Nat,m=t:=⟨m.toNat,by omega⟩
  refine Wp.dec (λc4=>?_) λc4=>?_
  .refine Wp.seq _ (nE (t:=t) (i:=i) (by omega) (by omega) (by omega) hB) λr hr=> .some ⟨λh=>?_,λh=>by omega⟩
   obtain⟨a1,a2,a3⟩:=hr.1 h;exact⟨a1,a2, .inl ⟨c4,t,rfl,by omega,by omega,by rw[a3,a1.low i (aoJ _)]⟩⟩
  refine Wp.dec (λc5=>?_) λc5=>by omega
  refine Wp.dec (λc6=> .some ⟨λh=>by simp at h,λh=>by omega⟩) λc6=>?_
  have w1:aoz.wrap (gd D i-1)=gd D i-1:=aE (by omega) (by omega);rw[w1,aL (by omega)]
  refine Wp.seq _ (nE (t:=i+1) (i:=i) (by omega) (by omega) (by omega) hB) λr hr=>?_
  refine Wp.uA (λc7=> .some ⟨λh=>absurd h c7,λh=>by omega⟩) λc7=>?_
  obtain⟨a1,a2,a3⟩:=hr.1 c7;have DB:=a1.low i (aoJ _)
  refine Wp.seq _ (nE (D:=r.2) (t:=t) (i:=i) (by rw[a1.len];omega) (by omega) (by split<;>omega) a2) λr' yZ=> .some ⟨λh=>?_,λh=>by omega⟩
  obtain⟨b1,b2,b3⟩:=yZ.1 h;refine⟨a1.trans b1,b2, .inr (.inl ⟨c5,?_,?_,t,rfl,by omega,by omega,?_⟩)⟩
  .rw[b1.low i (aoJ _)];show 1<=gd r.2 i;omega
  .show gd r'.2 (i+1)=gd r'.2 i-1
   rw[b1.low i (aoJ _),b1.keep (i+1) (by omega)];omega
  .show gd r'.2 t=if op=50 then gd r'.2 i-1 else gd r'.2 i
   rw[b1.low i (aoJ _),b3,DB]
   by_cases Ej:op=50<;>simp[Ej]
 .rw[aq c2];simp only[aoC,if_false]
  refine Wp.dec (λc4=>by omega) λc4=>?_
  refine Wp.dec (λc5=>by omega) λc5=>?_
  refine Wp.dec (λc6=> .some ⟨λh=>by simp at h,λ_ _ _ h=>by omega⟩) λc6=>?_
  have w1:aoz.wrap (gd D i-ar op)=gd D i-ar op:=aE (by omega) (by omega);have w2:aoz.wrap (gd D i-ar op+1)=gd D i-ar op+1:=aE (by omega) (by omega);rw[w1,w2]
  refine Wp.dec (λc7=> .some ⟨λh=>by simp at h,λ_ _ _ _ h=>by omega⟩) λc7=>?_
  rw[aL (by omega)]
  refine Wp.seq _ (nE (t:=i+1) (i:=i) (by omega) (by omega) (by omega) hB) λr hr=> .some ⟨λh=>?_,λ_ _ _ _ _ h=>hr.2 h⟩
  obtain⟨a1,a2,a3⟩:=hr.1 h;have DB:=a1.low i (aoJ _);exact⟨a1,a2, .inr (.inr ⟨c4,c5,by show 0<=ar op;omega,by show ar op<=gd r.2 i;omega,by show gd r.2 (i+1)=gd r.2 i-ar op+1;omega,by show gd r.2 i-ar op+1<=12;omega⟩)⟩
structure ai9(code:List Ty)(D:List Int):Prop where
 pos:0<code.length
 le:code.length<=128
 len:D.length=code.length+1
 bd:Bd D
 first:gd D 0=0
 last:gd D code.length=1
 step:∀j(h:j<code.length),0<=gd D j->lF code.length D j code[j]
theorem D4(n k:Nat):gd (aoE n (-1)) k= -1:=by
 unfold gd apb;by_cases h:k<n
 .simp[h]
 .rw[List.getElem?_eq_none (by simp;omega)];rfl
def KW(n:Ty)(top:Vl):Bool:=decide (decide ((top.2.2:Int)=1)=decide ((n.1:Int)=53))
inductive gK(code:List Ty)(env:cz.den):Nat->List Vl->Vl×Int->Prop
 |done {v:Vl} {S:List Vl}:gK code env code.length (v::S) (v,0)
 |jump {p t:Nat} {S:List Vl} {r:Vl×Int} {n:Ty} (h:code[p]? =aa n) (nJ:(n.1:Int)=51) (ht:(n.2:Int)=t) (TH:p<t) (Hi:t<=code.length) (next:gK code env t S r):gK code env p S r
 |op {p a:Nat} {S:List Vl} {r:Vl×Int} {n:Ty} (h:code[p]? =aa n) (dS:¬(50<=(n.1:Int)/\(n.1:Int)<=53)) (ha:ar n.1=a) (hs:a<=S.length) (h0:(qK env n (S.drop (S.length-a))).2=0) (next:gK code env (p+1) (S.take (S.length-a)++[(qK env n (S.drop (S.length-a))).1]) r):gK code env p S r
 |fail {p a:Nat} {S:List Vl} {n:Ty} (h:code[p]? =aa n) (dS:¬(50<=(n.1:Int)/\(n.1:Int)<=53)) (ha:ar n.1=a) (hs:a<=S.length) (h0:(qK env n (S.drop (S.length-a))).2≠0):gK code env p S (z3,(qK env n (S.drop (S.length-a))).2)
 |cond {p t:Nat} {S:List Vl} {r:Vl×Int} {n:Ty} {top:Vl} (h:code[p]? =aa n) (gx:(n.1:Int)=50\/(n.1:Int)=52\/(n.1:Int)=53) (ht:(n.2:Int)=t) (TH:p<t) (Hi:t<=code.length) (hk:(top.1:Int)=1) (hv:(top.2.2:Int)=0\/(top.2.2:Int)=1) (next:gK code env (if KW n top=af then t else p+1) (if KW n top=ag\/(n.1:Int)=50 then S else S++[top]) r):gK code env p (S++[top]) r
end L.P
namespace L.P
theorem Q1{e:List Ty}{st:List Nat}(v:CG e st)(hl:e.length<=100000){i:Nat}(hi:i<e.length):((idx e (i:Int)).bind λx3=>
(M.dN aG x3.1).bind λy4=>
(pw y4 (0:Int)).bind λl5=>
Loop (S:=Int×Int×List Int) (X:=List Int) (λs6=>
(if(decide ((0:Int)<=s6.2.1))=af then
(idx s6.2.2 s6.2.1).bind λx7=>
(idx (dR st) s6.1).bind λx8=>
some (ao4 (aoz.wrap (x8-(1:Int)),aoz.wrap (s6.2.1-(1:Int)),be s6.2.2 s6.2.1 s6.1))
else
some (aoV s6.2.2))) aG (aoz.wrap ((i:Int)-(1:Int)),aoz.wrap ((l5.length:Int)-(1:Int)),l5))=aa (dR (opsL st (ar e[i].1).toNat i)):=by
 apply Wp.eq;obtain⟨h0,l,hc,ha,hd,_⟩:=v.node i hi;rw[aD hi];simp only[aoy,eJ]
 obtain⟨a,hea⟩:∃a:Nat,ar e[i].1=a:=⟨(ar e[i].1).toNat,by omega⟩
 have hle:=kE e[i].1;rw[hea]at ha hle⊢;rw[aoF]at ha⊢
 have Be:pw (a:Int) (0:Int)=aa (aoE a 0):=by
  unfold pw;rw[aj (by omega),aoF]
 rw[Be];simp only[aoy,List.length_replicate];refine Wp.loop (λs:Int×Int×List Int=>∃b p:Nat,∃dn l':List Nat,s=((p:Int)-1,(b:Int)-1,aoE b (0:Int)++dR dn)/\b<=a/\p<=i/\opsL st a i=opsL st b p++dn/\Ch st p l'/\b<=l'.length) (λs=>(s.2.1+1).toNat) ⟨a,i,[],l,?_,aoJ _,aoJ _,by simp,hc,ha⟩ ?_ ?_
 .rw[aE (by omega) (by omega),aE (by omega) (by omega)];simp
 .simp only;rw[aE (n:=(a:Int)-1) (by omega) (by omega)];unfold aG;omega
 .rintro _ ⟨b,p,dn,l',rfl,h1,h2,h3,h4,h5⟩
  simp only
  refine Wp.dec (λhb=>?_) λhb=> .some ?_
  .obtain⟨b,rfl⟩:∃m,b=m+1:=⟨b-1,by omega⟩
   cases h4 with
   |nil=>simp at h5
   | @snoc p u l' g1 g2 c=>
     simp at h5;have hp:p<st.length:=(aoI.1 g1).1
     have e5:idx (aoE (b+1) (0:Int)++dR dn) (((b+1:Nat):Int)-1)=aa 0:=by
      rw[show((b+1:Nat):Int)-1=(b:Int) by omega,aD (by simp;omega),aoK (by simp)];simp
     have e6:idx (dR st) (((p+1:Nat):Int)-1)=aa (u:Int):=by
      rw[show((p+1:Nat):Int)-1=(p:Int) by omega,aD (by simpa using hp)];have:=(aoI.1 g1).2;simp[this]
     rw[e5,e6];simp only[aoy];rw[aE (n:=(u:Int)-1) (by omega) (by omega),aE (n:=(((b+1:Nat):Int)-1)-1) (by omega) (by omega)];refine .some ⟨⟨b,u,p::dn,l',?_,by omega,by omega,?_,c,h5⟩,by simp only;omega⟩
     .have e7:be (aoE (b+1) (0:Int)++dR dn) (((b+1:Nat):Int)-1) (((p+1:Nat):Int)-1)=aoE b (0:Int)++dR (p::dn):=by
       unfold be;rw[show(((b+1:Nat):Int)-1).toNat=b by omega,show((p+1:Nat):Int)-1=(p:Int) by omega,List.replicate_succ',ape,apw _ _ (by simp)];simp
      rw[e7];simp only[Prod.mk.injEq,and_true,true_and];omega
     .rw[h3,opsL]
      have:st.getD (p+1-1) 0=u:=by simp[apb,g1]
      rw[this];simp
  .obtain rfl:b=0:=by omega
   show _=_
   rw[h3];simp[opsL]
theorem G9{e:List Ty}{st:List Nat}(w:Whole e st){i:Nat}(hi:i<e.length):M.jG aG e (i:Int)=aa (dR (opsL st (ar e[i].1).toNat i)):=by
 have hle:=w.le;have h:=Q1 w.val (by omega) hi;unfold M.jG M.je;rw[wF,w.res];simp only[aoy,aK,jD];rw[ai (by simp;omega)];exact h
end L.P
namespace L.P
def us(op:Int):Prop:=(1<=op/\op<=8)\/(14<=op/\op<=16)\/op=33\/op=34\/(36<=op/\op<=39)
theorem Ke(a b:Ty):px aA a b=decide (a=b):=by
 obtain⟨a1,a2⟩:=a;obtain⟨b1,b2⟩:=b;rw[aoO];simp[px]
theorem Xv{α:Type}{l:List α}(h:l.length=2):∃a b,l=[a,b]:=by
 match l,h with
 |[a,b],_=>exact⟨a,b,rfl⟩
theorem Xw{α:Type}{l:List α}(h:l.length=3):∃a b c,l=[a,b,c]:=by
 match l,h with
 |[a,b,c],_=>exact⟨a,b,c,rfl⟩
def oY(t:Ty)(n:Nat):Prop:=(1<=(t.1:Int)/\(t.1:Int)<=5/\(t.2:Int)=0)\/((t.1:Int)=6/\0<=(t.2:Int)/\(t.2:Int)<n)
instance(t:Ty)(n:Nat):Decidable (oY t n):=by unfold oY;exact inferInstance
end L.P
namespace L.P
end L.P
namespace L.P
def sH(g:Nat->Nat->Int->List (Ty×Int)):List Nat->Nat->Int->List (Ty×Int)
 |[],_,_=>[]
 |o::os,b,d=>g o b d++sH g os (b+(g o b d).length) (d+1)
def CI(g:Nat->Nat->Int->List (Ty×Int))(n:Ty)(os:List Nat)(b:Nat)(d:Int):List (Ty×Int):=
 g (os.getD 0 0) b d++(((if(n.1:Int)=24 then 53 else 52,((b+(g (os.getD 0 0) b d).length+1+(g (os.getD 1 0) (b+(g (os.getD 0 0) b d).length+1) d).length:Nat):Int)):Int×Int),d+1)::g (os.getD 1 0) (b+(g (os.getD 0 0) b d).length+1) d
def qJ(g:Nat->Nat->Int->List (Ty×Int))(os:List Nat)(b:Nat)(d:Int):Nat:=
 b+(g (os.getD 0 0) b d).length+1+(g (os.getD 1 0) (b+(g (os.getD 0 0) b d).length+1) d).length+1
def No(g:Nat->Nat->Int->List (Ty×Int))(os:List Nat)(b:Nat)(d:Int):List (Ty×Int):=
 g (os.getD 0 0) b d++(((50,((qJ g os b d:Nat):Int)):Int×Int),d+1)::(g (os.getD 1 0) (b+(g (os.getD 0 0) b d).length+1) d++(((51,((qJ g os b d+(g (os.getD 2 0) (qJ g os b d) d).length:Nat):Int)):Int×Int),d+1)::g (os.getD 2 0) (qJ g os b d) d)
def cg(e:List Ty)(st:List Nat):Nat->Nat->Nat->Int->List (Ty×Int)
 |0,_,_,_=>[]
 |f+1,i,b,d=>
  if((e.getD i ((0,0):Int×Int)).1:Int)=23\/((e.getD i ((0,0):Int×Int)).1:Int)=24 then CI (cg e st f) (e.getD i ((0,0):Int×Int)) (opsL st (ar (e.getD i ((0,0):Int×Int)).1).toNat i) b d
  else if((e.getD i ((0,0):Int×Int)).1:Int)=26 then No (cg e st f) (opsL st (ar (e.getD i ((0,0):Int×Int)).1).toNat i) b d
  else sH (cg e st f) (opsL st (ar (e.getD i ((0,0):Int×Int)).1).toNat i) b d++[(e.getD i ((0,0):Int×Int),d+((ar (e.getD i ((0,0):Int×Int)).1).toNat:Nat))]
theorem Ea(g:Nat->Nat->Int->List (Ty×Int)):∀(xs ys:List Nat)(b:Nat)(d:Int),sH g (xs++ys) b d=sH g xs b d++sH g ys (b+(sH g xs b d).length) (d+xs.length)
 |[],ys,b,d=>by simp[sH]
 |x::xs,ys,b,d=>by
  rw[List.cons_append,sH,sH,Ea g xs ys];simp only[aoH,apa,ape];rw[show b+(g x b d).length+(sH g xs (b+(g x b d).length) (d+1)).length=b+((g x b d).length+(sH g xs (b+(g x b d).length) (d+1)).length) by omega,show d+1+(xs.length:Int)=d+((xs.length+1:Nat):Int) by omega]
theorem K8{st:List Nat}{g:Nat->Nat->Int->List (Ty×Int)}{P:Nat}(hg:∀(o s b:Nat)(d:Int),o<P->st[o]? =aa s->s<=o->(g o b d).length<=2*(o+1-s)):∀(a i:Nat)(l:List Nat),Ch st i l->a<=l.length->i<=P->∀(b:Nat)(d:Int),(sH g (opsL st a i) b d).length<=2*(i-rr (a:Int) i l)
 |0,i,l,_,_,_,b,d=>by simp[opsL,sH]
 |a+1,i,l,c,ha,hi,b,d=>by
  cases c with
  |nil=>simp at ha
  | @snoc j s l h1 h2 c=>
    have hg':st.getD (j+1-1) 0=s:=by simp[apb,h1]
    have e1:opsL st (a+1) (j+1)=opsL st a s++[j]:=by rw[opsL,hg'];rfl
    have XD:a<=l.length:=by rw[aoH,aoT]at ha;omega
    have ih:=K8 hg a s l c XD (by omega) b d;have hj:=hg j s (b+(sH g (opsL st a s) b d).length) (d+(opsL st a s).length) (by omega) h1 h2
    have es:rr ((a+1:Nat):Int) (j+1) (l++[s])=if a=0 then s else rr (a:Int) s l:=by
     unfold rr
     have en:((a+1:Nat):Int).toNat=a+1:=by omega
     have e3:l.length+1-(a+1)=l.length-a:=by omega
     rw[ai (by omega),aoH,aoT,en,e3];by_cases h0:a=0
     .rw[aj h0,h0];simp[apb]
     .have aJ:l.length-a<l.length:=by omega
      rw[ai h0,ai (by omega),aoF];simp[apb,apc aJ]
    have hle:rr (a:Int) s l<=s:=D9 (by omega) c (by omega)
    have Sd:a=0->rr (a:Int) s l=s:=λh=>by unfold rr;rw[aj (by omega)]
    rw[e1,Ea,aoH,es];simp only[sH,apq];split
    .rename_i h0;have:=Sd h0;omega
    .omega
theorem K9{g:Nat->Nat->Int->List (Ty×Int)}(hg:∀(o b b':Nat)(d d':Int),(g o b d).length=(g o b' d').length):∀(os:List Nat)(b b':Nat)(d d':Int),(sH g os b d).length=(sH g os b' d').length
 |[],_,_,_,_=>rfl
 |o::os,b,b',d,d'=>by
  rw[sH,sH,aoH,aoH,hg o b b' d d',K9 hg os _ (b'+(g o b' d').length) _ (d'+1)]
theorem Q2(e:List Ty)(st:List Nat):∀(f i b b':Nat)(d d':Int),(cg e st f i b d).length=(cg e st f i b' d').length
 |0,_,_,_,_,_=>rfl
 |f+1,i,b,b',d,d'=>by
  have ih:=Q2 e st f;rw[cg,cg];split
  .unfold CI;simp only[aoH,apa];rw[ih _ b b' d d',ih _ (b+_+1) (b'+((cg e st f ((opsL st (ar (e.getD i ((0,0):Int×Int)).1).toNat i).getD 0 0) b' d').length)+1) d d']
  split
  .unfold No;simp only[aoH,apa];rw[ih _ b b' d d',ih _ (b+_+1) (b'+((cg e st f ((opsL st (ar (e.getD i ((0,0):Int×Int)).1).toNat i).getD 0 0) b' d').length)+1) d d',ih _ (qJ (cg e st f) _ b d) (qJ (cg e st f) (opsL st (ar (e.getD i ((0,0):Int×Int)).1).toNat i) b' d') d d']
  .simp only[aoH,apa];rw[K9 ih _ b b' d d']
theorem Q3{e:List Ty}{st:List Nat}(w:Whole e st):∀(f i s b:Nat)(d:Int),i<e.length->st[i]? =aa s->s<=i->(cg e st f i b d).length<=2*(i+1-s)
 |0,i,s,b,d,_,_,_=>by simp[cg]
 |f+1,i,s,b,d,hi,hs,hsi=>by
  obtain⟨v1,l,v2,v3,v4,v5⟩:=w.val.node i hi
  have hge:e.getD i ((0,0):Int×Int)=e[i]:=by simp only[apb,aoA hi,ao8]
  have sq:s=rr (ar e[i].1) i l:=by rw[hs]at v5;exact aoB v5
  obtain⟨a,ha⟩:∃a:Nat,ar e[i].1=a:=⟨(ar e[i].1).toNat,by omega⟩
  have key:=K8 (st:=st) (g:=cg e st f) (P:=i) (λo s b d ho Uy ahD=>Q3 w f o s b d (by omega) Uy ahD) a i l v2 (by omega) (aoJ _);have iP:rr (a:Int) i l<=i:=D9 (by omega) v2 (by omega);rw[ha]at sq;rw[cg,hge]
  have han:(ar e[i].1).toNat=a:=by omega
  rw[han];have ih:=Q2 e st f;have key:=key b d;split
  .rename_i gx
   have h2:a=2:=by
    have:ar e[i].1=2:=by rcases gx with h|h<;>rw[h]<;>rfl
    omega
   subst h2;obtain⟨o0,o1,XO⟩:=Xv (lT st 2 i);rw[XO]at key⊢;unfold CI;simp only[sH,apq,aoH,apa,ap2,aqb]at key⊢;have:=ih o1 (b+(cg e st f o0 b d).length) (b+(cg e st f o0 b d).length+1) (d+1) d;omega
  split
  .rename_i gx
   have h3:a=3:=by
    have:ar e[i].1=3:=by rw[gx];rfl
    omega
   subst h3;obtain⟨o0,o1,o2,XO⟩:=Xw (lT st 3 i);rw[XO]at key⊢;unfold No;simp only[sH,apq,aoH,apa,ap2,aqb]at key⊢;have h1:=ih o1 (b+(cg e st f o0 b d).length) (b+(cg e st f o0 b d).length+1) (d+1) d;have h2:=ih o2 (b+(cg e st f o0 b d).length+(cg e st f o1 (b+(cg e st f o0 b d).length) (d+1)).length) (qJ (cg e st f) [o0,o1,o2] b d) (d+1+1) d;omega
  .rw[aoH,aoT];omega
theorem Q4{e:List Ty}{st:List Nat}(w:Whole e st){f i b:Nat}{d:Int}(hi:i<e.length):(cg e st f i b d).length<=96:=by
 obtain⟨v1,l,v2,v3,v4,v5⟩:=w.val.node i hi;have hle:=w.le;have:=Q3 w f i _ b d hi v5 (D9 v1 v2 v3);omega
theorem AG{α:Type}(p q:List α)(x y:α):be (p++x::q) (p.length:Int) y=p++y::q:=by
 unfold be;rw[aoF,apw _ _ (aoJ _),Nat.sub_self];rfl
theorem Eb{α:Type}(p q:List α)(x:α):idx (p++x::q) (p.length:Int)=aa x:=by
 rw[aD (by simp)];simp
abbrev ins(l:List (Ty×Int)):List Ty:=l.map Prod.fst
theorem AH{e:List Ty}{st:List Nat}(w:Whole e st):∀(f i N:Nat),i<f->i<e.length->f<=N->∀(code:List Ty)(d:Int),code.length+400*f<=1000000->M.bE aG N e (i:Int) code=aa (code++ins (cg e st f i code.length d))
 |0,_,_,h,_,_,_,_,_=>by omega
 |f+1,i,0,_,_,h,_,_,_=>by omega
 |f+1,i,N+1,hf,hi,hN,code,d,hc=>by
  have ih:=AH w f;have hle:=w.le
  have aJ:∀o∈opsL st (ar e[i].1).toNat i,o<i:=λo ho=>(w.val.ops hi o ho).1
  have Xx:∀o∈opsL st (ar e[i].1).toNat i,∀b d,(cg e st f o b d).length<=96:=λo ho b d=>Q4 w (by have:=aJ o ho;omega)
  have hge:e.getD i ((0,0):Int×Int)=e[i]:=by simp only[apb,aoA hi,ao8]
  obtain⟨v1,_⟩:=w.val.node i hi;have DI:=kE e[i].1;unfold M.bE;rw[G9 w hi,aD hi,cg,hge];simp only[aoy];rw[Qv];simp only[aoy];have hlen:=lT st (ar e[i].1).toNat i;generalize XO:opsL st (ar e[i].1).toNat i=os at*;by_cases XY:(e[i].1:Int)=23\/(e[i].1:Int)=24
  .rw[ao XY,aj rfl,aj XY]
   have h2:(ar e[i].1).toNat=2:=by rcases XY with h|h<;>rw[h]<;>rfl
   obtain⟨o0,o1,rfl⟩:=Xv (l:=os) (by omega)
   have gx:(if decide ((e[i].1:Int)=24)=af then aa (53:Int)else aa (52:Int))=aa (if(e[i].1:Int)=24 then(53:Int)else 52):=by
    by_cases h:(e[i].1:Int)=24<;>simp[h]
   rw[gx];have i0:idx (dR [o0,o1]) (0:Int)=aa (o0:Int):=rfl;have i1:idx (dR [o0,o1]) (1:Int)=aa (o1:Int):=rfl;have l0:=aJ o0 (by simp);have l1:=aJ o1 (by simp);have n0:=Xx o0 (by simp) code.length d;have r0:=ih o0 N (by omega) (by omega) (by omega) code d (by omega);generalize Xy:cg e st f o0 code.length d=g0 at*
   have LZ:(code++ins g0).length=code.length+g0.length:=by simp
   generalize hx:(if(e[i].1:Int)=24 then(53:Int)else 52)=x;have r1:=ih o1 N (by omega) (by omega) (by omega) (code++ins g0++[((x,0):Int×Int)]) d (by rw[aoH,LZ,aoT];omega);rw[show(code++ins g0++[((x,0):Int×Int)]).length=code.length+g0.length+1 by rw[aoH,LZ,aoT]]at r1
   have hA:CI (cg e st f) e[i] [o0,o1] code.length d=g0++(((x,((code.length+g0.length+1+(cg e st f o1 (code.length+g0.length+1) d).length:Nat):Int)):Int×Int),d+1)::cg e st f o1 (code.length+g0.length+1) d:=by
    unfold CI;simp only[ap2,aqb,Xy,hx]
   rw[hA];generalize cg e st f o1 (code.length+g0.length+1) d=g1 at*;rw[i0,i1];simp only[aoy];rw[r0];simp only[aoy];rw[bF (by rw[LZ,aoT];omega)];simp only[aoy];rw[r1];simp only[aoy];rw[ape (code++ins g0),List.singleton_append,Eb];simp only[aoy];rw[AG]
   have hn:(((code++ins g0++((x,0):Int×Int)::ins g1:List Ty)).length:Int)=((code.length+g0.length+1+g1.length:Nat):Int):=by
    rw[aoH,LZ];simp;omega
   rw[hn];simp[ins]
  rw[aq XY,ai (by simp),ai XY];by_cases XZ:(e[i].1:Int)=26
  .rw[ao XZ,aj rfl,aj XZ]
   have h3:(ar e[i].1).toNat=3:=by rw[XZ];rfl
   obtain⟨o0,o1,o2,rfl⟩:=Xw (l:=os) (by omega);have i0:idx (dR [o0,o1,o2]) (0:Int)=aa (o0:Int):=rfl;have i1:idx (dR [o0,o1,o2]) (1:Int)=aa (o1:Int):=rfl;have i2:idx (dR [o0,o1,o2]) (2:Int)=aa (o2:Int):=rfl;have l0:=aJ o0 (by simp);have l1:=aJ o1 (by simp);have l2:=aJ o2 (by simp);have n0:=Xx o0 (by simp) code.length d;have n1:=Xx o1 (by simp);have r0:=ih o0 N (by omega) (by omega) (by omega) code d (by omega);generalize Xy:cg e st f o0 code.length d=g0 at*
   have LZ:(code++ins g0).length=code.length+g0.length:=by simp
   have r1:=ih o1 N (by omega) (by omega) (by omega) (code++ins g0++[((50,0):Int×Int)]) d (by rw[aoH,LZ,aoT];omega);rw[show(code++ins g0++[((50,0):Int×Int)]).length=code.length+g0.length+1 by rw[aoH,LZ,aoT]]at r1;have n1:=n1 (code.length+g0.length+1) d;generalize hg1:cg e st f o1 (code.length+g0.length+1) d=g1 at*;generalize hE:code.length+g0.length+1+g1.length+1=E
   have wJ:qJ (cg e st f) [o0,o1,o2] code.length d=E:=by
    unfold qJ;simp only[ap2,aqb,Xy,hg1];exact hE
   have hp:(code++ins g0++((50,(E:Int)):Int×Int)::ins g1).length=code.length+g0.length+1+g1.length:=by rw[aoH,LZ];simp;omega
   have r2:=ih o2 N (by omega) (by omega) (by omega) (code++ins g0++((50,(E:Int)):Int×Int)::ins g1++[((51,0):Int×Int)]) d (by rw[aoH,hp,aoT];omega);rw[show(code++ins g0++((50,(E:Int)):Int×Int)::ins g1++[((51,0):Int×Int)]).length=E by rw[aoH,hp,aoT];omega]at r2
   have hI:No (cg e st f) [o0,o1,o2] code.length d=g0++(((50,(E:Int)):Int×Int),d+1)::(g1++(((51,((E+(cg e st f o2 E d).length:Nat):Int)):Int×Int),d+1)::cg e st f o2 E d):=by
    unfold No;rw[wJ];simp only[ap2,aqb,Xy,hg1]
   rw[hI];generalize cg e st f o2 E d=g2 at*;rw[i0,i1,i2];simp only[aoy];rw[r0];simp only[aoy];rw[bF (by rw[LZ,aoT];omega)];simp only[aoy];rw[r1];simp only[aoy]
   have hq:(code++ins g0++[((50,0):Int×Int)]++ins g1).length=code.length+g0.length+1+g1.length:=by rw[aoH,aoH,LZ];simp
   rw[bF (by rw[hq,aoT];omega)];simp only[aoy]
   have hz:code++ins g0++[((50,0):Int×Int)]++ins g1++[((51,0):Int×Int)]=(code++ins g0)++((50,0):Int×Int)::(ins g1++[((51,0):Int×Int)]):=by simp
   have hzl:((code++ins g0++[((50,0):Int×Int)]++ins g1++[((51,0):Int×Int)]).length:Int)=(E:Int):=by rw[aoH,hq,aoT];omega
   rw[hzl,hz,Eb];simp only[aoy];rw[AG]
   have Eg:code++ins g0++((50,(E:Int)):Int×Int)::(ins g1++[((51,0):Int×Int)])=code++ins g0++((50,(E:Int)):Int×Int)::ins g1++[((51,0):Int×Int)]:=by simp
   rw[Eg,r2];simp only[aoy];rw[ape (code++ins g0++_::ins g1),List.singleton_append,hq,<-hp,Eb];simp only[aoy];rw[AG]
   have hn:(((code++ins g0++((50,(E:Int)):Int×Int)::ins g1++((51,0):Int×Int)::ins g2:List Ty)).length:Int)=((E+g2.length:Nat):Int):=by
    rw[aoH,hp];simp;omega
   rw[hn];simp[ins]
  rw[aq XZ,ai (by simp),ai XZ]
  have aaW:Loop (S:=Int×List aA.den) (X:=List aA.den) (λzO=>(if(decide (zO.1<((dR os).length:Int)))=af then(idx (dR os) zO.1).bind λWk=>(M.bE aG N e Wk zO.2).bind λWl=>aa (ao4 (aoz.wrap (zO.1+(1:Int)),Wl))else aa (aoV zO.2))) aG ((0:Int),code)=aa (code++ins (sH (cg e st f) os code.length d)):=by
   apply Wp.eq
   have am7:os.length<=3:=by omega
   refine Wp.loop (λs:Int×List Ty=>∃k:Nat,s.1=k/\k<=os.length/\s.2=code++ins (sH (cg e st f) (os.take k) code.length d)/\(sH (cg e st f) (os.take k) code.length d).length<=96*k) (λs=>(os.length-s.1).toNat) ⟨0,rfl,aoR _,by simp[sH],by simp[sH]⟩ (by unfold aG;simp only;omega) ?_
   rintro⟨_,c⟩ ⟨k,rfl,hk,hcd,am8⟩
   dsimp only at hcd⊢;subst hcd;rw[ao5]
   refine Wp.dec (λh=>?_) λh=> .some ?_
   .have dT:k<os.length:=by omega
    have hm:=aoG dT;have Ro:=aJ _ hm;rw[aD (by simpa using dT)];simp only[aoy,apB]
    have AN:(code++ins (sH (cg e st f) (os.take k) code.length d)).length=code.length+(sH (cg e st f) (os.take k) code.length d).length:=by simp
    rw[ih _ N (by omega) (by omega) (by omega) _ (d+(os.take k).length) (by rw[AN];omega),AN,aL (by omega)]
    have XC:sH (cg e st f) (os.take (k+1)) code.length d=sH (cg e st f) (os.take k) code.length d++cg e st f os[k] (code.length+(sH (cg e st f) (os.take k) code.length d).length) (d+(os.take k).length):=by
     rw[apf dT,Ea];simp[sH]
    have am9:=Xx _ hm (code.length+(sH (cg e st f) (os.take k) code.length d).length) (d+(os.take k).length);refine .some ⟨⟨k+1,rfl,dT,?_,?_⟩,by simp only;omega⟩
    .rw[XC];simp[ins]
    .rw[XC,aoH];omega
   .show _=_
    rw[List.take_of_length_le (by omega)]
  rw[aaW];simp only[aoy]
  have Xo:(code++ins (sH (cg e st f) os code.length d)).length<=1000000:=by
   have:=Q4 w (f:=f+1) (b:=code.length) (d:=d) hi;rw[cg,hge,ai XY,ai XZ,XO,aoH]at this;simp;omega
  rw[bF (by rw[aoT];omega)];simp[ins]
structure FOK(code:List Ty)(F:List Int):Prop where
 pos:0<code.length
 le:code.length<=128
 len:F.length=code.length+1
 bd:∀k,k<=code.length->0<=gd F k/\gd F k<=12
 first:gd F 0=0
 last:gd F code.length=1
 step:∀j(h:j<code.length),lF code.length F j code[j]/\¬cH code[j].1
 reach:∀k,0<k->k<=code.length->∃j,∃h:j<code.length,j<k/\((j+1=k/\(code[j].1:Int)≠51)\/((50<=(code[j].1:Int)/\(code[j].1:Int)<=53)/\(code[j].2:Int)=k))
structure Cs(F D:List Int):Prop where
 len:D.length=F.length
 ok:∀k,gd D k= -1\/gd D k=gd F k
theorem Cs.set{F D:List Int}(c:Cs F D){t:Nat}(ht:t<F.length):Cs F (D.set t (gd F t)):=by
 refine⟨by rw[ap6,c.len],λk=>?_⟩;rw[kK (by rw[c.len];exact ht)];split
 .rename_i h;rw[h];exact .inr rfl
 .exact c.ok k
theorem pu{N:Nat}{F D:List Int}(c:Cs F D){t:Nat}(ht:t<F.length):M.bl N (t:Int) (gd F t) D=aa (0,D.set t (gd F t)):=by
 have htD:t<D.length:=by rw[c.len];exact ht
 unfold M.bl;rw[fA htD];simp only[aoy,aK]
 rcases c.ok t with h|h
 .rw[h];rfl
 .rw[h]
  by_cases h0:0<=gd F t<;>simp[h0,be]
def Fwd(F D:List Int)(i:Nat)(n:Ty):Prop:=((n.1:Int)≠51->gd D (i+1)=gd F (i+1))/\((50<=(n.1:Int)/\(n.1:Int)<=53)->∀t:Nat,(n.2:Int)=t->gd D t=gd F t)
structure Up(F D D':List Int)(i:Nat):Prop where
 low:∀k,k<=i->gd D' k=gd D k
 keep:∀k,gd D k=gd F k->gd D' k=gd F k
theorem Up.set{F D:List Int}{t i:Nat}(ht:t<D.length)(sB:i<t):Up F D (D.set t (gd F t)) i:=by
 refine⟨λk hk=>?_,λk hk=>?_⟩<;>rw[kK ht]
 .rw[ai (by omega)]
 .split
  .rename_i h;rw[h]
  .exact hk
theorem Up.trans{F A B C:List Int}{i:Nat}(h:Up F A B i)(h':Up F B C i):Up F A C i:=
 ⟨λk hk=>(h'.low k hk).trans (h.low k hk),λk hk=>h'.keep k (h.keep k hk)⟩
theorem QJ{N:Nat}{code:List Ty}{F D:List Int}(f:FOK code F)(c:Cs F D){i:Nat}(hi:i<code.length)(h0:gd D i=gd F i):Wp (M.bO N code (i:Int) code[i] D) λr=>r.1=0/\Cs F r.2/\Up F D r.2 i/\Fwd F r.2 i code[i]:=by
 have hle:=f.le;have hFl:=f.len;have hDl:=c.len;have hb:=f.bd i (by omega);have Hh:=f.bd (i+1) (by omega);obtain⟨hs,QK⟩:=f.step i hi;unfold M.bO Fwd;generalize code[i]=n at*;obtain⟨(op:Int),(m:Int)⟩:=n;dsimp only[aB,Row.den]at*;have DI:=kE op;rw[od,mH,fA (by omega),eJ,D2,h0];simp only[aoy]
 have e0:(50<=op/\op<=53\/0<=ar op)->(50<=op/\op<=53->(i:Int)<m/\m<=(code.length:Int))->(if(!decide (¬cH op/\(50<=op/\op<=53\/0<=ar op)))=af then aa af else(if decide (50<=op/\op<=53)=af then(if decide (m<=(i:Int))=af then aa af else aa (decide ((code.length:Int)<m)))else aa ag))=aa ag:=by
  intro g1 g2;rw[ao (show¬cH op/\(50<=op/\op<=53\/0<=ar op)from⟨QK,g1⟩),ai (by simp)];by_cases g:50<=op/\op<=53
  .obtain⟨g3,g4⟩:=g2 g;rw[ao g,aj rfl,aq (by omega),ai (by simp),aq (by omega)]
  .rw[aq g,ai (by simp)]
 rcases hs with⟨h1,t,h2,h3,h4,h5⟩|⟨h1,h2,h3,t,h4,h5,h6,h7⟩|⟨h1,h2,h3,h4,h5,h6⟩
 .dsimp only[aB,Row.den]at*;subst h2;rw[e0 (.inl (by omega)) (λ_=>by omega)];simp only[aoy,aoC,if_false]
  refine Wp.dec (λ_=>?_) λh=>absurd h1 h
  rw[<-h5,pu c (by omega)];refine .some ⟨rfl,c.set (by omega),Up.set (by omega) h3,λh=>absurd h1 h,λ_ u hu=>?_⟩
  obtain rfl:t=u:=by omega
  show gd (D.set t (gd F t)) t=_
  rw[kK (by omega),aj rfl]
 .dsimp only[aB,Row.den]at*;subst h4;rw[e0 (.inl (by omega)) (λ_=>by omega)];simp only[aoy,aoC,if_false]
  refine Wp.dec (λh=>by omega) λ_=>?_
  refine Wp.dec (λ_=>?_) λh=>absurd h1 h
  refine Wp.dec (λh=>by omega) λ_=>?_
  have w1:aoz.wrap (gd F i-1)=gd F (i+1):=by rw[aE (by omega) (by omega),h3]
  rw[w1,aL (by omega),pu c (by omega)];have c1:=c.set (t:=i+1) (by omega);have u1:Up F D (D.set (i+1) (gd F (i+1))) i:=Up.set (by omega) (by omega);simp only[aoy]
  refine Wp.uA (λh=>absurd trivial h) λ_=>?_
  have e7:(if decide (op=50)=af then aa (gd F (i+1))else aa (gd F i))=aa (gd F t):=by
   by_cases Ej:op=50
   .rw[ao Ej,aj rfl,h7,aj Ej,h3]
   .rw[aq Ej,ai (by simp),h7,ai Ej]
  rw[e7];simp only[aoy];rw[pu c1 (by omega)];have c2:=c1.set (t:=t) (by omega);have u2:Up F (D.set (i+1) (gd F (i+1))) ((D.set (i+1) (gd F (i+1))).set t (gd F t)) i:=Up.set (by rw[ap6];omega) h5;refine .some ⟨rfl,c2,u1.trans u2,λ_=>u2.keep _ (by rw[kK (by omega),aj rfl]),λ_ u hu=>?_⟩
  obtain rfl:t=u:=by omega
  show gd (((D.set (i+1) (gd F (i+1)))).set t (gd F t)) t=_
  rw[kK (by rw[ap6];omega),aj rfl]
 .dsimp only[aB,Row.den]at*
  have gx:¬(50<=op/\op<=53):=by
   intro h
   have:op=50\/op=51\/op=52\/op=53:=by omega
   omega
  rw[e0 (.inr h3) (λh=>absurd h gx)];simp only[aoy,aoC,if_false]
  refine Wp.dec (λh=>absurd h h1) λ_=>?_
  refine Wp.dec (λh=>absurd h h2) λ_=>?_
  refine Wp.dec (λh=>by omega) λ_=>?_
  have w1:aoz.wrap (gd F i-ar op)=gd F i-ar op:=aE (by omega) (by omega)
  have w2:aoz.wrap (gd F i-ar op+1)=gd F (i+1):=by rw[aE (by omega) (by omega),h5]
  rw[w1,w2]
  refine Wp.dec (λh=>by omega) λ_=>?_
  rw[aL (by omega),pu c (by omega)];exact .some ⟨rfl,c.set (by omega),Up.set (by omega) (by omega),λ_=>by show gd (D.set (i+1) (gd F (i+1))) (i+1)=_;rw[kK (by omega),aj rfl],λh=>absurd h gx⟩
theorem Q5{st:List Nat}:∀{i:Nat}{l:List Nat},Ch st i l->∀(a:Nat),a<=l.length->∀k(h:k<(opsL st a i).length),Ch st ((opsL st a i)[k]+1) (l.take (l.length-a+k+1)):=by
 intro i l c
 induction c with
 |nil=>
  intro a ha k h
  obtain rfl:a=0:=by simpa using ha
  simp[opsL]at h
 | @snoc j s l h1 h2 c ih=>
   intro a ha k h
   cases a with
   |zero=>simp[opsL]at h
   |succ a=>
    have hg:st.getD (j+1-1) 0=s:=by simp[apb,h1]
    have e1:opsL st (a+1) (j+1)=opsL st a s++[j]:=by rw[opsL,hg];rfl
    rw[aoH,aoT]at ha⊢
    have hk:k<a+1:=by rw[lT]at h;exact h
    have e3:l.length+1-(a+1)+k+1=l.length-a+k+1:=by omega
    rw[e3];by_cases Xt:k<a
    .have dT:k<(opsL st a s).length:=by rw[lT];exact Xt
     have:(opsL st (a+1) (j+1))[k]=(opsL st a s)[k]:=by
      simp only[e1];rw[aoK dT]
     rw[this,List.take_append_of_le_length (by omega)];exact ih a (by omega) k dT
    .obtain rfl:k=a:=by omega
     have:(opsL st (k+1) (j+1))[k]=j:=by
      simp only[e1];rw[ao1 (by rw[lT];exact aoJ _)];simp[lT]
     rw[this,show l.length-k+k+1=(l++[s]).length by rw[aoH,aoT];omega,ao3];exact .snoc h1 h2 c
def Q6(st:List Nat)(i:Nat)(d:Int):Prop:=∃l,Ch st (i+1) l/\d+1<=l.length
theorem Q6.le{e:List Ty}{st:List Nat}(w:Whole e st){i:Nat}{d:Int}(hi:i<e.length)(h:Q6 st i d):d+1<=12:=by
 obtain⟨l,c,hd⟩:=h;obtain⟨v1,l',v2,v3,v4,v5⟩:=w.val.node i hi;have:=(v2.next v1 v3 v5).Qu c;rw[<-this]at hd;simp at hd;omega
theorem Q6.op{e:List Ty}{st:List Nat}(w:Whole e st){i:Nat}{d d':Int}(hi:i<e.length)(h:Q6 st i d){k:Nat}(hk:k<(opsL st (ar e[i].1).toNat i).length)(hd:d'<=d+k):Q6 st (opsL st (ar e[i].1).toNat i)[k] d':=by
 obtain⟨l,c,hl⟩:=h;obtain⟨v1,l',v2,v3,v4,v5⟩:=w.val.node i hi;have hu:=(v2.next v1 v3 v5).Qu c;rw[<-hu]at hl;rw[aoH,ao0,aoT]at hl
 have dT:k<(ar e[i].1).toNat:=by rw[lT]at hk;exact hk
 refine⟨_,Q5 v2 _ v3 k hk,?_⟩;rw[ao0];omega
structure Pc(code:List Ty)(F:List Int)(b b':Nat)(d d':Int):Prop where
 le:b<=b'
 inn:gd F b=d
 out:gd F b'=d'
 bd:∀k,b<=k->k<=b'->0<=gd F k/\gd F k<=12
 step:∀j(h:j<code.length),b<=j->j<b'->lF code.length F j code[j]/\¬cH code[j].1
 reach:∀k,b<k->k<=b'->∃j,∃h:j<code.length,j<k/\((j+1=k/\(code[j].1:Int)≠51)\/((50<=(code[j].1:Int)/\(code[j].1:Int)<=53)/\(code[j].2:Int)=k))
theorem Pc.app{code:List Ty}{F:List Int}{b c c':Nat}{d d' d'':Int}(h:Pc code F b c d d')(h':Pc code F c c' d' d''):Pc code F b c' d d'':=by
 refine⟨Nat.le_trans h.le h'.le,h.inn,h'.out,λk k1 k2=>?_,λj hj j1 j2=>?_,λk k1 k2=>?_⟩
 .by_cases hk:k<=c
  .exact h.bd k k1 hk
  .exact h'.bd k (by omega) k2
 .by_cases hk:j<c
  .exact h.step j hj j1 hk
  .exact h'.step j hj (by omega) j2
 .by_cases hk:k<=c
  .exact h.reach k k1 hk
  .exact h'.reach k (by omega) k2
def At(code:List Ty)(F:List Int)(b:Nat)(l:List (Ty×Int)):Prop:=∀k(h:k<l.length),code[b+k]? =aa l[k].1/\gd F (b+k)=l[k].2
theorem At.left{code:List Ty}{F:List Int}{b:Nat}{l m:List (Ty×Int)}(h:At code F b (l++m)):At code F b l:=λk hk=>by
 have:=h k (by rw[aoH];omega);rw[aoK hk]at this;exact this
theorem At.right{code:List Ty}{F:List Int}{b:Nat}{l m:List (Ty×Int)}(h:At code F b (l++m)):At code F (b+l.length) m:=λk hk=>by
 have:=h (l.length+k) (by rw[aoH];omega);rw[ao1 (by omega)]at this;simp only[Nat.add_sub_cancel_left]at this;rw[Nat.add_assoc];exact this
theorem At.head{code:List Ty}{F:List Int}{b:Nat}{x:Ty×Int}{m:List (Ty×Int)}(h:At code F b (x::m)):code[b]? =aa x.1/\gd F b=x.2:=h 0 (by simp)
theorem At.tail{code:List Ty}{F:List Int}{b:Nat}{x:Ty×Int}{m:List (Ty×Int)}(h:At code F b (x::m)):At code F (b+1) m:=At.right (l:=[x]) h
theorem Pc.one{code:List Ty}{F:List Int}{b:Nat}{n:Ty}{a:Nat}{d:Int}(hn:code[b]? =aa n)(ha:ar n.1=a)(QK:¬cH n.1)(hj:¬(50<=(n.1:Int)/\(n.1:Int)<=53))(hb:gd F b=d+a)(rB:gd F (b+1)=d+1)(h0:0<=d)(h12:d+1<=12)(Tq:d+a<=12):Pc code F b (b+1) (d+a) (d+1):=by
 obtain⟨hl,rfl⟩:=aoI.1 hn;refine⟨by omega,hb,rB,λk k1 k2=>?_,λj h j1 j2=>?_,λk k1 k2=>?_⟩
 .rcases(show k=b\/k=b+1 by omega)with rfl|rfl
  .omega
  .omega
 .obtain rfl:j=b:=by omega
  refine⟨.inr (.inr ⟨λh=>hj (by rw[h];decide),λh=>hj ?_,by omega,by omega,by omega,by omega⟩),QK⟩
  rcases h with h|h|h<;>rw[h]<;>decide
 .obtain rfl:k=b+1:=by omega
  exact⟨b,hl,by omega, .inl ⟨rfl,λh=>hj (by rw[h];decide)⟩⟩
theorem Pc.ins{code:List Ty}{F:List Int}{b:Nat}{n:Ty}{d d':Int}(hn:code[b]? =aa n)(hb:gd F b=d)(rB:gd F (b+1)=d')(h:0<=d/\d<=12)(h':0<=d'/\d'<=12)(hs:lF code.length F b n)(QK:¬cH n.1)(hr:∃j,∃h:j<code.length,j<b+1/\((j+1=b+1/\(code[j].1:Int)≠51)\/((50<=(code[j].1:Int)/\(code[j].1:Int)<=53)/\(code[j].2:Int)=((b+1:Nat):Int)))):Pc code F b (b+1) d d':=by
 obtain⟨hl,rfl⟩:=aoI.1 hn;refine⟨by omega,hb,rB,λk k1 k2=>?_,λj h j1 j2=>?_,λk k1 k2=>?_⟩
 .rcases(show k=b\/k=b+1 by omega)with rfl|rfl
  .rw[hb];exact h
  .rw[rB];exact h'
 .obtain rfl:j=b:=by omega
  exact⟨hs,QK⟩
 .obtain rfl:k=b+1:=by omega
  exact hr
theorem Pc.nil{code:List Ty}{F:List Int}{b:Nat}{d:Int}(hb:gd F b=d)(h:0<=d/\d<=12):Pc code F b b d d:=
 ⟨aoJ _,hb,hb,λk k1 k2=>by rw[show k=b by omega,hb];exact h,λj _ j1 j2=>by omega,λk k1 k2=>by omega⟩
end L.P
namespace L.P.Q
theorem wH{α β:Type}{m m':Option α}{k k':α->Option β}(hm:m=m')(hk:∀x,k x=k' x):m.bind k=m'.bind k':=by
 subst hm
 cases m with
 |none=>rfl
 |some x=>exact hk x
theorem Bw(e:List Ty)(i:Int):M.nl aG e i=M.jG aG e i:=by
 unfold M.nl M.jG M.je;rw[L.pO,L.vo,aoy,aoy,aoy]
 refine wH rfl λj=>?_
 cases j with
 |true=>rw[aj rfl,aj rfl]
 |false=>
  rw[ai (by decide),ai (by decide)]
  refine wH rfl λx=>?_
  rw[uw,eJ,aoy,aoy];unfold pw;by_cases h:0<=ar x.1/\ar x.1<=4294967296
  .rw[aj h,aoy,aoy,List.length_replicate,apI h.1]
  .rw[ai h,aqe,aqe]
theorem rq:∀(n:Nat)(e:List Ty)(i:Int)(c:List Ty),M.fH aG n e i c=M.bE aG n e i c
 |0,_,_,_=>rfl
 |n+1,e,i,c=>by
  unfold M.fH M.bE;rw[Bw]
  refine wH rfl λos=>?_
  cases hx:idx e i with
  |none=>rw[aqe,aqe]
  |some x=>
   rw[aoy,aoy]
   refine wH rfl λj=>?_
   cases j with
   |true=>
    rw[aj (rfl:af=af),aj (rfl:af=af)]
    try simp only[aoy]
    cases h0:idx os (0:Int)with
    |none=>
     rw[aqe];by_cases h:(x.1:Int)=24
     .rw[aj (ao h),aoy,aqe]
     .rw[ai (by simpa using h),aoy,aqe]
    |some o=>
     by_cases h:(x.1:Int)=24
     .simp only[aj (ao h),aoy,rq n]
     .have h':¬decide ((x.1:Int)=24)=af:=by simpa using h
      simp only[ai h',aoy,rq n]
   |false=>
    rw[ai aqo,ai aqo];by_cases h:(x.1:Int)=26
    .rw[aj (ao h),aj (ao h)];simp only[rq n]
    .rw[ai (by simpa using h),ai (by simpa using h)];simp only[rq n]
theorem Ec(e:List Ty):M.ox aG e=M.gp aG e:=by
 unfold M.ox M.gp M.rO M.je M.vf M.im;rw[L.pO,L.vo,aoy,aoy,aoy,rq]
def Tg(e:List Ty)(t:Nat)(x:Ty×Int):Prop:=x.1∈e\/((50<=(x.1.1:Int)/\(x.1.1:Int)<=53)/\∃m:Nat,(x.1.2:Int)=m/\m<=t)
theorem Tg.le{e:List Ty}{t t':Nat}{x:Ty×Int}(h:Tg e t x)(ht:t<=t'):Tg e t' x:=h.imp id λ⟨h1,m,h2,h3⟩=>⟨h1,m,h2,by omega⟩
theorem Q7{e:List Ty}{g:Nat->Nat->Int->List (Ty×Int)}:∀(os:List Nat)(b:Nat)(d:Int),(∀o∈os,∀b d,∀x∈g o b d,Tg e (b+(g o b d).length) x)->∀x∈sH g os b d,Tg e (b+(sH g os b d).length) x
 |[],b,d,_,x,h=>by cases h
 |o::os,b,d,hg,x,h=>by
  rw[sH]at h⊢;rw[aoH]
  rcases ao7.1 h with h|h
  .exact(hg o (List.mem_cons_self ..) _ _ x h).le (by omega)
  .exact(Q7 os _ _ (λo ho=>hg o (List.mem_cons_of_mem _ ho)) x h).le (by omega)
theorem U2{e:List Ty}{st:List Nat}(w:Whole e st):∀(f i b:Nat)(d:Int),i<e.length->∀x∈cg e st f i b d,Tg e (b+(cg e st f i b d).length) x
 |0,_,_,_,_,x,h=>by simp[cg]at h
 |f+1,i,b,d,hi,x,h=>by
  have hge:e.getD i ((0,0):Int×Int)=e[i]:=by simp only[apb,aoA hi,ao8]
  have aJ:∀o∈opsL st (ar e[i].1).toNat i,o<i:=λo ho=>(w.val.ops hi o ho).1
  have hlen:=lT st (ar e[i].1).toNat i
  have ih:∀o∈opsL st (ar e[i].1).toNat i,∀b d,∀x∈cg e st f o b d,Tg e (b+(cg e st f o b d).length) x:=λo ho b d=>U2 w f o b d (by have:=aJ o ho;omega)
  rw[cg,hge]at h⊢;generalize opsL st (ar e[i].1).toNat i=os at*;split at h
  .rename_i gx;rw[aj gx];unfold CI at h⊢;rw[aoH,apa];obtain⟨o0,o1,rfl⟩:=Xv (l:=os) (by rw[hlen];rcases gx with g|g<;>rw[g]<;>rfl)
   rcases ao7.1 h with h|h
   .exact(ih o0 (by simp) _ _ x h).le (by simp only[ap2];omega)
   rcases apH.1 h with rfl|h
   .refine .inr ⟨?_,_,rfl,by omega⟩
    show 50<=(if _ then(53:Int)else 52)/\(if _ then(53:Int)else 52)<=53
    split<;>omega
   .exact(ih o1 (by simp) _ _ x h).le (by simp only[ap2,aqb];omega)
  rename_i Jd;rw[ai Jd];split at h
  .rename_i gx;rw[aj gx];unfold No at h⊢;rw[aoH,apa,aoH,apa];obtain⟨o0,o1,o2,rfl⟩:=Xw (l:=os) (by rw[hlen,gx];rfl);have wJ:qJ (cg e st f) [o0,o1,o2] b d=b+(cg e st f o0 b d).length+1+(cg e st f o1 (b+(cg e st f o0 b d).length+1) d).length+1:=rfl;simp only[ap2,aqb]at h⊢
   rcases ao7.1 h with h|h
   .exact(ih o0 (by simp) _ _ x h).le (by omega)
   rcases apH.1 h with rfl|h
   .exact .inr ⟨⟨(by decide:(50:Int)<=50),(by decide:(50:Int)<=53)⟩,_,rfl,by omega⟩
   rcases ao7.1 h with h|h
   .exact(ih o1 (by simp) _ _ x h).le (by omega)
   rcases apH.1 h with rfl|h
   .exact .inr ⟨⟨(by decide:(50:Int)<=51),(by decide:(51:Int)<=53)⟩,_,rfl,by omega⟩
   .exact(ih o2 (by simp) _ _ x h).le (by omega)
  .rename_i gx;rw[ai gx,aoH]
   rcases ao7.1 h with h|h
   .exact(Q7 os _ _ ih x h).le (by omega)
   .rw[aoY.1 h];exact .inl (aoG hi)
theorem Jp(e:List Ty)(hw:∀n∈e,WF aA n):∃c code,M.gp aG e=aa (c,code)/\code.length<=96/\∀n∈code,WF aA n:=by
 have lm:M.je aG e=aa ((pV e).2.1,(pV e).2.2):=by
  unfold M.je;rw[wF];rfl
 unfold M.gp;rw[lm,aoy]
 rcases Jo e with h|⟨st,w⟩
 .rw[aj (by simpa using h)];exact⟨_,[],rfl,by simp,λn h=>by cases h⟩
 .have pC:0<e.length:=List.length_pos_iff.2 w.ne;have hle:=w.le;rw[w.res,ai (by simp),show aoz.wrap ((e.length:Int)-1)=((e.length-1:Nat):Int) by rw[aE (by omega) (by omega)];omega];unfold M.im;rw[AH w e.length (e.length-1) aG (by omega) (by omega) (by unfold aG;omega) [] 0 (by simp;omega),aoy];have Xx:=Q4 w (f:=e.length) (i:=e.length-1) (b:=0) (d:=0) (by omega);refine⟨_,_,rfl,by simpa using Xx,λn hn=>?_⟩;rw[List.nil_append]at hn;obtain⟨x,hx,rfl⟩:=apY.1 hn
  rcases U2 w e.length (e.length-1) 0 0 (by omega) x hx with h|⟨h1,m,h2,h3⟩
  .exact hw _ h
  .obtain⟨⟨(op:Int),(z:Int)⟩,_⟩:=x;dsimp only[aB,Row.den]at*
   have h3':m<=96:=by
    rw[apn]at h3;exact Nat.le_trans h3 Xx
   refine⟨⟨?_,?_⟩,⟨?_,?_⟩⟩
   .show(-9223372036854775808:Int)<=op;omega
   .show op<=(9223372036854775807:Int);omega
   .show(-9223372036854775808:Int)<=z;omega
   .show z<=(9223372036854775807:Int);omega
theorem Np(e:List Ty)(hw:∀n∈e,WF aA n):∃y,M.cx aG e=aa y/\M.n5 aG e=aa y/\y.length<=1000:=by
 unfold M.n5 M.cx;by_cases h:(e.length:Int)=0
 .rw[aj (ao h),aj (ao h)];exact⟨_,rfl,rfl,by simp⟩
 .rw[ai (by simpa using h),ai (by simpa using h),Ec];obtain⟨c,code,ec,hl,hwc⟩:=Jp e hw;obtain⟨x,y,z,_,_,_,e1,e2,e3⟩:=Bv (by omega) hwc;rw[ec,aoy,aoy];dsimp only;rw[e1,e2];exact⟨z,rfl,rfl,e3⟩
end L.P.Q
namespace L
noncomputable def uT:List aU.den:=(M.pj aG ([((3:Int),(100:Int)),((3:Int),(200:Int)),((11:Int),(0:Int))]:List aA.den)).getD []
noncomputable def tJ:Lw:=(([]:List bA.den),(([]:List aP.den),uT))
theorem T5:M.pj aG ([((3:Int),(100:Int)),((3:Int),(200:Int)),((11:Int),(0:Int))]:List aA.den)=aa uT:=by kernel_rfl
theorem Jq:M.jz aG tJ 0=aa (tJ.1,tJ.2.1.map (kH · 0),tJ.2.2.map (gR · 0)):=by
 have e1:(uT.map λx=>decide (x.1.size<=80/\x.2.2.1.length=1/\x.2.2.2.1.length=1/\x.2.2.2.2.length=1))=[af]:=by kernel_rfl
 have e2:(uT.map λx=>x.2.2.1.map λf=>decide (f.1.size<=80))=[[af]]:=by kernel_rfl
 have e3:(uT.map λx=>x.2.2.2.1.map λf=>decide (f.1.size<=80))=[[af]]:=by kernel_rfl
 have e4:(uT.map λx=>x.2.2.2.2.map λr=>decide (r.1.size<=80/\r.2.2.2.2.2.2.2.size<=80/\r.2.2.2.2.2.1.length<=50/\r.2.2.2.2.2.2.1.length<=50/\(r.2.2.1:Int)= -1))=[[af]]:=by kernel_rfl
 obtain⟨x,hx⟩:∃x,uT=[x]:=by
  have:=aw List.length e1;rw[ao5]at this;exact aqm.1 this
 have hL:tJ=(([]:List bA.den),(([]:List aP.den),[x])):=by unfold tJ;rw[hx]
 rw[hx]at e1 e2 e3 e4;simp only[aqi,List.map_nil,ap5,and_true,ax]at e1 e2 e3 e4;obtain⟨a1,a2,a3,a4⟩:=e1;obtain⟨f,hf⟩:=aqm.1 a2;obtain⟨g,hg⟩:=aqm.1 a3;obtain⟨r,hr⟩:=aqm.1 a4;rw[hf]at e2;rw[hg]at e3;rw[hr]at e4;simp only[aqi,List.map_nil,ap5,and_true,ax]at e2 e3 e4;obtain⟨b1,b2,b3,b4,b5⟩:=e4
 have hp:∀y∈tJ.2.2,oP y.2.2.2.2:=λy hy=>by
  rw[hL]at hy;rw[aoY.1 hy];intro i hi;rw[hr]at hi
  have e:i=0:=by simp at hi;omega
  subst e
  left
  simp only[hr,List.getElem_cons_zero];exact b5
 refine Gf tJ 0 ?_ ?_ hp
 .rw[hL];refine⟨λe he=>(by cases he),λe he=>(by cases he),λs hs r' yZ=>?_,by simp,by simp,by simp,λs hs=>?_⟩
  .rw[aoY.1 hs,hr]at yZ;rw[aoY.1 yZ];exact⟨by omega,by omega⟩
  .rw[aoY.1 hs];exact⟨by omega,by omega,by omega⟩
 .rw[hL];refine⟨by simp,by simp,by simp,λe he=>(by cases he),λe he=>(by cases he),λs hs=>?_⟩;rw[aoY.1 hs];refine⟨a1,by omega,by omega,by omega,λy hy=>?_,λy hy=>?_,λy hy=>?_⟩
  .rw[hf]at hy;rw[aoY.1 hy];exact e2
  .rw[hg]at hy;rw[aoY.1 hy];exact e3
  .rw[hr]at hy;rw[aoY.1 hy];exact⟨b1,b2,b3,b4⟩
noncomputable def Ha:List jC×List Int×List (List Ty)×List (List Ty):=((gR (uT.headD (⟨#[]⟩,((0:Int),([],([],[]))))) 0).2.2.2.2,[0],[[]],[[((3:Int),(300:Int))]])
theorem AI:M.dX aG tJ 0 0=aa Ha:=by
 unfold M.dX;rw[Jq]
 show(_:Option (List jC×List Int×List (List Ty)×List (List Ty)))=_
 kernel_rfl
theorem Ed:M.fW aG tJ 0 0=aa (uT.headD (⟨#[]⟩,((0:Int),([],([],[])))),(Ha.2.1,(Ha.1,(Ha.2.2.1,Ha.2.2.2))),[0]):=by
 unfold M.fW;rw[AI]
 kernel_rfl
theorem T6:M.oI aG=aa af:=by
 unfold M.oI;rw[T5,aoy];have e:(([]:List bA.den),(([]:List aP.den),uT))=tJ:=rfl;rw[e];unfold M.gr M.rM;rw[AI,Ed]
 show(_:Option Bool)=_
 kernel_rfl
end L
namespace L
theorem vw(l:List Ty)(h:l.length<=100000):M.mn aG l l=aa af:=by
 unfold M.mn;rw[ai (by simp)];exact wb (m:=l.length) (by omega) (λk hk=>by simp only[dW hk,aD hk,aoy,if_true,zW,aoX,aoC,if_false]) (by simp only[dB,decide_false,aoC,if_false,aoy])
theorem Nq(l:List Int)(h:l.length<=100000):M.ud aG l l=aa af:=by
 unfold M.ud;rw[ai (by simp)];exact wb (m:=l.length) (by omega) (λk hk=>by simp only[dW hk,aD hk,aoy,if_true,decide_true,aoX,aoC,if_false]) (by simp only[dB,decide_false,aoC,if_false,aoy])
theorem AJ(l:List (List Ty))(h:l.length<=100000)(hm:∀r∈l,r.length<=100000):M.pM aG l l=aa af:=by
 unfold M.pM;rw[ai (by simp)];exact wb (m:=l.length) (by omega) (λk hk=>by simp only[dW hk,aD hk,aoy,if_true,vw _ (hm _ (aoG hk)),aoX,aoC,if_false]) (by simp only[dB,decide_false,aoC,if_false,aoy])
theorem Nr(r:jC)(h1:r.2.2.2.2.2.1.length<=100000)(h2:r.2.2.2.2.2.2.1.length<=100000):M.ue aG r r=aa af:=by
 unfold M.ue;simp only[decide_true,if_true,zW,aoy,vw _ h1,vw _ h2]
theorem Jr(l:List jC)(h:l.length<=100000)(hm:∀r∈l,r.2.2.2.2.2.1.length<=100000/\r.2.2.2.2.2.2.1.length<=100000):M.rT aG l l=aa af:=by
 unfold M.rT;rw[ai (by simp)];exact wb (m:=l.length) (by omega) (λk hk=>by simp only[dW hk,aD hk,aoy,if_true,Nr _ (hm _ (aoG hk)).1 (hm _ (aoG hk)).2,aoX,aoC,if_false]) (by simp only[dB,decide_false,aoC,if_false,aoy])
theorem wI{O:List Int}{R:List jC}{G V:List (List Ty)}(h1:O.length<=100000)(h2:R.length<=100000)(h3:∀r∈R,r.2.2.2.2.2.1.length<=100000/\r.2.2.2.2.2.2.1.length<=100000)(h4:G.length<=100000)(h5:∀r∈G,r.length<=100000)(h6:V.length<=100000)(h7:∀r∈V,r.length<=100000):
 M.lc aG (O,(R,(G,V))) (O,(R,(G,V)))=aa af:=by
 unfold M.lc;simp only[Nq _ h1,Jr _ h2 h3,AJ _ h4 h5,AJ _ h6 h7,aoy,if_true]
noncomputable def cd(e:List Ty):List Ty:=(M.cx aG e).getD []
theorem La{e:List Ty}(hw:∀n∈e,WF aA n):M.cx aG e=aa (cd e)/\M.n5 aG e=aa (cd e)/\(cd e).length<=1000:=by
 obtain⟨y,h1,h2,h3⟩:=P.Q.Np e hw
 have e1:cd e=y:=by unfold cd;rw[h1];rfl
 rw[e1];exact⟨h1,h2,h3⟩
theorem AK{R:List jC}{o:List Int}{body:Int×(List jC)×(List Int)×(List (List Ty))×List (List Ty)->Option ((Int×(List jC)×(List Int)×(List (List Ty))×List (List Ty))⊕((List jC)×(List Int)×(List (List Ty))×List (List Ty)))}(hR:R.length<=1000)
 (hb:∀k(h:k<R.length)(G V:List (List Ty)),G.length=k->V.length=k->body ((k:Int),R,o,G,V)=aa (.inl (aoz.wrap ((k:Int)+1),R,o,G++[cd R[k].2.2.2.2.2.1],V++[cd R[k].2.2.2.2.2.2.1])))
 (he:∀G V:List (List Ty),body ((R.length:Int),R,o,G,V)=aa (.inr (R,o,G,V))):Loop body aG ((0:Int),R,o,([]:List (List Ty)),([]:List (List Ty)))=aa (R,o,R.map (λr=>cd r.2.2.2.2.2.1),R.map (λr=>cd r.2.2.2.2.2.2.1)):=by
 apply Wp.eq
 refine Wp.count (λs=>s.1) R.length (λk s=>s.2=(R,o,(R.take k).map (λr=>cd r.2.2.2.2.2.1),(R.take k).map (λr=>cd r.2.2.2.2.2.2.1))) (by omega) rfl rfl λk s hk hs hJ=>?_
 obtain⟨c,s⟩:=s;dsimp only at hs hJ;subst hs hJ;by_cases aJ:k<R.length
 .rw[hb k aJ _ _ (by simp;omega) (by simp;omega)];refine .some ⟨aJ,bX (m:=R.length) (by omega) aJ,?_⟩;dsimp only;rw[apS,aoA aJ,apj,apj];rfl
 .obtain rfl:k=R.length:=by omega
  rw[he,ao3];exact .some rfl
theorem Ns(l:Lw)(hw:WF cQ l)(oC:lE l):M.om aG l=aa (decide (Valid l)):=by
 unfold M.om;rw[S4 l hw oC,aoy];exact aw aa (decide_eq_decide.2 Iff.rfl)
theorem Hb(l:Lw)(hw:WF cQ l)(oC:lE l)(at_ d:Int):∃p,M.gr aG l at_ d=aa p/\M.oy aG l at_ d=aa p/\M.lc aG (p.2.2.1,(p.1,(p.2.2.2.1,p.2.2.2.2))) (p.2.2.1,(p.1,(p.2.2.2.1,p.2.2.2.2)))=aa af:=by
 have nil:M.lc aG (([]:List Int),(([]:List jC),(([]:List (List Ty)),([]:List (List Ty))))) (([]:List Int),(([]:List jC),(([]:List (List Ty)),([]:List (List Ty)))))=aa af:=
  wI (by simp) (by simp) (λr h=>by cases h) (by simp) (λr h=>by cases h) (by simp) (λr h=>by cases h)
 unfold M.gr M.oy;rw[S9 l hw oC,Ns l hw oC,aoy,aoy];by_cases hv:Valid l
 rotate_left
 .rw[aj (by simpa using(show¬(sF l).1=0 from hv)),aj (by simpa using hv)];exact⟨_,rfl,rfl,nil⟩
 rw[ai (show¬(!decide ((sF l).1=0))=af by simpa using(show(sF l).1=0 from hv)),ai (show¬(!decide (Valid l))=af by simpa using hv)]
 obtain⟨j,hj⟩:∃j,((if(decide (at_<(0:Int)))=af then aa af else aa (decide ((l.2.2.length:Int)<=at_))):Option Bool)=aa j/\(j=ag->0<=at_/\at_<(l.2.2.length:Int)):=by
  by_cases g:at_<0
  .rw[aj (ao g)];exact⟨_,rfl,λh=>by cases h⟩
  .rw[ai (by simpa using g)];exact⟨_,rfl,λh=>by have:=al h;omega⟩
 rw[hj.1,aoy,aoy]
 cases j with
 |true=>rw[aj (rfl:af=af),aj (rfl:af=af)];exact⟨_,rfl,rfl,nil⟩
 |false=>
 rw[ai aqo,ai aqo]
 obtain⟨j,yk⟩:∃j,((if(decide (d<(0:Int)))=af then aa af else aa (decide ((109572:Int)<d))):Option Bool)=aa j:=by
  by_cases g:d<0
  .rw[aj (ao g)];exact⟨_,rfl⟩
  .rw[ai (by simpa using g)];exact⟨_,rfl⟩
 rw[yk,aoy,aoy]
 cases j with
 |true=>rw[aj (rfl:af=af),aj (rfl:af=af)];exact⟨_,rfl,rfl,nil⟩
 |false=>
 rw[ai aqo,ai aqo];have hb:=hj.2 rfl;obtain⟨k,rfl⟩:=aoU hb.1
 have hk:k<l.2.2.length:=by omega
 have hm:=hv.agT oC
 have hp:∀x∈l.2.2,oP x.2.2.2.2:=λx hx=>by
  obtain⟨i,hi,rfl⟩:=aoS hx;exact IU (hv.scope i hi).2.2.2.2.2.2.1
 have sq:=oC.2.2.2.2.2 _ (aoG hk);have hsc:=hv.scope k hk;have MH:=hw.2.2.2 _ (aoG hk);have HO:=hp _ (aoG hk);unfold M.dX;rw[aD hk,Gf l d hm oC hp,I1 l d hm oC]
 have Be:idx (l.2.2.map (gR · d)) (k:Int)=aa (gR l.2.2[k] d):=by rw[aD (show k<(l.2.2.map (gR · d)).length by simpa using hk),apB]
 simp only[aoy,Be]
 obtain⟨x,hx⟩:∃x,x=l.2.2[k]:=⟨_,rfl⟩
 rw[<-hx]at sq hsc MH HO⊢
 obtain⟨o,e1,e2,e3⟩:∃o,M.fL aG x=aa ((0:Int),o)/\uD x o/\o.length=x.2.2.2.1.length:=by
  obtain⟨r,er,o,h1,h2,hr⟩:=P9 x sq
  have jJ:=MR h1 h2 λd hd hc=>hsc.2.2.2.2.2.2.2 d hd ((yM x d d).2 hc)
  rw[ai (by omega)]at hr;subst hr;exact⟨o,er,h1,jJ⟩
 rw[e1,MS sq e2 e3];simp only[aoy];have hR:(gR x d).2.2.2.2=cK x.2.2.2.2 d:=rfl;rw[hR];have WN:=sq.2.2.2.1;have Rq:=sq.2.2.1
 have hRl:(cK x.2.2.2.2 d).length<=60:=by
  rw[oQ];have:=(rk d x.2.2.2.2).2.1;omega
 have hRw:∀y∈cK x.2.2.2.2 d,(∀n∈y.2.2.2.2.2.1,WF aA n)/\(∀n∈y.2.2.2.2.2.2.1,WF aA n)/\y.2.2.2.2.2.1.length<=100000/\y.2.2.2.2.2.2.1.length<=100000:=λy hy=>by
  obtain⟨r,hr,p,e,_⟩:=xT d HO hy;have NE:=MH.2.2.2.2.2 _ hr;have Dw:=sq.2.2.2.2.2.2 _ hr;subst e;exact⟨NE.2.2.2.2.2.1.2,NE.2.2.2.2.2.2.1.2,by have:=Dw.2.2.1;show r.2.2.2.2.2.1.length<=_;omega,by have:=Dw.2.2.2;show r.2.2.2.2.2.2.1.length<=_;omega⟩
 generalize cK x.2.2.2.2 d=R at*
 have f1:=λk(h:k<R.length)=>La (hRw _ (aoG h)).1
 have f2:=λk(h:k<R.length)=>La (hRw _ (aoG h)).2.1
 refine⟨(R,0,o,R.map (λr=>cd r.2.2.2.2.2.1),R.map (λr=>cd r.2.2.2.2.2.2.1)),?_,?_,?_⟩
 .rw[AK (R:=R) (o:=o) (by omega) (λk h G V hG hV=>by
   dsimp only
   rw[dW h,aj rfl,aD h,aoy,(f1 k h).1,aoy,bF (by simp;omega),aoy,(f2 k h).1,aoy,bF (by simp;omega),aoy]) (λG V=>by simp only[dB,decide_false,aoC,if_false])]
  rfl
 .rw[AK (R:=R) (o:=o) (by omega) (λk h G V hG hV=>by
   dsimp only
   rw[dW h,aj rfl,aD h,aoy,(f1 k h).2.1,aoy,bF (by simp;omega),aoy,aoy,(f2 k h).2.1,aoy,bF (by simp;omega),aoy]) (λG V=>by simp only[dB,decide_false,aoC,if_false])]
  rfl
 .dsimp only;refine wI (by omega) (by omega) (λr h=>(hRw r h).2.2) (by simp;omega) (λy h=>?_) (by simp;omega) (λy h=>?_)
  .obtain⟨r,hr,rfl⟩:=apY.1 h;have:=(La (hRw r hr).1).2.2;omega
  .obtain⟨r,hr,rfl⟩:=apY.1 h;have:=(La (hRw r hr).2.1).2.2;omega
theorem tK(l:Lw)(scope date:Int)(hw:WF cQ l)(_:WF aB scope)(_:WF aB date):M.jM aG l scope date=aa af:=by
 apply Wp.eq;unfold M.jM;refine(Wp.bind ((MG l hw).mono λy hy=>?_));rw[T6]
 cases y with
 |false=>rw[aj (by decide)];exact .some rfl
 |true=>
 rw[ai (by decide)];obtain⟨p,e1,e2,e3⟩:=Hb l hw (hy rfl) scope date;rw[e1,e2,aoy,aoy,e3,aoy,aj rfl,aj (ao rfl)];exact .some rfl
end L
end Go.Proofs.YtfjgcenlllgonaaGreatDoor
