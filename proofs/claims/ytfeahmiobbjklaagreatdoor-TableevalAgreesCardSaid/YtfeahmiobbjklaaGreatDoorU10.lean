/- Joined texts: TV TW TX TY TZ TQ TR RY RZ PV PT PT2. -/
import Derived.Test.YtfeahmiobbjklaaGreatDoorU9
import Derived.Test.YtfeahmiobbjklaaGreatDoorU8
import Derived.Test.YtfeahmiobbjklaaGreatDoorU1
set_option linter.defProp false
open _root_.Bool renaming false->ah,true->af,false_eq_true->aiK,not_true->ajR,and_eq_true->ajB
open _root_.Option renaming some->aa,bind_some->aiA,none->ae
open _root_.Int renaming eq_ofNat_of_zero_le->aiL,toNat_natCast->aiI,le_refl->ajz,tdiv->aiR,tmod->ai3
open _root_.List renaming getElem?_eq_getElem->aiE,getElem_mem->aiF,length_map->ajn,mem_filter->aji,range->aiM,take_append_getElem->aiU,mem_append->aiX,mem_singleton->aiZ,replicate->aiG,getElem_append_left->ajq,length_take->ai5,getElem?_append_left->ajw,getElem?_take->ajf,getElem_of_mem->aiV,countP_eq_zero->aj5,drop_eq_getElem_cons->aiN,mem_cons->ai7,pairwise_cons->aiT
open _root_.Nat renaming le_refl->aiH,le_trans->ai4,beq->aiJ,div_div_eq_div_mul->aj0,mul_le_mul_right->aiS,pow_add->aj2
open _root_.Go.IntKind renaming i64->aiB,u64->aiD
open _root_.Sum renaming inr->ajy
open _root_.ByteArray renaming empty->ajO
open _root_.Option.some renaming inj->aiC
namespace Go.Proofs.YtfeahmiobbjklaaGreatDoor
open Go Go.RowKit
set_option maxRecDepth 100000
set_option linter.unusedSimpArgs false
set_option linter.unusedVariables false
set_option linter.defProp false
namespace L
def Ra(r:Ty)(d:Int):Prop:=VR r/\(r.1:Int)<=d/\d<(r.2:Int)
instance(r:Ty)(d:Int):Decidable (Ra r d):=by unfold Ra;infer_instance
theorem Tv(r:Ty)(d:Int):M.cP aU r d=aa (decide (Ra r d)):=by
 obtain⟨(r1:Int),(r2:Int)⟩:=r;apply Wp.eq;unfold M.cP;simp only[FU,W_,au,av,reduceCtorEq];unfold Ra
 grind
def xf{α:Type}{l:List α}{i:Int}(h0:0<=i)(h1:i<(l.length:Int)):∃x,idx l i=aa x/\x∈l:=by
 obtain⟨k,rfl⟩:=aiL h0
 have hk:k<l.length:=by omega
 exact⟨_,aC hk,aiF hk⟩
def b7{α:Type}(l:List α)(i:Int)(y:α):(bg l i y).length=l.length:=by unfold bg;simp
def ids(P:Nat->Bool)(k:Nat):List Int:=((aiM k).filter P).map λi:Nat=>(i:Int)
theorem ng(P:Nat->Bool)(k:Nat):ids P (k+1)=ids P k++(if P k=af then[(k:Int)]else[]):=by
 unfold ids;rw[List.range_succ,List.filter_append,List.map_append]
 grind
theorem sY{P:Nat->Bool}{k:Nat}{j:Int}:j∈ids P k↔∃i:Nat,i<k/\P i=af/\j=(i:Int):=by
 grind [ids]
def nK(P:Nat->Bool)(k:Nat):(ids P k).length<=k:=by
 grind [ids]
def ix(l:List Int)(n:Int):Int:=ff (λx=>decide (x=n)) l
theorem Tw{l:List Int}{n:Int}:0<=ix l n↔n∈l:=by
 grind [ix,fW]
def Dn(P:Nat->Bool)(n:Nat):∀m,∃t,ids P (n+m)=ids P n++t
 |0=>⟨[],by simp⟩
 |m+1=>by
  obtain⟨t,ht⟩:=Dn P n m
  grind [ng]
theorem Tx{P:Nat->Bool}{n k:Nat}(hk:k<n)(h:P k=af):ix (ids P n) (k:Int)=((ids P k).length:Int):=by
 obtain⟨t,ht⟩:=Dn P (k+1) (n-(k+1));rw[show k+1+(n-(k+1))=n by omega,ng,al h,List.append_assoc]at ht;unfold ix
 refine sQ (k:=(ids P k).length) (by rw[ht];simp) ?_ λj hj Oh=>?_
 .grind
 grind [sY,aiF]
def Gd(rules:List fZ)(L:List Int):Nat->Nat->Int
 |0,_=> -1
 |f+1,i=>match rules[i]? with
  |none=> -1
  |some r=>if 0<=(r.2.2.1:Int)/\(r.2.2.1:Int)<(i:Int)then(if 0<=ix L r.2.2.1 then ix L r.2.2.1 else Gd rules L f (r.2.2.1:Int).toNat)else-1
def zw(rules:List fZ)(L:List Int):∀f f' i,i<f->i<f'->Gd rules L f i=Gd rules L f' i
 |0,_,_,h,_=>absurd h (Nat.not_lt_zero _)
 |_+1,0,_,_,h=>absurd h (Nat.not_lt_zero _)
 |f+1,f'+1,i,h,h'=>by
  unfold Gd
  cases rules[i]? with
  |none=>rfl
  |some r=>
   dsimp only
   obtain⟨(p:Int),Tz⟩:∃p:Int,p=r.2.2.1:=⟨_,rfl⟩
   simp only[<-Tz];by_cases hp:0<=p/\p<(i:Int)
   .rw[al hp,al hp];by_cases h0:0<=ix L p
    .grind
    .rw[aj h0,aj h0];exact zw rules L f f' _ (by omega) (by omega)
   grind
def uv(rules:List fZ)(L:List Int)(i:Nat):Int:=Gd rules L (i+1) i
def Hq{rules:List fZ}{L:List Int}{i:Nat}(hi:i<rules.length):uv rules L i=if 0<=(rules[i].2.2.1:Int)/\(rules[i].2.2.1:Int)<(i:Int)then(if 0<=ix L rules[i].2.2.1 then ix L rules[i].2.2.1 else uv rules L (rules[i].2.2.1:Int).toNat)else-1:=by
 show Gd rules L (i+1) i=_
 unfold Gd;rw[aiE hi];dsimp only
 obtain⟨(p:Int),Tz⟩:∃p:Int,p=rules[i].2.2.1:=⟨_,rfl⟩
 simp only[<-Tz];by_cases hp:0<=p/\p<(i:Int)
 .rw[al hp,al hp];by_cases h0:0<=ix L p
  .grind
  .rw[aj h0,aj h0];exact zw rules L _ _ _ (by omega) (by omega)
 grind
def M2(r:Ty)(d:Int):M.mW aU r d=aa (decide (Ra r d)):=by
 obtain⟨(r1:Int),(r2:Int)⟩:=r;apply Wp.eq;unfold M.mW;simp only[Wq,W_,au,av,reduceCtorEq];unfold Ra
 grind
def Ge(l:List Int)(n:Int)(hl:l.length<=100000):M.pZ aU l n=aa (ix l n):=by
 unfold M.pZ ix;refine sR (by unfold maxLen;omega) (λk h=>?_) ?_
 .grind [aC]
 grind
def Dq(x:fY)(L:List Int)(hL:L.length<=100000)(i:Nat)(hi:i<x.2.2.2.2.length)(kF:i<=100000):M.oX aU x L (i:Int)=aa (uv x.2.2.2.2 L i):=by
 obtain⟨rules,hr⟩:∃r:List fZ,r=x.2.2.2.2:=⟨_,rfl⟩
 apply Wp.eq;unfold M.oX;rw[<-hr]at hi⊢;rw[aC hi,aiA];refine Wp.loop (λs=>∃j:Nat,∃hj:j<rules.length,s=((j:Int),rules[j].2.2.1)/\uv rules L i=uv rules L j/\j<=i) (λs=>s.1.toNat) ⟨i,hi,rfl,rfl,aiH _⟩ (by unfold aU;grind) ?_
 rintro s ⟨j,hj,rfl,hp,hji⟩
 dsimp only
 obtain⟨(p:Int),Tz⟩:∃p:Int,p=rules[j].2.2.1:=⟨_,rfl⟩
 rw[hp,Hq hj,<-Tz]
 refine Wp.seq (λb=>b=decide (0<=p/\p<(j:Int))) ?_ λb hb=>?_
 .refine Wp.dec (λh=> .some ?_) λh=> .some ?_
  all_goals grind
 .subst hb
  refine Wp.dec (λh=>?_) λh=> .some ?_
  .rw[al h,Ge _ _ hL,aiA]
   refine Wp.dec (λg=> .some ?_) λg=>?_
   .show ix L p=_
    rw[al g]
   .obtain⟨q,rfl⟩:=aiL h.1
    have hq:q<j:=by omega
    have Gf:q<rules.length:=by omega
    rw[aC Gf,aiA];refine .some ⟨⟨q,Gf,rfl,?_,by omega⟩,by grind⟩
    grind
  .show(-1:Int)=_
   rw[aj h]
def kp(rules:List fZ)(Pr:fZ->Bool)(i:Nat):Bool:=match rules[i]? with
 |some r=>Pr r
 |none=>ah
def Hr{rules:List fZ}{Pr:fZ->Bool}{i:Nat}(h:i<rules.length):kp rules Pr i=Pr rules[i]:=by
 grind [kp]
def Bc(a d:Int)(r:fZ):Bool:=decide ((r.2.1:Int)=a/\Ra r.2.2.2.2.1 d)
def dH(rules:List fZ)(a d:Int):List Int:=ids (kp rules (Bc a d)) rules.length
theorem TA{r:fZ}{a d:Int}{β:Type}{k:Bool->Option β}:(((if(decide (r.2.1=a))=af then(aa (decide (Ra r.2.2.2.2.1 d)):Option Bool)else aa ah):Option Bool).bind k)=k (Bc a d r):=by
 grind [Bc]
def WK(a d:Int)(r:fZ):M.fa aU r a d=aa (Bc a d r,a,d):=by
 grind [M.fa,Tv,TA]
def jN(P:Nat->Bool)(n:Nat):List Nat:=(aiM n).filter P
def zx(P:Nat->Bool)(k:Nat):jN P (k+1)=jN P k++(if P k=af then[k]else[]):=lb k P
def Dr(P:Nat->Bool)(k:Nat):(jN P k).length=(ids P k).length:=by unfold ids jN;simp
def cy(rules:List fZ)(a d:Int):List Int:=(jN (kp rules (Bc a d)) rules.length).map (uv rules (dH rules a d))
def dq(rules:List fZ)(a d:Int):List Int:=(jN (kp rules (Bc a d)) rules.length).map λi=>match rules[i]? with
 |some r=>r.2.2.2.1
 |none=>0
def M3{rules:List fZ}{a d:Int}(hl:rules.length<=100000):M.fb aU rules a d=aa (a,d,dH rules a d,cy rules a d):=by
 unfold M.fb;refine Wp.eq (wp_bind.2 (nc.2 ⟨by omega,?_⟩));rw[aiI]
 obtain⟨P,hP⟩:∃P,P=kp rules (Bc a d):=⟨_,rfl⟩
 obtain⟨L,hL⟩:∃L,L=dH rules a d:=⟨_,rfl⟩
 have hLd:L=ids P rules.length:=by rw[hL,hP];rfl
 refine Wp.count (λs=>s.1) rules.length (λk s=>s.2.1=a/\s.2.2.1=d/\s.2.2.2.1.length=rules.length/\(∀i:Nat,∀h:i<s.2.2.2.1.length,i<k->s.2.2.2.1[i]=if P i=af then ix L i else uv rules L i)/\s.2.2.2.2.1=ids P k/\s.2.2.2.2.2=(jN P k).map (uv rules L)) (by omega) rfl ⟨rfl,rfl,by simp,λi _ hi=>absurd hi (by omega),rfl,rfl⟩ λk s hk hs hJ=>?_
 obtain⟨i,a',d',TB,li,pa⟩:=s;obtain⟨j1,j2,j3,j4,j5,j6⟩:=hJ;dsimp only at hs j1 j2 j3 j4 j5 j6;subst hs j1 j2 j5 j6
 refine Wp.dec (λaH=>?_) λhge=>?_
 .have aH:k<rules.length:=by dsimp only at aH;omega
  have JW:=nK P k;have CE:=Dr P k;dsimp only
  refine Wp.seq (λj=>j.1=a'/\j.2.1=d'/\j.2.2.1.length=rules.length/\(∀i:Nat,∀h:i<j.2.2.1.length,i<k+1->j.2.2.1[i]=if P i=af then ix L i else uv rules L i)/\j.2.2.2.1=ids P (k+1)/\j.2.2.2.2=(jN P (k+1)).map (uv rules L)) ?_ λj hj=> .some ⟨aH,cK (m:=rules.length) (by omega) aH,hj⟩
  rw[aC aH,aiA]
  obtain⟨(p:Int),Tz⟩:∃p:Int,p=rules[k].2.2.1:=⟨_,rfl⟩
  refine Wp.seq (λv=>v=uv rules L k) ?_ λv hv=>?_
  .rw[Hq aH,<-Tz]
   refine Wp.seq (λj=>j=decide (0<=p/\p<(k:Int))) ?_ λj hj=>?_
   .refine Wp.dec (λh=> .some ?_) λh=> .some ?_
    all_goals grind
   .subst hj
    refine Wp.dec (λh=>?_) λh=> .some ?_
    .obtain⟨q,rfl⟩:=aiL h.1
     have hq:q<k:=by omega
     have Gf:q<TB.length:=by omega
     rw[aC Gf,aiA];refine .some ?_
     grind [Tw,sY]
    grind
  .subst hv;rw[aC (show k<TB.length by omega),aiA,WK,aiA,ng,zx]
   have hPk:P k=Bc a' d' rules[k]:=by rw[hP];exact Hr aH
   rw[hPk];dsimp only;by_cases hp:Bc a' d' rules[k]=af
   .rw[al hp,al hp,al hp,aC (show k<(bg TB (k:Int) (uv rules L k)).length by rw[b7];omega),aiA,eJ (by simp;omega),aiA,eJ (by simp;omega),aiA];refine .some ⟨rfl,rfl,by rw[b7,b7];exact j3,λi h hi=>?_,rfl,by simp⟩
    grind [bg,Tx]
   .rw[aj hp,aj hp,aj hp];refine .some ⟨rfl,rfl,by rw[b7];exact j3,λi h hi=>?_,by simp,by simp⟩
    grind [bg]
 .have hge:k=rules.length:=by dsimp only at hge;omega
  refine .some ?_;subst hge
  show _=_
  grind [cy]
def zy(x:fY)(a d:Int)(hl:x.2.2.2.2.length<=100000):M.gC aU x a d=aa (dH x.2.2.2.2 a d,cy x.2.2.2.2 a d,dq x.2.2.2.2 a d):=by
 unfold M.gC;rw[M3 hl,aiA]
 obtain⟨rules,hr⟩:∃r:List fZ,r=x.2.2.2.2:=⟨_,rfl⟩
 rw[<-hr]at hl⊢
 obtain⟨P,hP⟩:∃P,P=kp rules (Bc a d):=⟨_,rfl⟩
 have hi:dH rules a d=(jN P rules.length).map λi:Nat=>(i:Int):=by rw[hP];rfl
 have hNl:(jN P rules.length).length<=rules.length:=by unfold jN;exact(by grind)
 refine Wp.eq (Wp.seq (λj=>j=dq rules a d) ?_ λj hj=> .some (by rw[hj]));unfold dq;dsimp only;rw[hi,<-hP]
 have tJ:∀i∈jN P rules.length,i<rules.length:=λi hi=>List.mem_range.1 (aji.1 hi).1
 refine Wp.count (λs=>s.1) (jN P rules.length).length (λk s=>s.2=((jN P rules.length).take k).map λi=>match rules[i]? with
  |some r=>r.2.2.2.1
  |none=>0) (by omega) rfl rfl λk s hk hs hJ=>?_
 obtain⟨kk,l⟩:=s;dsimp only at hs hJ⊢;subst hs hJ;rw[ajn]
 refine Wp.dec (λaH=>?_) λhge=>?_
 .have aH:k<(jN P rules.length).length:=by omega
  have hb:=tJ _ (aiF aH);refine .bind (.idx k rfl (by simpa using aH) ?_);rw[List.getElem_map,aC hb,aiA];refine .bind (.ub (by simp;omega) (.some ⟨aH,aQ (by omega),?_⟩))
  grind [aiU]
 .have:k=(jN P rules.length).length:=by omega
  subst this;refine .some ?_
  show _=_
  grind
def yp(x:fY)(a d:Int)(hl:x.2.2.2.2.length<=100000):M.nS aU x a d=aa (dH x.2.2.2.2 a d):=by
 unfold M.nS dH
 obtain⟨rules,hr⟩:∃r:List fZ,r=x.2.2.2.2:=⟨_,rfl⟩
 rw[<-hr]at hl⊢;refine Wp.eq (Wp.count (λs=>s.1) rules.length (λk s=>s.2=ids (kp rules (Bc a d)) k) (by omega) rfl rfl λk s hk hs hJ=>?_);obtain⟨kk,l⟩:=s;dsimp only at hs hJ⊢;subst hs hJ
 refine Wp.dec (λaH=>?_) λhge=> .some ?_
 .have aH:k<rules.length:=by omega
  have JW:=nK (kp rules (Bc a d)) k
  refine Wp.seq (λj=>j=ids (kp rules (Bc a d)) (k+1)) ?_ λj hj=> .some ⟨aH,aQ (by omega),hj⟩
  rw[ng,Hr aH]
  refine Wp.seq (λb=>b=Bc a d rules[k]) (.bind (.idx k rfl aH ?_)) λb hb=>?_
  .unfold Bc;by_cases h:(rules[k].2.1:Int)=a
   .rw[al (by simpa using h),aC aH,aiA,M2,aiA];refine .some ?_;simp[h]
   .rw[aj (by simpa using h)];refine .some ?_;simp[h]
  .subst hb;refine .ite (λh=> .bind (.ub (by simp;omega) (.some ?_))) (λh=> .some ?_)
   all_goals grind
 .have:k=rules.length:=by omega
  subst this;rfl
def M4(x:fY)(a d:Int)(hl:x.2.2.2.2.length<=100000):M.oY aU x a d=aa (dH x.2.2.2.2 a d,cy x.2.2.2.2 a d,dq x.2.2.2.2 a d):=by
 unfold M.oY;rw[yp x a d hl,aiA]
 have MH:=λL(hL:L.length<=100000)i hi kF=>Dq x L hL i hi kF
 obtain⟨rules,hr⟩:∃r:List fZ,r=x.2.2.2.2:=⟨_,rfl⟩
 rw[<-hr]at hl MH⊢
 obtain⟨P,hP⟩:∃P,P=kp rules (Bc a d):=⟨_,rfl⟩
 obtain⟨L,hL⟩:∃L,L=dH rules a d:=⟨_,rfl⟩
 have XV:L.length<=100000:=by rw[hL];exact ai4 (nK _ _) hl
 have hi:dH rules a d=(jN P rules.length).map λi:Nat=>(i:Int):=by rw[hP];rfl
 have hNl:(jN P rules.length).length<=rules.length:=by unfold jN;exact(by grind)
 have tJ:∀i∈jN P rules.length,i<rules.length:=λi hi=>List.mem_range.1 (aji.1 hi).1
 refine Wp.eq (Wp.seq (λj=>j=(cy rules a d,dq rules a d)) ?_ λj hj=> .some (by rw[hj]));unfold cy dq;rw[<-hP,<-hL]
 have WL:L=(jN P rules.length).map λi:Nat=>(i:Int):=hL.trans hi
 refine Wp.count (λs=>s.1) (jN P rules.length).length (λk s=>s.2.1=((jN P rules.length).take k).map (uv rules L)/\s.2.2=((jN P rules.length).take k).map λi=>match rules[i]? with
  |some r=>r.2.2.2.1
  |none=>0) (by omega) rfl ⟨rfl,rfl⟩ λk s hk hs hJ=>?_
 obtain⟨kk,l,m⟩:=s;obtain⟨e1,e2⟩:=hJ;dsimp only at hs e1 e2⊢;subst hs e1 e2
 have hlen:L.length=(jN P rules.length).length:=by rw[WL];simp
 refine Wp.dec (λaH=>?_) λhge=>?_
 .have aH:k<(jN P rules.length).length:=by rw[<-hlen];omega
  have hb:=tJ _ (aiF aH)
  have hx:L[k]'(by omega)=((jN P rules.length)[k]:Int):=by simp only[WL,List.getElem_map]
  refine .bind (.idx k rfl (by omega) ?_);rw[hx,MH L XV _ hb (by omega),aiA];refine .bind (.ub (by simp;omega) (.bind (.idx k rfl (by omega) ?_)));rw[hx,aC hb,aiA];refine .bind (.ub (by simp;omega) (.some ⟨aH,aQ (by omega),?_,?_⟩))
  all_goals grind [aiU]
 .have:k=(jN P rules.length).length:=by rw[<-hlen]at hk⊢;omega
  subst this;refine .some ?_
  show(_,_)=(_,_)
  grind
end L
section
namespace L.S
def at'{α:Type}(d:α)(l:List α)(i:Int):α:=(l[i.toNat]?).getD d
theorem nX{α:Type}(d:α){l:List α}{i:Int}(h0:0<=i)(h:i<l.length):idx l i=aa (at' d l i):=by
 unfold idx at';rw[al h0,aiE (by omega)];rfl
structure V(p q:List Int):Prop where
 len:p.length=q.length
 n8:p.length<=8
 par:∀i:Nat,i<p.length->-1<=at' 0 p i/\at' 0 p i<i
def Be(N:Nat)(p q:List Int):M.mY N p q=M.dc N p q:=by
 unfold M.mY M.dc
 congr 3
 funext s
 congr 1
 cases hp:idx p s<;>cases hq:idx q s<;>rfl
def Ds{N:Nat}(p q:List Int)(hN:10<=N):∃e,M.dc N p q=aa e/\(e=0->V p q):=by
 unfold M.dc;by_cases h1:(p.length:Int)=q.length
 .rw[aj (by simpa using h1)];by_cases h2:8<(p.length:Int)
  .simp_all
  .rw[aj (by simpa using h2)];refine ua (I:=λs:Int=>0<=s/\s<=p.length/\∀i:Nat,(i:Int)<s->-1<=at' 0 p i/\at' 0 p i<i) (μ:=λs=>(p.length-s).toNat) (Q:=λe=>e=0->V p q) ?_ N 0 (by grind) (by omega)
   rintro s ⟨h3,h4,h5⟩
   by_cases h6:s<(p.length:Int)
   .rw[al (by simpa using h6),nX 0 h3 h6,nX 0 h3 (by omega)];simp only[aiA];by_cases h7:at' 0 p s< -1
    .rw[al (by simpa using h7)];exact .inr ⟨9,rfl,by omega⟩
    .rw[aj (by simpa using h7)];by_cases h8:s<=at' 0 p s
     .grind
     .simp only[aiA,h8,decide_false,aiK,if_false]
      have fin:(∃s',(aa (Sum.inl (aiB.wrap (s+1))):Option (Int⊕Int))=aa (.inl s')/\(0<=s'/\s'<=p.length/\∀i:Nat,(i:Int)<s'->-1<=at' 0 p i/\at' 0 p i<i)/\((p.length:Int)-s').toNat<((p.length:Int)-s).toNat):=by
       rw[bH (by omega) (by omega)];refine⟨s+1,rfl,⟨by omega,by omega,λi hi=>?_⟩,by omega⟩;by_cases e:(i:Int)<s
       .exact h5 i e
       .have:(i:Int)=s:=by omega
        rw[this];omega
      by_cases h9:at' 0 q s<0
      .simp only[h9,decide_true,if_true,aiA];exact .inr ⟨3,rfl,by omega⟩
      .simp only[h9,decide_false,aiK,if_false,aiA];by_cases h10:9<at' 0 q s
       .grind
       .simp only[h10,decide_false,aiK,if_false];exact .inl fin
   .rw[aj (by simpa using h6)];exact .inr ⟨0,rfl,λ_=>⟨by omega,by omega,λi hi=>h5 i (by omega)⟩⟩
 simp_all
def ch(p:List Int)(i:Int):List Int:=((aiM p.length).filter λj:Nat=>decide (at' 0 p (j:Int)=i)).map (λj:Nat=>(j:Int))
def TC{p:List Int}{i c:Int}:c∈ch p i↔0<=c/\c<p.length/\at' 0 p c=i:=by
 unfold ch;simp only[List.mem_map,aji,List.mem_range,ax]
 grind [aiL]
def M5(p:List Int)(i:Int):(ch p i).length<=p.length:=by
 unfold ch;rw[ajn];have:=List.length_filter_le (λj:Nat=>decide (at' 0 p (j:Int)=i)) (aiM p.length);simpa using this
def uS{N:Nat}{p:List Int}(i:Int)(hn:p.length<=8)(hN:10<=N):M.dF N p i=aa (ch p i):=by
 unfold M.dF;refine vK (λk:Nat=>((k:Int),(((aiM k).filter λj:Nat=>decide (at' 0 p (j:Int)=i)).map (λj:Nat=>(j:Int)):List Int))) p.length _ rfl ?_ ?_ (by omega)
 .intro k hk
  have hw:aiB.wrap ((k:Int)+1)=((k+1:Nat):Int):=by rw[bH]<;>omega
  simp only;rw[al (by simp;omega),nX 0 (by omega) (by omega),aiA,hw,lb];by_cases h:at' 0 p (k:Int)=i
  .rw[al (by simpa using h),eJ,aiA,al (by simpa using h)]
   .simp
   .simp only[ajn,List.length_cons,List.length_nil];have:=List.length_filter_le (λj:Nat=>decide (at' 0 p (j:Int)=i)) (aiM k);simp at this;omega
  .rw[aj (by simpa using h),aj (by simpa using h)];simp
 .simp only;rw[aj (by simp)];rfl
def Bf(N:Nat)(p:List Int)(i:Int):M.p3 N p i=M.dF N p i:=rfl
def step(o:Int->Int)(q:List Int)(b:List Int)(c:Int):List Int:=
 if o c= -1 then b else
 match b with
 |[]=>[c]
 |x::r=>if at' 0 q x<at' 0 q c then[c]else if at' 0 q c=at' 0 q x then(x::r)++[c]else x::r
def pD(o:Int->Int)(q:List Int)(l:List Int):List Int:=l.foldl (step o q) []
structure Inv(o:Int->Int)(q:List Int)(l b:List Int):Prop where
 sub:b.Sublist l
 live:∀c,c∈b->o c≠-1
 max:∀d,d∈l->o d≠-1->b≠[]/\∀c,c∈b->at' 0 q d<=at' 0 q c
 all:∀d,d∈l->o d≠-1->(∀c,c∈b->at' 0 q d=at' 0 q c)->d∈b
def Bg{α:Type}{d a:α}{l:List α}:at' d (a::l) 0=a:=rfl
def wR{o:Int->Int}{q l b:List Int}{c:Int}(h:Inv o q l b):Inv o q (l++[c]) (step o q b c):=by
 obtain⟨h1,h2,h3,h4⟩:=h
 have vY:∀x∈b,∀y∈b,at' 0 q x=at' 0 q y:=(by grind)
 unfold step;by_cases hd:o c= -1
 .rw[al hd];refine⟨h1.trans (List.sublist_append_left _ _),h2,λd hm hl=>?_,λd hm hl=>?_⟩
  .rcases aiX.1 hm with hm|hm
   .exact h3 d hm hl
   .rw[aiZ.1 hm]at hl;exact absurd hd hl
  .rcases aiX.1 hm with hm|hm
   .exact h4 d hm hl
   .rw[aiZ.1 hm]at hl;exact absurd hd hl
 .rw[aj hd]
  cases b with
  |nil=>
   have Rb:∀d,d∈l->¬o d≠-1:=λd hm hl=>(h3 d hm hl).1 rfl
   refine⟨(List.sublist_append_right _ _),?_,λd hm hl=>⟨by simp,?_⟩,λd hm hl hh=>?_⟩
   .intro x hx;rw[aiZ.1 hx];exact hd
   .intro x hx;rw[aiZ.1 hx]
    rcases aiX.1 hm with hm|hm
    .exact absurd hl (Rb d hm)
    .rw[aiZ.1 hm];exact ajz _
   .rcases aiX.1 hm with hm|hm
    .exact absurd hl (Rb d hm)
    .exact hm
  |cons a b=>
   simp only;by_cases aH:at' 0 q a<at' 0 q c
   .rw[al aH];refine⟨(List.sublist_append_right _ _),?_,λd hm hl=>⟨by simp,?_⟩,λd hm hl hh=>?_⟩
    all_goals grind
   .rw[aj aH];by_cases he:at' 0 q c=at' 0 q a
    .rw[al he];refine⟨(by grind),?_,λd hm hl=>⟨by simp,?_⟩,λd hm hl hh=>?_⟩
     .intro x hx
      rcases aiX.1 hx with hx|hx
      .exact h2 x hx
      .rw[aiZ.1 hx];exact hd
     .intro x hx
      have OE:at' 0 q x=at' 0 q a:=by
       rcases aiX.1 hx with hx|hx
       .grind
       .grind
      grind
     .rcases aiX.1 hm with hm|hm
      .exact List.mem_append_left _ (h4 d hm hl λx hx=>hh x (List.mem_append_left _ hx))
      .exact List.mem_append_right _ hm
    .rw[aj he];refine⟨h1.trans (List.sublist_append_left _ _),h2,λd hm hl=>⟨by simp,?_⟩,λd hm hl hh=>?_⟩
     all_goals grind
def Du{o:Int->Int}{q:List Int}:∀(m l b:List Int),Inv o q l b->Inv o q (l++m) (m.foldl (step o q) b)
 |[],l,b,h=>by simpa using h
 |c::m,l,b,h=>by
  have:=Du m (l++[c]) _ (wR (c:=c) h)
  grind
def qh(o:Int->Int)(q l:List Int):Inv o q l (pD o q l):=by
 have:=Du (o:=o) (q:=q) l [] [] ⟨List.Sublist.refl _,by simp,by simp,by simp⟩;rw[List.nil_append]at this;exact this
def rX{o o':Int->Int}{q:List Int}:∀(l b:List Int),(∀c,c∈l->o c=o' c)->l.foldl (step o q) b=l.foldl (step o' q) b
 |[],_,_=>rfl
 |c::l,b,h=>by
  have:step o q b c=step o' q b c:=by unfold step;rw[h c (by simp)]
  rw[List.foldl_cons,List.foldl_cons,this]
  exact rX l _ λd hd=>h d (by simp[hd])
def vm(o:Int->Int)(b:List Int):Int:=if(b.length:Int)=0 then-1 else if(b.length:Int)=1 then o (at' 0 b 0)else-2
def out(p q:List Int)(a:List Bool):Nat->Int->Int
 |0,_=> -1
 |k+1,i=>
  let c:=vm (out p q a k) (pD (out p q a k) q (ch p i))
  if c= -1/\at' ah a i=af then i else c
def cout(p q:List Int)(a:List Bool)(k:Nat)(i:Int):Int:=vm (out p q a k) (pD (out p q a k) q (ch p i))
def sZ(p q:List Int)(a:List Bool)(k:Nat)(i:Int):out p q a (k+1) i=if cout p q a k i= -1/\at' ah a i=af then i else cout p q a k i:=rfl
def qi{p q:List Int}(hv:V p q){i c:Int}(h:c∈ch p i):i<c/\0<=c/\c<8/\c<p.length:=by
 obtain⟨h1,h2,h3⟩:=TC.1 h;have:=hv.n8;obtain⟨j,rfl⟩:=aiL h1;have:=(hv.par j (by omega)).2;omega
def xg{o o':Int->Int}{b:List Int}(h:∀c,c∈b->o c=o' c):vm o b=vm o' b:=by
 cases b with
 |nil=>rfl
 |cons x b=>unfold vm;rw[Bg,h x (by simp)]
def xh{p q:List Int}{a:List Bool}{k k':Nat}{i:Int}(h:∀c,c∈ch p i->out p q a k c=out p q a k' c):cout p q a k i=cout p q a k' i:=by
 unfold cout;have:pD (out p q a k) q (ch p i)=pD (out p q a k') q (ch p i):=rX _ _ h;rw[this]
 exact xg λc hc=>h c ((qh _ _ _).sub.subset hc)
def xi{p q:List Int}(hv:V p q)(a:List Bool):∀(k:Nat)(i:Int),8<k+i->out p q a k i=out p q a (k+1) i\/8<=i
 |0,i,h=> .inr (by omega)
 |k+1,i,h=>by
  by_cases h8:8<=i
  .exact .inr h8
  .left
   rw[sZ,sZ p q a (k+1),xh (k:=k) (k':=k+1)];intro c hc;have:=qi hv hc;exact(xi hv a k c (by omega)).resolve_right (by omega)
def O(p q:List Int)(a:List Bool)(i:Int):Int:=out p q a 16 i
def C(p q:List Int)(a:List Bool)(i:Int):Int:=vm (O p q a) (pD (O p q a) q (ch p i))
def Rc{p q:List Int}(hv:V p q)(a:List Bool):∀(d k:Nat)(i:Int),8<k+i->i<8->d+k=16->out p q a k i=O p q a i
 |0,k,i,_,_,hd=>by
  obtain rfl:k=16:=by omega
  rfl
 |d+1,k,i,h,h8,hd=>by
  rw[(xi hv a k i h).resolve_right (by omega)];exact Rc hv a d (k+1) i (by omega) h8 (by omega)
def WM{p q:List Int}(hv:V p q)(a:List Bool){k:Nat}{i:Int}(h:7<k+i)(hk:k<=16):cout p q a k i=C p q a i:=by
 show _=cout p q a 16 i
 refine xh λc hc=>?_
 have:=qi hv hc;exact Rc hv a (16-k) k c (by omega) (by omega) (by omega)
def abz{p q:List Int}(hv:V p q)(a:List Bool){i:Int}(h0: -1<=i):O p q a i=if C p q a i= -1/\at' ah a i=af then i else C p q a i:=by
 unfold O;rw[sZ,WM hv a (by omega) (by omega)]
def zA{q b:List Int}{c y:Int}{o:Int->Int}(hy:o c=y)(hb:∀x,x∈b->0<=x/\x<q.length)(hl:b.length<=8)(hc:0<=c/\c<q.length):
 (if(decide (y=(-1:Int)))=af then
some b
else
(((if(decide ((0:Int)<(b.length:Int)))=af then
(idx q c).bind λx8=>
(idx b (0:Int)).bind λx9=>
(idx q x9).bind λWN=>
some (decide (WN<x8))
else
some ah):Option (Bool)).bind λj7=>
(if j7=af then
(gI b (0:Int) (0:Int)).bind λl11=>
some l11
else
some b):Option (List Int)).bind λj6=>
((if(decide ((j6.length:Int)=(0:Int)))=af then
some af
else
(idx q c).bind λUp=>
(idx j6 (0:Int)).bind λM6=>
(idx q M6).bind λXW=>
some (decide (Up=XW))):Option (Bool)).bind λXX=>
(if XX=af then
(cz j6 ([c]:List Int)).bind λl16=>
some l16
else
some j6))=aa (step o q b c):=by
 subst hy;unfold step;by_cases h:o c= -1
 .simp only[h,decide_true,if_true]
 .simp only[h,decide_false,aiK,if_false];rw[nX 0 hc.1 hc.2]
  cases b with
  |nil=>simp[cz]
  |cons x r=>
   have hx:=hb x (by simp)
   have h0:(0:Int)<((x::r).length:Int):=by simp only[List.length_cons];omega
   have h1:¬((x::r).length:Int)=0:=by omega
   simp only[h0,decide_true,if_true,aiA,sL,nX 0 hx.1 hx.2]
   grind [gI,sL,S.nX,eJ]
def M7{q b:List Int}{c y:Int}{o:Int->Int}(hy:o c=y)(hb:∀x,x∈b->0<=x/\x<q.length)(hl:b.length<=8)(hc:0<=c/\c<q.length):
 (if(decide (y=(-1:Int)))=af then
some b
else
(((if(decide ((0:Int)<(b.length:Int)))=af then
(idx q c).bind λx8=>
(idx b (0:Int)).bind λx9=>
(idx q x9).bind λWN=>
some (decide (WN<x8))
else
some ah):Option (Bool)).bind λj7=>
(if j7=af then
some ([]:List Int)
else
some b):Option (List Int)).bind λj6=>
((if(decide ((j6.length:Int)=(0:Int)))=af then
some af
else
(idx q c).bind λUp=>
(idx j6 (0:Int)).bind λM6=>
(idx q M6).bind λXW=>
some (decide (Up=XW))):Option (Bool)).bind λXX=>
(if XX=af then
(cz j6 ([c]:List Int)).bind λl16=>
some l16
else
some j6))=aa (step o q b c):=by
 rw[<-zA hy hb hl hc];rfl
theorem s5{l:List Int}{o:Int->Int}{q:List Int}{k:Nat}:((l.take k).foldl (step o q) []).Sublist l:=(qh o q (l.take k)).sub.trans (List.take_sublist _ _)
def PW{N:Nat}{p q r:List Int}(hv:V p q)(hr:r.length=p.length)(i:Int)(hN:20<=N):M.dX N (p,(q,r)) i=aa (pD (at' 0 r) q (ch p i)):=by
 have h8:=hv.n8;have hl:=M5 p i;unfold M.dX;simp only;rw[uS i h8 (by omega),aiA];refine vK (λk:Nat=>((k:Int),((ch p i).take k).foldl (step (at' 0 r) q) [])) (ch p i).length _ rfl ?_ ?_ (by omega)
 .intro k hk
  have hw:aiB.wrap ((k:Int)+1)=((k+1:Nat):Int):=by rw[bH]<;>omega
  have hc:=qi hv (aiF hk);have hq:=hv.len;simp only;rw[al (by simp;omega),aC hk,aiA,nX 0 hc.2.1 (by omega),aiA,hw];have hb:=zA (q:=q) (b:=((ch p i).take k).foldl (step (at' 0 r) q) []) (c:=(ch p i)[k]) (o:=at' 0 r) rfl (λx hx=>by have:=qi hv (s5.subset hx);omega) (by grind [S.s5]) ⟨hc.2.1,by omega⟩
  grind [List.take_succ_eq_append_getElem]
 .simp only;rw[aj (by simp),List.take_length];rfl
def PX{p q:List Int}(hv:V p q){o:Int->Int}{i c:Int}(h:c∈pD o q (ch p i)):i<c/\0<=c/\c<8/\c<p.length:=qi hv ((qh o q _).sub.subset h)
def rv{N:Nat}{p q r:List Int}(hv:V p q)(hr:r.length=p.length)(i:Int)(hN:20<=N):M.cg N (p,(q,r)) i=aa (vm (at' 0 r) (pD (at' 0 r) q (ch p i))):=by
 unfold M.cg vm;rw[PW hv hr i hN,aiA]
 cases hb:pD (at' 0 r) q (ch p i)with
 |nil=>simp
 |cons x b=>
  have hx:=PX hv (o:=at' 0 r) (i:=i) (c:=x) (by rw[hb];simp)
  have h1:¬((x::b).length:Int)=0:=by simp;omega
  simp only[h1,decide_false,aiK,if_false,sL,aiA,Bg,nX 0 hx.2.1 (show x<(r.length:Int) by omega)];by_cases h2:((x::b).length:Int)=1
  .simp only[h2,decide_true,if_true]
  .simp only[h2,decide_false,aiK,if_false]
def Hs{p q r:List Int}(hv:V p q){a:List Bool}{i:Int}(h:∀c,i<c->0<=c->c<p.length->at' 0 r c=O p q a c):vm (at' 0 r) (pD (at' 0 r) q (ch p i))=C p q a i:=by
 unfold C
 have h':∀c,c∈ch p i->at' 0 r c=O p q a c:=λc hc=>by
  have:=qi hv hc;exact h c this.1 this.2.1 this.2.2.2
 have:pD (at' 0 r) q (ch p i)=pD (O p q a) q (ch p i):=rX _ _ h';rw[this]
 exact xg λc hc=>h' c ((qh _ _ _).sub.subset hc)
def outs(p q:List Int)(a:List Bool)(k:Nat):List Int:=(aiM p.length).map λj=>if p.length<=j+k then O p q a (j:Int)else 0
theorem M8{n:Nat}{f:Nat->Int}{c:Int}(h0:0<=c)(h:c<n):at' 0 ((aiM n).map f) c=f c.toNat:=by
 grind [S.at']
def Dv{N:Nat}{p q:List Int}{a:List Bool}(hv:V p q)(ha:a.length=p.length)(hN:20<=N):M.eG N p q a=aa (outs p q a p.length):=by
 have h8:=hv.n8;unfold M.eG
 have h0:nu (p.length:Int) (0:Int)=aa (aiG p.length 0):=by
  unfold nu;rw[al (by omega)];simp
 rw[h0,aiA];refine vK (λk:Nat=>((p.length:Int)-1-(k:Int),outs p q a k)) p.length _ ?_ ?_ ?_ (by omega)
 .rw[bH (by omega) (by omega)]
  have:outs p q a 0=aiG p.length 0:=by
   unfold outs
   refine List.ext_getElem (by simp) λj h1 h2=>?_
   simp at h2;rw[List.getElem_map,List.getElem_range,List.getElem_replicate,aj (by omega)]
  grind
 .intro k hk
  have hlen:(outs p q a k).length=p.length:=by simp[outs]
  have hO:=abz hv a (i:=(p.length:Int)-1-(k:Int)) (by omega);generalize hi:(p.length:Int)-1-(k:Int)=i at*
  have hc:vm (at' 0 (outs p q a k)) (pD (at' 0 (outs p q a k)) q (ch p i))=C p q a i:=Hs hv λc h1 h2 h3=>by
   unfold outs;rw[M8 h2 h3,al (by omega),Int.toNat_of_nonneg h2]
  simp only;rw[al (by simp;omega),rv hv hlen i hN,aiA,hc,nX 0 (by omega) (by omega),aiA]
  have um:∀v,bg (bg (outs p q a k) i v) i (O p q a i)=outs p q a (k+1)/\(v=O p q a i->bg (outs p q a k) i v=outs p q a (k+1)):=by
   intro v
   have e:bg (outs p q a k) i (O p q a i)=outs p q a (k+1):=by
    unfold bg outs;rw[lU]
    refine List.map_congr_left λj hj=>?_
    have:=List.mem_range.1 hj;by_cases h:j=i.toNat
    .rw[al h,al (by omega),h,Int.toNat_of_nonneg (by omega)]
    .rw[aj h];by_cases h':p.length<=j+k
     .rw[al h',al (by omega)]
     .rw[aj h',aj (by omega)]
   refine⟨?_,λh=>h▸e⟩;unfold bg at e⊢;rw[List.set_set];exact e
  grind [idx,bg,S.at',bH]
 .simp only;rw[aj (by simp;omega)]
def PY{p q:List Int}{a:List Bool}{c:Int}(h0:0<=c)(h:c<p.length):at' 0 (outs p q a p.length) c=O p q a c:=by
 grind [S.outs,S.M8]
def M9{p q:List Int}{a:List Bool}{k:Nat}:(outs p q a k).length=p.length:=by simp[outs]
def Re(e:Int)(y:Bool){α:Type}(k:Bool->Option α):((if(!decide (e=(0:Int)))=af then aa af else aa y:Option Bool).bind k)=k (!decide (e=0)||y):=by
 cases decide (e=0)<;>rfl
def Bh{N:Nat}(hN:20<=N)(p q:List Int)(a:List Bool):(M.cC N p q a=aa (-1)/\M.la N p q a=aa (-1))\/
 (V p q/\a.length=p.length/\M.cC N p q a=aa (C p q a (-1))/\M.la N p q a=M.mZ N p q a (-1)):=by
 obtain⟨e,he,hv⟩:=Ds (N:=N) p q (by omega);unfold M.cC M.la;rw[Be,he];simp only[aiA];rw[Re,Re];by_cases h:(!decide (e=0)||(!decide ((a.length:Int)=(p.length:Int))))=af
 .left
  rw[al h,al h];exact⟨rfl,rfl⟩
 .right
  have h1:e=0:=by simp at h;exact h.1
  have h2:a.length=p.length:=by simp at h;omega
  have hv:=hv h1;rw[aj h,aj h,Dv hv h2 hN];simp only[aiA];rw[rv hv M9 (-1) hN];refine⟨hv,h2,?_,?_⟩
  .exact aw aa (Hs hv λc _ h0 h=>PY h0 h)
  .cases M.mZ N p q a (-1)<;>rfl
section
variable {p q:List Int} {a:List Bool} (hv:V p q) (ha:a.length=p.length)
include hv ha
def WO{N:Nat}{o:Int->Int}{i:Int}(hN:20<=N)(ho:∀c,c∈ch p i->M.dR aU N p q a c=aa (o c)):M.o4 aU (N+1) p q a i=aa (pD o q (ch p i)):=by
 have h8:=hv.n8;have hl:=M5 p i;unfold M.o4;rw[Bf,uS i h8 (by unfold aU;omega),aiA];refine vK (λk:Nat=>((k:Int),((ch p i).take k).foldl (step o q) [])) (ch p i).length _ rfl ?_ ?_ (by unfold aU;omega)
 .intro k hk
  have hw:aiB.wrap ((k:Int)+1)=((k+1:Nat):Int):=by rw[bH]<;>omega
  have hc:=qi hv (aiF hk);have hq:=hv.len;simp only;rw[al (by simp;omega),aC hk,aiA,ho _ (aiF hk),aiA,hw];have hb:=M7 (q:=q) (b:=((ch p i).take k).foldl (step o q) []) (c:=(ch p i)[k]) (o:=o) rfl (λx hx=>by have:=qi hv (s5.subset hx);omega) (by grind [S.s5]) ⟨hc.2.1,by omega⟩;simp only[aiA]
  grind [List.take_succ_eq_append_getElem]
 .simp only;rw[aj (by simp),List.take_length];rfl
def zB{N:Nat}{o:Int->Int}{i:Int}(hN:20<=N)(ho:∀c,c∈ch p i->M.dR aU N p q a c=aa (o c))(mf:∀c,c∈ch p i->M.dR aU (N+1) p q a c=aa (o c)):M.gG aU (N+2) p q a i=aa (vm o (pD o q (ch p i))):=by
 unfold M.gG;rw[WO hv ha hN ho,aiA];unfold vm
 cases hb:pD o q (ch p i)with
 |nil=>simp
 |cons x b=>
  have hx:=(qh o q (ch p i)).sub.subset (show x∈pD o q (ch p i) by rw[hb];simp)
  have h1:¬((x::b).length:Int)=0:=by simp only[List.length_cons];omega
  simp only[h1,decide_false,aiK,if_false,sL,aiA,Bg];by_cases h2:1<((x::b).length:Int)
  .simp only[h2,decide_true,if_true];rw[aj (by omega)]
  .simp only[h2,decide_false,aiK,if_false];rw[mf x hx,al (by simp only[List.length_cons]at h1 h2⊢;omega)];rfl
def xj:∀(k N:Nat)(i:Int),8<k+i->0<=i->i<p.length->3*k+30<=N->M.dR aU N p q a i=aa (out p q a k i)
 |0,N,i,h,_,h2,_=>by have:=hv.n8;omega
 |k+1,N,i,h,h0,h2,hN=>by
  obtain⟨N,rfl⟩:∃n,N=n+3:=⟨N-3,by omega⟩
  unfold M.dR;rw[zB hv ha (o:=out p q a k) (by omega) (λc hc=>?_) (λc hc=>?_),aiA,sZ]
  .grind [S.cout,S.nX]
  .have:=qi hv hc;exact xj k N c (by omega) (by omega) (by omega) (by omega)
  .have:=qi hv hc;exact xj k (N+1) c (by omega) (by omega) (by omega) (by omega)
theorem abB{N:Nat}{i:Int}(h0:0<=i)(h:i<p.length)(hN:90<=N):M.dR aU N p q a i=aa (O p q a i):=xj hv ha 16 N i (by omega) h0 h (by omega)
def Bi{N:Nat}{i:Int}(hN:100<=N):M.gG aU N p q a i=aa (C p q a i):=by
 obtain⟨N,rfl⟩:∃n,N=n+2:=⟨N-2,by omega⟩
 refine zB hv ha (by omega) (λc hc=>?_) λc hc=>?_
 all_goals
  have:=qi hv hc
  grind [S.abB]
end
def TD(p q:List Int)(a:List Bool):M.cC aU p q a=M.la aU p q a:=by
 rcases Bh (N:=aU) (by unfold aU;omega) p q a with⟨h1,h2⟩|⟨hv,ha,h1,h2⟩
 .rw[h1,h2]
 .rw[h1,h2];exact(Bi hv ha (N:=aU) (by unfold aU;omega)).symm
end L.S
end
namespace L
def Pl(n:Nat)(v:Int):Prop:=v= -1\/v= -2\/0<=v/\v<(n:Int)
def Dw(p:List Int)(i:Int)(hl:p.length<=8):Wp (M.dF aU p i) λr=>r.length<=p.length/\∀x∈r,(0:Int)<=x/\x<(p.length:Int):=by
 unfold M.dF
 refine Wp.count (λs=>s.1) p.length (λk s=>s.2.length<=k/\∀x∈s.2,(0:Int)<=x/\x<(p.length:Int)) (by omega) rfl (by grind) λk s hk hs hJ=>?_
 obtain⟨c,l⟩:=s;obtain⟨j1,j2⟩:=hJ;dsimp only at hs j1 j2;subst hs
 refine Wp.dec (λaH=>?_) λhge=> .some ⟨by grind,j2⟩
 have aH:k<p.length:=by dsimp only at aH;omega
 dsimp only
 refine Wp.seq (λj=>j.length<=k+1/\∀x∈j,(0:Int)<=x/\x<(p.length:Int)) ?_ λj hj=> .some ⟨aH,cK (m:=p.length) (by omega) aH,hj⟩
 rw[aC aH,aiA]
 refine Wp.dec (λ_=>?_) λ_=> .some ⟨by omega,j2⟩
 rw[eJ (by simp;omega),aiA];refine .some ⟨by simp;omega,λx hx=>?_⟩
 grind
def PZ{p q r:List Int}(i:Int)(hl:p.length<=8)(hq:q.length=p.length)(hr:r.length=p.length):Wp (M.dX aU (p,(q,r)) i) λb=>∀x∈b,(0:Int)<=x/\x<(p.length:Int):=by
 unfold M.dX
 refine Wp.seq _ (Dw p i hl) λy hy=>?_
 obtain⟨y1,y2⟩:=hy
 refine Wp.count (λs=>s.1) y.length (λk s=>s.2.length<=k/\∀x∈s.2,(0:Int)<=x/\x<(p.length:Int)) (by omega) rfl (by grind) λk s hk hs hJ=>?_
 obtain⟨c,l⟩:=s;obtain⟨j1,j2⟩:=hJ;dsimp only at hs j1 j2;subst hs
 refine Wp.dec (λaH=>?_) λhge=> .some j2
 have aH:k<y.length:=by dsimp only at aH;omega
 dsimp only
 refine Wp.seq (λj=>j.length<=k+1/\∀x∈j,(0:Int)<=x/\x<(p.length:Int)) ?_ λj hj=> .some ⟨aH,cK (m:=y.length) (by omega) aH,hj⟩
 have hv:=y2 _ (aiF aH);rw[aC aH,aiA];generalize y[k]=v at hv⊢
 have at_:∀{l:List Int}{u:Int},l.length=p.length->(0:Int)<=u/\u<(p.length:Int)->∃z,idx l u=aa z:=λ{l u}h h'=>by
  obtain⟨z,hz,_⟩:=xf (l:=l) (i:=u) h'.1 (by omega)
  grind
 obtain⟨z1,e1⟩:=at_ hr hv;obtain⟨z2,e2⟩:=at_ hq hv
 have hd:∀{l:List Int},0<l.length->(∀x∈l,(0:Int)<=x/\x<(p.length:Int))->∃u z,idx l (0:Int)=aa u/\idx q u=aa z:=λ{l}h h'=>by
  obtain⟨u,hu,hm⟩:=xf (l:=l) (i:=0) (ajz _) (by omega)
  grind
 rw[e1,aiA]
 refine Wp.dec (λ_=> .some ⟨by omega,j2⟩) λ_=>?_
 refine Wp.seq (λj=>j.length<=k/\∀x∈j,(0:Int)<=x/\x<(p.length:Int)) ?_ λl6 h6=>?_
 .refine Wp.seq (λ_=>True) ?_ λj7 _=>?_
  .refine Wp.dec (λh=>?_) λ_=> .some trivial
   obtain⟨u,z,hu,hz⟩:=hd (l:=l) (by omega) j2;rw[e2,aiA,hu,aiA,hz];exact .some trivial
  .refine Wp.ite (λ_=>?_) λ_=> .some ⟨j1,j2⟩
   rw[vL (l:=l) (i:=0) (j:=0) 0 0 rfl rfl (aiH _) (Nat.zero_le _),aiA];exact .some ⟨by simp,by simp⟩
 .obtain⟨g1,g2⟩:=h6
  refine Wp.seq (λ_=>True) ?_ λXX _=>?_
  .refine Wp.dec (λ_=> .some trivial) λh=>?_
   obtain⟨u,z,hu,hz⟩:=hd (l:=l6) (by omega) g2;rw[e2,aiA,hu,aiA,hz];exact .some trivial
  .refine Wp.ite (λ_=>?_) λ_=> .some ⟨by omega,g2⟩
   rw[eJ (by simp;omega),aiA];refine .some ⟨by simp;omega,λx hx=>?_⟩
   grind
theorem Ht{p q r:List Int}(i:Int)(hl:p.length<=8)(hq:q.length=p.length)(hr:r.length=p.length)(hp:∀x∈r,Pl p.length x):Wp (M.cg aU (p,(q,r)) i) (Pl p.length):=by
 unfold M.cg
 refine Wp.seq _ (PZ i hl hq hr) λb hb=>?_
 refine Wp.dec (λ_=> .some (.inl rfl)) λh0=>?_
 refine Wp.dec (λh1=>?_) λ_=> .some (.inr (.inl rfl))
 obtain⟨u,hu,hm⟩:=xf (l:=b) (i:=0) (ajz _) (by omega);have:=hb u hm;obtain⟨z,hz,hzm⟩:=xf (l:=r) (i:=u) this.1 (by omega);rw[hu,aiA];dsimp only;rw[hz,aiA];exact .some (hp z hzm)
theorem Dx{α:Type}{l:List α}{i:Int}{y x:α}(h:x∈bg l i y):x∈l\/x=y:=by
 grind [bg]
theorem P0{p q:List Int}{a:List Bool}(hl:p.length<=8)(hq:q.length=p.length)(ha:a.length=p.length):Wp (M.eG aU p q a) λr=>r.length=p.length/\∀x∈r,Pl p.length x:=by
 unfold M.eG;rw[wp_bind];refine nc.2 ⟨by omega,?_⟩;rw[aiI]
 have hw:∀n:Nat,n<=8->aiB.wrap ((n:Int)-1)=(n:Int)-1:=λn h=>bH (by omega) (by omega)
 refine Wp.loop (λs=>(∃k:Nat,s.1=(k:Int)-1/\k<=p.length)/\s.2.length=p.length/\∀x∈s.2,Pl p.length x) (λs=>(s.1+1).toNat) ⟨⟨p.length,hw _ hl,aiH _⟩,by simp,λx hx=>?_⟩ ?_ ?_
 .rw[List.mem_replicate]at hx;exact .inr (.inr ⟨by omega,by omega⟩)
 .grind [aU]
 .rintro⟨c,l⟩ ⟨⟨k,hk,JW⟩,j1,j2⟩
  dsimp only at hk j1 j2;subst hk
  refine Wp.dec (λaH=>?_) λhge=> .some ⟨j1,j2⟩
  obtain⟨m,rfl⟩:∃m,k=m+1:=⟨k-1,by grind⟩
  have hm:(((m+1:Nat):Int)-1)=(m:Int):=by omega
  rw[hm]
  have Og:m<p.length:=by omega
  dsimp only
  refine Wp.seq (λj=>j.length=p.length/\∀x∈j,Pl p.length x) ?_ λj hj=> .some ⟨⟨⟨m,by rw[hw _ (by omega)],by omega⟩,hj⟩,by grind⟩
  refine Wp.seq _ (Ht (m:Int) hl hq j1 j2) λv hv=>?_
  have s1:(bg l (m:Int) v).length=p.length:=by rw[b7];exact j1
  have s2:∀x∈bg l (m:Int) v,Pl p.length x:=λx hx=>by
   grind [Dx]
  rw[aC (show m<l.length by omega),aiA]
  refine Wp.seq (λ_=>True) ?_ λj6 _=>?_
  .rw[aC (by grind),aiA]
   refine Wp.dec (λ_=>?_) λ_=> .some trivial
   rw[aC (show m<a.length by omega),aiA];exact .some trivial
  .refine Wp.ite (λ_=>?_) λ_=> .some ⟨s1,s2⟩
   rw[aC (by grind),aiA];refine .some ⟨by rw[b7];exact s1,λx hx=>?_⟩
   rcases Dx hx with h|rfl
   .exact s2 x h
   .exact .inr (.inr ⟨by omega,by omega⟩)
def JZ(p q:List Int)(a:List Bool)(hp:p.length<=100000):Wp (M.cC aU p q a) (Pl p.length):=by
 unfold M.cC
 have hV:Wp (M.dc aU p q) λc=>c=0->p.length<=8/\q.length=p.length:=by
  unfold M.dc
  refine Wp.iM (λ_=> .some λh=>by cases h) λh1=>?_
  refine Wp.dec (λ_=> .some λh=>by cases h) λh2=>?_
  have hq:q.length=p.length:=by omega
  refine Wp.count (λs=>s) p.length (λ_ _=>True) (by omega) rfl trivial λk s hk hs _=>?_
  obtain rfl:s=_:=hs
  refine Wp.dec (λaH=>?_) λhge=> .some λ_=>⟨by omega,hq⟩
  have aH:k<p.length:=by omega
  rw[aC aH,aiA]
  refine Wp.seq (λ_=>True) (Wp.dec (λ_=> .some trivial) λ_=> .some trivial) λj3 _=>?_
  refine Wp.ite (λ_=> .some λh=>by cases h) λ_=>?_
  refine Wp.seq (λ_=>True) ?_ λj4 _=>?_
  .rw[aC (show k<q.length by omega),aiA]
   exact Wp.dec (λ_=> .some trivial) λ_=> .some trivial
  .exact Wp.ite (λ_=> .some λh=>by cases h) λ_=> .some ⟨aH,cK (m:=p.length) (by omega) aH,trivial⟩
 refine Wp.seq (λj=>j=ah->p.length<=8/\q.length=p.length/\a.length=p.length) ?_ λj hj=>?_
 .refine Wp.seq _ hV λc hc=>?_
  refine Wp.iM (λ_=> .some λh=>by cases h) λh=> .some λg=>?_
  grind
 .cases j with
  |true=>rw[al rfl];exact .some (.inl rfl)
  |false=>
   grind [Wp.seq,P0,Ht]
abbrev ik:Type:=List az.den
theorem Na(a b:ik)(hl:a.length<=100000):M.bL aU a b=aa (decide (a=b)):=by
 unfold M.bL;refine Wp.eq (Wp.iM (λh=> .some ?_) λh=>?_)
 .grind
 .have h:a.length=b.length:=by omega
  refine Wp.count (λs=>s) a.length (λk _=>∀i,∀h1:i<a.length,∀h2:i<b.length,i<k->a[i]=b[i]) (by omega) rfl (λi _ _ hi=>absurd hi (by omega)) λk s hk hs hJ=>?_
  subst hs;refine .dec (λaH=>?_) (λhge=> .some ?_)
  .have aH:k<a.length:=by omega
   refine .bind (.idx k rfl aH (.bind (.idx k rfl (by omega) (.ite (λh1=> .some ?_) (λh1=> .some ⟨aH,aQ (by omega),λi EB Im hi=>?_⟩)))))
   .have h1:lA az a[k] (b[k]'(by omega))=ah:=by simpa using h1
    have h1:=n9.1 h1;exact(aq λe=>h1 (by simp only[e])).symm
   grind [vr]
  .have:k=a.length:=by omega
   subst this;exact(ao (List.ext_getElem h λi h1 h2=>hJ i h1 h2 h1)).symm
theorem P1(a b:ik)(hl:a.length<=100000):M.rN aU a b=aa (decide (a=b)):=by
 unfold M.rN;refine Wp.eq (Wp.iM (λh=> .some ?_) λh=>?_)
 .grind
 .have h:a.length=b.length:=by omega
  refine Wp.count (λs=>s) a.length (λk _=>∀i,∀h1:i<a.length,∀h2:i<b.length,i<k->a[i]=b[i]) (by omega) rfl (λi _ _ hi=>absurd hi (by omega)) λk s hk hs hJ=>?_
  subst hs
  refine Wp.seq (λj=>j=decide (k<a.length)) (.dec (λh1=> .some ?_) (λh1=> .some ?_)) λj hj=>?_
  .grind
  .grind
  .subst hj;refine .dec (λaH=>?_) (λhge=> .some ?_)
   .refine .bind (.idx k rfl aH (.bind (.idx k rfl (by omega) (.ite (λh1=> .some ?_) (λh1=> .some ⟨aH,aQ (by omega),λi EB Im hi=>?_⟩)))))
    .have h1:lA az a[k] (b[k]'(by omega))=ah:=by simpa using h1
     have h1:=n9.1 h1;exact(aq λe=>h1 (by simp only[e])).symm
    grind [vr]
   .have:k=a.length:=by omega
    subst this;exact(ao (List.ext_getElem h λi h1 h2=>hJ i h1 h2 h1)).symm
def gV(g:ik)(C:List ik):Int:=ff (λx=>decide (x=g)) C
def J0(C:List ik)(g:ik)(hC:C.length<=100000)(hl:∀x∈C,x.length<=100000):M.eF aU C g=aa (gV g C):=by
 unfold M.eF gV;refine sR (by unfold maxLen;omega) (λk h=>?_) ?_
 .grind [aC,Na]
 grind
def Dy(C:List ik)(g:ik)(hC:C.length<=100000)(hl:∀x∈C,x.length<=100000):M.oZ aU C g=aa (gV g C):=by
 unfold M.oZ gV;refine sR (by unfold maxLen;omega) (λk h=>?_) ?_
 .grind [aC,P1]
 grind
theorem xk{g:ik}{C X:List ik}(h:0<=gV g C):gV g (C++X)=gV g C:=by
 grind [gV,ff]
theorem xl{g:ik}{C:List ik}(h:¬0<=gV g C):gV g (C++[g])=(C.length:Int):=by
 refine sQ (by simp) (by simp) λj hj Oh=>?_
 rw[ajq hj]
 exact aq λe=>h (fW.2 (by grind))
def gd(rules:List fZ)(i:Nat):ik:=match rules[i]? with
 |some r=>r.2.2.2.2.2.1
 |none=>[]
def dB(rules:List fZ)(s:List ik×List Int)(i:Nat):List ik×List Int:=if(gd rules i).length=0 then s else if 0<=gV (gd rules i) s.1 then s else(s.1++[gd rules i],s.2++[(i:Int)])
def jq(rules:List fZ)(C:List ik)(i:Nat):Int:=if(gd rules i).length=0 then-1 else gV (gd rules i) C
theorem uw(rules:List fZ)(T:List Nat):∀s:List ik×List Int,∃X,(T.foldl (dB rules) s).1=s.1++X/\(T.foldl (dB rules) s).1.length<=s.1.length+T.length:=by
 induction T with
 |nil=>simp_all
 |cons i T ih=>
  intro s;obtain⟨X,hX,hl⟩:=ih (dB rules s i)
  grind [dB]
theorem J1(rules:List fZ)(s:List ik×List Int)(i:Nat)(h:(gd rules i).length≠0):0<=gV (gd rules i) (dB rules s i).1:=by
 grind [dB,xl]
def Gg(rules:List fZ)(s:List ik×List Int)(T:List Nat)(i:Nat)(h:(gd rules i).length≠0->0<=gV (gd rules i) s.1):jq rules (T.foldl (dB rules) s).1 i=jq rules s.1 i:=by
 grind [jq,uw,xk]
def oG(rules:List fZ)(T:List Nat):∀s:List ik×List Int,∀i∈T,(gd rules i).length≠0->0<=gV (gd rules i) (T.foldl (dB rules) s).1:=by
 induction T with
 |nil=>grind
 |cons j T ih=>
  grind [uw,xk,J1]
def zC(rules:List fZ)(T:List Nat):∀s:List ik×List Int,∀x∈(T.foldl (dB rules) s).1,x∈s.1\/∃i,x=gd rules i:=by
 induction T with
 |nil=>grind
 |cons j T ih=>
  intro s x hx
  grind [dB]
end L
namespace L
def bt(c b:Int):Bool:=decide (aJ .and .i64 (bT .i64 c b) 1=1)
def flag(c b:Int):Bool:=if b<0 then af else bt c b
def Nb{c b:Int}(h:0<=b):xS .i64 c b=aa (bT .i64 c b):=by unfold xS;grind
noncomputable def oH(p q:List Int)(a:List Bool):Int:=(M.cC aU p q a).getD 0
def qj(p q:List Int)(a:List Bool)(hp:p.length<=100000):M.cC aU p q a=aa (oH p q a)/\Pl p.length (oH p q a):=(JZ p q a hp).getD 0
def zD(T:List Int)(s:Int):Int:=if 0<=s then(T[s.toNat]?).getD 0 else s
noncomputable def oc(T p q B:List Int)(c:Int):Int:=zD T (oH p q (B.map (flag c)))
theorem vN{T:List Int}{s:Int}(h0:0<=s)(h1:s<(T.length:Int)):idx T s=aa (zD T s):=by
 grind [aC,zD]
def J2{T p q B:List Int}{n:Nat}(hn:n<=8)(hT:T.length<=100000)(hp:p.length=T.length)(hB:B.length=T.length):M.cD aU T p q B (n:Int)=aa ((aiM (2 ^ n)).map λc:Nat=>oc T p q B (c:Int)):=by
 have h8:=ra hn;unfold M.cD;rw[o8 (by omega),aiA]
 have abC:((2 ^ n:Nat):Int)<=4294967296:=by have:((2 ^ n:Nat):Int)<=256:=by exact_mod_cast h8
                                            exact Int.le_trans this (by decide)
 refine Wp.eq (.bind (nc.2 ⟨⟨Int.natCast_nonneg _,abC⟩, .bind (nc.2 ⟨by omega,?_⟩)⟩));rw[aiI,aiI];generalize hK:2 ^ n=K at*
 have tE:∀{α:Type}(m:Nat)(z:α),aiG m z=(aiM m).map λ_=>z:=λm z=>by
  apply List.ext_getElem (by simp)
  grind
 refine Wp.count (λs=>s.1) K (λc s=>s.2.1=((aiM K).map λj:Nat=>if j<c then oc T p q B (j:Int)else 0)/\s.2.2.length=T.length) (by omega) rfl ⟨by rw[tE];simp,by simp⟩ λc s hc hs hJ=>?_
 obtain⟨cc,out,fl⟩:=s;obtain⟨rfl,Vf⟩:=hJ;dsimp only at hs Vf⊢;subst hs;rw[List.length_replicate];refine .dec (λh=>?_) (λh=> .some ?_)
 .have aH:c<K:=by omega
  refine Wp.seq (λs=>s.1=((aiM K).map λj:Nat=>if j<c+1 then oc T p q B (j:Int)else 0)/\s.2.length=T.length) ?_ λj hj=> .some ⟨aH,aQ (by omega),hj⟩
  refine Wp.seq (λs=>s.1=((aiM K).map λj:Nat=>if j<c+1 then oc T p q B (j:Int)else 0)/\s.2.length=T.length) ?_ λj hj=> .some hj
  refine Wp.seq (λf=>f=B.map (flag (c:Int))) ?_ λf hf=>?_
  .refine Wp.count (λs=>s.1) B.length (λk s=>s.2.length=B.length/\∀i,∀h:i<s.2.length,∀h2:i<B.length,i<k->s.2[i]=flag (c:Int) B[i]) (by omega) rfl (by grind) λk s hk hs hJ=>?_
   obtain⟨kk,f⟩:=s;obtain⟨g1,g2⟩:=hJ;dsimp only at hs g1 g2⊢;subst hs;refine .dec (λh=>?_) (λh=> .some ?_)
   .have JW:k<B.length:=by omega
    have um:∀v:Bool,v=flag (c:Int) B[k]->(bg f (k:Int) v).length=B.length/\∀i,∀h:i<(bg f (k:Int) v).length,∀h2:i<B.length,i<k+1->(bg f (k:Int) v)[i]=flag (c:Int) B[i]:=λv hv=>by
     grind [bg]
    refine Wp.seq (λs=>s.length=B.length/\∀i,∀h:i<s.length,∀h2:i<B.length,i<k+1->s[i]=flag (c:Int) B[i]) (.bind (.idx k rfl JW ?_)) λj hj=> .some ⟨JW,aQ (by omega),hj⟩
    refine .dec (λh=> .bind (.idx k rfl (by omega) (.some (um _ ?_)))) (λh=> .ba (Nb (by omega)) (.bind (.idx k rfl (by omega) (.some (um _ ?_)))))
    .unfold flag;rw[al h]
    .unfold flag;rw[aj h];rfl
   .have:k=B.length:=by omega
    subst this
    refine List.ext_getElem (by grind) λi h1 h2=>?_
    grind
  .subst hf;obtain⟨hs,hr⟩:=qj p q (B.map (flag (c:Int))) (by omega);refine .ba hs ?_
   have um:∀v:Int,v=oc T p q B (c:Int)->bg ((aiM K).map λj:Nat=>if j<c then oc T p q B (j:Int)else 0) (c:Int) v=((aiM K).map λj:Nat=>if j<c+1 then oc T p q B (j:Int)else 0):=λv hv=>by
    grind [bg,lU]
   have P2:oc T p q B (c:Int)=zD T (oH p q (B.map (flag (c:Int)))):=rfl;generalize oH p q (B.map (flag (c:Int)))=v at hr P2⊢;unfold Pl at hr
   refine Wp.seq (λj=>j=af↔0<=v) (.dec (λh=> .some ?_) (λh=> .some (by grind))) λj hj=> .ite (λh=>?_) (λh=>?_)
   .grind
   .have hv:=hj.1 h;refine .ba (vN hv (by omega)) (.bind (Ba aH (.some (by grind))))
   .have hv:¬0<=v:=λg=>h (hj.2 g)
    refine .bind (Ba aH (.some ⟨um _ (by rw[P2];unfold zD;rw[aj hv]),by grind⟩))
 .have:c=K:=by omega
  subst this
  refine List.map_congr_left λy hy=>?_
  grind
noncomputable def mn(l:List Int)(n:Nat):List (Int×Int):=Dl (Hp (n:Int)) (λx=>(x:Int)∈l) (eA l)
def rY{k:Nat}{mem:Nat->Bool}:∀{l:List (Nat×Nat)}{cov:Nat->Bool},(fD k mem cov l).length<=l.length
 |[],_=>aiH _
 |p::l,cov=>by
  rw[kE];split
  .have:=rY (k:=k) (mem:=mem) (l:=l) (cov:=λx=>cov x||decide (x&&& p.1=p.2))
   grind
  .have:=rY (k:=k) (mem:=mem) (l:=l) (cov:=cov)
   grind
theorem Gh(l:List Int)(n:Nat):(mn l n).length<=65536:=by
 have hn:=Ga (n:Int);have h8:=ra hn;unfold mn Dl;refine ai4 rY ?_;generalize Hp (n:Int)=n at*
 have:=qT (A:=((Pt n).filter (ym n λx=>(x:Int)∈l)).map λp=>p.1*256+p.2) (B:=aiM 65536) ?_ λx hx=>?_
 .grind
 .rw[List.Nodup,List.pairwise_map];refine List.Pairwise.imp_of_mem (λ{p q}hp hq aH e=>?_) ((uq n).filter _)
  grind [qg,sc.irrefl,Nat.and_le_right]
 grind [qg,Nat.and_le_right]
def vn(O:List Int)(v:Int):List Int:=ids (λk=>decide (O[k]? =aa v)) O.length
noncomputable def eB(O:List Int)(n:Nat)(v:Int):List yo:=if(vn O v).length=0 then[]else(mn (vn O v) n).map λp=>(p,v)
theorem rZ(O:List Int)(n:Nat)(v:Int):(eB O n v).length<=65536:=by
 grind [eB,Gh]
def J3{O T:List Int}{n:Nat}(hO:O.length<=100000)(hT:T.length<=1000):M.gD aU O T (n:Int)=aa (([-2,-1]++T).flatMap (eB O n)):=by
 unfold M.gD;refine Wp.eq (.bind (.ub (by simp;omega) ?_))
 have hL:([(-2:Int),-1]++T).length<=1002:=by simp;omega
 generalize([(-2:Int),-1]++T)=L at hL⊢
 refine Wp.count (λs=>s.1) L.length (λk s=>s.2=(L.take k).flatMap (eB O n)/\s.2.length<=k*65536) (by omega) rfl ⟨rfl,aiH _⟩ λk s hk hs hJ=>?_
 obtain⟨kk,acc⟩:=s;obtain⟨g1,g2⟩:=hJ;dsimp only at hs g1 g2⊢;subst hs;refine .dec (λh=>?_) (λh=> .some ?_)
 .have aH:k<L.length:=by omega
  have dZ:(L.take (k+1)).flatMap (eB O n)=(L.take k).flatMap (eB O n)++eB O n L[k]:=by
   rw[<-aiU aH,List.flatMap_append];simp
  have WH:=rZ O n L[k]
  refine Wp.seq (λs=>s=acc++eB O n L[k]) ?_ λj hj=> .some ⟨aH,aQ (by omega),by rw[dZ,<-g1];exact hj,by grind⟩
  refine Wp.seq (λs=>s=acc++eB O n L[k]) (.bind (.idx k rfl aH ?_)) λj hj=> .some hj
  refine Wp.seq (λj=>j=vn O L[k]) ?_ λj hj=>?_
  .refine Wp.count (λs=>s.1) O.length (λi s=>s.2=ids (λz=>decide (O[z]? =aa L[k])) i) (by omega) rfl rfl λi s hi hs hJ=>?_
   obtain⟨ii,l⟩:=s;dsimp only at hs hJ⊢;subst hs hJ;refine .dec (λh=>?_) (λh=> .some ?_)
   .have qS:i<O.length:=by omega
    have hl:=nK (λz=>decide (O[z]? =aa L[k])) i
    refine Wp.seq (λs=>s=ids (λz=>decide (O[z]? =aa L[k])) (i+1)) (.bind (.idx i rfl qS ?_)) λj hj=> .some ⟨qS,aQ (by omega),hj⟩
    rw[ng,aiE qS];refine .dec (λh=> .bind (.ub (by simp;omega) (.some ?_))) (λh=> .some ?_)
    all_goals grind
   .have:i=O.length:=by omega
    subst this;rfl
  .subst hj;have vd:=nK (λz=>decide (O[z]? =aa L[k])) O.length;refine .dec (λh=> .some ?_) (λh=> .ba (MZ (l:=vn O L[k]) (by unfold vn;omega) (n:Int)) ?_)
   .grind [eB]
   .have dA:¬(vn O L[k]).length=0:=λg=>h (by rw[g];rfl)
    have hr:eB O n L[k]=(mn (vn O L[k]) n).map λp=>(p,L[k]):=by unfold eB;rw[aj dA]
    have Og:=Gh (vn O L[k]) n;rw[hr]
    show Wp (Loop _ aU _) _
    change Wp (Loop (S:=Int×List aM.den) (X:=List aM.den) (λWQ=>
     (if(decide (WQ.1<((mn (vn O L[k]) n).length:Int)))=af then
     (idx (mn (vn O L[k]) n) WQ.1).bind λUp=>
     (cz WQ.2 ([(Up,L[k])]:List aM.den)).bind λl14=>
     some (Sum.inl (aiB.wrap (WQ.1+(1:Int)),l14))
     else
     some (ajy WQ.2))) aU ((0:Int),acc)) _
    generalize mn (vn O L[k]) n=ps at Og⊢
    refine Wp.count (λs=>s.1) ps.length (λi s=>s.2=acc++(ps.take i).map λp=>(p,L[k])) (by omega) rfl (by simp) λi s hi hs hJ=>?_
    obtain⟨ii,l⟩:=s;dsimp only at hs hJ⊢;subst hs hJ;refine .dec (λh=>?_) (λh=> .some ?_)
    .have qS:i<ps.length:=by omega
     refine .bind (.idx i rfl qS (.bind (.ub (by simp;omega) (.some ⟨qS,aQ (by omega),?_⟩))))
     grind [aiU]
    .have:i=ps.length:=by omega
     subst this
     show acc++_=_
     grind
 .have:k=L.length:=by omega
  subst this;rw[List.take_length]at g1;exact g1
end L
namespace L
def TN(rules:List fZ)(a d:Int):List Nat:=jN (kp rules (Bc a d)) rules.length
def CS(rules:List fZ)(a d:Int):List ik×List Int:=(TN rules a d).foldl (dB rules) ([],[])
def BB(rules:List fZ)(a d:Int):List Int:=(TN rules a d).map (jq rules (CS rules a d).1)
noncomputable def OO(rules:List fZ)(a d:Int):List Int:=(aiM (2 ^ (CS rules a d).1.length)).map λc:Nat=>oc (dH rules a d) (cy rules a d) (dq rules a d) (BB rules a d) (c:Int)
noncomputable def RR(rules:List fZ)(a d:Int):List yo:=([-2,-1]++dH rules a d).flatMap (eB (OO rules a d) (CS rules a d).1.length)
def xm{rules:List fZ}{a d:Int}:∀i∈TN rules a d,i<rules.length:=λi hi=>List.mem_range.1 (aji.1 hi).1
def mK(rules:List fZ)(a d:Int):dH rules a d=(TN rules a d).map λi:Nat=>(i:Int):=rfl
structure Fit(rules:List fZ)(a d:Int):Prop where
 len:rules.length<=60
 g:∀r∈rules,r.2.2.2.2.2.1.length<=100000
 t8:(TN rules a d).length<=8
theorem Fit.gd{rules:List fZ}{a d:Int}(h:Fit rules a d)(i:Nat):(gd rules i).length<=100000:=by
 unfold L.gd
 cases e:rules[i]? with
 |none=>simp
 |some r=>exact h.g r (List.mem_of_getElem? e)
def Fit.conds{rules:List fZ}{a d:Int}(h:Fit rules a d)(T:List Nat):∀x∈(T.foldl (dB rules) ([],[])).1,x.length<=100000:=λx hx=>by
 rcases zC rules T _ x hx with g|⟨i,rfl⟩
 .simp at g
 .exact h.gd i
def Fit.TE{rules:List fZ}{a d:Int}(h:Fit rules a d)(k:Nat):(((TN rules a d).take k).foldl (dB rules) ([],[])).1.length<=8:=by
 grind [uw,Fit.t8]
def Fit.n8{rules:List fZ}{a d:Int}(h:Fit rules a d):(CS rules a d).1.length<=8:=by
 have:=h.TE (TN rules a d).length;rw[List.take_length]at this;exact this
def Hu(rules:List fZ)(T:List Nat):∀s:List ik×List Int,(T.foldl (dB rules) s).2.length<=s.2.length+T.length:=by
 induction T with
 |nil=>intro s;simp
 |cons i T ih=>
  grind [dB]
def Nc(x:ik)(hl:x.length<=100000):M.bM aU x=aa x:=by
 unfold M.bM;rw[eJ (by simp;omega)];simp only[List.nil_append,aiA]
 cases x with
 |nil=>grind [Fi]
 |cons a x=>rfl
def fold_succ{rules:List fZ}{T:List Nat}{k:Nat}(h:k<T.length)(s:List ik×List Int):(T.take (k+1)).foldl (dB rules) s=dB rules ((T.take k).foldl (dB rules) s) T[k]:=by
 grind [aiU]
def Dz{rules:List fZ}{i:Nat}(h:i<rules.length):gd rules i=rules[i].2.2.2.2.2.1:=by grind [gd]
def P3{rules:List fZ}{a d:Int}(h:Fit rules a d):M.cD aU (dH rules a d) (cy rules a d) (dq rules a d) (BB rules a d) ((CS rules a d).1.length:Int)=aa (OO rules a d):=by
 have hl:(dH rules a d).length=(TN rules a d).length:=by rw[mK];simp
 exact J2 h.n8 (by have:=h.t8;omega) (by rw[hl];unfold cy TN;simp) (by rw[hl];unfold BB;simp)
def WR{rules:List fZ}{a d:Int}(h:Fit rules a d):M.gD aU (OO rules a d) (dH rules a d) ((CS rules a d).1.length:Int)=aa (RR rules a d):=by
 have hl:(dH rules a d).length=(TN rules a d).length:=by rw[mK];simp
 have h8:=ra h.n8;exact J3 (by unfold OO;simp;omega) (by have:=h.t8;omega)
def zE{l:Lw}{x:fY}{a1 a2 a3:Int}(hv:M.eZ aU l=aa ((0:Int),((0:Int),((0:Int),(0:Int)))))(h1:0<=a1)(EB:a1<(l.2.2.length:Int))(hx:idx l.2.2 a1=aa x)(h2:0<=a2)(Im:a2<(x.2.2.2.1.length:Int))(h3:0<=a3)(h3':a3<=109572)
 (hf:Fit x.2.2.2.2 a2 a3):M.jk aU l a1 a2 a3=aa (a2,(0:Int),(CS x.2.2.2.2 a2 a3).1,(CS x.2.2.2.2 a2 a3).2,RR x.2.2.2.2 a2 a3):=by
 unfold M.jk;rw[hv,aiA];refine Wp.eq (.ite (λh=>?_) λ_=>?_)
 .rw[vr.2 rfl]at h;cases h
 refine Wp.seq (λj=>j=ah) (.dec (λh=>absurd h1 (by omega)) λ_=> .some (aq (by omega))) λj hj=>?_
 subst hj
 refine .ite (λh=>(by cases h)) λ_=> .ba hx ?_
 refine Wp.seq (λj=>j=ah) (.dec (λh=>absurd h2 (by omega)) λ_=> .some (aq (by omega))) λj hj=>?_
 subst hj
 refine .ite (λh=>(by cases h)) λ_=>?_
 refine Wp.seq (λj=>j=ah) (.dec (λh=>absurd h3 (by omega)) λ_=> .some (aq (by omega))) λj hj=>?_
 subst hj
 refine .ite (λh=>(by cases h)) λ_=> .ba (zy x a2 a3 (by have:=hf.len;omega)) ?_
 have Uq:=xm (rules:=x.2.2.2.2) (a:=a2) (d:=a3);have TF:=P3 hf;have WS:=WR hf;have WT:CS x.2.2.2.2 a2 a3=(TN x.2.2.2.2 a2 a3).foldl (dB x.2.2.2.2) ([],[]):=rfl;have hBB:BB x.2.2.2.2 a2 a3=(TN x.2.2.2.2 a2 a3).map (jq x.2.2.2.2 (CS x.2.2.2.2 a2 a3).1):=rfl;have DA:=mK x.2.2.2.2 a2 a3
 have qS:(dH x.2.2.2.2 a2 a3).length=(TN x.2.2.2.2 a2 a3).length:=by rw[DA];simp
 have Mg:=hf.TE;have Ru:=hf.conds;have Sp:=hf.gd;have ht8:=hf.t8;have WH:=hf.len;generalize x.2.2.2.2=rules at*;dsimp only;refine .bind (nc.2 ⟨by omega,?_⟩);rw[qS]
 refine Wp.seq (λj=>j=(a2,BB rules a2 a3,(CS rules a2 a3).1,(CS rules a2 a3).2)) ?_ λj hj=>?_
 .refine Wp.count (λs=>s.1) (TN rules a2 a3).length (λk s=>s.2.1=a2/\(s.2.2.2.1,s.2.2.2.2)=((TN rules a2 a3).take k).foldl (dB rules) ([],[])/\s.2.2.1.length=(TN rules a2 a3).length/\∀i,∀h:i<s.2.2.1.length,∀h2:i<(TN rules a2 a3).length,i<k->s.2.2.1[i]=jq rules s.2.2.2.1 (TN rules a2 a3)[i]) (by omega) rfl (by grind) λk s hk hs hJ=>?_
  obtain⟨kk,a',bits,C,O⟩:=s;obtain⟨g1,g2,g3,g4⟩:=hJ;dsimp only at hs g1 g2 g3 g4⊢;subst hs g1;refine .dec (λh=>?_) (λh=> .some ?_)
  .have aH:k<(TN rules a' a3).length:=by omega
   have hb:=Uq _ (aiF aH)
   have Bx:idx (dH rules a' a3) (k:Int)=aa (((TN rules a' a3)[k]:Nat):Int):=by rw[DA,aC (by simpa using aH)];simp
   have WU:C.length<=8:=by have:=Mg k;rw[<-g2]at this;exact this
   have WV:O.length<=8:=by have:=Hu rules ((TN rules a' a3).take k) ([],[]);rw[<-g2]at this;simp only[List.length_nil,ai5]at this;omega
   have hCm:∀y∈C,y.length<=100000:=(by grind)
   have eU:=oG rules ((TN rules a' a3).take k) ([],[]);rw[<-g2]at eU
   have dZ:∀(s':List ik×List Int)(v:Int),s'=dB rules (C,O) (TN rules a' a3)[k]->v=jq rules s'.1 (TN rules a' a3)[k]->∀xn:List Int,xn.length=bits.length->(∀i,∀h:i<xn.length,∀h2:i<bits.length,xn[i]=if k=i then v else bits[i])->
    (a'=a'/\(s'.1,s'.2)=((TN rules a' a3).take (k+1)).foldl (dB rules) ([],[])/\xn.length=(TN rules a' a3).length/\∀i,∀h:i<xn.length,∀h2:i<(TN rules a' a3).length,i<k+1->xn[i]=jq rules s'.1 (TN rules a' a3)[i]):=λs' v Em eR xn Ur hbv=>by
    refine⟨rfl,by rw[fold_succ aH,<-g2,<-Em],by omega,λi h h2 hi=>?_⟩;rw[hbv i h (by omega)];by_cases e:k=i
    .grind
    .rw[aj e,g4 i (by omega) h2 (by omega),Em]
     have:=Gg rules (C,O) [(TN rules a' a3)[k]] (TN rules a' a3)[i] λdA=>eU _ (List.mem_take_iff_getElem.2 ⟨i,by omega,rfl⟩) dA
     exact this.symm
   have Rf:∀v:Int,(bg bits (k:Int) v).length=bits.length/\∀i,∀h:i<(bg bits (k:Int) v).length,∀h2:i<bits.length,(bg bits (k:Int) v)[i]=if k=i then v else bits[i]:=λv=>⟨b7 _ _ _,λi h h2=>by simp only[bg,aiI,List.getElem_set]⟩
   have Rg:∀v w:Int,(bg (bg bits (k:Int) w) (k:Int) v).length=bits.length/\∀i,∀h:i<(bg (bg bits (k:Int) w) (k:Int) v).length,∀h2:i<bits.length,(bg (bg bits (k:Int) w) (k:Int) v)[i]=if k=i then v else bits[i]:=λv w=>⟨by rw[b7,b7],λi h h2=>by
    simp only[bg,aiI,List.getElem_set]
    grind⟩
   refine Wp.seq (λj=>j.1=a'/\(j.2.2.1,j.2.2.2)=((TN rules a' a3).take (k+1)).foldl (dB rules) ([],[])/\j.2.1.length=(TN rules a' a3).length/\∀i,∀h:i<j.2.1.length,∀h2:i<(TN rules a' a3).length,i<k+1->j.2.1[i]=jq rules j.2.2.1 (TN rules a' a3)[i]) (.ba Bx (.bind (.idx k rfl (by omega) (.ba (aC hb) ?_)))) λj hj=> .some ⟨aH,aQ (by omega),hj⟩
   have Si:=Dz hb;rw[<-Si];have hgk:=Sp (TN rules a' a3)[k];refine .dec (λh=> .some ?_) (λh=> .ba (J0 C _ (by omega) hCm) ?_)
   .have h0:(gd rules (TN rules a' a3)[k]).length=0:=by exact_mod_cast h
    exact dZ (C,O) (-1) (by unfold dB;rw[al h0]) (by unfold jq;rw[al h0]) _ (Rf (-1)).1 (Rf (-1)).2
   .have h0:¬(gd rules (TN rules a' a3)[k]).length=0:=λg=>h (by rw[g];rfl)
    refine Wp.seq (λj=>j.2.1=a'/\(j.2.2.1,j.2.2.2)=dB rules (C,O) (TN rules a' a3)[k]/\j.1=jq rules j.2.2.1 (TN rules a' a3)[k]) (.dec (λhn=> .ba (Nc _ hgk) (.bind (.ub (by simp;omega) (.bind (.ub (by simp;omega) (.some ⟨rfl,?_,?_⟩)))))) (λhn=> .some ⟨rfl,?_,?_⟩)) λj hj=> .bind (.idx k rfl (by grind) (.some ?_))
    .grind [dB]
    .grind [jq,xl]
    .grind [dB]
    .unfold jq;rw[aj h0]
    .obtain⟨j1,j2,j3⟩:=hj;have:=dZ (j.2.2.1,j.2.2.2) j.1 j2 j3 _ (Rg j.1 (-1)).1 (Rg j.1 (-1)).2
     grind
  .have:k=(TN rules a' a3).length:=by omega
   subst this;rw[List.take_length]at g2
   have e1:C=(CS rules a' a3).1:=by rw[WT,<-g2]
   have e2:O=(CS rules a' a3).2:=by rw[WT,<-g2]
   show(a',bits,C,O)=_
   grind [List.ext_getElem,ajn]
 .subst hj;exact .ba TF (.ba WS (.some rfl))
end L
namespace L
def DB{α:Type}(P:Nat->Bool)(f:Int->List α):∀m,(ids P m).flatMap f=(aiM m).flatMap λi:Nat=>if P i=af then f (i:Int)else[]
 |0=>rfl
 |m+1=>by
  rw[ng,qU,List.flatMap_append,DB P f m]
  grind
def Gi{α β:Type}{l:List α}{f g:α->List β}(h:∀x∈l,f x=g x):l.flatMap f=l.flatMap g:=by
 induction l<;>grind
def DC{O:List Int}{n:Nat}{v:Int}(h:v∉O):eB O n v=[]:=by
 unfold eB;rw[al];unfold vn;refine List.length_eq_zero_iff.2 (List.eq_nil_iff_forall_not_mem.2 λj hj=>?_)
 grind [sY]
theorem Nd{rules:List fZ}{a d:Int}(h:Fit rules a d){v:Int}(hv:v∈OO rules a d):v= -1\/v= -2\/v∈dH rules a d:=by
 obtain⟨c,_,rfl⟩:=List.mem_map.1 hv
 have hl:(dH rules a d).length=(TN rules a d).length:=by rw[mK];simp
 have hp:(cy rules a d).length=(dH rules a d).length:=by rw[hl];unfold cy TN;simp
 obtain⟨_,hr⟩:=qj (cy rules a d) (dq rules a d) ((BB rules a d).map (flag (c:Int))) (by have:=h.t8;omega);unfold oc;generalize oH (cy rules a d) (dq rules a d) ((BB rules a d).map (flag (c:Int)))=s at hr;unfold Pl at hr
 rcases hr with rfl|rfl|⟨h0,h1⟩
 .exact .inl rfl
 .exact .inr (.inl rfl)
 .refine .inr (.inr ?_);obtain⟨x,hx,hm⟩:=xf (l:=dH rules a d) h0 (by omega)
  grind [vN]
def Nf{rules:List fZ}{a d:Int}(h:Fit rules a d):(aiM (rules.length+2)).flatMap (λk:Nat=>eB (OO rules a d) (CS rules a d).1.length ((k:Int)-2))=RR rules a d:=by
 unfold RR;generalize hn:(CS rules a d).1.length=n;rw[Nat.add_comm,List.range_add,List.flatMap_append,List.flatMap_append]
 congr 1
 rw[List.flatMap_map];unfold dH;rw[DB]
 refine Gi λi hi=>?_
 have e:((2+i:Nat):Int)-2=(i:Int):=by omega
 rw[e];split
 .rfl
 .rename_i g
  refine DC λhm=>?_
  rcases Nd h hm with h1|h1|h1
  .omega
  .omega
  .obtain⟨j,hj,hp,e⟩:=sY.1 h1
   grind
def Ng{l:Lw}{x:fY}{a1 a2 a3:Int}(hx:idx l.2.2 a1=aa x)(hf:Fit x.2.2.2.2 a2 a3):M.lH aU l a1 a2 a3=aa (a2,(CS x.2.2.2.2 a2 a3).1,(CS x.2.2.2.2 a2 a3).2,RR x.2.2.2.2 a2 a3):=by
 unfold M.lH;rw[hx,aiA,M4 x a2 a3 (by have:=hf.len;omega),aiA];have Uq:=xm (rules:=x.2.2.2.2) (a:=a2) (d:=a3);have WT:CS x.2.2.2.2 a2 a3=(TN x.2.2.2.2 a2 a3).foldl (dB x.2.2.2.2) ([],[]):=rfl;have hBB:BB x.2.2.2.2 a2 a3=(TN x.2.2.2.2 a2 a3).map (jq x.2.2.2.2 (CS x.2.2.2.2 a2 a3).1):=rfl
 have hOO:OO x.2.2.2.2 a2 a3=(aiM (2 ^ (CS x.2.2.2.2 a2 a3).1.length)).map λc:Nat=>oc (dH x.2.2.2.2 a2 a3) (cy x.2.2.2.2 a2 a3) (dq x.2.2.2.2 a2 a3) (BB x.2.2.2.2 a2 a3) (c:Int):=rfl
 have DA:=mK x.2.2.2.2 a2 a3
 have qS:(dH x.2.2.2.2 a2 a3).length=(TN x.2.2.2.2 a2 a3).length:=by rw[DA];simp
 have vd:(cy x.2.2.2.2 a2 a3).length=(TN x.2.2.2.2 a2 a3).length:=by unfold cy TN;simp
 have Mg:=hf.TE;have hn8:=hf.n8;have Ru:=hf.conds;have Sp:=hf.gd;have ht8:=hf.t8;have WH:=hf.len;have hRR:=Nf hf;generalize x.2.2.2.2=rules at*;dsimp only;refine Wp.eq (Wp.seq (λj=>j=(a2,(CS rules a2 a3).1,(CS rules a2 a3).2)) ?_ λj hj=>?_)
 .rw[qS]
  refine Wp.count (λs=>s.1) (TN rules a2 a3).length (λk s=>s.2.1=a2/\(s.2.2.1,s.2.2.2)=((TN rules a2 a3).take k).foldl (dB rules) ([],[])) (by omega) rfl ⟨rfl,rfl⟩ λk s hk hs hJ=>?_
  obtain⟨kk,a',C,O⟩:=s;obtain⟨g1,g2⟩:=hJ;dsimp only at hs g1 g2⊢;subst hs g1;refine .dec (λh=>?_) (λh=> .some ?_)
  .have aH:k<(TN rules a' a3).length:=by omega
   have hb:=Uq _ (aiF aH)
   have Bx:idx (dH rules a' a3) (k:Int)=aa (((TN rules a' a3)[k]:Nat):Int):=by rw[DA,aC (by simpa using aH)];simp
   have WU:C.length<=8:=by have:=Mg k;rw[<-g2]at this;exact this
   have WV:O.length<=8:=by have:=Hu rules ((TN rules a' a3).take k) ([],[]);rw[<-g2]at this;simp only[List.length_nil,ai5]at this;omega
   have hCm:∀y∈C,y.length<=100000:=(by grind)
   refine Wp.seq (λj=>j.1=a'/\(j.2.1,j.2.2)=((TN rules a' a3).take (k+1)).foldl (dB rules) ([],[])) (.ba Bx (.ba (aC hb) ?_)) λj hj=> .some ⟨aH,aQ (by omega),hj⟩
   have Si:=Dz hb;rw[<-Si,fold_succ aH,<-g2];have hgk:=Sp (TN rules a' a3)[k]
   refine Wp.seq (λj=>j=af↔(gd rules (TN rules a' a3)[k]).length≠0/\¬0<=gV (gd rules (TN rules a' a3)[k]) C) (.dec (λh=> .ba (Dy C _ (by omega) hCm) (.some ?_)) (λh=> .some (by grind))) λj hj=> .ite (λh=>?_) (λh=> .some ⟨rfl,?_⟩)
   .grind
   .obtain⟨h0,h1⟩:=hj.1 h;refine .bind (.ub (by simp;omega) (.bind (.ub (by simp;omega) (.ba Bx (.bind (.ub (by simp;omega) (.some ⟨rfl,?_⟩)))))))
    grind [dB]
   grind [dB]
  .have:k=(TN rules a' a3).length:=by omega
   subst this;rw[List.take_length]at g2
   show(a',C,O)=_
   grind
 subst hj;dsimp only;have WW:=Ru (TN rules a2 a3);rw[<-WT]at WW;have h8:=ra hn8
 refine Wp.seq (λj=>j=OO rules a2 a3) ?_ λj hj=>?_
 .rw[hOO];generalize hn:(CS rules a2 a3).1.length=n at*
  refine Wp.count (λs=>s.1) (2 ^ n) (λk s=>s.2=(aiM k).map λc:Nat=>oc (dH rules a2 a3) (cy rules a2 a3) (dq rules a2 a3) (BB rules a2 a3) (c:Int)) (by omega) rfl rfl λk s hk hs hJ=>?_
  obtain⟨kk,O⟩:=s;dsimp only at hs hJ⊢;subst hs hJ;refine .ba (o8 (by omega)) (.dec (λh=>?_) (λh=> .some ?_))
  .have aH:k<2 ^ n:=by exact_mod_cast h
   refine Wp.seq (λj=>j=(aiM (k+1)).map λc:Nat=>oc (dH rules a2 a3) (cy rules a2 a3) (dq rules a2 a3) (BB rules a2 a3) (c:Int)) ?_ λj hj=> .some ⟨aH,aQ (by omega),hj⟩
   rw[qS]
   refine Wp.seq (λj=>j=(BB rules a2 a3).map (flag (k:Int))) ?_ λj hj=>?_
   .rw[hBB]
    refine Wp.count (λs=>s.1) (TN rules a2 a3).length (λi s=>s.2=(((TN rules a2 a3).take i).map (jq rules (CS rules a2 a3).1)).map (flag (k:Int))) (by omega) rfl rfl λi s hi hs hJ=>?_
    obtain⟨ii,F⟩:=s;dsimp only at hs hJ⊢;subst hs hJ;refine .dec (λh=>?_) (λh=> .some ?_)
    .have Jh:i<(TN rules a2 a3).length:=by omega
     have hb:=Uq _ (aiF Jh)
     have Bx:idx (dH rules a2 a3) (i:Int)=aa (((TN rules a2 a3)[i]:Nat):Int):=by rw[DA,aC (by grind)];simp
     refine Wp.seq (λs=>s=(((TN rules a2 a3).take (i+1)).map (jq rules (CS rules a2 a3).1)).map (flag (k:Int))) (.ba Bx (.ba (aC hb) ?_)) λj hj=> .some ⟨Jh,aQ (by omega),hj⟩
     rw[<-Dz hb]
     have Rh:∀v:Bool,v=flag (k:Int) (jq rules (CS rules a2 a3).1 (TN rules a2 a3)[i])->(((TN rules a2 a3).take i).map (jq rules (CS rules a2 a3).1)).map (flag (k:Int))++[v]=(((TN rules a2 a3).take (i+1)).map (jq rules (CS rules a2 a3).1)).map (flag (k:Int)):=λv hv=>by
      grind [aiU]
     refine .dec (λh=> .bind (.ub (by simp;omega) (.some (Rh _ ?_)))) (λh=> .ba (Dy _ _ (by omega) WW) ?_)
     .grind [jq,flag]
     .have h0:¬(gd rules (TN rules a2 a3)[i]).length=0:=λg=>h (by rw[g];rfl)
      have hc:0<=gV (gd rules (TN rules a2 a3)[i]) (CS rules a2 a3).1:=by
       rw[WT];exact oG rules _ _ _ (aiF Jh) h0
      refine .ba (Nb hc) (.bind (.ub (by simp;omega) (.some (Rh _ ?_))));unfold jq flag;rw[aj h0,aj (by omega)];rfl
    .have:i=(TN rules a2 a3).length:=by omega
     subst this
     show _=_
     grind
   .subst hj;obtain⟨hs,hr⟩:=qj (cy rules a2 a3) (dq rules a2 a3) ((BB rules a2 a3).map (flag (k:Int))) (by omega);rw[S.TD]at hs;refine .ba hs ?_;have P2:oc (dH rules a2 a3) (cy rules a2 a3) (dq rules a2 a3) (BB rules a2 a3) (k:Int)=zD (dH rules a2 a3) (oH (cy rules a2 a3) (dq rules a2 a3) ((BB rules a2 a3).map (flag (k:Int)))):=rfl;rw[List.range_succ,List.map_append];generalize oH (cy rules a2 a3) (dq rules a2 a3) ((BB rules a2 a3).map (flag (k:Int)))=v at hr P2⊢;unfold Pl at hr
    refine Wp.seq (λj=>j=zD (dH rules a2 a3) v) (.dec (λh=> .ba (vN h (by omega)) (.some rfl)) (λh=> .some ?_)) λj hj=> .bind (.ub (by simp;omega) (.some ?_))
    all_goals grind [zD]
  .have:k=2 ^ n:=by have:¬k<2 ^ n:=λg=>h (by grind);omega
   subst this;rfl
 subst hj;rw[<-hRR]
 have hOl:(OO rules a2 a3).length<=256:=by rw[hOO];simp;omega
 generalize hn:(CS rules a2 a3).1.length=n at*
 refine Wp.seq (λj=>j=(a2,(CS rules a2 a3).1,(CS rules a2 a3).2,(aiM (rules.length+2)).flatMap λk:Nat=>eB (OO rules a2 a3) n ((k:Int)-2))) ?_ λj hj=> .some (by rw[hj])
 generalize OO rules a2 a3=O at hOl⊢;generalize(CS rules a2 a3).1=C at*;generalize(CS rules a2 a3).2=W at*
 refine Wp.count (λs=>s.1+2) (rules.length+2) (λk s=>s.2.1=a2/\s.2.2.1=C/\s.2.2.2.1=W/\s.2.2.2.2=((aiM k).flatMap λk:Nat=>eB O n ((k:Int)-2))/\s.2.2.2.2.length<=k*65536) (by omega) rfl ⟨rfl,rfl,rfl,rfl,aiH _⟩ λk s hk hs hJ=>?_
 obtain⟨v,a',C',W',acc⟩:=s;obtain⟨g1,g2,g3,g4,g5⟩:=hJ;dsimp only at hs g1 g2 g3 g4 g5⊢
 obtain rfl:v=(k:Int)-2:=by omega
 subst g1 g2 g3;refine .dec (λh=>?_) (λh=> .some ?_)
 .have aH:k<rules.length+2:=by omega
  have M0:=rZ O n ((k:Int)-2)
  have hw:aiB.wrap ((k:Int)-2+1)+2=((k+1:Nat):Int):=by rw[bH (by omega) (by omega)];omega
  refine Wp.seq (λs=>s=(a',C',W',acc++eB O n ((k:Int)-2))) ?_ λj hj=> .some ⟨aH,hw,by rw[hj],by rw[hj],by rw[hj],by rw[hj,qU,<-g4],by grind⟩
  refine Wp.seq (λs=>s=(a',C',W',acc++eB O n ((k:Int)-2))) ?_ λj hj=> .some (by rw[hj])
  refine Wp.seq (λj=>j=vn O ((k:Int)-2)) ?_ λj hj=>?_
  .refine Wp.count (λs=>s.1) O.length (λi s=>s.2=ids (λz=>decide (O[z]? =aa ((k:Int)-2))) i) (by omega) rfl rfl λi s hi hs hJ=>?_
   obtain⟨ii,l⟩:=s;dsimp only at hs hJ⊢;subst hs hJ;refine .dec (λh=>?_) (λh=> .some ?_)
   .have qS:i<O.length:=by omega
    have hl:=nK (λz=>decide (O[z]? =aa ((k:Int)-2))) i
    refine Wp.seq (λs=>s=ids (λz=>decide (O[z]? =aa ((k:Int)-2))) (i+1)) (.bind (.idx i rfl qS ?_)) λj hj=> .some ⟨qS,aQ (by omega),hj⟩
    rw[ng,aiE qS];refine .dec (λh=> .bind (.ub (by simp;omega) (.some ?_))) (λh=> .some ?_)
    all_goals grind
   .have:i=O.length:=by omega
    subst this;rfl
  .subst hj;have vd:=nK (λz=>decide (O[z]? =aa ((k:Int)-2))) O.length;refine .dec (λh=> .some ?_) (λh=> .ba (PV (l:=vn O ((k:Int)-2)) (by unfold vn;omega) (n:Int)) ?_)
   .grind [eB]
   .have dA:¬(vn O ((k:Int)-2)).length=0:=λg=>h (by rw[g];rfl)
    have hr:eB O n ((k:Int)-2)=(mn (vn O ((k:Int)-2)) n).map λp=>(p,(k:Int)-2):=by unfold eB;rw[aj dA]
    have Og:=Gh (vn O ((k:Int)-2)) n;rw[hr];have hmn:Dl (Hp (n:Int)) (λx=>(x:Int)∈vn O ((k:Int)-2)) (eA (vn O ((k:Int)-2)))=mn (vn O ((k:Int)-2)) n:=rfl;rw[hmn];generalize mn (vn O ((k:Int)-2)) n=ps at Og⊢
    refine Wp.count (λs=>s.1) ps.length (λi s=>s.2=(a',C',W',acc++(ps.take i).map λp=>(p,(k:Int)-2))) (by omega) rfl (by simp) λi s hi hs hJ=>?_
    obtain⟨ii,Vp,C'',W'',l⟩:=s;cases hJ;dsimp only at hs⊢;subst hs;refine .dec (λh=>?_) (λh=> .some ?_)
    .have qS:i<ps.length:=by omega
     refine .bind (.idx i rfl qS (.bind (.ub (by simp;omega) (.some ⟨qS,aQ (by omega),?_⟩))))
     grind [aiU]
    .have:i=ps.length:=by omega
     subst this
     show(_,_,_,acc++_)=_
     grind
 .have:k=rules.length+2:=by omega
  subst this
  show(a',C',W',acc)=_
  rw[g4]
end L
namespace L
theorem Hv{l:Lw}{x:fY}{k:Nat}{r:fZ}:uf l x k r=0↔nU r.1=af/\¬jo (x.2.2.2.2.take k) r.1/\(0<=(r.2.1:Int)/\(r.2.1:Int)<(x.2.2.2.1.length:Int))/\¬ue x k r/\
 ¬((r.2.2.2.1:Int)<0\/9<(r.2.2.2.1:Int)\/¬VR r.2.2.2.2.1\/(r.2.2.2.2.1.1:Int)=r.2.2.2.2.1.2)/\JF x k r.2.1<8/\plain r.2.2.2.2.2.2.2/\
 (0<r.2.2.2.2.2.1.length->wZ r.2.2.2.2.2.1 (gp l x) ((1:Int),(0:Int))=0)/\(match x.2.2.2.1[(r.2.1:Int).toNat]? with
   |some d=>wZ r.2.2.2.2.2.2.1 (gp l x) d.2
   |none=>0)=0:=by
 unfold uf
 grind [gp]
theorem Valid.C8{l:Lw}(h:Valid l):w4 l=C8:=by
 grind [Valid.scopes,w4,cu]
def count_le{l:Lw}{x:fY}(h:∀i,∀hi:i<x.2.2.2.2.length,uf l x i x.2.2.2.2[i]=0)(a:Int):∀m,m<=x.2.2.2.2.length->(x.2.2.2.2.take m).countP (λr=>decide ((r.2.1:Int)=a))<=8
 |0,_=>by simp
 |m+1,hm=>by
  have ih:=count_le h a m (by omega)
  have aH:m<x.2.2.2.2.length:=by omega
  rw[<-aiU aH,List.countP_append,List.countP_singleton]
  grind [Hv,JF]
def xo{rules:List fZ}(a d:Int):∀m,m<=rules.length->(jN (kp rules (Bc a d)) m).length<=(rules.take m).countP λr=>decide ((r.2.1:Int)=a)
 |0,_=>by simp[jN]
 |m+1,hm=>by
  have ih:=xo (rules:=rules) a d m (by omega)
  have aH:m<rules.length:=by omega
  rw[zx,<-aiU aH,List.countP_append,List.countP_singleton,List.length_append,Hr aH]
  grind [Bc]
theorem Fit.of{l:Lw}(hv:Valid l)(hs:fI l){k:Nat}(hk:k<l.2.2.length)(a d:Int):Fit l.2.2[k].2.2.2.2 a d:=by
 have tg:=hs.2.2.2.2.2 _ (aiF hk);have hr:=(hv.scope k hk).2.2.2.2.2.2.1;refine⟨tg.2.2.2.1,λr Kv=>by have:=(tg.2.2.2.2.2.2 r Kv).2.2.1;omega,?_⟩;have h1:=xo (rules:=l.2.2[k].2.2.2.2) a d _ (aiH _);have h2:=count_le hr a _ (aiH _);exact ai4 h1 h2
abbrev two:List aP.den:=[((⟨#[115]⟩:ByteArray),((-1:Int),(([((⟨#[120]⟩:ByteArray),((1:Int),(0:Int)))]:List bF.den),(([((⟨#[100]⟩:ByteArray),((2:Int),(0:Int)))]:List bF.den),([((⟨#[97]⟩:ByteArray),((0:Int),((-1:Int),((0:Int),(((0:Int),(109573:Int)),(([]:List az.den),(([((2:Int),(1:Int))]:List az.den),ajO))))))),((⟨#[98]⟩:ByteArray),((0:Int),((0:Int),((0:Int),(((0:Int),(109573:Int)),(([((7:Int),(0:Int))]:List az.den),(([((2:Int),(2:Int))]:List az.den),ajO)))))))]:List da.den)))))]
end L
namespace L
def kc(l:List Int)(i:Nat):Int:=l.getD i 0
def par(i:Nat):Nat:=(i-1)/2
def r6(l:List Int)(n:Nat):Prop:=∀k,0<k->k<n->kc l (par k)<=kc l k
def swp(l:List Int)(i j:Nat):List Int:=(l.set i (kc l j)).set j (kc l i)
def qk{l:List Int}{i:Nat}(h:i<l.length):kc l i=l[i]:=by unfold kc;simp[h]
def Hw(l:List Int)(i k:Nat)(v:Int)(h:i<l.length):kc (l.set i v) k=if k=i then v else kc l k:=by
 unfold kc;rw[List.getD_eq_getElem?_getD,List.getD_eq_getElem?_getD,List.getElem?_set];by_cases e:k=i
 .rw[al e.symm,al h,al e];rfl
 .rw[aj (λg=>e g.symm),aj e]
def qV(l:List Int)(i j:Nat):(swp l i j).length=l.length:=by unfold swp;simp
def nY(l:List Int)(i j k:Nat)(hi:i<l.length)(hj:j<l.length):kc (swp l i j) k=if k=j then kc l i else if k=i then kc l j else kc l k:=by
 unfold swp;rw[Hw _ _ _ _ (by simpa using hj),Hw _ _ _ _ hi]
def xp(l:List Int)(i j:Nat)(hi:i<l.length)(hj:j<l.length):(swp l i j).Perm l:=by
 rw[List.perm_iff_count];intro x;unfold swp;rw[List.count_set (by simpa using hj),List.count_set hi,qk hi,qk hj,List.getElem_set]
 have h1:(if(l[i]==x)=af then 1 else 0)<=l.count x:=by
  split
  .rename_i h;exact List.count_pos_iff.2 (by rw[beq_iff_eq]at h;rw[<-h];exact aiF hi)
  .exact Nat.zero_le _
 by_cases e:i=j
 .subst e;simp only[if_true];omega
 .rw[aj e];omega
def swap_eq(l:List Int)(i j:Nat)(hi:i<l.length)(hj:j<l.length):M.cR aU (i:Int) (j:Int) l=aa (swp l i j):=by
 unfold M.cR;simp only[aC hi,aC hj,aiA];rw[aC (show j<(bg l (i:Int) l[j]).length by unfold bg;simpa using hj),aiA];unfold swp bg;rw[qk hi,qk hj,aiI,aiI]
def Bj(l:List Int)(i j:Nat)(hi:i<l.length)(hj:j<l.length):M.dG aU l (i:Int) (j:Int)=aa (decide (kc l i<kc l j)):=by
 unfold M.dG;rw[aC hi,aC hj,qk hi,qk hj];rfl
def TG(l:List Int)(j:Nat):Prop:=(∀k,0<k->k<l.length->k≠j->kc l (par k)<=kc l k)/\(0<j->∀k,0<k->k<l.length->par k=j->kc l (par j)<=kc l k)
def lJ{k:Nat}(h:0<k):par k<k:=by unfold par;omega
def TG.done{l:List Int}{i:Nat}(h:TG l i)(hi:i=0\/kc l (par i)<=kc l i):r6 l l.length:=λk h0 hk=>by
 by_cases e:k=i
 .subst e
  rcases hi with hi|hi
  .omega
  .exact hi
 .exact h.1 k h0 hk e
def TG.step{l:List Int}{i:Nat}(h:TG l i)(h0:0<i)(hi:i<l.length)(aH:kc l i<kc l (par i)):TG (swp l (par i) i) (par i):=by
 have hp:=lJ h0
 have vd:par i<l.length:=by omega
 obtain⟨h1,h2⟩:=h;have h2:=h2 h0;refine⟨λk k0 hk dA=>?_,λp0 k k0 hk vF=>?_⟩
 .rw[qV]at hk;rw[nY _ _ _ _ vd hi,nY _ _ _ _ vd hi];have vF:=lJ k0;by_cases e:k=i
  .subst e;rw[aj (by omega),al rfl,al rfl];omega
  .rw[aj e,aj dA];by_cases e2:par k=i
   .rw[al e2];exact h2 k k0 hk e2
   .rw[aj e2];by_cases e3:par k=par i
    .rw[al e3];have:=h1 k k0 hk e;rw[e3]at this;omega
    .rw[aj e3];exact h1 k k0 hk e
 .rw[qV]at hk;rw[nY _ _ _ _ vd hi,nY _ _ _ _ vd hi];have hpp:=lJ p0;have Zf:=h1 (par i) p0 vd (by omega);rw[aj (by omega),aj (by omega)];by_cases e:k=i
  .subst e;rw[al rfl];exact Zf
  .have hkp:k≠par i:=λe2=>by
    rw[e2]at vF;omega
   rw[aj e,aj hkp];have:=h1 k k0 hk e;rw[vF]at this;omega
def TH{i:Nat}(h0:0<i)(hi:i<=1000000):aiB.wrap (aiR (aiB.wrap ((i:Int)-(1:Int))) (2:Int))=((par i:Nat):Int):=by
 rw[bH (n:=(i:Int)-1) (by omega) (by omega),Int.tdiv_eq_ediv_of_nonneg (by omega)];unfold par;rw[bH (by omega) (by omega)];omega
def WX(l:List Int)(j:Nat)(hj:j<l.length)(hl:l.length<=1000000)(hU:TG l j):Wp (M.fV aU (j:Int) l) λr=>r.Perm l/\r6 r r.length:=by
 unfold M.fV
 refine Wp.loop (λs=>∃i:Nat,s.1=(i:Int)/\i<s.2.length/\s.2.Perm l/\TG s.2 i) (λs=>s.1.toNat) ⟨j,rfl,hj, .refl l,hU⟩ (by show(j:Int).toNat<aU;unfold aU;omega) λs hs=>?_
 obtain⟨c,q⟩:=s;obtain⟨i,hc,hi,hp,hu⟩:=hs;dsimp only at hc hi hp hu;subst hc;have hlen:=hp.length_eq;dsimp only;by_cases h0:i=0
 .subst h0
  have e:aiB.wrap (aiR (aiB.wrap (((0:Nat):Int)-(1:Int))) (2:Int))=((0:Nat):Int):=by decide
  rw[e,al (ao rfl),aiA,al rfl];exact .some ⟨hp,hu.done (.inl rfl)⟩
 .have vd:=lJ (show 0<i by omega);rw[TH (by omega) (by omega),aj (by rw[ax];omega),Bj _ _ _ hi (by omega),aiA,aiA];by_cases aH:kc q i<kc q (par i)
  .rw[aj (by simpa using aH),swap_eq _ _ _ (by omega) hi,aiA];refine .some ⟨⟨par i,rfl,by show par i<(swp q (par i) i).length;rw[qV];omega,(xp q _ _ (by omega) hi).trans hp,hu.step (by omega) hi aH⟩,?_⟩
   show((par i:Nat):Int).toNat<((i:Nat):Int).toNat
   omega
  .rw[al (by simpa using aH)];exact .some ⟨hp,hu.done (.inr (by omega))⟩
def Ri(l:List Int)(i n:Nat):Prop:=(∀k,0<k->k<n->par k≠i->kc l (par k)<=kc l k)/\(0<i->∀k,0<k->k<n->par k=i->kc l (par i)<=kc l k)
def Ri.done{l:List Int}{i n:Nat}(h:Ri l i n)(hi:∀k,0<k->k<n->par k=i->kc l i<=kc l k):r6 l n:=λk h0 hk=>by
 by_cases e:par k=i
 .rw[e];exact hi k h0 hk e
 .exact h.1 k h0 hk e
def Ri.step{l:List Int}{i j n:Nat}(h:Ri l i n)(hj0:0<j)(Vc:j<n)(hn:n<=l.length)(WY:par j=i)(aH:kc l j<kc l i)(J4:∀k,0<k->k<n->par k=i->kc l j<=kc l k):Ri (swp l i j) j n:=by
 have hp:=lJ hj0
 have qS:i<l.length:=by omega
 have ER:j<l.length:=by omega
 obtain⟨h1,h2⟩:=h;refine⟨λk k0 hk dA=>?_,λ_ k k0 hk vF=>?_⟩
 .rw[nY _ _ _ _ qS ER,nY _ _ _ _ qS ER,aj dA];by_cases e:k=j
  .subst e;rw[al WY,al rfl];omega
  .rw[aj e];by_cases e2:k=i
   .subst e2;have vF:=lJ k0;rw[aj (by omega),al rfl];exact h2 k0 j hj0 Vc WY
   .rw[aj e2];by_cases e3:par k=i
    .rw[al e3];exact J4 k k0 hk e3
    .rw[aj e3];exact h1 k k0 hk e3
 .have hkp:=lJ k0;rw[nY _ _ _ _ qS ER,nY _ _ _ _ qS ER,WY,aj (by omega),al rfl,aj (by omega),aj (by omega)];have:=h1 k k0 hk (by omega);rw[vF]at this;exact this
def P4(l:List Int)(n:Nat)(hn:n<=l.length)(hl:l.length<=1000000)(hD:Ri l 0 n):Wp (M.fc aU (0:Int) (n:Int) l) λr=>r.2.Perm l/\r6 r.2 n/\∀k,n<=k->kc r.2 k=kc l k:=by
 unfold M.fc;rw[wp_bind]
 refine(?_:Wp _ λr=>r.2.Perm l/\r6 r.2 n/\∀k,n<=k->kc r.2 k=kc l k).mono λr hr=> .some hr
 refine Wp.loop (λs=>∃i:Nat,s.1=(i:Int)/\i<=n/\s.2.Perm l/\Ri s.2 i n/\∀k,n<=k->kc s.2 k=kc l k) (λs=>n-s.1.toNat) ⟨0,rfl,Nat.zero_le _, .refl l,hD,λ_ _=>rfl⟩ (by show n-_<aU;unfold aU;omega) λs hs=>?_
 obtain⟨c,q⟩:=s;obtain⟨i,hc,hi,hp,hu,hk⟩:=hs;dsimp only at hc hi hp hu hk;subst hc;have hlen:=hp.length_eq;dsimp only
 have e1:aiB.wrap (aiB.wrap ((2:Int)*(i:Int))+(1:Int))=((2*i+1:Nat):Int):=by
  rw[bH (n:=(2:Int)*(i:Int)) (by omega) (by omega),bH (by omega) (by omega)];omega
 have e2:aiB.wrap (((2*i+1:Nat):Int)+(1:Int))=((2*i+2:Nat):Int):=by
  rw[bH (by omega) (by omega)];omega
 rw[e1,e2];by_cases h1:n<=2*i+1
 .rw[al (by rw[ax];omega),aiA,al rfl];exact .some ⟨hp,hu.done λk k0 CE vF=>by unfold par at vF;omega,hk⟩
 rw[aj (by rw[ax];omega),aiA,aj (by rw[ax];omega)]
 have key:∀j:Nat,0<j->j<n->par j=i->(∀k,0<k->k<n->par k=i->kc q j<=kc q k)->Wp ((M.dG aU q (j:Int) (i:Int)).bind λy7=>
  (if(!y7)=af then
  some (ajy ((i:Int),q))
  else
  (M.cR aU (i:Int) (j:Int) q).bind λy8=>
  some (Sum.inl ((j:Int),y8)))) (zi (λs:Int×List Int=>∃i:Nat,s.1=(i:Int)/\i<=n/\s.2.Perm l/\Ri s.2 i n/\∀k,n<=k->kc s.2 k=kc l k) (λs=>n-s.1.toNat) ((i:Int),q) λr:Int×List Int=>r.2.Perm l/\r6 r.2 n/\∀k,n<=k->kc r.2 k=kc l k):=λj j0 hj WY J4=>by
  have:=lJ j0;rw[Bj _ _ _ (by omega) (by omega),aiA];by_cases aH:kc q j<kc q i
  .rw[aj (by simpa using aH),swap_eq _ _ _ (by omega) (by omega),aiA];refine .some ⟨⟨j,rfl,by omega,(xp q _ _ (by omega) (by omega)).trans hp,hu.step j0 hj (by omega) WY aH J4,λk CE=>?_⟩,?_⟩
   .show kc (swp q i j) k=kc l k
    rw[nY _ _ _ _ (by omega) (by omega),aj (by omega),aj (by omega)];exact hk k CE
   .show n-((j:Nat):Int).toNat<n-((i:Nat):Int).toNat
    omega
  .rw[al (by simpa using aH)];exact .some ⟨hp,hu.done λk k0 CE vF=>by have:=J4 k k0 CE vF;omega,hk⟩
 have kids:∀k,0<k->k<n->par k=i->k=2*i+1\/k=2*i+2:=λk k0 _ vF=>by unfold par at vF;omega
 by_cases h2:2*i+2<n
 .rw[al (by rw[ax];omega),Bj _ _ _ (by omega) (by omega),aiA,aiA];by_cases aH:kc q (2*i+2)<kc q (2*i+1)
  .rw[al (by simpa using aH),aiA]
   exact key _ (by omega) h2 (by unfold par;omega) λk k0 CE vF=>by rcases kids k k0 CE vF with rfl|rfl<;>omega
  .rw[aj (by simpa using aH),aiA]
   exact key _ (by omega) (by omega) (by unfold par;omega) λk k0 CE vF=>by rcases kids k k0 CE vF with rfl|rfl<;>omega
 .rw[aj (by rw[ax];omega),aiA,aj (by decide),aiA]
  exact key _ (by omega) (by omega) (by unfold par;omega) λk k0 CE vF=>by
   rcases kids k k0 CE vF with rfl|rfl
   .exact ajz _
   .omega
def Hx(x:Int)(l:List Int)(hl:l.length<=999999)(hH:r6 l l.length):Wp (M.cX aU x l) λr=>r.Perm (x::l)/\r6 r r.length:=by
 unfold M.cX M.jm M.dY;rw[eJ (by simp;omega)];simp only[aiA]
 have e:aiB.wrap (((l++[x]).length:Int)-(1:Int))=((l.length:Nat):Int):=by
  rw[bH (by simp) (by simp;omega)];simp
 rw[e,wp_bind]
 have Io:∀k,k<l.length->kc (l++[x]) k=kc l k:=λk hk=>by unfold kc;simp[ajw hk]
 refine(WX (l++[x]) l.length (by simp) (by simp;omega) ⟨λk k0 hk dA=>?_,λh0 k k0 hk vF=>?_⟩).mono λr hr=> .some ⟨hr.1.trans (List.perm_append_singleton x l),hr.2⟩
 .have kG:k<l.length:=by simp at hk;omega
  have:=lJ k0;rw[Io _ kG,Io _ (by omega)];exact hH k k0 kG
 .have:=lJ k0;simp at hk;omega
def r6.min{l:List Int}{n:Nat}(h:r6 l n):∀k,k<n->kc l 0<=kc l k:=λk=>by
 induction k using Nat.strongRecOn with
 |_ k ih=>
  intro hk;by_cases h0:k=0
  .subst h0;exact ajz _
  .have hp:=lJ (show 0<k by omega);have:=ih (par k) hp (by omega);have:=h k (by omega) hk;omega
def TJ(l:List Int)(h0:0<l.length)(hl:l.length<=1000000)(hH:r6 l l.length):Wp (M.fG aU l) λr=>l.Perm (r.1::r.2)/\r6 r.2 r.2.length/\∀y∈r.2,r.1<=y:=by
 unfold M.fG M.dY
 obtain⟨n,hn⟩:∃n,l.length=n+1:=⟨l.length-1,by omega⟩
 have e:aiB.wrap ((l.length:Int)-(1:Int))=((n:Nat):Int):=by rw[bH (by omega) (by omega)];omega
 rw[aiA,e];have sw:=swap_eq l 0 n (by omega) (by omega);rw[show((0:Nat):Int)=(0:Int)from rfl]at sw;rw[sw,aiA,wp_bind]
 have hs:=λk=>nY l 0 n k (by omega) (by omega)
 refine(P4 (swp l 0 n) n (by rw[qV];omega) (by rw[qV];omega) ⟨λk k0 hk dA=>?_,λh=>by omega⟩).mono λr hr=>?_
 .have:=lJ k0;rw[hs,hs,aj (by omega),aj dA,aj (by omega),aj (by omega)];exact hH k k0 (by omega)
 .obtain⟨b,q⟩:=r;obtain⟨h1,h2,h3⟩:=hr;dsimp only at h1 h2 h3⊢
  have hq:q.length=n+1:=by rw[h1.length_eq,qV];exact hn
  have e2:aiB.wrap ((q.length:Int)-(1:Int))=((n:Nat):Int):=by rw[bH (by omega) (by omega)];omega
  have hqn:q[n]'(by omega)=kc l 0:=by
   rw[<-qk (l:=q) (by omega),h3 n (aiH _),hs];by_cases e0:n=0
   .rw[al rfl]
   .rw[al rfl]
  unfold M.lG;rw[e2,aC (by omega),aiA,oB (by omega),aiA,aiA]
  have Rj:l.Perm (q[n]'(by omega)::q.take n):=by
   have e3:q=q.take n++[q[n]'(by omega)]:=by
    rw[aiU (by omega),<-hq,List.take_length]
   refine((xp l 0 n (by omega) (by omega)).symm.trans h1.symm).trans ?_;have:(q.take n++[q[n]'(by omega)]).Perm (q[n]'(by omega)::q.take n):=List.perm_append_singleton _ _;rw[<-e3]at this;exact this
  refine .some ⟨Rj,λk k0 hk=>?_,λy hy=>?_⟩
  .have ht:(q.take n).length=n:=by rw[ai5];omega
   have hk:k<n:=by rw[<-ht];exact hk
   have vF:=lJ k0
   have tk:∀i,i<n->kc (q.take n) i=kc q i:=λi hi=>by unfold kc;simp[ajf,hi]
   show kc (q.take n) (par k)<=kc (q.take n) k
   rw[tk _ hk,tk _ (by omega)];exact h2 k k0 hk
  .show q[n]'(by omega)<=y
   rw[hqn];have:y∈l:=Rj.symm.subset (List.mem_cons_of_mem _ hy);obtain⟨k,hk,rfl⟩:=aiV this;rw[<-qk hk];exact hH.min k hk
end L
namespace L
def Nh(s:fY)(p:List Int)(d:Int):Prop:=(0<=d/\d<(s.2.2.2.1.length:Int))/\d∉p/\∀y,Dp s d y->y∈p
def pb(s:fY)(o:List Int):Prop:=∀k,∀h:k<o.length,Nh s (o.take k) o[k]/\∀d,Nh s (o.take k) d->o[k]<=d
def pb.snoc{s:fY}{o:List Int}{x:Int}(h:pb s o)(hx:Nh s o x)(hm:∀d,Nh s o d->x<=d):pb s (o++[x]):=λk hk=>by
 by_cases e:k<o.length
 .have:=h k e
  grind
 grind
def pb.mem{s:fY}{o:List Int}(h:pb s o){x:Int}(hx:x∈o):(0<=x/\x<(s.2.2.2.1.length:Int))/\∀y,Dp s x y->y∈o:=by
 obtain⟨k,hk,rfl⟩:=aiV hx;obtain⟨h1,_⟩:=h k hk;exact⟨h1.1,λy hy=>List.mem_of_mem_take (h1.2.2 y hy)⟩
def pb.nodup{s:fY}{o:List Int}(h:pb s o):o.Nodup:=by
 rw[List.nodup_iff_pairwise_ne,List.pairwise_iff_getElem];intro i j hi hj UP e;refine(h j hj).1.2.1 ?_
 grind [List.mem_take_iff_getElem]
def s6{n:Nat}{l:List Int}(hn:l.Nodup)(h:∀x∈l,0<=x/\x<(n:Int)):l.length<=n:=by
 have:=uk (m:=(aiM n).map λk:Nat=>(k:Int)) hn λy hy=>by
  obtain⟨a,b⟩:=h y hy;exact List.mem_map.2 ⟨y.toNat,List.mem_range.2 (by omega),by omega⟩
 grind
theorem pb.len{s:fY}{o:List Int}(h:pb s o):o.length<=s.2.2.2.1.length:=s6 h.nodup λx hx=>(h.mem hx).1
def Rk{α:Type}{l:List α}{i:Int}(h:0<=i):idx l i=l[i.toNat]? :=by unfold idx;rw[al h]
def DD{α:Type}(l:List α)(i:Int)(v:α)(u:Nat)(hi:i.toNat<l.length):(bg l i v)[u]? =if u=i.toNat then aa v else l[u]? :=by
 grind [bg]
structure Ni(L:List (List Int))(n k:Nat)(U:List (List Int))(W H:List Int):Prop where
 ul:U.length=n
 wl:W.length=n
 u:∀e,∀h:e<U.length,U[e].length<=6000*k/\∀u:Int,U[e].count u=if 0<=u/\u<(k:Int)then(L.getD u.toNat []).count (e:Int)else 0
 w:∀u,u<k->W[u]? =aa ((L.getD u []).length:Int)
 hp:r6 H H.length
 nd:H.Nodup
 h:∀u:Int,u∈H↔(0<=u/\u<(k:Int))/\L.getD u.toNat []=[]
def Ni.hl{L:List (List Int)}{n k:Nat}{U:List (List Int)}{W H:List Int}(h:Ni L n k U W H):H.length<=k:=s6 h.nd λx hx=>((h.h x).1 hx).1
structure abG(s:fY)(L:List (List Int))(n:Nat)(W O H:List Int):Prop where
 wl:W.length=n
 o:pb s O
 w:∀u,u<n->W[u]? =aa (((L.getD u []).countP λy=>decide (y∉O):Nat):Int)
 hp:r6 H H.length
 nd:H.Nodup
 h:∀u:Int,u∈H↔Nh s O u
structure WZ(s:fY)(L:List (List Int))(n:Nat)(O l:List Int)(W H:List Int):Prop where
 wl:W.length=n
 w:∀u,u<n->W[u]? =aa (((L.getD u []).countP (λy=>decide (y∉O))+l.count (u:Int):Nat):Int)
 hp:r6 H H.length
 nd:H.Nodup
 h:∀u:Int,u∈H↔(0<=u/\u<(n:Int))/\u∉O/\W[u.toNat]? =aa 0
def WZ.hl{s:fY}{L:List (List Int)}{n:Nat}{O l W H:List Int}(h:WZ s L n O l W H):H.length<=n:=s6 h.nd λx hx=>((h.h x).1 hx).1
theorem getD_some{L:List (List Int)}{u:Nat}(h:u<L.length):L.getD u []=L[u]:=by simp[h]
def DE(l O:List Int)(x:Int)(hx:x∉O):l.countP (λy=>decide (y∉O))=l.countP (λy=>decide (y∉O++[x]))+l.count x:=by
 induction l<;>grind
def Nj(l:List Int)(d n:Nat)(U:List (List Int))(hU:U.length=n)(hl:l.length<=6000)(hr:∀y∈l,0<=y/\y<(n:Int))(hb:∀e,∀h:e<U.length,U[e].length<=100000):Wp (Loop (S:=Int×List (List Int)) (X:=List (List Int)) (λP5=>
 (if(decide (P5.1<(l.length:Int)))=af then
 (idx l P5.1).bind λM6=>
 (idx P5.2 M6).bind λXW=>
 (idx P5.2 M6).bind λx16=>
 (cz x16 ([(d:Int)]:List Int)).bind λl17=>
 (idx P5.2 M6).bind λx18=>
 (if decide (M6=M6)=af then
 (idx P5.2 M6).bind λx19=>
 some (Sum.inl (aiB.wrap (P5.1+(1:Int)),sy P5.2 M6 (λm20=>l17)))
 else ae)
 else
 some (ajy P5.2))) aU ((0:Int),U)) λV=>V.length=n/\∀e,∀h:e<V.length,∀h':e<U.length,V[e].length<=U[e].length+l.length/\∀u:Int,V[e].count u=U[e].count u+if u=(d:Int)then l.count (e:Int)else 0:=by
 refine Wp.count (λs=>s.1) l.length (λk s=>s.2.length=n/\∀e,∀h:e<s.2.length,∀h':e<U.length,s.2[e].length<=U[e].length+k/\∀u:Int,s.2[e].count u=U[e].count u+if u=(d:Int)then(l.take k).count (e:Int)else 0) (by omega) rfl (by grind) λk s hk hs hJ=>?_
 obtain⟨i,V⟩:=s;obtain⟨hV,hJ⟩:=hJ;dsimp only at hs hV hJ;subst hs;simp only[W_,au,av,reduceCtorEq,bw,bf];refine⟨λaH=>?_,λhge=>?_⟩
 .have aH:k<l.length:=by omega
  obtain⟨a0,a1⟩:=hr _ (aiF aH);obtain⟨x,hx⟩:=aiL a0
  have hxV:x<V.length:=by omega
  simp only[aC aH,hx,aC hxV,cK (m:=l.length) (by omega) aH,W_,au,av,reduceCtorEq];have hbx:=(hJ x hxV (by omega)).1;have:=hb x (by omega);refine p7.2 ⟨by simp;omega,trivial |> λ_=>⟨aH,by rw[iU];exact hV,λe h h'=>?_⟩⟩
  have he:e<V.length:=by rw[iU]at h;exact h
  have OM:l.take (k+1)=l.take k++[l[k]]:=(aiU aH).symm;rw[vC h he,OM,hx]
  grind
 grind
def P6(s:fY)(L:List (List Int))(n:Nat)(O l W H:List Int)(x:Int)(hn:n<=14)(RA:l.length<=100000)(hL:∀u,(L.getD u []).length<=6000)(hI:WZ s L n O l W H)
 (hl:∀u∈l,(0<=u/\u<(n:Int))/\u∉O)(Q:((List Int×List Int×List Int)⊕(List Int×List Int))->Prop)(hQ:∀W' H',WZ s L n O [] W' H'->Q (.inl (W',O,H'))):Wp (Loop (S:=Int×(List Int)×List Int) (X:=((List Int)×(List Int)×List Int)⊕((List Int)×List Int)) (λKC=>
   (if(decide (KC.1<(l.length:Int)))=af then
   ((idx l KC.1).bind λTK=>
   (idx KC.2.1 TK).bind λx31=>
   (idx KC.2.1 TK).bind λx32=>
   (idx (bg KC.2.1 TK (aiB.wrap (x31-(1:Int)))) TK).bind λQ3=>
   (if(decide (Q3=(0:Int)))=af then
   (M.cX aU TK KC.2.2).bind λy34=>
   some (bg KC.2.1 TK (aiB.wrap (x31-(1:Int))),y34)
   else
   some (bg KC.2.1 TK (aiB.wrap (x31-(1:Int))),KC.2.2)):Option ((List Int)×List Int)).bind λj29=>
   some (Sum.inl (aiB.wrap (KC.1+(1:Int)),j29.1,j29.2))
   else
   some (ajy (Sum.inl (KC.2.1,O,KC.2.2))))) aU ((0:Int),W,H)) Q:=by
 refine Wp.count (λs=>s.1) l.length (λk z=>WZ s L n O (l.drop k) z.2.1 z.2.2) (by omega) rfl hI λk z hk hs hJ=>?_
 obtain⟨i,V,G⟩:=z;dsimp only at hs hJ;subst hs
 refine Wp.dec (λaH=>?_) λhge=>?_
 .have aH:k<l.length:=by dsimp only at aH;omega
  obtain⟨⟨a0,a1⟩,a2⟩:=hl _ (aiF aH);have lz:l.drop k=l[k]::l.drop (k+1):=aiN aH;obtain⟨u,hu⟩:=aiL a0;rw[hu]at a1 a2 lz
  have Xz:u<n:=by omega
  have hVl:=hJ.wl;have hw:=hJ.w u Xz;rw[lz,List.count_cons_self]at hw
  obtain⟨a,ha⟩:∃a,a=(L.getD u []).countP (λy=>decide (y∉O)):=⟨_,rfl⟩
  obtain⟨b,hb⟩:∃b,b=(l.drop (k+1)).count (u:Int):=⟨_,rfl⟩
  have yD:a<=6000:=by rw[ha];exact(by grind)
  have Bz:b<=100000:=by rw[hb];exact ai4 List.count_le_length (by grind)
  rw[<-ha,<-hb]at hw
  have iw:idx V (u:Int)=aa ((a+(b+1):Nat):Int):=by rw[Rk (by omega)];exact hw
  have ew:aiB.wrap (((a+(b+1):Nat):Int)-(1:Int))=((a+b:Nat):Int):=by rw[bH (by omega) (by omega)];omega
  have iv:idx (bg V (u:Int) ((a+b:Nat):Int)) (u:Int)=aa ((a+b:Nat):Int):=by
   rw[Rk (by omega),DD _ _ _ _ (by omega),al rfl]
  dsimp only;rw[aC aH,hu,aiA,iw,aiA,aiA,ew,iv,aiA]
  have w':∀v,v<n->(bg V (u:Int) ((a+b:Nat):Int))[v]? =aa (((L.getD v []).countP (λy=>decide (y∉O))+(l.drop (k+1)).count (v:Int):Nat):Int):=λv hv=>by
   rw[DD _ _ _ _ (by omega)];by_cases e:v=u
   .grind
   .rw[aj (by omega),hJ.w v hv,lz,List.count_cons_of_ne (by omega)]
  have nH:(u:Int)∉G:=λg=>by
   have:=((hJ.h _).1 g).2.2
   grind [aiI]
  have hGl:=hJ.hl;by_cases e0:a+b=0
  .rw[al (by rw[ax];omega),wp_bind,wp_bind]
   refine(Hx _ _ (by omega) hJ.hp).mono λr hr=> .some (.some ⟨aH,?_,?_⟩)
   .exact cK (m:=l.length) (by omega) aH
   .refine⟨by grind [bg],w',hr.2,hr.1.nodup_iff.2 (List.nodup_cons.2 ⟨nH,hJ.nd⟩),λv=>?_⟩
    show v∈r↔_/\_/\(bg V _ _)[v.toNat]? =aa 0
    rw[hr.1.mem_iff,ai7,DD _ _ _ _ (by omega),hJ.h v]
    by_cases e:v=(u:Int)
    .simp_all
    .constructor
     .rintro(h|⟨h1,h2,h3⟩)
      all_goals simp_all
     .rintro⟨h1,h2,h3⟩
      rw[aj (by omega)]at h3
      grind
  .rw[aj (by grind),aiA];refine .some ⟨aH,?_,?_⟩
   .exact cK (m:=l.length) (by omega) aH
   .refine⟨by grind [bg],w',hJ.hp,hJ.nd,λv=>?_⟩
    show v∈G↔_/\_/\(bg V _ _)[v.toNat]? =aa 0
    rw[DD _ _ _ _ (by omega),hJ.h v]
    by_cases e:v=(u:Int)
    .subst e;rw[al rfl];refine⟨λh=>absurd ((hJ.h _).2 h) nH,λh=>?_⟩
     grind
    .constructor
     .rintro⟨h1,h2,h3⟩
      rw[aj (by omega)];grind
     .rintro⟨h1,h2,h3⟩
      rw[aj (by omega)]at h3
      grind
 .have hge:k=l.length:=by dsimp only at hge;omega
  subst hge;rw[List.drop_length]at hJ;exact .some (hQ _ _ hJ)
def Nk(s:fY)(hs:nW s):Wp (M.bo aU s) λr=>∃o,pb s o/\(∀d,¬Nh s o d)/\r=if o.length<s.2.2.2.1.length then((9:Int),([]:List Int))else((0:Int),o):=by
 have yk:=hs.2.2.1;unfold M.bo
 refine Wp.seq (To s) ?_ λL hL=>?_
 .have e:M.k6 aU s=M.jh aU s:=rfl
  grind [sU]
 obtain⟨XV,hL⟩:=hL
 have hDr:∀a b,Dp s a b->0<=b/\b<(s.2.2.2.1.length:Int):=λa b h=>(nf s a).2 b h
 have hLq:∀u,(L.getD u []).length<=6000:=(by grind)
 have WL:∀u:Nat,u<s.2.2.2.1.length->∀y,y∈L.getD u []↔Dp s (u:Int) y:=(by grind)
 obtain⟨n,hn⟩:∃n,n=s.2.2.2.1.length:=⟨_,rfl⟩
 rw[<-hn]at yk XV hDr WL⊢;rw[wp_bind];refine nc.2 ⟨by omega,?_⟩;rw[wp_bind];refine nc.2 ⟨by omega,?_⟩;rw[aiI,XV]
 refine Wp.seq (λz=>Ni L n n z.1 z.2.1 z.2.2) ?_ λz hz=>?_
 .rw[wp_bind]
  refine Wp.mono (Q:=λz=>Ni L n n z.1 z.2.1 z.2.2) ?_ λz hz=> .some hz
  refine Wp.count (λz=>z.1) n (λk z=>Ni L n k z.2.1 z.2.2.1 z.2.2.2) (by omega) rfl ⟨by simp,by simp,λe h=>⟨by simp,λu=>?_⟩,λu hu=>by omega,λk h0 h1=>(by cases h1),List.nodup_nil,λu=>?_⟩ λk z hk hz hJ=>?_
  .grind
  .grind
  obtain⟨i,U,W,H⟩:=z;dsimp only at hz hJ;subst hz
  refine Wp.dec (λaH=>?_) λhge=>?_
  .have aH:k<n:=by dsimp only at aH;omega
   have XY:k<L.length:=by omega
   have hUl:=hJ.ul;have hWl:=hJ.wl;dsimp only;rw[aC XY,aiA,aC (show k<W.length by omega),aiA,wp_bind,wp_bind,wp_bind];have hHl:=hJ.hl
   refine(Nj L[k] k n U hUl (hL k XY).1 (by grind) λe h=>by have:=(hJ.u e h).1;omega).mono λV hV=>?_
   have uu:∀e,∀h:e<V.length,V[e].length<=6000*(k+1)/\∀u:Int,V[e].count u=if 0<=u/\u<((k+1:Nat):Int)then(L.getD u.toNat []).count (e:Int)else 0:=λe h=>by
    have hV1:=hV.1;obtain⟨g1,g2⟩:=hV.2 e h (by omega);obtain⟨f1,f2⟩:=hJ.u e (by omega);have:=(hL k XY).1;refine⟨by omega,λu=>?_⟩;rw[g2,f2]
    by_cases eu:u=(k:Int)
    .subst eu;rw[aj (by omega),al rfl,al (by omega),aiI,getD_some XY];omega
    grind
   have ww:∀u,u<k+1->(bg W (k:Int) (L[k].length:Int))[u]? =aa ((L.getD u []).length:Int):=λu hu=>by
    rw[DD _ _ _ _ (by omega)];by_cases e:u=k
    .grind
    .rw[aj (by omega),hJ.w u (by omega)]
   have wl:(bg W (k:Int) (L[k].length:Int)).length=n:=by unfold bg;rw[List.length_set];exact hWl
   by_cases e0:L[k].length=0
   .rw[al (by rw[ax];omega),wp_bind]
    refine(Hx _ _ (by omega) hJ.hp).mono λr hr=> .some (.some (.some ⟨aH,cK (m:=n) (by omega) aH,⟨hV.1,wl,uu,ww,hr.2,hr.1.nodup_iff.2 (List.nodup_cons.2 ⟨λg=>?_,hJ.nd⟩),λu=>?_⟩⟩))
    .have:=((hJ.h _).1 g).1;omega
    .show u∈r↔_
     rw[hr.1.mem_iff,ai7,hJ.h u]
     by_cases eu:u=(k:Int)
     .grind [aiI]
     grind
   .rw[aj (by rw[ax];omega)];refine .some (.some (.some ⟨aH,cK (m:=n) (by omega) aH,⟨hV.1,wl,uu,ww,hJ.hp,hJ.nd,λu=>?_⟩⟩))
    show u∈H↔_
    rw[hJ.h u]
    grind [getD_some]
  .have hge:k=n:=by dsimp only at hge;omega
   subst hge;exact .some hJ
 obtain⟨U,W,H⟩:=z;dsimp only at hz⊢;have hUl:=hz.ul
 have hU:∀e,∀h:e<U.length,U[e].length<=100000/\∀u:Int,U[e].count u=if 0<=u/\u<(n:Int)then(L.getD u.toNat []).count (e:Int)else 0:=λe h=>⟨by have:=(hz.u e h).1;omega,(hz.u e h).2⟩
 refine Wp.seq (λz=>pb s z.1/\z.2=[]/\∀d,¬Nh s z.1 d) ?_ λz hq=>?_
 .refine Wp.loop (λz=>abG s L n z.1 z.2.1 z.2.2) (λz=>n-z.2.1.length) ⟨hz.wl,λk h=>(by cases h),λu hu=>?_,hz.hp,hz.nd,λu=>?_⟩ (by show n-_<aU;unfold aU;omega) λz hI=>?_
  .rw[hz.w u hu]
   simp_all
  .rw[hz.h u];unfold Nh;rw[<-hn];constructor
   .grind
   .rintro⟨h1,_,h2⟩
    refine⟨h1,List.eq_nil_iff_forall_not_mem.2 λy hy=>?_⟩
    grind
  obtain⟨W,O,H⟩:=z;dsimp only at hI⊢;have hO:=hI.o;have hOl:=hO.len;rw[<-hn]at hOl
  have hHl:H.length<=n:=s6 hI.nd λx hx=>by
   have:=((hI.h x).1 hx).1
   grind
  unfold M.dY;rw[aiA]
  refine Wp.dec (λh0=>?_) λh0=>?_
  .have h0:0<H.length:=by omega
   rw[wp_bind]
   refine(TJ H h0 (by omega) hI.hp).mono λr hr=>?_
   obtain⟨x,G⟩:=r;obtain⟨hp,hG,J4⟩:=hr;dsimp only at hp hG J4⊢;have hxH:x∈H:=hp.symm.subset (by simp);have hx:=(hI.h x).1 hxH;have EV:=hp.nodup_iff.1 hI.nd;obtain⟨hxG,hGn⟩:=List.nodup_cons.1 EV
   have hO':pb s (O++[x]):=hO.snoc hx λd hd=>by
    have:d∈H:=(hI.h d).2 hd
    grind
   have W0:=hO'.len;rw[<-hn,List.length_append]at W0;simp only[List.length_cons,List.length_nil]at W0;rw[eJ (by simp;omega),aiA];have QJ:=hx.1;rw[<-hn]at QJ;obtain⟨e,he⟩:=aiL QJ.1
   have heU:e<U.length:=by omega
   rw[he,aC heU,aiA,<-he];obtain⟨f1,f2⟩:=hU e heU;rw[<-he]at f2
   have inU:∀u∈U[e],(0<=u/\u<(n:Int))/\Dp s u x:=λu hu=>by
    have h1:=List.count_pos_iff.2 hu;rw[f2]at h1;by_cases hc:0<=u/\u<(n:Int)
    .grind
    grind
   refine P6 s L n (O++[x]) U[e] W G x yk f1 hLq ⟨hI.wl,λu hu=>?_,hG,hGn,λu=>?_⟩ (λu hu=>?_) _ λW' H' h'=>?_
   .rw[hI.w u hu,f2,al (by omega),aiI,DE _ _ _ hx.2.1]
   .have tJ:u∈G↔u∈H/\u≠x:=by
     rw[hp.mem_iff,ai7];exact(by grind)
    rw[tJ,hI.h u];unfold Nh;rw[<-hn];constructor
    .rintro⟨⟨h1,h2,h3⟩,h4⟩
     refine⟨h1,by simp[h2,h4],?_⟩;rw[hI.w u.toNat (by omega)]
     congr 2
     grind [aj5]
    .rintro⟨h1,h2,h3⟩
     rw[hI.w u.toNat (by omega)]at h3
     have h3:(L.getD u.toNat []).countP (λy=>decide (y∉O))=0:=by
      have:=aiC h3;omega
     rw[aj5]at h3;simp only[aiX,aiZ,not_or]at h2
     grind [Int.toNat_of_nonneg]
   .obtain⟨h1,h2⟩:=inU u hu;refine⟨h1,λh=>?_⟩
    rcases aiX.1 h with h|h
    .exact hx.2.1 ((hO.mem h).2 x h2)
    .rw[aiZ.1 h]at h2;exact hx.2.1 (hx.2.2 x h2)
   .refine⟨⟨h'.wl,hO',λu hu=>?_,h'.hp,h'.nd,λu=>?_⟩,?_⟩
    .have:=h'.w u hu
     grind
    .rw[h'.h u];unfold Nh;rw[<-hn];constructor
     .rintro⟨h1,h2,h3⟩
      refine⟨h1,h2,λy hy=>?_⟩;rw[h'.w u.toNat (by omega),List.count_nil,Nat.add_zero]at h3
      have h3:(L.getD u.toNat []).countP (λy=>decide (y∉O++[x]))=0:=by
       have:=aiC h3;omega
      rw[aj5]at h3;have:=h3 y ((WL u.toNat (by omega) y).2 (by rw[Int.toNat_of_nonneg h1.1];exact hy))
      grind
     .rintro⟨h1,h2,h3⟩
      refine⟨h1,h2,?_⟩;rw[h'.w u.toNat (by omega),List.count_nil,Nat.add_zero]
      congr 2
      rw[aj5]
      grind
    grind
  .have h0:H=[]:=List.length_eq_zero_iff.1 (by omega);subst h0;exact .some ⟨hO,rfl,λd hd=>by cases(hI.h d).2 hd⟩
 .obtain⟨O,H⟩:=z;obtain⟨h1,h2,h3⟩:=hq;dsimp only at h1 h2 h3⊢
  refine Wp.dec (λh=> .some ⟨O,h1,h3,?_⟩) λh=> .some ⟨O,h1,h3,?_⟩
  all_goals grind
def J5{s:fY}{o:List Int}(h:pb s o)(hr:∀d,¬Nh s o d)(hc:∀d:Nat,d<s.2.2.2.1.length->¬KB (Dp s) (d:Int) (d:Int)):o.length=s.2.2.2.1.length:=by
 refine Nat.le_antisymm h.len (Nat.le_of_not_lt λaH=>?_)
 have hDr:∀a b,Dp s a b->0<=b/\b<(s.2.2.2.1.length:Int):=λa b h=>(nf s a).2 b h
 obtain⟨n,hn⟩:∃n,n=s.2.2.2.1.length:=⟨_,rfl⟩
 rw[<-hn]at aH hc hDr
 have next:∀d:Int,(0<=d/\d<(n:Int))->d∉o->∃e,Dp s d e/\e∉o:=λd hd XK=>Classical.byContradiction λdA=>by
  refine hr d ⟨by rw[<-hn];exact hd,XK,(by grind)⟩
 have start:∃d:Int,(0<=d/\d<(n:Int))/\d∉o:=Classical.byContradiction λdA=>by
  have:((aiM n).map λk:Nat=>(k:Int)).length<=o.length:=uk (List.Pairwise.map _ (λa b(h:a≠b)e=>h (by omega)) List.nodup_range) (by grind)
  grind
 have walk:∀m,∃l:List Int,l.length=m+1/\(∀x∈l,(0<=x/\x<(n:Int))/\x∉o)/\l.Pairwise λa b=>KB (Dp s) b a:=by
  intro m
  induction m with
  |zero=>
   obtain⟨d,h1,h2⟩:=start;exact⟨[d],rfl,(by grind),by simp⟩
  |succ m ih=>
   obtain⟨l,hl,hm,hp⟩:=ih
   cases l with
   |nil=>cases hl
   |cons x t=>
    obtain⟨e,h1,h2⟩:=next x (hm x (by simp)).1 (hm x (by simp)).2
    refine⟨e::x::t,by grind,λy hy=>?_,aiT.2 ⟨λy hy=>?_,hp⟩⟩
    .grind
    .rcases ai7.1 hy with rfl|hy
     .exact .one h1
     .exact .step ((aiT.1 hp).1 y hy) h1
 obtain⟨l,hl,hm,hp⟩:=walk n
 have nd:l.Nodup:=by
  refine hp.imp_of_mem λ{a b}ha hb yD=>λe=>?_
  subst e;obtain⟨h1,_⟩:=hm a ha;have:=hc a.toNat (by omega);rw[Int.toNat_of_nonneg h1.1]at this;exact this yD
 have:=s6 nd λx hx=>(hm x hx).1
 omega
end L
namespace L.P
abbrev Vl:Type:=aB.den
abbrev Ty:Type:=az.den
def bi{α:Type}{c:Prop}[Decidable c]{a b:α}:(if c then aa a else aa b)=aa (if c then a else b):=by split<;>rfl
def rb(a b:Bool):(if a=af then af else b)=(a||b):=by cases a<;>rfl
def mB(a b:Bool):(if a=af then b else ah)=(a&&b):=by cases a<;>rfl
def eY(k e n:Int):Prop:=
 (k=1/\e=0/\0<=n/\n<=1)\/(k=2/\e=0/\-1000000000000<=n/\n<=1000000000000)\/(k=3/\e=0/\-1000000000000000<=n/\n<=1000000000000000)\/
 (k=4/\e=0/\-1000000000<=n/\n<=1000000000)\/(k=5/\e=0/\0<=n/\n<=109572)\/(k=6/\0<=e/\e<=7/\0<=n/\n<=15)
instance(k e n:Int):Decidable (eY k e n):=by unfold eY;infer_instance
def dI(N:Nat)(v:Vl):M.cA N v=aa (decide (eY v.1 v.2.1 v.2.2)):=by
 revert v;rintro⟨(k:Int),(e:Int),(n:Int)⟩
 unfold M.cA;simp only[bi,aiA,rb,mB];refine aw aa ?_;by_cases h1:k=1
 .subst h1;rw[Bool.eq_iff_iff];simp[eY];grind
 by_cases h2:k=2
 .grind [P.eY]
 by_cases h3:k=3
 .grind [P.eY]
 by_cases h4:k=4
 .grind [P.eY]
 by_cases h5:k=5
 .grind [P.eY]
 by_cases h6:k=6
 .subst h6;rw[Bool.eq_iff_iff];simp[eY];grind
 simp[eY,h1,h2,h3,h4,h5,h6]
def DF(k e n a b:Int):Prop:=eY k e n/\k=a/\e=b
instance(k e n a b:Int):Decidable (DF k e n a b):=by unfold DF;infer_instance
abbrev jO(v:Vl)(t:Ty):Prop:=DF v.1 v.2.1 v.2.2 t.1 t.2
def r7(N:Nat)(v:Vl)(t:Ty):M.kN N v t=aa (decide (jO v t)):=by
 unfold M.kN;rw[dI];simp only[bi,aiA,mB]
 grind [P.DF]
def DG(op k e:Int):Prop:=e=0/\(if op=36 then k=2\/k=3 else if op=39 then 2<=k/\k<=5 else k=1)
instance(op k e:Int):Decidable (DG op k e):=by unfold DG;infer_instance
abbrev Us(op:Int)(t:Ty):Prop:=DG op t.1 t.2
theorem mc(N:Nat)(k:Int):M.gk N k=aa (decide (2<=k/\k<=4)):=by
 unfold M.gk;simp only[bi,aiA,rb];refine aw aa ?_
 grind
def oI(N:Nat)(op:Int)(t:Ty):M.gQ N op t=aa (decide (Us op t)):=by
 unfold M.gQ;rw[mc];simp only[bi,aiA,rb,mB];refine aw aa ?_;obtain⟨(k:Int),(e:Int)⟩:=t;rw[Bool.eq_iff_iff]
 show _↔decide (DG op k e)=af
 unfold DG
 grind
def fold(op acc n:Int)(first:Bool):Int:=
 if op=36 then acc+n else if op=37 then acc*n else if op=38 then(if acc<n then n else acc)else(if first=af\/acc<n then n else acc)
def oJ(op:Int)(t:Ty)(j:Nat):List (List Vl)->Bool->Int->Int⊕Int
 |[],_,acc=> .inl acc
 |l::ms,first,acc=>match l[j]? with
  |none=> .inr 6
  |some v=>if(v.1:Int)=0 then .inr 6 else if jO v t then
    (if eY t.1 0 (fold op acc v.2.2 first)then oJ op t j ms ah (fold op acc v.2.2 first)else .inr 3)else .inr 8
def xq(op:Int):Int:=if op=37 then 1 else 0
def J6(op:Int)(t:Ty)(j:Nat)(ms:List (List Vl)):Vl×Int:=
 if op=39/\ms=[]then((0,0,0),6)else match oJ op t j ms af (xq op)with
  | .inl a=>((t.1,0,a),0)
  | .inr c=>((0,0,0),c)
def Nl(op:Int)(t:Ty)(first:Bool)(acc:Int):Prop:=(op=39/\first=af/\acc=0)\/eY t.1 0 acc
def P7{op:Int}{t:Ty}(q7:op=36\/op=37\/op=38\/op=39)(ht:Us op t):Nl op t af (xq op):=by
 obtain⟨(k:Int),(e:Int)⟩:=t
 obtain⟨h0,h1⟩:=(show DG op k e from ht)
 show(op=39/\af=af/\xq op=0)\/eY k 0 (xq op)
 grind [P.eY,P.xq]
def ql{N:Nat}(hN:100001<=N){op:Int}(q7:op=36\/op=37\/op=38\/op=39){j:Nat}{env:eN.den}(hj:j<env.2.2.2.2.1.length)(hm:env.2.2.2.1.length<=100)(ht:Us op env.2.2.2.2.1[j]):
 M.jv N (op,(j:Int)) env=aa (J6 op env.2.2.2.2.1[j] j env.2.2.2.1):=by
 obtain⟨d,ip,df,ms,ts,tb⟩:=env;simp only at hj hm ht⊢;apply Wp.eq;unfold M.jv;simp only;rw[aC hj];simp only[aiA];generalize ts[j]=t at ht⊢;have UQ:(t.2:Int)=0:=(show DG op t.1 t.2 from ht).1
 have e1:(if decide (op=37)=af then aa (t.1,t.2,(1:Int))else aa (t.1,t.2,(0:Int)):Option Vl)=aa (t.1,t.2,xq op):=by
  unfold xq;by_cases h:op=37<;>simp[h]
 rw[e1];simp only[aiA,bi,mB];unfold J6
 refine Wp.ite (λh=>?_) λh=>?_
 .have:op=39/\ms=[]:=by simpa using h
  rw[al this];exact .some rfl
 .have h39:¬(op=39/\ms=[]):=by simpa using h
  rw[aj h39]
  refine Wp.join (Wp.loop (λs:Int×Vl=>∃k:Nat,∃acc:Int,s=((k:Int),(t.1,t.2,acc))/\k<=ms.length/\Nl op t (decide (k=0)) acc/\oJ op t j (ms.drop k) (decide (k=0)) acc=oJ op t j ms af (xq op)) (λs=>(ms.length-s.1).toNat)
   ⟨0,xq op,rfl,Nat.zero_le _,P7 q7 ht,rfl⟩ (by grind) ?_)
  rintro _ ⟨k,acc,rfl,hk,P8,hf⟩
  simp only
  refine Wp.dec (λh=>?_) λh=> .some (.some ?_)
  case refine_2=>
   grind [P.oJ]
  have kG:k<ms.length:=by omega
  have hd:ms.drop k=ms[k]::ms.drop (k+1):=aiN kG;rw[hd]at hf;rw[aC kG];simp only[aiA];rw[oJ]at hf;by_cases hl:j<ms[k].length
  .rw[aiE hl]at hf;simp only at hf;rw[aC hl];simp only[aiA,bi,rb,r7,dI];generalize ms[k][j]=v at hf⊢;by_cases hv:(v.1:Int)=0
   .rw[al hv]at hf;rw[al (by simp[hv])];refine .some ?_
    show _=_
    rw[<-hf]
   .rw[aj hv]at hf;rw[aj (by grind)];by_cases hh:jO v t
    .rw[al hh]at hf;rw[aj (by simp[hh])]
     obtain⟨hp,QS,QG⟩:=(show DF _ _ _ _ _ from hh)
     refine Wp.join ?_
     have key:∀a,fold op acc v.2.2 (decide (k=0))=a->eY t.1 0 a->zi (λs:Int×Vl=>∃k:Nat,∃acc:Int,s=((k:Int),(t.1,t.2,acc))/\k<=ms.length/\Nl op t (decide (k=0)) acc/\oJ op t j (ms.drop k) (decide (k=0)) acc=oJ op t j ms af (xq op)) (λs=>(ms.length-s.1).toNat) ((k:Int),(t.1,t.2,acc)) (uN (λj4=>aa (j4,(0:Int))) λx=>x=match oJ op t j ms af (xq op)with
      | .inl a=>((t.1,0,a),0)
      | .inr c=>((0,0,0),c)) (.inl (aiB.wrap ((k:Int)+1),(t.1,t.2,a))):=by
      intro a ha hpa;subst ha;rw[al hpa]at hf;rw[aQ (by omega)];refine⟨⟨k+1,_,rfl,kG, .inr hpa,?_⟩,by grind⟩;rw[show decide (k+1=0)=ah by simp];exact hf
     rcases q7 with rfl|rfl|rfl|rfl
     all_goals simp only[decide_true,decide_false,if_true,if_false,Int.reduceEq,aiK,ajR,Bool.not_false]
     .have W1:eY t.1 0 acc:=by
       rcases P8 with h|h
       .grind
       .exact h
      have Oo:fold 36 acc v.2.2 (decide (k=0))=acc+v.2.2:=by simp[fold]
      have hw:aiB.wrap (acc+v.2.2)=acc+v.2.2:=by
       revert W1 hp;generalize(v.2.2:Int)=n;generalize(v.1:Int)=vk;generalize(v.2.1:Int)=ve;generalize(t.1:Int)=tk;intro h1 h2;unfold eY at h1 h2;dsimp only[aA,Row.den]at*;exact bH (by omega) (by omega)
      rw[hw];rw[Oo]at hf;by_cases vd:eY t.1 0 (acc+v.2.2)
      .rw[aj (by grind)];exact .some (.some (key _ Oo vd))
      .rw[al (by grind)];rw[aj vd]at hf;refine .some ?_
       show _=_
       rw[<-hf]
     .have hb:(0<=(v.2.2:Int)/\(v.2.2:Int)<=1)/\0<=acc/\acc<=1/\(t.1:Int)=1:=by
       have h1:=(show DG 37 t.1 t.2 from ht).2
       have h2:eY t.1 0 acc:=by
        rcases P8 with h|h
        .grind
        .exact h
       rw[QS]at hp;revert h1 h2 hp;generalize(v.2.2:Int)=n;generalize(v.2.1:Int)=ve;generalize(t.1:Int)=tk;intro h3 h1 h2;unfold eY at h2 h3;simp at h1;dsimp only[aA,Row.den]at*;omega
      obtain⟨⟨b1,b2⟩,b3,b4,b5⟩:=hb
      have Oo:fold 37 acc v.2.2 (decide (k=0))=(if v.2.2<acc then v.2.2 else acc:Int):=by
       have b2':(v.2.2:Int)=0\/(v.2.2:Int)=1:=by revert b1 b2;generalize(v.2.2:Int)=n;intro b1 b2;dsimp only[aA,Row.den]at*;omega
       have b4':acc=0\/acc=1:=by omega
       rcases b2' with e1|e1<;>rcases b4' with e2|e2<;>simp[fold,e1,e2]
      refine .some (.some (key _ Oo ?_));refine .inl ⟨b5,rfl,?_⟩
      grind
     .have Oo:fold 38 acc v.2.2 (decide (k=0))=(if acc<v.2.2 then v.2.2 else acc:Int):=by simp[fold]
      have h2:eY t.1 0 acc:=by
       rcases P8 with h|h
       .grind
       .exact h
      refine .some (.some (key _ Oo ?_))
      grind
     .have h3:eY t.1 0 v.2.2:=by rw[QS,QG,UQ]at hp;exact hp
      by_cases hc:((k:Int)=0)\/acc<v.2.2
      .have Oo:fold 39 acc v.2.2 (decide (k=0))=v.2.2:=by
        have:k=0\/acc<v.2.2:=hc.imp (λh=>by omega) id;simp[fold,this]
       rw[al (by simpa using hc)]
       have hv3:v=(t.1,t.2,v.2.2):=by rw[<-QS,<-QG]
       rw[hv3];exact .some (.some (key _ Oo h3))
      .have Oo:fold 39 acc v.2.2 (decide (k=0))=acc:=by
        have:¬(k=0\/acc<v.2.2):=(by grind)
        simp[fold,this]
       rw[aj (by simpa using hc)];refine .some (.some (key _ Oo ?_))
       rcases P8 with h|h
       all_goals grind
    .rw[aj hh]at hf;rw[al (by simp[hh])];refine .some ?_
     show _=_
     rw[<-hf]
  .rw[List.getElem?_eq_none (by omega)]at hf;rw[al (by simp;omega)];refine .some ?_
   show _=_
   rw[<-hf]
end L.P
namespace L.P
def xr{n:Int}(h0:0<=n)(h1:n<18446744073709551616):aiD.wrap n=n:=by
 simp[IntKind.wrap,IntKind.bits,IntKind.signed];omega
def Bk(n:Int):aiD.wrap n=n%18446744073709551616:=by
 simp[IntKind.wrap,IntKind.bits,IntKind.signed]
def lV(n:Int):0<=aiD.wrap n/\aiD.wrap n<18446744073709551616:=by rw[Bk];omega
def Rl(a:Int):bT .u64 a 32=a/4294967296:=by
 unfold bT;rw[show min (32:Int).toNat aiD.bits=32 from rfl];exact Int.fdiv_eq_ediv_of_nonneg _ (by decide)
def W2(a:Int):bT .u64 a 16=a/65536:=by
 unfold bT;rw[show min (16:Int).toNat aiD.bits=16 from rfl];exact Int.fdiv_eq_ediv_of_nonneg _ (by decide)
def abJ(a:Int):bT .u64 a 8=a/256:=by
 unfold bT;rw[show min (8:Int).toNat aiD.bits=8 from rfl];exact Int.fdiv_eq_ediv_of_nonneg _ (by decide)
def Bl:ByteArray:=(⟨#[0,1,2,2,3,3,3,3,4,4,4,4,4,4,4,4,5,5,5,5,5,5,5,5,5,5,5,5,5,5,5,5,6,6,6,6,6,6,6,6,6,6,6,6,6,6,6,6,6,6,6,6,6,6,6,6,6,6,6,6,6,6,6,6,7,7,7,7,7,7,7,7,7,7,7,7,7,7,7,7,7,7,7,7,7,7,7,7,7,7,7,7,7,7,7,7,7,7,7,7,7,7,7,7,7,7,7,7,7,7,7,7,7,7,7,7,7,7,7,7,7,7,7,7,7,7,7,7,8,8,8,8,8,8,8,8,8,8,8,8,8,8,8,8,8,8,8,8,8,8,8,8,8,8,8,8,8,8,8,8,8,8,8,8,8,8,8,8,8,8,8,8,8,8,8,8,8,8,8,8,8,8,8,8,8,8,8,8,8,8,8,8,8,8,8,8,8,8,8,8,8,8,8,8,8,8,8,8,8,8,8,8,8,8,8,8,8,8,8,8,8,8,8,8,8,8,8,8,8,8,8,8,8,8,8,8,8,8,8,8,8,8,8,8,8,8,8,8,8,8,8,8,8,8,8,8]⟩:ByteArray)
def Rm(n:Nat):Bool:=match lr Bl n with
 |some k=>decide (0<=k)&&decide (k<=8)&&decide (n<2 ^ k.toNat)&&(aiJ n 0||(decide (1<=k)&&decide (2 ^ (k.toNat-1)<=n)))
 |none=>ah
def P9:(aiM 256).all Rm=af:=by kernel_rfl
def AO{n:Nat}(h:n<256):∃k:Nat,lr Bl n=aa (k:Int)/\k<=8/\n<2 ^ k/\(n≠0->1<=k/\2 ^ (k-1)<=n):=by
 have:=List.all_eq_true.1 P9 n (List.mem_range.2 h);unfold Rm at this;split at this
 case h_2=>cases this
 rename_i k hk;simp only[ajB,Bool.or_eq_true,ax,Nat.beq_eq]at this;obtain⟨⟨⟨h1,h2⟩,h3⟩,h4⟩:=this;refine⟨k.toNat,by rw[hk,Int.toNat_of_nonneg h1],by omega,h3,λhn=>?_⟩
 rcases h4 with h4|h4
 .exact absurd h4 hn
 .exact⟨by omega,h4.2⟩
def TL{m b k:Nat}(h:m/2 ^ b<2 ^ k):m<2 ^ (b+k):=by
 rw[Nat.div_lt_iff_lt_mul (Nat.two_pow_pos b)]at h;rw[aj2,Nat.mul_comm];exact h
def TM{m b k:Nat}(hk:1<=k)(h:2 ^ (k-1)<=m/2 ^ b):2 ^ (b+k-1)<=m:=by
 rw[Nat.le_div_iff_mul_le (Nat.two_pow_pos b)]at h;rw[show b+k-1=k-1+b by omega,aj2];exact h
def Nn{N m:Nat}(hm:m<18446744073709551616):∃L:Nat,M.jS N m=aa (L:Int)/\L<=64/\m<2 ^ L/\(m≠0->1<=L/\2 ^ (L-1)<=m):=by
 have fin:∀(b q:Nat)(w:Int),q=m/2 ^ b->w=b->b<=56->q<256->(m≠0->q≠0)->∃L:Nat,((lr Bl (IntKind.u8.wrap (q:Int))).bind λx4=>aa (aiB.wrap (w+aiB.wrap x4)))=aa (L:Int)/\L<=64/\m<2 ^ L/\(m≠0->1<=L/\2 ^ (L-1)<=m):=by
  intro b q w hq hw hb h1 h2;subst hq;subst hw;obtain⟨k,g1,g2,g3,g4⟩:=AO h1
  have hu:IntKind.u8.wrap ((m/2 ^ b:Nat):Int)=((m/2 ^ b:Nat):Int):=by
   simp only[IntKind.wrap,IntKind.bits,IntKind.signed];generalize m/2 ^ b=q at h1⊢;simp;omega
  refine⟨b+k,?_,by omega,TL g3,λdA=>?_⟩
  .rw[hu,g1,aiA,wT (by omega),<-Int.natCast_add,wT (by omega)]
  .obtain⟨g5,g6⟩:=g4 (h2 dA);exact⟨by omega,TM g5 g6⟩
 have e32:((m:Int)/4294967296)=((m/2 ^ 32:Nat):Int):=by rw[show(2 ^ 32:Nat)=4294967296 from rfl];omega
 have d48:m/2 ^ 32/2 ^ 16=m/2 ^ 48:=by rw[aj0,<-aj2]
 have d40:m/2 ^ 32/2 ^ 8=m/2 ^ 40:=by rw[aj0,<-aj2]
 have d56:m/2 ^ 48/2 ^ 8=m/2 ^ 56:=by rw[aj0,<-aj2]
 have d24:m/2 ^ 16/2 ^ 8=m/2 ^ 24:=by rw[aj0,<-aj2]
 have c16:∀q:Nat,((q:Int)/65536)=((q/2 ^ 16:Nat):Int):=λq=>by rw[show(2 ^ 16:Nat)=65536 from rfl];omega
 have c8:∀q:Nat,((q:Int)/256)=((q/2 ^ 8:Nat):Int):=λq=>by rw[show(2 ^ 8:Nat)=256 from rfl];omega
 unfold M.jS;rw[show(⟨#[0,1,2,2,3,3,3,3,4,4,4,4,4,4,4,4,5,5,5,5,5,5,5,5,5,5,5,5,5,5,5,5,6,6,6,6,6,6,6,6,6,6,6,6,6,6,6,6,6,6,6,6,6,6,6,6,6,6,6,6,6,6,6,6,7,7,7,7,7,7,7,7,7,7,7,7,7,7,7,7,7,7,7,7,7,7,7,7,7,7,7,7,7,7,7,7,7,7,7,7,7,7,7,7,7,7,7,7,7,7,7,7,7,7,7,7,7,7,7,7,7,7,7,7,7,7,7,7,8,8,8,8,8,8,8,8,8,8,8,8,8,8,8,8,8,8,8,8,8,8,8,8,8,8,8,8,8,8,8,8,8,8,8,8,8,8,8,8,8,8,8,8,8,8,8,8,8,8,8,8,8,8,8,8,8,8,8,8,8,8,8,8,8,8,8,8,8,8,8,8,8,8,8,8,8,8,8,8,8,8,8,8,8,8,8,8,8,8,8,8,8,8,8,8,8,8,8,8,8,8,8,8,8,8,8,8,8,8,8,8,8,8,8,8,8,8,8,8,8,8,8,8,8,8,8,8]⟩:ByteArray)=Bl from rfl];simp only[Rl,W2,abJ,e32,c16,c8];by_cases h1:4294967296<=m
 .have a1:decide ((4294967296:Int)<=(m:Int))=af:=by simp;omega
  simp only[a1,if_true,aiA,c16,d48];by_cases h2:65536<=m/2 ^ 32
  .have a2:decide ((65536:Int)<=((m/2 ^ 32:Nat):Int))=af:=by simp;omega
   simp only[a2,if_true,aiA,c8,d56];by_cases h3:256<=m/2 ^ 48
   .have a3:decide ((256:Int)<=((m/2 ^ 48:Nat):Int))=af:=by simp;omega
    simp only[a3,if_true,aiA];exact fin 56 _ _ rfl (by kernel_rfl) (by omega) (by omega) (by omega)
   .have a3:decide ((256:Int)<=((m/2 ^ 48:Nat):Int))=ah:=by simp;omega
    simp only[a3,aiK,if_false,aiA];exact fin 48 _ _ rfl (by kernel_rfl) (by omega) (by omega) (by omega)
  .have a2:decide ((65536:Int)<=((m/2 ^ 32:Nat):Int))=ah:=by simp;omega
   simp only[a2,aiK,if_false,aiA,c8,d40];by_cases h3:256<=m/2 ^ 32
   .have a3:decide ((256:Int)<=((m/2 ^ 32:Nat):Int))=af:=by simp;omega
    simp only[a3,if_true,aiA];exact fin 40 _ _ rfl (by kernel_rfl) (by omega) (by omega) (by omega)
   .have a3:decide ((256:Int)<=((m/2 ^ 32:Nat):Int))=ah:=by simp;omega
    simp only[a3,aiK,if_false,aiA];exact fin 32 _ _ rfl (by kernel_rfl) (by omega) (by omega) (by omega)
 .have a1:decide ((4294967296:Int)<=(m:Int))=ah:=by simp;omega
  simp only[a1,aiK,if_false,aiA,c16];by_cases h2:65536<=m
  .have a2:decide ((65536:Int)<=(m:Int))=af:=by simp;omega
   simp only[a2,if_true,aiA,c8,d24];by_cases h3:256<=m/2 ^ 16
   .have a3:decide ((256:Int)<=((m/2 ^ 16:Nat):Int))=af:=by simp;omega
    simp only[a3,if_true,aiA];exact fin 24 _ _ rfl (by kernel_rfl) (by omega) (by omega) (by omega)
   .have a3:decide ((256:Int)<=((m/2 ^ 16:Nat):Int))=ah:=by simp;omega
    simp only[a3,aiK,if_false,aiA];exact fin 16 _ _ rfl (by kernel_rfl) (by omega) (by omega) (by omega)
  .have a2:decide ((65536:Int)<=(m:Int))=ah:=by simp;omega
   simp only[a2,aiK,if_false,aiA,c8];by_cases h3:256<=m
   .have a3:decide ((256:Int)<=(m:Int))=af:=by simp;omega
    simp only[a3,if_true,aiA];exact fin 8 _ _ rfl (by kernel_rfl) (by omega) (by omega) (by omega)
   .have a3:decide ((256:Int)<=(m:Int))=ah:=by simp;omega
    simp only[a3,aiK,if_false,aiA];exact fin 0 m _ (by simp) (by kernel_rfl) (by omega) (by omega) (λh=>h)
def W3(rh:Int)(h:0<=rh):(if rh<4294967296 then(4294967296-rh).toNat else 4294967297)<aU:=by
 unfold aU
 split<;>omega
def J7{hi lo y:Int}(h0:0<=hi)(h1:hi<y)(h2:y<18446744073709551616):∃r,M.dO aU hi lo y=aa r:=by
 have key:Wp (M.dO aU hi lo y) λ_=>True:=by
  unfold M.dO;rw[aj (by simp;omega),aj (by simp;omega)]
  refine Wp.dec (λ_=>?_) λdA=>?_
  .unfold z7 Ir;rw[aj (by omega),aj (by omega)];exact .some trivial
  .obtain⟨m,rfl⟩:∃m:Nat,y=m:=⟨y.toNat,by omega⟩
   obtain⟨L,g1,g2,g3,g4⟩:=Nn (N:=aU) (m:=m) (by omega);obtain⟨g4,g5⟩:=g4 (by omega);unfold M.gm;rw[g1]
   have hL:aiD.wrap (aiB.wrap ((64:Int)-(L:Int)))=((64-L:Nat):Int):=by
    rw[bH (by omega) (by omega),xr (by omega) (by omega)];omega
   have hL2:aiD.wrap ((64:Int)-((64-L:Nat):Int))=(L:Int):=by rw[xr (by omega) (by omega)];omega
   simp only[aiA,hL,hL2]
   have gW:∀a:Int,rA .u64 a ((64-L:Nat):Int)=aa (xR .u64 a ((64-L:Nat):Int)):=λa=>aj (by omega)
   have Tf:∀a:Int,xS .u64 a (L:Int)=aa (bT .u64 a (L:Int)):=λa=>aj (by omega)
   have abL:∀a:Int,xS .u64 a ((64-L:Nat):Int)=aa (bT .u64 a ((64-L:Nat):Int)):=λa=>aj (by omega)
   simp only[gW,Tf,abL,aiA,Rl]
   have hy:9223372036854775808<=xR .u64 (m:Int) ((64-L:Nat):Int)/\xR .u64 (m:Int) ((64-L:Nat):Int)<18446744073709551616:=by
    unfold xR;rw[show min (((64-L:Nat):Int).toNat) aiD.bits=64-L by simp[IntKind.bits]]
    have e1:m*2 ^ (64-L)<2 ^ 64:=by
     calc m*2 ^ (64-L)<2 ^ L*2 ^ (64-L):=Nat.mul_lt_mul_of_pos_right g3 (Nat.two_pow_pos _)
      _=2 ^ 64:=by rw[<-aj2];congr 1;omega
    have e2:2 ^ 63<=m*2 ^ (64-L):=by
     calc 2 ^ 63=2 ^ (L-1)*2 ^ (64-L):=by rw[<-aj2];congr 1;omega
      _<=m*2 ^ (64-L):=aiS _ g5
    have e3:((m:Int)*2 ^ (64-L))=((m*2 ^ (64-L):Nat):Int):=by simp
    rw[e3,xr (by omega) (by omega)];omega
   generalize xR .u64 (m:Int) ((64-L:Nat):Int)=x4 at hy⊢
   have hyn:0<x4/4294967296/\x4/4294967296<4294967296:=by omega
   generalize x4/4294967296=yn at hyn⊢
   have quo:∀a:Int,z7 a yn=aa (aiR a yn):=λa=>aj (by omega)
   simp only[quo,aiA]
   have inv:∀rh:Int,0<=rh->rh<18446744073709551616->¬4294967296<=aiD.wrap (rh+yn)->(if aiD.wrap (rh+yn)<4294967296 then(4294967296-aiD.wrap (rh+yn)).toNat else 4294967297)<(if rh<4294967296 then(4294967296-rh).toNat else 4294967297):=by
    intro rh i1 i2 hc;rw[al (by omega)];by_cases hr:rh<4294967296
    .rw[al hr];have:aiD.wrap (rh+yn)=rh+yn:=xr (by omega) (by omega);rw[this]at hc⊢;omega
    .rw[aj hr];have:=lV (rh+yn);omega
   simp only[bi,rb,aiA]
   refine Wp.seq (λ_=>True) (Wp.seq (λ_=>True) (Wp.loop (λs:Int×Int=>0<=s.2/\s.2<18446744073709551616) (λs=>if s.2<4294967296 then(4294967296-s.2).toNat else 4294967297) (lV _) (W3 _ (lV _).1) ?_) λ_ _=> .some trivial) λj9 _=>?_
   .rintro⟨q,rh⟩ ⟨i1,i2⟩
    refine .some ?_;split
    .split
     .trivial
     .rename_i hc;exact⟨lV _,inv rh i1 i2 (by simpa using hc)⟩
    .trivial
   refine Wp.seq (λ_=>True) (Wp.seq (λ_=>True) (Wp.loop (λs:Int×Int=>0<=s.1/\s.1<18446744073709551616) (λs=>if s.1<4294967296 then(4294967296-s.1).toNat else 4294967297) (lV _) (W3 _ (lV _).1) ?_) λ_ _=> .some trivial) λj14 _=> .some trivial
   .rintro⟨rh,q⟩ ⟨i1,i2⟩
    refine .some ?_;split
    .split
     .trivial
     .rename_i hc;exact⟨lV _,inv rh i1 i2 (by simpa using hc)⟩
    .trivial
 obtain⟨x,hx,_⟩:=key;exact⟨x,hx⟩
def mL(N:Nat)(m:Int):M.fK N m=aa (decide (0<=m)&&decide (m<=5)):=by
 unfold M.fK;simp only[bi,aiA,mB]
def qW(N:Nat)(n l:Int):M.ee N n l=aa (decide (l<n)||decide (n<aiB.wrap (0-l))):=by
 unfold M.ee;simp only[bi,aiA,rb]
def lj(N:Nat){n:Int}(h: -4611686018427387904<=n/\n<=4611686018427387904):M.dP N n=aa (if n<0 then-n else n):=by
 unfold M.dP;simp only[bi];refine aw aa ?_;by_cases hn:n<0
 .rw[al (by simpa using hn),al hn,Bk n,Bk];omega
 .rw[aj (by simpa using hn),aj hn,xr (by omega) (by omega)]
end L.P
namespace L.P
def Cd(c:Int):Prop:=c=0\/c=3\/c=12
def Bm{c:Prop}[Decidable c]{x y:Int×Int}(hx:Cd x.2)(hy:Cd y.2):Cd (if c then x else y).2:=by
 split
 .exact hx
 .exact hy
def zF(x:Int):Cd (x,(0:Int)).2:= .inl rfl
def Cd3(x:Int):Cd (x,(3:Int)).2:= .inr (.inl rfl)
def lk{n l:Int}(hl:0<=l/\l<=9000000000000000000)(h:¬(decide (l<n)||decide (n<aiB.wrap (0-l)))=af): -l<=n/\n<=l:=by
 rw[bH (by omega) (by omega)]at h;simp at h;omega
def Rn(N:Nat)(a b c:Int)(d:Bool)(e:Int):Wp (M.eh N a b c d e) λ_=>True:=by
 unfold M.eh;simp only[bi,aiA];exact .some trivial
def zG(N:Nat)(a:Int)(b:Bool):Wp (M.kP N a b) λ_=>True:=by
 unfold M.kP;simp only[bi];exact .some trivial
def me(N:Nat){a b m:Int}(hm:0<=m/\m<=5):Wp (M.fo N a b m) λr=>Cd r.2:=by
 unfold M.fo;rw[mL];simp only[aiA,qW];rw[aj (by simp;omega)]
 refine Wp.dec (λ_=> .some (by simp[Cd])) λhb=>?_
 simp only[bi,aiA,rb]
 refine Wp.ite (λ_=> .some (by simp[Cd])) λhc=>?_
 rw[Bool.or_eq_true,not_or]at hc;have ha:=lk (by omega) hc.1;have tj:=lk (by omega) hc.2;rw[lj N ha,lj N tj];simp only[aiA]
 have dA:(if b<0 then-b else b)≠0:=by split<;>omega
 rw[show∀x,z7 x (if b<0 then-b else b)=aa (aiR x (if b<0 then-b else b))from λx=>aj dA,show∀x,Ir x (if b<0 then-b else b)=aa (ai3 x (if b<0 then-b else b))from λx=>aj dA];simp only[aiA]
 exact Wp.seq _ (Rn ..) λx _=>Wp.seq _ (zG ..) λy _=> .some (by simp[Cd])
def s7(N:Nat)(a b:Int):Wp (M.eQ N a b) λr=>(0<=r.1/\r.1<18446744073709551616)/\0<=r.2/\r.2<18446744073709551616:=by
 unfold M.eQ;exact .some ⟨lV _,lV _⟩
def xu{hi lo y:Int}(h0:0<=hi)(h1:hi<y)(h2:y<18446744073709551616):Wp (M.dO aU hi lo y) λ_=>True:=by
 obtain⟨r,hr⟩:=J7 (lo:=lo) h0 h1 h2;exact⟨r,hr,trivial⟩
def J8{a b c m:Int}(hm:0<=m/\m<=5):Wp (M.mE aU a b c m) λr=>Cd r.2:=by
 unfold M.mE;rw[mL];simp only[aiA,qW];rw[aj (by simp;omega)]
 refine Wp.dec (λ_=> .some (by simp[Cd])) λhb=>?_
 simp only[bi,aiA,rb]
 refine Wp.ite (λ_=> .some (by simp[Cd])) λhc=>?_
 simp only[Bool.or_eq_true,not_or]at hc;have ha:=lk (n:=a) (l:=1000000000000000) (by omega) (by simpa using hc.1);have tj:=lk (n:=b) (l:=1000000000) (by omega) (by simpa using hc.2.1);have XM:=lk (n:=c) (l:=1000000000) (by omega) (by simpa using hc.2.2);rw[lj _ (n:=a) (by omega),lj _ (n:=b) (by omega)];simp only[aiA]
 refine Wp.seq _ (s7 ..) λr hr=>?_
 rw[lj _ (n:=c) (by omega)];simp only[aiA]
 refine Wp.dec (λ_=> .some (by simp[Cd])) λhd=>?_
 have aH:(if c<0 then-c else c)<18446744073709551616:=by split<;>omega
 refine Wp.seq _ (xu hr.1.1 (by omega) aH) λq _=>?_
 refine Wp.dec (λ_=> .some (by simp[Cd])) λ_=>?_
 refine Wp.seq _ (Rn ..) λx _=>?_
 refine Wp.dec (λ_=> .some (by simp[Cd])) λ_=>?_
 exact Wp.seq _ (zG ..) λy _=> .some (by simp[Cd])
def xv{a b m:Int}(hm:0<=m/\m<=5):Wp (M.lO aU a b m) λr=>Cd r.2:=by
 unfold M.lO;rw[mL];simp only[aiA,qW];rw[aj (by simp;omega)]
 refine Wp.dec (λ_=> .some (by simp[Cd])) λhb=>?_
 simp only[bi,aiA,rb]
 refine Wp.ite (λ_=> .some (by simp[Cd])) λhc=>?_
 refine Wp.seq _ (me _ hm) λr hr=>?_
 refine .some ?_;split
 .exact hr
 .split<;>simp[Cd]
def zH(N:Nat)(m:Int):M.kR N m=aa (decide (0<=m)&&decide (m<=5)):=mL N m
def xw(N:Nat)(n l:Int):M.iZ N n l=aa (decide (l<n)||decide (n<aiB.wrap (0-l))):=qW N n l
def Hy{a b m:Int}(hm:0<=m/\m<=5):Wp (M.sJ aU a b m) λr=>Cd r.2:=by
 unfold M.sJ;rw[zH];simp only[aiA,xw];rw[aj (by simp;omega)];simp only[bi,aiA,rb]
 refine Wp.ite (λ_=> .some (by simp[Cd])) λhc=>?_
 refine Wp.seq _ (me _ hm) λr hr=>?_
 refine .some ?_;split
 .exact hr
 .split<;>simp[Cd]
def zI{a b m:Int}(hm:0<=m/\m<=5):Wp (M.oU aU a b m) λr=>Cd r.2:=by
 unfold M.oU
 exact Wp.seq _ (J8 hm) λr hr=> .some hr
def DH(N:Nat)(a b c:Int)(d:Bool)(e:Int):Wp (M.lP N a b c d e) λ_=>True:=by
 unfold M.lP;simp only[bi,aiA];exact .some trivial
def s9{a b m:Int}(hm:0<=m/\m<=5):Wp (M.kS aU a b m) λr=>Cd r.2:=by
 unfold M.kS;rw[zH];simp only[aiA,xw];rw[aj (by simp;omega)]
 refine Wp.dec (λ_=> .some (by simp[Cd])) λhb=>?_
 simp only[bi,aiA,rb]
 refine Wp.ite (λ_=> .some (by simp[Cd])) λhc=>?_
 refine Wp.seq _ (s7 ..) λr hr=>?_
 refine Wp.dec (λ_=> .some (by simp[Cd])) λhd=>?_
 refine Wp.seq _ (xu hr.1.1 (by omega) (lV _).2) λq _=>?_
 refine Wp.dec (λ_=> .some (by simp[Cd])) λ_=>?_
 refine Wp.seq _ (Wp.bind (Wp.mono (DH ..) λx _=>?_)) λj7(_:True)=>?_
 .exact .some trivial
 .exact .some (by split<;>simp[Cd])
def uT(N:Nat)(r:az.den)(d:Int):Wp (M.cP N r d) λ_=>True:=by
 unfold M.cP M.eP;simp only[bi,aiA];exact .some trivial
def vo(a b:Int):Wp (M.gR aU a b) λ_=>True:=by
 unfold M.gR;simp only[bi,aiA]
 refine Wp.seq _ (s7 ..) λr hr=>?_
 refine Wp.dec (λ_=> .some trivial) λhd=>?_
 refine Wp.seq _ (xu hr.1.1 (by omega) (by omega)) λq _=>?_
 exact .some trivial
def DJ(N:Nat){a b m:Int}(hm:0<=m/\m<=5):Wp (M.iX N a b m) λr=>Cd r.2:=by
 unfold M.iX;simp only[bi,aiA]
 refine Wp.ite (λ_=> .some (by simp[Cd])) λhc=>?_
 refine Wp.seq _ (me _ hm) λr hr=>?_
 exact .some (Bm hr (Bm (Cd3 _) (zF _)))
def uU{t:aT.den}{d k m:Int}(hm:0<=m/\m<=5)(hk:t.2.1=((3,0):Int×Int))(hv:t.2.2.1=((4,0):Int×Int))(hl:t.2.2.2.length<=9223372036854775807):Wp (M.iY aU t d k m) λr=>Cd r.2:=by
 unfold M.iY;simp only[bi,aiA,rb];rw[aj (by simp;omega),aj (by rw[hk,hv];simp[lA])]
 refine Wp.ite (λ_=> .some (by simp[Cd])) λhc=>?_
 refine Wp.join (Wp.loop (λs:Int×Int×Int=>∃i:Nat,s.2.2=i/\i<=t.2.2.2.length) (λs=>(t.2.2.2.length-s.2.2).toNat) ⟨0,rfl,Nat.zero_le _⟩ (by simp only;unfold aU;omega) ?_)
 rintro⟨s1,s2,s3⟩ ⟨i,hi,qS⟩
 simp only at hi;subst hi
 refine Wp.dec (λh=>?_) λh=> .some ?_
 .have kF:i<t.2.2.2.length:=by simp only at h;omega
  refine Wp.join ?_;simp only;rw[aC kF];simp only[aiA]
  refine Wp.seq (λ_=>True) ?_ λj8 _=>?_
  .refine Wp.seq _ (uT ..) λy _=>?_
   exact .some trivial
  have nxt:∀a b:Int,uN (λj6:Int×Int=>aa (Sum.inl (j6.1,j6.2,aiB.wrap ((i:Int)+1)))) (zi (λs:Int×Int×Int=>∃i:Nat,s.2.2=i/\i<=t.2.2.2.length) (λs=>(t.2.2.2.length-s.2.2).toNat) (s1,s2,(i:Int)) (uN (λj4:Int×Int=>(M.iX aU j4.1 j4.2 m).bind λQa=>aa (Qa.1,Qa.2)) λr:Int×Int=>Cd r.2)) (.inl (a,b)):=by
   intro a b;refine .some ?_;rw[aQ (by omega)];exact⟨⟨i+1,rfl,kF⟩,by simp only;omega⟩
  refine Wp.ite (λ_=> .some (nxt _ _)) λ_=>?_
  refine Wp.seq _ (vo ..) λy _=>?_
  refine .some ?_;split
  .show Cd _
   simp[Cd]
  .exact nxt _ _
 .show Wp _ _
  exact Wp.seq _ (DJ _ hm) λr hr=> .some hr
def No(l:List jJ.den)(a b:Int)(hl:l.length<=9223372036854775807):Wp (M.cV aU l a b) λr=>r.2.1=af->0<=r.1/\r.1<l.length:=by
 unfold M.cV;refine Wp.loop (λs:Int×Int×Int=>∃i:Nat,s.1=i/\i<=l.length) (λs=>(l.length-s.1).toNat) ⟨0,rfl,Nat.zero_le _⟩ (by simp only;unfold aU;omega) ?_
 rintro⟨s1,s2,s3⟩ ⟨i,hi,qS⟩
 simp only at hi;subst hi
 refine Wp.dec (λh=>?_) λh=> .some λh=>by cases h
 have kF:i<l.length:=by simp only at h;omega
 simp only;rw[aC kF];simp only[aiA]
 refine Wp.seq (λ_=>True) ?_ λy _=>?_
 .unfold M.kg
  refine Wp.seq (λ_=>True) (Wp.seq _ (uT ..) λy _=>?_) λj _=> .some trivial
  simp only[bi];exact .some trivial
 .refine Wp.ite (λ_=> .some λ_=>⟨by simp only;omega,by simp only;omega⟩) λ_=> .some ?_
  rw[aQ (by omega)];exact⟨⟨i+1,rfl,kF⟩,by simp only;omega⟩
def zJ(t:aT.den)(a b:Int)(hl:t.2.2.2.length<=9223372036854775807):Wp (M.kO aU t a b) λr=>r.2=af->0<=r.1/\r.1<t.2.2.2.length:=by
 unfold M.kO
 exact Wp.seq _ (No _ a b hl) λr hr=> .some hr
def qX(N:Nat)(d:Int):M.kh N d=aa (decide (0<=d)&&decide (d<=109572)):=by
 unfold M.kh;simp only[bi,aiA,mB]
def ll(N:Nat)(y m:Int):Wp (M.dV N y m) λr=>0<=r/\r<=31:=by
 unfold M.dV M.pW;simp only[bi,aiA,rb,mB]
 refine Wp.ite (λ_=> .some (by omega)) λhc=>?_
 refine Wp.ite (λ_=> .some (by omega)) λ_=>?_
 have hm:1<=m/\m<=12:=by simp at hc;omega
 rw[bH (by omega) (by omega)]
 have:m=1\/m=2\/m=3\/m=4\/m=5\/m=6\/m=7\/m=8\/m=9\/m=10\/m=11\/m=12:=by omega
 rcases this with rfl|rfl|rfl|rfl|rfl|rfl|rfl|rfl|rfl|rfl|rfl|rfl<;>exact⟨_,rfl,by decide⟩
def pc(N:Nat)(y:Int):Wp (M.fq N y) λ_=>True:=by
 unfold M.fq M.kQ;simp only[aiA];exact .some trivial
def qm(d:Int):Wp (M.ki aU d) λ_=>True:=by
 unfold M.ki;rw[qX];simp only[aiA]
 refine Wp.ite (λ_=> .some trivial) λhv=>?_
 have hd:0<=d/\d<=109572:=by simpa using hv
 have h0:aiR d 366=d/366:=Int.tdiv_eq_ediv_of_nonneg hd.1;have hw:aiB.wrap (d/366)=d/366:=bH (by omega) (by omega);have Qb:aiB.wrap (1900+d/366)=1900+d/366:=bH (by omega) (by omega);rw[h0,hw,Qb]
 refine Wp.seq (λ_=>True) (Wp.loop (λy:Int=>1900<=y/\y<=2199) (λy=>(2199-y).toNat) (by omega) (by unfold aU;omega) ?_) λy _=>?_
 .rintro y ⟨h1,h2⟩
  by_cases hy:y=2199
  .subst hy
   have e:M.fq aU (aiB.wrap ((2199:Int)+1))=aa 109573:=by show(_:Option Int)=_;kernel_rfl
   rw[e];simp only[aiA];rw[aj (by simp;omega)];exact .some trivial
  .refine Wp.seq _ (pc ..) λz _=>?_
   refine Wp.dec (λ_=> .some ?_) λ_=> .some trivial
   rw[bH (by omega) (by omega)];exact⟨by omega,by simp only;omega⟩
 .refine Wp.seq _ (pc ..) λz _=>?_
  refine Wp.loop (λs:Int×Int=>∃i:Nat,s.2=i/\i<=12) (λs=>(12-s.2).toNat) ⟨0,rfl,by omega⟩ (by simp only;unfold aU;omega) ?_
  rintro⟨a,b⟩ ⟨i,hi,qS⟩
  simp only at hi;subst hi
  refine Wp.dec (λh=>?_) λ_=> .some trivial
  refine Wp.seq _ (ll ..) λw _=>?_
  refine Wp.dec (λ_=> .some trivial) λ_=> .some ?_
  simp only at h⊢;rw[aQ (by omega)];exact⟨⟨i+1,rfl,by omega⟩,by simp only;omega⟩
def Gj(y m d:Int):Wp (M.mF aU y m d) λr=>Cd r.2:=by
 unfold M.mF
 refine Wp.seq (λj=>j=ah->1<=m/\m<=12) ?_ λj hj=>?_
 .refine Wp.dec (λ_=> .some (λh=>by cases h)) λ_=>Wp.dec (λ_=> .some (λh=>by cases h)) λ_=>Wp.dec (λ_=> .some (λh=>by cases h)) λh1=>Wp.dec (λ_=> .some (λh=>by cases h)) λh2=>Wp.dec (λ_=> .some (λh=>by cases h)) λ_=>?_
  exact Wp.seq _ (ll ..) λw _=> .some λ_=>⟨by omega,by omega⟩
 .refine Wp.ite (λ_=> .some (by simp[Cd])) λhc=>?_
  have hm:=hj (by simpa using hc)
  refine Wp.seq _ (pc ..) λz _=>?_
  refine Wp.seq (λ_=>True) (Wp.loop (λs:Int×Int=>∃i:Nat,s.2=i/\i<=12) (λs=>(13-s.2).toNat) ⟨0,rfl,by omega⟩ (by simp only;unfold aU;omega) ?_) λw _=> .some (by simp[Cd])
  rintro⟨a,b⟩ ⟨i,hi,qS⟩
  simp only at hi;subst hi
  refine Wp.dec (λh=>?_) λ_=> .some trivial
  refine Wp.seq _ (ll ..) λw _=> .some ?_
  simp only at h⊢;rw[bH (n:=m-1) (by omega) (by omega)]at h;rw[aQ (by omega)];exact⟨⟨i+1,rfl,by omega⟩,by simp only;omega⟩
def pd(d n:Int):Wp (M.ja aU d n) λr=>Cd r.2:=by
 unfold M.ja;rw[qX];simp only[bi,aiA,rb]
 refine Wp.ite (λ_=> .some (by simp[Cd])) λhc=>?_
 refine Wp.seq _ (qm ..) λy _=>?_
 refine Wp.ite (λ_=> .some (by simp[Cd])) λ_=>?_
 refine Wp.seq _ (ll ..) λw _=>?_
 exact Wp.seq _ (Gj ..) λr hr=> .some hr
def pt(a b:Int):Wp (M.iC aU a b) λ_=>True:=by
 unfold M.iC;rw[qX,qX];simp only[bi,aiA,rb]
 refine Wp.ite (λ_=> .some trivial) λ_=>?_
 refine Wp.seq _ (qm ..) λy _=>Wp.seq _ (qm ..) λz _=>?_
 refine Wp.seq (λ_=>True) (Wp.seq _ (pd ..) λr _=>?_) λj _=> .some trivial
 exact .some trivial
end L.P
end Go.Proofs.YtfeahmiobbjklaaGreatDoor
