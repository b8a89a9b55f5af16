/- Joined texts: TV TW TX TY TZ TQ TR RY RZ PV PT PT2. -/
import Derived.Test.YtfeahmiobbjklaaGreatDoorU9
import Derived.Test.YtfeahmiobbjklaaGreatDoorU8
import Derived.Test.YtfeahmiobbjklaaGreatDoorU1
set_option linter.defProp false
open _root_.Bool renaming false->ag,true->af,false_eq_true->agK,and_eq_true->ahu
open _root_.Option renaming some->aa,bind_some->agv,none->ae
open _root_.Int renaming eq_ofNat_of_zero_le->agF,toNat_natCast->agD,le_refl->ahq,tdiv->agN,fdiv_eq_ediv_of_nonneg->ahU,tmod->aha
open _root_.List renaming append_assoc->ahr,getElem?_eq_getElem->agz,getElem_mem->agA,mem_filter->ahi,range->agG,take_append_getElem->agP,mem_append->agT,mem_singleton->agZ,replicate->agE,getElem_append_left->ahk,length_take->ag0,getElem?_take->ag9,getElem_of_mem->agS,countP_eq_zero->ahY,drop_eq_getElem_cons->agJ,mem_cons->agY,pairwise_cons->agO
open _root_.Nat renaming le_refl->agB,le_trans->agW,beq->agC,div_div_eq_div_mul->ahS,mul_le_mul_right->agM,pow_add->ahV
open _root_.Go.IntKind renaming i64->agw,u64->agy
open _root_.ByteArray renaming empty->ahK
open _root_.Option.some renaming inj->agx
namespace Go.Proofs.YtfeahmiobbjklaaGreatDoor
open Go Go.RowKit
set_option maxRecDepth 100000
set_option linter.unusedSimpArgs false
set_option linter.unusedVariables false
set_option linter.defProp false
namespace L
def Pn(r:Ty)(d:Int):Prop:=VR r/\(r.1:Int)<=d/\d<(r.2:Int)
instance(r:Ty)(d:Int):Decidable (Pn r d):=by unfold Pn;infer_instance
theorem Rr(r:Ty)(d:Int):M.cB aU r d=aa (decide (Pn r d)):=by
 obtain⟨(r1:Int),(r2:Int)⟩:=r;apply Wp.eq;unfold M.cB;simp only[EW,W_,aq,au,reduceCtorEq];unfold Pn
 grind
def wB{α:Type}{l:List α}{i:Int}(h0:0<=i)(h1:i<(l.length:Int)):∃x,idx l i=aa x/\x∈l:=by
 obtain⟨k,rfl⟩:=agF h0
 have hk:k<l.length:=by omega
 exact⟨_,aB hk,agA hk⟩
def bX{α:Type}(l:List α)(i:Int)(y:α):(bm l i y).length=l.length:=by unfold bm;simp
def ids(P:Nat->Bool)(k:Nat):List Int:=((agG k).filter P).map λi:Nat=>(i:Int)
theorem mB(P:Nat->Bool)(k:Nat):ids P (k+1)=ids P k++(if P k=af then[(k:Int)]else[]):=by
 unfold ids;rw[List.range_succ,List.filter_append,List.map_append]
 grind
theorem se{P:Nat->Bool}{k:Nat}{j:Int}:j∈ids P k↔∃i:Nat,i<k/\P i=af/\j=(i:Int):=by
 grind [ids]
def mV(P:Nat->Bool)(k:Nat):(ids P k).length<=k:=by
 grind [ids]
def ix(l:List Int)(n:Int):Int:=fa (λx=>decide (x=n)) l
theorem Rt{l:List Int}{n:Int}:0<=ix l n↔n∈l:=by
 grind [ix,lD]
def Cz(P:Nat->Bool)(n:Nat):∀m,∃t,ids P (n+m)=ids P n++t
 |0=>⟨[],by simp⟩
 |m+1=>by
  obtain⟨t,ht⟩:=Cz P n m
  grind [mB]
theorem Ru{P:Nat->Bool}{n k:Nat}(hk:k<n)(h:P k=af):ix (ids P n) (k:Int)=((ids P k).length:Int):=by
 obtain⟨t,ht⟩:=Cz P (k+1) (n-(k+1));rw[show k+1+(n-(k+1))=n by omega,mB,aj h,ahr]at ht;unfold ix
 refine va (k:=(ids P k).length) (by rw[ht];simp) ?_ λj hj Na=>?_
 .grind
 grind [se,agA]
def Fa(rules:List ig)(L:List Int):Nat->Nat->Int
 |0,_=> -1
 |f+1,i=>match rules[i]? with
  |none=> -1
  |some r=>if 0<=(r.2.2.1:Int)/\(r.2.2.1:Int)<(i:Int)then(if 0<=ix L r.2.2.1 then ix L r.2.2.1 else Fa rules L f (r.2.2.1:Int).toNat)else-1
def yE(rules:List ig)(L:List Int):∀f f' i,i<f->i<f'->Fa rules L f i=Fa rules L f' i
 |0,_,_,h,_=>absurd h (Nat.not_lt_zero _)
 |_+1,0,_,_,h=>absurd h (Nat.not_lt_zero _)
 |f+1,f'+1,i,h,h'=>by
  unfold Fa
  cases rules[i]? with
  |none=>rfl
  |some r=>
   dsimp only
   obtain⟨(p:Int),Rv⟩:∃p:Int,p=r.2.2.1:=⟨_,rfl⟩
   simp only[<-Rv];by_cases hp:0<=p/\p<(i:Int)
   .rw[aj hp,aj hp];by_cases h0:0<=ix L p
    .grind
    .rw[ai h0,ai h0];exact yE rules L f f' _ (by omega) (by omega)
   grind
def tE(rules:List ig)(L:List Int)(i:Nat):Int:=Fa rules L (i+1) i
def Gr{rules:List ig}{L:List Int}{i:Nat}(hi:i<rules.length):tE rules L i=if 0<=(rules[i].2.2.1:Int)/\(rules[i].2.2.1:Int)<(i:Int)then(if 0<=ix L rules[i].2.2.1 then ix L rules[i].2.2.1 else tE rules L (rules[i].2.2.1:Int).toNat)else-1:=by
 show Fa rules L (i+1) i=_
 unfold Fa;rw[agz hi];dsimp only
 obtain⟨(p:Int),Rv⟩:∃p:Int,p=rules[i].2.2.1:=⟨_,rfl⟩
 simp only[<-Rv];by_cases hp:0<=p/\p<(i:Int)
 .rw[aj hp,aj hp];by_cases h0:0<=ix L p
  .grind
  .rw[ai h0,ai h0];exact yE rules L _ _ _ (by omega) (by omega)
 grind
def LI(r:Ty)(d:Int):M.mq aU r d=aa (decide (Pn r d)):=by
 obtain⟨(r1:Int),(r2:Int)⟩:=r;apply Wp.eq;unfold M.mq;simp only[Um,W_,aq,au,reduceCtorEq];unfold Pn
 grind
def Fb(l:List Int)(n:Int)(hl:l.length<=100000):M.pk aU l n=aa (ix l n):=by
 unfold M.pk ix;refine r7 (by unfold maxLen;omega) (λk h=>?_) ?_
 .grind [aB]
 grind
def CA(x:ie)(L:List Int)(hL:L.length<=100000)(i:Nat)(hi:i<x.2.2.2.2.length)(kW:i<=100000):M.ot aU x L (i:Int)=aa (tE x.2.2.2.2 L i):=by
 obtain⟨rules,hr⟩:∃r:List ig,r=x.2.2.2.2:=⟨_,rfl⟩
 apply Wp.eq;unfold M.ot;rw[<-hr]at hi⊢;rw[aB hi,agv];refine Wp.loop (λs=>∃j:Nat,∃hj:j<rules.length,s=((j:Int),rules[j].2.2.1)/\tE rules L i=tE rules L j/\j<=i) (λs=>s.1.toNat) ⟨i,hi,rfl,rfl,agB _⟩ (by unfold aU;grind) ?_
 rintro s ⟨j,hj,rfl,hp,hji⟩
 dsimp only
 obtain⟨(p:Int),Rv⟩:∃p:Int,p=rules[j].2.2.1:=⟨_,rfl⟩
 rw[hp,Gr hj,<-Rv]
 refine Wp.seq (λb=>b=decide (0<=p/\p<(j:Int))) ?_ λb hb=>?_
 .refine Wp.dec (λh=> .some ?_) λh=> .some ?_
  all_goals grind
 .subst hb
  refine Wp.dec (λh=>?_) λh=> .some ?_
  .rw[aj h,Fb _ _ hL,agv]
   refine Wp.dec (λg=> .some ?_) λg=>?_
   .show ix L p=_
    rw[aj g]
   .obtain⟨q,rfl⟩:=agF h.1
    have hq:q<j:=by omega
    have LJ:q<rules.length:=by omega
    rw[aB LJ,agv];refine .some ⟨⟨q,LJ,rfl,?_,by omega⟩,by grind⟩
    grind
  .show(-1:Int)=_
   rw[ai h]
def kp(rules:List ig)(Pr:ig->Bool)(i:Nat):Bool:=match rules[i]? with
 |some r=>Pr r
 |none=>ag
def LK{rules:List ig}{Pr:ig->Bool}{i:Nat}(h:i<rules.length):kp rules Pr i=Pr rules[i]:=by
 grind [kp]
def Al(a d:Int)(r:ig):Bool:=decide ((r.2.1:Int)=a/\Pn r.2.2.2.2.1 d)
def eh(rules:List ig)(a d:Int):List Int:=ids (kp rules (Al a d)) rules.length
theorem Rx{r:ig}{a d:Int}{β:Type}{k:Bool->Option β}:(((if(decide (r.2.1=a))=af then(aa (decide (Pn r.2.2.2.2.1 d)):Option Bool)else aa ag):Option Bool).bind k)=k (Al a d r):=by
 grind [Al]
def UD(a d:Int)(r:ig):M.eE aU r a d=aa (Al a d r,a,d):=by
 grind [M.eE,Rr,Rx]
def jw(P:Nat->Bool)(n:Nat):List Nat:=(agG n).filter P
def yF(P:Nat->Bool)(k:Nat):jw P (k+1)=jw P k++(if P k=af then[k]else[]):=kJ k P
def CB(P:Nat->Bool)(k:Nat):(jw P k).length=(ids P k).length:=by unfold ids jw;simp
def di(rules:List ig)(a d:Int):List Int:=(jw (kp rules (Al a d)) rules.length).map (tE rules (eh rules a d))
def dX(rules:List ig)(a d:Int):List Int:=(jw (kp rules (Al a d)) rules.length).map λi=>match rules[i]? with
 |some r=>r.2.2.2.1
 |none=>0
def LL{rules:List ig}{a d:Int}(hl:rules.length<=100000):M.eF aU rules a d=aa (a,d,eh rules a d,di rules a d):=by
 unfold M.eF;refine Wp.eq (wp_bind.2 (my.2 ⟨by omega,?_⟩));rw[agD]
 obtain⟨P,hP⟩:∃P,P=kp rules (Al a d):=⟨_,rfl⟩
 obtain⟨L,hL⟩:∃L,L=eh rules a d:=⟨_,rfl⟩
 have hLd:L=ids P rules.length:=by rw[hL,hP];rfl
 refine Wp.count (λs=>s.1) rules.length (λk s=>s.2.1=a/\s.2.2.1=d/\s.2.2.2.1.length=rules.length/\(∀i:Nat,∀h:i<s.2.2.2.1.length,i<k->s.2.2.2.1[i]=if P i=af then ix L i else tE rules L i)/\s.2.2.2.2.1=ids P k/\s.2.2.2.2.2=(jw P k).map (tE rules L)) (by omega) rfl ⟨rfl,rfl,by simp,λi _ hi=>absurd hi (by omega),rfl,rfl⟩ λk s hk hs hJ=>?_
 obtain⟨i,a',d',Ry,li,pa⟩:=s;obtain⟨j1,j2,j3,j4,j5,j6⟩:=hJ;dsimp only at hs j1 j2 j3 j4 j5 j6;subst hs j1 j2 j5 j6
 refine Wp.dec (λaH=>?_) λhge=>?_
 .have aH:k<rules.length:=by dsimp only at aH;omega
  have MH:=mV P k;have BK:=CB P k;dsimp only
  refine Wp.seq (λj=>j.1=a'/\j.2.1=d'/\j.2.2.1.length=rules.length/\(∀i:Nat,∀h:i<j.2.2.1.length,i<k+1->j.2.2.1[i]=if P i=af then ix L i else tE rules L i)/\j.2.2.2.1=ids P (k+1)/\j.2.2.2.2=(jw P (k+1)).map (tE rules L)) ?_ λj hj=> .some ⟨aH,cy (m:=rules.length) (by omega) aH,hj⟩
  rw[aB aH,agv]
  obtain⟨(p:Int),Rv⟩:∃p:Int,p=rules[k].2.2.1:=⟨_,rfl⟩
  refine Wp.seq (λv=>v=tE rules L k) ?_ λv hv=>?_
  .rw[Gr aH,<-Rv]
   refine Wp.seq (λj=>j=decide (0<=p/\p<(k:Int))) ?_ λj hj=>?_
   .refine Wp.dec (λh=> .some ?_) λh=> .some ?_
    all_goals grind
   .subst hj
    refine Wp.dec (λh=>?_) λh=> .some ?_
    .obtain⟨q,rfl⟩:=agF h.1
     have hq:q<k:=by omega
     have LJ:q<Ry.length:=by omega
     rw[aB LJ,agv];refine .some ?_
     grind [Rt,se]
    grind
  .subst hv;rw[aB (show k<Ry.length by omega),agv,UD,agv,mB,yF]
   have hPk:P k=Al a' d' rules[k]:=by rw[hP];exact LK aH
   rw[hPk];dsimp only;by_cases hp:Al a' d' rules[k]=af
   .rw[aj hp,aj hp,aj hp,aB (show k<(bm Ry (k:Int) (tE rules L k)).length by rw[bX];omega),agv,dW (by simp;omega),agv,dW (by simp;omega),agv];refine .some ⟨rfl,rfl,by rw[bX,bX];exact j3,λi h hi=>?_,rfl,by simp⟩
    grind [bm,Ru]
   .rw[ai hp,ai hp,ai hp];refine .some ⟨rfl,rfl,by rw[bX];exact j3,λi h hi=>?_,by simp,by simp⟩
    grind [bm]
 .have hge:k=rules.length:=by dsimp only at hge;omega
  refine .some ?_;subst hge
  show _=_
  grind [di]
def IL(x:ie)(a d:Int)(hl:x.2.2.2.2.length<=100000):M.iZ aU x a d=aa (eh x.2.2.2.2 a d,di x.2.2.2.2 a d,dX x.2.2.2.2 a d):=by
 unfold M.iZ;rw[LL hl,agv]
 obtain⟨rules,hr⟩:∃r:List ig,r=x.2.2.2.2:=⟨_,rfl⟩
 rw[<-hr]at hl⊢
 obtain⟨P,hP⟩:∃P,P=kp rules (Al a d):=⟨_,rfl⟩
 have hi:eh rules a d=(jw P rules.length).map λi:Nat=>(i:Int):=by rw[hP];rfl
 have hNl:(jw P rules.length).length<=rules.length:=by unfold jw;exact(by grind)
 refine Wp.eq (Wp.seq (λj=>j=dX rules a d) ?_ λj hj=> .some (by rw[hj]));unfold dX;dsimp only;rw[hi,<-hP]
 have sU:∀i∈jw P rules.length,i<rules.length:=λi hi=>List.mem_range.1 (ahi.1 hi).1
 refine Wp.count (λs=>s.1) (jw P rules.length).length (λk s=>s.2=((jw P rules.length).take k).map λi=>match rules[i]? with
  |some r=>r.2.2.2.1
  |none=>0) (by omega) rfl rfl λk s hk hs hJ=>?_
 obtain⟨kk,l⟩:=s;dsimp only at hs hJ⊢;subst hs hJ;rw[List.length_map]
 refine Wp.dec (λaH=>?_) λhge=>?_
 .have aH:k<(jw P rules.length).length:=by omega
  have hb:=sU _ (agA aH);refine .bind (.idx k rfl (by simpa using aH) ?_);rw[List.getElem_map,aB hb,agv];refine .bind (.tW (by simp;omega) (.some ⟨aH,aP (by omega),?_⟩))
  grind [agP]
 .have:k=(jw P rules.length).length:=by omega
  subst this;refine .some ?_
  show _=_
  grind
def xz(x:ie)(a d:Int)(hl:x.2.2.2.2.length<=100000):M.nk aU x a d=aa (eh x.2.2.2.2 a d):=by
 unfold M.nk eh
 obtain⟨rules,hr⟩:∃r:List ig,r=x.2.2.2.2:=⟨_,rfl⟩
 rw[<-hr]at hl⊢;refine Wp.eq (Wp.count (λs=>s.1) rules.length (λk s=>s.2=ids (kp rules (Al a d)) k) (by omega) rfl rfl λk s hk hs hJ=>?_);obtain⟨kk,l⟩:=s;dsimp only at hs hJ⊢;subst hs hJ
 refine Wp.dec (λaH=>?_) λhge=> .some ?_
 .have aH:k<rules.length:=by omega
  have MH:=mV (kp rules (Al a d)) k
  refine Wp.seq (λj=>j=ids (kp rules (Al a d)) (k+1)) ?_ λj hj=> .some ⟨aH,aP (by omega),hj⟩
  rw[mB,LK aH]
  refine Wp.seq (λb=>b=Al a d rules[k]) (.bind (.idx k rfl aH ?_)) λb hb=>?_
  .unfold Al;by_cases h:(rules[k].2.1:Int)=a
   .rw[aj (by simpa using h),aB aH,agv,LI,agv];refine .some ?_;simp[h]
   .rw[ai (by simpa using h)];refine .some ?_;simp[h]
  .subst hb;refine .ite (λh=> .bind (.tW (by simp;omega) (.some ?_))) (λh=> .some ?_)
   all_goals grind
 .have:k=rules.length:=by omega
  subst this;rfl
def LM(x:ie)(a d:Int)(hl:x.2.2.2.2.length<=100000):M.ou aU x a d=aa (eh x.2.2.2.2 a d,di x.2.2.2.2 a d,dX x.2.2.2.2 a d):=by
 unfold M.ou;rw[xz x a d hl,agv]
 have Lm:=λL(hL:L.length<=100000)i hi kW=>CA x L hL i hi kW
 obtain⟨rules,hr⟩:∃r:List ig,r=x.2.2.2.2:=⟨_,rfl⟩
 rw[<-hr]at hl Lm⊢
 obtain⟨P,hP⟩:∃P,P=kp rules (Al a d):=⟨_,rfl⟩
 obtain⟨L,hL⟩:∃L,L=eh rules a d:=⟨_,rfl⟩
 have VM:L.length<=100000:=by rw[hL];exact agW (mV _ _) hl
 have hi:eh rules a d=(jw P rules.length).map λi:Nat=>(i:Int):=by rw[hP];rfl
 have hNl:(jw P rules.length).length<=rules.length:=by unfold jw;exact(by grind)
 have sU:∀i∈jw P rules.length,i<rules.length:=λi hi=>List.mem_range.1 (ahi.1 hi).1
 refine Wp.eq (Wp.seq (λj=>j=(di rules a d,dX rules a d)) ?_ λj hj=> .some (by rw[hj]));unfold di dX;rw[<-hP,<-hL]
 have UE:L=(jw P rules.length).map λi:Nat=>(i:Int):=hL.trans hi
 refine Wp.count (λs=>s.1) (jw P rules.length).length (λk s=>s.2.1=((jw P rules.length).take k).map (tE rules L)/\s.2.2=((jw P rules.length).take k).map λi=>match rules[i]? with
  |some r=>r.2.2.2.1
  |none=>0) (by omega) rfl ⟨rfl,rfl⟩ λk s hk hs hJ=>?_
 obtain⟨kk,l,m⟩:=s;obtain⟨e1,e2⟩:=hJ;dsimp only at hs e1 e2⊢;subst hs e1 e2
 have hlen:L.length=(jw P rules.length).length:=by rw[UE];simp
 refine Wp.dec (λaH=>?_) λhge=>?_
 .have aH:k<(jw P rules.length).length:=by rw[<-hlen];omega
  have hb:=sU _ (agA aH)
  have hx:L[k]'(by omega)=((jw P rules.length)[k]:Int):=by simp only[UE,List.getElem_map]
  refine .bind (.idx k rfl (by omega) ?_);rw[hx,Lm L VM _ hb (by omega),agv];refine .bind (.tW (by simp;omega) (.bind (.idx k rfl (by omega) ?_)));rw[hx,aB hb,agv];refine .bind (.tW (by simp;omega) (.some ⟨aH,aP (by omega),?_,?_⟩))
  all_goals grind [agP]
 .have:k=(jw P rules.length).length:=by rw[<-hlen]at hk⊢;omega
  subst this;refine .some ?_
  show(_,_)=(_,_)
  grind
end L
section
namespace L.S
def at'{α:Type}(d:α)(l:List α)(i:Int):α:=(l[i.toNat]?).getD d
theorem nr{α:Type}(d:α){l:List α}{i:Int}(h0:0<=i)(h:i<l.length):idx l i=aa (at' d l i):=by
 unfold idx at';rw[aj h0,agz (by omega)];rfl
structure V(p q:List Int):Prop where
 len:p.length=q.length
 n8:p.length<=8
 par:∀i:Nat,i<p.length->-1<=at' 0 p i/\at' 0 p i<i
def Am(N:Nat)(p q:List Int):M.mu N p q=M.cR N p q:=by
 unfold M.mu M.cR
 congr 3
 funext s
 congr 1
 cases hp:idx p s<;>cases hq:idx q s<;>rfl
def CC{N:Nat}(p q:List Int)(hN:10<=N):∃e,M.cR N p q=aa e/\(e=0->V p q):=by
 unfold M.cR;by_cases h1:(p.length:Int)=q.length
 .rw[ai (by simpa using h1)];by_cases h2:8<(p.length:Int)
  .simp_all
  .rw[ai (by simpa using h2)];refine tl (I:=λs:Int=>0<=s/\s<=p.length/\∀i:Nat,(i:Int)<s->-1<=at' 0 p i/\at' 0 p i<i) (μ:=λs=>(p.length-s).toNat) (Q:=λe=>e=0->V p q) ?_ N 0 (by grind) (by omega)
   rintro s ⟨h3,h4,h5⟩
   by_cases h6:s<(p.length:Int)
   .rw[aj (by simpa using h6),nr 0 h3 h6,nr 0 h3 (by omega)];simp only[agv];by_cases h7:at' 0 p s< -1
    .rw[aj (by simpa using h7)];exact .inr ⟨9,rfl,by omega⟩
    .rw[ai (by simpa using h7)];by_cases h8:s<=at' 0 p s
     .grind
     .simp only[agv,h8,decide_false,agK,if_false]
      have fin:(∃s',(aa (Sum.inl (agw.wrap (s+1))):Option (Int⊕Int))=aa (.inl s')/\(0<=s'/\s'<=p.length/\∀i:Nat,(i:Int)<s'->-1<=at' 0 p i/\at' 0 p i<i)/\((p.length:Int)-s').toNat<((p.length:Int)-s).toNat):=by
       rw[bL (by omega) (by omega)];refine⟨s+1,rfl,⟨by omega,by omega,λi hi=>?_⟩,by omega⟩;by_cases e:(i:Int)<s
       .exact h5 i e
       .have:(i:Int)=s:=by omega
        rw[this];omega
      by_cases h9:at' 0 q s<0
      .simp only[h9,decide_true,if_true,agv];exact .inr ⟨3,rfl,by omega⟩
      .simp only[h9,decide_false,agK,if_false,agv];by_cases h10:9<at' 0 q s
       .grind
       .simp only[h10,decide_false,agK,if_false];exact .inl fin
   .rw[ai (by simpa using h6)];exact .inr ⟨0,rfl,λ_=>⟨by omega,by omega,λi hi=>h5 i (by omega)⟩⟩
 simp_all
def ch(p:List Int)(i:Int):List Int:=((agG p.length).filter λj:Nat=>decide (at' 0 p (j:Int)=i)).map (λj:Nat=>(j:Int))
def Rz{p:List Int}{i c:Int}:c∈ch p i↔0<=c/\c<p.length/\at' 0 p c=i:=by
 unfold ch;simp only[List.mem_map,ahi,List.mem_range,aw]
 grind [agF]
def LN(p:List Int)(i:Int):(ch p i).length<=p.length:=by
 unfold ch;rw[List.length_map];have:=List.length_filter_le (λj:Nat=>decide (at' 0 p (j:Int)=i)) (agG p.length);simpa using this
def ub{N:Nat}{p:List Int}(i:Int)(hn:p.length<=8)(hN:10<=N):M.dl N p i=aa (ch p i):=by
 unfold M.dl;refine u7 (λk:Nat=>((k:Int),(((agG k).filter λj:Nat=>decide (at' 0 p (j:Int)=i)).map (λj:Nat=>(j:Int)):List Int))) p.length _ rfl ?_ ?_ (by omega)
 .intro k hk
  have hw:agw.wrap ((k:Int)+1)=((k+1:Nat):Int):=by rw[bL]<;>omega
  simp only;rw[aj (by simp;omega),nr 0 (by omega) (by omega),agv,hw,kJ];by_cases h:at' 0 p (k:Int)=i
  .rw[aj (by simpa using h),dW,agv,aj (by simpa using h)]
   .simp
   .simp only[List.length_map,List.length_cons,List.length_nil];have:=List.length_filter_le (λj:Nat=>decide (at' 0 p (j:Int)=i)) (agG k);simp at this;omega
  .rw[ai (by simpa using h),ai (by simpa using h)];simp
 .simp only;rw[ai (by simp)];rfl
def An(N:Nat)(p:List Int)(i:Int):M.pn N p i=M.dl N p i:=rfl
def step(o:Int->Int)(q:List Int)(b:List Int)(c:Int):List Int:=
 if o c= -1 then b else
 match b with
 |[]=>[c]
 |x::r=>if at' 0 q x<at' 0 q c then[c]else if at' 0 q c=at' 0 q x then(x::r)++[c]else x::r
def oT(o:Int->Int)(q:List Int)(l:List Int):List Int:=l.foldl (step o q) []
structure Inv(o:Int->Int)(q:List Int)(l b:List Int):Prop where
 sub:b.Sublist l
 live:∀c,c∈b->o c≠-1
 max:∀d,d∈l->o d≠-1->b≠[]/\∀c,c∈b->at' 0 q d<=at' 0 q c
 all:∀d,d∈l->o d≠-1->(∀c,c∈b->at' 0 q d=at' 0 q c)->d∈b
def Ao{α:Type}{d a:α}{l:List α}:at' d (a::l) 0=a:=rfl
def wb{o:Int->Int}{q l b:List Int}{c:Int}(h:Inv o q l b):Inv o q (l++[c]) (step o q b c):=by
 obtain⟨h1,h2,h3,h4⟩:=h
 have vq:∀x∈b,∀y∈b,at' 0 q x=at' 0 q y:=(by grind)
 unfold step;by_cases hd:o c= -1
 .rw[aj hd];refine⟨h1.trans (List.sublist_append_left _ _),h2,λd hm hl=>?_,λd hm hl=>?_⟩
  .rcases agT.1 hm with hm|hm
   .exact h3 d hm hl
   .rw[agZ.1 hm]at hl;exact absurd hd hl
  .rcases agT.1 hm with hm|hm
   .exact h4 d hm hl
   .rw[agZ.1 hm]at hl;exact absurd hd hl
 .rw[ai hd]
  cases b with
  |nil=>
   have Po:∀d,d∈l->¬o d≠-1:=λd hm hl=>(h3 d hm hl).1 rfl
   refine⟨(List.sublist_append_right _ _),?_,λd hm hl=>⟨by simp,?_⟩,λd hm hl hh=>?_⟩
   .intro x hx;rw[agZ.1 hx];exact hd
   .intro x hx;rw[agZ.1 hx]
    rcases agT.1 hm with hm|hm
    .exact absurd hl (Po d hm)
    .rw[agZ.1 hm];exact ahq _
   .rcases agT.1 hm with hm|hm
    .exact absurd hl (Po d hm)
    .exact hm
  |cons a b=>
   simp only;by_cases aH:at' 0 q a<at' 0 q c
   .rw[aj aH];refine⟨(List.sublist_append_right _ _),?_,λd hm hl=>⟨by simp,?_⟩,λd hm hl hh=>?_⟩
    all_goals grind
   .rw[ai aH];by_cases he:at' 0 q c=at' 0 q a
    .rw[aj he];refine⟨(by grind),?_,λd hm hl=>⟨by simp,?_⟩,λd hm hl hh=>?_⟩
     .intro x hx
      rcases agT.1 hx with hx|hx
      .exact h2 x hx
      .rw[agZ.1 hx];exact hd
     .intro x hx
      have MX:at' 0 q x=at' 0 q a:=by
       rcases agT.1 hx with hx|hx
       .grind
       .grind
      grind
     .rcases agT.1 hm with hm|hm
      .exact List.mem_append_left _ (h4 d hm hl λx hx=>hh x (List.mem_append_left _ hx))
      .exact List.mem_append_right _ hm
    .rw[ai he];refine⟨h1.trans (List.sublist_append_left _ _),h2,λd hm hl=>⟨by simp,?_⟩,λd hm hl hh=>?_⟩
     all_goals grind
def CD{o:Int->Int}{q:List Int}:∀(m l b:List Int),Inv o q l b->Inv o q (l++m) (m.foldl (step o q) b)
 |[],l,b,h=>by simpa using h
 |c::m,l,b,h=>by
  have:=CD m (l++[c]) _ (wb (c:=c) h)
  grind
def pE(o:Int->Int)(q l:List Int):Inv o q l (oT o q l):=by
 have:=CD (o:=o) (q:=q) l [] [] ⟨List.Sublist.refl _,by simp,by simp,by simp⟩;rw[List.nil_append]at this;exact this
def rj{o o':Int->Int}{q:List Int}:∀(l b:List Int),(∀c,c∈l->o c=o' c)->l.foldl (step o q) b=l.foldl (step o' q) b
 |[],_,_=>rfl
 |c::l,b,h=>by
  have:step o q b c=step o' q b c:=by unfold step;rw[h c (by simp)]
  rw[List.foldl_cons,List.foldl_cons,this]
  exact rj l _ λd hd=>h d (by simp[hd])
def uC(o:Int->Int)(b:List Int):Int:=if(b.length:Int)=0 then-1 else if(b.length:Int)=1 then o (at' 0 b 0)else-2
def out(p q:List Int)(a:List Bool):Nat->Int->Int
 |0,_=> -1
 |k+1,i=>
  let c:=uC (out p q a k) (oT (out p q a k) q (ch p i))
  if c= -1/\at' ag a i=af then i else c
def cout(p q:List Int)(a:List Bool)(k:Nat)(i:Int):Int:=uC (out p q a k) (oT (out p q a k) q (ch p i))
def sf(p q:List Int)(a:List Bool)(k:Nat)(i:Int):out p q a (k+1) i=if cout p q a k i= -1/\at' ag a i=af then i else cout p q a k i:=rfl
def pF{p q:List Int}(hv:V p q){i c:Int}(h:c∈ch p i):i<c/\0<=c/\c<8/\c<p.length:=by
 obtain⟨h1,h2,h3⟩:=Rz.1 h;have:=hv.n8;obtain⟨j,rfl⟩:=agF h1;have:=(hv.par j (by omega)).2;omega
def wC{o o':Int->Int}{b:List Int}(h:∀c,c∈b->o c=o' c):uC o b=uC o' b:=by
 cases b with
 |nil=>rfl
 |cons x b=>unfold uC;rw[Ao,h x (by simp)]
def wD{p q:List Int}{a:List Bool}{k k':Nat}{i:Int}(h:∀c,c∈ch p i->out p q a k c=out p q a k' c):cout p q a k i=cout p q a k' i:=by
 unfold cout;have:oT (out p q a k) q (ch p i)=oT (out p q a k') q (ch p i):=rj _ _ h;rw[this]
 exact wC λc hc=>h c ((pE _ _ _).sub.subset hc)
def wE{p q:List Int}(hv:V p q)(a:List Bool):∀(k:Nat)(i:Int),8<k+i->out p q a k i=out p q a (k+1) i\/8<=i
 |0,i,h=> .inr (by omega)
 |k+1,i,h=>by
  by_cases h8:8<=i
  .exact .inr h8
  .left
   rw[sf,sf p q a (k+1),wD (k:=k) (k':=k+1)];intro c hc;have:=pF hv hc;exact(wE hv a k c (by omega)).resolve_right (by omega)
def O(p q:List Int)(a:List Bool)(i:Int):Int:=out p q a 16 i
def C(p q:List Int)(a:List Bool)(i:Int):Int:=uC (O p q a) (oT (O p q a) q (ch p i))
def Pp{p q:List Int}(hv:V p q)(a:List Bool):∀(d k:Nat)(i:Int),8<k+i->i<8->d+k=16->out p q a k i=O p q a i
 |0,k,i,_,_,hd=>by
  obtain rfl:k=16:=by omega
  rfl
 |d+1,k,i,h,h8,hd=>by
  rw[(wE hv a k i h).resolve_right (by omega)];exact Pp hv a d (k+1) i (by omega) h8 (by omega)
def UF{p q:List Int}(hv:V p q)(a:List Bool){k:Nat}{i:Int}(h:7<k+i)(hk:k<=16):cout p q a k i=C p q a i:=by
 show _=cout p q a 16 i
 refine wD λc hc=>?_
 have:=pF hv hc;exact Pp hv a (16-k) k c (by omega) (by omega) (by omega)
def Zt{p q:List Int}(hv:V p q)(a:List Bool){i:Int}(h0: -1<=i):O p q a i=if C p q a i= -1/\at' ag a i=af then i else C p q a i:=by
 unfold O;rw[sf,UF hv a (by omega) (by omega)]
def yG{q b:List Int}{c y:Int}{o:Int->Int}(hy:o c=y)(hb:∀x,x∈b->0<=x/\x<q.length)(hl:b.length<=8)(hc:0<=c/\c<q.length):
 (if(decide (y=(-1:Int)))=af then
some b
else
(((if(decide ((0:Int)<(b.length:Int)))=af then
(idx q c).bind λx8=>
(idx b (0:Int)).bind λx9=>
(idx q x9).bind λZu=>
some (decide (Zu<x8))
else
some ag):Option (Bool)).bind λj7=>
(if j7=af then
(ga b (0:Int) (0:Int)).bind λl11=>
some l11
else
some b):Option (List Int)).bind λj6=>
((if(decide ((j6.length:Int)=(0:Int)))=af then
some af
else
(idx q c).bind λUG=>
(idx j6 (0:Int)).bind λLO=>
(idx q LO).bind λVN=>
some (decide (UG=VN))):Option (Bool)).bind λVO=>
(if VO=af then
(cm j6 ([c]:List Int)).bind λZv=>
some Zv
else
some j6))=aa (step o q b c):=by
 subst hy;unfold step;by_cases h:o c= -1
 .simp only[h,decide_true,if_true]
 .simp only[h,decide_false,agK,if_false];rw[nr 0 hc.1 hc.2]
  cases b with
  |nil=>simp[cm]
  |cons x r=>
   have hx:=hb x (by simp)
   have h0:(0:Int)<((x::r).length:Int):=by simp only[List.length_cons];omega
   have h1:¬((x::r).length:Int)=0:=by omega
   simp only[h0,decide_true,if_true,agv,rX,nr 0 hx.1 hx.2]
   grind [ga,rX,S.nr,dW]
def LP{q b:List Int}{c y:Int}{o:Int->Int}(hy:o c=y)(hb:∀x,x∈b->0<=x/\x<q.length)(hl:b.length<=8)(hc:0<=c/\c<q.length):
 (if(decide (y=(-1:Int)))=af then
some b
else
(((if(decide ((0:Int)<(b.length:Int)))=af then
(idx q c).bind λx8=>
(idx b (0:Int)).bind λx9=>
(idx q x9).bind λZu=>
some (decide (Zu<x8))
else
some ag):Option (Bool)).bind λj7=>
(if j7=af then
some ([]:List Int)
else
some b):Option (List Int)).bind λj6=>
((if(decide ((j6.length:Int)=(0:Int)))=af then
some af
else
(idx q c).bind λUG=>
(idx j6 (0:Int)).bind λLO=>
(idx q LO).bind λVN=>
some (decide (UG=VN))):Option (Bool)).bind λVO=>
(if VO=af then
(cm j6 ([c]:List Int)).bind λZv=>
some Zv
else
some j6))=aa (step o q b c):=by
 rw[<-yG hy hb hl hc];rfl
theorem si{l:List Int}{o:Int->Int}{q:List Int}{k:Nat}:((l.take k).foldl (step o q) []).Sublist l:=(pE o q (l.take k)).sub.trans (List.take_sublist _ _)
def Oa{N:Nat}{p q r:List Int}(hv:V p q)(hr:r.length=p.length)(i:Int)(hN:20<=N):M.dH N (p,(q,r)) i=aa (oT (at' 0 r) q (ch p i)):=by
 have h8:=hv.n8;have hl:=LN p i;unfold M.dH;simp only;rw[ub i h8 (by omega),agv];refine u7 (λk:Nat=>((k:Int),((ch p i).take k).foldl (step (at' 0 r) q) [])) (ch p i).length _ rfl ?_ ?_ (by omega)
 .intro k hk
  have hw:agw.wrap ((k:Int)+1)=((k+1:Nat):Int):=by rw[bL]<;>omega
  have hc:=pF hv (agA hk);have hq:=hv.len;simp only;rw[aj (by simp;omega),aB hk,agv,nr 0 hc.2.1 (by omega),agv,hw];have hb:=yG (q:=q) (b:=((ch p i).take k).foldl (step (at' 0 r) q) []) (c:=(ch p i)[k]) (o:=at' 0 r) rfl (λx hx=>by have:=pF hv (si.subset hx);omega) (by grind [S.si]) ⟨hc.2.1,by omega⟩
  grind [List.take_succ_eq_append_getElem]
 .simp only;rw[ai (by simp),List.take_length];rfl
def Ob{p q:List Int}(hv:V p q){o:Int->Int}{i c:Int}(h:c∈oT o q (ch p i)):i<c/\0<=c/\c<8/\c<p.length:=pF hv ((pE o q _).sub.subset h)
def qI{N:Nat}{p q r:List Int}(hv:V p q)(hr:r.length=p.length)(i:Int)(hN:20<=N):M.bZ N (p,(q,r)) i=aa (uC (at' 0 r) (oT (at' 0 r) q (ch p i))):=by
 unfold M.bZ uC;rw[Oa hv hr i hN,agv]
 cases hb:oT (at' 0 r) q (ch p i)with
 |nil=>simp
 |cons x b=>
  have hx:=Ob hv (o:=at' 0 r) (i:=i) (c:=x) (by rw[hb];simp)
  have h1:¬((x::b).length:Int)=0:=by simp;omega
  simp only[h1,decide_false,agK,if_false,rX,agv,Ao,nr 0 hx.2.1 (show x<(r.length:Int) by omega)];by_cases h2:((x::b).length:Int)=1
  .simp only[h2,decide_true,if_true]
  .simp only[h2,decide_false,agK,if_false]
def Gs{p q r:List Int}(hv:V p q){a:List Bool}{i:Int}(h:∀c,i<c->0<=c->c<p.length->at' 0 r c=O p q a c):uC (at' 0 r) (oT (at' 0 r) q (ch p i))=C p q a i:=by
 unfold C
 have h':∀c,c∈ch p i->at' 0 r c=O p q a c:=λc hc=>by
  have:=pF hv hc;exact h c this.1 this.2.1 this.2.2.2
 have:oT (at' 0 r) q (ch p i)=oT (O p q a) q (ch p i):=rj _ _ h';rw[this]
 exact wC λc hc=>h' c ((pE _ _ _).sub.subset hc)
def outs(p q:List Int)(a:List Bool)(k:Nat):List Int:=(agG p.length).map λj=>if p.length<=j+k then O p q a (j:Int)else 0
theorem LQ{n:Nat}{f:Nat->Int}{c:Int}(h0:0<=c)(h:c<n):at' 0 ((agG n).map f) c=f c.toNat:=by
 grind [S.at']
def CE{N:Nat}{p q:List Int}{a:List Bool}(hv:V p q)(ha:a.length=p.length)(hN:20<=N):M.dV N p q a=aa (outs p q a p.length):=by
 have h8:=hv.n8;unfold M.dV
 have h0:oM (p.length:Int) (0:Int)=aa (agE p.length 0):=by
  unfold oM;rw[aj (by omega)];simp
 rw[h0,agv];refine u7 (λk:Nat=>((p.length:Int)-1-(k:Int),outs p q a k)) p.length _ ?_ ?_ ?_ (by omega)
 .rw[bL (by omega) (by omega)]
  have:outs p q a 0=agE p.length 0:=by
   unfold outs
   refine List.ext_getElem (by simp) λj h1 h2=>?_
   simp at h2;rw[List.getElem_map,List.getElem_range,List.getElem_replicate,ai (by omega)]
  grind
 .intro k hk
  have hlen:(outs p q a k).length=p.length:=by simp[outs]
  have hO:=Zt hv a (i:=(p.length:Int)-1-(k:Int)) (by omega);generalize hi:(p.length:Int)-1-(k:Int)=i at*
  have hc:uC (at' 0 (outs p q a k)) (oT (at' 0 (outs p q a k)) q (ch p i))=C p q a i:=Gs hv λc h1 h2 h3=>by
   unfold outs;rw[LQ h2 h3,aj (by omega),Int.toNat_of_nonneg h2]
  simp only;rw[aj (by simp;omega),qI hv hlen i hN,agv,hc,nr 0 (by omega) (by omega),agv]
  have xv:∀v,bm (bm (outs p q a k) i v) i (O p q a i)=outs p q a (k+1)/\(v=O p q a i->bm (outs p q a k) i v=outs p q a (k+1)):=by
   intro v
   have e:bm (outs p q a k) i (O p q a i)=outs p q a (k+1):=by
    unfold bm outs;rw[lr]
    refine List.map_congr_left λj hj=>?_
    have:=List.mem_range.1 hj;by_cases h:j=i.toNat
    .rw[aj h,aj (by omega),h,Int.toNat_of_nonneg (by omega)]
    .rw[ai h];by_cases h':p.length<=j+k
     .rw[aj h',aj (by omega)]
     .rw[ai h',ai (by omega)]
   refine⟨?_,λh=>h▸e⟩;unfold bm at e⊢;rw[List.set_set];exact e
  grind [idx,bm,S.at',bL]
 .simp only;rw[ai (by simp;omega)]
def Oc{p q:List Int}{a:List Bool}{c:Int}(h0:0<=c)(h:c<p.length):at' 0 (outs p q a p.length) c=O p q a c:=by
 grind [S.outs,S.LQ]
def LR{p q:List Int}{a:List Bool}{k:Nat}:(outs p q a k).length=p.length:=by simp[outs]
def Pq(e:Int)(y:Bool){α:Type}(k:Bool->Option α):((if(!decide (e=(0:Int)))=af then aa af else aa y:Option Bool).bind k)=k (!decide (e=0)||y):=by
 cases decide (e=0)<;>rfl
def Ap{N:Nat}(hN:20<=N)(p q:List Int)(a:List Bool):(M.cF N p q a=aa (-1)/\M.kI N p q a=aa (-1))\/
 (V p q/\a.length=p.length/\M.cF N p q a=aa (C p q a (-1))/\M.kI N p q a=M.mv N p q a (-1)):=by
 obtain⟨e,he,hv⟩:=CC (N:=N) p q (by omega);unfold M.cF M.kI;rw[Am,he];simp only[agv];rw[Pq,Pq];by_cases h:(!decide (e=0)||(!decide ((a.length:Int)=(p.length:Int))))=af
 .left
  rw[aj h,aj h];exact⟨rfl,rfl⟩
 .right
  have h1:e=0:=by simp at h;exact h.1
  have h2:a.length=p.length:=by simp at h;omega
  have hv:=hv h1;rw[ai h,ai h,CE hv h2 hN];simp only[agv];rw[qI hv LR (-1) hN];refine⟨hv,h2,?_,?_⟩
  .exact av aa (Gs hv λc _ h0 h=>Oc h0 h)
  .cases M.mv N p q a (-1)<;>rfl
section
variable {p q:List Int} {a:List Bool} (hv:V p q) (ha:a.length=p.length)
include hv ha
def UH{N:Nat}{o:Int->Int}{i:Int}(hN:20<=N)(ho:∀c,c∈ch p i->M.dB aU N p q a c=aa (o c)):M.ow aU (N+1) p q a i=aa (oT o q (ch p i)):=by
 have h8:=hv.n8;have hl:=LN p i;unfold M.ow;rw[An,ub i h8 (by unfold aU;omega),agv];refine u7 (λk:Nat=>((k:Int),((ch p i).take k).foldl (step o q) [])) (ch p i).length _ rfl ?_ ?_ (by unfold aU;omega)
 .intro k hk
  have hw:agw.wrap ((k:Int)+1)=((k+1:Nat):Int):=by rw[bL]<;>omega
  have hc:=pF hv (agA hk);have hq:=hv.len;simp only;rw[aj (by simp;omega),aB hk,agv,ho _ (agA hk),agv,hw];have hb:=LP (q:=q) (b:=((ch p i).take k).foldl (step o q) []) (c:=(ch p i)[k]) (o:=o) rfl (λx hx=>by have:=pF hv (si.subset hx);omega) (by grind [S.si]) ⟨hc.2.1,by omega⟩;simp only[agv]
  grind [List.take_succ_eq_append_getElem]
 .simp only;rw[ai (by simp),List.take_length];rfl
def yH{N:Nat}{o:Int->Int}{i:Int}(hN:20<=N)(ho:∀c,c∈ch p i->M.dB aU N p q a c=aa (o c))(lI:∀c,c∈ch p i->M.dB aU (N+1) p q a c=aa (o c)):M.fY aU (N+2) p q a i=aa (uC o (oT o q (ch p i))):=by
 unfold M.fY;rw[UH hv ha hN ho,agv];unfold uC
 cases hb:oT o q (ch p i)with
 |nil=>simp
 |cons x b=>
  have hx:=(pE o q (ch p i)).sub.subset (show x∈oT o q (ch p i) by rw[hb];simp)
  have h1:¬((x::b).length:Int)=0:=by simp only[List.length_cons];omega
  simp only[h1,decide_false,agK,if_false,rX,agv,Ao];by_cases h2:1<((x::b).length:Int)
  .simp only[h2,decide_true,if_true];rw[ai (by omega)]
  .simp only[h2,decide_false,agK,if_false];rw[lI x hx,aj (by simp only[List.length_cons]at h1 h2⊢;omega)];rfl
def wF:∀(k N:Nat)(i:Int),8<k+i->0<=i->i<p.length->3*k+30<=N->M.dB aU N p q a i=aa (out p q a k i)
 |0,N,i,h,_,h2,_=>by have:=hv.n8;omega
 |k+1,N,i,h,h0,h2,hN=>by
  obtain⟨N,rfl⟩:∃n,N=n+3:=⟨N-3,by omega⟩
  unfold M.dB;rw[yH hv ha (o:=out p q a k) (by omega) (λc hc=>?_) (λc hc=>?_),agv,sf]
  .grind [S.cout,S.nr]
  .have:=pF hv hc;exact wF k N c (by omega) (by omega) (by omega) (by omega)
  .have:=pF hv hc;exact wF k (N+1) c (by omega) (by omega) (by omega) (by omega)
theorem Zw{N:Nat}{i:Int}(h0:0<=i)(h:i<p.length)(hN:90<=N):M.dB aU N p q a i=aa (O p q a i):=wF hv ha 16 N i (by omega) h0 h (by omega)
def Aq{N:Nat}{i:Int}(hN:100<=N):M.fY aU N p q a i=aa (C p q a i):=by
 obtain⟨N,rfl⟩:∃n,N=n+2:=⟨N-2,by omega⟩
 refine yH hv ha (by omega) (λc hc=>?_) λc hc=>?_
 all_goals
  have:=pF hv hc
  grind [S.Zw]
end
def RA(p q:List Int)(a:List Bool):M.cF aU p q a=M.kI aU p q a:=by
 rcases Ap (N:=aU) (by unfold aU;omega) p q a with⟨h1,h2⟩|⟨hv,ha,h1,h2⟩
 .rw[h1,h2]
 .rw[h1,h2];exact(Aq hv ha (N:=aU) (by unfold aU;omega)).symm
end L.S
end
namespace L
def Pl(n:Nat)(v:Int):Prop:=v= -1\/v= -2\/0<=v/\v<(n:Int)
def CF(p:List Int)(i:Int)(hl:p.length<=8):Wp (M.dl aU p i) λr=>r.length<=p.length/\∀x∈r,(0:Int)<=x/\x<(p.length:Int):=by
 unfold M.dl
 refine Wp.count (λs=>s.1) p.length (λk s=>s.2.length<=k/\∀x∈s.2,(0:Int)<=x/\x<(p.length:Int)) (by omega) rfl (by grind) λk s hk hs hJ=>?_
 obtain⟨c,l⟩:=s;obtain⟨j1,j2⟩:=hJ;dsimp only at hs j1 j2;subst hs
 refine Wp.dec (λaH=>?_) λhge=> .some ⟨by grind,j2⟩
 have aH:k<p.length:=by dsimp only at aH;omega
 dsimp only
 refine Wp.seq (λj=>j.length<=k+1/\∀x∈j,(0:Int)<=x/\x<(p.length:Int)) ?_ λj hj=> .some ⟨aH,cy (m:=p.length) (by omega) aH,hj⟩
 rw[aB aH,agv]
 refine Wp.dec (λ_=>?_) λ_=> .some ⟨by omega,j2⟩
 rw[dW (by simp;omega),agv];refine .some ⟨by simp;omega,λx hx=>?_⟩
 grind
def Od{p q r:List Int}(i:Int)(hl:p.length<=8)(hq:q.length=p.length)(hr:r.length=p.length):Wp (M.dH aU (p,(q,r)) i) λb=>∀x∈b,(0:Int)<=x/\x<(p.length:Int):=by
 unfold M.dH
 refine Wp.seq _ (CF p i hl) λy hy=>?_
 obtain⟨y1,y2⟩:=hy
 refine Wp.count (λs=>s.1) y.length (λk s=>s.2.length<=k/\∀x∈s.2,(0:Int)<=x/\x<(p.length:Int)) (by omega) rfl (by grind) λk s hk hs hJ=>?_
 obtain⟨c,l⟩:=s;obtain⟨j1,j2⟩:=hJ;dsimp only at hs j1 j2;subst hs
 refine Wp.dec (λaH=>?_) λhge=> .some j2
 have aH:k<y.length:=by dsimp only at aH;omega
 dsimp only
 refine Wp.seq (λj=>j.length<=k+1/\∀x∈j,(0:Int)<=x/\x<(p.length:Int)) ?_ λj hj=> .some ⟨aH,cy (m:=y.length) (by omega) aH,hj⟩
 have hv:=y2 _ (agA aH);rw[aB aH,agv];generalize y[k]=v at hv⊢
 have at_:∀{l:List Int}{u:Int},l.length=p.length->(0:Int)<=u/\u<(p.length:Int)->∃z,idx l u=aa z:=λ{l u}h h'=>by
  obtain⟨z,hz,_⟩:=wB (l:=l) (i:=u) h'.1 (by omega)
  grind
 obtain⟨z1,e1⟩:=at_ hr hv;obtain⟨z2,e2⟩:=at_ hq hv
 have hd:∀{l:List Int},0<l.length->(∀x∈l,(0:Int)<=x/\x<(p.length:Int))->∃u z,idx l (0:Int)=aa u/\idx q u=aa z:=λ{l}h h'=>by
  obtain⟨u,hu,hm⟩:=wB (l:=l) (i:=0) (ahq _) (by omega)
  grind
 rw[e1,agv]
 refine Wp.dec (λ_=> .some ⟨by omega,j2⟩) λ_=>?_
 refine Wp.seq (λj=>j.length<=k/\∀x∈j,(0:Int)<=x/\x<(p.length:Int)) ?_ λl6 h6=>?_
 .refine Wp.seq (λ_=>True) ?_ λj7 _=>?_
  .refine Wp.dec (λh=>?_) λ_=> .some trivial
   obtain⟨u,z,hu,hz⟩:=hd (l:=l) (by omega) j2;rw[e2,agv,hu,agv,hz];exact .some trivial
  .refine Wp.ite (λ_=>?_) λ_=> .some ⟨j1,j2⟩
   rw[zT (l:=l) (i:=0) (j:=0) 0 0 rfl rfl (agB _) (Nat.zero_le _),agv];exact .some ⟨by simp,by simp⟩
 .obtain⟨g1,g2⟩:=h6
  refine Wp.seq (λ_=>True) ?_ λVO _=>?_
  .refine Wp.dec (λ_=> .some trivial) λh=>?_
   obtain⟨u,z,hu,hz⟩:=hd (l:=l6) (by omega) g2;rw[e2,agv,hu,agv,hz];exact .some trivial
  .refine Wp.ite (λ_=>?_) λ_=> .some ⟨by omega,g2⟩
   rw[dW (by simp;omega),agv];refine .some ⟨by simp;omega,λx hx=>?_⟩
   grind
theorem Gt{p q r:List Int}(i:Int)(hl:p.length<=8)(hq:q.length=p.length)(hr:r.length=p.length)(hp:∀x∈r,Pl p.length x):Wp (M.bZ aU (p,(q,r)) i) (Pl p.length):=by
 unfold M.bZ
 refine Wp.seq _ (Od i hl hq hr) λb hb=>?_
 refine Wp.dec (λ_=> .some (.inl rfl)) λh0=>?_
 refine Wp.dec (λh1=>?_) λ_=> .some (.inr (.inl rfl))
 obtain⟨u,hu,hm⟩:=wB (l:=b) (i:=0) (ahq _) (by omega);have:=hb u hm;obtain⟨z,hz,hzm⟩:=wB (l:=r) (i:=u) this.1 (by omega);rw[hu,agv];dsimp only;rw[hz,agv];exact .some (hp z hzm)
theorem CG{α:Type}{l:List α}{i:Int}{y x:α}(h:x∈bm l i y):x∈l\/x=y:=by
 grind [bm]
theorem Oe{p q:List Int}{a:List Bool}(hl:p.length<=8)(hq:q.length=p.length)(ha:a.length=p.length):Wp (M.dV aU p q a) λr=>r.length=p.length/\∀x∈r,Pl p.length x:=by
 unfold M.dV;rw[wp_bind];refine my.2 ⟨by omega,?_⟩;rw[agD]
 have hw:∀n:Nat,n<=8->agw.wrap ((n:Int)-1)=(n:Int)-1:=λn h=>bL (by omega) (by omega)
 refine Wp.loop (λs=>(∃k:Nat,s.1=(k:Int)-1/\k<=p.length)/\s.2.length=p.length/\∀x∈s.2,Pl p.length x) (λs=>(s.1+1).toNat) ⟨⟨p.length,hw _ hl,agB _⟩,by simp,λx hx=>?_⟩ ?_ ?_
 .rw[List.mem_replicate]at hx;exact .inr (.inr ⟨by omega,by omega⟩)
 .grind [aU]
 .rintro⟨c,l⟩ ⟨⟨k,hk,MH⟩,j1,j2⟩
  dsimp only at hk j1 j2;subst hk
  refine Wp.dec (λaH=>?_) λhge=> .some ⟨j1,j2⟩
  obtain⟨m,rfl⟩:∃m,k=m+1:=⟨k-1,by grind⟩
  have hm:(((m+1:Nat):Int)-1)=(m:Int):=by omega
  rw[hm]
  have MD:m<p.length:=by omega
  dsimp only
  refine Wp.seq (λj=>j.length=p.length/\∀x∈j,Pl p.length x) ?_ λj hj=> .some ⟨⟨⟨m,by rw[hw _ (by omega)],by omega⟩,hj⟩,by grind⟩
  refine Wp.seq _ (Gt (m:Int) hl hq j1 j2) λv hv=>?_
  have s1:(bm l (m:Int) v).length=p.length:=by rw[bX];exact j1
  have s2:∀x∈bm l (m:Int) v,Pl p.length x:=λx hx=>by
   grind [CG]
  rw[aB (show m<l.length by omega),agv]
  refine Wp.seq (λ_=>True) ?_ λj6 _=>?_
  .rw[aB (by grind),agv]
   refine Wp.dec (λ_=>?_) λ_=> .some trivial
   rw[aB (show m<a.length by omega),agv];exact .some trivial
  .refine Wp.ite (λ_=>?_) λ_=> .some ⟨s1,s2⟩
   rw[aB (by grind),agv];refine .some ⟨by rw[bX];exact s1,λx hx=>?_⟩
   rcases CG hx with h|rfl
   .exact s2 x h
   .exact .inr (.inr ⟨by omega,by omega⟩)
def IM(p q:List Int)(a:List Bool)(hp:p.length<=100000):Wp (M.cF aU p q a) (Pl p.length):=by
 unfold M.cF
 have hV:Wp (M.cR aU p q) λc=>c=0->p.length<=8/\q.length=p.length:=by
  unfold M.cR
  refine Wp.kK (λ_=> .some λh=>by cases h) λh1=>?_
  refine Wp.dec (λ_=> .some λh=>by cases h) λh2=>?_
  have hq:q.length=p.length:=by omega
  refine Wp.count (λs=>s) p.length (λ_ _=>True) (by omega) rfl trivial λk s hk hs _=>?_
  obtain rfl:s=_:=hs
  refine Wp.dec (λaH=>?_) λhge=> .some λ_=>⟨by omega,hq⟩
  have aH:k<p.length:=by omega
  rw[aB aH,agv]
  refine Wp.seq (λ_=>True) (Wp.dec (λ_=> .some trivial) λ_=> .some trivial) λj3 _=>?_
  refine Wp.ite (λ_=> .some λh=>by cases h) λ_=>?_
  refine Wp.seq (λ_=>True) ?_ λj4 _=>?_
  .rw[aB (show k<q.length by omega),agv]
   exact Wp.dec (λ_=> .some trivial) λ_=> .some trivial
  .exact Wp.ite (λ_=> .some λh=>by cases h) λ_=> .some ⟨aH,cy (m:=p.length) (by omega) aH,trivial⟩
 refine Wp.seq (λj=>j=ag->p.length<=8/\q.length=p.length/\a.length=p.length) ?_ λj hj=>?_
 .refine Wp.seq _ hV λc hc=>?_
  refine Wp.kK (λ_=> .some λh=>by cases h) λh=> .some λg=>?_
  grind
 .cases j with
  |true=>rw[aj rfl];exact .some (.inl rfl)
  |false=>
   grind [Wp.seq,Oe,Gt]
abbrev jR:Type:=List ay.den
theorem LS(a b:jR)(hl:a.length<=100000):M.bG aU a b=aa (decide (a=b)):=by
 unfold M.bG;refine Wp.eq (Wp.kK (λh=> .some ?_) λh=>?_)
 .grind
 .have h:a.length=b.length:=by omega
  refine Wp.count (λs=>s) a.length (λk _=>∀i,∀h1:i<a.length,∀h2:i<b.length,i<k->a[i]=b[i]) (by omega) rfl (λi _ _ hi=>absurd hi (by omega)) λk s hk hs hJ=>?_
  subst hs;refine .dec (λaH=>?_) (λhge=> .some ?_)
  .have aH:k<a.length:=by omega
   refine .bind (.idx k rfl aH (.bind (.idx k rfl (by omega) (.ite (λh1=> .some ?_) (λh1=> .some ⟨aH,aP (by omega),λi DC G3 hi=>?_⟩)))))
   .have h1:lH ay a[k] (b[k]'(by omega))=ag:=by simpa using h1
    have h1:=nw.1 h1;exact(ao λe=>h1 (by simp only[e])).symm
   grind [uL]
  .have:k=a.length:=by omega
   subst this;exact(an (List.ext_getElem h λi h1 h2=>hJ i h1 h2 h1)).symm
theorem Of(a b:jR)(hl:a.length<=100000):M.qX aU a b=aa (decide (a=b)):=by
 unfold M.qX;refine Wp.eq (Wp.kK (λh=> .some ?_) λh=>?_)
 .grind
 .have h:a.length=b.length:=by omega
  refine Wp.count (λs=>s) a.length (λk _=>∀i,∀h1:i<a.length,∀h2:i<b.length,i<k->a[i]=b[i]) (by omega) rfl (λi _ _ hi=>absurd hi (by omega)) λk s hk hs hJ=>?_
  subst hs
  refine Wp.seq (λj=>j=decide (k<a.length)) (.dec (λh1=> .some ?_) (λh1=> .some ?_)) λj hj=>?_
  .grind
  .grind
  .subst hj;refine .dec (λaH=>?_) (λhge=> .some ?_)
   .refine .bind (.idx k rfl aH (.bind (.idx k rfl (by omega) (.ite (λh1=> .some ?_) (λh1=> .some ⟨aH,aP (by omega),λi DC G3 hi=>?_⟩)))))
    .have h1:lH ay a[k] (b[k]'(by omega))=ag:=by simpa using h1
     have h1:=nw.1 h1;exact(ao λe=>h1 (by simp only[e])).symm
    grind [uL]
   .have:k=a.length:=by omega
    subst this;exact(an (List.ext_getElem h λi h1 h2=>hJ i h1 h2 h1)).symm
def iR(g:jR)(C:List jR):Int:=fa (λx=>decide (x=g)) C
def IN(C:List jR)(g:jR)(hC:C.length<=100000)(hl:∀x∈C,x.length<=100000):M.dU aU C g=aa (iR g C):=by
 unfold M.dU iR;refine r7 (by unfold maxLen;omega) (λk h=>?_) ?_
 .grind [aB,LS]
 grind
def CH(C:List jR)(g:jR)(hC:C.length<=100000)(hl:∀x∈C,x.length<=100000):M.ov aU C g=aa (iR g C):=by
 unfold M.ov iR;refine r7 (by unfold maxLen;omega) (λk h=>?_) ?_
 .grind [aB,Of]
 grind
theorem wG{g:jR}{C X:List jR}(h:0<=iR g C):iR g (C++X)=iR g C:=by
 grind [iR,fa]
theorem wH{g:jR}{C:List jR}(h:¬0<=iR g C):iR g (C++[g])=(C.length:Int):=by
 refine va (by simp) (by simp) λj hj Na=>?_
 rw[ahk hj]
 exact ao λe=>h (lD.2 (by grind))
def gd(rules:List ig)(i:Nat):jR:=match rules[i]? with
 |some r=>r.2.2.2.2.2.1
 |none=>[]
def eM(rules:List ig)(s:List jR×List Int)(i:Nat):List jR×List Int:=if(gd rules i).length=0 then s else if 0<=iR (gd rules i) s.1 then s else(s.1++[gd rules i],s.2++[(i:Int)])
def jx(rules:List ig)(C:List jR)(i:Nat):Int:=if(gd rules i).length=0 then-1 else iR (gd rules i) C
theorem tF(rules:List ig)(T:List Nat):∀s:List jR×List Int,∃X,(T.foldl (eM rules) s).1=s.1++X/\(T.foldl (eM rules) s).1.length<=s.1.length+T.length:=by
 induction T with
 |nil=>simp_all
 |cons i T ih=>
  intro s;obtain⟨X,hX,hl⟩:=ih (eM rules s i)
  grind [eM]
theorem IP(rules:List ig)(s:List jR×List Int)(i:Nat)(h:(gd rules i).length≠0):0<=iR (gd rules i) (eM rules s i).1:=by
 grind [eM,wH]
def Fc(rules:List ig)(s:List jR×List Int)(T:List Nat)(i:Nat)(h:(gd rules i).length≠0->0<=iR (gd rules i) s.1):jx rules (T.foldl (eM rules) s).1 i=jx rules s.1 i:=by
 grind [jx,tF,wG]
def yI(rules:List ig)(T:List Nat):∀s:List jR×List Int,∀i∈T,(gd rules i).length≠0->0<=iR (gd rules i) (T.foldl (eM rules) s).1:=by
 induction T with
 |nil=>grind
 |cons j T ih=>
  grind [tF,wG,IP]
def qj(rules:List ig)(T:List Nat):∀s:List jR×List Int,∀x∈(T.foldl (eM rules) s).1,x∈s.1\/∃i,x=gd rules i:=by
 induction T with
 |nil=>grind
 |cons j T ih=>
  intro s x hx
  grind [eM]
end L
namespace L
def bt(c b:Int):Bool:=decide (aG .and .i64 (bQ .i64 c b) 1=1)
def flag(c b:Int):Bool:=if b<0 then af else bt c b
def LU{c b:Int}(h:0<=b):w8 .i64 c b=aa (bQ .i64 c b):=by unfold w8;grind
noncomputable def uD(p q:List Int)(a:List Bool):Int:=(M.cF aU p q a).getD 0
def sj(p q:List Int)(a:List Bool)(hp:p.length<=100000):M.cF aU p q a=aa (uD p q a)/\Pl p.length (uD p q a):=(IM p q a hp).getD 0
def Jm(T:List Int)(s:Int):Int:=if 0<=s then(T[s.toNat]?).getD 0 else s
noncomputable def oc(T p q B:List Int)(c:Int):Int:=Jm T (uD p q (B.map (flag c)))
theorem Ar{T:List Int}{s:Int}(h0:0<=s)(h1:s<(T.length:Int)):idx T s=aa (Jm T s):=by
 grind [aB,Jm]
def IQ{T p q B:List Int}{n:Nat}(hn:n<=8)(hT:T.length<=100000)(hp:p.length=T.length)(hB:B.length=T.length):M.cq aU T p q B (n:Int)=aa ((agG (2 ^ n)).map λc:Nat=>oc T p q B (c:Int)):=by
 have h8:=rc hn;unfold M.cq;rw[oA (by omega),agv]
 have Zx:((2 ^ n:Nat):Int)<=4294967296:=by have:((2 ^ n:Nat):Int)<=256:=by exact_mod_cast h8
                                           exact Int.le_trans this (by decide)
 refine Wp.eq (.bind (my.2 ⟨⟨Int.natCast_nonneg _,Zx⟩, .bind (my.2 ⟨by omega,?_⟩)⟩));rw[agD,agD];generalize hK:2 ^ n=K at*
 have sP:∀{α:Type}(m:Nat)(z:α),agE m z=(agG m).map λ_=>z:=λm z=>by
  apply List.ext_getElem (by simp)
  grind
 refine Wp.count (λs=>s.1) K (λc s=>s.2.1=((agG K).map λj:Nat=>if j<c then oc T p q B (j:Int)else 0)/\s.2.2.length=T.length) (by omega) rfl ⟨by rw[sP];simp,by simp⟩ λc s hc hs hJ=>?_
 obtain⟨cc,out,fl⟩:=s;obtain⟨rfl,Ta⟩:=hJ;dsimp only at hs Ta⊢;subst hs;rw[List.length_replicate];refine .dec (λh=>?_) (λh=> .some ?_)
 .have aH:c<K:=by omega
  refine Wp.seq (λs=>s.1=((agG K).map λj:Nat=>if j<c+1 then oc T p q B (j:Int)else 0)/\s.2.length=T.length) ?_ λj hj=> .some ⟨aH,aP (by omega),hj⟩
  refine Wp.seq (λs=>s.1=((agG K).map λj:Nat=>if j<c+1 then oc T p q B (j:Int)else 0)/\s.2.length=T.length) ?_ λj hj=> .some hj
  refine Wp.seq (λf=>f=B.map (flag (c:Int))) ?_ λf hf=>?_
  .refine Wp.count (λs=>s.1) B.length (λk s=>s.2.length=B.length/\∀i,∀h:i<s.2.length,∀h2:i<B.length,i<k->s.2[i]=flag (c:Int) B[i]) (by omega) rfl (by grind) λk s hk hs hJ=>?_
   obtain⟨kk,f⟩:=s;obtain⟨g1,g2⟩:=hJ;dsimp only at hs g1 g2⊢;subst hs;refine .dec (λh=>?_) (λh=> .some ?_)
   .have MH:k<B.length:=by omega
    have xv:∀v:Bool,v=flag (c:Int) B[k]->(bm f (k:Int) v).length=B.length/\∀i,∀h:i<(bm f (k:Int) v).length,∀h2:i<B.length,i<k+1->(bm f (k:Int) v)[i]=flag (c:Int) B[i]:=λv hv=>by
     grind [bm]
    refine Wp.seq (λs=>s.length=B.length/\∀i,∀h:i<s.length,∀h2:i<B.length,i<k+1->s[i]=flag (c:Int) B[i]) (.bind (.idx k rfl MH ?_)) λj hj=> .some ⟨MH,aP (by omega),hj⟩
    refine .dec (λh=> .bind (.idx k rfl (by omega) (.some (xv _ ?_)))) (λh=> .aX (LU (by omega)) (.bind (.idx k rfl (by omega) (.some (xv _ ?_)))))
    .unfold flag;rw[aj h]
    .unfold flag;rw[ai h];rfl
   .have:k=B.length:=by omega
    subst this
    refine List.ext_getElem (by grind) λi h1 h2=>?_
    grind
  .subst hf;obtain⟨hs,hr⟩:=sj p q (B.map (flag (c:Int))) (by omega);refine .aX hs ?_
   have xv:∀v:Int,v=oc T p q B (c:Int)->bm ((agG K).map λj:Nat=>if j<c then oc T p q B (j:Int)else 0) (c:Int) v=((agG K).map λj:Nat=>if j<c+1 then oc T p q B (j:Int)else 0):=λv hv=>by
    grind [bm,lr]
   have Og:oc T p q B (c:Int)=Jm T (uD p q (B.map (flag (c:Int)))):=rfl;generalize uD p q (B.map (flag (c:Int)))=v at hr Og⊢;unfold Pl at hr
   refine Wp.seq (λj=>j=af↔0<=v) (.dec (λh=> .some ?_) (λh=> .some (by grind))) λj hj=> .ite (λh=>?_) (λh=>?_)
   .grind
   .have hv:=hj.1 h;refine .aX (Ar hv (by omega)) (.bind (Aj aH (.some (by grind))))
   .have hv:¬0<=v:=λg=>h (hj.2 g)
    refine .bind (Aj aH (.some ⟨xv _ (by rw[Og];unfold Jm;rw[ai hv]),by grind⟩))
 .have:c=K:=by omega
  subst this
  refine List.map_congr_left λy hy=>?_
  grind
noncomputable def mn(l:List Int)(n:Nat):List (Int×Int):=Cw (Gq (n:Int)) (λx=>(x:Int)∈l) (dQ l)
def rk{k:Nat}{mem:Nat->Bool}:∀{l:List (Nat×Nat)}{cov:Nat->Bool},(fc k mem cov l).length<=l.length
 |[],_=>agB _
 |p::l,cov=>by
  rw[jZ];split
  .have:=rk (k:=k) (mem:=mem) (l:=l) (cov:=λx=>cov x||decide (x&&& p.1=p.2))
   grind
  .have:=rk (k:=k) (mem:=mem) (l:=l) (cov:=cov)
   grind
theorem Fe(l:List Int)(n:Nat):(mn l n).length<=65536:=by
 have hn:=E7 (n:Int);have h8:=rc hn;unfold mn Cw;refine agW rk ?_;generalize Gq (n:Int)=n at*
 have:=qh (A:=((Pt n).filter (xx n λx=>(x:Int)∈l)).map λp=>p.1*256+p.2) (B:=agG 65536) ?_ λx hx=>?_
 .grind
 .rw[List.Nodup,List.pairwise_map];refine List.Pairwise.imp_of_mem (λ{p q}hp hq aH e=>?_) ((tD n).filter _)
  grind [pD,rz.irrefl,Nat.and_le_right]
 grind [pD,Nat.and_le_right]
def uE(O:List Int)(v:Int):List Int:=ids (λk=>decide (O[k]? =aa v)) O.length
noncomputable def dR(O:List Int)(n:Nat)(v:Int):List xy:=if(uE O v).length=0 then[]else(mn (uE O v) n).map λp=>(p,v)
theorem rm(O:List Int)(n:Nat)(v:Int):(dR O n v).length<=65536:=by
 grind [dR,Fe]
def IR{O T:List Int}{n:Nat}(hO:O.length<=100000)(hT:T.length<=1000):M.fW aU O T (n:Int)=aa (([-2,-1]++T).flatMap (dR O n)):=by
 unfold M.fW;refine Wp.eq (.bind (.tW (by simp;omega) ?_))
 have hL:([(-2:Int),-1]++T).length<=1002:=by simp;omega
 generalize([(-2:Int),-1]++T)=L at hL⊢
 refine Wp.count (λs=>s.1) L.length (λk s=>s.2=(L.take k).flatMap (dR O n)/\s.2.length<=k*65536) (by omega) rfl ⟨rfl,agB _⟩ λk s hk hs hJ=>?_
 obtain⟨kk,acc⟩:=s;obtain⟨g1,g2⟩:=hJ;dsimp only at hs g1 g2⊢;subst hs;refine .dec (λh=>?_) (λh=> .some ?_)
 .have aH:k<L.length:=by omega
  have dJ:(L.take (k+1)).flatMap (dR O n)=(L.take k).flatMap (dR O n)++dR O n L[k]:=by
   rw[<-agP aH,List.flatMap_append];simp
  have Pm:=rm O n L[k]
  refine Wp.seq (λs=>s=acc++dR O n L[k]) ?_ λj hj=> .some ⟨aH,aP (by omega),by rw[dJ,<-g1];exact hj,by grind⟩
  refine Wp.seq (λs=>s=acc++dR O n L[k]) (.bind (.idx k rfl aH ?_)) λj hj=> .some hj
  refine Wp.seq (λj=>j=uE O L[k]) ?_ λj hj=>?_
  .refine Wp.count (λs=>s.1) O.length (λi s=>s.2=ids (λz=>decide (O[z]? =aa L[k])) i) (by omega) rfl rfl λi s hi hs hJ=>?_
   obtain⟨ii,l⟩:=s;dsimp only at hs hJ⊢;subst hs hJ;refine .dec (λh=>?_) (λh=> .some ?_)
   .have qE:i<O.length:=by omega
    have hl:=mV (λz=>decide (O[z]? =aa L[k])) i
    refine Wp.seq (λs=>s=ids (λz=>decide (O[z]? =aa L[k])) (i+1)) (.bind (.idx i rfl qE ?_)) λj hj=> .some ⟨qE,aP (by omega),hj⟩
    rw[mB,agz qE];refine .dec (λh=> .bind (.tW (by simp;omega) (.some ?_))) (λh=> .some ?_)
    all_goals grind
   .have:i=O.length:=by omega
    subst this;rfl
  .subst hj;have wZ:=mV (λz=>decide (O[z]? =aa L[k])) O.length;refine .dec (λh=> .some ?_) (λh=> .aX (LG (l:=uE O L[k]) (by unfold uE;omega) (n:Int)) ?_)
   .grind [dR]
   .have du:¬(uE O L[k]).length=0:=λg=>h (by rw[g];rfl)
    have hr:dR O n L[k]=(mn (uE O L[k]) n).map λp=>(p,L[k]):=by unfold dR;rw[ai du]
    have MD:=Fe (uE O L[k]) n;rw[hr]
    show Wp (Loop _ aU _) _
    change Wp (Loop (S:=Int×List aK.den) (X:=List aK.den) (λUI=>
     (if(decide (UI.1<((mn (uE O L[k]) n).length:Int)))=af then
     (idx (mn (uE O L[k]) n) UI.1).bind λUG=>
     (cm UI.2 ([(UG,L[k])]:List aK.den)).bind λl14=>
     some (Sum.inl (agw.wrap (UI.1+(1:Int)),l14))
     else
     some (Sum.inr UI.2))) aU ((0:Int),acc)) _
    generalize mn (uE O L[k]) n=ps at MD⊢
    refine Wp.count (λs=>s.1) ps.length (λi s=>s.2=acc++(ps.take i).map λp=>(p,L[k])) (by omega) rfl (by simp) λi s hi hs hJ=>?_
    obtain⟨ii,l⟩:=s;dsimp only at hs hJ⊢;subst hs hJ;refine .dec (λh=>?_) (λh=> .some ?_)
    .have qE:i<ps.length:=by omega
     refine .bind (.idx i rfl qE (.bind (.tW (by simp;omega) (.some ⟨qE,aP (by omega),?_⟩))))
     grind [agP]
    .have:i=ps.length:=by omega
     subst this
     show acc++_=_
     grind
 .have:k=L.length:=by omega
  subst this;rw[List.take_length]at g1;exact g1
end L
namespace L
def TN(rules:List ig)(a d:Int):List Nat:=jw (kp rules (Al a d)) rules.length
def CS(rules:List ig)(a d:Int):List jR×List Int:=(TN rules a d).foldl (eM rules) ([],[])
def BB(rules:List ig)(a d:Int):List Int:=(TN rules a d).map (jx rules (CS rules a d).1)
noncomputable def OO(rules:List ig)(a d:Int):List Int:=(agG (2 ^ (CS rules a d).1.length)).map λc:Nat=>oc (eh rules a d) (di rules a d) (dX rules a d) (BB rules a d) (c:Int)
noncomputable def RR(rules:List ig)(a d:Int):List xy:=([-2,-1]++eh rules a d).flatMap (dR (OO rules a d) (CS rules a d).1.length)
def Ff{rules:List ig}{a d:Int}:∀i∈TN rules a d,i<rules.length:=λi hi=>List.mem_range.1 (ahi.1 hi).1
def oC(rules:List ig)(a d:Int):eh rules a d=(TN rules a d).map λi:Nat=>(i:Int):=rfl
structure Fit(rules:List ig)(a d:Int):Prop where
 len:rules.length<=60
 g:∀r∈rules,r.2.2.2.2.2.1.length<=100000
 t8:(TN rules a d).length<=8
theorem Fit.gd{rules:List ig}{a d:Int}(h:Fit rules a d)(i:Nat):(gd rules i).length<=100000:=by
 unfold L.gd
 cases e:rules[i]? with
 |none=>simp
 |some r=>exact h.g r (List.mem_of_getElem? e)
def Fit.conds{rules:List ig}{a d:Int}(h:Fit rules a d)(T:List Nat):∀x∈(T.foldl (eM rules) ([],[])).1,x.length<=100000:=λx hx=>by
 rcases qj rules T _ x hx with g|⟨i,rfl⟩
 .simp at g
 .exact h.gd i
def Fit.RB{rules:List ig}{a d:Int}(h:Fit rules a d)(k:Nat):(((TN rules a d).take k).foldl (eM rules) ([],[])).1.length<=8:=by
 grind [tF,Fit.t8]
def Fit.n8{rules:List ig}{a d:Int}(h:Fit rules a d):(CS rules a d).1.length<=8:=by
 have:=h.RB (TN rules a d).length;rw[List.take_length]at this;exact this
def Gu(rules:List ig)(T:List Nat):∀s:List jR×List Int,(T.foldl (eM rules) s).2.length<=s.2.length+T.length:=by
 induction T with
 |nil=>intro s;simp
 |cons i T ih=>
  grind [eM]
def LV(x:jR)(hl:x.length<=100000):M.bH aU x=aa x:=by
 unfold M.bH;rw[dW (by simp;omega)];simp only[List.nil_append,agv]
 cases x with
 |nil=>grind [El]
 |cons a x=>rfl
def fold_succ{rules:List ig}{T:List Nat}{k:Nat}(h:k<T.length)(s:List jR×List Int):(T.take (k+1)).foldl (eM rules) s=eM rules ((T.take k).foldl (eM rules) s) T[k]:=by
 grind [agP]
def LW{rules:List ig}{i:Nat}(h:i<rules.length):gd rules i=rules[i].2.2.2.2.2.1:=by grind [gd]
def Oh{rules:List ig}{a d:Int}(h:Fit rules a d):M.cq aU (eh rules a d) (di rules a d) (dX rules a d) (BB rules a d) ((CS rules a d).1.length:Int)=aa (OO rules a d):=by
 have hl:(eh rules a d).length=(TN rules a d).length:=by rw[oC];simp
 exact IQ h.n8 (by have:=h.t8;omega) (by rw[hl];unfold di TN;simp) (by rw[hl];unfold BB;simp)
def UJ{rules:List ig}{a d:Int}(h:Fit rules a d):M.fW aU (OO rules a d) (eh rules a d) ((CS rules a d).1.length:Int)=aa (RR rules a d):=by
 have hl:(eh rules a d).length=(TN rules a d).length:=by rw[oC];simp
 have h8:=rc h.n8;exact IR (by unfold OO;simp;omega) (by have:=h.t8;omega)
def tG{l:Lw}{x:ie}{a1 a2 a3:Int}(hv:M.fB aU l=aa ((0:Int),((0:Int),((0:Int),(0:Int)))))(h1:0<=a1)(DC:a1<(l.2.2.length:Int))(hx:idx l.2.2 a1=aa x)(h2:0<=a2)(G3:a2<(x.2.2.2.1.length:Int))(h3:0<=a3)(h3':a3<=109572)
 (hf:Fit x.2.2.2.2 a2 a3):M.eX aU l a1 a2 a3=aa (a2,(0:Int),(CS x.2.2.2.2 a2 a3).1,(CS x.2.2.2.2 a2 a3).2,RR x.2.2.2.2 a2 a3):=by
 unfold M.eX;rw[hv,agv];refine Wp.eq (.ite (λh=>?_) λ_=>?_)
 .rw[uL.2 rfl]at h;cases h
 refine Wp.seq (λj=>j=ag) (.dec (λh=>absurd h1 (by omega)) λ_=> .some (ao (by omega))) λj hj=>?_
 subst hj
 refine .ite (λh=>(by cases h)) λ_=> .aX hx ?_
 refine Wp.seq (λj=>j=ag) (.dec (λh=>absurd h2 (by omega)) λ_=> .some (ao (by omega))) λj hj=>?_
 subst hj
 refine .ite (λh=>(by cases h)) λ_=>?_
 refine Wp.seq (λj=>j=ag) (.dec (λh=>absurd h3 (by omega)) λ_=> .some (ao (by omega))) λj hj=>?_
 subst hj
 refine .ite (λh=>(by cases h)) λ_=> .aX (IL x a2 a3 (by have:=hf.len;omega)) ?_
 have VP:=Ff (rules:=x.2.2.2.2) (a:=a2) (d:=a3);have RC:=Oh hf;have UK:=UJ hf;have UL:CS x.2.2.2.2 a2 a3=(TN x.2.2.2.2 a2 a3).foldl (eM x.2.2.2.2) ([],[]):=rfl;have hBB:BB x.2.2.2.2 a2 a3=(TN x.2.2.2.2 a2 a3).map (jx x.2.2.2.2 (CS x.2.2.2.2 a2 a3).1):=rfl;have IS:=oC x.2.2.2.2 a2 a3
 have qE:(eh x.2.2.2.2 a2 a3).length=(TN x.2.2.2.2 a2 a3).length:=by rw[IS];simp
 have KV:=hf.RB;have PI:=hf.conds;have Qx:=hf.gd;have ht8:=hf.t8;have Pm:=hf.len;generalize x.2.2.2.2=rules at*;dsimp only;refine .bind (my.2 ⟨by omega,?_⟩);rw[qE]
 refine Wp.seq (λj=>j=(a2,BB rules a2 a3,(CS rules a2 a3).1,(CS rules a2 a3).2)) ?_ λj hj=>?_
 .refine Wp.count (λs=>s.1) (TN rules a2 a3).length (λk s=>s.2.1=a2/\(s.2.2.2.1,s.2.2.2.2)=((TN rules a2 a3).take k).foldl (eM rules) ([],[])/\s.2.2.1.length=(TN rules a2 a3).length/\∀i,∀h:i<s.2.2.1.length,∀h2:i<(TN rules a2 a3).length,i<k->s.2.2.1[i]=jx rules s.2.2.2.1 (TN rules a2 a3)[i]) (by omega) rfl (by grind) λk s hk hs hJ=>?_
  obtain⟨kk,a',bits,C,O⟩:=s;obtain⟨g1,g2,g3,g4⟩:=hJ;dsimp only at hs g1 g2 g3 g4⊢;subst hs g1;refine .dec (λh=>?_) (λh=> .some ?_)
  .have aH:k<(TN rules a' a3).length:=by omega
   have hb:=VP _ (agA aH)
   have Dh:idx (eh rules a' a3) (k:Int)=aa (((TN rules a' a3)[k]:Nat):Int):=by rw[IS,aB (by simpa using aH)];simp
   have UM:C.length<=8:=by have:=KV k;rw[<-g2]at this;exact this
   have UN:O.length<=8:=by have:=Gu rules ((TN rules a' a3).take k) ([],[]);rw[<-g2]at this;simp only[List.length_nil,ag0]at this;omega
   have Zy:∀y∈C,y.length<=100000:=(by grind)
   have fh:=yI rules ((TN rules a' a3).take k) ([],[]);rw[<-g2]at fh
   have dJ:∀(s':List jR×List Int)(v:Int),s'=eM rules (C,O) (TN rules a' a3)[k]->v=jx rules s'.1 (TN rules a' a3)[k]->∀wI:List Int,wI.length=bits.length->(∀i,∀h:i<wI.length,∀h2:i<bits.length,wI[i]=if k=i then v else bits[i])->
    (a'=a'/\(s'.1,s'.2)=((TN rules a' a3).take (k+1)).foldl (eM rules) ([],[])/\wI.length=(TN rules a' a3).length/\∀i,∀h:i<wI.length,∀h2:i<(TN rules a' a3).length,i<k+1->wI[i]=jx rules s'.1 (TN rules a' a3)[i]):=λs' v Dn ey wI Zz hbv=>by
    refine⟨rfl,by rw[fold_succ aH,<-g2,<-Dn],by omega,λi h h2 hi=>?_⟩;rw[hbv i h (by omega)];by_cases e:k=i
    .grind
    .rw[ai e,g4 i (by omega) h2 (by omega),Dn]
     have:=Fc rules (C,O) [(TN rules a' a3)[k]] (TN rules a' a3)[i] λdu=>fh _ (List.mem_take_iff_getElem.2 ⟨i,by omega,rfl⟩) du
     exact this.symm
   have Ps:∀v:Int,(bm bits (k:Int) v).length=bits.length/\∀i,∀h:i<(bm bits (k:Int) v).length,∀h2:i<bits.length,(bm bits (k:Int) v)[i]=if k=i then v else bits[i]:=λv=>⟨bX _ _ _,λi h h2=>by simp only[bm,agD,List.getElem_set]⟩
   have Pu:∀v w:Int,(bm (bm bits (k:Int) w) (k:Int) v).length=bits.length/\∀i,∀h:i<(bm (bm bits (k:Int) w) (k:Int) v).length,∀h2:i<bits.length,(bm (bm bits (k:Int) w) (k:Int) v)[i]=if k=i then v else bits[i]:=λv w=>⟨by rw[bX,bX],λi h h2=>by
    simp only[bm,agD,List.getElem_set]
    grind⟩
   refine Wp.seq (λj=>j.1=a'/\(j.2.2.1,j.2.2.2)=((TN rules a' a3).take (k+1)).foldl (eM rules) ([],[])/\j.2.1.length=(TN rules a' a3).length/\∀i,∀h:i<j.2.1.length,∀h2:i<(TN rules a' a3).length,i<k+1->j.2.1[i]=jx rules j.2.2.1 (TN rules a' a3)[i]) (.aX Dh (.bind (.idx k rfl (by omega) (.aX (aB hb) ?_)))) λj hj=> .some ⟨aH,aP (by omega),hj⟩
   have Qs:=LW hb;rw[<-Qs];have hgk:=Qx (TN rules a' a3)[k];refine .dec (λh=> .some ?_) (λh=> .aX (IN C _ (by omega) Zy) ?_)
   .have h0:(gd rules (TN rules a' a3)[k]).length=0:=by exact_mod_cast h
    exact dJ (C,O) (-1) (by unfold eM;rw[aj h0]) (by unfold jx;rw[aj h0]) _ (Ps (-1)).1 (Ps (-1)).2
   .have h0:¬(gd rules (TN rules a' a3)[k]).length=0:=λg=>h (by rw[g];rfl)
    refine Wp.seq (λj=>j.2.1=a'/\(j.2.2.1,j.2.2.2)=eM rules (C,O) (TN rules a' a3)[k]/\j.1=jx rules j.2.2.1 (TN rules a' a3)[k]) (.dec (λhn=> .aX (LV _ hgk) (.bind (.tW (by simp;omega) (.bind (.tW (by simp;omega) (.some ⟨rfl,?_,?_⟩)))))) (λhn=> .some ⟨rfl,?_,?_⟩)) λj hj=> .bind (.idx k rfl (by grind) (.some ?_))
    .grind [eM]
    .grind [jx,wH]
    .grind [eM]
    .unfold jx;rw[ai h0]
    .obtain⟨j1,j2,j3⟩:=hj;have:=dJ (j.2.2.1,j.2.2.2) j.1 j2 j3 _ (Pu j.1 (-1)).1 (Pu j.1 (-1)).2
     grind
  .have:k=(TN rules a' a3).length:=by omega
   subst this;rw[List.take_length]at g2
   have e1:C=(CS rules a' a3).1:=by rw[UL,<-g2]
   have e2:O=(CS rules a' a3).2:=by rw[UL,<-g2]
   show(a',bits,C,O)=_
   grind [List.ext_getElem,List.length_map]
 .subst hj;exact .aX RC (.aX UK (.some rfl))
end L
namespace L
def CI{α:Type}(P:Nat->Bool)(f:Int->List α):∀m,(ids P m).flatMap f=(agG m).flatMap λi:Nat=>if P i=af then f (i:Int)else[]
 |0=>rfl
 |m+1=>by
  rw[mB,qi,List.flatMap_append,CI P f m]
  grind
def Fg{α β:Type}{l:List α}{f g:α->List β}(h:∀x∈l,f x=g x):l.flatMap f=l.flatMap g:=by
 induction l<;>grind
def CJ{O:List Int}{n:Nat}{v:Int}(h:v∉O):dR O n v=[]:=by
 unfold dR;rw[aj];unfold uE;refine List.length_eq_zero_iff.2 (List.eq_nil_iff_forall_not_mem.2 λj hj=>?_)
 grind [se]
theorem LX{rules:List ig}{a d:Int}(h:Fit rules a d){v:Int}(hv:v∈OO rules a d):v= -1\/v= -2\/v∈eh rules a d:=by
 obtain⟨c,_,rfl⟩:=List.mem_map.1 hv
 have hl:(eh rules a d).length=(TN rules a d).length:=by rw[oC];simp
 have hp:(di rules a d).length=(eh rules a d).length:=by rw[hl];unfold di TN;simp
 obtain⟨_,hr⟩:=sj (di rules a d) (dX rules a d) ((BB rules a d).map (flag (c:Int))) (by have:=h.t8;omega);unfold oc;generalize uD (di rules a d) (dX rules a d) ((BB rules a d).map (flag (c:Int)))=s at hr;unfold Pl at hr
 rcases hr with rfl|rfl|⟨h0,h1⟩
 .exact .inl rfl
 .exact .inr (.inl rfl)
 .refine .inr (.inr ?_);obtain⟨x,hx,hm⟩:=wB (l:=eh rules a d) h0 (by omega)
  grind [Ar]
def LY{rules:List ig}{a d:Int}(h:Fit rules a d):(agG (rules.length+2)).flatMap (λk:Nat=>dR (OO rules a d) (CS rules a d).1.length ((k:Int)-2))=RR rules a d:=by
 unfold RR;generalize hn:(CS rules a d).1.length=n;rw[Nat.add_comm,List.range_add,List.flatMap_append,List.flatMap_append]
 congr 1
 rw[List.flatMap_map];unfold eh;rw[CI]
 refine Fg λi hi=>?_
 have e:((2+i:Nat):Int)-2=(i:Int):=by omega
 rw[e];split
 .rfl
 .rename_i g
  refine CJ λhm=>?_
  rcases LX h hm with h1|h1|h1
  .omega
  .omega
  .obtain⟨j,hj,hp,e⟩:=se.1 h1
   grind
def LZ{l:Lw}{x:ie}{a1 a2 a3:Int}(hx:idx l.2.2 a1=aa x)(hf:Fit x.2.2.2.2 a2 a3):M.k9 aU l a1 a2 a3=aa (a2,(CS x.2.2.2.2 a2 a3).1,(CS x.2.2.2.2 a2 a3).2,RR x.2.2.2.2 a2 a3):=by
 unfold M.k9;rw[hx,agv,LM x a2 a3 (by have:=hf.len;omega),agv];have VP:=Ff (rules:=x.2.2.2.2) (a:=a2) (d:=a3);have UL:CS x.2.2.2.2 a2 a3=(TN x.2.2.2.2 a2 a3).foldl (eM x.2.2.2.2) ([],[]):=rfl;have hBB:BB x.2.2.2.2 a2 a3=(TN x.2.2.2.2 a2 a3).map (jx x.2.2.2.2 (CS x.2.2.2.2 a2 a3).1):=rfl
 have hOO:OO x.2.2.2.2 a2 a3=(agG (2 ^ (CS x.2.2.2.2 a2 a3).1.length)).map λc:Nat=>oc (eh x.2.2.2.2 a2 a3) (di x.2.2.2.2 a2 a3) (dX x.2.2.2.2 a2 a3) (BB x.2.2.2.2 a2 a3) (c:Int):=rfl
 have IS:=oC x.2.2.2.2 a2 a3
 have qE:(eh x.2.2.2.2 a2 a3).length=(TN x.2.2.2.2 a2 a3).length:=by rw[IS];simp
 have wZ:(di x.2.2.2.2 a2 a3).length=(TN x.2.2.2.2 a2 a3).length:=by unfold di TN;simp
 have KV:=hf.RB;have hn8:=hf.n8;have PI:=hf.conds;have Qx:=hf.gd;have ht8:=hf.t8;have Pm:=hf.len;have hRR:=LY hf;generalize x.2.2.2.2=rules at*;dsimp only;refine Wp.eq (Wp.seq (λj=>j=(a2,(CS rules a2 a3).1,(CS rules a2 a3).2)) ?_ λj hj=>?_)
 .rw[qE]
  refine Wp.count (λs=>s.1) (TN rules a2 a3).length (λk s=>s.2.1=a2/\(s.2.2.1,s.2.2.2)=((TN rules a2 a3).take k).foldl (eM rules) ([],[])) (by omega) rfl ⟨rfl,rfl⟩ λk s hk hs hJ=>?_
  obtain⟨kk,a',C,O⟩:=s;obtain⟨g1,g2⟩:=hJ;dsimp only at hs g1 g2⊢;subst hs g1;refine .dec (λh=>?_) (λh=> .some ?_)
  .have aH:k<(TN rules a' a3).length:=by omega
   have hb:=VP _ (agA aH)
   have Dh:idx (eh rules a' a3) (k:Int)=aa (((TN rules a' a3)[k]:Nat):Int):=by rw[IS,aB (by simpa using aH)];simp
   have UM:C.length<=8:=by have:=KV k;rw[<-g2]at this;exact this
   have UN:O.length<=8:=by have:=Gu rules ((TN rules a' a3).take k) ([],[]);rw[<-g2]at this;simp only[List.length_nil,ag0]at this;omega
   have Zy:∀y∈C,y.length<=100000:=(by grind)
   refine Wp.seq (λj=>j.1=a'/\(j.2.1,j.2.2)=((TN rules a' a3).take (k+1)).foldl (eM rules) ([],[])) (.aX Dh (.aX (aB hb) ?_)) λj hj=> .some ⟨aH,aP (by omega),hj⟩
   have Qs:=LW hb;rw[<-Qs,fold_succ aH,<-g2];have hgk:=Qx (TN rules a' a3)[k]
   refine Wp.seq (λj=>j=af↔(gd rules (TN rules a' a3)[k]).length≠0/\¬0<=iR (gd rules (TN rules a' a3)[k]) C) (.dec (λh=> .aX (CH C _ (by omega) Zy) (.some ?_)) (λh=> .some (by grind))) λj hj=> .ite (λh=>?_) (λh=> .some ⟨rfl,?_⟩)
   .grind
   .obtain⟨h0,h1⟩:=hj.1 h;refine .bind (.tW (by simp;omega) (.bind (.tW (by simp;omega) (.aX Dh (.bind (.tW (by simp;omega) (.some ⟨rfl,?_⟩)))))))
    grind [eM]
   grind [eM]
  .have:k=(TN rules a' a3).length:=by omega
   subst this;rw[List.take_length]at g2
   show(a',C,O)=_
   grind
 subst hj;dsimp only;have UO:=PI (TN rules a2 a3);rw[<-UL]at UO;have h8:=rc hn8
 refine Wp.seq (λj=>j=OO rules a2 a3) ?_ λj hj=>?_
 .rw[hOO];generalize hn:(CS rules a2 a3).1.length=n at*
  refine Wp.count (λs=>s.1) (2 ^ n) (λk s=>s.2=(agG k).map λc:Nat=>oc (eh rules a2 a3) (di rules a2 a3) (dX rules a2 a3) (BB rules a2 a3) (c:Int)) (by omega) rfl rfl λk s hk hs hJ=>?_
  obtain⟨kk,O⟩:=s;dsimp only at hs hJ⊢;subst hs hJ;refine .aX (oA (by omega)) (.dec (λh=>?_) (λh=> .some ?_))
  .have aH:k<2 ^ n:=by exact_mod_cast h
   refine Wp.seq (λj=>j=(agG (k+1)).map λc:Nat=>oc (eh rules a2 a3) (di rules a2 a3) (dX rules a2 a3) (BB rules a2 a3) (c:Int)) ?_ λj hj=> .some ⟨aH,aP (by omega),hj⟩
   rw[qE]
   refine Wp.seq (λj=>j=(BB rules a2 a3).map (flag (k:Int))) ?_ λj hj=>?_
   .rw[hBB]
    refine Wp.count (λs=>s.1) (TN rules a2 a3).length (λi s=>s.2=(((TN rules a2 a3).take i).map (jx rules (CS rules a2 a3).1)).map (flag (k:Int))) (by omega) rfl rfl λi s hi hs hJ=>?_
    obtain⟨ii,F⟩:=s;dsimp only at hs hJ⊢;subst hs hJ;refine .dec (λh=>?_) (λh=> .some ?_)
    .have HU:i<(TN rules a2 a3).length:=by omega
     have hb:=VP _ (agA HU)
     have Dh:idx (eh rules a2 a3) (i:Int)=aa (((TN rules a2 a3)[i]:Nat):Int):=by rw[IS,aB (by grind)];simp
     refine Wp.seq (λs=>s=(((TN rules a2 a3).take (i+1)).map (jx rules (CS rules a2 a3).1)).map (flag (k:Int))) (.aX Dh (.aX (aB hb) ?_)) λj hj=> .some ⟨HU,aP (by omega),hj⟩
     rw[<-LW hb]
     have Pv:∀v:Bool,v=flag (k:Int) (jx rules (CS rules a2 a3).1 (TN rules a2 a3)[i])->(((TN rules a2 a3).take i).map (jx rules (CS rules a2 a3).1)).map (flag (k:Int))++[v]=(((TN rules a2 a3).take (i+1)).map (jx rules (CS rules a2 a3).1)).map (flag (k:Int)):=λv hv=>by
      grind [agP]
     refine .dec (λh=> .bind (.tW (by simp;omega) (.some (Pv _ ?_)))) (λh=> .aX (CH _ _ (by omega) UO) ?_)
     .grind [jx,flag]
     .have h0:¬(gd rules (TN rules a2 a3)[i]).length=0:=λg=>h (by rw[g];rfl)
      have hc:0<=iR (gd rules (TN rules a2 a3)[i]) (CS rules a2 a3).1:=by
       rw[UL];exact yI rules _ _ _ (agA HU) h0
      refine .aX (LU hc) (.bind (.tW (by simp;omega) (.some (Pv _ ?_))));unfold jx flag;rw[ai h0,ai (by omega)];rfl
    .have:i=(TN rules a2 a3).length:=by omega
     subst this
     show _=_
     grind
   .subst hj;obtain⟨hs,hr⟩:=sj (di rules a2 a3) (dX rules a2 a3) ((BB rules a2 a3).map (flag (k:Int))) (by omega);rw[S.RA]at hs;refine .aX hs ?_;have Og:oc (eh rules a2 a3) (di rules a2 a3) (dX rules a2 a3) (BB rules a2 a3) (k:Int)=Jm (eh rules a2 a3) (uD (di rules a2 a3) (dX rules a2 a3) ((BB rules a2 a3).map (flag (k:Int)))):=rfl;rw[List.range_succ,List.map_append];generalize uD (di rules a2 a3) (dX rules a2 a3) ((BB rules a2 a3).map (flag (k:Int)))=v at hr Og⊢;unfold Pl at hr
    refine Wp.seq (λj=>j=Jm (eh rules a2 a3) v) (.dec (λh=> .aX (Ar h (by omega)) (.some rfl)) (λh=> .some ?_)) λj hj=> .bind (.tW (by simp;omega) (.some ?_))
    all_goals grind [Jm]
  .have:k=2 ^ n:=by have:¬k<2 ^ n:=λg=>h (by grind);omega
   subst this;rfl
 subst hj;rw[<-hRR]
 have ZA:(OO rules a2 a3).length<=256:=by rw[hOO];simp;omega
 generalize hn:(CS rules a2 a3).1.length=n at*
 refine Wp.seq (λj=>j=(a2,(CS rules a2 a3).1,(CS rules a2 a3).2,(agG (rules.length+2)).flatMap λk:Nat=>dR (OO rules a2 a3) n ((k:Int)-2))) ?_ λj hj=> .some (by rw[hj])
 generalize OO rules a2 a3=O at ZA⊢;generalize(CS rules a2 a3).1=C at*;generalize(CS rules a2 a3).2=W at*
 refine Wp.count (λs=>s.1+2) (rules.length+2) (λk s=>s.2.1=a2/\s.2.2.1=C/\s.2.2.2.1=W/\s.2.2.2.2=((agG k).flatMap λk:Nat=>dR O n ((k:Int)-2))/\s.2.2.2.2.length<=k*65536) (by omega) rfl ⟨rfl,rfl,rfl,rfl,agB _⟩ λk s hk hs hJ=>?_
 obtain⟨v,a',C',W',acc⟩:=s;obtain⟨g1,g2,g3,g4,g5⟩:=hJ;dsimp only at hs g1 g2 g3 g4 g5⊢
 obtain rfl:v=(k:Int)-2:=by omega
 subst g1 g2 g3;refine .dec (λh=>?_) (λh=> .some ?_)
 .have aH:k<rules.length+2:=by omega
  have LH:=rm O n ((k:Int)-2)
  have hw:agw.wrap ((k:Int)-2+1)+2=((k+1:Nat):Int):=by rw[bL (by omega) (by omega)];omega
  refine Wp.seq (λs=>s=(a',C',W',acc++dR O n ((k:Int)-2))) ?_ λj hj=> .some ⟨aH,hw,by rw[hj],by rw[hj],by rw[hj],by rw[hj,qi,<-g4],by grind⟩
  refine Wp.seq (λs=>s=(a',C',W',acc++dR O n ((k:Int)-2))) ?_ λj hj=> .some (by rw[hj])
  refine Wp.seq (λj=>j=uE O ((k:Int)-2)) ?_ λj hj=>?_
  .refine Wp.count (λs=>s.1) O.length (λi s=>s.2=ids (λz=>decide (O[z]? =aa ((k:Int)-2))) i) (by omega) rfl rfl λi s hi hs hJ=>?_
   obtain⟨ii,l⟩:=s;dsimp only at hs hJ⊢;subst hs hJ;refine .dec (λh=>?_) (λh=> .some ?_)
   .have qE:i<O.length:=by omega
    have hl:=mV (λz=>decide (O[z]? =aa ((k:Int)-2))) i
    refine Wp.seq (λs=>s=ids (λz=>decide (O[z]? =aa ((k:Int)-2))) (i+1)) (.bind (.idx i rfl qE ?_)) λj hj=> .some ⟨qE,aP (by omega),hj⟩
    rw[mB,agz qE];refine .dec (λh=> .bind (.tW (by simp;omega) (.some ?_))) (λh=> .some ?_)
    all_goals grind
   .have:i=O.length:=by omega
    subst this;rfl
  .subst hj;have wZ:=mV (λz=>decide (O[z]? =aa ((k:Int)-2))) O.length;refine .dec (λh=> .some ?_) (λh=> .aX (N9 (l:=uE O ((k:Int)-2)) (by unfold uE;omega) (n:Int)) ?_)
   .grind [dR]
   .have du:¬(uE O ((k:Int)-2)).length=0:=λg=>h (by rw[g];rfl)
    have hr:dR O n ((k:Int)-2)=(mn (uE O ((k:Int)-2)) n).map λp=>(p,(k:Int)-2):=by unfold dR;rw[ai du]
    have MD:=Fe (uE O ((k:Int)-2)) n;rw[hr];have hmn:Cw (Gq (n:Int)) (λx=>(x:Int)∈uE O ((k:Int)-2)) (dQ (uE O ((k:Int)-2)))=mn (uE O ((k:Int)-2)) n:=rfl;rw[hmn];generalize mn (uE O ((k:Int)-2)) n=ps at MD⊢
    refine Wp.count (λs=>s.1) ps.length (λi s=>s.2=(a',C',W',acc++(ps.take i).map λp=>(p,(k:Int)-2))) (by omega) rfl (by simp) λi s hi hs hJ=>?_
    obtain⟨ii,Tl,C'',W'',l⟩:=s;cases hJ;dsimp only at hs⊢;subst hs;refine .dec (λh=>?_) (λh=> .some ?_)
    .have qE:i<ps.length:=by omega
     refine .bind (.idx i rfl qE (.bind (.tW (by simp;omega) (.some ⟨qE,aP (by omega),?_⟩))))
     grind [agP]
    .have:i=ps.length:=by omega
     subst this
     show(_,_,_,acc++_)=_
     grind
 .have:k=rules.length+2:=by omega
  subst this
  show(a',C',W',acc)=_
  rw[g4]
end L
namespace L
theorem Oi{l:Lw}{x:ie}{k:Nat}{r:ig}:xp l x k r=0↔np r.1=af/\¬iQ (x.2.2.2.2.take k) r.1/\(0<=(r.2.1:Int)/\(r.2.1:Int)<(x.2.2.2.1.length:Int))/\¬tt x k r/\
 ¬((r.2.2.2.1:Int)<0\/9<(r.2.2.2.1:Int)\/¬VR r.2.2.2.2.1\/(r.2.2.2.2.1.1:Int)=r.2.2.2.2.1.2)/\It x k r.2.1<8/\plain r.2.2.2.2.2.2.2/\
 (0<r.2.2.2.2.2.1.length->zV r.2.2.2.2.2.1 (jc l x) ((1:Int),(0:Int))=0)/\(match x.2.2.2.1[(r.2.1:Int).toNat]? with
   |some d=>zV r.2.2.2.2.2.2.1 (jc l x) d.2
   |none=>0)=0:=by
 unfold xp
 grind [jc]
theorem Valid.AI{l:Lw}(h:Valid l):ET l=AI:=by
 grind [Valid.scopes,ET,cg]
def count_le{l:Lw}{x:ie}(h:∀i,∀hi:i<x.2.2.2.2.length,xp l x i x.2.2.2.2[i]=0)(a:Int):∀m,m<=x.2.2.2.2.length->(x.2.2.2.2.take m).countP (λr=>decide ((r.2.1:Int)=a))<=8
 |0,_=>by simp
 |m+1,hm=>by
  have ih:=count_le h a m (by omega)
  have aH:m<x.2.2.2.2.length:=by omega
  rw[<-agP aH,List.countP_append,List.countP_singleton]
  grind [Oi,It]
def wJ{rules:List ig}(a d:Int):∀m,m<=rules.length->(jw (kp rules (Al a d)) m).length<=(rules.take m).countP λr=>decide ((r.2.1:Int)=a)
 |0,_=>by simp[jw]
 |m+1,hm=>by
  have ih:=wJ (rules:=rules) a d m (by omega)
  have aH:m<rules.length:=by omega
  rw[yF,<-agP aH,List.countP_append,List.countP_singleton,List.length_append,LK aH]
  grind [Al]
theorem Fit.of{l:Lw}(hv:Valid l)(hs:gy l){k:Nat}(hk:k<l.2.2.length)(a d:Int):Fit l.2.2[k].2.2.2.2 a d:=by
 have uv:=hs.2.2.2.2.2 _ (agA hk);have hr:=(hv.scope k hk).2.2.2.2.2.2.1;refine⟨uv.2.2.2.1,λr Jf=>by have:=(uv.2.2.2.2.2.2 r Jf).2.2.1;omega,?_⟩;have h1:=wJ (rules:=l.2.2[k].2.2.2.2) a d _ (agB _);have h2:=count_le hr a _ (agB _);exact agW h1 h2
abbrev two:List br.den:=[((⟨#[115]⟩:ByteArray),((-1:Int),(([((⟨#[120]⟩:ByteArray),((1:Int),(0:Int)))]:List bB.den),(([((⟨#[100]⟩:ByteArray),((2:Int),(0:Int)))]:List bB.den),([((⟨#[97]⟩:ByteArray),((0:Int),((-1:Int),((0:Int),(((0:Int),(109573:Int)),(([]:List ay.den),(([((2:Int),(1:Int))]:List ay.den),ahK))))))),((⟨#[98]⟩:ByteArray),((0:Int),((0:Int),((0:Int),(((0:Int),(109573:Int)),(([((7:Int),(0:Int))]:List ay.den),(([((2:Int),(2:Int))]:List ay.den),ahK)))))))]:List cX.den)))))]
end L
namespace L
def jH(l:List Int)(i:Nat):Int:=l.getD i 0
def par(i:Nat):Nat:=(i-1)/2
def rn(l:List Int)(n:Nat):Prop:=∀k,0<k->k<n->jH l (par k)<=jH l k
def swp(l:List Int)(i j:Nat):List Int:=(l.set i (jH l j)).set j (jH l i)
def pG{l:List Int}{i:Nat}(h:i<l.length):jH l i=l[i]:=by unfold jH;simp[h]
def Gv(l:List Int)(i k:Nat)(v:Int)(h:i<l.length):jH (l.set i v) k=if k=i then v else jH l k:=by
 unfold jH;rw[List.getD_eq_getElem?_getD,List.getD_eq_getElem?_getD,List.getElem?_set];by_cases e:k=i
 .rw[aj e.symm,aj h,aj e];rfl
 .rw[ai (λg=>e g.symm),ai e]
def qk(l:List Int)(i j:Nat):(swp l i j).length=l.length:=by unfold swp;simp
def nu(l:List Int)(i j k:Nat)(hi:i<l.length)(hj:j<l.length):jH (swp l i j) k=if k=j then jH l i else if k=i then jH l j else jH l k:=by
 unfold swp;rw[Gv _ _ _ _ (by simpa using hj),Gv _ _ _ _ hi]
def wK(l:List Int)(i j:Nat)(hi:i<l.length)(hj:j<l.length):(swp l i j).Perm l:=by
 rw[List.perm_iff_count];intro x;unfold swp;rw[List.count_set (by simpa using hj),List.count_set hi,pG hi,pG hj,List.getElem_set]
 have h1:(if(l[i]==x)=af then 1 else 0)<=l.count x:=by
  split
  .rename_i h;exact List.count_pos_iff.2 (by rw[beq_iff_eq]at h;rw[<-h];exact agA hi)
  .exact Nat.zero_le _
 by_cases e:i=j
 .subst e;simp only[if_true];omega
 .rw[ai e];omega
def swap_eq(l:List Int)(i j:Nat)(hi:i<l.length)(hj:j<l.length):M.cC aU (i:Int) (j:Int) l=aa (swp l i j):=by
 unfold M.cC;simp only[aB hi,aB hj,agv];rw[aB (show j<(bm l (i:Int) l[j]).length by unfold bm;simpa using hj),agv];unfold swp bm;rw[pG hi,pG hj,agD,agD]
def As(l:List Int)(i j:Nat)(hi:i<l.length)(hj:j<l.length):M.dm aU l (i:Int) (j:Int)=aa (decide (jH l i<jH l j)):=by
 unfold M.dm;rw[aB hi,aB hj,pG hi,pG hj];rfl
def RD(l:List Int)(j:Nat):Prop:=(∀k,0<k->k<l.length->k≠j->jH l (par k)<=jH l k)/\(0<j->∀k,0<k->k<l.length->par k=j->jH l (par j)<=jH l k)
def lb{k:Nat}(h:0<k):par k<k:=by unfold par;omega
def RD.done{l:List Int}{i:Nat}(h:RD l i)(hi:i=0\/jH l (par i)<=jH l i):rn l l.length:=λk h0 hk=>by
 by_cases e:k=i
 .subst e
  rcases hi with hi|hi
  .omega
  .exact hi
 .exact h.1 k h0 hk e
def RD.step{l:List Int}{i:Nat}(h:RD l i)(h0:0<i)(hi:i<l.length)(aH:jH l i<jH l (par i)):RD (swp l (par i) i) (par i):=by
 have hp:=lb h0
 have wZ:par i<l.length:=by omega
 obtain⟨h1,h2⟩:=h;have h2:=h2 h0;refine⟨λk k0 hk du=>?_,λp0 k k0 hk uW=>?_⟩
 .rw[qk]at hk;rw[nu _ _ _ _ wZ hi,nu _ _ _ _ wZ hi];have uW:=lb k0;by_cases e:k=i
  .subst e;rw[ai (by omega),aj rfl,aj rfl];omega
  .rw[ai e,ai du];by_cases e2:par k=i
   .rw[aj e2];exact h2 k k0 hk e2
   .rw[ai e2];by_cases e3:par k=par i
    .rw[aj e3];have:=h1 k k0 hk e;rw[e3]at this;omega
    .rw[ai e3];exact h1 k k0 hk e
 .rw[qk]at hk;rw[nu _ _ _ _ wZ hi,nu _ _ _ _ wZ hi];have ZZ:=lb p0;have Xb:=h1 (par i) p0 wZ (by omega);rw[ai (by omega),ai (by omega)];by_cases e:k=i
  .subst e;rw[aj rfl];exact Xb
  .have hkp:k≠par i:=λe2=>by
    rw[e2]at uW;omega
   rw[ai e,ai hkp];have:=h1 k k0 hk e;rw[uW]at this;omega
def RE{i:Nat}(h0:0<i)(hi:i<=1000000):agw.wrap (agN (agw.wrap ((i:Int)-(1:Int))) (2:Int))=((par i:Nat):Int):=by
 rw[bL (n:=(i:Int)-1) (by omega) (by omega),Int.tdiv_eq_ediv_of_nonneg (by omega)];unfold par;rw[bL (by omega) (by omega)];omega
def UP(l:List Int)(j:Nat)(hj:j<l.length)(hl:l.length<=1000000)(hU:RD l j):Wp (M.fD aU (j:Int) l) λr=>r.Perm l/\rn r r.length:=by
 unfold M.fD
 refine Wp.loop (λs=>∃i:Nat,s.1=(i:Int)/\i<s.2.length/\s.2.Perm l/\RD s.2 i) (λs=>s.1.toNat) ⟨j,rfl,hj, .refl l,hU⟩ (by show(j:Int).toNat<aU;unfold aU;omega) λs hs=>?_
 obtain⟨c,q⟩:=s;obtain⟨i,hc,hi,hp,hu⟩:=hs;dsimp only at hc hi hp hu;subst hc;have hlen:=hp.length_eq;dsimp only;by_cases h0:i=0
 .subst h0
  have e:agw.wrap (agN (agw.wrap (((0:Nat):Int)-(1:Int))) (2:Int))=((0:Nat):Int):=by decide
  rw[e,aj (an rfl),agv,aj rfl];exact .some ⟨hp,hu.done (.inl rfl)⟩
 .have wZ:=lb (show 0<i by omega);rw[RE (by omega) (by omega),ai (by rw[aw];omega),As _ _ _ hi (by omega),agv,agv];by_cases aH:jH q i<jH q (par i)
  .rw[ai (by simpa using aH),swap_eq _ _ _ (by omega) hi,agv];refine .some ⟨⟨par i,rfl,by show par i<(swp q (par i) i).length;rw[qk];omega,(wK q _ _ (by omega) hi).trans hp,hu.step (by omega) hi aH⟩,?_⟩
   show((par i:Nat):Int).toNat<((i:Nat):Int).toNat
   omega
  .rw[aj (by simpa using aH)];exact .some ⟨hp,hu.done (.inr (by omega))⟩
def Pw(l:List Int)(i n:Nat):Prop:=(∀k,0<k->k<n->par k≠i->jH l (par k)<=jH l k)/\(0<i->∀k,0<k->k<n->par k=i->jH l (par i)<=jH l k)
def Pw.done{l:List Int}{i n:Nat}(h:Pw l i n)(hi:∀k,0<k->k<n->par k=i->jH l i<=jH l k):rn l n:=λk h0 hk=>by
 by_cases e:par k=i
 .rw[e];exact hi k h0 hk e
 .exact h.1 k h0 hk e
def Pw.step{l:List Int}{i j n:Nat}(h:Pw l i n)(hj0:0<j)(S7:j<n)(hn:n<=l.length)(UQ:par j=i)(aH:jH l j<jH l i)(IT:∀k,0<k->k<n->par k=i->jH l j<=jH l k):Pw (swp l i j) j n:=by
 have hp:=lb hj0
 have qE:i<l.length:=by omega
 have DU:j<l.length:=by omega
 obtain⟨h1,h2⟩:=h;refine⟨λk k0 hk du=>?_,λ_ k k0 hk uW=>?_⟩
 .rw[nu _ _ _ _ qE DU,nu _ _ _ _ qE DU,ai du];by_cases e:k=j
  .subst e;rw[aj UQ,aj rfl];omega
  .rw[ai e];by_cases e2:k=i
   .subst e2;have uW:=lb k0;rw[ai (by omega),aj rfl];exact h2 k0 j hj0 S7 UQ
   .rw[ai e2];by_cases e3:par k=i
    .rw[aj e3];exact IT k k0 hk e3
    .rw[ai e3];exact h1 k k0 hk e3
 .have hkp:=lb k0;rw[nu _ _ _ _ qE DU,nu _ _ _ _ qE DU,UQ,ai (by omega),aj rfl,ai (by omega),ai (by omega)];have:=h1 k k0 hk (by omega);rw[uW]at this;exact this
def Oj(l:List Int)(n:Nat)(hn:n<=l.length)(hl:l.length<=1000000)(hD:Pw l 0 n):Wp (M.eG aU (0:Int) (n:Int) l) λr=>r.2.Perm l/\rn r.2 n/\∀k,n<=k->jH r.2 k=jH l k:=by
 unfold M.eG;rw[wp_bind]
 refine(?_:Wp _ λr=>r.2.Perm l/\rn r.2 n/\∀k,n<=k->jH r.2 k=jH l k).mono λr hr=> .some hr
 refine Wp.loop (λs=>∃i:Nat,s.1=(i:Int)/\i<=n/\s.2.Perm l/\Pw s.2 i n/\∀k,n<=k->jH s.2 k=jH l k) (λs=>n-s.1.toNat) ⟨0,rfl,Nat.zero_le _, .refl l,hD,λ_ _=>rfl⟩ (by show n-_<aU;unfold aU;omega) λs hs=>?_
 obtain⟨c,q⟩:=s;obtain⟨i,hc,hi,hp,hu,hk⟩:=hs;dsimp only at hc hi hp hu hk;subst hc;have hlen:=hp.length_eq;dsimp only
 have e1:agw.wrap (agw.wrap ((2:Int)*(i:Int))+(1:Int))=((2*i+1:Nat):Int):=by
  rw[bL (n:=(2:Int)*(i:Int)) (by omega) (by omega),bL (by omega) (by omega)];omega
 have e2:agw.wrap (((2*i+1:Nat):Int)+(1:Int))=((2*i+2:Nat):Int):=by
  rw[bL (by omega) (by omega)];omega
 rw[e1,e2];by_cases h1:n<=2*i+1
 .rw[aj (by rw[aw];omega),agv,aj rfl];exact .some ⟨hp,hu.done λk k0 BK uW=>by unfold par at uW;omega,hk⟩
 rw[ai (by rw[aw];omega),agv,ai (by rw[aw];omega)]
 have key:∀j:Nat,0<j->j<n->par j=i->(∀k,0<k->k<n->par k=i->jH q j<=jH q k)->Wp ((M.dm aU q (j:Int) (i:Int)).bind λy7=>
  (if(!y7)=af then
  some (Sum.inr ((i:Int),q))
  else
  (M.cC aU (i:Int) (j:Int) q).bind λy8=>
  some (Sum.inl ((j:Int),y8)))) (yu (λs:Int×List Int=>∃i:Nat,s.1=(i:Int)/\i<=n/\s.2.Perm l/\Pw s.2 i n/\∀k,n<=k->jH s.2 k=jH l k) (λs=>n-s.1.toNat) ((i:Int),q) λr:Int×List Int=>r.2.Perm l/\rn r.2 n/\∀k,n<=k->jH r.2 k=jH l k):=λj j0 hj UQ IT=>by
  have:=lb j0;rw[As _ _ _ (by omega) (by omega),agv];by_cases aH:jH q j<jH q i
  .rw[ai (by simpa using aH),swap_eq _ _ _ (by omega) (by omega),agv];refine .some ⟨⟨j,rfl,by omega,(wK q _ _ (by omega) (by omega)).trans hp,hu.step j0 hj (by omega) UQ aH IT,λk BK=>?_⟩,?_⟩
   .show jH (swp q i j) k=jH l k
    rw[nu _ _ _ _ (by omega) (by omega),ai (by omega),ai (by omega)];exact hk k BK
   .show n-((j:Nat):Int).toNat<n-((i:Nat):Int).toNat
    omega
  .rw[aj (by simpa using aH)];exact .some ⟨hp,hu.done λk k0 BK uW=>by have:=IT k k0 BK uW;omega,hk⟩
 have kids:∀k,0<k->k<n->par k=i->k=2*i+1\/k=2*i+2:=λk k0 _ uW=>by unfold par at uW;omega
 by_cases h2:2*i+2<n
 .rw[aj (by rw[aw];omega),As _ _ _ (by omega) (by omega),agv,agv];by_cases aH:jH q (2*i+2)<jH q (2*i+1)
  .rw[aj (by simpa using aH),agv]
   exact key _ (by omega) h2 (by unfold par;omega) λk k0 BK uW=>by rcases kids k k0 BK uW with rfl|rfl<;>omega
  .rw[ai (by simpa using aH),agv]
   exact key _ (by omega) (by omega) (by unfold par;omega) λk k0 BK uW=>by rcases kids k k0 BK uW with rfl|rfl<;>omega
 .rw[ai (by rw[aw];omega),agv,ai (by decide),agv]
  exact key _ (by omega) (by omega) (by unfold par;omega) λk k0 BK uW=>by
   rcases kids k k0 BK uW with rfl|rfl
   .exact ahq _
   .omega
def Gw(x:Int)(l:List Int)(hl:l.length<=999999)(hH:rn l l.length):Wp (M.cK aU x l) λr=>r.Perm (x::l)/\rn r r.length:=by
 unfold M.cK M.iO M.dI;rw[dW (by simp;omega)];simp only[agv]
 have e:agw.wrap (((l++[x]).length:Int)-(1:Int))=((l.length:Nat):Int):=by
  rw[bL (by simp) (by simp;omega)];simp
 rw[e,wp_bind]
 have MA:∀k,k<l.length->jH (l++[x]) k=jH l k:=λk hk=>by unfold jH;simp[List.getElem?_append_left hk]
 refine(UP (l++[x]) l.length (by simp) (by simp;omega) ⟨λk k0 hk du=>?_,λh0 k k0 hk uW=>?_⟩).mono λr hr=> .some ⟨hr.1.trans (List.perm_append_singleton x l),hr.2⟩
 .have lf:k<l.length:=by simp at hk;omega
  have:=lb k0;rw[MA _ lf,MA _ (by omega)];exact hH k k0 lf
 .have:=lb k0;simp at hk;omega
def rn.min{l:List Int}{n:Nat}(h:rn l n):∀k,k<n->jH l 0<=jH l k:=λk=>by
 induction k using Nat.strongRecOn with
 |_ k ih=>
  intro hk;by_cases h0:k=0
  .subst h0;exact ahq _
  .have hp:=lb (show 0<k by omega);have:=ih (par k) hp (by omega);have:=h k (by omega) hk;omega
def RF(l:List Int)(h0:0<l.length)(hl:l.length<=1000000)(hH:rn l l.length):Wp (M.fg aU l) λr=>l.Perm (r.1::r.2)/\rn r.2 r.2.length/\∀y∈r.2,r.1<=y:=by
 unfold M.fg M.dI
 obtain⟨n,hn⟩:∃n,l.length=n+1:=⟨l.length-1,by omega⟩
 have e:agw.wrap ((l.length:Int)-(1:Int))=((n:Nat):Int):=by rw[bL (by omega) (by omega)];omega
 rw[agv,e];have sw:=swap_eq l 0 n (by omega) (by omega);rw[show((0:Nat):Int)=(0:Int)from rfl]at sw;rw[sw,agv,wp_bind]
 have hs:=λk=>nu l 0 n k (by omega) (by omega)
 refine(Oj (swp l 0 n) n (by rw[qk];omega) (by rw[qk];omega) ⟨λk k0 hk du=>?_,λh=>by omega⟩).mono λr hr=>?_
 .have:=lb k0;rw[hs,hs,ai (by omega),ai du,ai (by omega),ai (by omega)];exact hH k k0 (by omega)
 .obtain⟨b,q⟩:=r;obtain⟨h1,h2,h3⟩:=hr;dsimp only at h1 h2 h3⊢
  have hq:q.length=n+1:=by rw[h1.length_eq,qk];exact hn
  have e2:agw.wrap ((q.length:Int)-(1:Int))=((n:Nat):Int):=by rw[bL (by omega) (by omega)];omega
  have hqn:q[n]'(by omega)=jH l 0:=by
   rw[<-pG (l:=q) (by omega),h3 n (agB _),hs];by_cases e0:n=0
   .rw[aj rfl]
   .rw[aj rfl]
  unfold M.k8;rw[e2,aB (by omega),agv,qe (by omega),agv,agv]
  have Px:l.Perm (q[n]'(by omega)::q.take n):=by
   have e3:q=q.take n++[q[n]'(by omega)]:=by
    rw[agP (by omega),<-hq,List.take_length]
   refine((wK l 0 n (by omega) (by omega)).symm.trans h1.symm).trans ?_;have:(q.take n++[q[n]'(by omega)]).Perm (q[n]'(by omega)::q.take n):=List.perm_append_singleton _ _;rw[<-e3]at this;exact this
  refine .some ⟨Px,λk k0 hk=>?_,λy hy=>?_⟩
  .have ht:(q.take n).length=n:=by rw[ag0];omega
   have hk:k<n:=by rw[<-ht];exact hk
   have uW:=lb k0
   have tk:∀i,i<n->jH (q.take n) i=jH q i:=λi hi=>by unfold jH;simp[ag9,hi]
   show jH (q.take n) (par k)<=jH (q.take n) k
   rw[tk _ hk,tk _ (by omega)];exact h2 k k0 hk
  .show q[n]'(by omega)<=y
   rw[hqn];have:y∈l:=Px.symm.subset (List.mem_cons_of_mem _ hy);obtain⟨k,hk,rfl⟩:=agS this;rw[<-pG hk];exact hH.min k hk
end L
namespace L
def L1(s:ie)(p:List Int)(d:Int):Prop:=(0<=d/\d<(s.2.2.2.1.length:Int))/\d∉p/\∀y,Dp s d y->y∈p
def nX(s:ie)(o:List Int):Prop:=∀k,∀h:k<o.length,L1 s (o.take k) o[k]/\∀d,L1 s (o.take k) d->o[k]<=d
def nX.snoc{s:ie}{o:List Int}{x:Int}(h:nX s o)(hx:L1 s o x)(hm:∀d,L1 s o d->x<=d):nX s (o++[x]):=λk hk=>by
 by_cases e:k<o.length
 .have:=h k e
  grind
 grind
def nX.mem{s:ie}{o:List Int}(h:nX s o){x:Int}(hx:x∈o):(0<=x/\x<(s.2.2.2.1.length:Int))/\∀y,Dp s x y->y∈o:=by
 obtain⟨k,hk,rfl⟩:=agS hx;obtain⟨h1,_⟩:=h k hk;exact⟨h1.1,λy hy=>List.mem_of_mem_take (h1.2.2 y hy)⟩
def nX.nodup{s:ie}{o:List Int}(h:nX s o):o.Nodup:=by
 rw[List.nodup_iff_pairwise_ne,List.pairwise_iff_getElem];intro i j hi hj SH e;refine(h j hj).1.2.1 ?_
 grind [List.mem_take_iff_getElem]
def ql{n:Nat}{l:List Int}(hn:l.Nodup)(h:∀x∈l,0<=x/\x<(n:Int)):l.length<=n:=by
 have:=tB (m:=(agG n).map λk:Nat=>(k:Int)) hn λy hy=>by
  obtain⟨a,b⟩:=h y hy;exact List.mem_map.2 ⟨y.toNat,List.mem_range.2 (by omega),by omega⟩
 grind
theorem nX.len{s:ie}{o:List Int}(h:nX s o):o.length<=s.2.2.2.1.length:=ql h.nodup λx hx=>(h.mem hx).1
def Py{α:Type}{l:List α}{i:Int}(h:0<=i):idx l i=l[i.toNat]? :=by unfold idx;rw[aj h]
def CK{α:Type}(l:List α)(i:Int)(v:α)(u:Nat)(hi:i.toNat<l.length):(bm l i v)[u]? =if u=i.toNat then aa v else l[u]? :=by
 grind [bm]
structure L2(L:List (List Int))(n k:Nat)(U:List (List Int))(W H:List Int):Prop where
 ul:U.length=n
 wl:W.length=n
 u:∀e,∀h:e<U.length,U[e].length<=6000*k/\∀u:Int,U[e].count u=if 0<=u/\u<(k:Int)then(L.getD u.toNat []).count (e:Int)else 0
 w:∀u,u<k->W[u]? =aa ((L.getD u []).length:Int)
 hp:rn H H.length
 nd:H.Nodup
 h:∀u:Int,u∈H↔(0<=u/\u<(k:Int))/\L.getD u.toNat []=[]
def L2.hl{L:List (List Int)}{n k:Nat}{U:List (List Int)}{W H:List Int}(h:L2 L n k U W H):H.length<=k:=ql h.nd λx hx=>((h.h x).1 hx).1
structure ZB(s:ie)(L:List (List Int))(n:Nat)(W O H:List Int):Prop where
 wl:W.length=n
 o:nX s O
 w:∀u,u<n->W[u]? =aa (((L.getD u []).countP λy=>decide (y∉O):Nat):Int)
 hp:rn H H.length
 nd:H.Nodup
 h:∀u:Int,u∈H↔L1 s O u
structure UR(s:ie)(L:List (List Int))(n:Nat)(O l:List Int)(W H:List Int):Prop where
 wl:W.length=n
 w:∀u,u<n->W[u]? =aa (((L.getD u []).countP (λy=>decide (y∉O))+l.count (u:Int):Nat):Int)
 hp:rn H H.length
 nd:H.Nodup
 h:∀u:Int,u∈H↔(0<=u/\u<(n:Int))/\u∉O/\W[u.toNat]? =aa 0
def UR.hl{s:ie}{L:List (List Int)}{n:Nat}{O l W H:List Int}(h:UR s L n O l W H):H.length<=n:=ql h.nd λx hx=>((h.h x).1 hx).1
theorem getD_some{L:List (List Int)}{u:Nat}(h:u<L.length):L.getD u []=L[u]:=by simp[h]
def CL(l O:List Int)(x:Int)(hx:x∉O):l.countP (λy=>decide (y∉O))=l.countP (λy=>decide (y∉O++[x]))+l.count x:=by
 induction l<;>grind
def L3(l:List Int)(d n:Nat)(U:List (List Int))(hU:U.length=n)(hl:l.length<=6000)(hr:∀y∈l,0<=y/\y<(n:Int))(hb:∀e,∀h:e<U.length,U[e].length<=100000):Wp (Loop (S:=Int×List (List Int)) (X:=List (List Int)) (λOl=>
 (if(decide (Ol.1<(l.length:Int)))=af then
 (idx l Ol.1).bind λLO=>
 (idx Ol.2 LO).bind λVN=>
 (idx Ol.2 LO).bind λx16=>
 (cm x16 ([(d:Int)]:List Int)).bind λl17=>
 (idx Ol.2 LO).bind λx18=>
 (if decide (LO=LO)=af then
 (idx Ol.2 LO).bind λx19=>
 some (Sum.inl (agw.wrap (Ol.1+(1:Int)),rK Ol.2 LO (λm20=>l17)))
 else ae)
 else
 some (Sum.inr Ol.2))) aU ((0:Int),U)) λV=>V.length=n/\∀e,∀h:e<V.length,∀h':e<U.length,V[e].length<=U[e].length+l.length/\∀u:Int,V[e].count u=U[e].count u+if u=(d:Int)then l.count (e:Int)else 0:=by
 refine Wp.count (λs=>s.1) l.length (λk s=>s.2.length=n/\∀e,∀h:e<s.2.length,∀h':e<U.length,s.2[e].length<=U[e].length+k/\∀u:Int,s.2[e].count u=U[e].count u+if u=(d:Int)then(l.take k).count (e:Int)else 0) (by omega) rfl (by grind) λk s hk hs hJ=>?_
 obtain⟨i,V⟩:=s;obtain⟨hV,hJ⟩:=hJ;dsimp only at hs hV hJ;subst hs;simp only[W_,aq,au,reduceCtorEq,bo,bc];refine⟨λaH=>?_,λhge=>?_⟩
 .have aH:k<l.length:=by omega
  obtain⟨a0,a1⟩:=hr _ (agA aH);obtain⟨x,hx⟩:=agF a0
  have hxV:x<V.length:=by omega
  simp only[aB aH,hx,aB hxV,cy (m:=l.length) (by omega) aH,W_,aq,au,reduceCtorEq];have hbx:=(hJ x hxV (by omega)).1;have:=hb x (by omega);refine pu.2 ⟨by simp;omega,trivial |> λ_=>⟨aH,by rw[iC];exact hV,λe h h'=>?_⟩⟩
  have he:e<V.length:=by rw[iC]at h;exact h
  have M5:l.take (k+1)=l.take k++[l[k]]:=(agP aH).symm;rw[uT h he,M5,hx]
  grind
 grind
def Om(s:ie)(L:List (List Int))(n:Nat)(O l W H:List Int)(x:Int)(hn:n<=14)(PO:l.length<=100000)(hL:∀u,(L.getD u []).length<=6000)(hI:UR s L n O l W H)
 (hl:∀u∈l,(0<=u/\u<(n:Int))/\u∉O)(Q:((List Int×List Int×List Int)⊕(List Int×List Int))->Prop)(hQ:∀W' H',UR s L n O [] W' H'->Q (.inl (W',O,H'))):Wp (Loop (S:=Int×(List Int)×List Int) (X:=((List Int)×(List Int)×List Int)⊕((List Int)×List Int)) (λJn=>
   (if(decide (Jn.1<(l.length:Int)))=af then
   ((idx l Jn.1).bind λRG=>
   (idx Jn.2.1 RG).bind λZC=>
   (idx Jn.2.1 RG).bind λx32=>
   (idx (bm Jn.2.1 RG (agw.wrap (ZC-(1:Int)))) RG).bind λPe=>
   (if(decide (Pe=(0:Int)))=af then
   (M.cK aU RG Jn.2.2).bind λy34=>
   some (bm Jn.2.1 RG (agw.wrap (ZC-(1:Int))),y34)
   else
   some (bm Jn.2.1 RG (agw.wrap (ZC-(1:Int))),Jn.2.2)):Option ((List Int)×List Int)).bind λj29=>
   some (Sum.inl (agw.wrap (Jn.1+(1:Int)),j29.1,j29.2))
   else
   some (Sum.inr (Sum.inl (Jn.2.1,O,Jn.2.2))))) aU ((0:Int),W,H)) Q:=by
 refine Wp.count (λs=>s.1) l.length (λk z=>UR s L n O (l.drop k) z.2.1 z.2.2) (by omega) rfl hI λk z hk hs hJ=>?_
 obtain⟨i,V,G⟩:=z;dsimp only at hs hJ;subst hs
 refine Wp.dec (λaH=>?_) λhge=>?_
 .have aH:k<l.length:=by dsimp only at aH;omega
  obtain⟨⟨a0,a1⟩,a2⟩:=hl _ (agA aH);have kU:l.drop k=l[k]::l.drop (k+1):=agJ aH;obtain⟨u,hu⟩:=agF a0;rw[hu]at a1 a2 kU
  have Vq:u<n:=by omega
  have hVl:=hJ.wl;have hw:=hJ.w u Vq;rw[kU,List.count_cons_self]at hw
  obtain⟨a,ha⟩:∃a,a=(L.getD u []).countP (λy=>decide (y∉O)):=⟨_,rfl⟩
  obtain⟨b,hb⟩:∃b,b=(l.drop (k+1)).count (u:Int):=⟨_,rfl⟩
  have R3:a<=6000:=by rw[ha];exact(by grind)
  have AJ:b<=100000:=by rw[hb];exact agW List.count_le_length (by grind)
  rw[<-ha,<-hb]at hw
  have iw:idx V (u:Int)=aa ((a+(b+1):Nat):Int):=by rw[Py (by omega)];exact hw
  have ew:agw.wrap (((a+(b+1):Nat):Int)-(1:Int))=((a+b:Nat):Int):=by rw[bL (by omega) (by omega)];omega
  have iv:idx (bm V (u:Int) ((a+b:Nat):Int)) (u:Int)=aa ((a+b:Nat):Int):=by
   rw[Py (by omega),CK _ _ _ _ (by omega),aj rfl]
  dsimp only;rw[aB aH,hu,agv,iw,agv,agv,ew,iv,agv]
  have w':∀v,v<n->(bm V (u:Int) ((a+b:Nat):Int))[v]? =aa (((L.getD v []).countP (λy=>decide (y∉O))+(l.drop (k+1)).count (v:Int):Nat):Int):=λv hv=>by
   rw[CK _ _ _ _ (by omega)];by_cases e:v=u
   .grind
   .rw[ai (by omega),hJ.w v hv,kU,List.count_cons_of_ne (by omega)]
  have nH:(u:Int)∉G:=λg=>by
   have:=((hJ.h _).1 g).2.2
   grind [agD]
  have hGl:=hJ.hl;by_cases e0:a+b=0
  .rw[aj (by rw[aw];omega),wp_bind,wp_bind]
   refine(Gw _ _ (by omega) hJ.hp).mono λr hr=> .some (.some ⟨aH,?_,?_⟩)
   .exact cy (m:=l.length) (by omega) aH
   .refine⟨by grind [bm],w',hr.2,hr.1.nodup_iff.2 (List.nodup_cons.2 ⟨nH,hJ.nd⟩),λv=>?_⟩
    show v∈r↔_/\_/\(bm V _ _)[v.toNat]? =aa 0
    rw[hr.1.mem_iff,agY,CK _ _ _ _ (by omega),hJ.h v]
    by_cases e:v=(u:Int)
    .simp_all
    .constructor
     .rintro(h|⟨h1,h2,h3⟩)
      all_goals simp_all
     .rintro⟨h1,h2,h3⟩
      rw[ai (by omega)]at h3
      grind
  .rw[ai (by grind),agv];refine .some ⟨aH,?_,?_⟩
   .exact cy (m:=l.length) (by omega) aH
   .refine⟨by grind [bm],w',hJ.hp,hJ.nd,λv=>?_⟩
    show v∈G↔_/\_/\(bm V _ _)[v.toNat]? =aa 0
    rw[CK _ _ _ _ (by omega),hJ.h v]
    by_cases e:v=(u:Int)
    .subst e;rw[aj rfl];refine⟨λh=>absurd ((hJ.h _).2 h) nH,λh=>?_⟩
     grind
    .constructor
     .rintro⟨h1,h2,h3⟩
      rw[ai (by omega)];grind
     .rintro⟨h1,h2,h3⟩
      rw[ai (by omega)]at h3
      grind
 .have hge:k=l.length:=by dsimp only at hge;omega
  subst hge;rw[List.drop_length]at hJ;exact .some (hQ _ _ hJ)
def L4(s:ie)(hs:pw s):Wp (M.bW aU s) λr=>∃o,nX s o/\(∀d,¬L1 s o d)/\r=if o.length<s.2.2.2.1.length then((9:Int),([]:List Int))else((0:Int),o):=by
 have Iz:=hs.2.2.1;unfold M.bW
 refine Wp.seq (Rm s) ?_ λL hL=>?_
 .have e:M.kE aU s=M.iM aU s:=rfl
  grind [r9]
 obtain⟨VM,hL⟩:=hL
 have ZD:∀a b,Dp s a b->0<=b/\b<(s.2.2.2.1.length:Int):=λa b h=>(mz s a).2 b h
 have hLq:∀u,(L.getD u []).length<=6000:=(by grind)
 have UE:∀u:Nat,u<s.2.2.2.1.length->∀y,y∈L.getD u []↔Dp s (u:Int) y:=(by grind)
 obtain⟨n,hn⟩:∃n,n=s.2.2.2.1.length:=⟨_,rfl⟩
 rw[<-hn]at Iz VM ZD UE⊢;rw[wp_bind];refine my.2 ⟨by omega,?_⟩;rw[wp_bind];refine my.2 ⟨by omega,?_⟩;rw[agD,VM]
 refine Wp.seq (λz=>L2 L n n z.1 z.2.1 z.2.2) ?_ λz hz=>?_
 .rw[wp_bind]
  refine Wp.mono (Q:=λz=>L2 L n n z.1 z.2.1 z.2.2) ?_ λz hz=> .some hz
  refine Wp.count (λz=>z.1) n (λk z=>L2 L n k z.2.1 z.2.2.1 z.2.2.2) (by omega) rfl ⟨by simp,by simp,λe h=>⟨by simp,λu=>?_⟩,λu hu=>by omega,λk h0 h1=>(by cases h1),List.nodup_nil,λu=>?_⟩ λk z hk hz hJ=>?_
  .grind
  .grind
  obtain⟨i,U,W,H⟩:=z;dsimp only at hz hJ;subst hz
  refine Wp.dec (λaH=>?_) λhge=>?_
  .have aH:k<n:=by dsimp only at aH;omega
   have VQ:k<L.length:=by omega
   have hUl:=hJ.ul;have hWl:=hJ.wl;dsimp only;rw[aB VQ,agv,aB (show k<W.length by omega),agv,wp_bind,wp_bind,wp_bind];have hHl:=hJ.hl
   refine(L3 L[k] k n U hUl (hL k VQ).1 (by grind) λe h=>by have:=(hJ.u e h).1;omega).mono λV hV=>?_
   have uu:∀e,∀h:e<V.length,V[e].length<=6000*(k+1)/\∀u:Int,V[e].count u=if 0<=u/\u<((k+1:Nat):Int)then(L.getD u.toNat []).count (e:Int)else 0:=λe h=>by
    have hV1:=hV.1;obtain⟨g1,g2⟩:=hV.2 e h (by omega);obtain⟨f1,f2⟩:=hJ.u e (by omega);have:=(hL k VQ).1;refine⟨by omega,λu=>?_⟩;rw[g2,f2]
    by_cases eu:u=(k:Int)
    .subst eu;rw[ai (by omega),aj rfl,aj (by omega),agD,getD_some VQ];omega
    grind
   have ww:∀u,u<k+1->(bm W (k:Int) (L[k].length:Int))[u]? =aa ((L.getD u []).length:Int):=λu hu=>by
    rw[CK _ _ _ _ (by omega)];by_cases e:u=k
    .grind
    .rw[ai (by omega),hJ.w u (by omega)]
   have wl:(bm W (k:Int) (L[k].length:Int)).length=n:=by unfold bm;rw[List.length_set];exact hWl
   by_cases e0:L[k].length=0
   .rw[aj (by rw[aw];omega),wp_bind]
    refine(Gw _ _ (by omega) hJ.hp).mono λr hr=> .some (.some (.some ⟨aH,cy (m:=n) (by omega) aH,⟨hV.1,wl,uu,ww,hr.2,hr.1.nodup_iff.2 (List.nodup_cons.2 ⟨λg=>?_,hJ.nd⟩),λu=>?_⟩⟩))
    .have:=((hJ.h _).1 g).1;omega
    .show u∈r↔_
     rw[hr.1.mem_iff,agY,hJ.h u]
     by_cases eu:u=(k:Int)
     .grind [agD]
     grind
   .rw[ai (by rw[aw];omega)];refine .some (.some (.some ⟨aH,cy (m:=n) (by omega) aH,⟨hV.1,wl,uu,ww,hJ.hp,hJ.nd,λu=>?_⟩⟩))
    show u∈H↔_
    rw[hJ.h u]
    grind [getD_some]
  .have hge:k=n:=by dsimp only at hge;omega
   subst hge;exact .some hJ
 obtain⟨U,W,H⟩:=z;dsimp only at hz⊢;have hUl:=hz.ul
 have hU:∀e,∀h:e<U.length,U[e].length<=100000/\∀u:Int,U[e].count u=if 0<=u/\u<(n:Int)then(L.getD u.toNat []).count (e:Int)else 0:=λe h=>⟨by have:=(hz.u e h).1;omega,(hz.u e h).2⟩
 refine Wp.seq (λz=>nX s z.1/\z.2=[]/\∀d,¬L1 s z.1 d) ?_ λz hq=>?_
 .refine Wp.loop (λz=>ZB s L n z.1 z.2.1 z.2.2) (λz=>n-z.2.1.length) ⟨hz.wl,λk h=>(by cases h),λu hu=>?_,hz.hp,hz.nd,λu=>?_⟩ (by show n-_<aU;unfold aU;omega) λz hI=>?_
  .rw[hz.w u hu]
   simp_all
  .rw[hz.h u];unfold L1;rw[<-hn];constructor
   .grind
   .rintro⟨h1,_,h2⟩
    refine⟨h1,List.eq_nil_iff_forall_not_mem.2 λy hy=>?_⟩
    grind
  obtain⟨W,O,H⟩:=z;dsimp only at hI⊢;have hO:=hI.o;have ZA:=hO.len;rw[<-hn]at ZA
  have hHl:H.length<=n:=ql hI.nd λx hx=>by
   have:=((hI.h x).1 hx).1
   grind
  unfold M.dI;rw[agv]
  refine Wp.dec (λh0=>?_) λh0=>?_
  .have h0:0<H.length:=by omega
   rw[wp_bind]
   refine(RF H h0 (by omega) hI.hp).mono λr hr=>?_
   obtain⟨x,G⟩:=r;obtain⟨hp,hG,IT⟩:=hr;dsimp only at hp hG IT⊢;have hxH:x∈H:=hp.symm.subset (by simp);have hx:=(hI.h x).1 hxH;have Hs:=hp.nodup_iff.1 hI.nd;obtain⟨hxG,hGn⟩:=List.nodup_cons.1 Hs
   have hO':nX s (O++[x]):=hO.snoc hx λd hd=>by
    have:d∈H:=(hI.h d).2 hd
    grind
   have US:=hO'.len;rw[<-hn,List.length_append]at US;simp only[List.length_cons,List.length_nil]at US;rw[dW (by simp;omega),agv];have OT:=hx.1;rw[<-hn]at OT;obtain⟨e,he⟩:=agF OT.1
   have heU:e<U.length:=by omega
   rw[he,aB heU,agv,<-he];obtain⟨f1,f2⟩:=hU e heU;rw[<-he]at f2
   have inU:∀u∈U[e],(0<=u/\u<(n:Int))/\Dp s u x:=λu hu=>by
    have h1:=List.count_pos_iff.2 hu;rw[f2]at h1;by_cases hc:0<=u/\u<(n:Int)
    .grind
    grind
   refine Om s L n (O++[x]) U[e] W G x Iz f1 hLq ⟨hI.wl,λu hu=>?_,hG,hGn,λu=>?_⟩ (λu hu=>?_) _ λW' H' h'=>?_
   .rw[hI.w u hu,f2,aj (by omega),agD,CL _ _ _ hx.2.1]
   .have sU:u∈G↔u∈H/\u≠x:=by
     rw[hp.mem_iff,agY];exact(by grind)
    rw[sU,hI.h u];unfold L1;rw[<-hn];constructor
    .rintro⟨⟨h1,h2,h3⟩,h4⟩
     refine⟨h1,by simp[h2,h4],?_⟩;rw[hI.w u.toNat (by omega)]
     congr 2
     grind [ahY]
    .rintro⟨h1,h2,h3⟩
     rw[hI.w u.toNat (by omega)]at h3
     have h3:(L.getD u.toNat []).countP (λy=>decide (y∉O))=0:=by
      have:=agx h3;omega
     rw[ahY]at h3;simp only[agT,agZ,not_or]at h2
     grind [Int.toNat_of_nonneg]
   .obtain⟨h1,h2⟩:=inU u hu;refine⟨h1,λh=>?_⟩
    rcases agT.1 h with h|h
    .exact hx.2.1 ((hO.mem h).2 x h2)
    .rw[agZ.1 h]at h2;exact hx.2.1 (hx.2.2 x h2)
   .refine⟨⟨h'.wl,hO',λu hu=>?_,h'.hp,h'.nd,λu=>?_⟩,?_⟩
    .have:=h'.w u hu
     grind
    .rw[h'.h u];unfold L1;rw[<-hn];constructor
     .rintro⟨h1,h2,h3⟩
      refine⟨h1,h2,λy hy=>?_⟩;rw[h'.w u.toNat (by omega),List.count_nil,Nat.add_zero]at h3
      have h3:(L.getD u.toNat []).countP (λy=>decide (y∉O++[x]))=0:=by
       have:=agx h3;omega
      rw[ahY]at h3;have:=h3 y ((UE u.toNat (by omega) y).2 (by rw[Int.toNat_of_nonneg h1.1];exact hy))
      grind
     .rintro⟨h1,h2,h3⟩
      refine⟨h1,h2,?_⟩;rw[h'.w u.toNat (by omega),List.count_nil,Nat.add_zero]
      congr 2
      rw[ahY]
      grind
    grind
  .have h0:H=[]:=List.length_eq_zero_iff.1 (by omega);subst h0;exact .some ⟨hO,rfl,λd hd=>by cases(hI.h d).2 hd⟩
 .obtain⟨O,H⟩:=z;obtain⟨h1,h2,h3⟩:=hq;dsimp only at h1 h2 h3⊢
  refine Wp.dec (λh=> .some ⟨O,h1,h3,?_⟩) λh=> .some ⟨O,h1,h3,?_⟩
  all_goals grind
def IU{s:ie}{o:List Int}(h:nX s o)(hr:∀d,¬L1 s o d)(hc:∀d:Nat,d<s.2.2.2.1.length->¬Jl (Dp s) (d:Int) (d:Int)):o.length=s.2.2.2.1.length:=by
 refine Nat.le_antisymm h.len (Nat.le_of_not_lt λaH=>?_)
 have ZD:∀a b,Dp s a b->0<=b/\b<(s.2.2.2.1.length:Int):=λa b h=>(mz s a).2 b h
 obtain⟨n,hn⟩:∃n,n=s.2.2.2.1.length:=⟨_,rfl⟩
 rw[<-hn]at aH hc ZD
 have next:∀d:Int,(0<=d/\d<(n:Int))->d∉o->∃e,Dp s d e/\e∉o:=λd hd VB=>Classical.byContradiction λdu=>by
  refine hr d ⟨by rw[<-hn];exact hd,VB,(by grind)⟩
 have start:∃d:Int,(0<=d/\d<(n:Int))/\d∉o:=Classical.byContradiction λdu=>by
  have:((agG n).map λk:Nat=>(k:Int)).length<=o.length:=tB (List.Pairwise.map _ (λa b(h:a≠b)e=>h (by omega)) List.nodup_range) (by grind)
  grind
 have walk:∀m,∃l:List Int,l.length=m+1/\(∀x∈l,(0<=x/\x<(n:Int))/\x∉o)/\l.Pairwise λa b=>Jl (Dp s) b a:=by
  intro m
  induction m with
  |zero=>
   obtain⟨d,h1,h2⟩:=start;exact⟨[d],rfl,(by grind),by simp⟩
  |succ m ih=>
   obtain⟨l,hl,hm,hp⟩:=ih
   cases l with
   |nil=>cases hl
   |cons x t=>
    obtain⟨e,h1,h2⟩:=next x (hm x (by simp)).1 (hm x (by simp)).2
    refine⟨e::x::t,by grind,λy hy=>?_,agO.2 ⟨λy hy=>?_,hp⟩⟩
    .grind
    .rcases agY.1 hy with rfl|hy
     .exact .one h1
     .exact .step ((agO.1 hp).1 y hy) h1
 obtain⟨l,hl,hm,hp⟩:=walk n
 have nd:l.Nodup:=by
  refine hp.imp_of_mem λ{a b}ha hb R3=>λe=>?_
  subst e;obtain⟨h1,_⟩:=hm a ha;have:=hc a.toNat (by omega);rw[Int.toNat_of_nonneg h1.1]at this;exact this R3
 have:=ql nd λx hx=>(hm x hx).1
 omega
end L
namespace L.P
abbrev Vl:Type:=aA.den
abbrev Ty:Type:=ay.den
def bp{α:Type}{c:Prop}[Decidable c]{a b:α}:(if c then aa a else aa b)=aa (if c then a else b):=by split<;>rfl
def rp(a b:Bool):(if a=af then af else b)=(a||b):=by cases a<;>rfl
def mW(a b:Bool):(if a=af then b else ag)=(a&&b):=by cases a<;>rfl
def fF(k e n:Int):Prop:=
 (k=1/\e=0/\0<=n/\n<=1)\/(k=2/\e=0/\-1000000000000<=n/\n<=1000000000000)\/(k=3/\e=0/\-1000000000000000<=n/\n<=1000000000000000)\/
 (k=4/\e=0/\-1000000000<=n/\n<=1000000000)\/(k=5/\e=0/\0<=n/\n<=109572)\/(k=6/\0<=e/\e<=7/\0<=n/\n<=15)
instance(k e n:Int):Decidable (fF k e n):=by unfold fF;infer_instance
def gA(N:Nat)(v:Vl):M.cY N v=aa (decide (fF v.1 v.2.1 v.2.2)):=by
 revert v;rintro⟨(k:Int),(e:Int),(n:Int)⟩
 unfold M.cY;simp only[bp,agv,rp,mW];refine av aa ?_;by_cases h1:k=1
 .subst h1;rw[Bool.eq_iff_iff];simp[fF];grind
 by_cases h2:k=2
 .grind [P.fF]
 by_cases h3:k=3
 .grind [P.fF]
 by_cases h4:k=4
 .grind [P.fF]
 by_cases h5:k=5
 .grind [P.fF]
 by_cases h6:k=6
 .subst h6;rw[Bool.eq_iff_iff];simp[fF];grind
 simp[fF,h1,h2,h3,h4,h5,h6]
def CM(k e n a b:Int):Prop:=fF k e n/\k=a/\e=b
instance(k e n a b:Int):Decidable (CM k e n a b):=by unfold CM;infer_instance
abbrev IV(v:Vl)(t:Ty):Prop:=CM v.1 v.2.1 v.2.2 t.1 t.2
def wL(N:Nat)(v:Vl)(t:Ty):M.ki N v t=aa (decide (IV v t)):=by
 unfold M.ki;rw[gA];simp only[bp,agv,mW]
 grind [P.CM]
def CN(op k e:Int):Prop:=e=0/\(if op=36 then k=2\/k=3 else if op=39 then 2<=k/\k<=5 else k=1)
instance(op k e:Int):Decidable (CN op k e):=by unfold CN;infer_instance
abbrev UT(op:Int)(t:Ty):Prop:=CN op t.1 t.2
def pH(N:Nat)(k:Int):M.fK N k=aa (decide (2<=k/\k<=4)):=by
 unfold M.fK;simp only[bp,agv,rp];refine av aa ?_
 grind
def tH(N:Nat)(op:Int)(t:Ty):M.gp N op t=aa (decide (UT op t)):=by
 unfold M.gp;rw[pH];simp only[bp,agv,rp,mW];refine av aa ?_;obtain⟨(k:Int),(e:Int)⟩:=t;rw[Bool.eq_iff_iff]
 show _↔decide (CN op k e)=af
 unfold CN
 grind
def fold(op acc n:Int)(first:Bool):Int:=
 if op=36 then acc+n else if op=37 then acc*n else if op=38 then(if acc<n then n else acc)else(if first=af\/acc<n then n else acc)
def pJ(op:Int)(t:Ty)(j:Nat):List (List Vl)->Bool->Int->Int⊕Int
 |[],_,acc=> .inl acc
 |l::ms,first,acc=>match l[j]? with
  |none=> .inr 6
  |some v=>if(v.1:Int)=0 then .inr 6 else if IV v t then
    (if fF t.1 0 (fold op acc v.2.2 first)then pJ op t j ms ag (fold op acc v.2.2 first)else .inr 3)else .inr 8
def wM(op:Int):Int:=if op=37 then 1 else 0
def On(op:Int)(t:Ty)(j:Nat)(ms:List (List Vl)):Vl×Int:=
 if op=39/\ms=[]then((0,0,0),6)else match pJ op t j ms af (wM op)with
  | .inl a=>((t.1,0,a),0)
  | .inr c=>((0,0,0),c)
def L5(op:Int)(t:Ty)(first:Bool)(acc:Int):Prop:=(op=39/\first=af/\acc=0)\/fF t.1 0 acc
def Oo{op:Int}{t:Ty}(sz:op=36\/op=37\/op=38\/op=39)(ht:UT op t):L5 op t af (wM op):=by
 obtain⟨(k:Int),(e:Int)⟩:=t
 obtain⟨h0,h1⟩:=(show CN op k e from ht)
 show(op=39/\af=af/\wM op=0)\/fF k 0 (wM op)
 grind [P.fF,P.wM]
def wN{N:Nat}(hN:100001<=N){op:Int}(sz:op=36\/op=37\/op=38\/op=39){j:Nat}{env:ik.den}(hj:j<env.2.2.2.2.1.length)(hm:env.2.2.2.1.length<=100)(ht:UT op env.2.2.2.2.1[j]):
 M.eN N (op,(j:Int)) env=aa (On op env.2.2.2.2.1[j] j env.2.2.2.1):=by
 obtain⟨d,ip,df,ms,ts,tb⟩:=env;simp only at hj hm ht⊢;apply Wp.eq;unfold M.eN;simp only;rw[aB hj];simp only[agv];generalize ts[j]=t at ht⊢;have SI:(t.2:Int)=0:=(show CN op t.1 t.2 from ht).1
 have e1:(if decide (op=37)=af then aa (t.1,t.2,(1:Int))else aa (t.1,t.2,(0:Int)):Option Vl)=aa (t.1,t.2,wM op):=by
  unfold wM;by_cases h:op=37<;>simp[h]
 rw[e1];simp only[agv,bp,mW];unfold On
 refine Wp.ite (λh=>?_) λh=>?_
 .have:op=39/\ms=[]:=by simpa using h
  rw[aj this];exact .some rfl
 .have h39:¬(op=39/\ms=[]):=by simpa using h
  rw[ai h39]
  refine Wp.join (Wp.loop (λs:Int×Vl=>∃k:Nat,∃acc:Int,s=((k:Int),(t.1,t.2,acc))/\k<=ms.length/\L5 op t (decide (k=0)) acc/\pJ op t j (ms.drop k) (decide (k=0)) acc=pJ op t j ms af (wM op)) (λs=>(ms.length-s.1).toNat)
   ⟨0,wM op,rfl,Nat.zero_le _,Oo sz ht,rfl⟩ (by grind) ?_)
  rintro _ ⟨k,acc,rfl,hk,Oq,hf⟩
  simp only
  refine Wp.dec (λh=>?_) λh=> .some (.some ?_)
  case refine_2=>
   grind [P.pJ]
  have lf:k<ms.length:=by omega
  have hd:ms.drop k=ms[k]::ms.drop (k+1):=agJ lf;rw[hd]at hf;rw[aB lf];simp only[agv];rw[pJ]at hf;by_cases hl:j<ms[k].length
  .rw[agz hl]at hf;simp only at hf;rw[aB hl];simp only[agv,bp,rp,wL,gA];generalize ms[k][j]=v at hf⊢;by_cases hv:(v.1:Int)=0
   .rw[aj hv]at hf;rw[aj (by simp[hv])];refine .some ?_
    show _=_
    rw[<-hf]
   .rw[ai hv]at hf;rw[ai (by grind)];by_cases hh:IV v t
    .rw[aj hh]at hf;rw[ai (by simp[hh])]
     obtain⟨hp,Qh,PK⟩:=(show CM _ _ _ _ _ from hh)
     refine Wp.join ?_
     have key:∀a,fold op acc v.2.2 (decide (k=0))=a->fF t.1 0 a->yu (λs:Int×Vl=>∃k:Nat,∃acc:Int,s=((k:Int),(t.1,t.2,acc))/\k<=ms.length/\L5 op t (decide (k=0)) acc/\pJ op t j (ms.drop k) (decide (k=0)) acc=pJ op t j ms af (wM op)) (λs=>(ms.length-s.1).toNat) ((k:Int),(t.1,t.2,acc)) (rY (λj4=>aa (j4,(0:Int))) λx=>x=match pJ op t j ms af (wM op)with
      | .inl a=>((t.1,0,a),0)
      | .inr c=>((0,0,0),c)) (.inl (agw.wrap ((k:Int)+1),(t.1,t.2,a))):=by
      intro a ha hpa;subst ha;rw[aj hpa]at hf;rw[aP (by omega)];refine⟨⟨k+1,_,rfl,lf, .inr hpa,?_⟩,by grind⟩;rw[show decide (k+1=0)=ag by simp];exact hf
     rcases sz with rfl|rfl|rfl|rfl
     all_goals simp only[decide_true,decide_false,if_true,if_false,Int.reduceEq,agK,Bool.not_true,Bool.not_false]
     .have UW:fF t.1 0 acc:=by
       rcases Oq with h|h
       .grind
       .exact h
      have MJ:fold 36 acc v.2.2 (decide (k=0))=acc+v.2.2:=by simp[fold]
      have hw:agw.wrap (acc+v.2.2)=acc+v.2.2:=by
       revert UW hp;generalize(v.2.2:Int)=n;generalize(v.1:Int)=vk;generalize(v.2.1:Int)=ve;generalize(t.1:Int)=tk;intro h1 h2;unfold fF at h1 h2;dsimp only[az,Row.den]at*;exact bL (by omega) (by omega)
      rw[hw];rw[MJ]at hf;by_cases wZ:fF t.1 0 (acc+v.2.2)
      .rw[ai (by grind)];exact .some (.some (key _ MJ wZ))
      .rw[aj (by grind)];rw[ai wZ]at hf;refine .some ?_
       show _=_
       rw[<-hf]
     .have hb:(0<=(v.2.2:Int)/\(v.2.2:Int)<=1)/\0<=acc/\acc<=1/\(t.1:Int)=1:=by
       have h1:=(show CN 37 t.1 t.2 from ht).2
       have h2:fF t.1 0 acc:=by
        rcases Oq with h|h
        .grind
        .exact h
       rw[Qh]at hp;revert h1 h2 hp;generalize(v.2.2:Int)=n;generalize(v.2.1:Int)=ve;generalize(t.1:Int)=tk;intro h3 h1 h2;unfold fF at h2 h3;simp at h1;dsimp only[az,Row.den]at*;omega
      obtain⟨⟨b1,b2⟩,b3,b4,b5⟩:=hb
      have MJ:fold 37 acc v.2.2 (decide (k=0))=(if v.2.2<acc then v.2.2 else acc:Int):=by
       have b2':(v.2.2:Int)=0\/(v.2.2:Int)=1:=by revert b1 b2;generalize(v.2.2:Int)=n;intro b1 b2;dsimp only[az,Row.den]at*;omega
       have b4':acc=0\/acc=1:=by omega
       rcases b2' with e1|e1<;>rcases b4' with e2|e2<;>simp[fold,e1,e2]
      refine .some (.some (key _ MJ ?_));refine .inl ⟨b5,rfl,?_⟩
      grind
     .have MJ:fold 38 acc v.2.2 (decide (k=0))=(if acc<v.2.2 then v.2.2 else acc:Int):=by simp[fold]
      have h2:fF t.1 0 acc:=by
       rcases Oq with h|h
       .grind
       .exact h
      refine .some (.some (key _ MJ ?_))
      grind
     .have h3:fF t.1 0 v.2.2:=by rw[Qh,PK,SI]at hp;exact hp
      by_cases hc:((k:Int)=0)\/acc<v.2.2
      .have MJ:fold 39 acc v.2.2 (decide (k=0))=v.2.2:=by
        have:k=0\/acc<v.2.2:=hc.imp (λh=>by omega) id;simp[fold,this]
       rw[aj (by simpa using hc)]
       have hv3:v=(t.1,t.2,v.2.2):=by rw[<-Qh,<-PK]
       rw[hv3];exact .some (.some (key _ MJ h3))
      .have MJ:fold 39 acc v.2.2 (decide (k=0))=acc:=by
        have:¬(k=0\/acc<v.2.2):=(by grind)
        simp[fold,this]
       rw[ai (by simpa using hc)];refine .some (.some (key _ MJ ?_))
       rcases Oq with h|h
       all_goals grind
    .rw[ai hh]at hf;rw[aj (by simp[hh])];refine .some ?_
     show _=_
     rw[<-hf]
  .rw[List.getElem?_eq_none (by omega)]at hf;rw[aj (by simp;omega)];refine .some ?_
   show _=_
   rw[<-hf]
end L.P
namespace L.P
def wO{n:Int}(h0:0<=n)(h1:n<18446744073709551616):agy.wrap n=n:=by
 simp[IntKind.wrap,IntKind.bits,IntKind.signed];omega
def Au(n:Int):agy.wrap n=n%18446744073709551616:=by
 simp[IntKind.wrap,IntKind.bits,IntKind.signed]
def lu(n:Int):0<=agy.wrap n/\agy.wrap n<18446744073709551616:=by rw[Au];omega
def Pz(a:Int):bQ .u64 a 32=a/4294967296:=by
 unfold bQ;rw[show min (32:Int).toNat agy.bits=32 from rfl];exact ahU _ (by decide)
def UX(a:Int):bQ .u64 a 16=a/65536:=by
 unfold bQ;rw[show min (16:Int).toNat agy.bits=16 from rfl];exact ahU _ (by decide)
def ZE(a:Int):bQ .u64 a 8=a/256:=by
 unfold bQ;rw[show min (8:Int).toNat agy.bits=8 from rfl];exact ahU _ (by decide)
def Av:ByteArray:=(⟨#[0,1,2,2,3,3,3,3,4,4,4,4,4,4,4,4,5,5,5,5,5,5,5,5,5,5,5,5,5,5,5,5,6,6,6,6,6,6,6,6,6,6,6,6,6,6,6,6,6,6,6,6,6,6,6,6,6,6,6,6,6,6,6,6,7,7,7,7,7,7,7,7,7,7,7,7,7,7,7,7,7,7,7,7,7,7,7,7,7,7,7,7,7,7,7,7,7,7,7,7,7,7,7,7,7,7,7,7,7,7,7,7,7,7,7,7,7,7,7,7,7,7,7,7,7,7,7,7,8,8,8,8,8,8,8,8,8,8,8,8,8,8,8,8,8,8,8,8,8,8,8,8,8,8,8,8,8,8,8,8,8,8,8,8,8,8,8,8,8,8,8,8,8,8,8,8,8,8,8,8,8,8,8,8,8,8,8,8,8,8,8,8,8,8,8,8,8,8,8,8,8,8,8,8,8,8,8,8,8,8,8,8,8,8,8,8,8,8,8,8,8,8,8,8,8,8,8,8,8,8,8,8,8,8,8,8,8,8,8,8,8,8,8,8,8,8,8,8,8,8,8,8,8,8,8,8]⟩:ByteArray)
def PA(n:Nat):Bool:=match kS Av n with
 |some k=>decide (0<=k)&&decide (k<=8)&&decide (n<2 ^ k.toNat)&&(agC n 0||(decide (1<=k)&&decide (2 ^ (k.toNat-1)<=n)))
 |none=>ag
def Ot:(agG 256).all PA=af:=by kernel_rfl
def zR{n:Nat}(h:n<256):∃k:Nat,kS Av n=aa (k:Int)/\k<=8/\n<2 ^ k/\(n≠0->1<=k/\2 ^ (k-1)<=n):=by
 have:=List.all_eq_true.1 Ot n (List.mem_range.2 h);unfold PA at this;split at this
 case h_2=>cases this
 rename_i k hk;simp only[ahu,Bool.or_eq_true,aw,Nat.beq_eq]at this;obtain⟨⟨⟨h1,h2⟩,h3⟩,h4⟩:=this;refine⟨k.toNat,by rw[hk,Int.toNat_of_nonneg h1],by omega,h3,λhn=>?_⟩
 rcases h4 with h4|h4
 .exact absurd h4 hn
 .exact⟨by omega,h4.2⟩
def RH{m b k:Nat}(h:m/2 ^ b<2 ^ k):m<2 ^ (b+k):=by
 rw[Nat.div_lt_iff_lt_mul (Nat.two_pow_pos b)]at h;rw[ahV,Nat.mul_comm];exact h
def RJ{m b k:Nat}(hk:1<=k)(h:2 ^ (k-1)<=m/2 ^ b):2 ^ (b+k-1)<=m:=by
 rw[Nat.le_div_iff_mul_le (Nat.two_pow_pos b)]at h;rw[show b+k-1=k-1+b by omega,ahV];exact h
def L6{N m:Nat}(hm:m<18446744073709551616):∃L:Nat,M.jA N m=aa (L:Int)/\L<=64/\m<2 ^ L/\(m≠0->1<=L/\2 ^ (L-1)<=m):=by
 have fin:∀(b q:Nat)(w:Int),q=m/2 ^ b->w=b->b<=56->q<256->(m≠0->q≠0)->∃L:Nat,((kS Av (IntKind.u8.wrap (q:Int))).bind λx4=>aa (agw.wrap (w+agw.wrap x4)))=aa (L:Int)/\L<=64/\m<2 ^ L/\(m≠0->1<=L/\2 ^ (L-1)<=m):=by
  intro b q w hq hw hb h1 h2;subst hq;subst hw;obtain⟨k,g1,g2,g3,g4⟩:=zR h1
  have hu:IntKind.u8.wrap ((m/2 ^ b:Nat):Int)=((m/2 ^ b:Nat):Int):=by
   simp only[IntKind.wrap,IntKind.bits,IntKind.signed];generalize m/2 ^ b=q at h1⊢;simp;omega
  refine⟨b+k,?_,by omega,RH g3,λdu=>?_⟩
  .rw[hu,g1,agv,we (by omega),<-Int.natCast_add,we (by omega)]
  .obtain⟨g5,g6⟩:=g4 (h2 du);exact⟨by omega,RJ g5 g6⟩
 have e32:((m:Int)/4294967296)=((m/2 ^ 32:Nat):Int):=by rw[show(2 ^ 32:Nat)=4294967296 from rfl];omega
 have d48:m/2 ^ 32/2 ^ 16=m/2 ^ 48:=by rw[ahS,<-ahV]
 have d40:m/2 ^ 32/2 ^ 8=m/2 ^ 40:=by rw[ahS,<-ahV]
 have d56:m/2 ^ 48/2 ^ 8=m/2 ^ 56:=by rw[ahS,<-ahV]
 have d24:m/2 ^ 16/2 ^ 8=m/2 ^ 24:=by rw[ahS,<-ahV]
 have ZF:∀q:Nat,((q:Int)/65536)=((q/2 ^ 16:Nat):Int):=λq=>by rw[show(2 ^ 16:Nat)=65536 from rfl];omega
 have c8:∀q:Nat,((q:Int)/256)=((q/2 ^ 8:Nat):Int):=λq=>by rw[show(2 ^ 8:Nat)=256 from rfl];omega
 unfold M.jA;rw[show(⟨#[0,1,2,2,3,3,3,3,4,4,4,4,4,4,4,4,5,5,5,5,5,5,5,5,5,5,5,5,5,5,5,5,6,6,6,6,6,6,6,6,6,6,6,6,6,6,6,6,6,6,6,6,6,6,6,6,6,6,6,6,6,6,6,6,7,7,7,7,7,7,7,7,7,7,7,7,7,7,7,7,7,7,7,7,7,7,7,7,7,7,7,7,7,7,7,7,7,7,7,7,7,7,7,7,7,7,7,7,7,7,7,7,7,7,7,7,7,7,7,7,7,7,7,7,7,7,7,7,8,8,8,8,8,8,8,8,8,8,8,8,8,8,8,8,8,8,8,8,8,8,8,8,8,8,8,8,8,8,8,8,8,8,8,8,8,8,8,8,8,8,8,8,8,8,8,8,8,8,8,8,8,8,8,8,8,8,8,8,8,8,8,8,8,8,8,8,8,8,8,8,8,8,8,8,8,8,8,8,8,8,8,8,8,8,8,8,8,8,8,8,8,8,8,8,8,8,8,8,8,8,8,8,8,8,8,8,8,8,8,8,8,8,8,8,8,8,8,8,8,8,8,8,8,8,8,8]⟩:ByteArray)=Av from rfl];simp only[Pz,UX,ZE,e32,ZF,c8];by_cases h1:4294967296<=m
 .have a1:decide ((4294967296:Int)<=(m:Int))=af:=by simp;omega
  simp only[a1,if_true,agv,ZF,d48];by_cases h2:65536<=m/2 ^ 32
  .have a2:decide ((65536:Int)<=((m/2 ^ 32:Nat):Int))=af:=by simp;omega
   simp only[a2,if_true,agv,c8,d56];by_cases h3:256<=m/2 ^ 48
   .have a3:decide ((256:Int)<=((m/2 ^ 48:Nat):Int))=af:=by simp;omega
    simp only[a3,if_true,agv];exact fin 56 _ _ rfl (by kernel_rfl) (by omega) (by omega) (by omega)
   .have a3:decide ((256:Int)<=((m/2 ^ 48:Nat):Int))=ag:=by simp;omega
    simp only[a3,agK,if_false,agv];exact fin 48 _ _ rfl (by kernel_rfl) (by omega) (by omega) (by omega)
  .have a2:decide ((65536:Int)<=((m/2 ^ 32:Nat):Int))=ag:=by simp;omega
   simp only[a2,agK,if_false,agv,c8,d40];by_cases h3:256<=m/2 ^ 32
   .have a3:decide ((256:Int)<=((m/2 ^ 32:Nat):Int))=af:=by simp;omega
    simp only[a3,if_true,agv];exact fin 40 _ _ rfl (by kernel_rfl) (by omega) (by omega) (by omega)
   .have a3:decide ((256:Int)<=((m/2 ^ 32:Nat):Int))=ag:=by simp;omega
    simp only[a3,agK,if_false,agv];exact fin 32 _ _ rfl (by kernel_rfl) (by omega) (by omega) (by omega)
 .have a1:decide ((4294967296:Int)<=(m:Int))=ag:=by simp;omega
  simp only[a1,agK,if_false,agv,ZF];by_cases h2:65536<=m
  .have a2:decide ((65536:Int)<=(m:Int))=af:=by simp;omega
   simp only[a2,if_true,agv,c8,d24];by_cases h3:256<=m/2 ^ 16
   .have a3:decide ((256:Int)<=((m/2 ^ 16:Nat):Int))=af:=by simp;omega
    simp only[a3,if_true,agv];exact fin 24 _ _ rfl (by kernel_rfl) (by omega) (by omega) (by omega)
   .have a3:decide ((256:Int)<=((m/2 ^ 16:Nat):Int))=ag:=by simp;omega
    simp only[a3,agK,if_false,agv];exact fin 16 _ _ rfl (by kernel_rfl) (by omega) (by omega) (by omega)
  .have a2:decide ((65536:Int)<=(m:Int))=ag:=by simp;omega
   simp only[a2,agK,if_false,agv,c8];by_cases h3:256<=m
   .have a3:decide ((256:Int)<=(m:Int))=af:=by simp;omega
    simp only[a3,if_true,agv];exact fin 8 _ _ rfl (by kernel_rfl) (by omega) (by omega) (by omega)
   .have a3:decide ((256:Int)<=(m:Int))=ag:=by simp;omega
    simp only[a3,agK,if_false,agv];exact fin 0 m _ (by simp) (by kernel_rfl) (by omega) (by omega) (λh=>h)
def UY(rh:Int)(h:0<=rh):(if rh<4294967296 then(4294967296-rh).toNat else 4294967297)<aU:=by
 unfold aU
 split<;>omega
def IW{hi lo y:Int}(h0:0<=hi)(h1:hi<y)(h2:y<18446744073709551616):∃r,M.dy aU hi lo y=aa r:=by
 have key:Wp (M.dy aU hi lo y) λ_=>True:=by
  unfold M.dy;rw[ai (by simp;omega),ai (by simp;omega)]
  refine Wp.dec (λ_=>?_) λdu=>?_
  .unfold y0 G6;rw[ai (by omega),ai (by omega)];exact .some trivial
  .obtain⟨m,rfl⟩:∃m:Nat,y=m:=⟨y.toNat,by omega⟩
   obtain⟨L,g1,g2,g3,g4⟩:=L6 (N:=aU) (m:=m) (by omega);obtain⟨g4,g5⟩:=g4 (by omega);unfold M.fL;rw[g1]
   have hL:agy.wrap (agw.wrap ((64:Int)-(L:Int)))=((64-L:Nat):Int):=by
    rw[bL (by omega) (by omega),wO (by omega) (by omega)];omega
   have hL2:agy.wrap ((64:Int)-((64-L:Nat):Int))=(L:Int):=by rw[wO (by omega) (by omega)];omega
   simp only[agv,hL,hL2]
   have gN:∀a:Int,qK .u64 a ((64-L:Nat):Int)=aa (w7 .u64 a ((64-L:Nat):Int)):=λa=>ai (by omega)
   have Rf:∀a:Int,w8 .u64 a (L:Int)=aa (bQ .u64 a (L:Int)):=λa=>ai (by omega)
   have ZG:∀a:Int,w8 .u64 a ((64-L:Nat):Int)=aa (bQ .u64 a ((64-L:Nat):Int)):=λa=>ai (by omega)
   simp only[gN,Rf,ZG,agv,Pz]
   have hy:9223372036854775808<=w7 .u64 (m:Int) ((64-L:Nat):Int)/\w7 .u64 (m:Int) ((64-L:Nat):Int)<18446744073709551616:=by
    unfold w7;rw[show min (((64-L:Nat):Int).toNat) agy.bits=64-L by simp[IntKind.bits]]
    have e1:m*2 ^ (64-L)<2 ^ 64:=by
     calc m*2 ^ (64-L)<2 ^ L*2 ^ (64-L):=Nat.mul_lt_mul_of_pos_right g3 (Nat.two_pow_pos _)
      _=2 ^ 64:=by rw[<-ahV];congr 1;omega
    have e2:2 ^ 63<=m*2 ^ (64-L):=by
     calc 2 ^ 63=2 ^ (L-1)*2 ^ (64-L):=by rw[<-ahV];congr 1;omega
      _<=m*2 ^ (64-L):=agM _ g5
    have e3:((m:Int)*2 ^ (64-L))=((m*2 ^ (64-L):Nat):Int):=by simp
    rw[e3,wO (by omega) (by omega)];omega
   generalize w7 .u64 (m:Int) ((64-L:Nat):Int)=x4 at hy⊢
   have hyn:0<x4/4294967296/\x4/4294967296<4294967296:=by omega
   generalize x4/4294967296=yn at hyn⊢
   have quo:∀a:Int,y0 a yn=aa (agN a yn):=λa=>ai (by omega)
   simp only[quo,agv]
   have inv:∀rh:Int,0<=rh->rh<18446744073709551616->¬4294967296<=agy.wrap (rh+yn)->(if agy.wrap (rh+yn)<4294967296 then(4294967296-agy.wrap (rh+yn)).toNat else 4294967297)<(if rh<4294967296 then(4294967296-rh).toNat else 4294967297):=by
    intro rh i1 i2 hc;rw[aj (by omega)];by_cases hr:rh<4294967296
    .rw[aj hr];have:agy.wrap (rh+yn)=rh+yn:=wO (by omega) (by omega);rw[this]at hc⊢;omega
    .rw[ai hr];have:=lu (rh+yn);omega
   simp only[bp,rp,agv]
   refine Wp.seq (λ_=>True) (Wp.seq (λ_=>True) (Wp.loop (λs:Int×Int=>0<=s.2/\s.2<18446744073709551616) (λs=>if s.2<4294967296 then(4294967296-s.2).toNat else 4294967297) (lu _) (UY _ (lu _).1) ?_) λ_ _=> .some trivial) λj9 _=>?_
   .rintro⟨q,rh⟩ ⟨i1,i2⟩
    refine .some ?_;split
    .split
     .trivial
     .rename_i hc;exact⟨lu _,inv rh i1 i2 (by simpa using hc)⟩
    .trivial
   refine Wp.seq (λ_=>True) (Wp.seq (λ_=>True) (Wp.loop (λs:Int×Int=>0<=s.1/\s.1<18446744073709551616) (λs=>if s.1<4294967296 then(4294967296-s.1).toNat else 4294967297) (lu _) (UY _ (lu _).1) ?_) λ_ _=> .some trivial) λj14 _=> .some trivial
   .rintro⟨rh,q⟩ ⟨i1,i2⟩
    refine .some ?_;split
    .split
     .trivial
     .rename_i hc;exact⟨lu _,inv rh i1 i2 (by simpa using hc)⟩
    .trivial
 obtain⟨x,hx,_⟩:=key;exact⟨x,hx⟩
def ma(N:Nat)(m:Int):M.fm N m=aa (decide (0<=m)&&decide (m<=5)):=by
 unfold M.fm;simp only[bp,agv,mW]
def qm(N:Nat)(n l:Int):M.dM N n l=aa (decide (l<n)||decide (n<agw.wrap (0-l))):=by
 unfold M.dM;simp only[bp,agv,rp]
def kO(N:Nat){n:Int}(h: -4611686018427387904<=n/\n<=4611686018427387904):M.dz N n=aa (if n<0 then-n else n):=by
 unfold M.dz;simp only[bp];refine av aa ?_;by_cases hn:n<0
 .rw[aj (by simpa using hn),aj hn,Au n,Au];omega
 .rw[ai (by simpa using hn),ai hn,wO (by omega) (by omega)]
end L.P
namespace L.P
def Cd(c:Int):Prop:=c=0\/c=3\/c=12
def Aw{c:Prop}[Decidable c]{x y:Int×Int}(hx:Cd x.2)(hy:Cd y.2):Cd (if c then x else y).2:=by
 split
 .exact hx
 .exact hy
def Jo(x:Int):Cd (x,(0:Int)).2:= .inl rfl
def Cd3(x:Int):Cd (x,(3:Int)).2:= .inr (.inl rfl)
def kP{n l:Int}(hl:0<=l/\l<=9000000000000000000)(h:¬(decide (l<n)||decide (n<agw.wrap (0-l)))=af): -l<=n/\n<=l:=by
 rw[bL (by omega) (by omega)]at h;simp at h;omega
def PB(N:Nat)(a b c:Int)(d:Bool)(e:Int):Wp (M.dO N a b c d e) λ_=>True:=by
 unfold M.dO;simp only[bp,agv];exact .some trivial
def yJ(N:Nat)(a:Int)(b:Bool):Wp (M.kj N a b) λ_=>True:=by
 unfold M.kj;simp only[bp];exact .some trivial
def mX(N:Nat){a b m:Int}(hm:0<=m/\m<=5):Wp (M.eU N a b m) λr=>Cd r.2:=by
 unfold M.eU;rw[ma];simp only[agv,qm];rw[ai (by simp;omega)]
 refine Wp.dec (λ_=> .some (by simp[Cd])) λhb=>?_
 simp only[bp,agv,rp]
 refine Wp.ite (λ_=> .some (by simp[Cd])) λhc=>?_
 rw[Bool.or_eq_true,not_or]at hc;have ha:=kP (by omega) hc.1;have sC:=kP (by omega) hc.2;rw[kO N ha,kO N sC];simp only[agv]
 have du:(if b<0 then-b else b)≠0:=by split<;>omega
 rw[show∀x,y0 x (if b<0 then-b else b)=aa (agN x (if b<0 then-b else b))from λx=>ai du,show∀x,G6 x (if b<0 then-b else b)=aa (aha x (if b<0 then-b else b))from λx=>ai du];simp only[agv]
 exact Wp.seq _ (PB ..) λx _=>Wp.seq _ (yJ ..) λy _=> .some (by simp[Cd])
def sq(N:Nat)(a b:Int):Wp (M.ee N a b) λr=>(0<=r.1/\r.1<18446744073709551616)/\0<=r.2/\r.2<18446744073709551616:=by
 unfold M.ee;exact .some ⟨lu _,lu _⟩
def wP{hi lo y:Int}(h0:0<=hi)(h1:hi<y)(h2:y<18446744073709551616):Wp (M.dy aU hi lo y) λ_=>True:=by
 obtain⟨r,hr⟩:=IW (lo:=lo) h0 h1 h2;exact⟨r,hr,trivial⟩
def IX{a b c m:Int}(hm:0<=m/\m<=5):Wp (M.lX aU a b c m) λr=>Cd r.2:=by
 unfold M.lX;rw[ma];simp only[agv,qm];rw[ai (by simp;omega)]
 refine Wp.dec (λ_=> .some (by simp[Cd])) λhb=>?_
 simp only[bp,agv,rp]
 refine Wp.ite (λ_=> .some (by simp[Cd])) λhc=>?_
 simp only[Bool.or_eq_true,not_or]at hc;have ha:=kP (n:=a) (l:=1000000000000000) (by omega) (by simpa using hc.1);have sC:=kP (n:=b) (l:=1000000000) (by omega) (by simpa using hc.2.1);have VD:=kP (n:=c) (l:=1000000000) (by omega) (by simpa using hc.2.2);rw[kO _ (n:=a) (by omega),kO _ (n:=b) (by omega)];simp only[agv]
 refine Wp.seq _ (sq ..) λr hr=>?_
 rw[kO _ (n:=c) (by omega)];simp only[agv]
 refine Wp.dec (λ_=> .some (by simp[Cd])) λhd=>?_
 have aH:(if c<0 then-c else c)<18446744073709551616:=by split<;>omega
 refine Wp.seq _ (wP hr.1.1 (by omega) aH) λq _=>?_
 refine Wp.dec (λ_=> .some (by simp[Cd])) λ_=>?_
 refine Wp.seq _ (PB ..) λx _=>?_
 refine Wp.dec (λ_=> .some (by simp[Cd])) λ_=>?_
 exact Wp.seq _ (yJ ..) λy _=> .some (by simp[Cd])
def Fh{a b m:Int}(hm:0<=m/\m<=5):Wp (M.lk aU a b m) λr=>Cd r.2:=by
 unfold M.lk;rw[ma];simp only[agv,qm];rw[ai (by simp;omega)]
 refine Wp.dec (λ_=> .some (by simp[Cd])) λhb=>?_
 simp only[bp,agv,rp]
 refine Wp.ite (λ_=> .some (by simp[Cd])) λhc=>?_
 refine Wp.seq _ (mX _ hm) λr hr=>?_
 refine .some ?_;split
 .exact hr
 .split<;>simp[Cd]
def yK(N:Nat)(m:Int):M.ko N m=aa (decide (0<=m)&&decide (m<=5)):=ma N m
def wQ(N:Nat)(n l:Int):M.iF N n l=aa (decide (l<n)||decide (n<agw.wrap (0-l))):=qm N n l
def Ou{a b m:Int}(hm:0<=m/\m<=5):Wp (M.rV aU a b m) λr=>Cd r.2:=by
 unfold M.rV;rw[yK];simp only[agv,wQ];rw[ai (by simp;omega)];simp only[bp,agv,rp]
 refine Wp.ite (λ_=> .some (by simp[Cd])) λhc=>?_
 refine Wp.seq _ (mX _ hm) λr hr=>?_
 refine .some ?_;split
 .exact hr
 .split<;>simp[Cd]
def IY{a b m:Int}(hm:0<=m/\m<=5):Wp (M.ol aU a b m) λr=>Cd r.2:=by
 unfold M.ol
 exact Wp.seq _ (IX hm) λr hr=> .some hr
def CO(N:Nat)(a b c:Int)(d:Bool)(e:Int):Wp (M.ll N a b c d e) λ_=>True:=by
 unfold M.ll;simp only[bp,agv];exact .some trivial
def Ax{a b m:Int}(hm:0<=m/\m<=5):Wp (M.kq aU a b m) λr=>Cd r.2:=by
 unfold M.kq;rw[yK];simp only[agv,wQ];rw[ai (by simp;omega)]
 refine Wp.dec (λ_=> .some (by simp[Cd])) λhb=>?_
 simp only[bp,agv,rp]
 refine Wp.ite (λ_=> .some (by simp[Cd])) λhc=>?_
 refine Wp.seq _ (sq ..) λr hr=>?_
 refine Wp.dec (λ_=> .some (by simp[Cd])) λhd=>?_
 refine Wp.seq _ (wP hr.1.1 (by omega) (lu _).2) λq _=>?_
 refine Wp.dec (λ_=> .some (by simp[Cd])) λ_=>?_
 refine Wp.seq _ (Wp.bind (Wp.mono (CO ..) λx _=>?_)) λj7(_:True)=>?_
 .exact .some trivial
 .exact .some (by split<;>simp[Cd])
def uc(N:Nat)(r:ay.den)(d:Int):Wp (M.cB N r d) λ_=>True:=by
 unfold M.cB M.ed;simp only[bp,agv];exact .some trivial
def uF(a b:Int):Wp (M.gr aU a b) λ_=>True:=by
 unfold M.gr;simp only[bp,agv]
 refine Wp.seq _ (sq ..) λr hr=>?_
 refine Wp.dec (λ_=> .some trivial) λhd=>?_
 refine Wp.seq _ (wP hr.1.1 (by omega) (by omega)) λq _=>?_
 exact .some trivial
def CP(N:Nat){a b m:Int}(hm:0<=m/\m<=5):Wp (M.iE N a b m) λr=>Cd r.2:=by
 unfold M.iE;simp only[bp,agv]
 refine Wp.ite (λ_=> .some (by simp[Cd])) λhc=>?_
 refine Wp.seq _ (mX _ hm) λr hr=>?_
 exact .some (Aw hr (Aw (Cd3 _) (Jo _)))
def CQ{t:bn.den}{d k m:Int}(hm:0<=m/\m<=5)(hk:t.2.1=((3,0):Int×Int))(hv:t.2.2.1=((4,0):Int×Int))(hl:t.2.2.2.length<=9223372036854775807):Wp (M.kl aU t d k m) λr=>Cd r.2:=by
 unfold M.kl;simp only[bp,agv,rp];rw[ai (by simp;omega),ai (by rw[hk,hv];simp[lH])]
 refine Wp.ite (λ_=> .some (by simp[Cd])) λhc=>?_
 refine Wp.join (Wp.loop (λs:Int×Int×Int=>∃i:Nat,s.2.2=i/\i<=t.2.2.2.length) (λs=>(t.2.2.2.length-s.2.2).toNat) ⟨0,rfl,Nat.zero_le _⟩ (by simp only;unfold aU;omega) ?_)
 rintro⟨s1,s2,s3⟩ ⟨i,hi,qE⟩
 simp only at hi;subst hi
 refine Wp.dec (λh=>?_) λh=> .some ?_
 .have kW:i<t.2.2.2.length:=by simp only at h;omega
  refine Wp.join ?_;simp only;rw[aB kW];simp only[agv]
  refine Wp.seq (λ_=>True) ?_ λj8 _=>?_
  .refine Wp.seq _ (uc ..) λy _=>?_
   exact .some trivial
  have nxt:∀a b:Int,rY (λj6:Int×Int=>aa (Sum.inl (j6.1,j6.2,agw.wrap ((i:Int)+1)))) (yu (λs:Int×Int×Int=>∃i:Nat,s.2.2=i/\i<=t.2.2.2.length) (λs=>(t.2.2.2.length-s.2.2).toNat) (s1,s2,(i:Int)) (rY (λj4:Int×Int=>(M.iE aU j4.1 j4.2 m).bind λUZ=>aa (UZ.1,UZ.2)) λr:Int×Int=>Cd r.2)) (.inl (a,b)):=by
   intro a b;refine .some ?_;rw[aP (by omega)];exact⟨⟨i+1,rfl,kW⟩,by simp only;omega⟩
  refine Wp.ite (λ_=> .some (nxt _ _)) λ_=>?_
  refine Wp.seq _ (uF ..) λy _=>?_
  refine .some ?_;split
  .show Cd _
   simp[Cd]
  .exact nxt _ _
 .show Wp _ _
  exact Wp.seq _ (CP _ hm) λr hr=> .some hr
def L7(l:List jr.den)(a b:Int)(hl:l.length<=9223372036854775807):Wp (M.cI aU l a b) λr=>r.2.1=af->0<=r.1/\r.1<l.length:=by
 unfold M.cI;refine Wp.loop (λs:Int×Int×Int=>∃i:Nat,s.1=i/\i<=l.length) (λs=>(l.length-s.1).toNat) ⟨0,rfl,Nat.zero_le _⟩ (by simp only;unfold aU;omega) ?_
 rintro⟨s1,s2,s3⟩ ⟨i,hi,qE⟩
 simp only at hi;subst hi
 refine Wp.dec (λh=>?_) λh=> .some λh=>by cases h
 have kW:i<l.length:=by simp only at h;omega
 simp only;rw[aB kW];simp only[agv]
 refine Wp.seq (λ_=>True) ?_ λy _=>?_
 .unfold M.jL
  refine Wp.seq (λ_=>True) (Wp.seq _ (uc ..) λy _=>?_) λj _=> .some trivial
  simp only[bp];exact .some trivial
 .refine Wp.ite (λ_=> .some λ_=>⟨by simp only;omega,by simp only;omega⟩) λ_=> .some ?_
  rw[aP (by omega)];exact⟨⟨i+1,rfl,kW⟩,by simp only;omega⟩
def IZ(t:bn.den)(a b:Int)(hl:t.2.2.2.length<=9223372036854775807):Wp (M.lV aU t a b) λr=>r.2=af->0<=r.1/\r.1<t.2.2.2.length:=by
 unfold M.lV
 exact Wp.seq _ (L7 _ a b hl) λr hr=> .some hr
def qn(N:Nat)(d:Int):M.jM N d=aa (decide (0<=d)&&decide (d<=109572)):=by
 unfold M.jM;simp only[bp,agv,mW]
def kQ(N:Nat)(y m:Int):Wp (M.dF N y m) λr=>0<=r/\r<=31:=by
 unfold M.dF M.pg;simp only[bp,agv,rp,mW]
 refine Wp.ite (λ_=> .some (by omega)) λhc=>?_
 refine Wp.ite (λ_=> .some (by omega)) λ_=>?_
 have hm:1<=m/\m<=12:=by simp at hc;omega
 rw[bL (by omega) (by omega)]
 have:m=1\/m=2\/m=3\/m=4\/m=5\/m=6\/m=7\/m=8\/m=9\/m=10\/m=11\/m=12:=by omega
 rcases this with rfl|rfl|rfl|rfl|rfl|rfl|rfl|rfl|rfl|rfl|rfl|rfl<;>exact⟨_,rfl,by decide⟩
def oD(N:Nat)(y:Int):Wp (M.eV N y) λ_=>True:=by
 unfold M.eV M.km;simp only[agv];exact .some trivial
def sr(d:Int):Wp (M.jN aU d) λ_=>True:=by
 unfold M.jN;rw[qn];simp only[agv]
 refine Wp.ite (λ_=> .some trivial) λhv=>?_
 have hd:0<=d/\d<=109572:=by simpa using hv
 have h0:agN d 366=d/366:=Int.tdiv_eq_ediv_of_nonneg hd.1;have hw:agw.wrap (d/366)=d/366:=bL (by omega) (by omega);have ZH:agw.wrap (1900+d/366)=1900+d/366:=bL (by omega) (by omega);rw[h0,hw,ZH]
 refine Wp.seq (λ_=>True) (Wp.loop (λy:Int=>1900<=y/\y<=2199) (λy=>(2199-y).toNat) (by omega) (by unfold aU;omega) ?_) λy _=>?_
 .rintro y ⟨h1,h2⟩
  by_cases hy:y=2199
  .subst hy
   have e:M.eV aU (agw.wrap ((2199:Int)+1))=aa 109573:=by show(_:Option Int)=_;kernel_rfl
   rw[e];simp only[agv];rw[ai (by simp;omega)];exact .some trivial
  .refine Wp.seq _ (oD ..) λz _=>?_
   refine Wp.dec (λ_=> .some ?_) λ_=> .some trivial
   rw[bL (by omega) (by omega)];exact⟨by omega,by simp only;omega⟩
 .refine Wp.seq _ (oD ..) λz _=>?_
  refine Wp.loop (λs:Int×Int=>∃i:Nat,s.2=i/\i<=12) (λs=>(12-s.2).toNat) ⟨0,rfl,by omega⟩ (by simp only;unfold aU;omega) ?_
  rintro⟨a,b⟩ ⟨i,hi,qE⟩
  simp only at hi;subst hi
  refine Wp.dec (λh=>?_) λ_=> .some trivial
  refine Wp.seq _ (kQ ..) λw _=>?_
  refine Wp.dec (λ_=> .some trivial) λ_=> .some ?_
  simp only at h⊢;rw[aP (by omega)];exact⟨⟨i+1,rfl,by omega⟩,by simp only;omega⟩
def Fi(y m d:Int):Wp (M.lY aU y m d) λr=>Cd r.2:=by
 unfold M.lY
 refine Wp.seq (λj=>j=ag->1<=m/\m<=12) ?_ λj hj=>?_
 .refine Wp.dec (λ_=> .some (λh=>by cases h)) λ_=>Wp.dec (λ_=> .some (λh=>by cases h)) λ_=>Wp.dec (λ_=> .some (λh=>by cases h)) λh1=>Wp.dec (λ_=> .some (λh=>by cases h)) λh2=>Wp.dec (λ_=> .some (λh=>by cases h)) λ_=>?_
  exact Wp.seq _ (kQ ..) λw _=> .some λ_=>⟨by omega,by omega⟩
 .refine Wp.ite (λ_=> .some (by simp[Cd])) λhc=>?_
  have hm:=hj (by simpa using hc)
  refine Wp.seq _ (oD ..) λz _=>?_
  refine Wp.seq (λ_=>True) (Wp.loop (λs:Int×Int=>∃i:Nat,s.2=i/\i<=12) (λs=>(13-s.2).toNat) ⟨0,rfl,by omega⟩ (by simp only;unfold aU;omega) ?_) λw _=> .some (by simp[Cd])
  rintro⟨a,b⟩ ⟨i,hi,qE⟩
  simp only at hi;subst hi
  refine Wp.dec (λh=>?_) λ_=> .some trivial
  refine Wp.seq _ (kQ ..) λw _=> .some ?_
  simp only at h⊢;rw[bL (n:=m-1) (by omega) (by omega)]at h;rw[aP (by omega)];exact⟨⟨i+1,rfl,by omega⟩,by simp only;omega⟩
def su(d n:Int):Wp (M.iG aU d n) λr=>Cd r.2:=by
 unfold M.iG;rw[qn];simp only[bp,agv,rp]
 refine Wp.ite (λ_=> .some (by simp[Cd])) λhc=>?_
 refine Wp.seq _ (sr ..) λy _=>?_
 refine Wp.ite (λ_=> .some (by simp[Cd])) λ_=>?_
 refine Wp.seq _ (kQ ..) λw _=>?_
 exact Wp.seq _ (Fi ..) λr hr=> .some hr
def uG(a b:Int):Wp (M.gV aU a b) λ_=>True:=by
 unfold M.gV;rw[qn,qn];simp only[bp,agv,rp]
 refine Wp.ite (λ_=> .some trivial) λ_=>?_
 refine Wp.seq _ (sr ..) λy _=>Wp.seq _ (sr ..) λz _=>?_
 refine Wp.seq (λ_=>True) (Wp.seq _ (su ..) λr _=>?_) λj _=> .some trivial
 exact .some trivial
end L.P
end Go.Proofs.YtfeahmiobbjklaaGreatDoor
