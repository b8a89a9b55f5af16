/- Joined texts: RU RV RW TA TB TC TD TE TF. -/
import Derived.Test.YtbladfbbhijpmaaGreatU9
open _root_.Bool renaming false->acR,true->acQ,false_eq_true->aa4,and_eq_true->abR
open _root_.Option renaming none->acP,bind_some->aaU,none_or->abT
open _root_.Classical renaming not_not->ack,propDecidable->abF
open _root_.Go.Lib renaming indexByte->acf,compact->ab1
open _root_.Go.IntKind renaming i64->aaV,u64->aa0
open _root_.List renaming getElem?_eq_getElem->aaW,getElem_mem->aaZ,getElem_of_mem->abD,length_take->abb,mem_cons->aa7,take_append_getElem->abq,drop_eq_getElem_cons->abv,drop_of_length_le->ab2,length_append->aba,length_cons->aa6,length_map->ab0,length_nil->abS,map_append->ab6,mem_append->aa9,mem_singleton->aa5,replicate->abn,take_length->abg,foldl_cons->abN,getElem?_eq_some_iff->abj,pairwise_cons->abr,filter_eq_self->acy,mem_cons_of_mem->abz,mem_cons_self->abW,mem_filter->abw,mem_range->abo,range->aa2,cons_append->acA
open _root_.Nat renaming le_of_lt->acE,le_trans->abi,le_refl->aaX,lt_succ_iff_lt_or_eq->abd,eq_of_testBit_eq->acg,lt_of_lt_of_le->abt,testBit_or->acr,add_mul->abG,add_zero->ab3,mul_le_mul_right->abf
open _root_.Int renaming eq_ofNat_of_zero_le->aa8,tdiv->ab7,tmod->acu,toNat_natCast->aa3
open _root_.Option.some renaming inj->aaT
open _root_.BitVec renaming ofInt->abZ
open _root_.Go.Proofs renaming ltOf->abJ
namespace Go.Proofs.YtbladfbbhijpmaaGreat
open Go Go.RowKit
set_option maxRecDepth 100000
set_option linter.unusedSimpArgs false
set_option linter.unusedVariables false
set_option linter.defProp false
namespace L
noncomputable def rW:List ByteArray:=(M.eD aW).getD []
theorem Kr:M.eD aW=some rW:=by kernel_rfl
theorem Ic:rW.length<=100:=by unfold rW;decide+kernel
def Wd(c:Int):Prop:=(97<=c/\c<=122)\/(48<=c/\c<=57)\/c=95
def UM(s:ByteArray):Prop:=s.size<=16/\(∃h:0<s.size,97<=s[0].toNat/\s[0].toNat<=122)/\(∀k,∀h:k<s.size,Wd (s[k].toNat:Int))/\s∉rW
theorem Ie(s:ByteArray):fQ s=acQ↔UM s:=by
 have key:Wp (M.bg aW s) λr=>r=acQ↔UM s:=by
  have hl:=Ic;unfold M.bg;simp only[tN,C2,Kr,W_,acY,acZ,reduceCtorEq];refine⟨λh=>?_,λh0=>⟨λh=>?_,λQB=>?_⟩⟩
  .exact ac2 id λg=>by obtain⟨_,⟨g,_⟩,_⟩:=g;omega
  .exact ac2 id λg=>by have:=g.1;omega
  refine lk.2 ⟨by omega,?_⟩;have e0:((0:Int).toNat)=0:=rfl;simp only[e0];refine⟨λh=>ac2 id λg=>?_,λMK=>?_⟩
  .obtain⟨_,⟨_,g⟩,_⟩:=g;exact h (by omega)
  refine Wp.count (λs=>s) s.size (λk _=>∀j,j<k->∀h:j<s.size,Wd (s[j].toNat:Int)) (by omega) rfl (λj hj=>by omega) λk c hk hs hJ=>?_
  obtain rfl:c=_:=hs;simp only[W_,acY,acZ,reduceCtorEq,av,ao];refine⟨λag=>lk.2 ⟨by omega,?_⟩,λhge=>?_⟩
  .have ag:k<s.size:=by omega
   have ek:((k:Int).toNat)=k:=by omega
   simp only[ek];exact⟨λh=>ac2 id λg=>h (g.2.2.1 k ag),λh=>⟨ag,aQ (by omega),aH hJ λ_=>h⟩⟩
  refine Wp.count (λs=>s) rW.length (λk _=>∀j,j<k->∀h:j<rW.length,rW[j]≠s) (by omega) rfl (λj hj=>by omega) λi c hi hs hI=>?_
  obtain rfl:c=_:=hs;simp only[W_,acY,acZ,reduceCtorEq,av,ao];refine⟨λag=>?_,λZu=>?_⟩
  .have ag:i<rW.length:=by omega
   simp only[ai ag,bz (m:=rW.length) (by omega) ag,W_,acY,acZ,reduceCtorEq];exact⟨λh=>ac2 id λg=>g.2.2.2 (h▸aaZ ag),λh=>⟨ag,aH hI λ_=>h⟩⟩
  .refine iff_of_true trivial ⟨by omega,⟨by omega,by omega⟩,λj h=>hJ j (by omega) h,λhm=>?_⟩;obtain⟨j,hj,e⟩:=abD hm;exact hI j (by omega) hj e
 obtain⟨r,hr,h⟩:=key;unfold fQ;rw[hr];exact h
def q8(s:ByteArray):List ByteArray->Option Bool
 |[]=>some acR
 |[w]=>some (decide (s=w))
 |w::l=>if decide (s=w)=acQ then some (decide (s=w))else q8 s l
theorem vP(s:ByteArray):(l:List ByteArray)->q8 s l=some (decide (s∈l))
 |[]=>by simp[q8]
 |[w]=>by simp[q8]
 |w::w'::l=>by
  unfold q8;rw[vP s (w'::l)];by_cases h:s=w
  .rw[acU (acW h)];simp[h]
  .rw[acT (by simpa using h)];simp[h]
theorem zI(s:ByteArray):M.iy aW s=some (decide (s∈rW)):=by
 have:M.iy aW s=(q8 s rW).bind λj=>if j=acQ then some acQ else some acR:=by kernel_rfl
 rw[this,vP,aaU];by_cases h:s∈rW
 .rw[acU (acW h),acW h]
 .rw[acT (by simpa using h),acX h]
theorem vQ(c:Int):M.gI aW c=some (decide (97<=c/\c<=122)):=by
 apply Wp.eq;unfold M.gI;simp only[W_,acY,acZ,reduceCtorEq];omega
theorem E7(c:Int):M.jv aW c=some (decide (48<=c/\c<=57)):=by
 apply Wp.eq;unfold M.jv;simp only[W_,acY,acZ,reduceCtorEq];omega
theorem uL(s:ByteArray)(hs:s.size<=maxLen):Wp (M.fX aW s) λn=>n=(s.size:Int)↔∀k,∀h:k<s.size,Wd (s[k].toNat:Int):=by
 unfold M.fX;simp only[vQ,E7]
 refine Wp.count (λs=>s) s.size (λk _=>∀j,j<k->∀h:j<s.size,Wd (s[j].toNat:Int)) hs rfl (λj hj=>by omega) λk c hk o7 hJ=>?_
 obtain rfl:c=_:=o7
 rcases Nat.lt_or_ge k s.size with ag|hge
 .have hb:iZ s (k:Int)=some (s[k].toNat:Int):=by
   have:=(HO (x:=((s[k].toNat:Nat):Int))).1 (lk (s:=s) (i:=(k:Int)).2 ⟨by omega,by simp⟩);exact this
  simp only[nw ag,hb,bz hs ag,W_,acY,acZ,reduceCtorEq,av,ao];unfold Wd at*
  have ok:(97<=(s[k].toNat:Int)/\(s[k].toNat:Int)<=122)\/(48<=(s[k].toNat:Int)/\(s[k].toNat:Int)<=57)\/(s[k].toNat:Int)=95->k<s.size/\∀j,j<k+1->∀h:j<s.size,(97<=(s[j].toNat:Int)/\(s[j].toNat:Int)<=122)\/(48<=(s[j].toNat:Int)/\(s[j].toNat:Int)<=57)\/(s[j].toNat:Int)=95:=λh=>⟨ag,aH hJ λ_=>h⟩
  refine⟨λh=>ok (.inl h),λh1=>⟨λh=>ok (.inr (.inl h)),λh2=>⟨λh=>ok (.inr (.inr h)),λh3=>⟨λe=>by omega,λg=>?_⟩⟩⟩⟩
  rcases g k ag with h|h|h
  .exact absurd h h1
  .exact absurd h h2
  .exact absurd h h3
 .obtain rfl:k=s.size:=by omega
  simp only[cU,W_,acY,acZ,reduceCtorEq,ao]
  exact iff_of_true trivial λj h=>hJ j h h
theorem q9(s:ByteArray)(hs:s.size<=maxLen):M.bB aW s=some (fQ s):=by
 have key:Wp (M.bB aW s) λr=>r=acQ↔UM s:=by
  unfold M.bB;simp only[vQ,zI,W_,acY,acZ,reduceCtorEq];refine⟨λh=>?_,λh=>?_⟩
  .have h0:0<s.size:=by
    rcases Nat.eq_zero_or_pos s.size with e|e
    .exact absurd (ByteArray.ext (by simpa using Array.size_eq_zero_iff.1 e)) h
    .exact e
   refine lk.2 ⟨by omega,?_⟩;have e0:((0:Int).toNat)=0:=rfl;simp only[e0];refine⟨λMK=>(uL s hs).mono λn hn=>⟨λe=>⟨λQB=>?_,λQB=>ac2 id λg=>QB (by have:=g.1;omega)⟩,λe=>ac2 id λg=>e (hn.2 g.2.2.1)⟩,λMK=>ac2 id λg=>?_⟩
   .exact⟨λg=>⟨by omega,⟨h0,by omega⟩,hn.1 e,g⟩,λg=>g.2.2.2⟩
   .obtain⟨_,⟨_,g⟩,_⟩:=g;exact MK (by omega)
  .refine ac2 id λg=>?_
   obtain⟨_,⟨g,_⟩,_⟩:=g;subst h;cases g
 obtain⟨r,hr,h⟩:=key;rw[hr];exact ac0 some (Bool.eq_iff_iff.2 (h.trans (Ie s).symm))
theorem nH{β:Type}{l:List (ByteArray×β)}{nm:ByteArray}:0<=mE (λx=>decide (x.1=nm)) l↔cJ l nm:=by
 rw[ik];unfold cJ;simp
theorem pd(l:List En)(nm:ByteArray)(hl:l.length<=maxLen):M.fK aW l nm=some (decide (cJ l nm)):=by
 have:M.aX aW l nm=some (mE (λx=>decide (x.1=nm)) l,nm):=by
  unfold M.aX M.iz;exact tU hl (λk h=>by simp only[ai h,fA h,aaU,if_true]) (by simp only[cU,decide_false,aa4,if_false])
 unfold M.fK M.bl;simp only[this,aaU];exact ac0 some (decide_eq_decide.2 nH)
theorem rF(l:List HP)(nm:ByteArray)(hl:l.length<=maxLen):M.fZ aW l nm=some (decide (cJ l nm)):=by
 have:M.aS aW l nm=some (mE (λx=>decide (x.1=nm)) l,nm):=by
  unfold M.aS M.gZ;exact tU hl (λk h=>by simp only[ai h,fA h,aaU,if_true]) (by simp only[cU,decide_false,aa4,if_false])
 unfold M.fZ M.bf;simp only[this,aaU];exact ac0 some (decide_eq_decide.2 nH)
theorem p5(l:List Fd)(f:Fd)(hl:l.length<=maxLen):M.aD aW l f=some (decide (cJ l f.1),f):=by
 have:M.aT aW l f=some (mE (λx=>decide (x.1=f.1)) l,f):=by
  unfold M.aT M.fM;exact tU hl (λk h=>by simp only[ai h,fA h,aaU,if_true]) (by simp only[cU,decide_false,aa4,if_false])
 unfold M.aD;simp only[this,aaU];exact ac0 (λb=>some (b,f)) (decide_eq_decide.2 nH)
theorem zJ(l:List iv)(f:iv)(hl:l.length<=maxLen):M.aR aW l f=some (decide (cJ l f.1),f):=by
 have:M.aY aW l f=some (mE (λx=>decide (x.1=f.1)) l,f):=by
  unfold M.aY M.gD;exact tU hl (λk h=>by simp only[ai h,fA h,aaU,if_true]) (by simp only[cU,decide_false,aa4,if_false])
 unfold M.aR;simp only[this,aaU];exact ac0 (λb=>some (b,f)) (decide_eq_decide.2 nH)
theorem xi(l:List jZ)(f:jZ)(hl:l.length<=maxLen):M.aE aW l f=some (decide (cJ l f.1),f):=by
 have:M.aU aW l f=some (mE (λx=>decide (x.1=f.1)) l,f):=by
  unfold M.aU M.fP;exact tU hl (λk h=>by simp only[ai h,fA h,aaU,if_true]) (by simp only[cU,decide_false,aa4,if_false])
 unfold M.aE;simp only[this,aaU];exact ac0 (λb=>some (b,f)) (decide_eq_decide.2 nH)
theorem BM(l:List ByteArray)(m:ByteArray)(hl:l.length<=maxLen):M.cx aW l m=some (decide (m∈l)):=by
 have:M.cN aW l m=some (mE (λx=>decide (m=x)) l):=by
  unfold M.cN;exact p4 hl (λk h=>by simp only[ai h,fA h,aaU,if_true]) (by simp only[cU,decide_false,aa4,if_false])
 unfold M.cx;simp only[this,aaU];refine ac0 some (decide_eq_decide.2 ?_);rw[ik];simp
theorem BN(l:List Int)(m:Int)(hl:l.length<=maxLen):M.dg aW l m=some (decide (m∈l)):=by
 have:M.dQ aW l m=some (mE (λx=>decide (m=x)) l):=by
  unfold M.dQ;exact p4 hl (λk h=>by simp only[ai h,fA h,aaU,if_true]) (by simp only[cU,decide_false,aa4,if_false])
 unfold M.dg;simp only[this,aaU];refine ac0 some (decide_eq_decide.2 ?_);rw[ik];simp
theorem jP{α:Type}{l:List α}{k:Nat}(h:k<=l.length):dX l (0:Int) (k:Int)=some (l.take k):=by
 apply Wp.eq;exact wp_cut.2 ⟨by omega,by simp⟩
theorem xj(l:Lw)(hw:WF cC l)(k:Nat)(hk:k<l.1.length):M.jw aW l (k:Int) l.1[k]=some ((kS l k).getD (0,0)):=by
 have hx:WF bR l.1[k]:=hw.1.2 _ (aaZ hk);have w1:=hw.1.1;have hs:l.1[k].1.size<=maxLen:=hx.1;have hm:∀m∈l.1[k].2,ByteArray.size m<=maxLen:=hx.2.2;apply Wp.eq;unfold M.jw kS;rw[aaW hk];simp only[q9 _ hs,jP (acE hk),pd (l.1.take k) _ (by rw[abb];omega),W_,acY,acZ,reduceCtorEq];generalize l.1[k]=x at*;refine⟨λh=>by rw[acU h];rfl,λh=>?_⟩;rw[acT (by simp[h])];refine⟨λh=>by rw[acU h];rfl,λh2=>?_⟩;rw[acT h2];refine⟨λh=>by rw[acU (by omega)];rfl,λh3=>?_⟩;rw[acT (by omega)];refine⟨λh=>by rw[acU (by omega)];rfl,λh4=>?_⟩;rw[acT (by omega)]
 refine Wp.count (λs=>s) x.2.length (λi _=>∀j,j<i->xh x.2 j=acP) (by omega) rfl (λj hj=>by omega) λi c hi hs hJ=>?_
 obtain rfl:c=_:=hs;simp only[W_,acY,acZ,reduceCtorEq,av,ao];refine⟨λag=>?_,λhge=>?_⟩
 .have ag:i<x.2.length:=by omega
  have hf:xh x.2 i=if fQ x.2[i]=acR then some (2,100+(i:Int))else if x.2[i]∈x.2.take i then some (7,100+(i:Int))else acP:=by
   unfold xh;rw[aaW ag]
  simp only[ai ag,q9 _ (hm _ (aaZ ag)),jP (acE ag),BM (x.2.take i) _ (by rw[abb];unfold maxLen;omega),jD (k:=i) (a:=100) (by omega) (by omega),bz (m:=x.2.length) (by omega) ag,W_,acY,acZ,reduceCtorEq];refine⟨λh=>?_,λh=>⟨λh2=>?_,λh2=>⟨ag,aH hJ ?_⟩⟩⟩
  .rw[bE (hf.trans (acU h)) hJ ag];rfl
  .rw[bE (hf.trans ((acT (by simp[h])).trans (acU h2))) hJ ag];rfl
  .rw[hf,acT (by simp[h]),acT h2]
 .rw[aP.2 λj hj=>hJ j (by omega)];rfl
theorem uM(l:Lw)(hw:WF cC l):M.iA aW l=some (if 8<l.1.length then((4:Int),((1:Int),((8:Int),(0:Int))))else match bI (λk=>(kS l k).map λe=>(k,e)) l.1.length with
 |some (k,e)=>jb 1 (k:Int) (some e)
 |none=>BK):=by
 have w1:=hw.1.1;unfold maxLen at w1;apply Wp.eq;unfold M.iA;simp only[W_,acY,acZ,reduceCtorEq];refine⟨λh=>by rw[acU (by omega)],λh8=>?_⟩;rw[acT (by omega)]
 refine Wp.count (λs=>s) l.1.length (λi _=>∀j,j<i->(λk=>(kS l k).map λe=>(k,e)) j=acP) w1 rfl (λj hj=>by omega) λi c hi hs hJ=>?_
 obtain rfl:c=_:=hs;simp only[W_,acY,acZ,reduceCtorEq,av,ao];refine⟨λag=>?_,λhge=>?_⟩
 .have ag:i<l.1.length:=by omega
  simp only[ai ag,xj l hw i ag,bz w1 ag,W_,acY,acZ,reduceCtorEq];refine⟨λh=>?_,λh=>⟨ag,aH hJ ?_⟩⟩
  .cases he:kS l i with
   |none=>rw[he]at h;exact absurd rfl h
   |some e=>rw[bE (E6 he) hJ ag];rfl
  .cases he:kS l i with
   |none=>rfl
   |some e=>rw[he]at h;exact absurd h (om he)
 .rw[aP.2 λj hj=>hJ j (by omega)];rfl
theorem mF(t:Ty)(E:List En):M.b7 aW t E=some (decide (kP t E.length)):=by
 obtain⟨(k:Int),(e:Int)⟩:=t;apply Wp.eq;unfold M.b7;simp only[W_,acY,acZ,reduceCtorEq];simp only[kP];dsimp only[ae,Row.den]at*;omega
theorem Dd(t:Ty)(E:List En):M.fY aW t E=some (EH t E):=by
 obtain⟨(k:Int),(e:Int)⟩:=t;apply Wp.eq;unfold M.fY EH;simp only[mF,W_,acY,acZ,reduceCtorEq];by_cases hv:kP (k,e) E.length
 .simp only[hv,not_true_eq_false,if_false,false_implies,true_implies,true_and];refine⟨λh=>by rw[acU h],λh1=>⟨λh=>by rw[acT h1,acU h],λh2=>⟨λh=>by rw[acT h1,acT h2,acU h],λh3=>⟨λh=>by rw[acT h1,acT h2,acT h3,acU h],λh4=>⟨λh=>by rw[acT h1,acT h2,acT h3,acT h4,acU h],λh5=>?_⟩⟩⟩⟩⟩;simp only[kP]at hv;dsimp only[ae,Row.den]at*
  have hi:e.toNat<E.length:=by omega
  refine cT.2 ⟨by omega,?_⟩;rw[acT h1,acT h2,acT h3,acT h4,acT h5,aaW hi];rfl
 .simp only[hv,not_false_eq_true,if_true,true_implies,false_implies,and_true]
theorem BO(r:Ty):M.dL aW r=some (decide (VR r)):=by
 obtain⟨(k:Int),(e:Int)⟩:=r;apply Wp.eq;unfold M.dL;simp only[W_,acY,acZ,reduceCtorEq];simp only[VR];dsimp only[ae,Row.den]at*;omega
theorem E8(a b:Rw):M.iB aW a b=some (decide (mM a b)):=by
 obtain⟨⟨(a1:Int),(a2:Int)⟩,(a3:Int),(a4:Int),(a5:Int)⟩:=a;obtain⟨⟨(b1:Int),(b2:Int)⟩,(b3:Int),(b4:Int),(b5:Int)⟩:=b;apply Wp.eq;unfold M.iB M.gB M.fu;simp only[BO,W_,acY,acZ,reduceCtorEq];simp only[mM];dsimp only[ae,Row.den]at*
 by_cases h1:VR (a1,a2)<;>by_cases h2:VR (b1,b2)<;>simp only[h1,h2,W_,acY,acZ,reduceCtorEq]<;>omega
theorem If(l:List Rw)(x:Rw)(hl:l.length<=maxLen):Wp (M.bw aW l x) λr=>r.2.1=acQ↔∃y∈l,mM y x:=by
 unfold M.bw M.fL
 refine Wp.count (λs=>s.1) l.length (λk s=>s.2=x/\∀j,j<k->∀h:j<l.length,¬mM l[j] x) hl rfl ⟨rfl,λj hj=>by omega⟩ λk c hk hs hJ=>?_
 obtain⟨c1,c2⟩:=c;obtain⟨h1,hJ⟩:=hJ;obtain rfl:c2=x:=h1;obtain rfl:c1=_:=hs;simp only[E8,W_,acY,acZ,reduceCtorEq,av,ao];refine⟨λag=>?_,λhge=>?_⟩
 .have ag:k<l.length:=by omega
  simp only[ai ag,bz hl ag,W_,acY,acZ,reduceCtorEq];exact⟨λh=>iff_of_true trivial ⟨_,aaZ ag,h⟩,λh=>⟨ag,aH hJ λ_=>h⟩⟩
 .refine ac2 id ?_
  rintro⟨y,hy,h⟩
  obtain⟨j,hj,rfl⟩:=abD hy;exact hJ j (by omega) hj h
theorem Ks(t:HP)(E:List En):M.iC aW t E=some (kc t E):=by
 apply Wp.eq;unfold M.iC kc;simp only[mF,Dd,BO,W_,acY,acZ,reduceCtorEq];refine⟨λh=>by rw[acU (by omega)],λVV=>?_⟩;rw[acT (c:=64<t.2.2.2.length) (by omega)];refine⟨λh1=>by rw[acU (λg=>h1 g.1)],λh1=>⟨λh2=>by rw[acU (λg=>h2 g.2)],λh2=>?_⟩⟩;rw[acT (λg=>g ⟨h1,h2⟩)]
 refine Wp.count (λs=>s) t.2.2.2.length (λk _=>∀j,j<k->o6 t E j=acP) (by omega) rfl (λj hj=>by omega) λk s hk hs hJ=>?_
 obtain rfl:s=_:=hs;simp only[W_,acY,acZ,reduceCtorEq,av,ao];refine⟨λag=>?_,λhge=>?_⟩
 .have ag:k<t.2.2.2.length:=by omega
  have hf:o6 t E k=if oI t.2.2.2[k] t E then some ((k:Int),3)else if∃y∈t.2.2.2.take k,mM y t.2.2.2[k]then some ((k:Int),11)else acP:=by
   unfold o6;rw[aaW ag]
  have bad:oI t.2.2.2[k] t E->((k:Int),(3:Int))=(bI (o6 t E) t.2.2.2.length).getD (0,0):=λhw=>by
   rw[bE (hf.trans (acU hw)) hJ ag];rfl
  have good:¬oI t.2.2.2[k] t E->Wp (M.bw aW (t.2.2.2.take k) t.2.2.2[k]) λy=>(y.2.1=acQ->((k:Int),(11:Int))=(bI (o6 t E) t.2.2.2.length).getD (0,0))/\(y.2.1=acR->k<t.2.2.2.length/\∀j,j<k+1->o6 t E j=acP):=λhw=>by
   rw[acT hw]at hf
   refine(If _ _ (by rw[abb];unfold maxLen;omega)).mono λy hy=>⟨λh=>?_,λh=>⟨ag,aH hJ ?_⟩⟩
   .rw[bE (hf.trans (acU (hy.1 h))) hJ ag];rfl
   .rw[hf,acT λg=>by rw[hy.2 g]at h;cases h]
  simp only[ai ag,jP (acE ag),bz (m:=t.2.2.2.length) (by omega) ag,W_,acY,acZ,reduceCtorEq];unfold oI at bad good;unfold xL at bad good;generalize M.bw aW (t.2.2.2.take k) t.2.2.2[k]=fm at*;generalize t.2.2.2[k]=x at*;obtain⟨⟨(x1:Int),(x2:Int)⟩,(x3:Int),(x4:Int),(x5:Int)⟩:=x;dsimp only[ae,Row.den]at*;clear hf hJ;generalize EH t.2.1 E=p at*;generalize EH t.2.2.1 E=q at*;obtain⟨(p1:Int),(p2:Int)⟩:=p;obtain⟨(q1:Int),(q2:Int)⟩:=q;dsimp only at*
  refine⟨λh=>bad (.inl h),λh1=>⟨λh=>bad (by omega),λh2=>⟨λh=>bad (by omega),λh3=>⟨λh=>bad (by omega),λh4=>⟨λh=>bad (by omega),λh5=>⟨λh=>bad (by omega),λh6=>⟨λh=>bad (by omega),λh7=>⟨λh=>bad (by omega),λh8=>⟨λh=>bad (by omega),λh9=>good λhw=>by
   rcases hw with g|g
   .exact g h1
   .omega⟩⟩⟩⟩⟩⟩⟩⟩⟩
 .rw[aP.2 λj hj=>hJ j (by omega)];rfl
theorem Ig{t:HP}{E:List En}:(kc t E).2≠0->((kc t E).1= -1\/(0<=(kc t E).1/\(kc t E).1<=64)):=by
 unfold kc;intro h;split
 .exact .inr (by simp)
 split
 .exact .inl rfl
 rename_i h1 h2
 cases hf:bI (o6 t E) t.2.2.2.length with
 |none=>rw[acT h1,acT h2,hf]at h;exact absurd rfl h
 |some e=>
  obtain⟨k,hk,he,_⟩:=dU hf;unfold o6 at he;split at he
  .cases he
  split at he
  .cases he;exact .inr ⟨by simp,by simp;omega⟩
  split at he
  .cases he;exact .inr ⟨by simp,by simp;omega⟩
  .cases he
theorem tV(l:Lw)(hw:WF cC l):M.gQ aW l=some (if 8<l.2.1.length then((4:Int),((2:Int),((8:Int),(0:Int))))else match bI (λk=>(nD l k).map λe=>(k,e)) l.2.1.length with
 |some (k,e)=>jb 2 (k:Int) (some e)
 |none=>BK):=by
 have w1:=hw.2.1.1;have w0:=hw.1.1;have wt:∀t∈l.2.1,WF bL t:=hw.2.1.2;unfold maxLen at w1;apply Wp.eq;unfold M.gQ;simp only[W_,acY,acZ,reduceCtorEq];refine⟨λh=>by rw[acU (by omega)],λh8=>?_⟩;rw[acT (by omega)]
 refine Wp.count (λs=>s) l.2.1.length (λi _=>∀j,j<i->(λk=>(nD l k).map λe=>(k,e)) j=acP) w1 rfl (λj hj=>by omega) λi c hi hs hJ=>?_
 obtain rfl:c=_:=hs;simp only[W_,acY,acZ,reduceCtorEq,av,ao];refine⟨λag=>?_,λhge=>?_⟩
 .have ag:i<l.2.1.length:=by omega
  have jc:l.2.1[i].1.size<=maxLen:=(wt _ (aaZ ag)).1
  have hE:nD l i=if fQ l.2.1[i].1=acR then some (2,0)else if cJ l.1 l.2.1[i].1\/cJ (l.2.1.take i) l.2.1[i].1 then some (7,0)else if(kc l.2.1[i] l.1).2=0 then acP else some ((kc l.2.1[i] l.1).2,if 0<=(kc l.2.1[i] l.1).1 then 100+(kc l.2.1[i] l.1).1 else 0):=by
   unfold nD;rw[aaW ag]
  simp only[ai ag,Ks,q9 _ jc,jP (acE ag),pd _ _ w0,rF (l.2.1.take i) _ (by rw[abb];unfold maxLen;omega),bz w1 ag,W_,acY,acZ,reduceCtorEq]
  have bad:∀e,nD l i=some e->jb 2 (i:Int) (some e)=(match bI (λk=>(nD l k).map λe=>(k,e)) l.2.1.length with|some (k,e)=>jb 2 (k:Int) (some e)|none=>BK):=λe he=>by
   rw[bE (E6 he) hJ ag]
  have good:nD l i=acP->i<l.2.1.length/\∀j,j<i+1->(λk=>(nD l k).map λe=>(k,e)) j=acP:=λh=>⟨ag,aH hJ (Kp h)⟩
  have Hw:=Ig (t:=l.2.1[i]) (E:=l.1);generalize kc l.2.1[i] l.1=te at*;obtain⟨(r:Int),(c:Int)⟩:=te;dsimp only at*;refine⟨λh=>?_,λh=>⟨λh2=>?_,λh2=>⟨λh3=>?_,λh3=>⟨λh4=>?_,λh4=>?_⟩⟩⟩⟩
  .exact⟨λ_=>bad (2,0) (hE.trans (acU h)),λg=>absurd g (by decide)⟩
  .rw[acT (c:=fQ l.2.1[i].1=acR) (by simp[h]),acU (Or.inl h2)]at hE;exact⟨λ_=>bad (7,0) hE,λg=>absurd g (by decide)⟩
  .rw[acT (c:=fQ l.2.1[i].1=acR) (by simp[h]),acU (Or.inr h3)]at hE;exact⟨λ_=>bad (7,0) hE,λg=>absurd g (by decide)⟩
  .rw[acT (c:=fQ l.2.1[i].1=acR) (by simp[h]),acT (λg=>g.elim h2 h3),acT h4]at hE;have hr:=Hw h4;refine⟨λg=>⟨λ_=>?_,λe=>absurd e h4⟩,λg=>⟨λ_=>?_,λe=>absurd e h4⟩⟩
   .rw[dj (by omega) (by omega)];exact bad (c,100+r) (hE.trans (by rw[acU (by omega)]))
   .exact bad (c,0) (hE.trans (by rw[acT (by omega)]))
  .rw[acT (c:=fQ l.2.1[i].1=acR) (by simp[h]),acT (λg=>g.elim h2 h3),acU h4]at hE;exact good hE
 .rw[aP.2 λj hj=>hJ j (by omega)];rfl
noncomputable def nI(l:Lw)(f:Fd)(a b:List Fd):Int:=if fQ f.1=acR then 2 else if cJ a f.1\/cJ b f.1 then 7 else if¬kP f.2 l.1.length then 8 else 0
theorem oK(l:Lw)(f:Fd)(a b:List Fd)(hf:f.1.size<=maxLen)(ha:a.length<=maxLen)(hb:b.length<=maxLen):M.fN aW l f a b=some (nI l f a b):=by
 apply Wp.eq;unfold M.fN;simp only[q9 _ hf,p5 _ _ ha,p5 _ _ hb,mF,W_,acY,acZ,reduceCtorEq];unfold nI;refine⟨λh=>by rw[acU h],λh=>?_⟩;rw[acT (c:=fQ f.1=acR) (by simp[h])];refine⟨λh1=>by rw[acU (.inl h1)],λh1=>⟨λh2=>by rw[acU (.inr h2)],λh2=>?_⟩⟩;rw[acT (λg=>g.elim h1 h2)];exact⟨λh3=>by rw[acU h3],λh3=>by rw[acT (λg=>g h3)]⟩
theorem xk(l:List UInt8)(c:UInt8):0<=acf l c↔c∈l:=by
 induction l with
 |nil=>simp[acf]
 |cons b l ih=>
  have hg:=Go.Lib.indexByte_ge l c;unfold acf;by_cases h:b=c
  .subst h;simp
  .have h':c≠b:=λe=>h e.symm
   simp only[beq_iff_eq,h,if_false,aa7,h',false_or,<-ih]
   split<;>omega
theorem tW(s:ByteArray)(_:s.size<=maxLen):M.gR aW s=some (decide (plain s)):=by
 have hc:M.strings_Contains aW s (⟨#[34]⟩:ByteArray)=some (decide (0<=acf s.data.toList 34)):=rfl
 have bP:0<=acf s.data.toList 34↔∃i,∃h:i<s.size,(s[i].toNat:Int)=34:=by
  rw[xk];constructor
  .intro h;obtain⟨i,hi,e⟩:=abD h;refine⟨i,by simpa using hi,?_⟩
   have:s[i]'(by simpa using hi)=34:=by
    have e:s.data[i]'(by simpa using hi)=34:=by simpa using e
    exact e
   rw[this];rfl
  .rintro⟨i,hi,e⟩
   have e2:s[i]=34:=by
    apply UInt8.toNat_inj.1
    show s[i].toNat=34
    omega
   have:(34:UInt8)=s.data.toList[i]'(by simpa using hi):=by rw[<-e2];simp;rfl
   rw[this];exact aaZ _
 apply Wp.eq;unfold M.gR;simp only[hc,W_,acY,acZ,reduceCtorEq];refine⟨λh=>?_,λVV=>⟨λh=>?_,λMG=>?_⟩⟩
 .exact λ(g:plain s)=>by have:=g.2;omega
 .obtain⟨i,hi,e⟩:=bP.1 h
  exact λ(g:plain s)=>(g.1 i hi).2.2 e
 refine Wp.count (λs=>s) s.size (λi _=>∀j,j<i->∀h:j<s.size,32<=(s[j].toNat:Int)/\(s[j].toNat:Int)<=126) (by omega) rfl (λj hj=>by omega) λi c hi hs hJ=>?_
 obtain rfl:c=_:=hs
 rcases Nat.lt_or_ge i s.size with ag|hge
 .have hb:iZ s (i:Int)=some (s[i].toNat:Int):=by
   have:=(HO (x:=((s[i].toNat:Nat):Int))).1 (lk (s:=s) (i:=(i:Int)).2 ⟨by omega,by simp⟩);exact this
  simp only[nw ag,hb,bz (m:=s.size) (by omega) ag,W_,acY,acZ,reduceCtorEq,av,ao];refine⟨λh=>?_,λh=>⟨λh2=>?_,λh2=>⟨ag,aH hJ λ_=>by omega⟩⟩⟩
  .exact λ(g:plain s)=>by have:=g.1 i ag;omega
  .exact λ(g:plain s)=>by have:=g.1 i ag;omega
 .obtain rfl:i=s.size:=by omega
  simp only[cU,W_,acY,acZ,reduceCtorEq,ao];refine(⟨λi hi=>?_,by omega⟩:plain s);have:=hJ i hi hi;exact⟨this.1,this.2,λe=>MG (bP.2 ⟨i,hi,e⟩)⟩
def zK(sg:pu):Prop:=∀e:List Ty,(∀n∈e,WF aa n)->M.k9 aW e sg=some (E2 e sg)
theorem kw{sg:pu}(hT:zK sg){e:List Ty}(want:Ty)(hw:∀n∈e,WF aa n):M.ec aW e sg want=some (nE e sg want):=by
 apply Wp.eq;unfold M.ec;simp only[hT e hw,E1,W_,acY,acZ,reduceCtorEq];unfold nE;refine⟨λh=>by rw[acU h],λh=>?_⟩;rw[acT (λg=>g h)];exact⟨λh=>by rw[acU h],λh=>by rw[acT (λg=>g h)]⟩
theorem xl(l:Lw)(x:jZ)(hw:WF aV x)(mS:nC x)(hT:zK (dD l x))(k:Nat)(hk:k<x.2.2.2.2.length):M.gJ aW x (k:Int) (dD l x)=some (p3 l x k x.2.2.2.2[k]):=by
 have Km:=hw.2.2.2.2.2 _ (aaZ hk);have FJ:=mS.2.2.2.2.2.2 _ (aaZ hk)
 obtain⟨r,hr⟩:∃r,r=x.2.2.2.2[k]:=⟨_,rfl⟩
 have QD:=mS.2.2.2.1
 have Kt:Wp (Loop (S:=Int×Int) (X:=Int) (λs4=>
  (if(decide (s4.2<((x.2.2.2.2.take k).length:Int)))=acQ then
  ((idx (x.2.2.2.2.take k) s4.2).bind λx6=>
  (if(decide ((x6.2.1:Int)=r.2.1))=acQ then
  some (aaV.wrap (s4.1+(1:Int)))
  else
  some s4.1):Option (Int)).bind λj5=>
  some (Sum.inl (j5,aaV.wrap (s4.2+(1:Int))))
  else
  some (Sum.inr s4.1))) aW ((0:Int),(0:Int))) λn=>n=(uK x k r.2.1:Int):=by
  have JA:(x.2.2.2.2.take k).length=k:=by rw[abb];omega
  refine Wp.count (λs=>s.2) k (λj s=>s.1=(((x.2.2.2.2.take j).countP λr'=>decide ((r'.2.1:Int)=r.2.1):Nat):Int)) (by omega) rfl rfl λj s hj hs Jc=>?_
  obtain⟨sb,c⟩:=s;dsimp only at hs Jc;subst hs;rw[JA];have Bx:(x.2.2.2.2.take j).countP (λr'=>decide ((r'.2.1:Int)=r.2.1))<=60:=abi List.countP_le_length (by rw[abb];omega);simp only[W_,acY,acZ,reduceCtorEq,av,ao];refine⟨λNv=>?_,λNv=>?_⟩
  .have qD:j<x.2.2.2.2.length:=by omega
   have E9:j<(x.2.2.2.2.take k).length:=by omega
   simp only[ai E9,List.getElem_take,bz (m:=k) (by omega) (show j<k by omega),W_,acY,acZ,reduceCtorEq]
   have Kn:(x.2.2.2.2.take (j+1)).countP (λr'=>decide ((r'.2.1:Int)=r.2.1))=(x.2.2.2.2.take j).countP (λr'=>decide ((r'.2.1:Int)=r.2.1))+if(x.2.2.2.2[j].2.1:Int)=r.2.1 then 1 else 0:=by
    rw[<-abq qD,List.countP_append];simp[List.countP_cons]
   refine⟨λh'=>⟨by omega,?_⟩,λh'=>⟨by omega,?_⟩⟩
   .rw[Kn,acU h',Jc,dj (by omega) (by omega)];rfl
   .rw[Kn,acT h',Jc];rfl
  .obtain rfl:j=k:=by omega
   exact Jc
 apply Wp.eq;unfold M.gJ;rw[<-hr];have jc:r.1.size<=maxLen:=(hr▸Km).1
 have UN:r.2.2.2.2.2.2.2.size<=maxLen:=by
  have:=(hr▸FJ).2.1;unfold maxLen;omega
 have Bx:uK x k r.2.1<=60:=abi List.countP_le_length (by rw[abb];omega);have hg:∀n∈r.2.2.2.2.2.1,WF aa n:=(hr▸Km).2.2.2.2.2.1.2;have hv:∀n∈r.2.2.2.2.2.2.1,WF aa n:=(hr▸Km).2.2.2.2.2.2.1.2;have E5:nF x k r↔(r.2.2.1:Int)≠-1/\((r.2.2.1:Int)<0\/(k:Int)<=r.2.2.1\/∃y,x.2.2.2.2[(r.2.2.1:Int).toNat]? =some y/\(y.2.1:Int)≠r.2.1):=Iff.rfl;simp only[ai hk,<-hr,jP (acE hk),zJ (x.2.2.2.2.take k) _ (by rw[abb];unfold maxLen;omega),q9 _ jc,tW _ UN,W_,acY,acZ,reduceCtorEq];simp only[ac1]at Kt
 refine Kt.mono λn hn=>?_
 subst hn;clear Kt Km FJ hr;unfold p3;refine⟨λh=>by rw[acU h],λh1=>?_⟩;rw[acT (c:=fQ r.1=acR) (by simp[h1])];refine⟨λh=>by rw[acU h],λh2=>?_⟩;rw[acT (c:=cJ (x.2.2.2.2.take k) r.1) h2];generalize uK x k r.2.1=q at*;obtain⟨nm,(d:Int),(p:Int),(pr:Int),v,g,val,src⟩:=r;obtain⟨(v1:Int),(v2:Int)⟩:=v;dsimp only[ae,Row.den]at*;refine⟨λh=>by rw[acU (c:=¬(0<=d/\d<(x.2.2.2.1.length:Int))) (by omega)],λh3=>⟨λh=>by rw[acU (c:=¬(0<=d/\d<(x.2.2.2.1.length:Int))) (by omega)],λh4=>?_⟩⟩;rw[acT (c:=¬(0<=d/\d<(x.2.2.2.1.length:Int))) (by omega)]
 have hd:d.toNat<x.2.2.2.1.length:=by omega
 have QE:¬VR ((v1,v2):Ty)\/v1=v2↔v1<0\/v2<=v1\/109573<v2:=by
  simp only[VR];dsimp only[ae,Row.den];omega
 refine⟨λhp=>⟨λh=>by rw[acU (E5.2 ⟨hp, .inl h⟩)],λh5=>⟨λh=>by rw[acU (E5.2 ⟨hp, .inr (.inl h)⟩)],λh6=>cT.2 ⟨⟨by omega,by omega⟩,λh7=>by rw[acU (E5.2 ⟨hp, .inr (.inr ⟨_,aaW (by omega),h7⟩)⟩)],λh7=>?_⟩⟩⟩,λhp=>?_⟩
 .have KY:¬nF x k (nm,d,p,pr,(v1,v2),g,val,src):=λh=>by
   obtain⟨_,g1|g1|⟨y,g1,g2⟩⟩:=E5.1 h
   .omega
   .omega
   .rw[aaW (by omega)]at g1;cases g1;exact g2 h7
  clear E5;rw[acT KY]
  have last:Wp (idx x.2.2.2.1 d) λUO=>Wp (M.ec aW val (dD l x) UO.2) λUP=>UP=match x.2.2.2.1[d.toNat]? with
   |some d=>nE val (dD l x) d.2
   |none=>0:=by
   refine cT.2 ⟨by omega,?_⟩;rw[kw hT _ hv,aaW hd];exact .some rfl
  by_cases g1:pr<0\/9<pr\/¬VR ((v1,v2):Ty)\/v1=v2
  .rw[acU g1];refine⟨λ_=>rfl,λa1=>⟨λ_=>rfl,λa2=>⟨λ_=>rfl,λa3=>⟨λ_=>rfl,λa4=>⟨λ_=>rfl,λa5=>?_⟩⟩⟩⟩⟩;rw[QE]at g1;omega
  rw[acT g1]
  have NQ:¬(pr<0\/9<pr\/v1<0\/v2<=v1\/109573<v2):=by rw[<-QE];exact g1
  refine⟨λh=>by omega,λa1=>⟨λh=>by omega,λa2=>⟨λh=>by omega,λa3=>⟨λh=>by omega,λa4=>⟨λh=>by omega,λa5=>?_⟩⟩⟩⟩⟩;refine⟨λh=>by rw[acU (by omega)],λh8=>?_⟩;rw[acT (by omega)];refine⟨λh=>by rw[acU h],λh9=>?_⟩;rw[acT (λh=>h h9)];refine⟨λh=>?_,λh=>?_⟩
  .rw[kw hT _ hg];refine .some ⟨λh'=>by rw[acU ⟨by omega,h'⟩],λh'=>?_⟩;rw[acT (λg=>g.2 h')];exact last
  .rw[acT (λg=>h (by omega))];exact last
 .have KY:¬nF x k (nm,d,p,pr,(v1,v2),g,val,src):=λh=>(E5.1 h).1 hp
  clear E5;rw[acT KY]
  have last:Wp (idx x.2.2.2.1 d) λUO=>Wp (M.ec aW val (dD l x) UO.2) λUP=>UP=match x.2.2.2.1[d.toNat]? with
   |some d=>nE val (dD l x) d.2
   |none=>0:=by
   refine cT.2 ⟨by omega,?_⟩;rw[kw hT _ hv,aaW hd];exact .some rfl
  by_cases g1:pr<0\/9<pr\/¬VR ((v1,v2):Ty)\/v1=v2
  .rw[acU g1];refine⟨λ_=>rfl,λa1=>⟨λ_=>rfl,λa2=>⟨λ_=>rfl,λa3=>⟨λ_=>rfl,λa4=>⟨λ_=>rfl,λa5=>?_⟩⟩⟩⟩⟩;rw[QE]at g1;omega
  rw[acT g1]
  have NQ:¬(pr<0\/9<pr\/v1<0\/v2<=v1\/109573<v2):=by rw[<-QE];exact g1
  refine⟨λh=>by omega,λa1=>⟨λh=>by omega,λa2=>⟨λh=>by omega,λa3=>⟨λh=>by omega,λa4=>⟨λh=>by omega,λa5=>?_⟩⟩⟩⟩⟩;refine⟨λh=>by rw[acU (by omega)],λh8=>?_⟩;rw[acT (by omega)];refine⟨λh=>by rw[acU h],λh9=>?_⟩;rw[acT (λh=>h h9)];refine⟨λh=>?_,λh=>?_⟩
  .rw[kw hT _ hg];refine .some ⟨λh'=>by rw[acU ⟨by omega,h'⟩],λh'=>?_⟩;rw[acT (λg=>g.2 h')];exact last
  .rw[acT (λg=>h (by omega))];exact last
def Fa(x:jZ):Prop:=∀d:Nat,d<x.2.2.2.1.length->∃tr,M.fc aW x (d:Int)=some tr/\tr.length<=1000/\((d:Int)∈tr↔(d:Int)∈xg x d)
theorem Fb(l:Lw)(k:Nat)(hk:k<l.2.2.length)(hs:∀s∈l.2.2,s.2.2.1.length<=100000/\s.2.2.2.1.length<=100000):M.gC aW l (k:Int)=some ((dD l l.2.2[k]).1,(dD l l.2.2[k]).2.1,(dD l l.2.2[k]).2.2.2.2.2,(dD l l.2.2[k]).2.2.1,(dD l l.2.2[k]).2.2.2.1,(dD l l.2.2[k]).2.2.2.2.1):=by
 rw[<-C9 l k hk hs];unfold M.dO;rw[acT (by simp),aaU,acT (by simp;omega)];rfl
theorem ML(l:Lw)(x:jZ)(i:Nat)(h:i<x.2.2.1.length):uI l x i=if nI l x.2.2.1[i] (x.2.2.1.take i) []≠0 then some (nI l x.2.2.1[i] (x.2.2.1.take i) [],100+(i:Int))else acP:=by
 have hn:∀nm,¬cJ ([]:List Fd) nm:=λnm ⟨y,hy,_⟩=>by cases hy
 unfold uI nI;rw[aaW h];simp only[hn,or_false];by_cases h1:fQ x.2.2.1[i].1=acR
 .simp[h1]
 by_cases h2:cJ (x.2.2.1.take i) x.2.2.1[i].1
 .simp[h1,h2]
 by_cases h3:kP x.2.2.1[i].2 l.1.length
 .simp[h1,h2,h3]
 .simp[h1,h2,h3]
theorem MM(l:Lw)(x:jZ)(i:Nat)(h:i<x.2.2.2.1.length):uJ l x i=if nI l x.2.2.2.1[i] x.2.2.1 (x.2.2.2.1.take i)≠0 then some (nI l x.2.2.2.1[i] x.2.2.1 (x.2.2.2.1.take i),200+(i:Int))else acP:=by
 unfold uJ nI;rw[aaW h];simp only;by_cases h1:fQ x.2.2.2.1[i].1=acR
 .simp[h1]
 by_cases h2:cJ x.2.2.1 x.2.2.2.1[i].1\/cJ (x.2.2.2.1.take i) x.2.2.2.1[i].1
 .simp[h1,h2]
 by_cases h3:kP x.2.2.2.1[i].2 l.1.length
 .simp[h1,h2,h3]
 .simp[h1,h2,h3]
theorem uN(l:Lw)(hw:WF cC l)(mS:kR l)(k:Nat)(hk:k<l.2.2.length)(hT:zK (dD l l.2.2[k]))(hC:Fa l.2.2[k]):M.iI aW l (k:Int)=some ((ox l k).getD (0,0)):=by
 have qn:=mS.2.2.2.2.2 _ (aaZ hk);have Nx:=hw.2.2.2 _ (aaZ hk)
 have Ib:=Fb l k hk λs hs=>⟨by have:=(mS.2.2.2.2.2 s hs).2.1;omega,by have:=(mS.2.2.2.2.2 s hs).2.2.1;omega⟩
 have hE:ox l k=if fQ l.2.2[k].1=acR then some (2,0)else if cJ l.1 l.2.2[k].1\/cJ l.2.1 l.2.2[k].1\/cJ (l.2.2.take k) l.2.2[k].1 then some (7,0)else if mD l k l.2.2[k]then some (6,0)else
  if 12<l.2.2[k].2.2.1.length then some (4,112)else if 12<l.2.2[k].2.2.2.1.length then some (4,212)else((o9 l l.2.2[k]).or (bI (rV l l.2.2[k]) l.2.2[k].2.2.2.2.length)).or (bI (tR l.2.2[k]) l.2.2[k].2.2.2.1.length):=by
  unfold ox;rw[aaW hk]
 have h5:=mS.2.2.1
 obtain⟨x,hx⟩:∃x,x=l.2.2[k]:=⟨_,rfl⟩
 simp only[<-hx]at qn Nx Ib hE hT hC;have UL:=qn.2.2.1;have QD:=qn.2.2.2.1;have Zv:=qn.2.1;have jc:x.1.size<=maxLen:=Nx.1
 have JA:(l.2.2.take k).length=k:=by rw[abb];omega
 have bP:∀f∈x.2.2.1,(f.1:ByteArray).size<=maxLen:=λf hf=>by have:=qn.2.2.2.2.1 f hf;unfold maxLen;omega
 have Zw:∀f∈x.2.2.2.1,(f.1:ByteArray).size<=maxLen:=λf hf=>by have:=qn.2.2.2.2.2.1 f hf;unfold maxLen;omega
 apply Wp.eq;unfold M.iI;rw[ai hk,aaU,jP (acE hk),aaU,<-hx]
 have Ih:(((M.fK aW l.1 x.1).bind λy4=>
  (if y4=acQ then
  some (acQ,x)
  else
  (M.fZ aW l.2.1 x.1).bind λy5=>
  (if y5=acQ then
  some (acQ,x)
  else
  (M.aE aW (l.2.2.take k) x).bind λy6=>
  some (y6.1,y6.2))):Option (Bool×aV.den)))=some (decide (cJ l.1 x.1\/cJ l.2.1 x.1\/cJ (l.2.2.take k) x.1),x):=by
  apply Wp.eq;simp only[pd _ _ hw.1.1,rF _ _ hw.2.1.1,xi (l.2.2.take k) _ (by rw[JA];unfold maxLen;omega),W_,acY,acZ,reduceCtorEq];exact⟨λh=>by rw[acW (Or.inl h)],λh1=>⟨λh=>by rw[acW (Or.inr (Or.inl h))],λh2=>ac0 (λb=>(b,x)) (decide_eq_decide.2 ⟨λh=> .inr (.inr h),λh=>(h.resolve_left h1).resolve_left h2⟩)⟩⟩
 rw[Ih,aaU,q9 _ jc,aaU,hE];by_cases h1:fQ x.1=acR
 .rw[acU (by simp[h1]),acU h1];exact .some rfl
 rw[acT (by simpa using h1),acT h1];by_cases h2:cJ l.1 x.1\/cJ l.2.1 x.1\/cJ (l.2.2.take k) x.1
 .rw[acU (acW h2),acU h2];exact .some rfl
 rw[acT (by simpa using h2),acT h2];have Dc:mD l k x↔(x.2.1:Int)≠-1/\((x.2.1:Int)<0\/(k:Int)<=x.2.1\/∃y,l.2.2[(x.2.1:Int).toNat]? =some y/\(y.2.1:Int)≠-1):=Iff.rfl
 have Ii:((if(!decide ((x.2.1:Int)=(-1:Int)))=acQ then
  (if(decide ((x.2.1:Int)<(0:Int)))=acQ then
  some acQ
  else
  (if(decide ((k:Int)<=x.2.1))=acQ then
  some acQ
  else
  (idx (l.2.2.take k) x.2.1).bind λx9=>
  some (!decide ((x9.2.1:Int)=(-1:Int)))))
  else
  some acR):Option (Bool))=some (decide (mD l k x)):=by
  apply Wp.eq;simp only[W_,acY,acZ,reduceCtorEq]
  obtain⟨(m:Int),hm⟩:∃m:Int,m=x.2.1:=⟨_,rfl⟩
  simp only[<-hm]at Dc⊢;refine⟨λhp=>⟨λh=>(Dc.2 ⟨hp, .inl h⟩),λh3=>⟨λh=>(Dc.2 ⟨hp, .inr (.inl h)⟩),λh4=>cT.2 ⟨by dsimp only[ae,Row.den]at*;omega,?_⟩⟩⟩,λhp h=>(Dc.1 h).1 hp⟩
  have PI:m.toNat<k:=by dsimp only[ae,Row.den]at*;omega
  rw[List.getElem_take];have qg:l.2.2[m.toNat]? =some (l.2.2[m.toNat]'(by omega)):=aaW (by omega);rw[<-decide_not];refine decide_eq_decide.2 ⟨λh g=>?_,λh=>ack.1 λh'=>h (Dc.2 ⟨hp, .inr (.inr ⟨_,qg,h'⟩)⟩)⟩;obtain⟨_,g1|g1|⟨y,g1,g2⟩⟩:=Dc.1 g
  .exact absurd g1 h3
  .exact absurd g1 h4
  .rw[qg]at g1;cases g1;exact g2 h
 rw[Ii,aaU];by_cases h3:mD l k x
 .rw[acU (acW h3),acU h3];exact .some rfl
 rw[acT (by simpa using h3),acT h3];clear Ih Ii Dc hE;dsimp only;by_cases h4:12<x.2.2.1.length
 .rw[acU (acW (by omega)),acU h4];exact .some rfl
 rw[acT (by rw[ac1];omega),acT h4];by_cases h5:12<x.2.2.2.1.length
 .rw[acU (acW (by omega)),acU h5];exact .some rfl
 rw[acT (by rw[ac1];omega),acT h5,Ib];unfold o9;simp only[W_,acY,acZ,reduceCtorEq]
 refine Wp.count (λs=>s) x.2.2.1.length (λi _=>∀j,j<i->uI l x j=acP) (by omega) rfl (λj hj=>by omega) λi c hi hs hJ=>?_
 obtain rfl:c=_:=hs;simp only[W_,acY,acZ,reduceCtorEq,av,ao];refine⟨λag=>?_,λhge=>?_⟩
 .have ag:i<x.2.2.1.length:=by omega
  have hf:=ML l x i ag;simp only[ai ag,jP (acE ag),oK l _ (x.2.2.1.take i) [] (bP _ (aaZ ag)) (by rw[abb];unfold maxLen;omega) (by simp),jD (k:=i) (a:=100) (by omega) (by omega),bz (m:=x.2.2.1.length) (by omega) ag,W_,acY,acZ,reduceCtorEq];refine⟨λh=>?_,λh=>⟨ag,aH hJ (by rw[hf,acT (λg=>g h)])⟩⟩;rw[bE (hf.trans (acU h)) hJ ag];rfl
 rw[aP.2 λj(hj:j<x.2.2.1.length)=>hJ j (by omega),abT];clear hJ
 refine Wp.count (λs=>s) x.2.2.2.1.length (λi _=>∀j,j<i->uJ l x j=acP) (by omega) rfl (λj hj=>by omega) λi c hi hs hJ=>?_
 obtain rfl:c=_:=hs;simp only[W_,acY,acZ,reduceCtorEq,av,ao];refine⟨λag=>?_,λhge=>?_⟩
 .have ag:i<x.2.2.2.1.length:=by omega
  have hf:=MM l x i ag;simp only[ai ag,jP (acE ag),oK l _ x.2.2.1 (x.2.2.2.1.take i) (Zw _ (aaZ ag)) (by unfold maxLen;omega) (by rw[abb];unfold maxLen;omega),jD (k:=i) (a:=200) (by omega) (by omega),bz (m:=x.2.2.2.1.length) (by omega) ag,W_,acY,acZ,reduceCtorEq];refine⟨λh=>?_,λh=>⟨ag,aH hJ (by rw[hf,acT (λg=>g h)])⟩⟩;rw[bE (hf.trans (acU h)) hJ ag];rfl
 rw[aP.2 λj(hj:j<x.2.2.2.1.length)=>hJ j (by omega),abT];clear hJ
 refine Wp.count (λs=>s) x.2.2.2.2.length (λi _=>∀j,j<i->rV l x j=acP) (by omega) rfl (λj hj=>by omega) λi c hi hs hJ=>?_
 obtain rfl:c=_:=hs;simp only[W_,acY,acZ,reduceCtorEq,av,ao];refine⟨λag=>?_,λhge=>?_⟩
 .have ag:i<x.2.2.2.2.length:=by omega
  have hf:rV l x i=if p3 l x i x.2.2.2.2[i]≠0 then some (p3 l x i x.2.2.2.2[i],300+(i:Int))else acP:=by
   unfold rV;rw[aaW ag]
  have hr:M.gJ aW x (i:Int) ((dD l x).1,((dD l x).2.1,((dD l x).2.2.1,((dD l x).2.2.2.1,((dD l x).2.2.2.2.1,(dD l x).2.2.2.2.2)))))=_:=xl l x Nx qn hT i ag;simp only[hr,jD (k:=i) (a:=300) (by omega) (by omega),bz (m:=x.2.2.2.2.length) (by omega) ag,W_,acY,acZ,reduceCtorEq];refine⟨λh=>?_,λh=>⟨ag,aH hJ (by rw[hf,acT (λg=>g h)])⟩⟩;rw[bE (hf.trans (acU h)) hJ ag];rfl
 rw[aP.2 λj(hj:j<x.2.2.2.2.length)=>hJ j (by omega),abT];clear hJ
 refine Wp.count (λs=>s) x.2.2.2.1.length (λi _=>∀j,j<i->tR x j=acP) (by omega) rfl (λj hj=>by omega) λi c hi hs hJ=>?_
 obtain rfl:c=_:=hs;simp only[W_,acY,acZ,reduceCtorEq,av,ao];refine⟨λag=>?_,λhge=>?_⟩
 .have ag:i<x.2.2.2.1.length:=by omega
  obtain⟨tr,e1,e2,e3⟩:=hC i ag
  have hf:tR x i=if(i:Int)∈xg x i then some (9,200+(i:Int))else acP:=rfl
  simp only[e1,BN tr _ (by unfold maxLen;omega),jD (k:=i) (a:=200) (by omega) (by omega),bz (m:=x.2.2.2.1.length) (by omega) ag,W_,acY,acZ,reduceCtorEq];refine⟨λh=>?_,λh=>⟨ag,aH hJ (by rw[hf,acT (λg=>h (e3.2 g))])⟩⟩;rw[bE (hf.trans (acU (e3.1 h))) hJ ag];rfl
 .rw[aP.2 λj(hj:j<x.2.2.2.1.length)=>hJ j (by omega)];rfl
theorem tX(l:Lw)(hw:WF cC l)(mS:kR l)(hT:∀x∈l.2.2,zK (dD l x))(hC:∀x∈l.2.2,Fa x):M.gS aW l=some (if 4<l.2.2.length then((4:Int),((3:Int),((4:Int),(0:Int))))else match bI (λk=>(ox l k).map λe=>(k,e)) l.2.2.length with
 |some (k,e)=>jb 3 (k:Int) (some e)
 |none=>BK):=by
 have w1:=hw.2.2.1;unfold maxLen at w1;apply Wp.eq;unfold M.gS;simp only[W_,acY,acZ,reduceCtorEq];refine⟨λh=>by rw[acU (by omega)],λh8=>?_⟩;rw[acT (by omega)]
 refine Wp.count (λs=>s) l.2.2.length (λi _=>∀j,j<i->(λk=>(ox l k).map λe=>(k,e)) j=acP) w1 rfl (λj hj=>by omega) λi c hi hs hJ=>?_
 obtain rfl:c=_:=hs;simp only[W_,acY,acZ,reduceCtorEq,av,ao];refine⟨λag=>?_,λhge=>?_⟩
 .have ag:i<l.2.2.length:=by omega
  simp only[uN l hw mS i ag (hT _ (aaZ ag)) (hC _ (aaZ ag)),bz w1 ag,W_,acY,acZ,reduceCtorEq];refine⟨λh=>?_,λh=>⟨ag,aH hJ ?_⟩⟩
  .cases he:ox l i with
   |none=>rw[he]at h;exact absurd rfl h
   |some e=>rw[bE (E6 he) hJ ag];rfl
  .cases he:ox l i with
   |none=>rfl
   |some e=>rw[he]at h;exact absurd h (tT he)
 .rw[aP.2 λj hj=>hJ j (by omega)];rfl
theorem zL(l:Lw)(hw:WF cC l)(mS:kR l)(hT:∀x∈l.2.2,zK (dD l x))(hC:∀x∈l.2.2,Fa x):M.eV aW l=some (oy l):=by
 have bad:∀(f:Nat->Option (Int×Int))(m:Nat)(sec:Int)(k:Nat)(e:Int×Int),(∀i e,f i=some e->e.1≠0)->bI (λk=>(f k).map λe=>(k,e)) m=some (k,e)->(!decide ((jb sec (k:Int) (some e)).1=0))=acQ:=λf m sec k e hf he=>by
  obtain⟨j,_,hj,_⟩:=dU he;obtain⟨e',he',h2⟩:=Option.map_eq_some_iff.1 hj;cases h2;have:e.1≠0:=hf _ _ he'
  show(!decide (e.1=0))=acQ
  simp[this]
 unfold M.eV oy;rw[uM l hw,aaU];by_cases h1:8<l.1.length
 .rw[acU h1,acU h1];rfl
 rw[acT h1,acT h1]
 cases hA:bI (λk=>(kS l k).map λe=>(k,e)) l.1.length with
 |some p=>
  obtain⟨k,e⟩:=p;dsimp only;rw[acU (bad _ _ _ _ _ (λi e=>om) hA)]
 |none=>
  dsimp only;rw[acT (by simp[BK]),tV l hw,aaU];by_cases h2:8<l.2.1.length
  .rw[acU h2,acU h2];rfl
  rw[acT h2,acT h2]
  cases hB:bI (λk=>(nD l k).map λe=>(k,e)) l.2.1.length with
  |some p=>
   obtain⟨k,e⟩:=p;dsimp only;rw[acU (bad _ _ _ _ _ (λi e=>tS) hB)]
  |none=>
   dsimp only
   rw[acT (by simp[BK]),tX l hw mS hT hC,aaU]<;>rfl
end L
namespace L
theorem Ij(op:Int):M.kM aW op=some (ar op):=by
 apply Wp.eq;unfold M.kM ar;simp only[W_,acY,acZ,reduceCtorEq];omega
theorem Ik(op:Int):M.mr aW op=some (decide ((1<=op/\op<=8)\/(14<=op/\op<=16)\/op=33\/op=34\/(36<=op/\op<=39))):=by
 apply Wp.eq;unfold M.mr;simp only[W_,acY,acZ,reduceCtorEq];omega
theorem bc(k:Int):M.dy aW k=some (decide (k=2\/k=3\/k=4)):=by
 apply Wp.eq;unfold M.dy;simp only[W_,acY,acZ,reduceCtorEq];omega
theorem aJ(k:Int):M.fO aW k=some (decide (0<=k/\k<=5)):=by
 apply Wp.eq;unfold M.fO;simp only[W_,acY,acZ,reduceCtorEq];omega
theorem bu(m k:Int)(s:pu):M.cM aW m k s=some (if xL m (k,(0:Int)) s.1 then((k,(0:Int)),(0:Int))else(((0:Int),(0:Int)),(3:Int))):=by
 apply Wp.eq;unfold M.cM;simp only[Dd,W_,acY,acZ,reduceCtorEq];have hI:xL m (k,(0:Int)) s.1↔(EH (k,(0:Int)) s.1).1<=m/\m<=(EH (k,(0:Int)) s.1).2:=Iff.rfl;exact⟨λh=>by rw[acT λg=>by have:=hI.1 g;omega],λh=>⟨λh'=>by rw[acT λg=>by have:=hI.1 g;omega],λh'=>by rw[acU (hI.2 (by omega))]⟩⟩
noncomputable def pN(n:Ty)(l:List Ty)(s:pu):Option (Ty×Int):=
 if(n.2:Int)≠0/\¬((1<=(n.1:Int)/\(n.1:Int)<=8)\/(14<=(n.1:Int)/\(n.1:Int)<=16)\/(n.1:Int)=33\/(n.1:Int)=34\/(36<=(n.1:Int)/\(n.1:Int)<=39))then some (((0:Int),(0:Int)),2)else M.aI aW n l s
def oz(t:Ty):Prop:=1<=(t.1:Int)/\(t.1:Int)<=5->(t.2:Int)=0
theorem MN(op m:Int)(a b:Ty)(s:pu)(h2:ar op=2)(ha:oz a)(_:oz b):pN (op,m) [a,b] s=M.aC aW (op,m) [a,b] s:=by
 have hr:=tP (op,m) s
 have hR:zC op m s↔(14<=op/\op<=16->0<=m/\m<=5):=by
  unfold ar at h2;unfold zC;exact⟨λh=>h.2.1,λh=>⟨λ_=>by omega,h,λ_=>by omega,λ_=>by omega⟩⟩
 have uB:op=11\/op=12\/op=13\/op=14\/op=15\/op=16\/op=17\/op=18\/op=19\/op=20\/op=21\/op=22\/op=23\/op=24\/op=27\/op=28\/op=29\/op=30:=by unfold ar at h2;omega
 obtain⟨(a1:Int),(a2:Int)⟩:=a;obtain⟨(b1:Int),(b2:Int)⟩:=b;simp only[oz]at ha
 rcases uB with rfl|rfl|rfl|rfl|rfl|rfl|rfl|rfl|rfl|rfl|rfl|rfl|rfl|rfl|rfl|rfl|rfl|rfl
 all_goals
  unfold pN M.aI M.cQ M.ji M.aC M.aZ M.dT M.gk;simp[ax,ay,aw,aK,bc,aJ,br,hr,hR,idx,E1]
  grind
theorem Il(op m:Int)(a b c:Ty)(s:pu)(h3:ar op=3):pN (op,m) [a,b,c] s=M.aC aW (op,m) [a,b,c] s:=by
 have uB:op=26:=by unfold ar at h3;omega
 subst uB;have hr:=tP ((26:Int),m) s
 have hR:zC 26 m s:=by unfold zC;omega
 obtain⟨(a1:Int),(a2:Int)⟩:=a;obtain⟨(b1:Int),(b2:Int)⟩:=b;obtain⟨(c1:Int),(c2:Int)⟩:=c;unfold pN M.aI M.cQ M.aC M.aZ;simp[ax,ay,aw,aK,bc,aJ,br,hr,hR,idx,E1]
 grind
theorem MO(op m:Int)(a:Ty)(s:pu)(hm:m<=9223372036854775807)(h1:ar op=1)(ha:oz a):pN (op,m) [a] s=M.aC aW (op,m) [a] s:=by
 have hr:=tP (op,m) s
 have hR:zC op m s↔(op=34->0<=m/\acu m 8<=5):=by
  unfold ar at h1;unfold zC;exact⟨λh=>h.2.2.1,λh=>⟨λ_=>by omega,λ_=>by omega,h,λ_=>by omega⟩⟩
 have hd:0<=m->0<=aaV.wrap (ab7 m 8):=λh=>C5 h hm (by omega)
 have ht:0<=m->0<=acu m 8:=λh=>Int.tmod_nonneg _ h
 have uB:op=10\/op=25\/op=31\/op=32\/op=33\/op=34:=by unfold ar at h1;omega
 obtain⟨(a1:Int),(a2:Int)⟩:=a;simp only[oz]at ha
 rcases uB with rfl|rfl|rfl|rfl|rfl|rfl
 .unfold pN M.aI M.cQ M.aC M.aZ M.cn;simp[ax,ay,aw,aK,bc,aJ,br,hr,hR,idx,E1]
  grind
 .unfold pN M.aI M.cQ M.aC M.aZ M.cn;simp[ax,ay,aw,aK,bc,aJ,br,hr,hR,idx,E1]
  grind
 .unfold pN M.aI M.cQ M.aC M.aZ M.cn;simp[ax,ay,aw,aK,bc,aJ,br,hr,hR,idx,E1]
  grind
 .unfold pN M.aI M.cQ M.aC M.aZ M.cn;simp[ax,ay,aw,aK,bc,aJ,br,hr,hR,idx,E1]
  grind
 .have i0:idx [((a1,a2):Ty)] 0=some (a1,a2):=rfl;unfold pN M.aI M.iF M.aC M.aZ M.cn;by_cases h:0<=m/\m<(s.2.1.length:Int)
  .obtain⟨k,rfl⟩:=aa8 h.1
   have hk:k<s.2.1.length:=by omega
   simp[ax,ay,aw,aK,br,hr,hR,E1,mF,bp,i0,ai hk,hk,show¬((s.2.1.length:Int)<=(k:Int)) by omega,show¬((k:Int)<0) by omega];generalize s.2.1[k]=t
   by_cases c1:kP t.2.1 s.1.length<;>by_cases c2:kP t.2.2.1 s.1.length<;>by_cases c3:((a1,a2):Ty)=t.2.1<;>simp[c1,c2,c3]
  .simp[ax,ay,aw,aK,br,hr,hR,E1,mF,bp,i0];by_cases Lz:m<0
   .simp[Lz,show¬0<=m by omega]
   .simp[Lz,show 0<=m by omega,show(s.2.1.length:Int)<=m by omega,show¬m<(s.2.1.length:Int) by omega]
 .have i0:idx [((a1,a2):Ty)] 0=some (a1,a2):=rfl;unfold pN M.aI M.iF M.aC M.aZ M.cn;simp only[hr,hR];by_cases h:0<=m/\acu m 8<=5
  .have hd:=hd h.1;have ht:=ht h.1;generalize aaV.wrap (ab7 m 8)=j at*;generalize acu m 8=q at*;by_cases h':j<(s.2.1.length:Int)
   .obtain⟨k,rfl⟩:=aa8 hd
    have hk:k<s.2.1.length:=by omega
    simp[ax,ay,aw,aK,aJ,br,h,ht,E1,mF,bp,i0,ai hk,hk,show¬(m<0) by omega,show¬((s.2.1.length:Int)<=(k:Int)) by omega,show¬((k:Int)<0) by omega];generalize s.2.1[k]=t;obtain⟨nm,⟨(k1:Int),(k2:Int)⟩,⟨(v1:Int),(v2:Int)⟩,rs⟩:=t;generalize s.1.length=ne;by_cases R:a1=3/\k1=3/\k2=0/\v1=4/\v2=0
    .obtain⟨rfl,rfl,rfl,rfl,rfl⟩:=R;obtain rfl:a2=0:=ha ⟨by decide,by decide⟩
     have v3:kP (((3:Int),(0:Int)):Ty) ne:=by simp[kP]
     have v4:kP (((4:Int),(0:Int)):Ty) ne:=by simp[kP]
     simp[v3,v4]
    .have Zx:(((if a1=3 then if((k1,k2):Int×Int)=(3,0)then some (decide (((v1,v2):Int×Int)=(4,0)),a1,a2)else some (acR,a1,a2)else some (acR,a1,a2)):Option (Bool×Int×Int)))=some (acR,a1,a2):=by
      by_cases q1:a1=3<;>by_cases q2:k1=3<;>by_cases q3:k2=0<;>by_cases q4:v1=4<;>by_cases q5:v2=0<;>simp[q1,q2,q3,q4,q5]<;>exact absurd ⟨q1,q2,q3,q4,q5⟩ R
     rw[Zx];by_cases c1:kP ((k1,k2):Ty) ne
     .by_cases c2:kP ((v1,v2):Ty) ne
      .by_cases e:((a1,a2):Ty)=(k1,k2)
       .injection e with e1 e2
        subst e1 e2;have Qs:=c1;have On:=c2;simp only[kP]at Qs On;dsimp only[ae,Row.den]at Qs On;by_cases f:a1=3
        .have g:¬v1=4:=λg=>R (by omega)
         subst f
         obtain rfl:a2=0:=by omega
         simp[c1,c2,g]
        .simp[c1,c2,f]
       .simp[c1,c2,e]
      .simp[c1,c2]
     .simp[c1]
   .simp[ax,ay,aw,aK,aJ,br,h,ht,E1,mF,bp,i0,show¬(m<0) by omega,show(s.2.1.length:Int)<=j by omega,show¬j<0 by omega]
  .simp[ax,ay,aw,aK,aJ,br,E1,mF,bp,i0];by_cases Lz:m<0
   .simp[Lz,show¬0<=m by omega]
   .have h5:5<acu m 8:=by omega
    simp[Lz,h5,show¬acu m 8<=5 by omega]
theorem aO(m:Int)(ls:List Ty)(s:pu):M.dM aW m ls s=if 0<=m/\m<(ls.length:Int)then(match ls[m.toNat]? with
 |some t=>if kP t s.1.length then some (t,(0:Int))else some (((0:Int),(0:Int)),(8:Int))
 |none=>acP)else some (((0:Int),(0:Int)),(6:Int)):=by
 unfold M.dM;by_cases h:0<=m/\m<(ls.length:Int)
 .obtain⟨k,rfl⟩:=aa8 h.1
  have hk:k<ls.length:=by omega
  rw[acT (by rw[ac1];omega),aaU,acT (by rw[ac1];omega),ai hk,aaU,mF,aaU,acU h,aa3,aaW hk];by_cases hv:kP ls[k] s.1.length
  .rw[acT (by simp[hv])];simp only[acU hv,aaU]
  .rw[acU (by simp[hv])];simp only[acT hv]
 .rw[acT h];by_cases h0:m<0
  .rw[acU (acW h0)];rfl
  .rw[acT (by simpa using h0),aaU,acU (acW (by omega))]
theorem zero_eq(op m:Int)(s:pu)(hm:m<=9223372036854775807)(h0:ar op=0):pN (op,m) [] s=M.aC aW (op,m) [] s:=by
 have hr:=tP (op,m) s
 have hR:zC op m s↔(1<=op/\op<=5->xL m (op,(0:Int)) s.1)/\(op=6->0<=m):=by
  unfold ar at h0;unfold zC;exact⟨λh=>⟨h.1,h.2.2.2⟩,λh=>⟨h.1,λ_=>by omega,λ_=>by omega,h.2⟩⟩
 have hd:0<=m->0<=aaV.wrap (ab7 m 16):=λh=>C5 h hm (by omega)
 have uB:op=1\/op=2\/op=3\/op=4\/op=5\/op=6\/op=7\/op=8\/op=9\/op=35\/op=36\/op=37\/op=38\/op=39:=by unfold ar at h0;omega
 have v:∀k:Int,1<=k->k<=5->kP ((k,(0:Int)):Ty) s.1.length:=λk h1 h2=> .inl ⟨h1,h2,rfl⟩
 rcases uB with rfl|rfl|rfl|rfl|rfl|rfl|rfl|rfl|rfl|rfl|rfl|rfl|rfl|rfl
 .unfold pN M.aI M.bi M.bA M.aC M.aZ M.bD;have v:=v 1 (by decide) (by decide)
  by_cases h:xL m ((1:Int),(0:Int)) s.1<;>simp[ax,ay,aw,aK,bc,aJ,bu,aO,br,hr,hR,bp,h,v]
 .unfold pN M.aI M.bi M.bA M.aC M.aZ M.bD;have v:=v 2 (by decide) (by decide)
  by_cases h:xL m ((2:Int),(0:Int)) s.1<;>simp[ax,ay,aw,aK,bc,aJ,bu,aO,br,hr,hR,bp,h,v]
 .unfold pN M.aI M.bi M.bA M.aC M.aZ M.bD;have v:=v 3 (by decide) (by decide)
  by_cases h:xL m ((3:Int),(0:Int)) s.1<;>simp[ax,ay,aw,aK,bc,aJ,bu,aO,br,hr,hR,bp,h,v]
 .unfold pN M.aI M.bi M.bA M.aC M.aZ M.bD;have v:=v 4 (by decide) (by decide)
  by_cases h:xL m ((4:Int),(0:Int)) s.1<;>simp[ax,ay,aw,aK,bc,aJ,bu,aO,br,hr,hR,bp,h,v]
 .unfold pN M.aI M.bi M.bA M.aC M.aZ M.bD;have v:=v 5 (by decide) (by decide)
  by_cases h:xL m ((5:Int),(0:Int)) s.1<;>simp[ax,ay,aw,aK,bc,aJ,bu,aO,br,hr,hR,bp,h,v]
 .unfold pN M.aI M.bi M.bA M.aC M.aZ M.bD;by_cases h:m<0
  .simp[ax,ay,aw,aK,bc,aJ,bu,aO,br,hr,hR,bp,h]
  .have hd:=hd (by omega)
   have h':0<=m:=by omega
   generalize aaV.wrap (ab7 m 16)=j at*;generalize acu m 16=q at*;by_cases hj:j<(s.1.length:Int)
   .obtain⟨k,rfl⟩:=aa8 hd
    have hk:k<s.1.length:=by omega
    have v6:kP (((6:Int),(k:Int)):Ty) s.1.length:= .inr ⟨rfl,by show(0:Int)<=(k:Int);omega,hj⟩;by_cases hq:q<(s.1[k].2.length:Int)
    .simp[ax,ay,aw,aK,bc,aJ,bu,aO,br,hr,hR,bp,h,h',hk,ai hk,v6,hq,show¬(s.1.length:Int)<=(k:Int) by omega,show¬(s.1[k].2.length:Int)<=q by omega]
    .simp[ax,ay,aw,aK,bc,aJ,bu,aO,br,hr,hR,bp,h,h',hk,ai hk,v6,hq,show¬(s.1.length:Int)<=(k:Int) by omega,show(s.1[k].2.length:Int)<=q by omega]
   .simp[ax,ay,aw,aK,bc,aJ,bu,aO,br,hr,hR,bp,h,h',hj,show(s.1.length:Int)<=j by omega]
 .unfold pN M.aI M.bi M.bA M.aC M.aZ M.bD;by_cases h:0<=m/\m<(s.2.2.1.length:Int)
  .obtain⟨k,rfl⟩:=aa8 h.1
   have hk:k<s.2.2.1.length:=by omega
   by_cases hv:kP s.2.2.1[k] s.1.length<;>simp[ax,ay,aw,aK,bc,aJ,bu,aO,br,hr,hR,bp,hk,ai hk,hv]
  .by_cases h0:0<=m
   .have h1:¬m<(s.2.2.1.length:Int):=λg=>h ⟨h0,g⟩
    simp[ax,ay,aw,aK,bc,aJ,bu,aO,br,hr,hR,bp,h0,h1]
   .simp[ax,ay,aw,aK,bc,aJ,bu,aO,br,hr,hR,bp,h0]
 .unfold pN M.aI M.bi M.bA M.aC M.aZ M.bD;by_cases h:0<=m/\m<(s.2.2.2.1.length:Int)
  .obtain⟨k,rfl⟩:=aa8 h.1
   have hk:k<s.2.2.2.1.length:=by omega
   by_cases hv:kP s.2.2.2.1[k] s.1.length<;>simp[ax,ay,aw,aK,bc,aJ,bu,aO,br,hr,hR,bp,hk,ai hk,hv]
  .by_cases h0:0<=m
   .have h1:¬m<(s.2.2.2.1.length:Int):=λg=>h ⟨h0,g⟩
    simp[ax,ay,aw,aK,bc,aJ,bu,aO,br,hr,hR,bp,h0,h1]
   .simp[ax,ay,aw,aK,bc,aJ,bu,aO,br,hr,hR,bp,h0]
 .unfold pN M.aI M.bi M.bA M.aC M.aZ M.bD;have v:=v 5 (by decide) (by decide);by_cases h:m=0
  .subst h;simp[ax,ay,aw,aK,bc,aJ,bu,aO,br,hr,hR,bp,v]
  .simp[ax,ay,aw,aK,bc,aJ,bu,aO,br,hr,hR,bp,h]
 .unfold pN M.aI M.bi M.bA M.aC M.aZ M.bD;have v:=v 2 (by decide) (by decide);by_cases h:m=0
  .subst h;cases hs:s.2.2.2.2.2<;>simp[ax,ay,aw,aK,bc,aJ,bu,aO,br,hr,hR,bp,v,hs]
  .simp[ax,ay,aw,aK,bc,aJ,bu,aO,br,hr,hR,bp,h]
 .unfold pN M.aI M.bi M.bA M.aC M.aZ M.bD;cases hs:s.2.2.2.2.2
  .simp[ax,ay,aw,aK,bc,aJ,bu,aO,br,hr,hR,bp,hs]
  by_cases h:0<=m/\m<(s.2.2.2.2.1.length:Int)
  .obtain⟨k,rfl⟩:=aa8 h.1
   have hk:k<s.2.2.2.2.1.length:=by omega
   by_cases hv:kP s.2.2.2.2.1[k] s.1.length
   .simp[ax,ay,aw,aK,bc,aJ,bu,aO,br,hr,hR,bp,hk,ai hk,hv,hs];generalize s.2.2.2.2.1[k]=t at*;obtain⟨(t1:Int),(t2:Int)⟩:=t
    by_cases q2:t1=2<;>by_cases q3:t1=3<;>simp[q2,q3]
   .simp[ax,ay,aw,aK,bc,aJ,bu,aO,br,hr,hR,bp,hk,ai hk,hv,hs]
  .by_cases h0:0<=m
   .have h1:¬m<(s.2.2.2.2.1.length:Int):=λg=>h ⟨h0,g⟩
    simp[ax,ay,aw,aK,bc,aJ,bu,aO,br,hr,hR,bp,h0,h1,hs]
   .simp[ax,ay,aw,aK,bc,aJ,bu,aO,br,hr,hR,bp,h0,hs]
 .unfold pN M.aI M.bi M.bA M.aC M.aZ M.bD;cases hs:s.2.2.2.2.2
  .simp[ax,ay,aw,aK,bc,aJ,bu,aO,br,hr,hR,bp,hs]
  by_cases h:0<=m/\m<(s.2.2.2.2.1.length:Int)
  .obtain⟨k,rfl⟩:=aa8 h.1
   have hk:k<s.2.2.2.2.1.length:=by omega
   by_cases hv:kP s.2.2.2.2.1[k] s.1.length
   .simp[ax,ay,aw,aK,bc,aJ,bu,aO,br,hr,hR,bp,hk,ai hk,hv,hs];generalize s.2.2.2.2.1[k]=t at*;obtain⟨(t1:Int),(t2:Int)⟩:=t
    by_cases q:t1=1<;>simp[q]
   .simp[ax,ay,aw,aK,bc,aJ,bu,aO,br,hr,hR,bp,hk,ai hk,hv,hs]
  .by_cases h0:0<=m
   .have h1:¬m<(s.2.2.2.2.1.length:Int):=λg=>h ⟨h0,g⟩
    simp[ax,ay,aw,aK,bc,aJ,bu,aO,br,hr,hR,bp,h0,h1,hs]
   .simp[ax,ay,aw,aK,bc,aJ,bu,aO,br,hr,hR,bp,h0,hs]
 .unfold pN M.aI M.bi M.bA M.aC M.aZ M.bD;cases hs:s.2.2.2.2.2
  .simp[ax,ay,aw,aK,bc,aJ,bu,aO,br,hr,hR,bp,hs]
  by_cases h:0<=m/\m<(s.2.2.2.2.1.length:Int)
  .obtain⟨k,rfl⟩:=aa8 h.1
   have hk:k<s.2.2.2.2.1.length:=by omega
   by_cases hv:kP s.2.2.2.2.1[k] s.1.length
   .simp[ax,ay,aw,aK,bc,aJ,bu,aO,br,hr,hR,bp,hk,ai hk,hv,hs];generalize s.2.2.2.2.1[k]=t at*;obtain⟨(t1:Int),(t2:Int)⟩:=t
    by_cases q:t1=1<;>simp[q]
   .simp[ax,ay,aw,aK,bc,aJ,bu,aO,br,hr,hR,bp,hk,ai hk,hv,hs]
  .by_cases h0:0<=m
   .have h1:¬m<(s.2.2.2.2.1.length:Int):=λg=>h ⟨h0,g⟩
    simp[ax,ay,aw,aK,bc,aJ,bu,aO,br,hr,hR,bp,h0,h1,hs]
   .simp[ax,ay,aw,aK,bc,aJ,bu,aO,br,hr,hR,bp,h0,hs]
 .unfold pN M.aI M.bi M.bA M.aC M.aZ M.bD;cases hs:s.2.2.2.2.2
  .simp[ax,ay,aw,aK,bc,aJ,bu,aO,br,hr,hR,bp,hs]
  by_cases h:0<=m/\m<(s.2.2.2.2.1.length:Int)
  .obtain⟨k,rfl⟩:=aa8 h.1
   have hk:k<s.2.2.2.2.1.length:=by omega
   by_cases hv:kP s.2.2.2.2.1[k] s.1.length
   .simp[ax,ay,aw,aK,bc,aJ,bu,aO,br,hr,hR,bp,hk,ai hk,hv,hs];generalize s.2.2.2.2.1[k]=t at*;obtain⟨(t1:Int),(t2:Int)⟩:=t
    by_cases q2:t1=2<;>by_cases q3:t1=3<;>by_cases q4:t1=4<;>by_cases q5:t1=5<;>simp[q2,q3,q4,q5]
   .simp[ax,ay,aw,aK,bc,aJ,bu,aO,br,hr,hR,bp,hk,ai hk,hv,hs]
  .by_cases h0:0<=m
   .have h1:¬m<(s.2.2.2.2.1.length:Int):=λg=>h ⟨h0,g⟩
    simp[ax,ay,aw,aK,bc,aJ,bu,aO,br,hr,hR,bp,h0,h1,hs]
   .simp[ax,ay,aw,aK,bc,aJ,bu,aO,br,hr,hR,bp,h0,hs]
theorem PK(n:Ty)(l:List Ty)(s:pu)(hw:WF aa n)(hl:(l.length:Int)=ar n.1)(hN:∀t∈l,oz t):pN n l s=some (HW n l s):=by
 rw[<-BI hw hl];obtain⟨(op:Int),(m:Int)⟩:=n;have hm:m<=9223372036854775807:=hw.2.2;have h3:=vM op;dsimp only at hl
 match l,hl with
 |[],hl=>exact zero_eq op m s hm hl.symm
 |[a],hl=>exact MO op m a s hm hl.symm (hN a (by simp))
 |[a,b],hl=>exact MN op m a b s hl.symm (hN a (by simp)) (hN b (by simp))
 |[a,b,c],hl=>exact Il op m a b c s hl.symm
 |a::b::c::d::l,hl=>simp at hl;omega
theorem kP.VZ{t:Ty}{n:Nat}(h:kP t n):oz t:=λh'=>by
 obtain⟨(k:Int),(e:Int)⟩:=t
 rcases h with h|h
 .exact h.2.2
 .dsimp only[ae,Row.den]at*;omega
def Pc{α:Type}(m:Option α)(Q:α->Prop):Prop:=∀r,m=some r->Q r
theorem gu{α:Type}{x:α}{Q:α->Prop}:Pc (some x) Q↔Q x:=⟨λh=>h x rfl,λh r e=>by cases e;exact h⟩
theorem dV{α β:Type}{m:Option α}{k:α->Option β}{Q:β->Prop}:Pc (m.bind k) Q↔Pc m λx=>Pc (k x) Q:=by
 constructor
 .intro h x hx r hr;exact h r (by rw[hx];exact hr)
 .intro h r hr;obtain⟨x,hx,hr⟩:=Option.bind_eq_some_iff.1 hr;exact h x hx r hr
theorem ke{α:Type}{c:Prop}[Decidable c]{a b:Option α}{Q:α->Prop}:Pc (if c then a else b) Q↔(c->Pc a Q)/\(¬c->Pc b Q):=by
 split<;>simp_all
theorem Pc.of{α:Type}{m:Option α}{Q:α->Prop}(h:∀x,Q x):Pc m Q:=λx _=>h x
theorem oz.kind(k:Int):oz ((k,(0:Int)):Ty):=λ_=>rfl
theorem Im(n:Ty)(s:pu):Pc (M.bD aW n s) λr=>r.2=acQ->oz r.1:=by
 have ho:∀k,M.ed aW k=some (decide (k=2\/k=3\/k=4\/k=5)):=aw;unfold M.bD;rw[dV]
 refine Pc.of λj=>?_
 simp only[bp,ho,aaU];by_cases hv:kP j s.1.length
 .simp only[dV,ke,gu];simp[hv.VZ]
 .simp[hv,dV,ke,gu]
theorem BP(n a:Ty)(s:pu)(ha:oz a):Pc (M.cn aW n a s) λr=>r.2=acQ->oz r.1:=by
 unfold M.cn;simp only[aK,ay,bp,aaU,dV,ke,gu];refine⟨λ_ _=>ha,λ_=>⟨λ_ _=>ha,λ_=>?_⟩⟩
 have PE:Pc (idx s.2.1 n.2) λx=>(decide (kP x.2.1 s.1.length)=acQ->(decide (kP x.2.2.1 s.1.length)=acQ->lz aa a x.2.1=acQ->oz x.2.2.1)/\(¬decide (kP x.2.2.1 s.1.length)=acQ->acR=acQ->oz x.2.2.1))/\(¬decide (kP x.2.1 s.1.length)=acQ->acR=acQ->oz x.2.2.1):=Pc.of λx=>⟨λ_=>⟨λh _=>(acV h:kP x.2.2.1 s.1.length).VZ,λ_ h=>(by cases h)⟩,λ_ h=>(by cases h)⟩
 have MG:Pc (idx s.2.1 (aaV.wrap (ab7 n.2 8))) λx=>(decide ((a.1:Int)=3)=acQ->(lz aa x.2.1 ((3:Int),(0:Int))=acQ->lz aa x.2.2.1 ((4:Int),(0:Int))=acQ->oz a)/\(¬lz aa x.2.1 ((3:Int),(0:Int))=acQ->acR=acQ->oz a))/\(¬decide ((a.1:Int)=3)=acQ->acR=acQ->oz a):=Pc.of λx=>⟨λ_=>⟨λ_ _=>ha,λ_ _=>ha⟩,λ_ _=>ha⟩
 exact⟨λ_=>⟨λ_ _=>oz.kind 2,λ_=>⟨λ_=>PE,λ_=>MG⟩⟩,λ_=>⟨λ_ _=>oz.kind 2,λ_=>⟨λ_=>PE,λ_=>MG⟩⟩⟩
theorem BQ(op:Int)(a b:Ty)(ha:oz a):Pc (M.dT aW op a b) λr=>r.2=acQ->oz r.1:=by
 have hk:∀k:Int,oz ((k,(0:Int)):Ty):=oz.kind;unfold M.dT M.gk;simp only[aK,ay,aw,aaU,dV,ke,gu];simp[ha,hk]
theorem Ku(n:Ty)(l:List Ty)(s:pu)(hw:WF aa n)(hl:(l.length:Int)=ar n.1)(hN:∀t∈l,oz t)(h0:(HW n l s).2=0):oz (HW n l s).1:=by
 have qg:∀i,Pc (idx l i) oz:=λi x hx=>by
  unfold idx at hx;split at hx
  .exact hN _ (List.mem_of_getElem? hx)
  .cases hx
 have key:Pc (M.aC aW n l s) λr=>r.2=0->oz r.1:=by
  unfold M.aC;rw[dV]
  refine Pc.of λj1=>?_
  rw[ke];refine⟨λ_=>gu.2 λh=>(by cases h),λ_=>?_⟩;rw[dV]
  refine Pc.of λy3=>?_
  rw[ke];refine⟨λ_=>gu.2 λh=>(by cases h),λ_=>?_⟩;rw[dV]
  refine Pc.of λy4=>?_
  rw[ke];refine⟨λ_=>gu.2 λh=>(by cases h),λ_=>?_⟩;rw[dV]
  have fin:∀{m:Option (Bool×Ty)},Pc m (λj=>j.1=acQ->oz j.2)->Pc m λj5=>Pc (if(!j5.1)=acQ then some (((0:Int),(0:Int)),(8:Int))else some (j5.2,(0:Int))) λr:Ty×Int=>r.2=0->oz r.1:=λ{m}h j hj=>by
   have:=h j hj;refine ke.2 ⟨λ_=>gu.2 λh=>(by cases h),λh=>gu.2 λ_=>this (by simpa using h)⟩
  refine fin ?_;rw[ke];refine⟨λ_=>?_,λ_=>?_⟩
  .rw[dV]
   exact λx hx=>gu.2 λh=>Im n s x hx h
  rw[ke];refine⟨λ_=>?_,λ_=>?_⟩
  .rw[dV]
   refine λa ha=>dV.2 ?_
   exact λx hx=>gu.2 λh=>BP n a s (qg _ a ha) x hx h
  rw[ke];refine⟨λ_=>?_,λ_=>?_⟩
  .rw[dV]
   refine λa ha=>dV.2 λb _=>dV.2 ?_
   exact λx hx=>gu.2 λh=>BQ n.1 a b (qg _ a ha) x hx h
  .rw[dV]
   refine λa ha=>?_
   have ha:=qg _ a ha;simp only[dV,ke,gu]
   refine Pc.of λx=>⟨λ_=>Pc.of λy=>Pc.of λz=>λ_=>ha,λ_ _=>ha⟩
 exact key _ (BI hw hl) h0
theorem Kv(st:List Nat)(m:Nat)(v:Nat):bF (gK st++abn (m+1) (0:Int)) (st.length:Int) (v:Int)=gK (st++[v])++abn m (0:Int):=by
 unfold bF;rw[aa3,List.set_append_right _ _ (by simp),List.replicate_succ];simp
theorem Fc(st:List Nat)(m:Nat)(u v:Nat):bF (gK (st++[u])++abn m (0:Int)) (st.length:Int) (v:Int)=gK (st++[v])++abn m (0:Int):=by
 unfold bF;rw[aa3,List.set_append_left _ _ (by simp)]
 congr 1
 simp only[gK,ab6];rw[List.set_append_right _ _ (by simp)];simp
theorem BR(e:List Ty):M.iE aW e=some (q7 e):=by
 apply Wp.eq;unfold M.iE q7
 refine Wp.dec (λh=> .some ?_) λh1=>?_
 .rw[acU (by omega)]
 rw[acT (show¬48<e.length by omega)]
 refine Wp.dec (λh=> .some ?_) λh2=>?_
 .rw[acU (show e.length=0 by omega)]
 rw[acT (show¬e.length=0 by omega)]
 have OE:uU (e.length:Int) (0:Int)=some (abn e.length 0):=by
  unfold uU;rw[acU (by omega),aa3]
 rw[OE];simp only[aaU];refine Wp.join (Wp.loop (λs:Int×List Int×List Int=>∃st sk:List Nat,s=((st.length:Int),gK st++abn (e.length-st.length) 0,gK sk)/\st.length<=e.length/\sk.length<=12/\jY (e.drop st.length) st.length st sk=jY e 0 [] []) (λs=>(e.length-s.1).toNat) ⟨[],[],by simp,by simp,by simp,by simp⟩ (by simp only;unfold aW;omega) ?_)
 rintro _ ⟨st,sk,rfl,dW,hsk,bq⟩
 simp only
 refine Wp.dec (λhk=>?_) λhk=> .some ?_
 case refine_2=>
  have hd:e.drop st.length=[]:=ab2 (by omega);rw[hd]at bq;rw[<-bq]
  have h0:e.length-st.length=0:=by omega
  rw[h0];simp only[jY,List.replicate_zero,List.append_nil]
  show Wp _ _
  refine Wp.dec (λh=> .some ?_) λh=> .some ?_
  .rw[acU (by simp at h;omega)]
  .rw[acT (by simp at h;omega)]
 have kh:st.length<e.length:=by omega
 have hd:e.drop st.length=e[st.length]::e.drop (st.length+1):=abv kh
 obtain⟨m,hm⟩:∃m,e.length-st.length=m+1:=⟨e.length-st.length-1,by omega⟩
 rw[hd]at bq;rw[ai kh,hm];simp only[aaU,Ij];generalize uB:(e[st.length].1:Int)=op;rw[jY]at bq;rw[uB]at bq;have Zy:=vM op
 refine Wp.dec (λh=> .some ?_) λFe=>?_
 .rw[acU h]at bq
  show _=_
  rw[<-bq]
 rw[acT Fe]at bq
 refine Wp.dec (λh=> .some ?_) λhlen=>?_
 .rw[acU (by simpa using h)]at bq
  show _=_
  rw[<-bq]
 have hlen:¬(sk.length:Int)<ar op:=by simpa using hlen
 rw[acT hlen]at bq
 obtain⟨a,ha⟩:∃a:Nat,ar op=a:=⟨(ar op).toNat,by omega⟩
 rw[ha]at bq Fe hlen Zy⊢
 have Zz:a<=sk.length:=by omega
 have e6:idx (gK st++abn (m+1) (0:Int)) (st.length:Int)=some 0:=by
  rw[ai (by simp)];rw[List.getElem_append_right (by simp)];simp
 rw[e6]
 have hw:aaV.wrap (((gK sk).length:Int)-(a:Int))=((sk.length-a:Nat):Int):=by
  rw[ab0,dj (by omega) (by omega)];omega
 have hs:Kc (a:Int) st.length sk=(if a=0 then st.length else sk.getD (sk.length-a) 0):=by
  unfold Kc;by_cases h0:a=0
  .subst h0;simp
  .rw[acT (by omega),acT h0,aa3]
 simp only[aaU,Kv,hw];refine Wp.seq (· =gK (st++[Kc (a:Int) st.length sk])++abn m (0:Int)) ?_ ?_
 .refine Wp.dec (λh=>?_) λh=>?_
  .have ag:sk.length-a<(gK sk).length:=by simp;omega
   rw[ai ag]
   have e9:idx (gK (st++[st.length])++abn m (0:Int)) (st.length:Int)=some (st.length:Int):=by
    rw[ai (by simp)];rw[List.getElem_append_left (by simp)];simp
   simp only[aaU,e9,List.getElem_map,Fc];refine .some ?_;rw[hs,acT (by omega),show sk.getD (sk.length-a) 0=sk[sk.length-a]'(by simpa using ag) by simp[List.getD,show sk.length-a<sk.length by omega]]
  .refine .some ?_;rw[hs,acU (by omega)]
 .rintro _ rfl
  generalize Kc (a:Int) st.length sk=s at bq⊢
  have Ar:dX (gK sk) (0:Int) ((sk.length-a:Nat):Int)=some (gK (sk.take (sk.length-a))):=by
   rw[oj (by simp)];simp
  have ZA:idx (gK (st++[s])++abn m (0:Int)) (st.length:Int)=some (s:Int):=by
   rw[ai (by simp)];rw[List.getElem_append_left (by simp)];simp
  have UQ:bK (gK (sk.take (sk.length-a))) [(s:Int)]=some (gK (sk.take (sk.length-a)++[s])):=by
   rw[gr (by simp;omega)];simp
  rw[Ar];simp only[aaU,ZA,UQ]
  have hl:(gK (sk.take (sk.length-a)++[s])).length=sk.length-a+1:=by simp
  rw[hl];rw[aa3]at bq
  refine Wp.dec (λh=> .some ?_) λh=> .some ?_
  .rw[acU (by omega)]at bq
   show _=_
   rw[<-bq]
  .rw[acT (by omega)]at bq;rw[aQ (by omega)];refine⟨⟨st++[s],sk.take (sk.length-a)++[s],?_,by simp;omega,by simp;omega,?_⟩,by simp only;omega⟩
   .have:e.length-(st++[s]).length=m:=by simp;omega
    rw[this];simp
   .rw[aba];exact bq
theorem zK.all(s:pu):zK s:=λe hw=>by
 apply Wp.eq;unfold M.k9;simp only[BR,Ij,Ik,W_,acY,acZ,reduceCtorEq];refine⟨λh=>by unfold E2;rw[acU h],λh0=>?_⟩;obtain⟨VW,cA,cG,Zk,FJ⟩:=C6 h0
 have hT:E2 e s=match kQ s e 0 []with
  | .inl (i,c)=>(((0:Int),(0:Int)),(i:Int),c)
  | .inr jC=>(jC.headD ((0:Int),(0:Int)),0,0):=by unfold E2;rw[acT (by omega)]<;>cases kQ s e 0 []<;>rfl
 refine Wp.count (λs=>s.1) e.length (λk q=>∃st sk,q.2.length=sk.length/\jY e 0 [] []=jY (e.drop k) k st sk/\kQ s e 0 []=kQ s (e.drop k) k q.2/\q.2.length<=k/\(0<k->q.2≠[])/\∀t∈q.2,oz t) (by omega) rfl ⟨[],[],rfl,rfl,rfl,aaX _,λh=>by omega,λ_ h=>by cases h⟩ λk q hk hs hJ=>?_
 obtain⟨i,jC⟩:=q;obtain⟨st,sk,hl,hr,ht,JA,mV,MP⟩:=hJ;dsimp only at hs hl ht JA mV MP;subst hs;simp only[W_,acY,acZ,reduceCtorEq,av,ao];refine⟨λag=>?_,λhge=>?_⟩
 .have ag:k<e.length:=by omega
  rw[abv ag,jY]at hr;rw[abv ag,kQ]at ht;rw[FJ]at hr;have UG:=vM e[k].1;split at hr
  .cases hr
  split at hr
  .cases hr
  split at hr
  .cases hr
  rename_i Zl Zm Zn
  have w1:aaV.wrap ((jC.length:Int)-ar e[k].1)=((jC.length-(ar e[k].1).toNat:Nat):Int):=by rw[dj (by omega) (by omega)];omega
  have hd:((jC.drop (jC.length-(ar e[k].1).toNat)).length:Int)=ar e[k].1:=by rw[List.length_drop];omega
  have V0:=hw _ (aaZ ag)
  have V2:∀t∈jC.drop (jC.length-(ar e[k].1).toNat),oz t:=λt h=>MP t (List.mem_of_mem_drop h)
  have hp:=PK e[k] _ s V0 hd V2;have wi:=Ku e[k] _ s V0 hd V2
  have bad:∀c:Int,c≠0->(HW e[k] (jC.drop (jC.length-(ar e[k].1).toNat)) s).2=c->(((0:Int),(0:Int)),(k:Int),c)=E2 e s:=λc h0 hc=>by
   rw[hT,ht,acU (by rw[hc];exact h0),hc]
  have rest:¬((e[k].2:Int)≠0/\¬((1<=(e[k].1:Int)/\(e[k].1:Int)<=8)\/(14<=(e[k].1:Int)/\(e[k].1:Int)<=16)\/(e[k].1:Int)=33\/(e[k].1:Int)=34\/(36<=(e[k].1:Int)/\(e[k].1:Int)<=39)))->M.aI aW e[k] (jC.drop (jC.length-(ar e[k].1).toNat)) s=some (HW e[k] (jC.drop (jC.length-(ar e[k].1).toNat)) s):=λh=>by
   rw[<-hp];exact(acT h).symm
  have cond:((e[k].2:Int)≠0/\¬((1<=(e[k].1:Int)/\(e[k].1:Int)<=8)\/(14<=(e[k].1:Int)/\(e[k].1:Int)<=16)\/(e[k].1:Int)=33\/(e[k].1:Int)=34\/(36<=(e[k].1:Int)/\(e[k].1:Int)<=39)))->(HW e[k] (jC.drop (jC.length-(ar e[k].1).toNat)) s).2=2:=λh=>by
   have:some (HW e[k] (jC.drop (jC.length-(ar e[k].1).toNat)) s)=some (((0:Int),(0:Int)),(2:Int)):=by
    rw[<-hp];exact acU h
   rw[aaT this]
  have good:¬((e[k].2:Int)≠0/\¬((1<=(e[k].1:Int)/\(e[k].1:Int)<=8)\/(14<=(e[k].1:Int)/\(e[k].1:Int)<=16)\/(e[k].1:Int)=33\/(e[k].1:Int)=34\/(36<=(e[k].1:Int)/\(e[k].1:Int)<=39)))->Wp (M.aI aW e[k] (jC.drop (jC.length-(ar e[k].1).toNat)) s) λy9=>(¬(y9.2:Int)=0->(((0:Int),(0:Int)),(k:Int),y9.2)=E2 e s)/\((y9.2:Int)=0->Wp (bK (jC.take (jC.length-(ar e[k].1).toNat)) [y9.1]) λx=>k<e.length/\aaV.wrap ((k:Int)+1)=((k+1:Nat):Int)/\∃st sk,x.length=sk.length/\jY e 0 [] []=jY (e.drop (k+1)) (k+1) st sk/\kQ s e 0 []=kQ s (e.drop (k+1)) (k+1) x/\x.length<=k+1/\(0<k+1->x≠[])/\∀t∈x,oz t):=λh=>by
   rw[rest h];refine .some ⟨λhc=>bad _ hc rfl,λhc=>?_⟩;rw[acT (λg=>g hc)]at ht;refine gF.2 ⟨by rw[abb];simp;omega,ag,bz (m:=e.length) (by omega) ag,_,_,?_,FJ.trans hr,ht,?_,λ_=>by simp,λt h=>?_⟩
   .simp only[aba,abb,aa6,abS,hl]
   .simp only[aba,abb,aa6,abS];omega
   .rcases aa9.1 h with h|h
    .exact MP t (List.mem_of_mem_take h)
    .rw[aa5.1 h];exact wi hc
  simp only[ai ag,w1,oj (show jC.length-(ar e[k].1).toNat<=jC.length by omega),pW (l:=jC) (jC.length-(ar e[k].1).toNat) jC.length rfl rfl (by omega) (aaX _),abg,W_,acY,acZ,reduceCtorEq];exact⟨λh1=>⟨λh2=>bad 2 (by decide) (cond ⟨h1,h2⟩),λh2=>good λg=>g.2 h2⟩,λh1=>good λg=>g.1 h1⟩
 .obtain rfl:k=e.length:=by omega
  rw[List.drop_length,kQ]at ht;rw[hT,ht];have:jC≠[]:=mV (List.length_pos_iff.2 cA);obtain⟨a,l,rfl⟩:=List.exists_cons_of_ne_nil this;exact cT.2 ⟨by simp,rfl⟩
end L
namespace L
inductive Jd(D:Int->Int->Prop):Int->Int->Prop
 |one {a b:Int} (h:D a b):Jd D a b
 |step {a b c:Int} (h:Jd D a b) (g:D b c):Jd D a c
def Dp(s:jZ)(a b:Int):Prop:=b∈gL s a
theorem tY{y:Int}:∀{l out:List Int},y∈l.foldl (λo z=>ins z o) out↔y∈l\/y∈out
 |[],_=>by simp
 |x::l,out=>by
  rw[abN,tY (l:=l),ll,aa7];exact⟨λh=>by rcases h with h|h|h<;>simp[h],λh=>by rcases h with(h|h)|h<;>simp[h]⟩
theorem lX(s:jZ){out:List Int}{y:Int}:y∈stepT s out↔y∈out\/∃x∈out,Dp s x y:=by
 unfold stepT
 suffices∀(l o:List Int),y∈l.foldl (λo x=>(gL s x).foldl (λo y=>ins y o) o) o↔y∈o\/∃x∈l,Dp s x y from this _ _
 intro l
 induction l with
 |nil=>intro o;simp
 |cons x l ih=>
  intro o;rw[abN,ih,tY];unfold Dp;constructor
  .rintro((h|h)|⟨z,hz,h⟩)
   .exact .inr ⟨x,by simp,h⟩
   .exact .inl h
   .exact .inr ⟨z,by simp[hz],h⟩
  .rintro(h|⟨z,hz,h⟩)
   .exact .inl (.inr h)
   .rcases aa7.1 hz with rfl|hz
    .exact .inl (.inl h)
    .exact .inr ⟨z,hz,h⟩
theorem nJ(s:jZ)(d:Int):∀n y,y∈gM s n (gL s d)->Jd (Dp s) d y
 |0,y,h=> .one h
 |n+1,y,h=>by
  rcases(lX s).1 h with h|⟨x,hx,h⟩
  .exact nJ s d n y h
  .exact .step (nJ s d n x hx) h
theorem Ff{l m:List Int}(hl:l.Pairwise (· < ·))(hm:m.Pairwise (· < ·))(h:∀y,y∈l↔y∈m):l=m:=by
 induction l generalizing m with
 |nil=>
  cases m with
  |nil=>rfl
  |cons y m=>exact absurd ((h y).2 (by simp)) (by simp)
 |cons x l ih=>
  cases m with
  |nil=>exact absurd ((h x).1 (by simp)) (by simp)
  |cons y m=>
   obtain⟨h1,h2⟩:=abr.1 hl;obtain⟨g1,g2⟩:=abr.1 hm
   have e:x=y:=by
    rcases aa7.1 ((h x).1 (by simp))with e|e
    .exact e
    .rcases aa7.1 ((h y).2 (by simp))with e'|e'
     .exact e'.symm
     .have:=g1 x e;have:=h1 y e';omega
   subst e
   congr 1
   refine ih h2 g2 λz=>?_
   have:=h z;rw[aa7,aa7]at this;constructor
   .intro hz
    rcases this.1 (.inr hz)with rfl|hz'
    .have:=h1 z hz;omega
    .exact hz'
   .intro hz
    rcases this.2 (.inr hz)with rfl|hz'
    .have:=g1 z hz;omega
    .exact hz'
theorem Fg{l:List Int}:∀{m:List Int},l.Nodup->(∀y,y∈l->y∈m)->l.length<=m.length:=by
 induction l with
 |nil=>intro m _ _;simp
 |cons x l ih=>
  intro m hn h;obtain⟨h1,h2⟩:=List.nodup_cons.1 hn;have hx:=h x (by simp)
  have:=ih (m:=m.erase x) h2 λy hy=>(List.mem_erase_of_ne (λe:y=x=>h1 (by rw[<-e];exact hy))).2 (h y (by simp[hy]))
  rw[List.length_erase_of_mem hx]at this;have:=List.length_pos_of_mem hx;simp only[aa6];omega
theorem De{l m:List Int}(hl:l.Pairwise (· < ·))(_:m.Pairwise (· < ·))(h:∀y,y∈l->y∈m)(hx:∃y,y∈m/\y∉l):l.length<m.length:=by
 have nd:l.Nodup:=hl.imp λh=>by omega
 obtain⟨y,hy,hn⟩:=hx;have ZB:(y::l).Nodup:=List.nodup_cons.2 ⟨hn,nd⟩
 have:(y::l).length<=m.length:=Fg ZB λz hz=>by
  rcases aa7.1 hz with rfl|hz
  .exact hy
  .exact h z hz
 simp only[aa6]at this;omega
theorem xm(s:jZ)(d:Int):(∀n,n<=s.2.2.2.1.length->(stepT s (gM s n (gL s d))=gM s n (gL s d)\/n<=(gM s n (gL s d)).length)):=by
 have srt:∀m,oJ s.2.2.2.1.length (gM s m (gL s d)):=λm=>by
  induction m with
  |zero=>exact jO s d
  |succ m ih=>exact ol s ih
 intro n
 induction n with
 |zero=>intro _;exact .inr (Nat.zero_le _)
 |succ n ih=>
  intro hn
  rcases ih (by omega)with h|h
  .left
   show stepT s (stepT s (gM s n (gL s d)))=stepT s (gM s n (gL s d))
   rw[h,h]
  .by_cases hx:∃y,y∈stepT s (gM s n (gL s d))/\y∉gM s n (gL s d)
   .right
    have:=De (srt n).1 (ol s (srt n)).1 (λy hy=>(lX s).2 (.inl hy)) hx
    show n+1<=(stepT s (gM s n (gL s d))).length
    omega
   .left
    have:stepT s (gM s n (gL s d))=gM s n (gL s d):=Ff (ol s (srt n)).1 (srt n).1 λy=>⟨λh=>ack.1 λhn=>hx ⟨y,h,hn⟩,λh=>(lX s).2 (.inl h)⟩
    show stepT s (stepT s (gM s n (gL s d)))=stepT s (gM s n (gL s d))
    rw[this,this]
theorem Kw(s:jZ)(d y:Int):y∈xg s d↔Jd (Dp s) d y:=by
 refine⟨λh=>nJ s d _ y h,λh=>?_⟩
 have closed:∀x z,x∈xg s d->Dp s x z->z∈xg s d:=by
  intro x z hx hz
  rcases xm s d s.2.2.2.1.length (aaX _)with h|h
  .have:z∈stepT s (gM s s.2.2.2.1.length (gL s d)):=(lX s).2 (.inr ⟨x,hx,hz⟩);rw[h]at this;exact this
  .have hs:=Db s d;have NE:=(jO s x).2 z hz
   refine ack.1 λhn=>?_
   have:=De (l:=xg s d) (m:=ins z (xg s d)) hs.1 (BJ hs.1) (λy hy=>ll.2 (.inr hy)) ⟨z,ll.2 (.inl rfl),hn⟩;have:=(hs.ins NE).len;have:s.2.2.2.1.length<=(xg s d).length:=h;omega
 have start:∀z,Dp s d z->z∈xg s d:=by
  intro z hz
  show z∈gM s s.2.2.2.1.length (gL s d)
  have:∀n,z∈gM s n (gL s d):=λn=>by
   induction n with
   |zero=>exact hz
   |succ n ih=>exact(lX s).2 (.inl ih)
  exact this _
 induction h with
 |one h=>exact start _ h
 |step _ g ih=>exact closed _ _ ih g
theorem zM(d:Array Int)(y:Int):∀m,y∈Go.Lib.compactUpTo d m↔∃j,j<m/\d[j]! =y
 |0=>by simp[Go.Lib.compactUpTo]
 |m+1=>by
  rw[Go.Lib.compactUpTo_succ,aa9,zM d y m];constructor
  .rintro(⟨j,hj,h⟩|h)
   .exact⟨j,by omega,h⟩
   .split at h
    .rw[aa5]at h;exact⟨m,by omega,h.symm⟩
    .cases h
  .rintro⟨j,hj,h⟩
   rcases abd.1 hj with h1|rfl
   .exact .inl ⟨j,h1,h⟩
   .by_cases hk:Go.Lib.keeps d j=acQ
    .right;rw[acU hk,aa5];exact h.symm
    .left
     unfold Go.Lib.keeps at hk;rw[ac1]at hk
     have h0:j≠0:=λe=>hk (.inl e)
     have h1:d[j]! =d[j-1]! :=ack.1 λe=>hk (.inr e)
     exact⟨j-1,by omega,by rw[<-h1];exact h⟩
theorem zN(l:List Int)(y:Int):y∈ab1 l↔y∈l:=by
 unfold ab1;rw[zM];constructor
 .rintro⟨j,hj,rfl⟩
  have:l.toArray[j]! =l[j]:=by simp[hj]
  rw[this];exact aaZ hj
 .intro h;obtain⟨j,hj,rfl⟩:=abD h;exact⟨j,hj,by simp[hj]⟩
theorem vR(l:List Int)(hl:l.length<=1000000):Wp ((M.cP aW l).bind λy1=>(M.cm aW y1).bind λy2=>some y2) λr=>r.length<=l.length/\∀y,y∈r↔y∈l:=by
 have e1:M.cP aW l=some (oF l):=by
  unfold M.cP zq;rw[acU (by omega)]
 have hs:(oF l).length=l.length:=List.length_mergeSort ..
 have e2:M.cm aW (oF l)=some (ab1 (oF l)):=by
  unfold M.cm nv;rw[acU (by omega)]
 rw[e1,aaU,e2];refine .some ⟨?_,λy=>?_⟩
 .have:=tI (oF l);omega
 .rw[zN];exact List.mem_mergeSort
theorem nK(l:List Int)(hl:l.length<=1000000):Wp (M.eB aW l) λr=>r.length<=l.length/\∀y,y∈r↔y∈l:=vR l hl
theorem xn(l:List Int)(hl:l.length<=1000000):Wp (M.iG aW l) λr=>r.length<=l.length/\∀y,y∈r↔y∈l:=vR l hl
def Fh(e:List Ty)(y:Int):Prop:=∃n∈e,(n.1:Int)=8/\(n.2:Int)=y
theorem BS(p:Int->Bool)(e:List Ty)(y:Int):y∈dI p e↔∃n∈e,p n.1=acQ/\(n.2:Int)=y:=by
 unfold dI
 suffices∀(e:List Ty)(l:List Int),y∈e.foldl (λl n=>if p n.1=acQ then ins n.2 l else l) l↔y∈l\/∃n∈e,p n.1=acQ/\(n.2:Int)=y by simpa using this e []
 intro e
 induction e with
 |nil=>intro l;simp
 |cons n e ih=>
  intro l;rw[abN,ih];split
  .rename_i h;rw[ll];constructor
   .rintro((h1|h1)|⟨q,hq,h1⟩)
    .exact .inr ⟨n,by simp,h,h1.symm⟩
    .exact .inl h1
    .exact .inr ⟨q,by simp[hq],h1⟩
   .rintro(h1|⟨q,hq,h1,h2⟩)
    .exact .inl (.inr h1)
    .rcases aa7.1 hq with rfl|hq
     .exact .inl (.inl h2.symm)
     .exact .inr ⟨q,hq,h1,h2⟩
  .rename_i h;constructor
   .rintro(h1|⟨q,hq,h1⟩)
    .exact .inl h1
    .exact .inr ⟨q,by simp[hq],h1⟩
   .rintro(h1|⟨q,hq,h1,h2⟩)
    .exact .inl h1
    .rcases aa7.1 hq with rfl|hq
     .exact absurd h1 h
     .exact .inr ⟨q,hq,h1,h2⟩
theorem rG(e:List Ty)(y:Int):y∈dI fR e↔Fh e y:=by
 rw[BS];unfold Fh fR;simp only[ac1]
theorem oL(e:List Ty)(he:e.length<=100000):Wp (M.fb aW e) λr=>r.2.1.length<=e.length/\∀y,y∈r.2.1↔Fh e y:=by
 unfold M.fb;rw[wp_bind]
 refine Wp.count (λs=>s.1) e.length (λk s=>(s.2.1.length<=k/\s.2.2.1.length<=k/\s.2.2.2.length<=k)/\∀y,y∈s.2.2.1↔∃j,∃h:j<e.length,j<k/\(e[j].1:Int)=8/\(e[j].2:Int)=y) (by omega) rfl ⟨by simp,λy=>by simp⟩ λk s hk hs hJ=>?_
 obtain⟨i,a,b,c⟩:=s;obtain⟨⟨l1,l2,l3⟩,hm⟩:=hJ;dsimp only at hs l1 l2 l3 hm;subst hs;simp only[W_,acY,acZ,reduceCtorEq,av,ao];refine⟨λag=>?_,λhge=>?_⟩
 .have ag:k<e.length:=by omega
  have nxt:∀b':List Int,(∀y,y∈b'↔y∈b\/((e[k].1:Int)=8/\(e[k].2:Int)=y))->∀y,y∈b'↔∃j,∃h:j<e.length,j<k+1/\(e[j].1:Int)=8/\(e[j].2:Int)=y:=λb' hb y=>by
   rw[hb,hm];constructor
   .rintro(⟨j,h,h1,h2⟩|h)
    .exact⟨j,h,by omega,h2⟩
    .exact⟨k,ag,by omega,h⟩
   .rintro⟨j,h,h1,h2⟩
    rcases abd.1 h1 with h3|rfl
    .exact .inl ⟨j,h,h3,h2⟩
    .exact .inr h2
  have same:(e[k].1:Int)≠8->∀y,y∈b↔∃j,∃h:j<e.length,j<k+1/\(e[j].1:Int)=8/\(e[j].2:Int)=y:=λh=>nxt b λy=>⟨.inl,λg=>g.resolve_right λg=>h g.1⟩
  simp only[ai ag,bz (m:=e.length) (by omega) ag,W_,acY,acZ,reduceCtorEq]
  have rD:∀(q:List Int)(v:Int)(Q:List Int->Prop),q.length<=k->Q (q++[v])->Wp (bK q [v]) Q:=λq v Q hq h=>gF.2 ⟨by simp;omega,h⟩
  refine⟨λh=>rD _ _ _ l1 ⟨ag,by simp;omega,same (by rw[h];decide)⟩,λ_=>⟨λh=>rD _ _ _ l2 ⟨ag,by simp;omega,nxt _ λy=>?_⟩,λh8=>?_⟩⟩
  .rw[aa9,aa5];exact⟨λg=>g.imp id λg=>⟨h,g.symm⟩,λg=>g.imp id λg=>g.2.symm⟩
  .have Kk:k<e.length/\(a.length<=k+1/\b.length<=k+1/\c.length<=k+1)/\∀y,y∈b↔∃j,∃h:j<e.length,j<k+1/\(e[j].1:Int)=8/\(e[j].2:Int)=y:=⟨ag,by omega,same h8⟩
   have Cc:Wp (bK c [(e[k].2:Int)]) λx=>k<e.length/\(a.length<=k+1/\b.length<=k+1/\x.length<=k+1)/\∀y,y∈b↔∃j,∃h:j<e.length,j<k+1/\(e[j].1:Int)=8/\(e[j].2:Int)=y:=rD _ _ _ l3 ⟨ag,by simp;omega,same h8⟩
   exact⟨λ_=>⟨λ_=>Cc,λ_=>Kk⟩,λ_=>⟨λ_=>⟨λ_=>Cc,λ_=>Kk⟩,λ_=>⟨λ_=>⟨λ_=>Cc,λ_=>Kk⟩,λ_=>⟨λ_=>Cc,λ_=>Kk⟩⟩⟩⟩
 .refine(nK a (by omega)).mono λ_ _=>?_
  refine(nK b (by omega)).mono λr hr=>?_
  refine(nK c (by omega)).mono λ_ _=>?_
  refine⟨by omega,λy=>?_⟩;rw[hr.2,hm];unfold Fh;constructor
  .rintro⟨j,h,_,h2⟩
   exact⟨_,aaZ h,h2⟩
  .rintro⟨n,hn,h⟩
   obtain⟨j,hj,rfl⟩:=abD hn;exact⟨j,hj,by omega,h⟩
def BU(r:iv)(n:Nat)(y:Int):Prop:=(Fh r.2.2.2.2.2.1 y\/Fh r.2.2.2.2.2.2.1 y)/\0<=y/\y<(n:Int)
theorem Df(l o:List Int)(n:Nat)(hl:l.length<=100000)(ho:o.length<=100000):Wp (Loop (S:=Int×List Int) (X:=List Int) (λs4=>
 (if(decide (s4.1<(l.length:Int)))=acQ then
 ((idx l s4.1).bind λx6=>
 ((if(decide ((0:Int)<=x6))=acQ then
 some (decide (x6<(n:Int)))
 else
 some acR):Option (Bool)).bind λj7=>
 (if j7=acQ then
 (bK s4.2 ([x6]:List Int)).bind λl8=>
 some l8
 else
 some s4.2):Option (List Int)).bind λj5=>
 some (Sum.inl (aaV.wrap (s4.1+(1:Int)),j5))
 else
 some (Sum.inr s4.2))) aW ((0:Int),o)) λr=>r.length<=o.length+l.length/\∀y,y∈r↔y∈o\/(y∈l/\0<=y/\y<(n:Int)):=by
 refine Wp.count (λs=>s.1) l.length (λk s=>s.2.length<=o.length+k/\∀y,y∈s.2↔y∈o\/((∃j,∃h:j<l.length,j<k/\l[j]=y)/\0<=y/\y<(n:Int))) (by omega) rfl ⟨by simp,λy=>by simp⟩ λk s hk hs hJ=>?_
 obtain⟨i,q⟩:=s;obtain⟨h1,hm⟩:=hJ;dsimp only at hs h1 hm;subst hs;simp only[W_,acY,acZ,reduceCtorEq,av,ao];refine⟨λag=>?_,λhge=>?_⟩
 .have ag:k<l.length:=by omega
  simp only[ai ag,bz (m:=l.length) (by omega) ag,W_,acY,acZ,reduceCtorEq]
  have keep:¬(0<=l[k]/\l[k]<(n:Int))->k<l.length/\q.length<=o.length+(k+1)/\∀y,y∈q↔y∈o\/((∃j,∃h:j<l.length,j<k+1/\l[j]=y)/\0<=y/\y<(n:Int)):=λhn=>⟨ag,by omega,λy=>by
   rw[hm];refine or_congr Iff.rfl (and_congr_left λhy=>⟨λ⟨j,h,h1,h2⟩=>⟨j,h,by omega,h2⟩,λ⟨j,h,h1,h2⟩=>?_⟩)
   rcases abd.1 h1 with h3|rfl
   .exact⟨j,h,h3,h2⟩
   .exact absurd (h2▸hy) hn⟩
  refine⟨λh0=>⟨λsI=>gF.2 ⟨by simp;omega,ag,by simp;omega,λy=>?_⟩,λsI=>keep λg=>sI g.2⟩,λh0=>keep λg=>h0 g.1⟩;rw[aa9,aa5,hm];constructor
  .rintro((h|⟨⟨j,h,h2,h3⟩,h4⟩)|rfl)
   .exact .inl h
   .exact .inr ⟨⟨j,h,by omega,h3⟩,h4⟩
   .exact .inr ⟨⟨k,ag,by omega,rfl⟩,h0,sI⟩
  .rintro(h|⟨⟨j,h,h2,h3⟩,h4⟩)
   .exact .inl (.inl h)
   .rcases abd.1 h2 with h5|rfl
    .exact .inl (.inr ⟨⟨j,h,h5,h3⟩,h4⟩)
    .exact .inr h3.symm
 .refine⟨by omega,λy=>?_⟩;rw[hm];refine or_congr Iff.rfl (and_congr_left λhy=>⟨λ⟨j,h,_,h2⟩=>h2▸aaZ h,λh=>?_⟩);obtain⟨j,hj,e⟩:=abD h;exact⟨j,hj,by omega,e⟩
theorem Fi(r:iv)(n:Nat)(h1:r.2.2.2.2.2.1.length<=50)(h2:r.2.2.2.2.2.2.1.length<=50):Wp (M.eU aW r (n:Int)) λl=>l.length<=100/\∀y,y∈l↔BU r n y:=by
 unfold M.eU;rw[wp_bind]
 refine(oL _ (by omega)).mono λa ha=>?_
 rw[wp_bind]
 refine(oL _ (by omega)).mono λb hb=>?_
 rw[wp_bind]
 refine(Df a.2.1 [] n (by omega) (by simp)).mono λc hc=>?_
 have Bx:=hc.1;simp only[abS]at Bx
 refine(Df b.2.1 c n (by omega) (by omega)).mono λq hq=>⟨by omega,λy=>?_⟩
 rw[hq.2,hc.2,ha.2,hb.2];unfold BU;constructor
 .rintro((h|h)|h)
  .cases h
  .exact⟨.inl h.1,h.2⟩
  .exact⟨.inr h.1,h.2⟩
 .rintro⟨h|h,h3⟩
  .exact .inl (.inr ⟨h,h3⟩)
  .exact .inr ⟨h,h3⟩
theorem ra(n:Nat)(y:Int):∀(l out:List Int),y∈ja n out l↔y∈out\/(y∈l/\0<=y/\y<(n:Int))
 |[],out=>by show y∈out↔_;simp
 |x::l,out=>by
  show y∈ja n (if 0<=x/\x<(n:Int)then ins x out else out) l↔_
  rw[ra n y l];split
  .rename_i h;rw[ll,aa7];constructor
   .rintro((rfl|h1)|⟨h1,h2⟩)
    .exact .inr ⟨.inl rfl,h⟩
    .exact .inl h1
    .exact .inr ⟨.inr h1,h2⟩
   .rintro(h1|⟨h1|h1,h2⟩)
    .exact .inl (.inr h1)
    .exact .inl (.inl h1)
    .exact .inr ⟨h1,h2⟩
  .rename_i h;rw[aa7];constructor
   .rintro(h1|⟨h1,h2⟩)
    .exact .inl h1
    .exact .inr ⟨.inr h1,h2⟩
   .rintro(h1|⟨h1|h1,h2⟩)
    .exact .inl h1
    .exact absurd (h1▸h2) h
    .exact .inr ⟨h1,h2⟩
theorem Io(s:jZ)(d y:Int):Dp s d y↔(0<=d/\d<(s.2.2.2.1.length:Int))/\∃r∈s.2.2.2.2,(r.2.1:Int)=d/\BU r s.2.2.2.1.length y:=by
 unfold Dp gL;split
 .rename_i hd
  suffices∀(rs:List iv)(out:List Int),y∈rs.foldl (λout r=>if(r.2.1:Int)=d then ja s.2.2.2.1.length (ja s.2.2.2.1.length out (dI fR r.2.2.2.2.2.1)) (dI fR r.2.2.2.2.2.2.1)else out) out↔y∈out\/∃r∈rs,(r.2.1:Int)=d/\BU r s.2.2.2.1.length y by
   rw[this];simp[hd]
  intro rs
  induction rs with
  |nil=>intro out;simp
  |cons r rs ih=>
   intro out;rw[abN,ih];split
   .rename_i h;rw[ra,ra,rG,rG];unfold BU;constructor
    .rintro(((h1|h1)|h1)|⟨q,hq,h1⟩)
     .exact .inl h1
     .exact .inr ⟨r,by simp,h, .inl h1.1,h1.2⟩
     .exact .inr ⟨r,by simp,h, .inr h1.1,h1.2⟩
     .exact .inr ⟨q,by simp[hq],h1⟩
    .rintro(h1|⟨q,hq,h1,h2,h3⟩)
     .exact .inl (.inl (.inl h1))
     .rcases aa7.1 hq with rfl|hq
      .rcases h2 with h2|h2
       .exact .inl (.inl (.inr ⟨h2,h3⟩))
       .exact .inl (.inr ⟨h2,h3⟩)
      .exact .inr ⟨q,hq,h1,h2,h3⟩
   .rename_i h;constructor
    .rintro(h1|⟨q,hq,h1⟩)
     .exact .inl h1
     .exact .inr ⟨q,by simp[hq],h1⟩
    .rintro(h1|⟨q,hq,h1,h2⟩)
     .exact .inl h1
     .rcases aa7.1 hq with rfl|hq
      .exact absurd h1 h
      .exact .inr ⟨q,hq,h1,h2⟩
 .rename_i hd;simp[hd]
def PL(s:jZ)(L:List (List Int)):Prop:=L.length=s.2.2.2.1.length/\∀d,∀h:d<L.length,L[d].length<=6000/\∀y,y∈L[d]↔Dp s (d:Int) y
theorem xo(s:jZ)(hs:nC s):Wp (M.iH aW s) (PL s):=by
 have UL:=hs.2.2.1;have QD:=hs.2.2.2.1;have ZC:=hs.2.2.2.2.2.2;unfold M.iH;rw[wp_bind];refine mB.2 ⟨by omega,?_⟩;rw[wp_bind,aa3]
 refine Wp.count (λs=>s.1) s.2.2.2.2.length (λk q=>q.2.length=s.2.2.2.1.length/\∀d,∀h:d<q.2.length,q.2[d].length<=100*k/\∀y,y∈q.2[d]↔∃j,∃h:j<s.2.2.2.2.length,j<k/\(s.2.2.2.2[j].2.1:Int)=(d:Int)/\BU s.2.2.2.2[j] s.2.2.2.1.length y) (by omega) rfl ⟨by simp,λd h=>by simp⟩ λk q hk o7 hJ=>?_
 obtain⟨i,q⟩:=q;obtain⟨hl,hm⟩:=hJ;dsimp only at o7 hl hm;subst o7;simp only[W_,acY,acZ,reduceCtorEq,av,ao];refine⟨λag=>?_,λhge=>?_⟩
 .have ag:k<s.2.2.2.2.length:=by omega
  have V3:=ZC _ (aaZ ag);simp only[ai ag,bz (m:=s.2.2.2.2.length) (by omega) ag,hl,W_,acY,acZ,reduceCtorEq]
  have I1:∀d,∀h:d<q.length,(¬(s.2.2.2.2[k].2.1:Int)=(d:Int))->q[d].length<=100*(k+1)/\∀y,y∈q[d]↔∃j,∃h:j<s.2.2.2.2.length,j<k+1/\(s.2.2.2.2[j].2.1:Int)=(d:Int)/\BU s.2.2.2.2[j] s.2.2.2.1.length y:=λd h hn=>⟨by have:=(hm d h).1;omega,λy=>by
   rw[(hm d h).2];constructor
   .rintro⟨j,h1,h2,h3⟩;exact⟨j,h1,by omega,h3⟩
   .rintro⟨j,h1,h2,h3,h4⟩
    rcases abd.1 h2 with h5|rfl
    .exact⟨j,h1,h5,h3,h4⟩
    .exact absurd h3 hn⟩
  have ZD:=Fi s.2.2.2.2[k] s.2.2.2.1.length V3.2.2.1 V3.2.2.2
  obtain⟨(v:Int),hv⟩:∃v:Int,v=s.2.2.2.2[k].2.1:=⟨_,rfl⟩
  simp only[<-hv]at I1⊢;refine⟨λh0=>⟨λh1=>?_,λh1=>⟨ag,λd h=>I1 d (by omega) λe=>h1 (e▸Int.ofNat_lt.2 h)⟩⟩,λh0=>⟨ag,λd h=>I1 d (by omega) λe=>h0 (e▸Int.natCast_nonneg d)⟩⟩;obtain⟨c,rfl⟩:=aa8 h0
  have hc:c<q.length:=by rw[hl];exact Int.ofNat_lt.1 h1
  simp only[ai hc,W_,acY,acZ,reduceCtorEq]
  refine ZD.mono λl9 h9=>gF.2 ⟨by have:=(hm c hc).1;omega,?_⟩
  refine⟨ag,by rw[jH];exact hl,λd h=>?_⟩
  have hd:d<q.length:=by rw[jH]at h;exact h
  rw[wA h hd]
  by_cases e:(c:Int)=(d:Int)
  .rw[acU e]
   have e:c=d:=by omega
   subst e;refine⟨by rw[aba];have:=(hm c hd).1;have:=h9.1;omega,λy=>?_⟩;rw[aa9,(hm c hd).2,h9.2];constructor
   .rintro(⟨j,h1,h2,h3⟩|h3)
    .exact⟨j,h1,by omega,h3⟩
    .exact⟨k,ag,by omega,hv.symm,h3⟩
   .rintro⟨j,h1,h2,h3,h4⟩
    rcases abd.1 h2 with h5|rfl
    .exact .inl ⟨j,h1,h5,h3,h4⟩
    .exact .inr h4
  .rw[acT e];exact I1 d hd e
 obtain rfl:k=s.2.2.2.2.length:=by omega
 have R2:∀d,∀h:d<q.length,q[d].length<=6000/\∀y,y∈q[d]↔Dp s (d:Int) y:=λd h=>⟨by have:=(hm d h).1;omega,λy=>by
  rw[(hm d h).2,Io];constructor
  .rintro⟨j,h1,_,h2,h3⟩
   exact⟨by omega,_,aaZ h1,h2,h3⟩
  .rintro⟨_,r,hr,h2,h3⟩
   obtain⟨j,hj,rfl⟩:=abD hr
   exact⟨j,hj,hj,h2,h3⟩⟩
 refine Wp.count (λs=>s.1) q.length (λk z=>z.2.length=q.length/\∀d,∀h:d<z.2.length,z.2[d].length<=6000/\∀y,y∈z.2[d]↔Dp s (d:Int) y) (by omega) rfl ⟨rfl,R2⟩ λk z hk o7 hJ=>?_
 obtain⟨i,z⟩:=z;obtain⟨zl,zm⟩:=hJ;dsimp only at o7 zl zm;subst o7;simp only[W_,acY,acZ,reduceCtorEq,av,ao];refine⟨λag=>?_,λhge=>⟨by rw[zl];exact hl,zm⟩⟩
 have ag:k<q.length:=by omega
 have V4:k<z.length:=by omega
 simp only[ai V4,bz (m:=q.length) (by omega) ag,W_,acY,acZ,reduceCtorEq]
 refine(xn z[k] (by have:=(zm k V4).1;omega)).mono λr hr=>⟨ag,by rw[jH];exact zl,λd h=>?_⟩
 have hd:d<z.length:=by rw[jH]at h;exact h
 rw[wA h hd]
 by_cases e:(k:Int)=(d:Int)
 .rw[acU e]
  have e:k=d:=by omega
  subst e;exact⟨by have:=(zm k hd).1;have:=hr.1;omega,λy=>by rw[hr.2];exact(zm k hd).2 y⟩
 .rw[acT e];exact zm d hd
def Sn(seen:List Bool)(y:Int):Prop:=0<=y/\seen[y.toNat]? =some acQ
theorem MQ{seen:List Bool}{x:Int}(hx:0<=x/\x.toNat<seen.length)(y:Int):Sn (bF seen x acQ) y↔y=x\/Sn seen y:=by
 unfold Sn bF;rw[List.getElem?_set];by_cases e:x.toNat=y.toNat
 .rw[acU e,acU hx.2];constructor
  .rintro⟨h,_⟩;exact .inl (by omega)
  .rintro(rfl|⟨h,_⟩)
   .exact⟨hx.1,rfl⟩
   .exact⟨h,rfl⟩
 .rw[acT e];constructor
  .exact .inr
  .rintro(rfl|h)
   .exact absurd rfl e
   .exact h
structure RI(D:Int->Int->Prop)(d0:Int)(n:Nat)(ex:Int->Prop)(seen:List Bool)(q:List Int):Prop where
 len:seen.length=n
 qo:∀x∈q,0<=x/\x<(n:Int)/\(x=d0\/Sn seen x)
 snd:∀y,Sn seen y->Jd D d0 y
 clo:∀x,(x=d0\/Sn seen x)->x∈q\/ex x\/∀y,D x y->Sn seen y
 bud:q.length+seen.count acR<=n+1
theorem BV(s:jZ)(L:List (List Int))(hL:PL s L)(d:Nat)(hd:d<s.2.2.2.1.length)(UL:s.2.2.2.1.length<=14):Wp (M.km aW L (d:Int)) λr=>r.length<=1000/\∀y,y∈r↔Jd (Dp s) (d:Int) y:=by
 obtain⟨hl,hL⟩:=hL
 have hD:∀a b,Dp s a b->0<=b/\b<(s.2.2.2.1.length:Int):=λa b h=>(jO s a).2 b h
 generalize s.2.2.2.1.length=n at*;unfold M.km;rw[wp_bind];refine mB.2 ⟨by omega,?_⟩;rw[wp_bind,aa3,hl]
 refine Wp.loop (λq=>RI (Dp s) (d:Int) n (λ_=>False) q.1 q.2) (λq=>2*q.1.count acR+q.2.length) ?_ ?_ λq hq=>?_
 .refine⟨by simp,λx hx=>?_,λy hy=>?_,λx hx=>?_,by simp;omega⟩
  .rw[aa5.1 hx];exact⟨by omega,by omega, .inl rfl⟩
  .exfalso;have:=hy.2;rw[List.getElem?_replicate]at this
   split at this<;>cases this
  .rcases hx with rfl|hx
   .exact .inl (by simp)
   .exfalso;have:=hx.2;rw[List.getElem?_replicate]at this
    split at this<;>cases this
 .simp[List.count_replicate];unfold aW;omega
 obtain⟨seen,q⟩:=q;dsimp only at hq;dsimp only
 have ZE:∀l:List Bool,l.count acR<=l.length:=λl=>List.count_le_length
 refine Wp.dec (λh0=>?_) λh0=>?_
 .have NZ:0<q.length:=by omega
  obtain⟨x,t,rfl⟩:=List.exists_cons_of_ne_nil (List.length_pos_iff.1 NZ);have hx:=hq.qo x (by simp);obtain⟨c,rfl⟩:=aa8 hx.1
  have hc:c<L.length:=by omega
  have i0:idx ((c:Int)::t) (0:Int)=some (c:Int):=rfl
  have Ar:dX ((c:Int)::t) (1:Int) (((c:Int)::t).length:Int)=some t:=by
   apply Wp.eq;refine wp_cut.2 ⟨by simp;omega,?_⟩;rw[aa3,abg];rfl
  rw[i0,aaU,Ar,aaU,ai hc,aaU]
  have NL:∀y,Dp s (c:Int) y->Jd (Dp s) (d:Int) y:=λy h=>by
   rcases hx.2.2 with e|e
   .exact .one (e▸h)
   .exact .step (hq.snd _ e) h
  have Ln:=(hL c hc).2;have Nd:=(hL c hc).1;have V5:=hq.bud;simp only[aa6]at V5;generalize L[c]=l at*
  refine Wp.count (λs=>s.1) l.length (λk z=>RI (Dp s) (d:Int) n (λy=>y=(c:Int)) z.2.1 z.2.2/\(∀j,j<k->∀h:j<l.length,Sn z.2.1 l[j])/\2*z.2.1.count acR+z.2.2.length<=2*seen.count acR+t.length) (by omega) rfl ⟨⟨hq.len,λx hx=>hq.qo x (by simp[hx]),hq.snd,λx hx=>?_,by dsimp only;omega⟩,λj hj=>by omega,aaX _⟩ λk z hk o7 hJ=>?_
  .rcases hq.clo x hx with h|h|h
   .rcases aa7.1 h with rfl|h
    .exact .inr (.inl rfl)
    .exact .inl h
   .exact h.elim
   .exact .inr (.inr h)
  obtain⟨i,sn,qu⟩:=z;obtain⟨hR,hP,hB⟩:=hJ;dsimp only at o7 hR hP hB;subst o7;simp only[W_,acY,acZ,reduceCtorEq,av,ao];refine⟨λag=>?_,λhge=>?_⟩
  .have ag:k<l.length:=by omega
   have hy:Dp s (c:Int) l[k]:=(Ln _).1 (aaZ ag);have PM:=hD _ _ hy;simp only[ai ag,bz (m:=l.length) (by omega) ag,W_,acY,acZ,reduceCtorEq]
   obtain⟨y,Of⟩:∃y,y=l[k]:=⟨_,rfl⟩
   simp only[<-Of]at hy PM⊢
   have QF:y.toNat<sn.length:=by rw[hR.len];omega
   refine cT.2 ⟨by rw[hR.len];omega,λhf=>cT.2 ⟨by rw[hR.len];omega,gF.2 ⟨?_,ag,?_⟩⟩,λht=>⟨ag,hR,aH hP λ_=>?_,hB⟩⟩
   .have:=hR.bud;simp;omega
   .have lY:=MQ (seen:=sn) (x:=y) ⟨PM.1,QF⟩
    have Kt:(bF sn y acQ).count acR+1=sn.count acR:=by
     unfold bF;rw[List.count_set QF];have h1:0<sn.count acR:=List.count_pos_iff.2 (hf▸aaZ QF);simp[hf];omega
    refine⟨⟨by unfold bF;simp[hR.len],λx hx=>?_,λz hz=>?_,λx hx=>?_,?_⟩,aH (λj hj h=>?_) λh=>?_,?_⟩
    .rcases aa9.1 hx with hx|hx
     .obtain⟨a1,a2,a3⟩:=hR.qo x hx;exact⟨a1,a2,a3.imp id λg=>(lY x).2 (.inr g)⟩
     .rw[aa5.1 hx];exact⟨PM.1,PM.2, .inr ((lY y).2 (.inl rfl))⟩
    .rcases(lY z).1 hz with rfl|hz
     .exact NL _ hy
     .exact hR.snd z hz
    .have go:x=(d:Int)\/Sn sn x->x∈qu++[y]\/x=(c:Int)\/∀z,Dp s x z->Sn (bF sn y acQ) z:=λg=>by
      rcases hR.clo x g with h|h|h
      .exact .inl (by simp[h])
      .exact .inr (.inl h)
      .exact .inr (.inr λz hz=>(lY z).2 (.inr (h z hz)))
     rcases hx with hx|hx
     .exact go (.inl hx)
     .rcases(lY x).1 hx with rfl|hx
      .exact .inl (by simp)
      .exact go (.inr hx)
    .have:=hR.bud;simp;omega
    .exact(lY _).2 (.inr (hP j hj h))
    .exact(lY _).2 (.inl Of.symm)
    .simp;omega
   .rw[<-Of];exact⟨PM.1,by rw[aaW QF,ht]⟩
  .obtain rfl:k=l.length:=by omega
   show HJ _ _ _ _ (.inl _)
   refine⟨⟨hR.len,hR.qo,hR.snd,λx hx=>?_,hR.bud⟩,?_⟩
   .rcases hR.clo x hx with h|h|h
    .exact .inl h
    .refine .inr (.inr λy hy=>?_);rw[h]at hy;obtain⟨j,hj,e⟩:=abD ((Ln y).2 hy);exact e▸hP j hj hj
    .exact .inr (.inr h)
   .show 2*sn.count acR+qu.length<2*seen.count acR+((c:Int)::t).length
    simp only[aa6];omega
 .have NZ:q=[]:=by
   cases q with
   |nil=>rfl
   |cons x t=>simp at h0
  subst NZ;refine .some ?_
  show Wp _ _
  have LM:∀y,Sn seen y↔Jd (Dp s) (d:Int) y:=λy=>⟨hq.snd y,λh=>by
   have cl:∀x,(x=(d:Int)\/Sn seen x)->∀z,Dp s x z->Sn seen z:=λx hx=>by
    rcases hq.clo x hx with h|h|h
    .cases h
    .exact h.elim
    .exact h
   induction h with
   |one h=>exact cl _ (.inl rfl) _ h
   |step _ g ih=>exact cl _ (.inr ih) _ g⟩
  have fq:=hq.len
  refine Wp.count (λs=>s.1) seen.length (λk z=>z.2.length<=k/\∀y,y∈z.2↔Sn seen y/\y<(k:Int)) (by omega) rfl ⟨by simp,λy=>⟨λh=>(by cases h),λh=>(by have:=h.1.1;have:=h.2;omega)⟩⟩ λk z hk o7 hJ=>?_
  obtain⟨i,o⟩:=z;obtain⟨ZF,hJ⟩:=hJ;dsimp only at o7 ZF hJ;subst o7;simp only[W_,acY,acZ,reduceCtorEq,av,ao];refine⟨λag=>?_,λhge=>⟨by omega,λy=>?_⟩⟩
  .have ag:k<seen.length:=by omega
   have Nc:Sn seen (k:Int)↔seen[k]=acQ:=by
    unfold Sn;rw[aa3,aaW ag];simp
   simp only[ai ag,bz (m:=seen.length) (by omega) ag,W_,acY,acZ,reduceCtorEq];refine⟨λh=>gF.2 ⟨by simp;omega,ag,by simp;omega,λy=>?_⟩,λh=>⟨ag,by omega,λy=>?_⟩⟩
   .rw[aa9,aa5,hJ];constructor
    .rintro(⟨h1,h2⟩|rfl)
     .exact⟨h1,by omega⟩
     .exact⟨Nc.2 h,by omega⟩
    .rintro⟨h1,h2⟩
     by_cases e:y=(k:Int)
     .exact .inr e
     .exact .inl ⟨h1,by omega⟩
   .rw[hJ];refine⟨λ⟨h1,h2⟩=>⟨h1,by omega⟩,λ⟨h1,h2⟩=>⟨h1,?_⟩⟩
    have:y≠(k:Int):=λe=>by
     rw[e,Nc,h]at h1;cases h1
    omega
  .rw[hJ,<-LM];refine⟨λh=>h.1,λh=>⟨h,?_⟩⟩;have:=(abj.1 h.2).1;have:=h.1;omega
theorem Fa.all(x:jZ)(hs:nC x):Fa x:=λd hd=>by
 have key:Wp (M.fc aW x (d:Int)) λtr=>tr.length<=1000/\∀y,y∈tr↔Jd (Dp x) (d:Int) y:=by
  unfold M.fc;rw[acT (by simp),aaU,acT (by simp;omega),wp_bind]
  refine(xo x hs).mono λL hL=>?_
  rw[wp_bind]
  exact(BV x L hL d hd hs.2.2.1).mono λr hr=> .some hr
 obtain⟨tr,e,h1,h2⟩:=key;exact⟨tr,e,h1,by rw[h2,Kw]⟩
theorem Kx(l:Lw)(hw:WF cC l)(mS:kR l):M.eV aW l=some (oy l):=
 zL l hw mS (λ_ _=>zK.all _) λx hx=>Fa.all x (mS.2.2.2.2.2 x hx)
end L
namespace L
def eM(a b:Nat):Nat:=a ^^^(a&&& b)
theorem bS(a b i:Nat):(eM a b).testBit i=(a.testBit i&& !b.testBit i):=by
 unfold eM;rw[Nat.testBit_xor,Nat.testBit_and]
 cases a.testBit i<;>cases b.testBit i<;>rfl
theorem kC{a:Nat}(h:a<9223372036854775808):(abZ 64 (a:Int)).toNat=a:=by
 rw[BitVec.ofInt_natCast,BitVec.toNat_ofNat];exact Nat.mod_eq_of_lt (by omega)
theorem wrap_i64{x:Nat}(h:x<9223372036854775808):aaV.wrap (x:Int)=(x:Int):=HK (by omega)
theorem Ip{a b:Nat}(ha:a<9223372036854775808)(hb:b<9223372036854775808):au .and .i64 (a:Int) (b:Int)=((a&&& b:Nat):Int):=by
 show aaV.wrap ((abZ 64 (a:Int)&&& abZ 64 (b:Int)).toNat:Int)=_
 rw[BitVec.toNat_and,kC ha,kC hb,wrap_i64 (Nat.lt_of_le_of_lt Nat.and_le_left ha)]
theorem PN{a b:Nat}(ha:a<9223372036854775808)(hb:b<9223372036854775808):au .xor .i64 (a:Int) (b:Int)=((a ^^^ b:Nat):Int):=by
 show aaV.wrap ((abZ 64 (a:Int)^^^ abZ 64 (b:Int)).toNat:Int)=_
 have h:a ^^^ b<2 ^ 63:=Nat.xor_lt_two_pow (by omega) (by omega);rw[BitVec.toNat_xor,kC ha,kC hb,wrap_i64 (by omega)]
theorem Fj{a b:Nat}(ha:a<9223372036854775808)(hb:b<9223372036854775808):au .andNot .i64 (a:Int) (b:Int)=((eM a b:Nat):Int):=by
 show aaV.wrap ((abZ 64 (a:Int)&&& ~~~abZ 64 (b:Int)).toNat:Int)=_
 have h:(abZ 64 (a:Int)&&& ~~~abZ 64 (b:Int)).toNat=eM a b:=by
  apply acg;intro i;rw[bS,BitVec.testBit_toNat,BitVec.getLsbD_and,BitVec.getLsbD_not,<-BitVec.testBit_toNat,<-BitVec.testBit_toNat,kC ha,kC hb];by_cases hi:i<64
  .simp[hi]
  .have:a.testBit i=acR:=Nat.testBit_lt_two_pow (abt ha (by have:=Nat.pow_le_pow_right (n:=2) (by omega) (show 63<=i by omega);omega));simp[hi,this]
 have hl:eM a b<=a:=by
  apply Nat.le_of_testBit;intro i;rw[bS]
  cases a.testBit i<;>simp
 rw[h,wrap_i64 (by omega)]
theorem Iq(a b:Nat):eM a b<=a:=by
 apply Nat.le_of_testBit;intro i;rw[bS]
 cases a.testBit i<;>simp
noncomputable def eI(a:Int):Int:=(M.fo 0 (aa0.wrap a)).getD 0
theorem xp(N:Nat)(a:Int):M.cr N (aa0.wrap a)=some (eI a):=by
 unfold M.cr eI;rfl
def MR(a b:Int):Int:=if a<b then-1 else if b<a then 1 else 0
theorem pe(N:Nat)(a b:Int):M.cmp_Compare_int N a b=some (MR a b):=by
 simp only[M.cmp_Compare_int,M.cmp_isNaN_int,aaU,decide_true,Bool.not_true,aa4,if_false,ac1,MR];split
 .rfl
 .split<;>rfl
theorem or_eq(a b c:Int):M.mu aW [a,b,c]=some (if a≠0 then a else if b≠0 then b else c):=by
 unfold M.mu;refine Wp.eq ?_
 refine Wp.count (λs=>s) 3 (λk _=>(1<=k->a=0)/\(2<=k->b=0)/\(3<=k->c=0)) (by omega) rfl ⟨by omega,by omega,by omega⟩ λk s hk hs hJ=>?_
 subst hs
 match k,hk with
 |0,_=>
  refine .dec (λ_=> .bind (.idx 0 rfl (show 0<3 by omega) ?_)) (λh=>absurd (show(0:Int)<3 by omega) h);refine .mA (λh=> .some ?_) (λh=> .some ?_)
  .show a=_
   rw[acU (show a≠0 from h)]
  .exact⟨by omega,by decide,λ_=>h,by omega,by omega⟩
 |1,_=>
  refine .dec (λ_=> .bind (.idx 1 rfl (show 1<3 by omega) ?_)) (λh=>absurd (show(1:Int)<3 by omega) h);have h0:=hJ.1 (by omega);refine .mA (λh=> .some ?_) (λh=> .some ?_)
  .show b=_
   rw[acT (by simpa using h0),acU (show b≠0 from h)]
  .exact⟨by omega,by decide,λ_=>h0,λ_=>h,by omega⟩
 |2,_=>
  refine .dec (λ_=> .bind (.idx 2 rfl (show 2<3 by omega) ?_)) (λh=>absurd (show(2:Int)<3 by omega) h);have h0:=hJ.1 (by omega);have h1:=hJ.2.1 (by omega);refine .mA (λh=> .some ?_) (λh=> .some ?_)
  .show c=_
   rw[acT (by simpa using h0),acT (by simpa using h1)]
  .exact⟨by omega,by decide,λ_=>h0,λ_=>h1,λ_=>h⟩
 |3,_=>
  have h0:=hJ.1 (by omega);have h1:=hJ.2.1 (by omega);have h2:=hJ.2.2 (by omega);refine .dec (λh=>absurd h (by simp)) (λ_=> .some ?_)
  show(0:Int)=_
  rw[acT (by simpa using h0),acT (by simpa using h1),h2]
def MS(a b c d:Int)(f g:Int):Int:=if f<g then-1 else if g<f then 1 else if a<c then-1 else if c<a then 1 else if b<d then-1 else if d<b then 1 else 0
theorem cmp_eq(a b c d:Int):M.bV aW (a,b) (c,d)=some (MS a b c d (eI a) (eI c)):=by
 unfold M.bV;rw[xp,aaU,xp,aaU,pe,aaU,pe,aaU,pe,aaU,or_eq,aaU];unfold MR MS;dsimp only
 congr 1
 generalize eI a=f;generalize eI c=g;by_cases h1:f<g
 .simp[h1]
 .by_cases h2:g<f
  .simp[h1,h2]
  .by_cases h3:a<c
   .simp[h1,h2,h3]
   .by_cases h4:c<a<;>simp[h1,h2,h3,h4]
def mU(x y:Int×Int):Prop:=eI x.1<eI y.1\/eI x.1=eI y.1/\(x.1<y.1\/x.1=y.1/\x.2<y.2)
theorem xq(x y:Int×Int):abJ (mQ λa b c d=>M.bV aW (a,b) (c,d)) x y=acQ↔mU x y:=by
 unfold abJ mQ
 show decide ((M.bV aW (x.1,x.2) (y.1,y.2)).getD 0<0)=acQ↔_
 rw[cmp_eq,Option.getD_some];unfold MS mU;generalize eI x.1=f;generalize eI y.1=g;rw[ac1]
 grind
theorem pf(x y:Int×Int):abJ (mQ λa b c d=>M.bV aW (a,b) (c,d)) x y=acR↔¬mU x y:=by
 rw[<-xq];simp
theorem PO:Hx λa b c d=>M.bV aW (a,b) (c,d) where
 all a b c d:=⟨_,cmp_eq a b c d⟩
 swo:=⟨λx=>by rw[pf];unfold mU;omega,λx y z h1 h2=>by rw[xq]at*;unfold mU at*;omega,λx y z h1 h2=>by rw[pf]at*;unfold mU at*;omega⟩
 tot x y h1 h2:=by
  rw[pf]at*;unfold mU at*
  refine Prod.ext ?_ ?_<;>omega
end L
namespace L
theorem fS{x m b:Nat}:x&&& m=b↔∀i,(x.testBit i&&m.testBit i)=b.testBit i:=by
 constructor
 .rintro rfl i;rw[Nat.testBit_and]
 .intro h;apply acg;intro i;rw[Nat.testBit_and];exact h i
theorem eY{b m:Nat}:b&&& m=b↔∀i,b.testBit i=acQ->m.testBit i=acQ:=by
 rw[fS];constructor
 .intro h i hb;have:=h i;rw[hb]at this;simpa using this
 .intro h i
  cases hb:b.testBit i with
  |false=>rfl
  |true=>rw[h i hb];rfl
theorem dE(j i:Nat):(2 ^ j).testBit i=decide (j=i):=Nat.testBit_two_pow
theorem xr{m n:Nat}(h:m<2 ^ n){i:Nat}(hi:m.testBit i=acQ):i<n:=by
 refine Classical.byContradiction λg=>?_
 rw[Nat.testBit_lt_two_pow (abt h (Nat.pow_le_pow_right (by omega) (by omega)))]at hi;cases hi
def pg(n:Nat)(S:Nat->Prop)(m b:Nat):Prop:=m<2 ^ n/\b&&& m=b/\∀x,x<2 ^ n->x&&& m=b->S x
theorem pg.lt{n:Nat}{S:Nat->Prop}{m b:Nat}(h:pg n S m b):b<2 ^ n:=Nat.lt_of_le_of_lt (by rw[<-h.2.1];exact Nat.and_le_right) h.1
theorem pg.merge{n:Nat}{S:Nat->Prop}{m b j:Nat}(h:pg n S m b)(g:pg n S m (b ^^^ 2 ^ j))(V6:m.testBit j=acQ):pg n S (eM m (2 ^ j)) (eM b (2 ^ j)):=by
 refine⟨Nat.lt_of_le_of_lt (Iq _ _) h.1,?_,λx hx hm=>?_⟩
 .rw[eY];intro i;rw[bS,bS];have:=eY.1 h.2.1 i;intro h2;simp only[abR]at h2⊢;exact⟨this h2.1,h2.2⟩
 .have hm:=fS.1 hm;by_cases I2:x.testBit j=b.testBit j
  .refine h.2.2 x hx (fS.2 λi=>?_);have h1:=hm i;rw[bS,bS,dE]at h1;by_cases e:j=i
   .subst e;rw[I2,V6];simp
   .simpa[e]using h1
  .refine g.2.2 x hx (fS.2 λi=>?_);have h1:=hm i;rw[bS,bS,dE]at h1;rw[Nat.testBit_xor,dE];by_cases e:j=i
   .subst e;rw[V6];cases hxx:x.testBit j<;>cases v7:b.testBit j<;>simp_all
   .simpa[e]using h1
theorem pg.wider{n:Nat}{S:Nat->Prop}{m b j:Nat}(h:pg n S m b)(hj:m.testBit j=acR)(hn:j<n):pg n S (m|||2 ^ j) b/\pg n S (m|||2 ^ j) (b ^^^ 2 ^ j):=by
 have ag:m|||2 ^ j<2 ^ n:=Nat.or_lt_two_pow h.1 (Nat.pow_lt_pow_right (by omega) hn)
 have hb:b.testBit j=acR:=by
  cases e:b.testBit j with
  |false=>rfl
  |true=>rw[eY.1 h.2.1 j e]at hj;cases hj
 refine⟨⟨ag,?_,λx hx hm=>h.2.2 x hx (fS.2 λi=>?_)⟩,⟨ag,?_,λx hx hm=>h.2.2 x hx (fS.2 λi=>?_)⟩⟩
 .rw[eY];intro i hi;rw[acr,eY.1 h.2.1 i hi];rfl
 .have:=fS.1 hm i;rw[acr,dE]at this;by_cases e:j=i
  .subst e;rw[hj,hb];simp
  .simpa[e]using this
 .rw[eY];intro i hi;rw[Nat.testBit_xor,dE]at hi;rw[acr,dE];by_cases e:j=i
  .simp[e]
  .have:b.testBit i=acQ:=by simpa[e]using hi
   rw[eY.1 h.2.1 i this];rfl
 .have:=fS.1 hm i;rw[acr,dE,Nat.testBit_xor,dE]at this;by_cases e:j=i
  .subst e;rw[hj,hb];simp
  .simpa[e]using this
theorem MT{m j:Nat}(h:m.testBit j=acR):eM (m|||2 ^ j) (2 ^ j)=m:=by
 apply acg;intro i;rw[bS,acr,dE];by_cases e:j=i
 .subst e;simp[h]
 .simp[e]
theorem tZ{b j:Nat}(h:b.testBit j=acR):eM b (2 ^ j)=b:=by
 apply acg;intro i;rw[bS,dE];by_cases e:j=i
 .subst e;simp[h]
 .simp[e]
theorem Ky(b j:Nat):eM (b ^^^ 2 ^ j) (2 ^ j)=eM b (2 ^ j):=by
 apply acg;intro i;rw[bS,bS,Nat.testBit_xor,dE]
 by_cases e:j=i<;>simp[e]
theorem Kz(b j:Nat):b ^^^ 2 ^ j ^^^ 2 ^ j=b:=by rw[Nat.xor_assoc,Nat.xor_self,Nat.xor_zero]
theorem zO{n i:Nat}(h:i<n):(2 ^ n-1).testBit i=acQ:=by rw[Nat.testBit_two_pow_sub_one];simpa using h
theorem BW{n:Nat}{S:Nat->Prop}{In:Nat->Nat->Prop}(h0:∀x,x<2 ^ n->S x->In (2 ^ n-1) x)
 (hc:∀m b j,j<n->m.testBit j=acQ->In m b->In m (b ^^^ 2 ^ j)->In (eM m (2 ^ j)) (eM b (2 ^ j))):∀k m b,2 ^ n-m=k->pg n S m b->In m b:=by
 intro k
 induction k using Nat.strongRecOn with
 |_ k ih=>
  intro m b hk h;by_cases hf:∃j,j<n/\m.testBit j=acR
  .obtain⟨j,hj,hm⟩:=hf;obtain⟨h1,h2⟩:=h.wider hm hj
   have hgt:m<m|||2 ^ j:=by
    refine Nat.lt_of_le_of_ne Nat.left_le_or λe=>?_
    have:(m|||2 ^ j).testBit j=acQ:=by rw[acr,dE];simp
    rw[<-e,hm]at this;cases this
   have ag:=h1.1;have:=hc (m|||2 ^ j) b j hj (by rw[acr,dE];simp) (ih _ (by omega) _ _ rfl h1) (ih _ (by omega) _ _ rfl h2)
   have hb:b.testBit j=acR:=by
    cases e:b.testBit j with
    |false=>rfl
    |true=>rw[eY.1 h.2.1 j e]at hm;cases hm
   rwa [MT hm,tZ hb]at this
  .have hm:m=2 ^ n-1:=by
    apply acg;intro i;rw[Nat.testBit_two_pow_sub_one];by_cases hi:i<n
    .cases e:m.testBit i with
     |true=>simp[hi]
     |false=>exact absurd ⟨i,hi,e⟩ hf
    .cases e:m.testBit i with
     |true=>exact absurd (xr h.1 e) hi
     |false=>simp[hi]
   subst hm;exact h0 b h.lt (h.2.2 b h.lt h.2.1)
theorem pg.full{n:Nat}{S:Nat->Prop}{x:Nat}(hx:x<2 ^ n)(hS:S x):pg n S (2 ^ n-1) x:=by
 have hp:0<2 ^ n:=Nat.two_pow_pos n;refine⟨by omega,?_,λy hy he=>?_⟩
 .rw[eY];intro i hi;exact zO (xr hx hi)
 .have:y&&&(2 ^ n-1)=y:=by rw[eY];intro i hi;exact zO (xr hy hi)
  rw[this]at he;subst he;exact hS
end L
namespace L
abbrev PS:Type:=List (aa.den×Bool)
def In(l:PS)(p:Int×Int):Prop:=(bn aa l p).getD acR=acQ
def xu(a b:Int×Int):Prop:=a.1<b.1\/a.1=b.1/\a.2<b.2
structure iW(l:PS):Prop where
 tr:∀e∈l,e.2=acQ
 srt:l.Pairwise λe f=>xu e.1 f.1
theorem xu.trans{a b c:Int×Int}(h:xu a b)(g:xu b c):xu a c:=by unfold xu at*;omega
theorem xu.total{a b:Int×Int}(h:¬xu a b)(g:b≠a):xu b a:=by
 have g:¬(b.1=a.1/\b.2=a.2):=λe=>g (Prod.ext e.1 e.2)
 unfold xu at*;omega
theorem jq(a b:Int×Int):b9 aa a b=acQ↔a=b:=by
 show decide ((a.1:Int)=b.1/\(a.2:Int)=b.2)=acQ↔_
 rw[ac1,Prod.ext_iff]
theorem jQ(a b:Int×Int):b9 aa a b=acR↔a≠b:=by rw[<-Bool.not_eq_true,ne_eq,jq]
theorem vS(a b:Int×Int):GN aa a b=acQ↔xu a b:=by
 show decide ((a.1:Int)<b.1\/((a.1:Int)=b.1/\(a.2:Int)<b.2))=acQ↔_
 rw[ac1];rfl
theorem iX:{l:PS}->{p:Int×Int}->(∀e∈l,e.2=acQ)->(In l p↔(p,acQ)∈l)
 |[],p,_=>by simp[In,bn]
 |q::l,p,h=>by
  have ih:=iX (l:=l) (p:=p) λe he=>h e (abz _ he)
  have hq:=h q abW;unfold In bn;by_cases e:b9 aa q.1 p=acQ
  .rw[acU e];have e':=(jq _ _).1 e;have:q=(p,acQ):=Prod.ext e' hq;simp[this]
  .rw[acT e]
   have e':q.1≠p:=λg=>e ((jq _ _).2 g)
   refine ih.trans ⟨λg=>abz _ g,λg=>?_⟩
   rcases aa7.1 g with g|g
   .exact absurd (by rw[<-g]) e'
   .exact g
theorem iW.nil:iW []:=⟨λe h=>by simp at h, .nil⟩
theorem ua{l:PS}{p:Int×Int}{v:Bool}{e:(Int×Int)×Bool}:e∈yq aa l p v↔e=(p,v)\/e∈l:=by rw[(n5 p v l).mem_iff,aa7]
theorem zP{p:Int×Int}{v:Bool}:{l:PS}->l.Pairwise (λe f=>xu e.1 f.1)->(∀e∈l,e.1≠p)->(yq aa l p v).Pairwise λe f=>xu e.1 f.1
 |[],_,_=>by simp[yq]
 |q::l,h,hn=>by
  obtain⟨h1,h2⟩:=abr.1 h;unfold yq;by_cases hk:GN aa p q.1=acQ
  .rw[acU hk];have hk:=(vS _ _).1 hk;refine abr.2 ⟨λe he=>?_,h⟩
   rcases aa7.1 he with rfl|he
   .exact hk
   .exact hk.trans (h1 e he)
  .rw[acT hk]
   have hk:¬xu p q.1:=λg=>hk ((vS _ _).2 g)
   refine abr.2 ⟨λe he=>?_,zP h2 λe he=>hn e (abz _ he)⟩
   rcases ua.1 he with rfl|he
   .exact xu.total hk (hn q abW)
   .exact h1 e he
theorem iW.put{l:PS}(h:iW l)(p:Int×Int):iW (ow aa l p acQ):=by
 refine⟨λe he=>?_,zP (h.srt.filter _) λe he=>?_⟩
 .rcases ua.1 he with rfl|he
  .rfl
  .exact h.tr e (abw.1 he).1
 .have:=(abw.1 he).2;intro e';rw[Bool.not_eq_true',jQ]at this;exact this e'
theorem xv{l:PS}(h:iW l){p q:Int×Int}:In (ow aa l p acQ) q↔q=p\/In l q:=by
 rw[iX (h.put p).tr,iX h.tr];unfold ow;rw[ua,abw,Bool.not_eq_true',jQ];constructor
 .rintro(e|⟨e,_⟩)
  .exact .inl (Prod.ext_iff.1 e).1
  .exact .inr e
 .rintro(rfl|e)
  .exact .inl rfl
  .by_cases g:q=p
   .exact .inl (by rw[g])
   .exact .inr ⟨e,g⟩
theorem KA{l:PS}(h:iW l){p:Int×Int}(hn:¬In l p):(ow aa l p acQ).length=l.length+1:=by
 unfold ow;refine(n5 (K:=aa) p acQ _).length_eq.trans ?_;rw[aa6,acy.2];intro e he;rw[Bool.not_eq_true',jQ];intro g;refine hn ((iX h.tr).2 ?_);have:e=(p,acQ):=Prod.ext g (h.tr e he);rw[<-this];exact he
theorem iW.ext{l m:PS}(h:iW l)(g:iW m)(e:∀p,In l p↔In m p):l=m:=by
 have AP:∀{l:PS},iW l->l.Nodup:=λh=>h.srt.imp λg e=>by
  subst e;unfold xu at g;omega
 have hm:∀a:aa.den×Bool,a∈l↔a∈m:=λa=>by
  constructor
  .intro ha;have:a=(a.1,acQ):=Prod.ext rfl (h.tr a ha);rw[this]at ha⊢;exact(iX g.tr).1 ((e _).1 ((iX h.tr).2 ha))
  .intro ha;have:a=(a.1,acQ):=Prod.ext rfl (g.tr a ha);rw[this]at ha⊢;exact(iX h.tr).1 ((e _).2 ((iX g.tr).2 ha))
 refine List.Perm.eq_of_pairwise (le:=λe f:aa.den×Bool=>xu e.1 f.1) (λa b _ _ h1 h2=>?_) h.srt g.srt ((List.perm_ext_iff_of_nodup (AP h) (AP g)).2 hm);unfold xu at h1 h2;omega
theorem oo{α:Type}:∀{A B:List α},A.Nodup->(∀x∈A,x∈B)->A.length<=B.length
 |[],_,_,_=>Nat.zero_le _
 |a::A,B,h,hs=>by
  obtain⟨h1,h2⟩:=List.nodup_cons.1 h;obtain⟨s,t,rfl⟩:=List.append_of_mem (hs a abW)
  have:=oo (A:=A) (B:=s++t) h2 λx hx=>by
   have:=hs x (abz _ hx)
   have cA:x≠a:=λe=>h1 (e▸hx)
   simp only[aa9,aa7]at this⊢
   rcases this with h|h|h
   .exact .inl h
   .exact absurd h cA
   .exact .inr h
  simp only[aba,aa6]at this⊢;omega
theorem iW.len{l:PS}(h:iW l)(k:Nat)(hk:∀p,In l p->∃m b:Nat,p=((m:Int),(b:Int))/\m<k/\b<k):l.length<=k*k:=by
 have:=oo (A:=l.map λe=>(e.1.1*k+e.1.2:Int)) (B:=(aa2 (k*k)).map λx:Nat=>(x:Int)) ?_ λx hx=>?_
 .simpa using this
 .rw[List.Nodup,List.pairwise_map];refine List.Pairwise.imp_of_mem (λ{e f}he hf ag=>?_) h.srt
  have key:∀{e:aa.den×Bool},e∈l->In l e.1:=λ{e}he=>(iX h.tr).2 (by rw[show(e.1,acQ)=e from Prod.ext rfl (h.tr e he).symm];exact he)
  obtain⟨m,b,e1,h1,h2⟩:=hk _ (key he);obtain⟨m',b',e2,h3,h4⟩:=hk _ (key hf);rw[e1,e2]at ag⊢;dsimp only[xu]at ag⊢;intro g
  have g:m*k+b=m'*k+b':=by exact_mod_cast g
  have h5:(m*k+b)/k=m:=by rw[Nat.mul_comm,Nat.mul_add_div (by omega),Nat.div_eq_of_lt h2,ab3]
  have h6:(m'*k+b')/k=m':=by rw[Nat.mul_comm,Nat.mul_add_div (by omega),Nat.div_eq_of_lt h4,ab3]
  have:m=m':=by rw[<-h5,<-h6,g]
  subst this;omega
 .obtain⟨e,he,rfl⟩:=List.mem_map.1 hx;have:In l e.1:=(iX h.tr).2 (by rw[show(e.1,acQ)=e from Prod.ext rfl (h.tr e he).symm];exact he);obtain⟨m,b,e1,h1,h2⟩:=hk _ this;rw[e1];refine List.mem_map.2 ⟨m*k+b,abo.2 ?_,by simp⟩;have:=abf k (show m+1<=k by omega);rw[abG]at this;omega
theorem zQ{α A R:Type}{l0:List (aa.den×α)}{fin:List (aa.den×α)×List (aa.den×α)×A->Option R}{step:List (aa.den×α)×List (aa.den×α)×A->(aa.den×α)->Option A}(I:List (aa.den×α)->A->Prop){PP:R->Prop}(hu:∀r r',PP r->PP r'->r=r')
 (cY:∀left acc x,x∈left->I left acc->Wp (step (l0,left,acc) x) (I (kI aa left x.1)))(Gh:∀acc,I [] acc->Wp (fin (l0,[],acc)) PP):
 ∀(n N:Nat)left acc,left.length<=n->n<N->I left acc->Wp (nq (λs k2=>if s.2.1.isEmpty=acQ then fin s else JB (λp=>p∈s.2.1) λx=>(step s x).bind λa=>k2 (s.1,kI aa s.2.1 x.1,a)) N (l0,left,acc)) PP:=by
 intro n
 induction n with
 |zero=>
  intro N left acc hl hN hi;obtain⟨N,rfl⟩:=Nat.exists_eq_succ_of_ne_zero (show N≠0 by omega);obtain rfl:=List.eq_nil_of_length_eq_zero (Nat.le_zero.1 hl);obtain⟨r,hr,h⟩:=Gh acc hi;refine⟨r,?_,h⟩;unfold nq;exact(acU rfl).trans hr
 |succ n ih=>
  intro N left acc hl hN hi;obtain⟨N,rfl⟩:=Nat.exists_eq_succ_of_ne_zero (show N≠0 by omega)
  by_cases he:left=[]
  .subst he;obtain⟨r,hr,h⟩:=Gh acc hi;refine⟨r,?_,h⟩;unfold nq;exact(acU rfl).trans hr
  .have he':¬left.isEmpty=acQ:=by simpa using he
   have key:∀x,x∈left->∃a r,step (l0,left,acc) x=some a/\nq (λs k2=>if s.2.1.isEmpty=acQ then fin s else JB (λp=>p∈s.2.1) λx=>(step s x).bind λa=>k2 (s.1,kI aa s.2.1 x.1,a)) N (l0,kI aa left x.1,a)=some r/\PP r:=λx hx=>by
    obtain⟨a,ha,jF⟩:=cY left acc x hx hi
    have:(kI aa left x.1).length<left.length:=by
     unfold kI;refine List.length_filter_lt_length_iff_exists.2 ⟨x,hx,?_⟩;rw[(jq _ _).2 rfl];simp
    obtain⟨r,hr,h⟩:=ih N (kI aa left x.1) a (by omega) (by omega) jF;exact⟨a,r,ha,hr,h⟩
   obtain⟨x0,Ny⟩:=List.exists_mem_of_ne_nil _ he;obtain⟨_,r0,_,_,h0⟩:=key x0 Ny;refine⟨r0,?_,h0⟩;unfold nq;refine(acT he').trans (LR ⟨x0,Ny⟩ λx hx=>?_);obtain⟨a,r,ha,hr,h⟩:=key x hx;rw[ha,aaU,hu _ _ h0 h];exact hr
end L
namespace L
theorem oq{j:Nat}(h:j<62):rP .i64 (1:Int) (j:Int)=some ((2 ^ j:Nat):Int):=by
 unfold rP;rw[acT (by omega)];unfold Gr
 have h1:min (j:Int).toNat aaV.bits=j:=by simp[IntKind.bits];omega
 have h2:2 ^ j<2 ^ 62:=Nat.pow_lt_pow_right (by omega) h
 have e:(1:Int)*2 ^ j=((2 ^ j:Nat):Int):=by rw[Int.one_mul];simp
 rw[h1,e,wrap_i64 (by omega)]
theorem Ir:∀j,j<8->eI ((2 ^ j:Nat):Int)=1:=by
 intro j hj
 have h:((aa2 8).all λj=>decide (eI ((2 ^ j:Nat):Int)=1))=acQ:=by kernel_rfl
 exact acV (List.all_eq_true.1 h j (abo.2 hj))
abbrev pI(m b:Nat):Int×Int:=((m:Int),(b:Int))
theorem rb{m b m' b':Nat}(h:pI m b=pI m' b'):m=m'/\b=b':=by
 have h:=Prod.ext_iff.1 h;have h1:(m:Int)=m':=h.1;have h2:(b:Int)=b':=h.2;omega
theorem xw(b j:Nat):b ^^^(b ^^^ 2 ^ j)=2 ^ j:=by rw[<-Nat.xor_assoc,Nat.xor_self,Nat.zero_xor]
theorem rc{n:Nat}(h:n<=8):2 ^ n<=256:=Nat.pow_le_pow_right (n:=2) (by omega) h
theorem KB{b j:Nat}(hb:b<256)(hj:j<8):b ^^^ 2 ^ j<256:=Nat.xor_lt_two_pow (n:=8) hb (by have:=Nat.pow_lt_pow_right (a:=2) (by omega) hj;omega)
theorem xx{j:Nat}(hj:j<8):2 ^ j<256:=Nat.pow_lt_pow_right (a:=2) (by omega) hj
theorem Is{m b j:Nat}(hm:m<256)(hb:b<256)(hj:j<8)(FK:m.testBit j=acQ):M.jx aW (pI m b) (pI m (b ^^^ 2 ^ j))=some (pI (eM m (2 ^ j)) (eM b (2 ^ j)),acQ):=by
 have h2:=xx hj
 have hx:au .xor .i64 (b:Int) ((b ^^^ 2 ^ j:Nat):Int)=((2 ^ j:Nat):Int):=by rw[PN (by omega) (by have:=KB hb hj;omega),xw]
 have ha:au .and .i64 ((2 ^ j:Nat):Int) (m:Int)≠0:=by
  rw[Ip (by omega) (by omega)];intro h
  have h:2 ^ j&&& m=0:=by exact_mod_cast h
  have:=ac0 (λx=>x.testBit j) h;simp only[Nat.testBit_and,dE,FK,Nat.zero_testBit]at this;simp at this
 have ho:M.cr aW (aa0.wrap ((2 ^ j:Nat):Int))=some 1:=by rw[xp,Ir j hj]
 have h0:decide (au .and .i64 ((2 ^ j:Nat):Int) (m:Int)=0)=acR:=acX ha;unfold M.jx;simp only[hx,ho,h0,aaU,decide_true,Bool.not_true,aa4,if_false,Fj (show m<9223372036854775808 by omega) (show 2 ^ j<9223372036854775808 by omega),Fj (show b<9223372036854775808 by omega) (show 2 ^ j<9223372036854775808 by omega)]
structure lZ(n:Nat)(S:Nat->Prop)(l:PS):Prop where
 ok:iW l
 imp:∀p,In l p->∃m b:Nat,p=pI m b/\pg n S m b
 base:∀x,x<2 ^ n->S x->In l (pI (2 ^ n-1) x)
theorem lZ.len{n:Nat}{S:Nat->Prop}{l:PS}(h:lZ n S l)(hn:n<=8):l.length<=65536:=by
 have:=h.ok.len (2 ^ n) λp hp=>by
  obtain⟨m,b,e,hi⟩:=h.imp p hp;exact⟨m,b,e,hi.1,hi.lt⟩
 have h8:=rc hn;exact abi this (abi (Nat.mul_le_mul h8 h8) (by omega))
def Cl(n:Nat)(l:PS)(PQ:List (Int×Int)):Prop:=
 ∀m b j:Nat,j<n->m.testBit j=acQ->In l (pI m b)->In l (pI m (b ^^^ 2 ^ j))->pI m b∉PQ->pI m (b ^^^ 2 ^ j)∉PQ->In l (pI (eM m (2 ^ j)) (eM b (2 ^ j)))
def BX(n:Nat)(S:Nat->Prop)(l:PS):Prop:=iW l/\∀p,In l p↔∃m b:Nat,p=pI m b/\pg n S m b
theorem BX.MU{n:Nat}{S:Nat->Prop}{l l':PS}(h:BX n S l)(g:BX n S l'):l=l':=h.1.ext g.1 λp=>(h.2 p).trans (g.2 p).symm
theorem lZ.done{n:Nat}{S:Nat->Prop}{l:PS}(h:lZ n S l)(hc:Cl n l []):BX n S l:=
 ⟨h.ok,λp=>⟨h.imp p,λ⟨m,b,e,hi⟩=>by
   rw[e]
   exact BW (In:=λm b=>In l (pI m b)) h.base (λm b j hj hm h1 h2=>hc m b j hj hm h1 h2 (by simp) (by simp)) _ m b rfl hi⟩⟩
theorem lZ.put{n:Nat}{S:Nat->Prop}{l:PS}(h:lZ n S l){m b:Nat}(hi:pg n S m b):lZ n S (ow aa l (pI m b) acQ):=
 ⟨h.ok.put _,λp hp=>by
   rcases(xv h.ok).1 hp with rfl|hp
   .exact⟨m,b,rfl,hi⟩
   .exact h.imp p hp,λx hx hS=>(xv h.ok).2 (.inr (h.base x hx hS))⟩
structure uO(n:Nat)(S:Nat->Prop)(L0:Nat)(rH rest:List (Int×Int))(m b:Nat)(j:Nat)(l:PS)(nx:List (Int×Int)):Prop where
 good:lZ n S l
 levs:∀p∈rH,In l p
 nxt:∀p∈nx,In l p
 len:l.length=L0+nx.length
 cl:Cl n l (pI m b::rest++nx)
 bits:∀i,i<j->m.testBit i=acQ->In l (pI m (b ^^^ 2 ^ i))->pI m (b ^^^ 2 ^ i)∉nx->In l (pI (eM m (2 ^ i)) (eM b (2 ^ i)))
theorem uO.same{n:Nat}{S:Nat->Prop}{L0:Nat}{rH rest:List (Int×Int)}{m b j:Nat}{l:PS}{nx:List (Int×Int)}(h:uO n S L0 rH rest m b j l nx)(hb:m.testBit j=acQ->In l (pI m (b ^^^ 2 ^ j))->In l (pI (eM m (2 ^ j)) (eM b (2 ^ j)))):
 uO n S L0 rH rest m b (j+1) l nx:=
 ⟨h.good,h.levs,h.nxt,h.len,h.cl,λi hi hm h1 h2=>by
   rcases abd.1 hi with hi|rfl
   .exact h.bits i hi hm h1 h2
   .exact hb hm h1⟩
theorem uO.add{n:Nat}{S:Nat->Prop}{L0:Nat}{rH rest:List (Int×Int)}{m b j:Nat}{l:PS}{nx:List (Int×Int)}(h:uO n S L0 rH rest m b j l nx)(hi:pg n S (eM m (2 ^ j)) (eM b (2 ^ j)))(hn:¬In l (pI (eM m (2 ^ j)) (eM b (2 ^ j)))):
 uO n S L0 rH rest m b (j+1) (ow aa l (pI (eM m (2 ^ j)) (eM b (2 ^ j))) acQ) (nx++[pI (eM m (2 ^ j)) (eM b (2 ^ j))]):=by
 have hp:∀q,In (ow aa l (pI (eM m (2 ^ j)) (eM b (2 ^ j))) acQ) q↔q=pI (eM m (2 ^ j)) (eM b (2 ^ j))\/In l q:=λq=>xv h.good.ok
 refine⟨h.good.put hi,λp Aj=>(hp p).2 (.inr (h.levs p Aj)),λp Aj=>(hp p).2 ?_,by rw[KA h.good.ok hn,h.len];simp;omega,λm' b' i jF hm h1 h2 h3 h4=>(hp _).2 ?_,λi jF hm h1 h2=>(hp _).2 ?_⟩
 .rcases aa9.1 Aj with h'|h'
  .exact .inr (h.nxt p h')
  .exact .inl (aa5.1 h')
 .simp only[acA,aa7,aa9,List.not_mem_nil,or_false,not_or]at h3 h4
  rcases(hp _).1 h1 with e|h1
  .exact absurd e h3.2.2.2
  .rcases(hp _).1 h2 with e|h2
   .exact absurd e h4.2.2.2
   .exact .inr (h.cl m' b' i jF hm h1 h2 (by simp only[acA,aa7,aa9,not_or];exact⟨h3.1,h3.2.1,h3.2.2.1⟩) (by simp only[acA,aa7,aa9,not_or];exact⟨h4.1,h4.2.1,h4.2.2.1⟩))
 .simp only[aa9,aa5,not_or]at h2
  rcases abd.1 jF with jF|rfl
  .rcases(hp _).1 h1 with e|h1
   .exact absurd e h2.2
   .exact .inr (h.bits i jF hm h1 h2.1)
  .exact .inl rfl
theorem uO.out{n:Nat}{S:Nat->Prop}{L0:Nat}{rH rest:List (Int×Int)}{m b:Nat}{l:PS}{nx:List (Int×Int)}(h:uO n S L0 rH rest m b n l nx):Cl n l (rest++nx):=by
 intro m' b' i hi hm h1 h2 h3 h4
 have V7:=h3;have RP:=h4
 simp only[aa9,not_or]at h3 h4;by_cases e1:pI m' b'=pI m b
 .obtain⟨rfl,rfl⟩:=rb e1;exact h.bits i hi hm h2 h4.2
 .by_cases e2:pI m' (b' ^^^ 2 ^ i)=pI m b
  .obtain⟨rfl,e3⟩:=rb e2
   have e4:b'=b ^^^ 2 ^ i:=by rw[<-e3,Kz]
   subst e4;rw[Ky];exact h.bits i hi hm h1 h3.2
  .exact h.cl m' b' i hi hm h1 h2 (by simp only[acA,aa7,not_or];exact⟨e1,V7⟩) (by simp only[acA,aa7,not_or];exact⟨e2,RP⟩)
theorem KC{n:Nat}{S:Nat->Prop}{m b j:Nat}(h:pg n S m b)(g:pg n S m (b ^^^ 2 ^ j)):m.testBit j=acQ:=by
 cases hb:b.testBit j with
 |true=>exact eY.1 h.2.1 j hb
 |false=>exact eY.1 g.2.1 j (by rw[Nat.testBit_xor,dE,hb];simp)
theorem UR(n:Nat)(hn:n<=8)(S:Nat->Prop)(l0:PS)(h0:iW l0)(V8:∀p,In l0 p↔∃x,x<2 ^ n/\S x/\p=pI (2 ^ n-1) x):Wp (M.dS aW (n:Int) l0) (BX n S):=by
 have h8:=rc hn
 have V9:lZ n S l0:=⟨h0,λp hp=>by
  obtain⟨x,hx,hS,e⟩:=(V8 p).1 hp
  exact⟨_,x,e, .full hx hS⟩,λx hx hS=>(V8 _).2 ⟨x,hx,hS,rfl⟩⟩
 have hl0:=V9.len hn;unfold M.dS;refine zQ (λleft acc=>(∀e∈left,e∈l0)/\(∀p∈acc,In l0 p)/\(∀p,In l0 p->p∈acc\/∃e∈left,e.1=p)/\acc.length+left.length<=l0.length) (λr r' h g=>h.MU g) (λleft acc x hx hI=>?_) (λacc hI=>?_) l0.length aW l0 [] (aaX _) (by unfold aW;omega) ⟨λe he=>he,λp hp=>by simp at hp,λp hp=> .inr ⟨(p,acQ),(iX h0.tr).1 hp,rfl⟩,by simp⟩
 .obtain⟨h1,h2,h3,h4⟩:=hI
  have hlen:(kI aa left x.1).length<left.length:=by
   unfold kI;refine List.length_filter_lt_length_iff_exists.2 ⟨x,hx,?_⟩;rw[(jq _ _).2 rfl];simp
  have qH:∀e,e∈kI aa left x.1↔e∈left/\e.1≠x.1:=λe=>by
   unfold kI;rw[abw,Bool.not_eq_true',jQ]
  have Ny:In l0 x.1:=(iX h0.tr).2 (by rw[show(x.1,acQ)=x from Prod.ext rfl (h0.tr x (h1 x hx)).symm];exact h1 x hx);refine Wp.rD (by simp;omega) ⟨λe he=>h1 e ((qH e).1 he).1,λp hp=>?_,λp hp=>?_,by simp;omega⟩
  .rcases aa9.1 hp with hp|hp
   .exact h2 p hp
   .rw[aa5.1 hp];exact Ny
  .by_cases e:p=x.1
   .exact .inl (List.mem_append_right _ (by rw[e];exact List.mem_singleton_self _))
   .rcases h3 p hp with h|⟨f,hf,rfl⟩
    .exact .inl (List.mem_append_left _ h)
    .exact .inr ⟨f,(qH f).2 ⟨hf,e⟩,rfl⟩
 .obtain⟨-,h2,h3,h4⟩:=hI
  refine Wp.loop (λs=>lZ n S s.1/\(∀p∈s.2,In s.1 p)/\Cl n s.1 s.2/\s.2.length<=s.1.length) (λs=>2*(65536-s.1.length)+(if s.2=[]then 0 else 1)) ⟨V9,h2,λm b j _ _ hm _ hn _=>absurd ?_ hn,by simpa using h4⟩ (by unfold aW;show 2*(65536-l0.length)+(if acc=[]then 0 else 1)<_;split<;>omega) λs hs=>?_
  .rcases h3 _ hm with h|⟨e,he,_⟩
   .exact h
   .simp at he
  .obtain⟨l,rH⟩:=s;obtain⟨hg,PR,Bx,hle⟩:=hs;dsimp only at hg PR Bx hle⊢;have Nd:=hg.len hn;refine .dec (λcA=>?_) (λhe=> .some ?_)
   .have Ed:rH≠[]:=λe=>by subst e;simp at cA
    refine Wp.seq (λj=>lZ n S j.1/\(∀p∈j.2,In j.1 p)/\Cl n j.1 j.2/\j.1.length=l.length+j.2.length) ?_ λj hj=> .some ⟨⟨hj.1,hj.2.1,hj.2.2.1,by have:=hj.2.2.2;show j.2.length<=j.1.length;omega⟩,?_⟩
    .refine Wp.count (λs=>s.1) rH.length (λk s=>lZ n S s.2.1/\(∀p∈rH,In s.2.1 p)/\(∀p∈s.2.2,In s.2.1 p)/\s.2.1.length=l.length+s.2.2.length/\Cl n s.2.1 (rH.drop k++s.2.2)) (by omega) rfl ⟨hg,PR,λp hp=>by simp at hp,by simp,by simpa using Bx⟩ λk s hk hs hJ=>?_
     obtain⟨i,l1,nx⟩:=s;obtain⟨g1,g2,g3,g4,g5⟩:=hJ;dsimp only at hs g1 g2 g3 g4 g5⊢;subst hs;refine .dec (λag=>?_) (λhge=> .some ?_)
     .have ag:k<rH.length:=by omega
      refine Wp.seq (λj=>lZ n S j.1/\(∀p∈rH,In j.1 p)/\(∀p∈j.2,In j.1 p)/\j.1.length=l.length+j.2.length/\Cl n j.1 (rH.drop (k+1)++j.2)) (.bind (.idx k rfl ag ?_)) λj hj=> .some ⟨ag,aQ (by omega),hj⟩
      obtain⟨m,b,hp,hi⟩:=g1.imp _ (g2 rH[k] (aaZ ag));rw[abv ag]at g5;rw[hp]at g5⊢;have hm:=hi.1;have hb:=hi.lt
      refine Wp.count (λs=>s.1) n (λj s=>uO n S l.length rH (rH.drop (k+1)) m b j s.2.1 s.2.2) (by omega) rfl ⟨g1,g2,g3,g4,g5,λi hi=>absurd hi (by omega)⟩ λj s hj hs hB=>?_
      obtain⟨jj,l2,ny⟩:=s;dsimp only at hs hB⊢;subst hs;refine .dec (λJZ=>?_) (λhge=> .some ?_)
      .have QG:j<8:=by omega
       have hx:au .xor .i64 (b:Int) ((2 ^ j:Nat):Int)=((b ^^^ 2 ^ j:Nat):Int):=PN (by omega) (by have:=xx QG;omega)
       refine Wp.seq (λq=>uO n S l.length rH (rH.drop (k+1)) m b (j+1) q.1 q.2) (.bx (oq (by omega)) ?_) λq hq=> .some ⟨by omega,aQ (by omega),hq⟩
       rw[hx];refine .ite (λwg=> .some (hB.same λ_ h=>?_)) (λUS=>?_)
       .rw[show(bn aa l2 (pI m (b ^^^ 2 ^ j))).getD acR=acQ from h]at wg;cases wg
       .have bP:In l2 (pI m (b ^^^ 2 ^ j)):=by simpa[In]using US
        obtain⟨m',b',e,jF⟩:=hB.good.imp _ bP;obtain⟨rfl,rfl⟩:=rb e;have FK:=KC hi jF;have ZG:=hi.merge jF FK;refine .bx (Is (by omega) (by omega) QG FK) ?_;by_cases sN:In l2 (pI (eM m (2 ^ j)) (eM b (2 ^ j)))
        .have e:(bn aa l2 (pI (eM m (2 ^ j)) (eM b (2 ^ j)))).getD acR=acQ:=sN;simp only[if_true,e,Bool.not_true,aaU,aa4,if_false];exact .some (hB.same λ_ _=>sN)
        .have e:(bn aa l2 (pI (eM m (2 ^ j)) (eM b (2 ^ j)))).getD acR=acR:=by simpa[In]using sN
         simp only[if_true,e,Bool.not_false,aaU];have PT:=hB.good.len hn;refine .bind (.rD (by have:=hB.len;simp;omega) (.some (hB.add ZG sN)))
      .have:j=n:=by omega
       subst this;exact⟨hB.good,hB.levs,hB.nxt,hB.len,hB.out⟩
     .have:k=rH.length:=by omega
      subst this;rw[List.drop_length]at g5;exact⟨g1,g3,g5,g4⟩
    .have h5:=hj.1.len hn;have h6:=hj.2.2.2
     show 2*(65536-j.1.length)+(if j.2=[]then 0 else 1)<2*(65536-l.length)+(if rH=[]then 0 else 1)
     rw[acT Ed];split
     .omega
     .rename_i h7;have:0<j.2.length:=List.length_pos_iff.2 h7;omega
   .have:rH=[]:=List.eq_nil_of_length_eq_zero (by have:¬(0:Int)<(rH.length:Int):=he;omega);subst this;exact hg.done Bx
end L
namespace L
def BY(n:Nat)(S:Nat->Prop)(m b:Nat):Prop:=pg n S m b/\∀j,j<n->m.testBit j=acQ->¬pg n S (eM m (2 ^ j)) (eM b (2 ^ j))
theorem mU.trans{x y z:Int×Int}(h:mU x y)(g:mU y z):mU x z:=by unfold mU at*;omega
theorem mU.irrefl(x:Int×Int):¬mU x x:=by unfold mU;omega
theorem mU.total{x y:Int×Int}(h:¬mU y x)(g:x≠y):mU x y:=by
 have g:¬(x.1=y.1/\x.2=y.2):=λe=>g (Prod.ext e.1 e.2)
 have h1:x.1=y.1->eI x.1=eI y.1:=λe=>by rw[e]
 unfold mU at*;omega
theorem rI{l m:List (Int×Int)}(h:l.Pairwise mU)(g:m.Pairwise mU)(e:∀p,p∈l↔p∈m):l=m:=by
 have AP:∀{l:List (Int×Int)},l.Pairwise mU->l.Nodup:=λh=>h.imp λg e=>by subst e;exact mU.irrefl _ g
 exact List.Perm.eq_of_pairwise (le:=mU) (λa b _ _ h1 h2=>absurd (h1.trans h2) (mU.irrefl _)) h g ((List.perm_ext_iff_of_nodup (AP h) (AP g)).2 e)
theorem It{l:List aa.den}(hl:l.length<4611686018427387904)(hn:l.Nodup):Wp (M.aN aW l) λr=>r.Pairwise mU/\∀p,p∈r↔p∈l:=by
 unfold M.aN vI;rw[acU ⟨PO,hl⟩];refine .some ?_;generalize hg:abJ (mQ λa b c d=>M.bV aW (a,b) (c,d))=lt
 have ag:∀x y:Int×Int,lt x y=acQ↔mU x y:=λx y=>by rw[<-hg];exact xq x y
 have QH:∀x y:Int×Int,(!lt x y)=acQ↔¬mU x y:=λx y=>by rw[<-ag];simp
 have hp:=List.pairwise_mergeSort (le:=λx y:Int×Int=> !lt y x) (λa b c h1 h2=>by
  rw[QH]at h1 h2⊢
  unfold mU at*;omega) (λa b=>by
  rw[Bool.or_eq_true,QH,QH]
  unfold mU;omega) l
 have hm:∀p,p∈l.mergeSort (λx y:Int×Int=> !lt y x)↔p∈l:=λp=>List.mem_mergeSort
 refine⟨?_,hm⟩;have Gk:(l.mergeSort (λx y:Int×Int=> !lt y x)).Nodup:=(List.mergeSort_perm l _).symm.nodup hn
 exact(hp.and Gk).imp λ⟨h1,h2⟩=>mU.total ((QH _ _).1 h1) h2
def Iu(n:Nat)(S:Nat->Prop)(l:PS)(r:PS×List aa.den):Prop:=r.1=l/\r.2.Pairwise mU/\∀p,p∈r.2↔∃m b:Nat,p=pI m b/\BY n S m b
theorem Iu.MU{n:Nat}{S:Nat->Prop}{l:PS}{r r':PS×List aa.den}(h:Iu n S l r)(g:Iu n S l r'):r=r':=
 Prod.ext (h.1.trans g.1.symm) (rI h.2.1 g.2.1 λp=>(h.2.2 p).trans (g.2.2 p).symm)
theorem KD{m j:Nat}(h:m.testBit j=acQ):eM m (2 ^ j)≠m:=λe=>by
 have:(eM m (2 ^ j)).testBit j=acR:=by rw[bS,dE];simp
 rw[e,h]at this;cases this
theorem Fk(n:Nat)(hn:n<=8)(S:Nat->Prop)(l:PS)(h:BX n S l):Wp (M.fx aW (n:Int) l) (Iu n S l):=by
 have h8:=rc hn
 have hlen:l.length<=65536:=by
  have:=h.1.len (2 ^ n) λp hp=>by
   obtain⟨m,b,e,hi⟩:=(h.2 p).1 hp;exact⟨m,b,e,hi.1,hi.lt⟩
  exact abi this (abi (Nat.mul_le_mul h8 h8) (by omega))
 unfold M.fx
 refine zQ (λleft acc=>(∀e∈left,e∈l)/\acc.Nodup/\(∀p∈acc,∃m b:Nat,p=pI m b/\BY n S m b)/\(∀m b:Nat,BY n S m b->pI m b∈acc\/∃e∈left,e.1=pI m b)/\(∀p∈acc,∀e∈left,e.1≠p)/\acc.length+left.length<=l.length)
  (λr r' h g=>h.MU g) (λleft acc x hx hI=>?_) (λacc hI=>?_) l.length aW l [] (aaX _) (by unfold aW;omega) ⟨λe he=>he,List.nodup_nil,λp hp=>by simp at hp,λm b hp=> .inr ⟨(pI m b,acQ),(iX h.1.tr).1 ((h.2 _).2 ⟨m,b,rfl,hp.1⟩),rfl⟩,λp hp=>by simp at hp,by simp⟩
 .obtain⟨h1,h2,h3,h4,h5,h6⟩:=hI
  have PT:(kI aa left x.1).length<left.length:=by
   unfold kI;refine List.length_filter_lt_length_iff_exists.2 ⟨x,hx,?_⟩;rw[(jq _ _).2 rfl];simp
  have qH:∀e,e∈kI aa left x.1↔e∈left/\e.1≠x.1:=λe=>by
   unfold kI;rw[abw,Bool.not_eq_true',jQ]
  have Ny:In l x.1:=(iX h.1.tr).2 (by rw[show(x.1,acQ)=x from Prod.ext rfl (h.1.tr x (h1 x hx)).symm];exact h1 x hx);obtain⟨m,b,hp,hi⟩:=(h.2 _).1 Ny;have hm:=hi.1;have hb:=hi.lt
  refine Wp.seq (λj=>j=acQ↔BY n S m b) ?_ λj hj=>?_
  .refine Wp.count (λs=>s.2) n (λj s=>s.1=acQ↔∀i,i<j->m.testBit i=acQ->¬pg n S (eM m (2 ^ i)) (eM b (2 ^ i))) (by omega) rfl ⟨λ_ i hi=>absurd hi (by omega),λ_=>rfl⟩ λj s hj hs hJ=>?_
   obtain⟨v,jj⟩:=s;dsimp only at hs hJ⊢;subst hs;refine .dec (λag=>?_) (λhge=> .some ?_)
   .have QG:j<8:=by omega
    have h2j:=xx QG
    refine Wp.seq (λq=>q=acQ↔∀i,i<j+1->m.testBit i=acQ->¬pg n S (eM m (2 ^ i)) (eM b (2 ^ i))) (.bx (oq (by omega)) (.bx (oq (by omega)) ?_)) λq hq=> .some ⟨by omega,aQ (by omega),hq⟩
    have e1:au .andNot .i64 x.1.1 ((2 ^ j:Nat):Int)=(eM m (2 ^ j):Nat):=by rw[hp];exact Fj (by omega) (by omega)
    have e2:au .andNot .i64 x.1.2 ((2 ^ j:Nat):Int)=(eM b (2 ^ j):Nat):=by rw[hp];exact Fj (by omega) (by omega)
    rw[e1,e2,hp];have e3:(bn aa l (pI (eM m (2 ^ j)) (eM b (2 ^ j)))).getD acR=acQ↔pg n S (eM m (2 ^ j)) (eM b (2 ^ j)):=(h.2 _).trans ⟨λ⟨m',b',e,jF⟩=>by obtain⟨rfl,rfl⟩:=rb e;exact jF,λjF=>⟨_,_,rfl,jF⟩⟩
    have step:∀t:Bool,(t=acQ↔(m.testBit j=acQ/\pg n S (eM m (2 ^ j)) (eM b (2 ^ j))))->Wp (if t=acQ then some acR else some v) λq=>q=acQ↔∀i,i<j+1->m.testBit i=acQ->¬pg n S (eM m (2 ^ i)) (eM b (2 ^ i)):=λt ht=>by
     refine .ite (λh1=> .some ⟨λh2=>by(cases h2),λh2=>absurd (ht.1 h1).2 (h2 j (by omega) (ht.1 h1).1)⟩) (λh1=> .some (hJ.trans ⟨λh2 i jF=>?_,λh2 i jF=>h2 i (by omega)⟩))
     rcases abd.1 jF with jF|rfl
     .exact h2 i jF
     .exact λh3 h4=>h1 (ht.2 ⟨h3,h4⟩)
    by_cases FK:m.testBit j=acQ
    .have e4:lz aa (pI (eM m (2 ^ j)) (eM b (2 ^ j))) (pI m b)=acR:=qh.2 λe=>KD FK (rb e).1
     refine Wp.seq (λt=>t=acQ↔(m.testBit j=acQ/\pg n S (eM m (2 ^ j)) (eM b (2 ^ j)))) ?_ step;rw[show lz aa (((eM m (2 ^ j):Nat):Int),((eM b (2 ^ j):Nat):Int)) (pI m b)=acR from e4];exact .some ⟨λh=>⟨FK,e3.1 h⟩,λh=>e3.2 h.2⟩
    .have UT:m.testBit j=acR:=by simpa using FK
     have ZH:b.testBit j=acR:=by
      cases e:b.testBit j with
      |false=>rfl
      |true=>exact absurd (eY.1 hi.2.1 j e) FK
     have e4:lz aa (pI (eM m (2 ^ j)) (eM b (2 ^ j))) (pI m b)=acQ:=kl.2 (by rw[tZ UT,tZ ZH]);refine Wp.seq (λt=>t=acQ↔(m.testBit j=acQ/\pg n S (eM m (2 ^ j)) (eM b (2 ^ j)))) ?_ step;rw[show lz aa (((eM m (2 ^ j):Nat):Int),((eM b (2 ^ j):Nat):Int)) (pI m b)=acQ from e4];exact .some ⟨λh=>(by cases h),λh=>absurd h.1 FK⟩
   .have:j=n:=by omega
    subst this;exact hJ.trans ⟨λh=>⟨hi,h⟩,λh=>h.2⟩
  .have Lm:∀xy:List aa.den,(∀p,p∈xy↔p∈acc\/p=x.1/\j=acQ)->xy.Nodup->xy.length<=acc.length+1->(∀e∈kI aa left x.1,e∈l)/\xy.Nodup/\(∀p∈xy,∃m b:Nat,p=pI m b/\BY n S m b)/\(∀m b:Nat,BY n S m b->pI m b∈xy\/∃e∈kI aa left x.1,e.1=pI m b)/\(∀p∈xy,∀e∈kI aa left x.1,e.1≠p)/\xy.length+(kI aa left x.1).length<=l.length:=λxy hc AP hl=>by
    refine⟨λe he=>h1 e ((qH e).1 he).1,AP,λp Aj=>?_,λm' b' Aj=>?_,λp Aj e he=>?_,by omega⟩
    .rcases(hc p).1 Aj with Aj|⟨rfl,E9⟩
     .exact h3 p Aj
     .exact⟨m,b,hp,hj.1 E9⟩
    .rcases h4 m' b' Aj with g|⟨e,he,g⟩
     .exact .inl ((hc _).2 (.inl g))
     .by_cases g2:e.1=x.1
      .refine .inl ((hc _).2 (.inr ⟨g.symm.trans g2,hj.2 ?_⟩));obtain⟨rfl,rfl⟩:=rb (g.symm.trans (g2.trans hp));exact Aj
      .exact .inr ⟨e,(qH e).2 ⟨he,g2⟩,g⟩
    .obtain⟨ZI,Hl⟩:=(qH e).1 he
     rcases(hc p).1 Aj with Aj|⟨rfl,_⟩
     .exact h5 p Aj e ZI
     .exact Hl
   refine .ite (λE9=> .bind (.rD (by simp;omega) (.some (Lm _ (λp=>by rw[aa9,aa5];simp[E9]) ?_ (by simp))))) (λMV=> .some (Lm _ (λp=>by simp[MV]) h2 (show acc.length<=acc.length+1 by omega)));refine List.nodup_append.2 ⟨h2,by simp,λa ha c hc e=>?_⟩;rw[aa5]at hc;exact h5 a ha x hx (by rw[e,hc])
 .obtain⟨-,h2,h3,h4,-,h6⟩:=hI
  refine Wp.seq (λr=>r.Pairwise mU/\∀p,p∈r↔p∈acc) (It (by show acc.length<_;simp at h6;omega) h2) λr hr=> .some ⟨rfl,hr.1,λp=>(hr.2 p).trans ⟨h3 p,λ⟨m,b,e,hp⟩=>?_⟩⟩
  rcases h4 m b hp with g|⟨e',he,_⟩
  .rw[e];exact g
  .simp at he
end L
namespace L
def FL(a:Int):Nat:=min a.toNat 8
theorem BZ(a:Int):FL a<=8:=Nat.min_le_right _ _
theorem Iv(a:Int):M.dR aW a=some (FL a:Int):=by
 unfold M.dR FL
 congr 1
 split<;>split<;>omega
theorem Fl(a:Int):M.lf aW a=some (FL a:Int):=by
 unfold M.lf FL;simp only[ac1];split
 .congr 1;omega
 .split<;>(congr 1;omega)
theorem size_eq{n:Nat}(hn:n<=8):M.mw aW (n:Int)=some ((2 ^ n:Nat):Int):=by
 unfold M.mw;refine Wp.eq ?_
 refine Wp.count (λs=>s.2) n (λk s=>s.1=((2 ^ k:Nat):Int)) (by omega) rfl rfl λk s hk hs hJ=>?_
 obtain⟨x,kk⟩:=s;dsimp only at hs hJ⊢;subst hs hJ;refine .dec (λh=> .some ⟨by omega,aQ (by omega),?_⟩) (λh=> .some ?_)
 .have h1:2 ^ k<=2 ^ 8:=Nat.pow_le_pow_right (by omega) (by omega)
  show aaV.wrap (((2 ^ k:Nat):Int)*2)=((2 ^ (k+1):Nat):Int)
  have e:((2 ^ k:Nat):Int)*2=((2 ^ (k+1):Nat):Int):=by rw[Nat.pow_succ];simp
  rw[e,wrap_i64 (by rw[Nat.pow_succ];omega)]
 .have:k=n:=by omega
  subst this;rfl
def p6(l:List Int)(k:Nat):List Bool:=(aa2 k).map λx:Nat=>decide ((x:Int)∈l)
theorem KE{α:Type}{k x:Nat}{f:Nat->α}(h:x<k):idx ((aa2 k).map f) (x:Int)=some (f x):=by
 rw[ai (by simpa using h)];simp
theorem xz{α:Type}{k x:Nat}{f:Nat->α}{Q:α->Prop}(h:x<k)(hq:Q (f x)):Wp (idx ((aa2 k).map f) (x:Int)) Q:=⟨_,KE h,hq⟩
theorem p7{α:Type}(k:Nat)(f:Nat->α):(((aa2 k).map f).length:Int)=(k:Int):=by simp
theorem B3{l:List Int}(hl:l.length<=1000000){n:Nat}(hn:n<=8):M.jA aW l (n:Int)=some (p6 l (2 ^ n)):=by
 have h8:=rc hn;unfold M.jA;rw[size_eq hn,aaU];generalize 2 ^ n=K at*;refine Wp.eq (.bind (mB.2 ⟨by omega,?_⟩))
 refine Wp.count (λs=>s.1) l.length (λk s=>s.2=p6 (l.take k) K) (by omega) rfl ?_ λk s hk hs hJ=>?_
 .show abn _ _=_
  unfold p6;apply List.ext_getElem (by simp);intro i h1 h2;simp
 .obtain⟨kk,c⟩:=s;dsimp only at hs hJ⊢;subst hs hJ;refine .dec (λh=>?_) (λh=> .some ?_)
  .have ag:k<l.length:=by omega
   have hlen:((p6 (l.take k) K).length:Int)=(K:Int):=p7 _ _
   have D4:∀y:Int,y∈l.take (k+1)↔y∈l.take k\/y=l[k]:=λy=>by rw[<-abq ag,aa9,aa5]
   refine Wp.seq (λj=>j=p6 (l.take (k+1)) K) ?_ λj hj=> .some ⟨ag,aQ (by omega),hj⟩
   refine Wp.seq (λj=>j=acQ↔0<=l[k]/\l[k]<(K:Int)) (.bind (.idx k rfl ag (.dec (λh0=> .bind (.idx k rfl ag (.some ?_))) (λh0=> .some ⟨λh=>(by cases h),λh=>absurd h.1 h0⟩)))) λj hj=>?_
   .rw[hlen,ac1];exact⟨λh=>⟨h0,h⟩,λh=>h.2⟩
   refine .ite (λE9=> .bind (.idx k rfl ag ?_)) (λMV=> .some ?_)
   .obtain⟨x,hx⟩:=aa8 (hj.1 E9).1
    have wh:x<K:=by have:=(hj.1 E9).2;omega
    rw[hx];refine .bind (xz wh (.some ?_));unfold p6 bF;rw[aa3,jB]
    refine List.map_congr_left λy hy=>?_
    by_cases e:y=x
    .subst e;simp[D4,hx]
    .rw[acT e];refine decide_eq_decide.2 ?_;rw[D4,hx];exact⟨.inl,λh=>h.resolve_right λh=>e (by omega)⟩
   .unfold p6
    refine List.map_congr_left λy hy=>decide_eq_decide.2 ?_
    rw[D4];refine⟨.inl,λh=>h.resolve_right λh=>MV (hj.2 ?_)⟩;have:=abo.1 hy;omega
  .have:k=l.length:=by omega
   subst this
   show p6 (l.take l.length) K=p6 l K
   rw[abg]
theorem Iw{m:Nat}(hm:m<256):M.my aW (m:Int)=some (eI (m:Int)):=by
 have h:((aa2 256).all λm=>decide (M.my aW ((m:Nat):Int)=some (eI ((m:Nat):Int))))=acQ:=by kernel_rfl
 exact acV (List.all_eq_true.1 h m (abo.2 hm))
theorem KF:∀{m n:Nat},n<=8->m<2 ^ n->∃c:Nat,c<=n/\eI (m:Int)=(c:Int):=by
 intro m n hn hm
 have h:((aa2 9).all λn=>(aa2 (2 ^ n)).all λm=>(aa2 (n+1)).any λc=>decide (eI ((m:Nat):Int)=(c:Int)))=acQ:=by kernel_rfl
 have h1:=List.all_eq_true.1 (List.all_eq_true.1 h n (abo.2 (by omega))) m (abo.2 hm);obtain⟨c,hc,h2⟩:=List.any_eq_true.1 h1;exact⟨c,by have:=abo.1 hc;omega,acV h2⟩
theorem ph{m b x:Nat}(hm:m<256)(hx:x<256):M.fi aW (pI m b) (x:Int)=some (decide (x&&& m=b)):=by
 unfold M.fi;rw[Ip (by omega) (by omega)]
 congr 1
 exact decide_eq_decide.2 (by show((x&&& m:Nat):Int)=(b:Int)↔_;omega)
def dJ(k:Nat)(mem cov:Nat->Bool)(m b:Nat):Bool:=(aa2 k).any λx=>decide (x&&& m=b)&&mem x&& !cov x
theorem Ix{n:Nat}(hn:n<=8){mem cov:Nat->Bool}{m b:Nat}(hm:m<256):M.lg aW (pI m b) ((aa2 (2 ^ n)).map mem) ((aa2 (2 ^ n)).map cov)=some (dJ (2 ^ n) mem cov m b):=by
 have h8:=rc hn;unfold M.lg;refine Wp.eq ?_
 refine Wp.count (λs=>s) (2 ^ n) (λk _=>∀x,x<k->(decide (x&&& m=b)&&mem x&& !cov x)=acR) (by omega) rfl (λx hx=>absurd hx (by omega)) λk s hk hs hJ=>?_
 subst hs;rw[p7];refine .dec (λh=>?_) (λh=> .some ?_)
 .have ag:k<2 ^ n:=by omega
  refine Wp.seq (λj=>j=(decide (k&&& m=b)&&mem k&& !cov k)) (.bx (ph hm (by omega)) (.ite (λh1=> .bind (xz ag (.ite (λh2=> .bind (xz ag (.some ?_))) (λh2=> .some ?_)))) (λh1=> .some ?_))) λj hj=> .ite (λh1=> .some ?_) (λh1=> .some ⟨ag,aQ (by omega),λx hx=>?_⟩)
  .rw[h1,h2];rfl
  .rw[h1];simp[h2]
  .simp[h1]
  .show acQ=dJ _ _ _ _ _
   unfold dJ;exact(List.any_eq_true.2 ⟨k,abo.2 ag,by rw[<-hj];exact h1⟩).symm
  .rcases abd.1 hx with hx|rfl
   .exact hJ x hx
   .rw[<-hj];simpa using h1
 .show acR=dJ _ _ _ _ _
  unfold dJ;refine(List.any_eq_false.2 λx hx=>?_).symm;rw[hJ x (by have:=abo.1 hx;omega)];simp
noncomputable def Iy(n:Nat)(S:Nat->Prop)(m b:Nat):Bool:= @decide (∀x,x<2 ^ n->x&&& m=b->S x) (abF _)
theorem rf{n:Nat}{S:Nat->Prop}{m b:Nat}:Iy n S m b=acQ↔∀x,x<2 ^ n->x&&& m=b->S x:= @decide_eq_true_iff _ (abF _)
theorem p8{n:Nat}(hn:n<=8){l:List Int}{m b:Nat}(hm:m<256):M.fg aW (pI m b) (p6 l (2 ^ n))=some (Iy n (λx=>(x:Int)∈l) m b):=by
 have h8:=rc hn;unfold M.fg;refine Wp.eq ?_
 refine Wp.count (λs=>s) (2 ^ n) (λk _=>∀x:Nat,x<k->x&&& m=b->(x:Int)∈l) (by omega) rfl (λx hx=>absurd hx (by omega)) λk s hk hs hJ=>?_
 subst hs;rw[show((p6 l (2 ^ n)).length:Int)=((2 ^ n:Nat):Int)from p7 _ _];refine .dec (λh=>?_) (λh=> .some ?_)
 .have ag:k<2 ^ n:=by omega
  refine Wp.seq (λj=>j=acQ↔k&&& m=b/\¬(k:Int)∈l) (.bx (ph hm (by omega)) (.dec (λh1=> .bind (xz ag (.some ?_))) (λh1=> .some ⟨λh=>(by cases h),λh=>absurd h.1 h1⟩))) λj hj=> .ite (λh1=> .some ?_) (λh1=> .some ⟨ag,aQ (by omega),λx hx he=>?_⟩)
  .rw[Bool.not_eq_true',decide_eq_false_iff_not];exact⟨λh=>⟨h1,h⟩,λh=>h.2⟩
  .show acR=Iy _ _ _ _
   refine(Bool.eq_false_iff.2 λg=>?_).symm;exact(hj.1 h1).2 (rf.1 g k ag (hj.1 h1).1)
  .rcases abd.1 hx with hx|rfl
   .exact hJ x hx he
   .exact Classical.byContradiction λg=>h1 (hj.2 ⟨he,g⟩)
 .have:k=2 ^ n:=by omega
  subst this;exact(rf.2 hJ).symm
theorem zR{n:Nat}{S:Nat->Prop}{m b:Nat}(hm:m<2 ^ n)(hb:b&&& m=b):Iy n S m b=acQ↔pg n S m b:=by
 rw[rf];exact⟨λh=>⟨hm,hb,h⟩,λh=>h.2.2⟩
theorem KG{m b j:Nat}(h:b&&& m=b):eM b (2 ^ j)&&& eM m (2 ^ j)=eM b (2 ^ j):=by
 rw[eY];intro i;rw[bS,bS];have:=eY.1 h i;intro h2;simp only[abR]at h2⊢;exact⟨this h2.1,h2.2⟩
theorem Dg{m j:Nat}:m&&& 2 ^ j=0↔m.testBit j=acR:=by
 constructor
 .intro h;have:=ac0 (λx=>x.testBit j) h;simpa[Nat.testBit_and,dE]using this
 .intro h;apply acg;intro i;rw[Nat.testBit_and,dE,Nat.zero_testBit];by_cases e:j=i
  .subst e;simp[h]
  .simp[e]
theorem Iz{n:Nat}(hn:n<=8){l:List Int}{m b:Nat}(hm:m<2 ^ n)(hb:b&&& m=b):Wp (M.lj aW (pI m b) (p6 l (2 ^ n))) λr=>r=acQ↔BY n (λx=>(x:Int)∈l) m b:=by
 have h8:=rc hn;have Oa:b<2 ^ n:=Nat.lt_of_le_of_lt (by rw[<-hb];exact Nat.and_le_right) hm;unfold M.lj;refine .bx (p8 hn (by omega)) ?_;have hi:=zR (S:=λx=>(x:Int)∈l) hm hb
 cases hv:Iy n (λx=>(x:Int)∈l) m b with
 |false=>
  refine .some ⟨λh=>(by cases h),λh=>?_⟩;rw[hv]at hi;exact absurd (hi.2 h.1) (by simp)
 |true=>
  rw[hv]at hi;have hI:=hi.1 rfl
  refine Wp.ite (λh=>absurd h (by simp)) λ_=>?_
  refine Wp.loop (λs=>∃j:Nat,j<=n/\s=((2 ^ j:Nat):Int)/\∀i,i<j->m.testBit i=acQ->¬pg n (λx=>(x:Int)∈l) (eM m (2 ^ i)) (eM b (2 ^ i))) (λs=>1000-s.toNat) ⟨0,Nat.zero_le _,rfl,λi hi=>absurd hi (by omega)⟩ (by unfold aW;omega) λs hs=>?_
  obtain⟨j,hj,rfl,hJ⟩:=hs;rw[show((p6 l (2 ^ n)).length:Int)=((2 ^ n:Nat):Int)from p7 _ _];refine .dec (λh=>?_) (λh=> .some ?_)
  .have ag:2 ^ j<2 ^ n:=by omega
   have RG:j<n:=(Nat.pow_lt_pow_iff_right (by omega)).1 ag;have e0:au .and .i64 (pI m b).1 ((2 ^ j:Nat):Int)=((m&&& 2 ^ j:Nat):Int):=Ip (by omega) (by omega);have e1:au .andNot .i64 (pI m b).1 ((2 ^ j:Nat):Int)=(eM m (2 ^ j):Nat):=Fj (by omega) (by omega);have e2:au .andNot .i64 (pI m b).2 ((2 ^ j:Nat):Int)=(eM b (2 ^ j):Nat):=Fj (by omega) (by omega);have Jk:=Iq m (2 ^ j)
   refine Wp.seq (λq=>q=acQ↔m.testBit j=acQ/\pg n (λx=>(x:Int)∈l) (eM m (2 ^ j)) (eM b (2 ^ j))) ?_ λq hq=> .ite (λh1=> .some ⟨λh=>(by cases h),λh=>absurd (hq.1 h1).2 (h.2 j RG (hq.1 h1).1)⟩) (λh1=> .some ?_)
   .rw[e0,e1,e2];refine .mA (λh1=> .bx (p8 (m:=eM m (2 ^ j)) (b:=eM b (2 ^ j)) hn (by omega)) (.some ?_)) (λh1=> .some ⟨λh=>(by cases h),λh=>?_⟩)
    .have FK:m.testBit j=acQ:=by
      cases e:m.testBit j with
      |true=>rfl
      |false=>exact absurd (by rw[Dg.2 e];rfl) h1
     rw[zR (by omega) (KG hb)];exact⟨λh=>⟨FK,h⟩,λh=>h.2⟩
    .have h1:m&&& 2 ^ j=0:=by exact_mod_cast h1
     rw[Dg.1 h1]at h;cases h.1
   .have e:((2 ^ j:Nat):Int)*2=((2 ^ (j+1):Nat):Int):=by rw[Nat.pow_succ];simp
    have Ng:2 ^ (j+1)=2*2 ^ j:=by rw[Nat.pow_succ,Nat.mul_comm]
    have hp:=Nat.two_pow_pos j
    show HJ _ _ _ _ (.inl (aaV.wrap (((2 ^ j:Nat):Int)*2)))
    rw[e,wrap_i64 (by omega)];refine⟨⟨j+1,RG,rfl,λi jF=>?_⟩,by show 1000-(((2 ^ (j+1):Nat):Int)).toNat<1000-(((2 ^ j:Nat):Int)).toNat;omega⟩
    rcases abd.1 jF with jF|rfl
    .exact hJ i jF
    .exact λh3 h4=>h1 (hq.2 ⟨h3,h4⟩)
  .have hge:2 ^ n<=2 ^ j:=by omega
   have:j=n:=by
    have:=(Nat.pow_le_pow_iff_right (a:=2) (by omega)).1 hge;omega
   subst this;exact⟨λ_=>⟨hI,hJ⟩,λ_=>rfl⟩
end L
end Go.Proofs.YtbladfbbhijpmaaGreat
