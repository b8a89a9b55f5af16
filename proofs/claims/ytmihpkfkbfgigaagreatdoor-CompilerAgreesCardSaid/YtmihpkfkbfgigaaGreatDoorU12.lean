/- Joined texts: RU RV RW RM RN. -/
import Derived.Test.YtmihpkfkbfgigaaGreatDoorU11
section
open _root_.Bool renaming eq_iff_iff->anh,false_eq_true->al2
open _root_.Classical renaming not_not->am2
open _root_.Go.Lib renaming indexByte->anl
open _root_.Go.IntKind renaming i64->alT
open _root_.List renaming getElem?_eq_getElem->alV,getElem_mem->al0,getElem_of_mem->amb,length_take->amd,mem_cons->amg
open _root_.Nat renaming le_of_lt->anA
open _root_.Option renaming bind_some->alS,map_eq_some_iff->amY,none_or->am8
open _root_.Sum renaming inr->amP
namespace Go.Proofs.YtmihpkfkbfgigaaGreatDoor
open Go Go.RowKit
set_option maxRecDepth 100000
set_option linter.unusedSimpArgs false
namespace L
noncomputable def vh:List ByteArray:=(M.ni aB).getD []
theorem Pz:M.ni aB=some vh:=by kernel_rfl
theorem MV:vh.length<=100:=by unfold vh;decide+kernel
def Wd(c:Int):Prop:=(97<=c/\c<=122)\/(48<=c/\c<=57)\/c=95
def IdS(s:ByteArray):Prop:=s.size<=16/\(∃h:0<s.size,97<=s[0].toNat/\s[0].toNat<=122)/\(∀k,∀h:k<s.size,Wd (s[k].toNat:Int))/\s∉vh
theorem MW(s:ByteArray):mq s=true↔IdS s:=by
 have key:Wp (M.kA aB s) fun r=>r=true↔IdS s:=by
  have hl:=MV;unfold M.kA;simp only[Du,Pp,Pz,W_,implies_true,forall_const,reduceCtorEq];refine⟨fun h=>?_,fun h0=>⟨fun h=>?_,fun WN=>?_⟩⟩
  .exact iff_of_false id fun g=>by obtain⟨_,⟨g,_⟩,_⟩:=g;omega
  .exact iff_of_false id fun g=>by have:=g.1;omega
  refine sC.2 ⟨by omega,?_⟩;have e0:((0:Int).toNat)=0:=rfl;simp only[e0];refine⟨fun h=>iff_of_false id fun g=>?_,fun sG=>?_⟩
  .obtain⟨_,⟨_,g⟩,_⟩:=g;exact h (by omega)
  refine Wp.count (fun s=>s) s.size (fun k _=>∀j,j<k->∀h:j<s.size,Wd (s[j].toNat:Int)) (by omega) rfl (fun j hj=>by omega) fun k c hk hs hJ=>?_
  obtain rfl:c=_:=hs;simp only[W_,implies_true,forall_const,reduceCtorEq,ba,aS];refine⟨fun aj=>sC.2 ⟨by omega,?_⟩,fun hge=>?_⟩
  .have aj:k<s.size:=by omega
   have ek:((k:Int).toNat)=k:=by omega
   simp only[ek];exact⟨fun h=>iff_of_false id fun g=>h (g.2.2.1 k aj),fun h=>⟨aj,aD (by omega),cK hJ fun _=>h⟩⟩
  refine Wp.count (fun s=>s) vh.length (fun k _=>∀j,j<k->∀h:j<vh.length,vh[j]≠s) (by omega) rfl (fun j hj=>by omega) fun i c hi hs hI=>?_
  obtain rfl:c=_:=hs;simp only[W_,implies_true,forall_const,reduceCtorEq,ba,aS];refine⟨fun aj=>?_,fun aj5=>?_⟩
  .have aj:i<vh.length:=by omega
   simp only[ah aj,bV (m:=vh.length) (by omega) aj,W_,implies_true,forall_const,reduceCtorEq];exact⟨fun h=>iff_of_false id fun g=>g.2.2.2 (h▸al0 aj),fun h=>⟨aj,cK hI fun _=>h⟩⟩
  .refine iff_of_true trivial ⟨by omega,⟨by omega,by omega⟩,fun j h=>hJ j (by omega) h,fun hm=>?_⟩;obtain⟨j,hj,e⟩:=amb hm;exact hI j (by omega) hj e
 obtain⟨r,hr,h⟩:=key;unfold mq;rw[hr];exact h
def uh(s:ByteArray):List ByteArray->Option Bool
 |[]=>some false
 |[w]=>some (decide (s=w))
 |w::l=>if decide (s=w)=true then some (decide (s=w))else uh s l
theorem zD(s:ByteArray):(l:List ByteArray)->uh s l=some (decide (s∈l))
 |[]=>by simp[uh]
 |[w]=>by simp[uh]
 |w::w'::l=>by
  unfold uh;rw[zD s (w'::l)];by_cases h:s=w
  .rw[if_pos (decide_eq_true h)];simp[h]
  .rw[if_neg (by simpa using h)];simp[h]
theorem DA(s:ByteArray):M.kU aB s=some (decide (s∈vh)):=by
 have:M.kU aB s=(uh s vh).bind fun j=>if j=true then some true else some false:=by kernel_rfl
 rw[this,zD,alS];by_cases h:s∈vh
 .rw[if_pos (decide_eq_true h),decide_eq_true h]
 .rw[if_neg (by simpa using h),decide_eq_false h]
theorem zE(c:Int):M.jP aB c=some (decide (97<=c/\c<=122)):=by
 apply Wp.eq;unfold M.jP;simp only[W_,implies_true,forall_const,reduceCtorEq];omega
theorem Jw(c:Int):M.lX aB c=some (decide (48<=c/\c<=57)):=by
 apply Wp.eq;unfold M.lX;simp only[W_,implies_true,forall_const,reduceCtorEq];omega
theorem ym(s:ByteArray)(hs:s.size<=maxLen):Wp (M.jt aB s) fun n=>n=(s.size:Int)↔∀k,∀h:k<s.size,Wd (s[k].toNat:Int):=by
 unfold M.jt;simp only[zE,Jw]
 refine Wp.count (fun s=>s) s.size (fun k _=>∀j,j<k->∀h:j<s.size,Wd (s[j].toNat:Int)) hs rfl (fun j hj=>by omega) fun k c hk D3 hJ=>?_
 obtain rfl:c=_:=D3
 rcases Nat.lt_or_ge k s.size with aj|hge
 .have hb:lI s (k:Int)=some (s[k].toNat:Int):=by
   have:=(Qw (x:=((s[k].toNat:Nat):Int))).1 (sC (s:=s) (i:=(k:Int)).2 ⟨by omega,by simp⟩);exact this
  simp only[Fb aj,hb,bV hs aj,W_,implies_true,forall_const,reduceCtorEq,ba,aS];unfold Wd at*
  have ok:(97<=(s[k].toNat:Int)/\(s[k].toNat:Int)<=122)\/(48<=(s[k].toNat:Int)/\(s[k].toNat:Int)<=57)\/(s[k].toNat:Int)=95->k<s.size/\∀j,j<k+1->∀h:j<s.size,(97<=(s[j].toNat:Int)/\(s[j].toNat:Int)<=122)\/(48<=(s[j].toNat:Int)/\(s[j].toNat:Int)<=57)\/(s[j].toNat:Int)=95:=fun h=>⟨aj,cK hJ fun _=>h⟩
  refine⟨fun h=>ok (.inl h),fun h1=>⟨fun h=>ok (.inr (.inl h)),fun h2=>⟨fun h=>ok (.inr (.inr h)),fun h3=>⟨fun e=>by omega,fun g=>?_⟩⟩⟩⟩
  rcases g k aj with h|h|h
  .exact absurd h h1
  .exact absurd h h2
  .exact absurd h h3
 .obtain rfl:k=s.size:=by omega
  simp only[fD,W_,implies_true,forall_const,reduceCtorEq,aS]
  exact iff_of_true trivial fun j h=>hJ j h h
theorem ui(s:ByteArray)(hs:s.size<=maxLen):M.b8 aB s=some (mq s):=by
 have key:Wp (M.b8 aB s) fun r=>r=true↔IdS s:=by
  unfold M.b8;simp only[zE,DA,W_,implies_true,forall_const,reduceCtorEq];refine⟨fun h=>?_,fun h=>?_⟩
  .have h0:0<s.size:=by
    rcases Nat.eq_zero_or_pos s.size with e|e
    .exact absurd (ByteArray.ext (by simpa using Array.size_eq_zero_iff.1 e)) h
    .exact e
   refine sC.2 ⟨by omega,?_⟩;have e0:((0:Int).toNat)=0:=rfl;simp only[e0];refine⟨fun sG=>(ym s hs).mono fun n hn=>⟨fun e=>⟨fun WN=>?_,fun WN=>iff_of_false id fun g=>WN (by have:=g.1;omega)⟩,fun e=>iff_of_false id fun g=>e (hn.2 g.2.2.1)⟩,fun sG=>iff_of_false id fun g=>?_⟩
   .exact⟨fun g=>⟨by omega,⟨h0,by omega⟩,hn.1 e,g⟩,fun g=>g.2.2.2⟩
   .obtain⟨_,⟨_,g⟩,_⟩:=g;exact sG (by omega)
  .refine iff_of_false id fun g=>?_
   obtain⟨_,⟨g,_⟩,_⟩:=g;subst h;cases g
 obtain⟨r,hr,h⟩:=key;rw[hr];exact congrArg some (anh.2 (h.trans (MW s).symm))
theorem pT{β:Type}{l:List (ByteArray×β)}{nm:ByteArray}:0<=fI (fun x=>decide (x.1=nm)) l↔fJ l nm:=by
 rw[pR];unfold fJ;simp
theorem rH(l:List En)(nm:ByteArray)(hl:l.length<=maxLen):M.iY aB l nm=some (decide (fJ l nm)):=by
 have:M.bn aB l nm=some (fI (fun x=>decide (x.1=nm)) l,nm):=by
  unfold M.bn M.kV;exact xx hl (fun k h=>by simp only[ah h,kf h,alS,if_true]) (by simp only[fD,decide_false,al2,if_false])
 unfold M.iY M.bF;simp only[this,alS];exact congrArg some (decide_eq_decide.2 pT)
theorem uO(l:List yl)(nm:ByteArray)(hl:l.length<=maxLen):M.ju aB l nm=some (decide (fJ l nm)):=by
 have:M.bi aB l nm=some (fI (fun x=>decide (x.1=nm)) l,nm):=by
  unfold M.bi M.ko;exact xx hl (fun k h=>by simp only[ah h,kf h,alS,if_true]) (by simp only[fD,decide_false,al2,if_false])
 unfold M.ju M.bB;simp only[this,alS];exact congrArg some (decide_eq_decide.2 pT)
theorem sP(l:List Fd)(f:Fd)(hl:l.length<=maxLen):M.aN aB l f=some (decide (fJ l f.1),f):=by
 have:M.bj aB l f=some (fI (fun x=>decide (x.1=f.1)) l,f):=by
  unfold M.bj M.ja;exact xx hl (fun k h=>by simp only[ah h,kf h,alS,if_true]) (by simp only[fD,decide_false,al2,if_false])
 unfold M.aN;simp only[this,alS];exact congrArg (fun b=>some (b,f)) (decide_eq_decide.2 pT)
theorem DB(l:List jK)(f:jK)(hl:l.length<=maxLen):M.be aB l f=some (decide (fJ l f.1),f):=by
 have:M.bo aB l f=some (fI (fun x=>decide (x.1=f.1)) l,f):=by
  unfold M.bo M.jH;exact xx hl (fun k h=>by simp only[ah h,kf h,alS,if_true]) (by simp only[fD,decide_false,al2,if_false])
 unfold M.be;simp only[this,alS];exact congrArg (fun b=>some (b,f)) (decide_eq_decide.2 pT)
theorem AZ(l:List gw)(f:gw)(hl:l.length<=maxLen):M.aO aB l f=some (decide (fJ l f.1),f):=by
 have:M.bl aB l f=some (fI (fun x=>decide (x.1=f.1)) l,f):=by
  unfold M.bl M.jd;exact xx hl (fun k h=>by simp only[ah h,kf h,alS,if_true]) (by simp only[fD,decide_false,al2,if_false])
 unfold M.aO;simp only[this,alS];exact congrArg (fun b=>some (b,f)) (decide_eq_decide.2 pT)
theorem Fv(l:List ByteArray)(m:ByteArray)(hl:l.length<=maxLen):M.dl aB l m=some (decide (m∈l)):=by
 have:M.dI aB l m=some (fI (fun x=>decide (m=x)) l):=by
  unfold M.dI;exact Hb hl (fun k h=>by simp only[ah h,kf h,alS,if_true]) (by simp only[fD,decide_false,al2,if_false])
 unfold M.dl;simp only[this,alS];refine congrArg some (decide_eq_decide.2 ?_);rw[pR];simp
theorem Fw(l:List Int)(m:Int)(hl:l.length<=maxLen):M.eG aB l m=some (decide (m∈l)):=by
 have:M.fT aB l m=some (fI (fun x=>decide (m=x)) l):=by
  unfold M.fT;exact Hb hl (fun k h=>by simp only[ah h,kf h,alS,if_true]) (by simp only[fD,decide_false,al2,if_false])
 unfold M.eG;simp only[this,alS];refine congrArg some (decide_eq_decide.2 ?_);rw[pR];simp
theorem mu{α:Type}{l:List α}{k:Nat}(h:k<=l.length):fH l (0:Int) (k:Int)=some (l.take k):=by
 apply Wp.eq;exact wp_cut.2 ⟨by omega,by simp⟩
theorem A3(l:Lw)(hw:WF bU l)(k:Nat)(hk:k<l.1.length):M.lY aB l (k:Int) l.1[k]=some ((nL l k).getD (0,0)):=by
 have hx:WF bu l.1[k]:=hw.1.2 _ (al0 hk);have w1:=hw.1.1;have hs:l.1[k].1.size<=maxLen:=hx.1;have hm:∀m∈l.1[k].2,ByteArray.size m<=maxLen:=hx.2.2;apply Wp.eq;unfold M.lY nL;rw[alV hk];simp only[ui _ hs,mu (anA hk),rH (l.1.take k) _ (by rw[amd];omega),W_,implies_true,forall_const,reduceCtorEq];generalize l.1[k]=x at*;refine⟨fun h=>by rw[if_pos h];rfl,fun h=>?_⟩;rw[if_neg (by simp[h])];refine⟨fun h=>by rw[if_pos h];rfl,fun h2=>?_⟩;rw[if_neg h2];refine⟨fun h=>by rw[if_pos (by omega)];rfl,fun h3=>?_⟩;rw[if_neg (by omega)];refine⟨fun h=>by rw[if_pos (by omega)];rfl,fun h4=>?_⟩;rw[if_neg (by omega)]
 refine Wp.count (fun s=>s) x.2.length (fun i _=>∀j,j<i->MP x.2 j=none) (by omega) rfl (fun j hj=>by omega) fun i c hi hs hJ=>?_
 obtain rfl:c=_:=hs;simp only[W_,implies_true,forall_const,reduceCtorEq,ba,aS];refine⟨fun aj=>?_,fun hge=>?_⟩
 .have aj:i<x.2.length:=by omega
  have hf:MP x.2 i=if mq x.2[i]=false then some (2,100+(i:Int))else if x.2[i]∈x.2.take i then some (7,100+(i:Int))else none:=by
   unfold MP;rw[alV aj]
  simp only[ah aj,ui _ (hm _ (al0 aj)),mu (anA aj),Fv (x.2.take i) _ (by rw[amd];unfold maxLen;omega),sO (k:=i) (a:=100) (by omega) (by omega),bV (m:=x.2.length) (by omega) aj,W_,implies_true,forall_const,reduceCtorEq];refine⟨fun h=>?_,fun h=>⟨fun h2=>?_,fun h2=>⟨aj,cK hJ ?_⟩⟩⟩
  .rw[fk (hf.trans (if_pos h)) hJ aj];rfl
  .rw[fk (hf.trans ((if_neg (by simp[h])).trans (if_pos h2))) hJ aj];rfl
  .rw[hf,if_neg (by simp[h]),if_neg h2]
 .rw[bH.2 fun j hj=>hJ j (by omega)];rfl
theorem yo(l:Lw)(hw:WF bU l):M.kW aB l=some (if 8<l.1.length then((4:Int),((1:Int),((8:Int),(0:Int))))else match cy (fun k=>(nL l k).map fun e=>(k,e)) l.1.length with
 |some (k,e)=>sN 1 (k:Int) (some e)
 |none=>Pu):=by
 have w1:=hw.1.1;unfold maxLen at w1;apply Wp.eq;unfold M.kW;simp only[W_,implies_true,forall_const,reduceCtorEq];refine⟨fun h=>by rw[if_pos (by omega)],fun h8=>?_⟩;rw[if_neg (by omega)]
 refine Wp.count (fun s=>s) l.1.length (fun i _=>∀j,j<i->(fun k=>(nL l k).map fun e=>(k,e)) j=none) w1 rfl (fun j hj=>by omega) fun i c hi hs hJ=>?_
 obtain rfl:c=_:=hs;simp only[W_,implies_true,forall_const,reduceCtorEq,ba,aS];refine⟨fun aj=>?_,fun hge=>?_⟩
 .have aj:i<l.1.length:=by omega
  simp only[ah aj,A3 l hw i aj,bV w1 aj,W_,implies_true,forall_const,reduceCtorEq];refine⟨fun h=>?_,fun h=>⟨aj,cK hJ ?_⟩⟩
  .cases he:nL l i with
   |none=>rw[he]at h;exact absurd rfl h
   |some e=>rw[fk (SW he) hJ aj];rfl
  .cases he:nL l i with
   |none=>rfl
   |some e=>rw[he]at h;exact absurd h (uf he)
 .rw[bH.2 fun j hj=>hJ j (by omega)];rfl
theorem oQ(t:Ty)(E:List En):M.cr aB t E=some (decide (jM t E.length)):=by
 obtain⟨(k:Int),(e:Int)⟩:=t;apply Wp.eq;unfold M.cr;simp only[W_,implies_true,forall_const,reduceCtorEq];simp only[jM];dsimp only[ae,Row.den]at*;omega
theorem A4(t:Ty)(E:List En):M.fR aB t E=some (Bl t E):=by
 obtain⟨(k:Int),(e:Int)⟩:=t;apply Wp.eq;unfold M.fR Bl;simp only[oQ,W_,implies_true,forall_const,reduceCtorEq];by_cases hv:jM (k,e) E.length
 .simp only[hv,not_true_eq_false,if_false,false_implies,true_implies,true_and];refine⟨fun h=>by rw[if_pos h],fun h1=>⟨fun h=>by rw[if_neg h1,if_pos h],fun h2=>⟨fun h=>by rw[if_neg h1,if_neg h2,if_pos h],fun h3=>⟨fun h=>by rw[if_neg h1,if_neg h2,if_neg h3,if_pos h],fun h4=>⟨fun h=>by rw[if_neg h1,if_neg h2,if_neg h3,if_neg h4,if_pos h],fun h5=>?_⟩⟩⟩⟩⟩;simp only[jM]at hv;dsimp only[ae,Row.den]at*
  have hi:e.toNat<E.length:=by omega
  refine eC.2 ⟨by omega,?_⟩;rw[if_neg h1,if_neg h2,if_neg h3,if_neg h4,if_neg h5,alV hi];rfl
 .simp only[hv,not_false_eq_true,if_true,true_implies,false_implies,and_true]
theorem Fx(r:Ty):M.eR aB r=some (decide (VR r)):=by
 obtain⟨(k:Int),(e:Int)⟩:=r;apply Wp.eq;unfold M.eR;simp only[W_,implies_true,forall_const,reduceCtorEq];simp only[VR];dsimp only[ae,Row.den]at*;omega
theorem Jx(a b:Rw):M.kX aB a b=some (decide (nG a b)):=by
 obtain⟨⟨(a1:Int),(a2:Int)⟩,(a3:Int),(a4:Int),(a5:Int)⟩:=a;obtain⟨⟨(b1:Int),(b2:Int)⟩,(b3:Int),(b4:Int),(b5:Int)⟩:=b;apply Wp.eq;unfold M.kX M.jF M.iF;simp only[Fx,W_,implies_true,forall_const,reduceCtorEq];simp only[nG];dsimp only[ae,Row.den]at*
 by_cases h1:VR (a1,a2)<;>by_cases h2:VR (b1,b2)<;>simp only[h1,h2,W_,implies_true,forall_const,reduceCtorEq]<;>omega
theorem MX(l:List Rw)(x:Rw)(hl:l.length<=maxLen):Wp (M.bS aB l x) fun r=>r.2.1=true↔∃y∈l,nG y x:=by
 unfold M.bS M.iZ
 refine Wp.count (fun s=>s.1) l.length (fun k s=>s.2=x/\∀j,j<k->∀h:j<l.length,¬nG l[j] x) hl rfl ⟨rfl,fun j hj=>by omega⟩ fun k c hk hs hJ=>?_
 obtain⟨c1,c2⟩:=c;obtain⟨h1,hJ⟩:=hJ;obtain rfl:c2=x:=h1;obtain rfl:c1=_:=hs;simp only[Jx,W_,implies_true,forall_const,reduceCtorEq,ba,aS];refine⟨fun aj=>?_,fun hge=>?_⟩
 .have aj:k<l.length:=by omega
  simp only[ah aj,bV hl aj,W_,implies_true,forall_const,reduceCtorEq];exact⟨fun h=>iff_of_true trivial ⟨_,al0 aj,h⟩,fun h=>⟨aj,cK hJ fun _=>h⟩⟩
 .refine iff_of_false id ?_
  rintro⟨y,hy,h⟩
  obtain⟨j,hj,rfl⟩:=amb hy;exact hJ j (by omega) hj h
theorem PA(t:yl)(E:List En):M.kY aB t E=some (nU t E):=by
 apply Wp.eq;unfold M.kY nU;simp only[oQ,A4,Fx,W_,implies_true,forall_const,reduceCtorEq];refine⟨fun h=>by rw[if_pos (by omega)],fun h64=>?_⟩;rw[if_neg (c:=64<t.2.2.2.length) (by omega)];refine⟨fun h1=>by rw[if_pos (fun g=>h1 g.1)],fun h1=>⟨fun h2=>by rw[if_pos (fun g=>h2 g.2)],fun h2=>?_⟩⟩;rw[if_neg (fun g=>g ⟨h1,h2⟩)]
 refine Wp.count (fun s=>s) t.2.2.2.length (fun k _=>∀j,j<k->rC t E j=none) (by omega) rfl (fun j hj=>by omega) fun k s hk hs hJ=>?_
 obtain rfl:s=_:=hs;simp only[W_,implies_true,forall_const,reduceCtorEq,ba,aS];refine⟨fun aj=>?_,fun hge=>?_⟩
 .have aj:k<t.2.2.2.length:=by omega
  have hf:rC t E k=if ou t.2.2.2[k] t E then some ((k:Int),3)else if∃y∈t.2.2.2.take k,nG y t.2.2.2[k]then some ((k:Int),11)else none:=by
   unfold rC;rw[alV aj]
  have bad:ou t.2.2.2[k] t E->((k:Int),(3:Int))=(cy (rC t E) t.2.2.2.length).getD (0,0):=fun hw=>by
   rw[fk (hf.trans (if_pos hw)) hJ aj];rfl
  have xp:¬ou t.2.2.2[k] t E->Wp (M.bS aB (t.2.2.2.take k) t.2.2.2[k]) fun y=>(y.2.1=true->((k:Int),(11:Int))=(cy (rC t E) t.2.2.2.length).getD (0,0))/\(y.2.1=false->k<t.2.2.2.length/\∀j,j<k+1->rC t E j=none):=fun hw=>by
   rw[if_neg hw]at hf
   refine(MX _ _ (by rw[amd];unfold maxLen;omega)).mono fun y hy=>⟨fun h=>?_,fun h=>⟨aj,cK hJ ?_⟩⟩
   .rw[fk (hf.trans (if_pos (hy.1 h))) hJ aj];rfl
   .rw[hf,if_neg fun g=>by rw[hy.2 g]at h;cases h]
  simp only[ah aj,mu (anA aj),bV (m:=t.2.2.2.length) (by omega) aj,W_,implies_true,forall_const,reduceCtorEq];unfold ou at bad xp;unfold D1 at bad xp;generalize M.bS aB (t.2.2.2.take k) t.2.2.2[k]=fm at*;generalize t.2.2.2[k]=x at*;obtain⟨⟨(x1:Int),(x2:Int)⟩,(x3:Int),(x4:Int),(x5:Int)⟩:=x;dsimp only[ae,Row.den]at*;clear hf hJ;generalize Bl t.2.1 E=p at*;generalize Bl t.2.2.1 E=q at*;obtain⟨(p1:Int),(p2:Int)⟩:=p;obtain⟨(q1:Int),(q2:Int)⟩:=q;dsimp only at*
  refine⟨fun h=>bad (.inl h),fun h1=>⟨fun h=>bad (by omega),fun h2=>⟨fun h=>bad (by omega),fun h3=>⟨fun h=>bad (by omega),fun h4=>⟨fun h=>bad (by omega),fun h5=>⟨fun h=>bad (by omega),fun h6=>⟨fun h=>bad (by omega),fun h7=>⟨fun h=>bad (by omega),fun h8=>⟨fun h=>bad (by omega),fun h9=>xp fun hw=>by
   rcases hw with g|g
   .exact g h1
   .omega⟩⟩⟩⟩⟩⟩⟩⟩⟩
 .rw[bH.2 fun j hj=>hJ j (by omega)];rfl
theorem MY{t:yl}{E:List En}:(nU t E).2≠0->((nU t E).1= -1\/(0<=(nU t E).1/\(nU t E).1<=64)):=by
 unfold nU;intro h;split
 .exact .inr (by simp)
 split
 .exact .inl rfl
 rename_i h1 h2
 cases hf:cy (rC t E) t.2.2.2.length with
 |none=>rw[if_neg h1,if_neg h2,hf]at h;exact absurd rfl h
 |some e=>
  obtain⟨k,hk,he,_⟩:=fY hf;unfold rC at he;split at he
  .cases he
  split at he
  .cases he;exact .inr ⟨by simp,by simp;omega⟩
  split at he
  .cases he;exact .inr ⟨by simp,by simp;omega⟩
  .cases he
theorem xy(l:Lw)(hw:WF bU l):M.jX aB l=some (if 8<l.2.1.length then((4:Int),((2:Int),((8:Int),(0:Int))))else match cy (fun k=>(pc l k).map fun e=>(k,e)) l.2.1.length with
 |some (k,e)=>sN 2 (k:Int) (some e)
 |none=>Pu):=by
 have w1:=hw.2.1.1;have w0:=hw.1.1;have wt:∀t∈l.2.1,WF av t:=hw.2.1.2;unfold maxLen at w1;apply Wp.eq;unfold M.jX;simp only[W_,implies_true,forall_const,reduceCtorEq];refine⟨fun h=>by rw[if_pos (by omega)],fun h8=>?_⟩;rw[if_neg (by omega)]
 refine Wp.count (fun s=>s) l.2.1.length (fun i _=>∀j,j<i->(fun k=>(pc l k).map fun e=>(k,e)) j=none) w1 rfl (fun j hj=>by omega) fun i c hi hs hJ=>?_
 obtain rfl:c=_:=hs;simp only[W_,implies_true,forall_const,reduceCtorEq,ba,aS];refine⟨fun aj=>?_,fun hge=>?_⟩
 .have aj:i<l.2.1.length:=by omega
  have mE:l.2.1[i].1.size<=maxLen:=(wt _ (al0 aj)).1
  have hE:pc l i=if mq l.2.1[i].1=false then some (2,0)else if fJ l.1 l.2.1[i].1\/fJ (l.2.1.take i) l.2.1[i].1 then some (7,0)else if(nU l.2.1[i] l.1).2=0 then none else some ((nU l.2.1[i] l.1).2,if 0<=(nU l.2.1[i] l.1).1 then 100+(nU l.2.1[i] l.1).1 else 0):=by
   unfold pc;rw[alV aj]
  simp only[ah aj,PA,ui _ mE,mu (anA aj),rH _ _ w0,uO (l.2.1.take i) _ (by rw[amd];unfold maxLen;omega),bV w1 aj,W_,implies_true,forall_const,reduceCtorEq]
  have bad:∀e,pc l i=some e->sN 2 (i:Int) (some e)=(match cy (fun k=>(pc l k).map fun e=>(k,e)) l.2.1.length with|some (k,e)=>sN 2 (k:Int) (some e)|none=>Pu):=fun e he=>by
   rw[fk (SW he) hJ aj]
  have xp:pc l i=none->i<l.2.1.length/\∀j,j<i+1->(fun k=>(pc l k).map fun e=>(k,e)) j=none:=fun h=>⟨aj,cK hJ (Px h)⟩
  have LV:=MY (t:=l.2.1[i]) (E:=l.1);generalize nU l.2.1[i] l.1=te at*;obtain⟨(r:Int),(c:Int)⟩:=te;dsimp only at*;refine⟨fun h=>?_,fun h=>⟨fun h2=>?_,fun h2=>⟨fun h3=>?_,fun h3=>⟨fun h4=>?_,fun h4=>?_⟩⟩⟩⟩
  .exact⟨fun _=>bad (2,0) (hE.trans (if_pos h)),fun g=>absurd g (by decide)⟩
  .rw[if_neg (c:=mq l.2.1[i].1=false) (by simp[h]),if_pos (Or.inl h2)]at hE;exact⟨fun _=>bad (7,0) hE,fun g=>absurd g (by decide)⟩
  .rw[if_neg (c:=mq l.2.1[i].1=false) (by simp[h]),if_pos (Or.inr h3)]at hE;exact⟨fun _=>bad (7,0) hE,fun g=>absurd g (by decide)⟩
  .rw[if_neg (c:=mq l.2.1[i].1=false) (by simp[h]),if_neg (fun g=>g.elim h2 h3),if_neg h4]at hE;have hr:=LV h4;refine⟨fun g=>⟨fun _=>?_,fun e=>absurd e h4⟩,fun g=>⟨fun _=>?_,fun e=>absurd e h4⟩⟩
   .rw[aJ (by omega) (by omega)];exact bad (c,100+r) (hE.trans (by rw[if_pos (by omega)]))
   .exact bad (c,0) (hE.trans (by rw[if_neg (by omega)]))
  .rw[if_neg (c:=mq l.2.1[i].1=false) (by simp[h]),if_neg (fun g=>g.elim h2 h3),if_pos h4]at hE;exact xp hE
 .rw[bH.2 fun j hj=>hJ j (by omega)];rfl
noncomputable def pU(l:Lw)(f:Fd)(a b:List Fd):Int:=if mq f.1=false then 2 else if fJ a f.1\/fJ b f.1 then 7 else if¬jM f.2 l.1.length then 8 else 0
theorem qW(l:Lw)(f:Fd)(a b:List Fd)(hf:f.1.size<=maxLen)(ha:a.length<=maxLen)(hb:b.length<=maxLen):M.jb aB l f a b=some (pU l f a b):=by
 apply Wp.eq;unfold M.jb;simp only[ui _ hf,sP _ _ ha,sP _ _ hb,oQ,W_,implies_true,forall_const,reduceCtorEq];unfold pU;refine⟨fun h=>by rw[if_pos h],fun h=>?_⟩;rw[if_neg (c:=mq f.1=false) (by simp[h])];refine⟨fun h1=>by rw[if_pos (.inl h1)],fun h1=>⟨fun h2=>by rw[if_pos (.inr h2)],fun h2=>?_⟩⟩;rw[if_neg (fun g=>g.elim h1 h2)];exact⟨fun h3=>by rw[if_pos h3],fun h3=>by rw[if_neg (fun g=>g h3)]⟩
theorem A5(l:List UInt8)(c:UInt8):0<=anl l c↔c∈l:=by
 induction l with
 |nil=>simp[anl]
 |cons b l ih=>
  have hg:=Go.Lib.indexByte_ge l c;unfold anl;by_cases h:b=c
  .subst h;simp
  .have h':c≠b:=fun e=>h e.symm
   simp only[beq_iff_eq,h,if_false,amg,h',false_or,<-ih]
   split<;>omega
theorem xz(s:ByteArray)(_:s.size<=maxLen):M.jY aB s=some (decide (plain s)):=by
 have hc:M.strings_Contains aB s (⟨#[34]⟩:ByteArray)=some (decide (0<=anl s.data.toList 34)):=rfl
 have cx:0<=anl s.data.toList 34↔∃i,∃h:i<s.size,(s[i].toNat:Int)=34:=by
  rw[A5];constructor
  .intro h;obtain⟨i,hi,e⟩:=amb h;refine⟨i,by simpa using hi,?_⟩
   have:s[i]'(by simpa using hi)=34:=by
    have e:s.data[i]'(by simpa using hi)=34:=by simpa using e
    exact e
   rw[this];rfl
  .rintro⟨i,hi,e⟩
   have e2:s[i]=34:=by
    apply UInt8.toNat_inj.1
    show s[i].toNat=34
    omega
   have:(34:UInt8)=s.data.toList[i]'(by simpa using hi):=by rw[<-e2];simp;rfl
   rw[this];exact al0 _
 apply Wp.eq;unfold M.jY;simp only[hc,W_,implies_true,forall_const,reduceCtorEq];refine⟨fun h=>?_,fun h64=>⟨fun h=>?_,fun sY=>?_⟩⟩
 .exact fun(g:plain s)=>by have:=g.2;omega
 .obtain⟨i,hi,e⟩:=cx.1 h
  exact fun(g:plain s)=>(g.1 i hi).2.2 e
 refine Wp.count (fun s=>s) s.size (fun i _=>∀j,j<i->∀h:j<s.size,32<=(s[j].toNat:Int)/\(s[j].toNat:Int)<=126) (by omega) rfl (fun j hj=>by omega) fun i c hi hs hJ=>?_
 obtain rfl:c=_:=hs
 rcases Nat.lt_or_ge i s.size with aj|hge
 .have hb:lI s (i:Int)=some (s[i].toNat:Int):=by
   have:=(Qw (x:=((s[i].toNat:Nat):Int))).1 (sC (s:=s) (i:=(i:Int)).2 ⟨by omega,by simp⟩);exact this
  simp only[Fb aj,hb,bV (m:=s.size) (by omega) aj,W_,implies_true,forall_const,reduceCtorEq,ba,aS];refine⟨fun h=>?_,fun h=>⟨fun h2=>?_,fun h2=>⟨aj,cK hJ fun _=>by omega⟩⟩⟩
  .exact fun(g:plain s)=>by have:=g.1 i aj;omega
  .exact fun(g:plain s)=>by have:=g.1 i aj;omega
 .obtain rfl:i=s.size:=by omega
  simp only[fD,W_,implies_true,forall_const,reduceCtorEq,aS];refine(⟨fun i hi=>?_,by omega⟩:plain s);have:=hJ i hi hi;exact⟨this.1,this.2,fun e=>sY (cx.2 ⟨i,hi,e⟩)⟩
def mo(sg:ov):Prop:=∀e:List Ty,(∀n∈e,WF aa n)->M.fS aB e sg=some (D2 e sg)
theorem mT{sg:ov}(hT:mo sg){e:List Ty}(want:Ty)(hw:∀n∈e,WF aa n):M.gf aB e sg want=some (rE e sg want):=by
 apply Wp.eq;unfold M.gf;simp only[hT e hw,AP,W_,implies_true,forall_const,reduceCtorEq];unfold rE;refine⟨fun h=>by rw[if_pos h],fun h=>?_⟩;rw[if_neg (fun g=>g h)];exact⟨fun h=>by rw[if_pos h],fun h=>by rw[if_neg (fun g=>g h)]⟩
theorem A6(l:Lw)(x:gw)(hw:WF aw x)(kh:iE x)(hT:mo (dt l x))(k:Nat)(hk:k<x.2.2.2.2.length):M.jQ aB x (k:Int) (dt l x)=some (pP l x k x.2.2.2.2[k]):=by
 have J1:=hw.2.2.2.2.2 _ (al0 hk);have Sw:=kh.2.2.2.2.2.2 _ (al0 hk)
 obtain⟨r,hr⟩:∃r,r=x.2.2.2.2[k]:=⟨_,rfl⟩
 have SX:=kh.2.2.2.1
 have PB:Wp (Loop (S:=Int×Int) (X:=Int) (fun s4=>
  (if(decide (s4.2<((x.2.2.2.2.take k).length:Int)))=true then
  ((idx (x.2.2.2.2.take k) s4.2).bind fun x6=>
  (if(decide ((x6.2.1:Int)=r.2.1))=true then
  some (alT.wrap (s4.1+(1:Int)))
  else
  some s4.1):Option (Int)).bind fun j5=>
  some (Sum.inl (j5,alT.wrap (s4.2+(1:Int))))
  else
  some (amP s4.1))) aB ((0:Int),(0:Int))) fun n=>n=(AY x k r.2.1:Int):=by
  have Mh:(x.2.2.2.2.take k).length=k:=by rw[amd];omega
  refine Wp.count (fun s=>s.2) k (fun j s=>s.1=(((x.2.2.2.2.take j).countP fun r'=>decide ((r'.2.1:Int)=r.2.1):Nat):Int)) (by omega) rfl rfl fun j s hj hs X1=>?_
  obtain⟨sb,c⟩:=s;dsimp only at hs X1;subst hs;rw[Mh];have zh:(x.2.2.2.2.take j).countP (fun r'=>decide ((r'.2.1:Int)=r.2.1))<=60:=Nat.le_trans List.countP_le_length (by rw[amd];omega);simp only[W_,implies_true,forall_const,reduceCtorEq,ba,aS];refine⟨fun WQ=>?_,fun WQ=>?_⟩
  .have Bi:j<x.2.2.2.2.length:=by omega
   have QD:j<(x.2.2.2.2.take k).length:=by omega
   simp only[ah QD,List.getElem_take,bV (m:=k) (by omega) (show j<k by omega),W_,implies_true,forall_const,reduceCtorEq]
   have TF:(x.2.2.2.2.take (j+1)).countP (fun r'=>decide ((r'.2.1:Int)=r.2.1))=(x.2.2.2.2.take j).countP (fun r'=>decide ((r'.2.1:Int)=r.2.1))+if(x.2.2.2.2[j].2.1:Int)=r.2.1 then 1 else 0:=by
    rw[<-List.take_append_getElem Bi,List.countP_append];simp[List.countP_cons]
   refine⟨fun h'=>⟨by omega,?_⟩,fun h'=>⟨by omega,?_⟩⟩
   .rw[TF,if_pos h',X1,aJ (by omega) (by omega)];rfl
   .rw[TF,if_neg h',X1];rfl
  .obtain rfl:j=k:=by omega
   exact X1
 apply Wp.eq;unfold M.jQ;rw[<-hr];have mE:r.1.size<=maxLen:=(hr▸J1).1
 have adQ:r.2.2.2.2.2.2.2.size<=maxLen:=by
  have:=(hr▸Sw).2.1;unfold maxLen;omega
 have zh:AY x k r.2.1<=60:=Nat.le_trans List.countP_le_length (by rw[amd];omega);have hg:∀n∈r.2.2.2.2.2.1,WF aa n:=(hr▸J1).2.2.2.2.2.1.2;have hv:∀n∈r.2.2.2.2.2.2.1,WF aa n:=(hr▸J1).2.2.2.2.2.2.1.2;have SY:pO x k r↔(r.2.2.1:Int)≠-1/\((r.2.2.1:Int)<0\/(k:Int)<=r.2.2.1\/∃y,x.2.2.2.2[(r.2.2.1:Int).toNat]? =some y/\(y.2.1:Int)≠r.2.1):=Iff.rfl;simp only[ah hk,<-hr,mu (anA hk),DB (x.2.2.2.2.take k) _ (by rw[amd];unfold maxLen;omega),ui _ mE,xz _ adQ,W_,implies_true,forall_const,reduceCtorEq];simp only[decide_eq_true_eq]at PB
 refine PB.mono fun n hn=>?_
 subst hn;clear PB J1 Sw hr;unfold pP;refine⟨fun h=>by rw[if_pos h],fun h1=>?_⟩;rw[if_neg (c:=mq r.1=false) (by simp[h1])];refine⟨fun h=>by rw[if_pos h],fun h2=>?_⟩;rw[if_neg (c:=fJ (x.2.2.2.2.take k) r.1) h2];generalize AY x k r.2.1=q at*;obtain⟨nm,(d:Int),(p:Int),(pr:Int),v,g,val,src⟩:=r;obtain⟨(v1:Int),(v2:Int)⟩:=v;dsimp only[ae,Row.den]at*;refine⟨fun h=>by rw[if_pos (c:=¬(0<=d/\d<(x.2.2.2.1.length:Int))) (by omega)],fun h3=>⟨fun h=>by rw[if_pos (c:=¬(0<=d/\d<(x.2.2.2.1.length:Int))) (by omega)],fun h4=>?_⟩⟩;rw[if_neg (c:=¬(0<=d/\d<(x.2.2.2.1.length:Int))) (by omega)]
 have hd:d.toNat<x.2.2.2.1.length:=by omega
 have X2:¬VR ((v1,v2):Ty)\/v1=v2↔v1<0\/v2<=v1\/109573<v2:=by
  simp only[VR];dsimp only[ae,Row.den];omega
 refine⟨fun hp=>⟨fun h=>by rw[if_pos (SY.2 ⟨hp, .inl h⟩)],fun h5=>⟨fun h=>by rw[if_pos (SY.2 ⟨hp, .inr (.inl h)⟩)],fun h6=>eC.2 ⟨⟨by omega,by omega⟩,fun h7=>by rw[if_pos (SY.2 ⟨hp, .inr (.inr ⟨_,alV (by omega),h7⟩)⟩)],fun h7=>?_⟩⟩⟩,fun hp=>?_⟩
 .have P6:¬pO x k (nm,d,p,pr,(v1,v2),g,val,src):=fun h=>by
   obtain⟨_,g1|g1|⟨y,g1,g2⟩⟩:=SY.1 h
   .omega
   .omega
   .rw[alV (by omega)]at g1;cases g1;exact g2 h7
  clear SY;rw[if_neg P6]
  have last:Wp (idx x.2.2.2.1 d) fun x_3=>Wp (M.gf aB val (dt l x) x_3.2) fun x_4=>x_4=match x.2.2.2.1[d.toNat]? with
   |some d=>rE val (dt l x) d.2
   |none=>0:=by
   refine eC.2 ⟨by omega,?_⟩;rw[mT hT _ hv,alV hd];exact .some rfl
  by_cases g1:pr<0\/9<pr\/¬VR ((v1,v2):Ty)\/v1=v2
  .rw[if_pos g1];refine⟨fun _=>rfl,fun a1=>⟨fun _=>rfl,fun a2=>⟨fun _=>rfl,fun a3=>⟨fun _=>rfl,fun a4=>⟨fun _=>rfl,fun a5=>?_⟩⟩⟩⟩⟩;rw[X2]at g1;omega
  rw[if_neg g1]
  have Ud:¬(pr<0\/9<pr\/v1<0\/v2<=v1\/109573<v2):=by rw[<-X2];exact g1
  refine⟨fun h=>by omega,fun a1=>⟨fun h=>by omega,fun a2=>⟨fun h=>by omega,fun a3=>⟨fun h=>by omega,fun a4=>⟨fun h=>by omega,fun a5=>?_⟩⟩⟩⟩⟩;refine⟨fun h=>by rw[if_pos (by omega)],fun h8=>?_⟩;rw[if_neg (by omega)];refine⟨fun h=>by rw[if_pos h],fun h9=>?_⟩;rw[if_neg (fun h=>h h9)];refine⟨fun h=>?_,fun h=>?_⟩
  .rw[mT hT _ hg];refine .some ⟨fun h'=>by rw[if_pos ⟨by omega,h'⟩],fun h'=>?_⟩;rw[if_neg (fun g=>g.2 h')];exact last
  .rw[if_neg (fun g=>h (by omega))];exact last
 .have P6:¬pO x k (nm,d,p,pr,(v1,v2),g,val,src):=fun h=>(SY.1 h).1 hp
  clear SY;rw[if_neg P6]
  have last:Wp (idx x.2.2.2.1 d) fun x_3=>Wp (M.gf aB val (dt l x) x_3.2) fun x_4=>x_4=match x.2.2.2.1[d.toNat]? with
   |some d=>rE val (dt l x) d.2
   |none=>0:=by
   refine eC.2 ⟨by omega,?_⟩;rw[mT hT _ hv,alV hd];exact .some rfl
  by_cases g1:pr<0\/9<pr\/¬VR ((v1,v2):Ty)\/v1=v2
  .rw[if_pos g1];refine⟨fun _=>rfl,fun a1=>⟨fun _=>rfl,fun a2=>⟨fun _=>rfl,fun a3=>⟨fun _=>rfl,fun a4=>⟨fun _=>rfl,fun a5=>?_⟩⟩⟩⟩⟩;rw[X2]at g1;omega
  rw[if_neg g1]
  have Ud:¬(pr<0\/9<pr\/v1<0\/v2<=v1\/109573<v2):=by rw[<-X2];exact g1
  refine⟨fun h=>by omega,fun a1=>⟨fun h=>by omega,fun a2=>⟨fun h=>by omega,fun a3=>⟨fun h=>by omega,fun a4=>⟨fun h=>by omega,fun a5=>?_⟩⟩⟩⟩⟩;refine⟨fun h=>by rw[if_pos (by omega)],fun h8=>?_⟩;rw[if_neg (by omega)];refine⟨fun h=>by rw[if_pos h],fun h9=>?_⟩;rw[if_neg (fun h=>h h9)];refine⟨fun h=>?_,fun h=>?_⟩
  .rw[mT hT _ hg];refine .some ⟨fun h'=>by rw[if_pos ⟨by omega,h'⟩],fun h'=>?_⟩;rw[if_neg (fun g=>g.2 h')];exact last
  .rw[if_neg (fun g=>h (by omega))];exact last
def Jy(x:gw):Prop:=∀d:Nat,d<x.2.2.2.1.length->∃tr,M.ig aB x (d:Int)=some tr/\tr.length<=1000/\((d:Int)∈tr↔(d:Int)∈J0 x d)
theorem Jz(l:Lw)(k:Nat)(hk:k<l.2.2.length)(hs:∀s∈l.2.2,s.2.2.1.length<=100000/\s.2.2.2.1.length<=100000):M.jG aB l (k:Int)=some ((dt l l.2.2[k]).1,(dt l l.2.2[k]).2.1,(dt l l.2.2[k]).2.2.2.2.2,(dt l l.2.2[k]).2.2.1,(dt l l.2.2[k]).2.2.2.1,(dt l l.2.2[k]).2.2.2.2.1):=by
 rw[<-Pv l k hk hs];unfold M.mC;rw[if_neg (by simp),alS,if_neg (by simp;omega)];rfl
theorem SZ(l:Lw)(x:gw)(i:Nat)(h:i<x.2.2.1.length):MQ l x i=if pU l x.2.2.1[i] (x.2.2.1.take i) []≠0 then some (pU l x.2.2.1[i] (x.2.2.1.take i) [],100+(i:Int))else none:=by
 have hn:∀nm,¬fJ ([]:List Fd) nm:=fun nm ⟨y,hy,_⟩=>by cases hy
 unfold MQ pU;rw[alV h];simp only[hn,or_false];by_cases h1:mq x.2.2.1[i].1=false
 .simp[h1]
 by_cases h2:fJ (x.2.2.1.take i) x.2.2.1[i].1
 .simp[h1,h2]
 by_cases h3:jM x.2.2.1[i].2 l.1.length
 .simp[h1,h2,h3]
 .simp[h1,h2,h3]
theorem S0(l:Lw)(x:gw)(i:Nat)(h:i<x.2.2.2.1.length):MS l x i=if pU l x.2.2.2.1[i] x.2.2.1 (x.2.2.2.1.take i)≠0 then some (pU l x.2.2.2.1[i] x.2.2.1 (x.2.2.2.1.take i),200+(i:Int))else none:=by
 unfold MS pU;rw[alV h];simp only;by_cases h1:mq x.2.2.2.1[i].1=false
 .simp[h1]
 by_cases h2:fJ x.2.2.1 x.2.2.2.1[i].1\/fJ (x.2.2.2.1.take i) x.2.2.2.1[i].1
 .simp[h1,h2]
 by_cases h3:jM x.2.2.2.1[i].2 l.1.length
 .simp[h1,h2,h3]
 .simp[h1,h2,h3]
theorem yp(l:Lw)(hw:WF bU l)(kh:gZ l)(k:Nat)(hk:k<l.2.2.length)(hT:mo (dt l l.2.2[k]))(hC:Jy l.2.2[k]):M.k6 aB l (k:Int)=some ((rF l k).getD (0,0)):=by
 have rM:=kh.2.2.2.2.2 _ (al0 hk);have vf:=hw.2.2.2 _ (al0 hk)
 have WV:=Jz l k hk fun s hs=>⟨by have:=(kh.2.2.2.2.2 s hs).2.1;omega,by have:=(kh.2.2.2.2.2 s hs).2.2.1;omega⟩
 have hE:rF l k=if mq l.2.2[k].1=false then some (2,0)else if fJ l.1 l.2.2[k].1\/fJ l.2.1 l.2.2[k].1\/fJ (l.2.2.take k) l.2.2[k].1 then some (7,0)else if pQ l k l.2.2[k]then some (6,0)else
  if 12<l.2.2[k].2.2.1.length then some (4,112)else if 12<l.2.2[k].2.2.2.1.length then some (4,212)else((Jv l l.2.2[k]).or (cy (Dw l l.2.2[k]) l.2.2[k].2.2.2.2.length)).or (cy (Fu l.2.2[k]) l.2.2[k].2.2.2.1.length):=by
  unfold rF;rw[alV hk]
 have h5:=kh.2.2.1
 obtain⟨x,hx⟩:∃x,x=l.2.2[k]:=⟨_,rfl⟩
 simp only[<-hx]at rM vf WV hE hT hC;have Db:=rM.2.2.1;have SX:=rM.2.2.2.1;have adT:=rM.2.1;have mE:x.1.size<=maxLen:=vf.1
 have Mh:(l.2.2.take k).length=k:=by rw[amd];omega
 have cx:∀f∈x.2.2.1,(f.1:ByteArray).size<=maxLen:=fun f hf=>by have:=rM.2.2.2.2.1 f hf;unfold maxLen;omega
 have hdf:∀f∈x.2.2.2.1,(f.1:ByteArray).size<=maxLen:=fun f hf=>by have:=rM.2.2.2.2.2.1 f hf;unfold maxLen;omega
 apply Wp.eq;unfold M.k6;rw[ah hk,alS,mu (anA hk),alS,<-hx]
 have MZ:(((M.iY aB l.1 x.1).bind fun y4=>
  (if y4=true then
  some (true,x)
  else
  (M.ju aB l.2.1 x.1).bind fun y5=>
  (if y5=true then
  some (true,x)
  else
  (M.aO aB (l.2.2.take k) x).bind fun y6=>
  some (y6.1,y6.2))):Option (Bool×aw.den)))=some (decide (fJ l.1 x.1\/fJ l.2.1 x.1\/fJ (l.2.2.take k) x.1),x):=by
  apply Wp.eq;simp only[rH _ _ hw.1.1,uO _ _ hw.2.1.1,AZ (l.2.2.take k) _ (by rw[Mh];unfold maxLen;omega),W_,implies_true,forall_const,reduceCtorEq];exact⟨fun h=>by rw[decide_eq_true (Or.inl h)],fun h1=>⟨fun h=>by rw[decide_eq_true (Or.inr (Or.inl h))],fun h2=>congrArg (fun b=>(b,x)) (decide_eq_decide.2 ⟨fun h=> .inr (.inr h),fun h=>(h.resolve_left h1).resolve_left h2⟩)⟩⟩
 rw[MZ,alS,ui _ mE,alS,hE];by_cases h1:mq x.1=false
 .rw[if_pos (by simp[h1]),if_pos h1];exact .some rfl
 rw[if_neg (by simpa using h1),if_neg h1];by_cases h2:fJ l.1 x.1\/fJ l.2.1 x.1\/fJ (l.2.2.take k) x.1
 .rw[if_pos (decide_eq_true h2),if_pos h2];exact .some rfl
 rw[if_neg (by simpa using h2),if_neg h2];have S3:pQ l k x↔(x.2.1:Int)≠-1/\((x.2.1:Int)<0\/(k:Int)<=x.2.1\/∃y,l.2.2[(x.2.1:Int).toNat]? =some y/\(y.2.1:Int)≠-1):=Iff.rfl
 have WW:((if(!decide ((x.2.1:Int)=(-1:Int)))=true then
  (if(decide ((x.2.1:Int)<(0:Int)))=true then
  some true
  else
  (if(decide ((k:Int)<=x.2.1))=true then
  some true
  else
  (idx (l.2.2.take k) x.2.1).bind fun x9=>
  some (!decide ((x9.2.1:Int)=(-1:Int)))))
  else
  some false):Option (Bool))=some (decide (pQ l k x)):=by
  apply Wp.eq;simp only[W_,implies_true,forall_const,reduceCtorEq]
  obtain⟨(m:Int),hm⟩:∃m:Int,m=x.2.1:=⟨_,rfl⟩
  simp only[<-hm]at S3⊢;refine⟨fun hp=>⟨fun h=>(S3.2 ⟨hp, .inl h⟩),fun h3=>⟨fun h=>(S3.2 ⟨hp, .inr (.inl h)⟩),fun h4=>eC.2 ⟨by dsimp only[ae,Row.den]at*;omega,?_⟩⟩⟩,fun hp h=>(S3.1 h).1 hp⟩
  have hmn:m.toNat<k:=by dsimp only[ae,Row.den]at*;omega
  rw[List.getElem_take];have oS:l.2.2[m.toNat]? =some (l.2.2[m.toNat]'(by omega)):=alV (by omega);rw[<-decide_not];refine decide_eq_decide.2 ⟨fun h g=>?_,fun h=>am2.1 fun h'=>h (S3.2 ⟨hp, .inr (.inr ⟨_,oS,h'⟩)⟩)⟩;obtain⟨_,g1|g1|⟨y,g1,g2⟩⟩:=S3.1 g
  .exact absurd g1 h3
  .exact absurd g1 h4
  .rw[oS]at g1;cases g1;exact g2 h
 rw[WW,alS];by_cases h3:pQ l k x
 .rw[if_pos (decide_eq_true h3),if_pos h3];exact .some rfl
 rw[if_neg (by simpa using h3),if_neg h3];clear MZ WW S3 hE;dsimp only;by_cases h4:12<x.2.2.1.length
 .rw[if_pos (decide_eq_true (by omega)),if_pos h4];exact .some rfl
 rw[if_neg (by rw[decide_eq_true_eq];omega),if_neg h4];by_cases h5:12<x.2.2.2.1.length
 .rw[if_pos (decide_eq_true (by omega)),if_pos h5];exact .some rfl
 rw[if_neg (by rw[decide_eq_true_eq];omega),if_neg h5,WV];unfold Jv;simp only[W_,implies_true,forall_const,reduceCtorEq]
 refine Wp.count (fun s=>s) x.2.2.1.length (fun i _=>∀j,j<i->MQ l x j=none) (by omega) rfl (fun j hj=>by omega) fun i c hi hs hJ=>?_
 obtain rfl:c=_:=hs;simp only[W_,implies_true,forall_const,reduceCtorEq,ba,aS];refine⟨fun aj=>?_,fun hge=>?_⟩
 .have aj:i<x.2.2.1.length:=by omega
  have hf:=SZ l x i aj;simp only[ah aj,mu (anA aj),qW l _ (x.2.2.1.take i) [] (cx _ (al0 aj)) (by rw[amd];unfold maxLen;omega) (by simp),sO (k:=i) (a:=100) (by omega) (by omega),bV (m:=x.2.2.1.length) (by omega) aj,W_,implies_true,forall_const,reduceCtorEq];refine⟨fun h=>?_,fun h=>⟨aj,cK hJ (by rw[hf,if_neg (fun g=>g h)])⟩⟩;rw[fk (hf.trans (if_pos h)) hJ aj];rfl
 rw[bH.2 fun j(hj:j<x.2.2.1.length)=>hJ j (by omega),am8];clear hJ
 refine Wp.count (fun s=>s) x.2.2.2.1.length (fun i _=>∀j,j<i->MS l x j=none) (by omega) rfl (fun j hj=>by omega) fun i c hi hs hJ=>?_
 obtain rfl:c=_:=hs;simp only[W_,implies_true,forall_const,reduceCtorEq,ba,aS];refine⟨fun aj=>?_,fun hge=>?_⟩
 .have aj:i<x.2.2.2.1.length:=by omega
  have hf:=S0 l x i aj;simp only[ah aj,mu (anA aj),qW l _ x.2.2.1 (x.2.2.2.1.take i) (hdf _ (al0 aj)) (by unfold maxLen;omega) (by rw[amd];unfold maxLen;omega),sO (k:=i) (a:=200) (by omega) (by omega),bV (m:=x.2.2.2.1.length) (by omega) aj,W_,implies_true,forall_const,reduceCtorEq];refine⟨fun h=>?_,fun h=>⟨aj,cK hJ (by rw[hf,if_neg (fun g=>g h)])⟩⟩;rw[fk (hf.trans (if_pos h)) hJ aj];rfl
 rw[bH.2 fun j(hj:j<x.2.2.2.1.length)=>hJ j (by omega),am8];clear hJ
 refine Wp.count (fun s=>s) x.2.2.2.2.length (fun i _=>∀j,j<i->Dw l x j=none) (by omega) rfl (fun j hj=>by omega) fun i c hi hs hJ=>?_
 obtain rfl:c=_:=hs;simp only[W_,implies_true,forall_const,reduceCtorEq,ba,aS];refine⟨fun aj=>?_,fun hge=>?_⟩
 .have aj:i<x.2.2.2.2.length:=by omega
  have hf:Dw l x i=if pP l x i x.2.2.2.2[i]≠0 then some (pP l x i x.2.2.2.2[i],300+(i:Int))else none:=by
   unfold Dw;rw[alV aj]
  have hr:M.jQ aB x (i:Int) ((dt l x).1,((dt l x).2.1,((dt l x).2.2.1,((dt l x).2.2.2.1,((dt l x).2.2.2.2.1,(dt l x).2.2.2.2.2)))))=_:=A6 l x vf rM hT i aj;simp only[hr,sO (k:=i) (a:=300) (by omega) (by omega),bV (m:=x.2.2.2.2.length) (by omega) aj,W_,implies_true,forall_const,reduceCtorEq];refine⟨fun h=>?_,fun h=>⟨aj,cK hJ (by rw[hf,if_neg (fun g=>g h)])⟩⟩;rw[fk (hf.trans (if_pos h)) hJ aj];rfl
 rw[bH.2 fun j(hj:j<x.2.2.2.2.length)=>hJ j (by omega),am8];clear hJ
 refine Wp.count (fun s=>s) x.2.2.2.1.length (fun i _=>∀j,j<i->Fu x j=none) (by omega) rfl (fun j hj=>by omega) fun i c hi hs hJ=>?_
 obtain rfl:c=_:=hs;simp only[W_,implies_true,forall_const,reduceCtorEq,ba,aS];refine⟨fun aj=>?_,fun hge=>?_⟩
 .have aj:i<x.2.2.2.1.length:=by omega
  obtain⟨tr,e1,e2,e3⟩:=hC i aj
  have hf:Fu x i=if(i:Int)∈J0 x i then some (9,200+(i:Int))else none:=rfl
  simp only[e1,Fw tr _ (by unfold maxLen;omega),sO (k:=i) (a:=200) (by omega) (by omega),bV (m:=x.2.2.2.1.length) (by omega) aj,W_,implies_true,forall_const,reduceCtorEq];refine⟨fun h=>?_,fun h=>⟨aj,cK hJ (by rw[hf,if_neg (fun g=>h (e3.2 g))])⟩⟩;rw[fk (hf.trans (if_pos (e3.1 h))) hJ aj];rfl
 .rw[bH.2 fun j(hj:j<x.2.2.2.1.length)=>hJ j (by omega)];rfl
theorem xA(l:Lw)(hw:WF bU l)(kh:gZ l)(hT:∀x∈l.2.2,mo (dt l x))(hC:∀x∈l.2.2,Jy x):M.jZ aB l=some (if 4<l.2.2.length then((4:Int),((3:Int),((4:Int),(0:Int))))else match cy (fun k=>(rF l k).map fun e=>(k,e)) l.2.2.length with
 |some (k,e)=>sN 3 (k:Int) (some e)
 |none=>Pu):=by
 have w1:=hw.2.2.1;unfold maxLen at w1;apply Wp.eq;unfold M.jZ;simp only[W_,implies_true,forall_const,reduceCtorEq];refine⟨fun h=>by rw[if_pos (by omega)],fun h8=>?_⟩;rw[if_neg (by omega)]
 refine Wp.count (fun s=>s) l.2.2.length (fun i _=>∀j,j<i->(fun k=>(rF l k).map fun e=>(k,e)) j=none) w1 rfl (fun j hj=>by omega) fun i c hi hs hJ=>?_
 obtain rfl:c=_:=hs;simp only[W_,implies_true,forall_const,reduceCtorEq,ba,aS];refine⟨fun aj=>?_,fun hge=>?_⟩
 .have aj:i<l.2.2.length:=by omega
  simp only[yp l hw kh i aj (hT _ (al0 aj)) (hC _ (al0 aj)),bV w1 aj,W_,implies_true,forall_const,reduceCtorEq];refine⟨fun h=>?_,fun h=>⟨aj,cK hJ ?_⟩⟩
  .cases he:rF l i with
   |none=>rw[he]at h;exact absurd rfl h
   |some e=>rw[fk (SW he) hJ aj];rfl
  .cases he:rF l i with
   |none=>rfl
   |some e=>rw[he]at h;exact absurd h (Dy he)
 .rw[bH.2 fun j hj=>hJ j (by omega)];rfl
theorem DC(l:Lw)(hw:WF bU l)(kh:gZ l)(hT:∀x∈l.2.2,mo (dt l x))(hC:∀x∈l.2.2,Jy x):M.gP aB l=some (ue l):=by
 have bad:∀(f:Nat->Option (Int×Int))(m:Nat)(sec:Int)(k:Nat)(e:Int×Int),(∀i e,f i=some e->e.1≠0)->cy (fun k=>(f k).map fun e=>(k,e)) m=some (k,e)->(!decide ((sN sec (k:Int) (some e)).1=0))=true:=fun f m sec k e hf he=>by
  obtain⟨j,_,hj,_⟩:=fY he;obtain⟨e',he',h2⟩:=amY.1 hj;cases h2;have:e.1≠0:=hf _ _ he'
  show(!decide (e.1=0))=true
  simp[this]
 unfold M.gP ue;rw[yo l hw,alS];by_cases h1:8<l.1.length
 .rw[if_pos h1,if_pos h1];rfl
 rw[if_neg h1,if_neg h1]
 cases hA:cy (fun k=>(nL l k).map fun e=>(k,e)) l.1.length with
 |some p=>
  obtain⟨k,e⟩:=p;dsimp only;rw[if_pos (bad _ _ _ _ _ (fun i e=>uf) hA)]
 |none=>
  dsimp only;rw[if_neg (by simp[Pu]),xy l hw,alS];by_cases h2:8<l.2.1.length
  .rw[if_pos h2,if_pos h2];rfl
  rw[if_neg h2,if_neg h2]
  cases hB:cy (fun k=>(pc l k).map fun e=>(k,e)) l.2.1.length with
  |some p=>
   obtain⟨k,e⟩:=p;dsimp only;rw[if_pos (bad _ _ _ _ _ (fun i e=>Dx) hB)]
  |none=>
   dsimp only;rw[if_neg (by simp[Pu]),xA l hw kh hT hC,alS];rfl
end L
end Go.Proofs.YtmihpkfkbfgigaaGreatDoor
end
section
open _root_.Int renaming eq_ofNat_of_zero_le->al8,tdiv->amh,tmod->amy,toNat_natCast->al1
open _root_.Go.IntKind renaming i64->alT
open _root_.List renaming append_nil->amK,drop_eq_getElem_cons->amx,drop_of_length_le->amC,getD->amn,getElem?_eq_getElem->alV,getElem_append_left->al5,getElem_append_right->ame,getElem_mem->al0,length_append->alY,length_cons->al9,length_map->amm,length_take->amd,mem_append->amf,mem_of_getElem?->amM,mem_singleton->ama,replicate->alX,replicate_succ->amX,set_append_right->amz,take_length->amc
open _root_.Nat renaming le_refl->alZ
open _root_.Option renaming bind_some->alS
open _root_.Option.some renaming inj->alU
namespace Go.Proofs.YtmihpkfkbfgigaaGreatDoor
open Go Go.RowKit
set_option maxRecDepth 100000
set_option linter.unusedSimpArgs false
namespace L
theorem M0(op:Int):M.dC aB op=some (ar op):=by
 apply Wp.eq;unfold M.dC ar;simp only[W_,implies_true,forall_const,reduceCtorEq];omega
theorem M1(op:Int):M.ga aB op=some (decide ((1<=op/\op<=8)\/(14<=op/\op<=16)\/op=33\/op=34\/(36<=op/\op<=39))):=by
 apply Wp.eq;unfold M.ga;simp only[W_,implies_true,forall_const,reduceCtorEq];omega
theorem bz(k:Int):M.dH aB k=some (decide (k=2\/k=3\/k=4)):=by
 apply Wp.eq;unfold M.dH;simp only[W_,implies_true,forall_const,reduceCtorEq];omega
theorem aV(k:Int):M.fx aB k=some (decide (0<=k/\k<=5)):=by
 apply Wp.eq;unfold M.fx;simp only[W_,implies_true,forall_const,reduceCtorEq];omega
theorem bQ(m k:Int)(s:ov):M.cL aB m k s=some (if D1 m (k,(0:Int)) s.1 then((k,(0:Int)),(0:Int))else(((0:Int),(0:Int)),(3:Int))):=by
 apply Wp.eq;unfold M.cL;simp only[A4,W_,implies_true,forall_const,reduceCtorEq];have hI:D1 m (k,(0:Int)) s.1↔(Bl (k,(0:Int)) s.1).1<=m/\m<=(Bl (k,(0:Int)) s.1).2:=Iff.rfl;exact⟨fun h=>by rw[if_neg fun g=>by have:=hI.1 g;omega],fun h=>⟨fun h'=>by rw[if_neg fun g=>by have:=hI.1 g;omega],fun h'=>by rw[if_pos (hI.2 (by omega))]⟩⟩
noncomputable def pN(n:Ty)(l:List Ty)(s:ov):Option (Ty×Int):=
 if(n.2:Int)≠0/\¬((1<=(n.1:Int)/\(n.1:Int)<=8)\/(14<=(n.1:Int)/\(n.1:Int)<=16)\/(n.1:Int)=33\/(n.1:Int)=34\/(36<=(n.1:Int)/\(n.1:Int)<=39))then some (((0:Int),(0:Int)),2)else M.aP aB n l s
def qE(t:Ty):Prop:=1<=(t.1:Int)/\(t.1:Int)<=5->(t.2:Int)=0
theorem Ta(op m:Int)(a b:Ty)(s:ov)(h2:ar op=2)(ha:qE a)(_:qE b):pN (op,m) [a,b] s=M.aI aB (op,m) [a,b] s:=by
 have hr:=xv (op,m) s
 have hR:Dv op m s↔(14<=op/\op<=16->0<=m/\m<=5):=by
  unfold ar at h2;unfold Dv;exact⟨fun h=>h.2.1,fun h=>⟨fun _=>by omega,h,fun _=>by omega,fun _=>by omega⟩⟩
 have gq:op=11\/op=12\/op=13\/op=14\/op=15\/op=16\/op=17\/op=18\/op=19\/op=20\/op=21\/op=22\/op=23\/op=24\/op=27\/op=28\/op=29\/op=30:=by unfold ar at h2;omega
 obtain⟨(a1:Int),(a2:Int)⟩:=a;obtain⟨(b1:Int),(b2:Int)⟩:=b;simp only[qE]at ha
 rcases gq with rfl|rfl|rfl|rfl|rfl|rfl|rfl|rfl|rfl|rfl|rfl|rfl|rfl|rfl|rfl|rfl|rfl|rfl
 all_goals
  unfold pN M.aP M.cH M.gB M.aI M.bf M.gY M.lj;simp[aC,aE,aA,aW,bz,aV,bE,hr,hR,idx,AP]
  grind
theorem M2(op m:Int)(a b c:Ty)(s:ov)(h3:ar op=3):pN (op,m) [a,b,c] s=M.aI aB (op,m) [a,b,c] s:=by
 have gq:op=26:=by unfold ar at h3;omega
 subst gq;have hr:=xv ((26:Int),m) s
 have hR:Dv 26 m s:=by unfold Dv;omega
 obtain⟨(a1:Int),(a2:Int)⟩:=a;obtain⟨(b1:Int),(b2:Int)⟩:=b;obtain⟨(c1:Int),(c2:Int)⟩:=c;unfold pN M.aP M.cH M.aI M.bf;simp[aC,aE,aA,aW,bz,aV,bE,hr,hR,idx,AP]
 grind
theorem Tc(op m:Int)(a:Ty)(s:ov)(hm:m<=9223372036854775807)(h1:ar op=1)(ha:qE a):pN (op,m) [a] s=M.aI aB (op,m) [a] s:=by
 have hr:=xv (op,m) s
 have hR:Dv op m s↔(op=34->0<=m/\amy m 8<=5):=by
  unfold ar at h1;unfold Dv;exact⟨fun h=>h.2.2.1,fun h=>⟨fun _=>by omega,fun _=>by omega,h,fun _=>by omega⟩⟩
 have hd:0<=m->0<=alT.wrap (amh m 8):=fun h=>G8 h hm (by omega)
 have ht:0<=m->0<=amy m 8:=fun h=>Int.tmod_nonneg _ h
 have gq:op=10\/op=25\/op=31\/op=32\/op=33\/op=34:=by unfold ar at h1;omega
 obtain⟨(a1:Int),(a2:Int)⟩:=a;simp only[qE]at ha
 rcases gq with rfl|rfl|rfl|rfl|rfl|rfl
 .unfold pN M.aP M.cH M.aI M.bf M.cD;simp[aC,aE,aA,aW,bz,aV,bE,hr,hR,idx,AP]
  grind
 .unfold pN M.aP M.cH M.aI M.bf M.cD;simp[aC,aE,aA,aW,bz,aV,bE,hr,hR,idx,AP]
  grind
 .unfold pN M.aP M.cH M.aI M.bf M.cD;simp[aC,aE,aA,aW,bz,aV,bE,hr,hR,idx,AP]
  grind
 .unfold pN M.aP M.cH M.aI M.bf M.cD;simp[aC,aE,aA,aW,bz,aV,bE,hr,hR,idx,AP]
  grind
 .have i0:idx [((a1,a2):Ty)] 0=some (a1,a2):=rfl;unfold pN M.aP M.gA M.aI M.bf M.cD;by_cases h:0<=m/\m<(s.2.1.length:Int)
  .obtain⟨k,rfl⟩:=al8 h.1
   have hk:k<s.2.1.length:=by omega
   simp[aC,aE,aA,aW,bE,hr,hR,AP,oQ,bP,i0,ah hk,hk,show¬((s.2.1.length:Int)<=(k:Int)) by omega,show¬((k:Int)<0) by omega];generalize s.2.1[k]=t
   by_cases c1:jM t.2.1 s.1.length<;>by_cases c2:jM t.2.2.1 s.1.length<;>by_cases c3:((a1,a2):Ty)=t.2.1<;>simp[c1,c2,c3]
  .simp[aC,aE,aA,aW,bE,hr,hR,AP,oQ,bP,i0];by_cases JP:m<0
   .simp[JP,show¬0<=m by omega]
   .simp[JP,show 0<=m by omega,show(s.2.1.length:Int)<=m by omega,show¬m<(s.2.1.length:Int) by omega]
 .have i0:idx [((a1,a2):Ty)] 0=some (a1,a2):=rfl;unfold pN M.aP M.gA M.aI M.bf M.cD;simp only[hr,hR];by_cases h:0<=m/\amy m 8<=5
  .have hd:=hd h.1;have ht:=ht h.1;generalize alT.wrap (amh m 8)=j at*;generalize amy m 8=q at*;by_cases h':j<(s.2.1.length:Int)
   .obtain⟨k,rfl⟩:=al8 hd
    have hk:k<s.2.1.length:=by omega
    simp[aC,aE,aA,aW,aV,bE,h,ht,AP,oQ,bP,i0,ah hk,hk,show¬(m<0) by omega,show¬((s.2.1.length:Int)<=(k:Int)) by omega,show¬((k:Int)<0) by omega];generalize s.2.1[k]=t;obtain⟨nm,⟨(k1:Int),(k2:Int)⟩,⟨(v1:Int),(v2:Int)⟩,rs⟩:=t;generalize s.1.length=ne;by_cases R:a1=3/\k1=3/\k2=0/\v1=4/\v2=0
    .obtain⟨rfl,rfl,rfl,rfl,rfl⟩:=R;obtain rfl:a2=0:=ha ⟨by decide,by decide⟩
     have v3:jM (((3:Int),(0:Int)):Ty) ne:=by simp[jM]
     have v4:jM (((4:Int),(0:Int)):Ty) ne:=by simp[jM]
     simp[v3,v4]
    .have hR2:(((if a1=3 then if((k1,k2):Int×Int)=(3,0)then some (decide (((v1,v2):Int×Int)=(4,0)),a1,a2)else some (false,a1,a2)else some (false,a1,a2)):Option (Bool×Int×Int)))=some (false,a1,a2):=by
      by_cases q1:a1=3<;>by_cases q2:k1=3<;>by_cases q3:k2=0<;>by_cases q4:v1=4<;>by_cases q5:v2=0<;>simp[q1,q2,q3,q4,q5]<;>exact absurd ⟨q1,q2,q3,q4,q5⟩ R
     rw[hR2];by_cases c1:jM ((k1,k2):Ty) ne
     .by_cases c2:jM ((v1,v2):Ty) ne
      .by_cases e:((a1,a2):Ty)=(k1,k2)
       .injection e with e1 e2
        subst e1 e2;have Xw:=c1;have UC:=c2;simp only[jM]at Xw UC;dsimp only[ae,Row.den]at Xw UC;by_cases f:a1=3
        .have g:¬v1=4:=fun g=>R (by omega)
         subst f
         obtain rfl:a2=0:=by omega
         simp[c1,c2,g]
        .simp[c1,c2,f]
       .simp[c1,c2,e]
      .simp[c1,c2]
     .simp[c1]
   .simp[aC,aE,aA,aW,aV,bE,h,ht,AP,oQ,bP,i0,show¬(m<0) by omega,show(s.2.1.length:Int)<=j by omega,show¬j<0 by omega]
  .simp[aC,aE,aA,aW,aV,bE,AP,oQ,bP,i0];by_cases JP:m<0
   .simp[JP,show¬0<=m by omega]
   .have h5:5<amy m 8:=by omega
    simp[JP,h5,show¬amy m 8<=5 by omega]
theorem aX(m:Int)(ls:List Ty)(s:ov):M.dP aB m ls s=if 0<=m/\m<(ls.length:Int)then(match ls[m.toNat]? with
 |some t=>if jM t s.1.length then some (t,(0:Int))else some (((0:Int),(0:Int)),(8:Int))
 |none=>none)else some (((0:Int),(0:Int)),(6:Int)):=by
 unfold M.dP;by_cases h:0<=m/\m<(ls.length:Int)
 .obtain⟨k,rfl⟩:=al8 h.1
  have hk:k<ls.length:=by omega
  rw[if_neg (by rw[decide_eq_true_eq];omega),alS,if_neg (by rw[decide_eq_true_eq];omega),ah hk,alS,oQ,alS,if_pos h,al1,alV hk];by_cases hv:jM ls[k] s.1.length
  .rw[if_neg (by simp[hv])];simp only[if_pos hv,alS]
  .rw[if_pos (by simp[hv])];simp only[if_neg hv]
 .rw[if_neg h];by_cases h0:m<0
  .rw[if_pos (decide_eq_true h0)];rfl
  .rw[if_neg (by simpa using h0),alS,if_pos (decide_eq_true (by omega))]
theorem M3{α:Type}(ls:List α)(m:Int):idx ls m=if 0<=m then ls[m.toNat]? else none:=rfl
theorem zero_eq(op m:Int)(s:ov)(hm:m<=9223372036854775807)(h0:ar op=0):pN (op,m) [] s=M.aI aB (op,m) [] s:=by
 have hr:=xv (op,m) s
 have hR:Dv op m s↔(1<=op/\op<=5->D1 m (op,(0:Int)) s.1)/\(op=6->0<=m):=by
  unfold ar at h0;unfold Dv;exact⟨fun h=>⟨h.1,h.2.2.2⟩,fun h=>⟨h.1,fun _=>by omega,fun _=>by omega,h.2⟩⟩
 have hd:0<=m->0<=alT.wrap (amh m 16):=fun h=>G8 h hm (by omega)
 have gq:op=1\/op=2\/op=3\/op=4\/op=5\/op=6\/op=7\/op=8\/op=9\/op=35\/op=36\/op=37\/op=38\/op=39:=by unfold ar at h0;omega
 have v:∀k:Int,1<=k->k<=5->jM ((k,(0:Int)):Ty) s.1.length:=fun k h1 h2=> .inl ⟨h1,h2,rfl⟩
 rcases gq with rfl|rfl|rfl|rfl|rfl|rfl|rfl|rfl|rfl|rfl|rfl|rfl|rfl|rfl
 .unfold pN M.aP M.br M.bI M.aI M.bf M.bW;have v:=v 1 (by decide) (by decide)
  by_cases h:D1 m ((1:Int),(0:Int)) s.1<;>simp[aC,aE,aA,aW,bz,aV,bQ,aX,bE,hr,hR,bP,h,v]
 .unfold pN M.aP M.br M.bI M.aI M.bf M.bW;have v:=v 2 (by decide) (by decide)
  by_cases h:D1 m ((2:Int),(0:Int)) s.1<;>simp[aC,aE,aA,aW,bz,aV,bQ,aX,bE,hr,hR,bP,h,v]
 .unfold pN M.aP M.br M.bI M.aI M.bf M.bW;have v:=v 3 (by decide) (by decide)
  by_cases h:D1 m ((3:Int),(0:Int)) s.1<;>simp[aC,aE,aA,aW,bz,aV,bQ,aX,bE,hr,hR,bP,h,v]
 .unfold pN M.aP M.br M.bI M.aI M.bf M.bW;have v:=v 4 (by decide) (by decide)
  by_cases h:D1 m ((4:Int),(0:Int)) s.1<;>simp[aC,aE,aA,aW,bz,aV,bQ,aX,bE,hr,hR,bP,h,v]
 .unfold pN M.aP M.br M.bI M.aI M.bf M.bW;have v:=v 5 (by decide) (by decide)
  by_cases h:D1 m ((5:Int),(0:Int)) s.1<;>simp[aC,aE,aA,aW,bz,aV,bQ,aX,bE,hr,hR,bP,h,v]
 .unfold pN M.aP M.br M.bI M.aI M.bf M.bW;by_cases h:m<0
  .simp[aC,aE,aA,aW,bz,aV,bQ,aX,bE,hr,hR,bP,h]
  .have hd:=hd (by omega)
   have h':0<=m:=by omega
   generalize alT.wrap (amh m 16)=j at*;generalize amy m 16=q at*;by_cases hj:j<(s.1.length:Int)
   .obtain⟨k,rfl⟩:=al8 hd
    have hk:k<s.1.length:=by omega
    have v6:jM (((6:Int),(k:Int)):Ty) s.1.length:= .inr ⟨rfl,by show(0:Int)<=(k:Int);omega,hj⟩;by_cases hq:q<(s.1[k].2.length:Int)
    .simp[aC,aE,aA,aW,bz,aV,bQ,aX,bE,hr,hR,bP,h,h',hk,ah hk,v6,hq,show¬(s.1.length:Int)<=(k:Int) by omega,show¬(s.1[k].2.length:Int)<=q by omega]
    .simp[aC,aE,aA,aW,bz,aV,bQ,aX,bE,hr,hR,bP,h,h',hk,ah hk,v6,hq,show¬(s.1.length:Int)<=(k:Int) by omega,show(s.1[k].2.length:Int)<=q by omega]
   .simp[aC,aE,aA,aW,bz,aV,bQ,aX,bE,hr,hR,bP,h,h',hj,show(s.1.length:Int)<=j by omega]
 .unfold pN M.aP M.br M.bI M.aI M.bf M.bW;by_cases h:0<=m/\m<(s.2.2.1.length:Int)
  .obtain⟨k,rfl⟩:=al8 h.1
   have hk:k<s.2.2.1.length:=by omega
   by_cases hv:jM s.2.2.1[k] s.1.length<;>simp[aC,aE,aA,aW,bz,aV,bQ,aX,bE,hr,hR,bP,hk,ah hk,hv]
  .by_cases h0:0<=m
   .have h1:¬m<(s.2.2.1.length:Int):=fun g=>h ⟨h0,g⟩
    simp[aC,aE,aA,aW,bz,aV,bQ,aX,bE,hr,hR,bP,h0,h1]
   .simp[aC,aE,aA,aW,bz,aV,bQ,aX,bE,hr,hR,bP,h0]
 .unfold pN M.aP M.br M.bI M.aI M.bf M.bW;by_cases h:0<=m/\m<(s.2.2.2.1.length:Int)
  .obtain⟨k,rfl⟩:=al8 h.1
   have hk:k<s.2.2.2.1.length:=by omega
   by_cases hv:jM s.2.2.2.1[k] s.1.length<;>simp[aC,aE,aA,aW,bz,aV,bQ,aX,bE,hr,hR,bP,hk,ah hk,hv]
  .by_cases h0:0<=m
   .have h1:¬m<(s.2.2.2.1.length:Int):=fun g=>h ⟨h0,g⟩
    simp[aC,aE,aA,aW,bz,aV,bQ,aX,bE,hr,hR,bP,h0,h1]
   .simp[aC,aE,aA,aW,bz,aV,bQ,aX,bE,hr,hR,bP,h0]
 .unfold pN M.aP M.br M.bI M.aI M.bf M.bW;have v:=v 5 (by decide) (by decide);by_cases h:m=0
  .subst h;simp[aC,aE,aA,aW,bz,aV,bQ,aX,bE,hr,hR,bP,v]
  .simp[aC,aE,aA,aW,bz,aV,bQ,aX,bE,hr,hR,bP,h]
 .unfold pN M.aP M.br M.bI M.aI M.bf M.bW;have v:=v 2 (by decide) (by decide);by_cases h:m=0
  .subst h;cases hs:s.2.2.2.2.2<;>simp[aC,aE,aA,aW,bz,aV,bQ,aX,bE,hr,hR,bP,v,hs]
  .simp[aC,aE,aA,aW,bz,aV,bQ,aX,bE,hr,hR,bP,h]
 .unfold pN M.aP M.br M.bI M.aI M.bf M.bW;cases hs:s.2.2.2.2.2
  .simp[aC,aE,aA,aW,bz,aV,bQ,aX,bE,hr,hR,bP,hs]
  by_cases h:0<=m/\m<(s.2.2.2.2.1.length:Int)
  .obtain⟨k,rfl⟩:=al8 h.1
   have hk:k<s.2.2.2.2.1.length:=by omega
   by_cases hv:jM s.2.2.2.2.1[k] s.1.length
   .simp[aC,aE,aA,aW,bz,aV,bQ,aX,bE,hr,hR,bP,hk,ah hk,hv,hs];generalize s.2.2.2.2.1[k]=t at*;obtain⟨(t1:Int),(t2:Int)⟩:=t
    by_cases q2:t1=2<;>by_cases q3:t1=3<;>simp[q2,q3]
   .simp[aC,aE,aA,aW,bz,aV,bQ,aX,bE,hr,hR,bP,hk,ah hk,hv,hs]
  .by_cases h0:0<=m
   .have h1:¬m<(s.2.2.2.2.1.length:Int):=fun g=>h ⟨h0,g⟩
    simp[aC,aE,aA,aW,bz,aV,bQ,aX,bE,hr,hR,bP,h0,h1,hs]
   .simp[aC,aE,aA,aW,bz,aV,bQ,aX,bE,hr,hR,bP,h0,hs]
 .unfold pN M.aP M.br M.bI M.aI M.bf M.bW;cases hs:s.2.2.2.2.2
  .simp[aC,aE,aA,aW,bz,aV,bQ,aX,bE,hr,hR,bP,hs]
  by_cases h:0<=m/\m<(s.2.2.2.2.1.length:Int)
  .obtain⟨k,rfl⟩:=al8 h.1
   have hk:k<s.2.2.2.2.1.length:=by omega
   by_cases hv:jM s.2.2.2.2.1[k] s.1.length
   .simp[aC,aE,aA,aW,bz,aV,bQ,aX,bE,hr,hR,bP,hk,ah hk,hv,hs];generalize s.2.2.2.2.1[k]=t at*;obtain⟨(t1:Int),(t2:Int)⟩:=t
    by_cases q:t1=1<;>simp[q]
   .simp[aC,aE,aA,aW,bz,aV,bQ,aX,bE,hr,hR,bP,hk,ah hk,hv,hs]
  .by_cases h0:0<=m
   .have h1:¬m<(s.2.2.2.2.1.length:Int):=fun g=>h ⟨h0,g⟩
    simp[aC,aE,aA,aW,bz,aV,bQ,aX,bE,hr,hR,bP,h0,h1,hs]
   .simp[aC,aE,aA,aW,bz,aV,bQ,aX,bE,hr,hR,bP,h0,hs]
 .unfold pN M.aP M.br M.bI M.aI M.bf M.bW;cases hs:s.2.2.2.2.2
  .simp[aC,aE,aA,aW,bz,aV,bQ,aX,bE,hr,hR,bP,hs]
  by_cases h:0<=m/\m<(s.2.2.2.2.1.length:Int)
  .obtain⟨k,rfl⟩:=al8 h.1
   have hk:k<s.2.2.2.2.1.length:=by omega
   by_cases hv:jM s.2.2.2.2.1[k] s.1.length
   .simp[aC,aE,aA,aW,bz,aV,bQ,aX,bE,hr,hR,bP,hk,ah hk,hv,hs];generalize s.2.2.2.2.1[k]=t at*;obtain⟨(t1:Int),(t2:Int)⟩:=t
    by_cases q:t1=1<;>simp[q]
   .simp[aC,aE,aA,aW,bz,aV,bQ,aX,bE,hr,hR,bP,hk,ah hk,hv,hs]
  .by_cases h0:0<=m
   .have h1:¬m<(s.2.2.2.2.1.length:Int):=fun g=>h ⟨h0,g⟩
    simp[aC,aE,aA,aW,bz,aV,bQ,aX,bE,hr,hR,bP,h0,h1,hs]
   .simp[aC,aE,aA,aW,bz,aV,bQ,aX,bE,hr,hR,bP,h0,hs]
 .unfold pN M.aP M.br M.bI M.aI M.bf M.bW;cases hs:s.2.2.2.2.2
  .simp[aC,aE,aA,aW,bz,aV,bQ,aX,bE,hr,hR,bP,hs]
  by_cases h:0<=m/\m<(s.2.2.2.2.1.length:Int)
  .obtain⟨k,rfl⟩:=al8 h.1
   have hk:k<s.2.2.2.2.1.length:=by omega
   by_cases hv:jM s.2.2.2.2.1[k] s.1.length
   .simp[aC,aE,aA,aW,bz,aV,bQ,aX,bE,hr,hR,bP,hk,ah hk,hv,hs];generalize s.2.2.2.2.1[k]=t at*;obtain⟨(t1:Int),(t2:Int)⟩:=t
    by_cases q2:t1=2<;>by_cases q3:t1=3<;>by_cases q4:t1=4<;>by_cases q5:t1=5<;>simp[q2,q3,q4,q5]
   .simp[aC,aE,aA,aW,bz,aV,bQ,aX,bE,hr,hR,bP,hk,ah hk,hv,hs]
  .by_cases h0:0<=m
   .have h1:¬m<(s.2.2.2.2.1.length:Int):=fun g=>h ⟨h0,g⟩
    simp[aC,aE,aA,aW,bz,aV,bQ,aX,bE,hr,hR,bP,h0,h1,hs]
   .simp[aC,aE,aA,aW,bz,aV,bQ,aX,bE,hr,hR,bP,h0,hs]
theorem WX(n:Ty)(l:List Ty)(s:ov)(hw:WF aa n)(hl:(l.length:Int)=ar n.1)(hN:∀t∈l,qE t):pN n l s=some (G9 n l s):=by
 rw[<-MM hw hl];obtain⟨(op:Int),(m:Int)⟩:=n;have hm:m<=9223372036854775807:=hw.2.2;have h3:=kK op;dsimp only at hl
 match l,hl with
 |[],hl=>exact zero_eq op m s hm hl.symm
 |[a],hl=>exact Tc op m a s hm hl.symm (hN a (by simp))
 |[a,b],hl=>exact Ta op m a b s hl.symm (hN a (by simp)) (hN b (by simp))
 |[a,b,c],hl=>exact M2 op m a b c s hl.symm
 |a::b::c::d::l,hl=>simp at hl;omega
theorem jM.nrm{t:Ty}{n:Nat}(h:jM t n):qE t:=fun h'=>by
 obtain⟨(k:Int),(e:Int)⟩:=t
 rcases h with h|h
 .exact h.2.2
 .dsimp only[ae,Row.den]at*;omega
def Pc{α:Type}(m:Option α)(Q:α->Prop):Prop:=∀r,m=some r->Q r
theorem jA{α:Type}{x:α}{Q:α->Prop}:Pc (some x) Q↔Q x:=⟨fun h=>h x rfl,fun h r e=>by cases e;exact h⟩
theorem fZ{α β:Type}{m:Option α}{k:α->Option β}{Q:β->Prop}:Pc (m.bind k) Q↔Pc m fun x=>Pc (k x) Q:=by
 constructor
 .intro h x hx r hr;exact h r (by rw[hx];exact hr)
 .intro h r hr;obtain⟨x,hx,hr⟩:=Option.bind_eq_some_iff.1 hr;exact h x hx r hr
theorem mD{α:Type}{c:Prop}[Decidable c]{a b:Option α}{Q:α->Prop}:Pc (if c then a else b) Q↔(c->Pc a Q)/\(¬c->Pc b Q):=by
 split<;>simp_all
theorem Pc.of{α:Type}{m:Option α}{Q:α->Prop}(h:∀x,Q x):Pc m Q:=fun x _=>h x
theorem qE.kind(k:Int):qE ((k,(0:Int)):Ty):=fun _=>rfl
theorem M4(n:Ty)(s:ov):Pc (M.bW aB n s) fun r=>r.2=true->qE r.1:=by
 have ho:∀k,M.iz aB k=some (decide (k=2\/k=3\/k=4\/k=5)):=aA;unfold M.bW;rw[fZ]
 refine Pc.of fun j=>?_
 simp only[bP,ho,alS];by_cases hv:jM j s.1.length
 .simp only[fZ,mD,jA];simp[hv.nrm]
 .simp[hv,fZ,mD,jA]
theorem Fy(n a:Ty)(s:ov)(ha:qE a):Pc (M.cD aB n a s) fun r=>r.2=true->qE r.1:=by
 unfold M.cD;simp only[aW,aE,bP,alS,fZ,mD,jA];refine⟨fun _ _=>ha,fun _=>⟨fun _ _=>ha,fun _=>?_⟩⟩
 have NF:Pc (idx s.2.1 n.2) fun x=>(decide (jM x.2.1 s.1.length)=true->(decide (jM x.2.2.1 s.1.length)=true->nW aa a x.2.1=true->qE x.2.2.1)/\(¬decide (jM x.2.2.1 s.1.length)=true->false=true->qE x.2.2.1))/\(¬decide (jM x.2.1 s.1.length)=true->false=true->qE x.2.2.1):=Pc.of fun x=>⟨fun _=>⟨fun h _=>(of_decide_eq_true h:jM x.2.2.1 s.1.length).nrm,fun _ h=>(by cases h)⟩,fun _ h=>(by cases h)⟩
 have sY:Pc (idx s.2.1 (alT.wrap (amh n.2 8))) fun x=>(decide ((a.1:Int)=3)=true->(nW aa x.2.1 ((3:Int),(0:Int))=true->nW aa x.2.2.1 ((4:Int),(0:Int))=true->qE a)/\(¬nW aa x.2.1 ((3:Int),(0:Int))=true->false=true->qE a))/\(¬decide ((a.1:Int)=3)=true->false=true->qE a):=Pc.of fun x=>⟨fun _=>⟨fun _ _=>ha,fun _ _=>ha⟩,fun _ _=>ha⟩
 exact⟨fun _=>⟨fun _ _=>qE.kind 2,fun _=>⟨fun _=>NF,fun _=>sY⟩⟩,fun _=>⟨fun _ _=>qE.kind 2,fun _=>⟨fun _=>NF,fun _=>sY⟩⟩⟩
theorem Fz(op:Int)(a b:Ty)(ha:qE a):Pc (M.gY aB op a b) fun r=>r.2=true->qE r.1:=by
 have hk:∀k:Int,qE ((k,(0:Int)):Ty):=qE.kind;unfold M.gY M.lj;simp only[aW,aE,aA,alS,fZ,mD,jA];simp[ha,hk]
theorem PC(n:Ty)(l:List Ty)(s:ov)(hw:WF aa n)(hl:(l.length:Int)=ar n.1)(hN:∀t∈l,qE t)(h0:(G9 n l s).2=0):qE (G9 n l s).1:=by
 have oS:∀i,Pc (idx l i) qE:=fun i x hx=>by
  unfold idx at hx;split at hx
  .exact hN _ (amM hx)
  .cases hx
 have key:Pc (M.aI aB n l s) fun r=>r.2=0->qE r.1:=by
  unfold M.aI;rw[fZ]
  refine Pc.of fun j1=>?_
  rw[mD];refine⟨fun _=>jA.2 fun h=>(by cases h),fun _=>?_⟩;rw[fZ]
  refine Pc.of fun y3=>?_
  rw[mD];refine⟨fun _=>jA.2 fun h=>(by cases h),fun _=>?_⟩;rw[fZ]
  refine Pc.of fun y4=>?_
  rw[mD];refine⟨fun _=>jA.2 fun h=>(by cases h),fun _=>?_⟩;rw[fZ]
  have fin:∀{m:Option (Bool×Ty)},Pc m (fun j=>j.1=true->qE j.2)->Pc m fun j5=>Pc (if(!j5.1)=true then some (((0:Int),(0:Int)),(8:Int))else some (j5.2,(0:Int))) fun r:Ty×Int=>r.2=0->qE r.1:=fun{m}h j hj=>by
   have:=h j hj;refine mD.2 ⟨fun _=>jA.2 fun h=>(by cases h),fun h=>jA.2 fun _=>this (by simpa using h)⟩
  refine fin ?_;rw[mD];refine⟨fun _=>?_,fun _=>?_⟩
  .rw[fZ]
   exact fun x hx=>jA.2 fun h=>M4 n s x hx h
  rw[mD];refine⟨fun _=>?_,fun _=>?_⟩
  .rw[fZ]
   refine fun a ha=>fZ.2 ?_
   exact fun x hx=>jA.2 fun h=>Fy n a s (oS _ a ha) x hx h
  rw[mD];refine⟨fun _=>?_,fun _=>?_⟩
  .rw[fZ]
   refine fun a ha=>fZ.2 fun b _=>fZ.2 ?_
   exact fun x hx=>jA.2 fun h=>Fz n.1 a b (oS _ a ha) x hx h
  .rw[fZ]
   refine fun a ha=>?_
   have ha:=oS _ a ha;simp only[fZ,mD,jA]
   refine Pc.of fun x=>⟨fun _=>Pc.of fun y=>Pc.of fun z=>fun _=>ha,fun _ _=>ha⟩
 exact key _ (MM hw hl) h0
theorem AM(st:List Nat)(m:Nat)(v:Nat):aH (dG st++alX (m+1) (0:Int)) (st.length:Int) (v:Int)=dG (st++[v])++alX m (0:Int):=by
 unfold aH;rw[al1,amz _ _ (by simp),amX];simp
theorem tX(st:List Nat)(m:Nat)(u v:Nat):aH (dG (st++[u])++alX m (0:Int)) (st.length:Int) (v:Int)=dG (st++[v])++alX m (0:Int):=by
 unfold aH;rw[al1,List.set_append_left _ _ (by simp)]
 congr 1
 simp only[dG,List.map_append];rw[amz _ _ (by simp)];simp
theorem FA(e:List Ty):M.fu aB e=some (qC e):=by
 apply Wp.eq;unfold M.fu qC
 refine Wp.dec (fun h=> .some ?_) fun h1=>?_
 .rw[if_pos (by omega)]
 rw[if_neg (show¬48<e.length by omega)]
 refine Wp.dec (fun h=> .some ?_) fun h2=>?_
 .rw[if_pos (show e.length=0 by omega)]
 rw[if_neg (show¬e.length=0 by omega)]
 have uB:lB (e.length:Int) (0:Int)=some (alX e.length 0):=by
  unfold lB;rw[if_pos (by omega),al1]
 rw[uB];simp only[alS];refine Wp.join (Wp.loop (fun s:Int×List Int×List Int=>∃st sk:List Nat,s=((st.length:Int),dG st++alX (e.length-st.length) 0,dG sk)/\st.length<=e.length/\sk.length<=12/\kB (e.drop st.length) st.length st sk=kB e 0 [] []) (fun s=>(e.length-s.1).toNat) ⟨[],[],by simp,by simp,by simp,by simp⟩ (by simp only;unfold aB;omega) ?_)
 rintro _ ⟨st,sk,rfl,fi,NH,bA⟩
 simp only
 refine Wp.dec (fun hk=>?_) fun hk=> .some ?_
 case refine_2=>
  have hd:e.drop st.length=[]:=amC (by omega);rw[hd]at bA;rw[<-bA]
  have h0:e.length-st.length=0:=by omega
  rw[h0];simp only[kB,List.replicate_zero,amK]
  show Wp _ _
  refine Wp.dec (fun h=> .some ?_) fun h=> .some ?_
  .rw[if_pos (by simp at h;omega)]
  .rw[if_neg (by simp at h;omega)]
 have dZ:st.length<e.length:=by omega
 have hd:e.drop st.length=e[st.length]::e.drop (st.length+1):=amx dZ
 obtain⟨m,hm⟩:∃m,e.length-st.length=m+1:=⟨e.length-st.length-1,by omega⟩
 rw[hd]at bA;rw[ah dZ,hm];simp only[alS,M0];generalize gq:(e[st.length].1:Int)=op;rw[kB]at bA;rw[gq]at bA;have Jd:=kK op
 refine Wp.dec (fun h=> .some ?_) fun Fe=>?_
 .rw[if_pos h]at bA
  show _=_
  rw[<-bA]
 rw[if_neg Fe]at bA
 refine Wp.dec (fun h=> .some ?_) fun hlen=>?_
 .rw[if_pos (by simpa using h)]at bA
  show _=_
  rw[<-bA]
 have hlen:¬(sk.length:Int)<ar op:=by simpa using hlen
 rw[if_neg hlen]at bA
 obtain⟨a,ha⟩:∃a:Nat,ar op=a:=⟨(ar op).toNat,by omega⟩
 rw[ha]at bA Fe hlen Jd⊢
 have adk:a<=sk.length:=by omega
 have e6:idx (dG st++alX (m+1) (0:Int)) (st.length:Int)=some 0:=by
  rw[ah (by simp)];rw[ame (by simp)];simp
 rw[e6]
 have hw:alT.wrap (((dG sk).length:Int)-(a:Int))=((sk.length-a:Nat):Int):=by
  rw[amm,aJ (by omega) (by omega)];omega
 have hs:mW (a:Int) st.length sk=(if a=0 then st.length else sk.getD (sk.length-a) 0):=by
  unfold mW;by_cases h0:a=0
  .subst h0;simp
  .rw[if_neg (by omega),if_neg h0,al1]
 simp only[alS,AM,hw];refine Wp.seq (· =dG (st++[mW (a:Int) st.length sk])++alX m (0:Int)) ?_ ?_
 .refine Wp.dec (fun h=>?_) fun h=>?_
  .have aj:sk.length-a<(dG sk).length:=by simp;omega
   rw[ah aj]
   have e9:idx (dG (st++[st.length])++alX m (0:Int)) (st.length:Int)=some (st.length:Int):=by
    rw[ah (by simp)];rw[al5 (by simp)];simp
   simp only[alS,e9,List.getElem_map,tX];refine .some ?_;rw[hs,if_neg (by omega),show sk.getD (sk.length-a) 0=sk[sk.length-a]'(by simpa using aj) by simp[amn,show sk.length-a<sk.length by omega]]
  .refine .some ?_;rw[hs,if_pos (by omega)]
 .rintro _ rfl
  generalize mW (a:Int) st.length sk=s at bA⊢
  have xS:fH (dG sk) (0:Int) ((sk.length-a:Nat):Int)=some (dG (sk.take (sk.length-a))):=by
   rw[gG (by simp)];simp
  have e11:idx (dG (st++[s])++alX m (0:Int)) (st.length:Int)=some (s:Int):=by
   rw[ah (by simp)];rw[al5 (by simp)];simp
  have SB:bZ (dG (sk.take (sk.length-a))) [(s:Int)]=some (dG (sk.take (sk.length-a)++[s])):=by
   rw[bh (by simp;omega)];simp
  rw[xS];simp only[alS,e11,SB]
  have hl:(dG (sk.take (sk.length-a)++[s])).length=sk.length-a+1:=by simp
  rw[hl];rw[al1]at bA
  refine Wp.dec (fun h=> .some ?_) fun h=> .some ?_
  .rw[if_pos (by omega)]at bA
   show _=_
   rw[<-bA]
  .rw[if_neg (by omega)]at bA;rw[aD (by omega)];refine⟨⟨st++[s],sk.take (sk.length-a)++[s],?_,by simp;omega,by simp;omega,?_⟩,by simp only;omega⟩
   .have:e.length-(st++[s]).length=m:=by simp;omega
    rw[this];simp
   .rw[alY];exact bA
theorem mo.all(s:ov):mo s:=fun e hw=>by
 apply Wp.eq;unfold M.fS;simp only[FA,M0,M1,W_,implies_true,forall_const,reduceCtorEq];refine⟨fun h=>by unfold D2;rw[if_pos h],fun h0=>?_⟩;obtain⟨h48,bR,cf,L7,Sw⟩:=Pt h0
 have hT:D2 e s=match nI s e 0 []with
  | .inl (i,c)=>(((0:Int),(0:Int)),(i:Int),c)
  | .inr iq=>(iq.headD ((0:Int),(0:Int)),0,0):=by unfold D2;rw[if_neg (by omega)];cases nI s e 0 []<;>rfl
 refine Wp.count (fun s=>s.1) e.length (fun k q=>∃st sk,q.2.length=sk.length/\kB e 0 [] []=kB (e.drop k) k st sk/\nI s e 0 []=nI s (e.drop k) k q.2/\q.2.length<=k/\(0<k->q.2≠[])/\∀t∈q.2,qE t) (by omega) rfl ⟨[],[],rfl,rfl,rfl,alZ _,fun h=>by omega,fun _ h=>by cases h⟩ fun k q hk hs hJ=>?_
 obtain⟨i,iq⟩:=q;obtain⟨st,sk,hl,hr,ht,Mh,nO,Td⟩:=hJ;dsimp only at hs hl ht Mh nO Td;subst hs;simp only[W_,implies_true,forall_const,reduceCtorEq,ba,aS];refine⟨fun aj=>?_,fun hge=>?_⟩
 .have aj:k<e.length:=by omega
  rw[amx aj,kB]at hr;rw[amx aj,nI]at ht;rw[Sw]at hr;have ha3:=kK e[k].1;split at hr
  .cases hr
  split at hr
  .cases hr
  split at hr
  .cases hr
  rename_i ha0 ha1 ha2
  have w1:alT.wrap ((iq.length:Int)-ar e[k].1)=((iq.length-(ar e[k].1).toNat:Nat):Int):=by rw[aJ (by omega) (by omega)];omega
  have hd:((iq.drop (iq.length-(ar e[k].1).toNat)).length:Int)=ar e[k].1:=by rw[List.length_drop];omega
  have hwk:=hw _ (al0 aj)
  have XI:∀t∈iq.drop (iq.length-(ar e[k].1).toNat),qE t:=fun t h=>Td t (List.mem_of_mem_drop h)
  have hp:=WX e[k] _ s hwk hd XI;have vO:=PC e[k] _ s hwk hd XI
  have bad:∀c:Int,c≠0->(G9 e[k] (iq.drop (iq.length-(ar e[k].1).toNat)) s).2=c->(((0:Int),(0:Int)),(k:Int),c)=D2 e s:=fun c h0 hc=>by
   rw[hT,ht,if_pos (by rw[hc];exact h0),hc]
  have rest:¬((e[k].2:Int)≠0/\¬((1<=(e[k].1:Int)/\(e[k].1:Int)<=8)\/(14<=(e[k].1:Int)/\(e[k].1:Int)<=16)\/(e[k].1:Int)=33\/(e[k].1:Int)=34\/(36<=(e[k].1:Int)/\(e[k].1:Int)<=39)))->M.aP aB e[k] (iq.drop (iq.length-(ar e[k].1).toNat)) s=some (G9 e[k] (iq.drop (iq.length-(ar e[k].1).toNat)) s):=fun h=>by
   rw[<-hp];exact(if_neg h).symm
  have cond:((e[k].2:Int)≠0/\¬((1<=(e[k].1:Int)/\(e[k].1:Int)<=8)\/(14<=(e[k].1:Int)/\(e[k].1:Int)<=16)\/(e[k].1:Int)=33\/(e[k].1:Int)=34\/(36<=(e[k].1:Int)/\(e[k].1:Int)<=39)))->(G9 e[k] (iq.drop (iq.length-(ar e[k].1).toNat)) s).2=2:=fun h=>by
   have:some (G9 e[k] (iq.drop (iq.length-(ar e[k].1).toNat)) s)=some (((0:Int),(0:Int)),(2:Int)):=by
    rw[<-hp];exact if_pos h
   rw[alU this]
  have xp:¬((e[k].2:Int)≠0/\¬((1<=(e[k].1:Int)/\(e[k].1:Int)<=8)\/(14<=(e[k].1:Int)/\(e[k].1:Int)<=16)\/(e[k].1:Int)=33\/(e[k].1:Int)=34\/(36<=(e[k].1:Int)/\(e[k].1:Int)<=39)))->Wp (M.aP aB e[k] (iq.drop (iq.length-(ar e[k].1).toNat)) s) fun y9=>(¬(y9.2:Int)=0->(((0:Int),(0:Int)),(k:Int),y9.2)=D2 e s)/\((y9.2:Int)=0->Wp (bZ (iq.take (iq.length-(ar e[k].1).toNat)) [y9.1]) fun x=>k<e.length/\alT.wrap ((k:Int)+1)=((k+1:Nat):Int)/\∃st sk,x.length=sk.length/\kB e 0 [] []=kB (e.drop (k+1)) (k+1) st sk/\nI s e 0 []=nI s (e.drop (k+1)) (k+1) x/\x.length<=k+1/\(0<k+1->x≠[])/\∀t∈x,qE t):=fun h=>by
   rw[rest h];refine .some ⟨fun hc=>bad _ hc rfl,fun hc=>?_⟩;rw[if_neg (fun g=>g hc)]at ht;refine nR.2 ⟨by rw[amd];simp;omega,aj,bV (m:=e.length) (by omega) aj,_,_,?_,Sw.trans hr,ht,?_,fun _=>by simp,fun t h=>?_⟩
   .simp only[alY,amd,al9,List.length_nil,hl]
   .simp only[alY,amd,al9,List.length_nil];omega
   .rcases amf.1 h with h|h
    .exact Td t (List.mem_of_mem_take h)
    .rw[ama.1 h];exact vO hc
  simp only[ah aj,w1,gG (show iq.length-(ar e[k].1).toNat<=iq.length by omega),lk (l:=iq) (iq.length-(ar e[k].1).toNat) iq.length rfl rfl (by omega) (alZ _),amc,W_,implies_true,forall_const,reduceCtorEq];exact⟨fun h1=>⟨fun h2=>bad 2 (by decide) (cond ⟨h1,h2⟩),fun h2=>xp fun g=>g.2 h2⟩,fun h1=>xp fun g=>g.1 h1⟩
 .obtain rfl:k=e.length:=by omega
  rw[List.drop_length,nI]at ht;rw[hT,ht];have:iq≠[]:=nO (List.length_pos_iff.2 bR);obtain⟨a,l,rfl⟩:=List.exists_cons_of_ne_nil this;exact eC.2 ⟨by simp,rfl⟩
end L
end Go.Proofs.YtmihpkfkbfgigaaGreatDoor
end
section
open _root_.Classical renaming not_not->am2
open _root_.Go.Lib renaming compact->am6
open _root_.Int renaming eq_ofNat_of_zero_le->al8,toNat_natCast->al1
open _root_.Go.IntKind renaming i64->alT
open _root_.List renaming getElem?_eq_getElem->alV,getElem?_eq_some_iff->alW,getElem_mem->al0,getElem_of_mem->amb,length_append->alY,length_cons->al9,mem_append->amf,mem_cons->amg,mem_singleton->ama,pairwise_cons->anf,take_length->amc
open _root_.Nat renaming le_refl->alZ,lt_succ_iff_lt_or_eq->amT,zero_le->amj
open _root_.Option renaming bind_some->alS
open _root_.Sum renaming inr->amP
namespace Go.Proofs.YtmihpkfkbfgigaaGreatDoor
open Go Go.RowKit
set_option maxRecDepth 100000
set_option linter.unusedSimpArgs false
namespace L
inductive FB(D:Int->Int->Prop):Int->Int->Prop
 |one {a b:Int} (h:D a b):FB D a b
 |step {a b c:Int} (h:FB D a b) (g:D b c):FB D a c
def Dp(s:gw)(a b:Int):Prop:=b∈mr s a
theorem xB{y:Int}:∀{l out:List Int},y∈l.foldl (fun o z=>ins z o) out↔y∈l\/y∈out
 |[],_=>by simp
 |x::l,out=>by
  rw[List.foldl_cons,xB (l:=l),nJ,amg];exact⟨fun h=>by rcases h with h|h|h<;>simp[h],fun h=>by rcases h with(h|h)|h<;>simp[h]⟩
theorem ow(s:gw){out:List Int}{y:Int}:y∈stepT s out↔y∈out\/∃x∈out,Dp s x y:=by
 unfold stepT
 suffices∀(l o:List Int),y∈l.foldl (fun o x=>(mr s x).foldl (fun o y=>ins y o) o) o↔y∈o\/∃x∈l,Dp s x y from this _ _
 intro l
 induction l with
 |nil=>intro o;simp
 |cons x l ih=>
  intro o;rw[List.foldl_cons,ih,xB];unfold Dp;constructor
  .rintro((h|h)|⟨z,hz,h⟩)
   .exact .inr ⟨x,by simp,h⟩
   .exact .inl h
   .exact .inr ⟨z,by simp[hz],h⟩
  .rintro(h|⟨z,hz,h⟩)
   .exact .inl (.inr h)
   .rcases amg.1 hz with rfl|hz
    .exact .inl (.inl h)
    .exact .inr ⟨z,hz,h⟩
theorem pV(s:gw)(d:Int):∀n y,y∈kN s n (mr s d)->FB (Dp s) d y
 |0,y,h=> .one h
 |n+1,y,h=>by
  rcases(ow s).1 h with h|⟨x,hx,h⟩
  .exact pV s d n y h
  .exact .step (pV s d n x hx) h
theorem JA{l m:List Int}(hl:l.Pairwise (· < ·))(hm:m.Pairwise (· < ·))(h:∀y,y∈l↔y∈m):l=m:=by
 induction l generalizing m with
 |nil=>
  cases m with
  |nil=>rfl
  |cons y m=>exact absurd ((h y).2 (by simp)) (by simp)
 |cons x l ih=>
  cases m with
  |nil=>exact absurd ((h x).1 (by simp)) (by simp)
  |cons y m=>
   obtain⟨h1,h2⟩:=anf.1 hl;obtain⟨g1,g2⟩:=anf.1 hm
   have e:x=y:=by
    rcases amg.1 ((h x).1 (by simp))with e|e
    .exact e
    .rcases amg.1 ((h y).2 (by simp))with e'|e'
     .exact e'.symm
     .have:=g1 x e;have:=h1 y e';omega
   subst e
   congr 1
   refine ih h2 g2 fun z=>?_
   have:=h z;rw[amg,amg]at this;constructor
   .intro hz
    rcases this.1 (.inr hz)with rfl|hz'
    .have:=h1 z hz;omega
    .exact hz'
   .intro hz
    rcases this.2 (.inr hz)with rfl|hz'
    .have:=g1 z hz;omega
    .exact hz'
theorem qx{l:List Int}:∀{m:List Int},l.Nodup->(∀y,y∈l->y∈m)->l.length<=m.length:=by
 induction l with
 |nil=>intro m _ _;simp
 |cons x l ih=>
  intro m hn h;obtain⟨h1,h2⟩:=List.nodup_cons.1 hn;have hx:=h x (by simp)
  have:=ih (m:=m.erase x) h2 fun y hy=>(List.mem_erase_of_ne (fun e:y=x=>h1 (by rw[<-e];exact hy))).2 (h y (by simp[hy]))
  rw[List.length_erase_of_mem hx]at this;have:=List.length_pos_of_mem hx;simp only[al9];omega
theorem Hd{l m:List Int}(hl:l.Pairwise (· < ·))(_:m.Pairwise (· < ·))(h:∀y,y∈l->y∈m)(hx:∃y,y∈m/\y∉l):l.length<m.length:=by
 have nd:l.Nodup:=hl.imp fun h=>by omega
 obtain⟨y,hy,hn⟩:=hx;have nd2:(y::l).Nodup:=List.nodup_cons.2 ⟨hn,nd⟩
 have:(y::l).length<=m.length:=qx nd2 fun z hz=>by
  rcases amg.1 hz with rfl|hz
  .exact hy
  .exact h z hz
 simp only[al9]at this;omega
theorem A7(s:gw)(d:Int):(∀n,n<=s.2.2.2.1.length->(stepT s (kN s n (mr s d))=kN s n (mr s d)\/n<=(kN s n (mr s d)).length)):=by
 have X3:∀m,uN s.2.2.2.1.length (kN s m (mr s d)):=fun m=>by
  induction m with
  |zero=>exact np s d
  |succ m ih=>exact qw s ih
 intro n
 induction n with
 |zero=>intro _;exact .inr (amj _)
 |succ n ih=>
  intro hn
  rcases ih (by omega)with h|h
  .left
   show stepT s (stepT s (kN s n (mr s d)))=stepT s (kN s n (mr s d))
   rw[h,h]
  .by_cases hx:∃y,y∈stepT s (kN s n (mr s d))/\y∉kN s n (mr s d)
   .right
    have:=Hd (X3 n).1 (qw s (X3 n)).1 (fun y hy=>(ow s).2 (.inl hy)) hx
    show n+1<=(stepT s (kN s n (mr s d))).length
    omega
   .left
    have:stepT s (kN s n (mr s d))=kN s n (mr s d):=JA (qw s (X3 n)).1 (X3 n).1 fun y=>⟨fun h=>am2.1 fun hn=>hx ⟨y,h,hn⟩,fun h=>(ow s).2 (.inl h)⟩
    show stepT s (stepT s (kN s n (mr s d)))=stepT s (kN s n (mr s d))
    rw[this,this]
theorem vE(s:gw)(d y:Int):y∈J0 s d↔FB (Dp s) d y:=by
 refine⟨fun h=>pV s d _ y h,fun h=>?_⟩
 have closed:∀x z,x∈J0 s d->Dp s x z->z∈J0 s d:=by
  intro x z hx hz
  rcases A7 s d s.2.2.2.1.length (alZ _)with h|h
  .have:z∈stepT s (kN s s.2.2.2.1.length (mr s d)):=(ow s).2 (.inr ⟨x,hx,hz⟩);rw[h]at this;exact this
  .have hs:=Pw s d;have T4:=(np s x).2 z hz
   refine am2.1 fun hn=>?_
   have:=Hd (l:=J0 s d) (m:=ins z (J0 s d)) hs.1 (Ft hs.1) (fun y hy=>nJ.2 (.inr hy)) ⟨z,nJ.2 (.inl rfl),hn⟩;have:=(hs.ins T4).len;have:s.2.2.2.1.length<=(J0 s d).length:=h;omega
 have start:∀z,Dp s d z->z∈J0 s d:=by
  intro z hz
  show z∈kN s s.2.2.2.1.length (mr s d)
  have:∀n,z∈kN s n (mr s d):=fun n=>by
   induction n with
   |zero=>exact hz
   |succ n ih=>exact(ow s).2 (.inl ih)
  exact this _
 induction h with
 |one h=>exact start _ h
 |step _ g ih=>exact closed _ _ ih g
theorem DD(d:Array Int)(y:Int):∀m,y∈Go.Lib.compactUpTo d m↔∃j,j<m/\d[j]! =y
 |0=>by simp[Go.Lib.compactUpTo]
 |m+1=>by
  rw[Go.Lib.compactUpTo_succ,amf,DD d y m];constructor
  .rintro(⟨j,hj,h⟩|h)
   .exact⟨j,by omega,h⟩
   .split at h
    .rw[ama]at h;exact⟨m,by omega,h.symm⟩
    .cases h
  .rintro⟨j,hj,h⟩
   rcases amT.1 hj with h1|rfl
   .exact .inl ⟨j,h1,h⟩
   .by_cases hk:Go.Lib.keeps d j=true
    .right;rw[if_pos hk,ama];exact h.symm
    .left
     unfold Go.Lib.keeps at hk;rw[decide_eq_true_eq]at hk
     have h0:j≠0:=fun e=>hk (.inl e)
     have h1:d[j]! =d[j-1]! :=am2.1 fun e=>hk (.inr e)
     exact⟨j-1,by omega,by rw[<-h1];exact h⟩
theorem DE(l:List Int)(y:Int):y∈am6 l↔y∈l:=by
 unfold am6;rw[DD];constructor
 .rintro⟨j,hj,rfl⟩
  have:l.toArray[j]! =l[j]:=by simp[hj]
  rw[this];exact al0 hj
 .intro h;obtain⟨j,hj,rfl⟩:=amb h;exact⟨j,hj,by simp[hj]⟩
theorem zF(l:List Int)(hl:l.length<=1000000):Wp ((M.cn aB l).bind fun y1=>(M.cZ aB y1).bind fun y2=>some y2) fun r=>r.length<=l.length/\∀y,y∈r↔y∈l:=by
 have e1:M.cn aB l=some (ol l):=by
  unfold M.cn zg;rw[if_pos (by omega)]
 have hs:(ol l).length=l.length:=List.length_mergeSort ..
 have e2:M.cZ aB (ol l)=some (am6 (ol l)):=by
  unfold M.cZ pC;rw[if_pos (by omega)]
 rw[e1,alS,e2];refine .some ⟨?_,fun y=>?_⟩
 .have:=wX (ol l);omega
 .rw[DE];exact List.mem_mergeSort
theorem pW(l:List Int)(hl:l.length<=1000000):Wp (M.gC aB l) fun r=>r.length<=l.length/\∀y,y∈r↔y∈l:=zF l hl
theorem A8(l:List Int)(hl:l.length<=1000000):Wp (M.iG aB l) fun r=>r.length<=l.length/\∀y,y∈r↔y∈l:=zF l hl
def JB(e:List Ty)(y:Int):Prop:=∃n∈e,(n.1:Int)=8/\(n.2:Int)=y
theorem FC(p:Int->Bool)(e:List Ty)(y:Int):y∈oP p e↔∃n∈e,p n.1=true/\(n.2:Int)=y:=by
 unfold oP
 suffices∀(e:List Ty)(l:List Int),y∈e.foldl (fun l n=>if p n.1=true then ins n.2 l else l) l↔y∈l\/∃n∈e,p n.1=true/\(n.2:Int)=y by simpa using this e []
 intro e
 induction e with
 |nil=>intro l;simp
 |cons n e ih=>
  intro l;rw[List.foldl_cons,ih];split
  .rename_i h;rw[nJ];constructor
   .rintro((h1|h1)|⟨q,hq,h1⟩)
    .exact .inr ⟨n,by simp,h,h1.symm⟩
    .exact .inl h1
    .exact .inr ⟨q,by simp[hq],h1⟩
   .rintro(h1|⟨q,hq,h1,h2⟩)
    .exact .inl (.inr h1)
    .rcases amg.1 hq with rfl|hq
     .exact .inl (.inl h2.symm)
     .exact .inr ⟨q,hq,h1,h2⟩
  .rename_i h;constructor
   .rintro(h1|⟨q,hq,h1⟩)
    .exact .inl h1
    .exact .inr ⟨q,by simp[hq],h1⟩
   .rintro(h1|⟨q,hq,h1,h2⟩)
    .exact .inl h1
    .rcases amg.1 hq with rfl|hq
     .exact absurd h1 h
     .exact .inr ⟨q,hq,h1,h2⟩
theorem uP(e:List Ty)(y:Int):y∈oP uM e↔JB e y:=by
 rw[FC];unfold JB uM;simp only[decide_eq_true_eq]
theorem qX(e:List Ty)(he:e.length<=100000):Wp (M.ie aB e) fun r=>r.2.1.length<=e.length/\∀y,y∈r.2.1↔JB e y:=by
 unfold M.ie;rw[wp_bind]
 refine Wp.count (fun s=>s.1) e.length (fun k s=>(s.2.1.length<=k/\s.2.2.1.length<=k/\s.2.2.2.length<=k)/\∀y,y∈s.2.2.1↔∃j,∃h:j<e.length,j<k/\(e[j].1:Int)=8/\(e[j].2:Int)=y) (by omega) rfl ⟨by simp,fun y=>by simp⟩ fun k s hk hs hJ=>?_
 obtain⟨i,a,b,c⟩:=s;obtain⟨⟨l1,l2,l3⟩,hm⟩:=hJ;dsimp only at hs l1 l2 l3 hm;subst hs;simp only[W_,implies_true,forall_const,reduceCtorEq,ba,aS];refine⟨fun aj=>?_,fun hge=>?_⟩
 .have aj:k<e.length:=by omega
  have nxt:∀b':List Int,(∀y,y∈b'↔y∈b\/((e[k].1:Int)=8/\(e[k].2:Int)=y))->∀y,y∈b'↔∃j,∃h:j<e.length,j<k+1/\(e[j].1:Int)=8/\(e[j].2:Int)=y:=fun b' hb y=>by
   rw[hb,hm];constructor
   .rintro(⟨j,h,h1,h2⟩|h)
    .exact⟨j,h,by omega,h2⟩
    .exact⟨k,aj,by omega,h⟩
   .rintro⟨j,h,h1,h2⟩
    rcases amT.1 h1 with h3|rfl
    .exact .inl ⟨j,h,h3,h2⟩
    .exact .inr h2
  have same:(e[k].1:Int)≠8->∀y,y∈b↔∃j,∃h:j<e.length,j<k+1/\(e[j].1:Int)=8/\(e[j].2:Int)=y:=fun h=>nxt b fun y=>⟨.inl,fun g=>g.resolve_right fun g=>h g.1⟩
  simp only[ah aj,bV (m:=e.length) (by omega) aj,W_,implies_true,forall_const,reduceCtorEq]
  have I5:∀(q:List Int)(v:Int)(Q:List Int->Prop),q.length<=k->Q (q++[v])->Wp (bZ q [v]) Q:=fun q v Q hq h=>nR.2 ⟨by simp;omega,h⟩
  refine⟨fun h=>I5 _ _ _ l1 ⟨aj,by simp;omega,same (by rw[h];decide)⟩,fun _=>⟨fun h=>I5 _ _ _ l2 ⟨aj,by simp;omega,nxt _ fun y=>?_⟩,fun h8=>?_⟩⟩
  .rw[amf,ama];exact⟨fun g=>g.imp id fun g=>⟨h,g.symm⟩,fun g=>g.imp id fun g=>g.2.symm⟩
  .have Kk:k<e.length/\(a.length<=k+1/\b.length<=k+1/\c.length<=k+1)/\∀y,y∈b↔∃j,∃h:j<e.length,j<k+1/\(e[j].1:Int)=8/\(e[j].2:Int)=y:=⟨aj,by omega,same h8⟩
   have Cc:Wp (bZ c [(e[k].2:Int)]) fun x=>k<e.length/\(a.length<=k+1/\b.length<=k+1/\x.length<=k+1)/\∀y,y∈b↔∃j,∃h:j<e.length,j<k+1/\(e[j].1:Int)=8/\(e[j].2:Int)=y:=I5 _ _ _ l3 ⟨aj,by simp;omega,same h8⟩
   exact⟨fun _=>⟨fun _=>Cc,fun _=>Kk⟩,fun _=>⟨fun _=>⟨fun _=>Cc,fun _=>Kk⟩,fun _=>⟨fun _=>⟨fun _=>Cc,fun _=>Kk⟩,fun _=>⟨fun _=>Cc,fun _=>Kk⟩⟩⟩⟩
 .refine(pW a (by omega)).mono fun _ _=>?_
  refine(pW b (by omega)).mono fun r hr=>?_
  refine(pW c (by omega)).mono fun _ _=>?_
  refine⟨by omega,fun y=>?_⟩;rw[hr.2,hm];unfold JB;constructor
  .rintro⟨j,h,_,h2⟩
   exact⟨_,al0 h,h2⟩
  .rintro⟨n,hn,h⟩
   obtain⟨j,hj,rfl⟩:=amb hn;exact⟨j,hj,by omega,h⟩
def FD(r:jK)(n:Nat)(y:Int):Prop:=(JB r.2.2.2.2.2.1 y\/JB r.2.2.2.2.2.2.1 y)/\0<=y/\y<(n:Int)
theorem He(l o:List Int)(n:Nat)(hl:l.length<=100000)(ho:o.length<=100000):Wp (Loop (S:=Int×List Int) (X:=List Int) (fun s4=>
 (if(decide (s4.1<(l.length:Int)))=true then
 ((idx l s4.1).bind fun x6=>
 ((if(decide ((0:Int)<=x6))=true then
 some (decide (x6<(n:Int)))
 else
 some false):Option (Bool)).bind fun j7=>
 (if j7=true then
 (bZ s4.2 ([x6]:List Int)).bind fun l8=>
 some l8
 else
 some s4.2):Option (List Int)).bind fun j5=>
 some (Sum.inl (alT.wrap (s4.1+(1:Int)),j5))
 else
 some (amP s4.2))) aB ((0:Int),o)) fun r=>r.length<=o.length+l.length/\∀y,y∈r↔y∈o\/(y∈l/\0<=y/\y<(n:Int)):=by
 refine Wp.count (fun s=>s.1) l.length (fun k s=>s.2.length<=o.length+k/\∀y,y∈s.2↔y∈o\/((∃j,∃h:j<l.length,j<k/\l[j]=y)/\0<=y/\y<(n:Int))) (by omega) rfl ⟨by simp,fun y=>by simp⟩ fun k s hk hs hJ=>?_
 obtain⟨i,q⟩:=s;obtain⟨h1,hm⟩:=hJ;dsimp only at hs h1 hm;subst hs;simp only[W_,implies_true,forall_const,reduceCtorEq,ba,aS];refine⟨fun aj=>?_,fun hge=>?_⟩
 .have aj:k<l.length:=by omega
  simp only[ah aj,bV (m:=l.length) (by omega) aj,W_,implies_true,forall_const,reduceCtorEq]
  have keep:¬(0<=l[k]/\l[k]<(n:Int))->k<l.length/\q.length<=o.length+(k+1)/\∀y,y∈q↔y∈o\/((∃j,∃h:j<l.length,j<k+1/\l[j]=y)/\0<=y/\y<(n:Int)):=fun hn=>⟨aj,by omega,fun y=>by
   rw[hm];refine or_congr Iff.rfl (and_congr_left fun hy=>⟨fun⟨j,h,h1,h2⟩=>⟨j,h,by omega,h2⟩,fun⟨j,h,h1,h2⟩=>?_⟩)
   rcases amT.1 h1 with h3|rfl
   .exact⟨j,h,h3,h2⟩
   .exact absurd (h2▸hy) hn⟩
  refine⟨fun h0=>⟨fun th=>nR.2 ⟨by simp;omega,aj,by simp;omega,fun y=>?_⟩,fun th=>keep fun g=>th g.2⟩,fun h0=>keep fun g=>h0 g.1⟩;rw[amf,ama,hm];constructor
  .rintro((h|⟨⟨j,h,h2,h3⟩,h4⟩)|rfl)
   .exact .inl h
   .exact .inr ⟨⟨j,h,by omega,h3⟩,h4⟩
   .exact .inr ⟨⟨k,aj,by omega,rfl⟩,h0,th⟩
  .rintro(h|⟨⟨j,h,h2,h3⟩,h4⟩)
   .exact .inl (.inl h)
   .rcases amT.1 h2 with h5|rfl
    .exact .inl (.inr ⟨⟨j,h,h5,h3⟩,h4⟩)
    .exact .inr h3.symm
 .refine⟨by omega,fun y=>?_⟩;rw[hm];refine or_congr Iff.rfl (and_congr_left fun hy=>⟨fun⟨j,h,_,h2⟩=>h2▸al0 h,fun h=>?_⟩);obtain⟨j,hj,e⟩:=amb h;exact⟨j,hj,by omega,e⟩
theorem JC(r:jK)(n:Nat)(h1:r.2.2.2.2.2.1.length<=50)(h2:r.2.2.2.2.2.2.1.length<=50):Wp (M.fy aB r (n:Int)) fun l=>l.length<=100/\∀y,y∈l↔FD r n y:=by
 unfold M.fy;rw[wp_bind]
 refine(qX _ (by omega)).mono fun a ha=>?_
 rw[wp_bind]
 refine(qX _ (by omega)).mono fun b hb=>?_
 rw[wp_bind]
 refine(He a.2.1 [] n (by omega) (by simp)).mono fun c hc=>?_
 have zh:=hc.1;simp only[List.length_nil]at zh
 refine(He b.2.1 c n (by omega) (by omega)).mono fun q hq=>⟨by omega,fun y=>?_⟩
 rw[hq.2,hc.2,ha.2,hb.2];unfold FD;constructor
 .rintro((h|h)|h)
  .cases h
  .exact⟨.inl h.1,h.2⟩
  .exact⟨.inr h.1,h.2⟩
 .rintro⟨h|h,h3⟩
  .exact .inl (.inr ⟨h,h3⟩)
  .exact .inr ⟨h,h3⟩
theorem uj(n:Nat)(y:Int):∀(l out:List Int),y∈nK n out l↔y∈out\/(y∈l/\0<=y/\y<(n:Int))
 |[],out=>by show y∈out↔_;simp
 |x::l,out=>by
  show y∈nK n (if 0<=x/\x<(n:Int)then ins x out else out) l↔_
  rw[uj n y l];split
  .rename_i h;rw[nJ,amg];constructor
   .rintro((rfl|h1)|⟨h1,h2⟩)
    .exact .inr ⟨.inl rfl,h⟩
    .exact .inl h1
    .exact .inr ⟨.inr h1,h2⟩
   .rintro(h1|⟨h1|h1,h2⟩)
    .exact .inl (.inr h1)
    .exact .inl (.inl h1)
    .exact .inr ⟨h1,h2⟩
  .rename_i h;rw[amg];constructor
   .rintro(h1|⟨h1,h2⟩)
    .exact .inl h1
    .exact .inr ⟨.inr h1,h2⟩
   .rintro(h1|⟨h1|h1,h2⟩)
    .exact .inl h1
    .exact absurd (h1▸h2) h
    .exact .inr ⟨h1,h2⟩
theorem xC(s:gw)(d y:Int):Dp s d y↔(0<=d/\d<(s.2.2.2.1.length:Int))/\∃r∈s.2.2.2.2,(r.2.1:Int)=d/\FD r s.2.2.2.1.length y:=by
 unfold Dp mr;split
 .rename_i hd
  suffices∀(rs:List jK)(out:List Int),y∈rs.foldl (fun out r=>if(r.2.1:Int)=d then nK s.2.2.2.1.length (nK s.2.2.2.1.length out (oP uM r.2.2.2.2.2.1)) (oP uM r.2.2.2.2.2.2.1)else out) out↔y∈out\/∃r∈rs,(r.2.1:Int)=d/\FD r s.2.2.2.1.length y by
   rw[this];simp[hd]
  intro rs
  induction rs with
  |nil=>intro out;simp
  |cons r rs ih=>
   intro out;rw[List.foldl_cons,ih];split
   .rename_i h;rw[uj,uj,uP,uP];unfold FD;constructor
    .rintro(((h1|h1)|h1)|⟨q,hq,h1⟩)
     .exact .inl h1
     .exact .inr ⟨r,by simp,h, .inl h1.1,h1.2⟩
     .exact .inr ⟨r,by simp,h, .inr h1.1,h1.2⟩
     .exact .inr ⟨q,by simp[hq],h1⟩
    .rintro(h1|⟨q,hq,h1,h2,h3⟩)
     .exact .inl (.inl (.inl h1))
     .rcases amg.1 hq with rfl|hq
      .rcases h2 with h2|h2
       .exact .inl (.inl (.inr ⟨h2,h3⟩))
       .exact .inl (.inr ⟨h2,h3⟩)
      .exact .inr ⟨q,hq,h1,h2,h3⟩
   .rename_i h;constructor
    .rintro(h1|⟨q,hq,h1⟩)
     .exact .inl h1
     .exact .inr ⟨q,by simp[hq],h1⟩
    .rintro(h1|⟨q,hq,h1,h2⟩)
     .exact .inl h1
     .rcases amg.1 hq with rfl|hq
      .exact absurd h1 h
      .exact .inr ⟨q,hq,h1,h2⟩
 .rename_i hd;simp[hd]
def Te(s:gw)(L:List (List Int)):Prop:=L.length=s.2.2.2.1.length/\∀d,∀h:d<L.length,L[d].length<=6000/\∀y,y∈L[d]↔Dp s (d:Int) y
theorem sQ(s:gw)(hs:iE s):Wp (M.jc aB s) (Te s):=by
 have Db:=hs.2.2.1;have SX:=hs.2.2.2.1;have WY:=hs.2.2.2.2.2.2;unfold M.jc;rw[wp_bind];refine rr.2 ⟨by omega,?_⟩;rw[wp_bind,al1]
 refine Wp.count (fun s=>s.1) s.2.2.2.2.length (fun k q=>q.2.length=s.2.2.2.1.length/\∀d,∀h:d<q.2.length,q.2[d].length<=100*k/\∀y,y∈q.2[d]↔∃j,∃h:j<s.2.2.2.2.length,j<k/\(s.2.2.2.2[j].2.1:Int)=(d:Int)/\FD s.2.2.2.2[j] s.2.2.2.1.length y) (by omega) rfl ⟨by simp,fun d h=>by simp⟩ fun k q hk D3 hJ=>?_
 obtain⟨i,q⟩:=q;obtain⟨hl,hm⟩:=hJ;dsimp only at D3 hl hm;subst D3;simp only[W_,implies_true,forall_const,reduceCtorEq,ba,aS];refine⟨fun aj=>?_,fun hge=>?_⟩
 .have aj:k<s.2.2.2.2.length:=by omega
  have hrk:=WY _ (al0 aj);simp only[ah aj,bV (m:=s.2.2.2.2.length) (by omega) aj,hl,W_,implies_true,forall_const,reduceCtorEq]
  have HL:∀d,∀h:d<q.length,(¬(s.2.2.2.2[k].2.1:Int)=(d:Int))->q[d].length<=100*(k+1)/\∀y,y∈q[d]↔∃j,∃h:j<s.2.2.2.2.length,j<k+1/\(s.2.2.2.2[j].2.1:Int)=(d:Int)/\FD s.2.2.2.2[j] s.2.2.2.1.length y:=fun d h hn=>⟨by have:=(hm d h).1;omega,fun y=>by
   rw[(hm d h).2];constructor
   .rintro⟨j,h1,h2,h3⟩;exact⟨j,h1,by omega,h3⟩
   .rintro⟨j,h1,h2,h3,h4⟩
    rcases amT.1 h2 with h5|rfl
    .exact⟨j,h1,h5,h3,h4⟩
    .exact absurd h3 hn⟩
  have dfo:=JC s.2.2.2.2[k] s.2.2.2.1.length hrk.2.2.1 hrk.2.2.2
  obtain⟨(v:Int),hv⟩:∃v:Int,v=s.2.2.2.2[k].2.1:=⟨_,rfl⟩
  simp only[<-hv]at HL⊢;refine⟨fun h0=>⟨fun h1=>?_,fun h1=>⟨aj,fun d h=>HL d (by omega) fun e=>h1 (e▸Int.ofNat_lt.2 h)⟩⟩,fun h0=>⟨aj,fun d h=>HL d (by omega) fun e=>h0 (e▸Int.natCast_nonneg d)⟩⟩;obtain⟨c,rfl⟩:=al8 h0
  have hc:c<q.length:=by rw[hl];exact Int.ofNat_lt.1 h1
  simp only[ah hc,W_,implies_true,forall_const,reduceCtorEq]
  refine dfo.mono fun l9 h9=>nR.2 ⟨by have:=(hm c hc).1;omega,?_⟩
  refine⟨aj,by rw[iU];exact hl,fun d h=>?_⟩
  have hd:d<q.length:=by rw[iU]at h;exact h
  rw[vw h hd]
  by_cases e:(c:Int)=(d:Int)
  .rw[if_pos e]
   have e:c=d:=by omega
   subst e;refine⟨by rw[alY];have:=(hm c hd).1;have:=h9.1;omega,fun y=>?_⟩;rw[amf,(hm c hd).2,h9.2];constructor
   .rintro(⟨j,h1,h2,h3⟩|h3)
    .exact⟨j,h1,by omega,h3⟩
    .exact⟨k,aj,by omega,hv.symm,h3⟩
   .rintro⟨j,h1,h2,h3,h4⟩
    rcases amT.1 h2 with h5|rfl
    .exact .inl ⟨j,h1,h5,h3,h4⟩
    .exact .inr h4
  .rw[if_neg e];exact HL d hd e
 obtain rfl:k=s.2.2.2.2.length:=by omega
 have YY:∀d,∀h:d<q.length,q[d].length<=6000/\∀y,y∈q[d]↔Dp s (d:Int) y:=fun d h=>⟨by have:=(hm d h).1;omega,fun y=>by
  rw[(hm d h).2,xC];constructor
  .rintro⟨j,h1,_,h2,h3⟩
   exact⟨by omega,_,al0 h1,h2,h3⟩
  .rintro⟨_,r,hr,h2,h3⟩
   obtain⟨j,hj,rfl⟩:=amb hr
   exact⟨j,hj,hj,h2,h3⟩⟩
 refine Wp.count (fun s=>s.1) q.length (fun k z=>z.2.length=q.length/\∀d,∀h:d<z.2.length,z.2[d].length<=6000/\∀y,y∈z.2[d]↔Dp s (d:Int) y) (by omega) rfl ⟨rfl,YY⟩ fun k z hk D3 hJ=>?_
 obtain⟨i,z⟩:=z;obtain⟨zl,zm⟩:=hJ;dsimp only at D3 zl zm;subst D3;simp only[W_,implies_true,forall_const,reduceCtorEq,ba,aS];refine⟨fun aj=>?_,fun hge=>⟨by rw[zl];exact hl,zm⟩⟩
 have aj:k<q.length:=by omega
 have hkz:k<z.length:=by omega
 simp only[ah hkz,bV (m:=q.length) (by omega) aj,W_,implies_true,forall_const,reduceCtorEq]
 refine(A8 z[k] (by have:=(zm k hkz).1;omega)).mono fun r hr=>⟨aj,by rw[iU];exact zl,fun d h=>?_⟩
 have hd:d<z.length:=by rw[iU]at h;exact h
 rw[vw h hd]
 by_cases e:(k:Int)=(d:Int)
 .rw[if_pos e]
  have e:k=d:=by omega
  subst e;exact⟨by have:=(zm k hd).1;have:=hr.1;omega,fun y=>by rw[hr.2];exact(zm k hd).2 y⟩
 .rw[if_neg e];exact zm d hd
def Sn(seen:List Bool)(y:Int):Prop:=0<=y/\seen[y.toNat]? =some true
theorem Tf{seen:List Bool}{x:Int}(hx:0<=x/\x.toNat<seen.length)(y:Int):Sn (aH seen x true) y↔y=x\/Sn seen y:=by
 unfold Sn aH;rw[List.getElem?_set];by_cases e:x.toNat=y.toNat
 .rw[if_pos e,if_pos hx.2];constructor
  .rintro⟨h,_⟩;exact .inl (by omega)
  .rintro(rfl|⟨h,_⟩)
   .exact⟨hx.1,rfl⟩
   .exact⟨h,rfl⟩
 .rw[if_neg e];constructor
  .exact .inr
  .rintro(rfl|h)
   .exact absurd rfl e
   .exact h
structure RI(D:Int->Int->Prop)(d0:Int)(n:Nat)(ex:Int->Prop)(seen:List Bool)(q:List Int):Prop where
 len:seen.length=n
 qo:∀x∈q,0<=x/\x<(n:Int)/\(x=d0\/Sn seen x)
 snd:∀y,Sn seen y->FB D d0 y
 clo:∀x,(x=d0\/Sn seen x)->x∈q\/ex x\/∀y,D x y->Sn seen y
 bud:q.length+seen.count false<=n+1
theorem FE(s:gw)(L:List (List Int))(hL:Te s L)(d:Nat)(hd:d<s.2.2.2.1.length)(Db:s.2.2.2.1.length<=14):Wp (M.mK aB L (d:Int)) fun r=>r.length<=1000/\∀y,y∈r↔FB (Dp s) (d:Int) y:=by
 obtain⟨hl,hL⟩:=hL
 have hD:∀a b,Dp s a b->0<=b/\b<(s.2.2.2.1.length:Int):=fun a b h=>(np s a).2 b h
 generalize s.2.2.2.1.length=n at*;unfold M.mK;rw[wp_bind];refine rr.2 ⟨by omega,?_⟩;rw[wp_bind,al1,hl]
 refine Wp.loop (fun q=>RI (Dp s) (d:Int) n (fun _=>False) q.1 q.2) (fun q=>2*q.1.count false+q.2.length) ?_ ?_ fun q hq=>?_
 .refine⟨by simp,fun x hx=>?_,fun y hy=>?_,fun x hx=>?_,by simp;omega⟩
  .rw[ama.1 hx];exact⟨by omega,by omega, .inl rfl⟩
  .exfalso;have:=hy.2;rw[List.getElem?_replicate]at this
   split at this<;>cases this
  .rcases hx with rfl|hx
   .exact .inl (by simp)
   .exfalso;have:=hx.2;rw[List.getElem?_replicate]at this
    split at this<;>cases this
 .simp[List.count_replicate];unfold aB;omega
 obtain⟨seen,q⟩:=q;dsimp only at hq;dsimp only
 have hcn:∀l:List Bool,l.count false<=l.length:=fun l=>List.count_le_length
 refine Wp.dec (fun h0=>?_) fun h0=>?_
 .have N2:0<q.length:=by omega
  obtain⟨x,t,rfl⟩:=List.exists_cons_of_ne_nil (List.length_pos_iff.1 N2);have hx:=hq.qo x (by simp);obtain⟨c,rfl⟩:=al8 hx.1
  have hc:c<L.length:=by omega
  have i0:idx ((c:Int)::t) (0:Int)=some (c:Int):=rfl
  have xS:fH ((c:Int)::t) (1:Int) (((c:Int)::t).length:Int)=some t:=by
   apply Wp.eq;refine wp_cut.2 ⟨by simp;omega,?_⟩;rw[al1,amc];rfl
  rw[i0,alS,xS,alS,ah hc,alS]
  have P4:∀y,Dp s (c:Int) y->FB (Dp s) (d:Int) y:=fun y h=>by
   rcases hx.2.2 with e|e
   .exact .one (e▸h)
   .exact .step (hq.snd _ e) h
  have QK:=(hL c hc).2;have Bh:=(hL c hc).1;have QC:=hq.bud;simp only[al9]at QC;generalize L[c]=l at*
  refine Wp.count (fun s=>s.1) l.length (fun k z=>RI (Dp s) (d:Int) n (fun y=>y=(c:Int)) z.2.1 z.2.2/\(∀j,j<k->∀h:j<l.length,Sn z.2.1 l[j])/\2*z.2.1.count false+z.2.2.length<=2*seen.count false+t.length) (by omega) rfl ⟨⟨hq.len,fun x hx=>hq.qo x (by simp[hx]),hq.snd,fun x hx=>?_,by dsimp only;omega⟩,fun j hj=>by omega,alZ _⟩ fun k z hk D3 hJ=>?_
  .rcases hq.clo x hx with h|h|h
   .rcases amg.1 h with rfl|h
    .exact .inr (.inl rfl)
    .exact .inl h
   .exact h.elim
   .exact .inr (.inr h)
  obtain⟨i,sn,qu⟩:=z;obtain⟨hR,hP,hB⟩:=hJ;dsimp only at D3 hR hP hB;subst D3;simp only[W_,implies_true,forall_const,reduceCtorEq,ba,aS];refine⟨fun aj=>?_,fun hge=>?_⟩
  .have aj:k<l.length:=by omega
   have hy:Dp s (c:Int) l[k]:=(QK _).1 (al0 aj);have WZ:=hD _ _ hy;simp only[ah aj,bV (m:=l.length) (by omega) aj,W_,implies_true,forall_const,reduceCtorEq]
   obtain⟨y,Uw⟩:∃y,y=l[k]:=⟨_,rfl⟩
   simp only[<-Uw]at hy WZ⊢
   have Po:y.toNat<sn.length:=by rw[hR.len];omega
   refine eC.2 ⟨by rw[hR.len];omega,fun hf=>eC.2 ⟨by rw[hR.len];omega,nR.2 ⟨?_,aj,?_⟩⟩,fun ht=>⟨aj,hR,cK hP fun _=>?_,hB⟩⟩
   .have:=hR.bud;simp;omega
   .have FF:=Tf (seen:=sn) (x:=y) ⟨WZ.1,Po⟩
    have PB:(aH sn y true).count false+1=sn.count false:=by
     unfold aH;rw[List.count_set Po];have h1:0<sn.count false:=List.count_pos_iff.2 (hf▸al0 Po);simp[hf];omega
    refine⟨⟨by unfold aH;simp[hR.len],fun x hx=>?_,fun z hz=>?_,fun x hx=>?_,?_⟩,cK (fun j hj h=>?_) fun h=>?_,?_⟩
    .rcases amf.1 hx with hx|hx
     .obtain⟨a1,a2,a3⟩:=hR.qo x hx;exact⟨a1,a2,a3.imp id fun g=>(FF x).2 (.inr g)⟩
     .rw[ama.1 hx];exact⟨WZ.1,WZ.2, .inr ((FF y).2 (.inl rfl))⟩
    .rcases(FF z).1 hz with rfl|hz
     .exact P4 _ hy
     .exact hR.snd z hz
    .have go:x=(d:Int)\/Sn sn x->x∈qu++[y]\/x=(c:Int)\/∀z,Dp s x z->Sn (aH sn y true) z:=fun g=>by
      rcases hR.clo x g with h|h|h
      .exact .inl (by simp[h])
      .exact .inr (.inl h)
      .exact .inr (.inr fun z hz=>(FF z).2 (.inr (h z hz)))
     rcases hx with hx|hx
     .exact go (.inl hx)
     .rcases(FF x).1 hx with rfl|hx
      .exact .inl (by simp)
      .exact go (.inr hx)
    .have:=hR.bud;simp;omega
    .exact(FF _).2 (.inr (hP j hj h))
    .exact(FF _).2 (.inl Uw.symm)
    .simp;omega
   .rw[<-Uw];exact⟨WZ.1,by rw[alV Po,ht]⟩
  .obtain rfl:k=l.length:=by omega
   show w6 _ _ _ _ (.inl _)
   refine⟨⟨hR.len,hR.qo,hR.snd,fun x hx=>?_,hR.bud⟩,?_⟩
   .rcases hR.clo x hx with h|h|h
    .exact .inl h
    .refine .inr (.inr fun y hy=>?_);rw[h]at hy;obtain⟨j,hj,e⟩:=amb ((QK y).2 hy);exact e▸hP j hj hj
    .exact .inr (.inr h)
   .show 2*sn.count false+qu.length<2*seen.count false+((c:Int)::t).length
    simp only[al9];omega
 .have N2:q=[]:=by
   cases q with
   |nil=>rfl
   |cons x t=>simp at h0
  subst N2;refine .some ?_
  show Wp _ _
  have Q6:∀y,Sn seen y↔FB (Dp s) (d:Int) y:=fun y=>⟨hq.snd y,fun h=>by
   have cl:∀x,(x=(d:Int)\/Sn seen x)->∀z,Dp s x z->Sn seen z:=fun x hx=>by
    rcases hq.clo x hx with h|h|h
    .cases h
    .exact h.elim
    .exact h
   induction h with
   |one h=>exact cl _ (.inl rfl) _ h
   |step _ g ih=>exact cl _ (.inr ih) _ g⟩
  have gJ:=hq.len
  refine Wp.count (fun s=>s.1) seen.length (fun k z=>z.2.length<=k/\∀y,y∈z.2↔Sn seen y/\y<(k:Int)) (by omega) rfl ⟨by simp,fun y=>⟨fun h=>(by cases h),fun h=>(by have:=h.1.1;have:=h.2;omega)⟩⟩ fun k z hk D3 hJ=>?_
  obtain⟨i,o⟩:=z;obtain⟨hJ1,hJ⟩:=hJ;dsimp only at D3 hJ1 hJ;subst D3;simp only[W_,implies_true,forall_const,reduceCtorEq,ba,aS];refine⟨fun aj=>?_,fun hge=>⟨by omega,fun y=>?_⟩⟩
  .have aj:k<seen.length:=by omega
   have yw:Sn seen (k:Int)↔seen[k]=true:=by
    unfold Sn;rw[al1,alV aj];simp
   simp only[ah aj,bV (m:=seen.length) (by omega) aj,W_,implies_true,forall_const,reduceCtorEq];refine⟨fun h=>nR.2 ⟨by simp;omega,aj,by simp;omega,fun y=>?_⟩,fun h=>⟨aj,by omega,fun y=>?_⟩⟩
   .rw[amf,ama,hJ];constructor
    .rintro(⟨h1,h2⟩|rfl)
     .exact⟨h1,by omega⟩
     .exact⟨yw.2 h,by omega⟩
    .rintro⟨h1,h2⟩
     by_cases e:y=(k:Int)
     .exact .inr e
     .exact .inl ⟨h1,by omega⟩
   .rw[hJ];refine⟨fun⟨h1,h2⟩=>⟨h1,by omega⟩,fun⟨h1,h2⟩=>⟨h1,?_⟩⟩
    have:y≠(k:Int):=fun e=>by
     rw[e,yw,h]at h1;cases h1
    omega
  .rw[hJ,<-Q6];refine⟨fun h=>h.1,fun h=>⟨h,?_⟩⟩;have:=(alW.1 h.2).1;have:=h.1;omega
theorem Jy.all(x:gw)(hs:iE x):Jy x:=fun d hd=>by
 have key:Wp (M.ig aB x (d:Int)) fun tr=>tr.length<=1000/\∀y,y∈tr↔FB (Dp x) (d:Int) y:=by
  unfold M.ig;rw[if_neg (by simp),alS,if_neg (by simp;omega),wp_bind]
  refine(sQ x hs).mono fun L hL=>?_
  rw[wp_bind]
  exact(FE x L hL d hd hs.2.2.1).mono fun r hr=> .some hr
 obtain⟨tr,e,h1,h2⟩:=key;exact⟨tr,e,h1,by rw[h2,vE]⟩
theorem vF(l:Lw)(hw:WF bU l)(kh:gZ l):M.gP aB l=some (ue l):=
 DC l hw kh (fun _ _=>mo.all _) fun x hx=>Jy.all x (kh.2.2.2.2.2 x hx)
end L
end Go.Proofs.YtmihpkfkbfgigaaGreatDoor
end
section
open _root_.List renaming length_eq_zero_iff->am1
open _root_.Option renaming bind_some->alS
namespace Go.Proofs.YtmihpkfkbfgigaaGreatDoor
open Go Go.RowKit
set_option maxRecDepth 100000
set_option linter.unusedSimpArgs false
namespace L
theorem DF(l:List ByteArray)(h:l.length<=1048576):M.cu aB l=some l:=by
 unfold M.cu;rw[bh (by simp;omega),List.nil_append,alS];split
 .rename_i h0;obtain rfl:=am1.1 (beq_true h0);exact ug
 .rfl
end L
end Go.Proofs.YtmihpkfkbfgigaaGreatDoor
end
section
open _root_.Classical renaming not_not->am2
open _root_.Int renaming eq_ofNat_of_zero_le->al8,toNat_natCast->al1
open _root_.List renaming getElem?_eq_getElem->alV,getElem_of_mem->amb
namespace Go.Proofs.YtmihpkfkbfgigaaGreatDoor
open Go Go.RowKit
set_option maxRecDepth 100000
set_option linter.unusedSimpArgs false
namespace L
theorem A9{t:yl}{E:List En}:(nU t E).2=0↔t.2.2.2.length<=64/\(jM t.2.1 E.length/\jM t.2.2.1 E.length)/\∀k,∀h:k<t.2.2.2.length,¬ou t.2.2.2[k] t E/\¬∃y∈t.2.2.2.take k,nG y t.2.2.2[k]:=by
 have LV:∀k e,rC t E k=some e->e.2≠0:=fun k e he=>by
  unfold rC at he;split at he
  .cases he
  split at he
  .cases he;simp
  split at he
  .cases he;simp
  .cases he
 unfold nU;by_cases h1:64<t.2.2.2.length
 .rw[if_pos h1]
  exact iff_of_false (by decide) fun g=>by omega
 rw[if_neg h1];by_cases h2:¬(jM t.2.1 E.length/\jM t.2.2.1 E.length)
 .rw[if_pos h2]
  exact iff_of_false (by decide) fun g=>h2 g.2.1
 rw[if_neg h2]
 have key:cy (rC t E) t.2.2.2.length=none↔∀k,∀h:k<t.2.2.2.length,¬ou t.2.2.2[k] t E/\¬∃y∈t.2.2.2.take k,nG y t.2.2.2[k]:=by
  rw[bH]
  refine forall_congr' fun k=>⟨fun g h=>?_,fun g h=>?_⟩
  .have:=g h;unfold rC at this;rw[alV h]at this;dsimp only at this;split at this
   .cases this
   split at this
   .cases this
   .exact⟨‹_›,‹_›⟩
  .unfold rC;rw[alV h];dsimp only;rw[if_neg (g h).1,if_neg (g h).2]
 cases hf:cy (rC t E) t.2.2.2.length with
 |none=>exact iff_of_true rfl ⟨by omega,am2.1 h2,key.1 hf⟩
 |some e=>
  obtain⟨k,_,he,_⟩:=fY hf
  exact iff_of_false (LV k e he) fun g=>by rw[key.2 g.2.2]at hf;cases hf
def mv(rules:List jK):Prop:=∀i,∀h:i<rules.length,(rules[i].2.2.1:Int)= -1\/∃p,∃hp:p<i,(rules[i].2.2.1:Int)=(p:Int)/\((rules[p]'(by omega)).2.1:Int)=rules[i].2.1
theorem vG{l:Lw}{x:gw}{k:Nat}{r:jK}:pP l x k r=0↔mq r.1=true/\¬fJ (x.2.2.2.2.take k) r.1/\(0<=(r.2.1:Int)/\(r.2.1:Int)<(x.2.2.2.1.length:Int))/\¬pO x k r/\
 ¬((r.2.2.2.1:Int)<0\/9<(r.2.2.2.1:Int)\/¬VR r.2.2.2.2.1\/(r.2.2.2.2.1.1:Int)=r.2.2.2.2.1.2)/\AY x k r.2.1<8/\plain r.2.2.2.2.2.2.2/\
 (0<r.2.2.2.2.2.1.length->rE r.2.2.2.2.2.1 (dt l x) ((1:Int),(0:Int))=0)/\(match x.2.2.2.1[(r.2.1:Int).toNat]? with
   |some d=>rE r.2.2.2.2.2.2.1 (dt l x) d.2
   |none=>0)=0:=by
 unfold pP;by_cases h1:mq r.1=false
 .rw[if_pos h1]
  exact iff_of_false (by decide) fun g=>by rw[h1]at g;cases g.1
 rw[if_neg h1];by_cases h2:fJ (x.2.2.2.2.take k) r.1
 .rw[if_pos h2]
  exact iff_of_false (by decide) fun g=>g.2.1 h2
 rw[if_neg h2];by_cases h3:0<=(r.2.1:Int)/\(r.2.1:Int)<(x.2.2.2.1.length:Int)
 case neg=>
  rw[if_pos h3]
  exact iff_of_false (by decide) fun g=>h3 g.2.2.1
 rw[if_neg (fun g=>g h3)];by_cases h4:pO x k r
 .rw[if_pos h4]
  exact iff_of_false (by decide) fun g=>g.2.2.2.1 h4
 rw[if_neg h4];by_cases h5:(r.2.2.2.1:Int)<0\/9<(r.2.2.2.1:Int)\/¬VR r.2.2.2.2.1\/(r.2.2.2.2.1.1:Int)=r.2.2.2.2.1.2
 .rw[if_pos h5]
  exact iff_of_false (by decide) fun g=>g.2.2.2.2.1 h5
 rw[if_neg h5];by_cases h6:8<=AY x k r.2.1
 .rw[if_pos h6]
  exact iff_of_false (by decide) fun g=>by have:=g.2.2.2.2.2.1;omega
 rw[if_neg h6];by_cases h7:plain r.2.2.2.2.2.2.2
 case neg=>
  rw[if_pos h7]
  exact iff_of_false (by decide) fun g=>h7 g.2.2.2.2.2.2.1
 rw[if_neg (fun g=>g h7)];by_cases h8:0<r.2.2.2.2.2.1.length/\rE r.2.2.2.2.2.1 (dt l x) ((1:Int),(0:Int))≠0
 .rw[if_pos h8]
  exact iff_of_false h8.2 fun g=>h8.2 (g.2.2.2.2.2.2.2.1 h8.1)
 rw[if_neg h8];exact⟨fun g=>⟨by simpa using h1,h2,h3,h4,h5,by omega,h7,fun a=>am2.1 fun b=>h8 ⟨a,b⟩,g⟩,fun g=>g.2.2.2.2.2.2.2.2⟩
theorem FG{l:Lw}{x:gw}(h:∀i,∀hi:i<x.2.2.2.2.length,pP l x i x.2.2.2.2[i]=0):mv x.2.2.2.2:=fun i hi=>by
 have hb:=(vG.1 (h i hi)).2.2.2.1;unfold pO at hb;generalize x.2.2.2.2[i]=r at*;obtain⟨nm,(df:Int),(p:Int),z⟩:=r;dsimp only[ae,Row.den]at*;by_cases h1:p= -1
 .exact .inl h1
 right
 have h2:0<=p:=am2.1 fun g=>hb ⟨h1, .inl (by omega)⟩
 have h3:p<(i:Int):=am2.1 fun g=>hb ⟨h1, .inr (.inl (by omega))⟩
 obtain⟨q,rfl⟩:=al8 h2;have hq:q<i:=Int.ofNat_lt.1 h3;refine⟨q,hq,rfl,am2.1 fun g=>hb ⟨h1, .inr (.inr ⟨_,?_,g⟩)⟩⟩;rw[al1];exact alV (by omega)
theorem Valid.adV{l:Lw}(h:Valid l)(kh:gZ l):Py l:=by
 obtain⟨a1,a2,a3,a4,a5,a6⟩:=h.scopes;obtain⟨b1,b2,b3,b4,b5,b6⟩:=kh;refine⟨fun e he=>?_,fun t ht=>?_,fun s hs r hr=>?_,by omega,by omega,by omega,fun s hs=>?_⟩
 .have:=(b4 e he).2.1;omega
 .obtain⟨k,hk,rfl⟩:=amb ht;have:=a5 k hk;unfold pc at this;rw[alV hk]at this;dsimp only at this;split at this
  .cases this
  split at this
  .cases this
  split at this
  case isFalse=>cases this
  rename_i h0;have:=(A9.1 h0).1;omega
 .have:=(b6 s hs).2.2.2.2.2.2 r hr;omega
 .have h1:=(b6 s hs).2.1;have h2:=(b6 s hs).2.2.1;have h3:=(b6 s hs).2.2.2.1;omega
end L
end Go.Proofs.YtmihpkfkbfgigaaGreatDoor
end
