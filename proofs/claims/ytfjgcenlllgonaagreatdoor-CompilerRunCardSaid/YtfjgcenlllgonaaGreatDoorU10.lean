/- Joined texts: RU RV KV PS PM PY PX7 PM5 PY3. -/
import Derived.Test.YtfjgcenlllgonaaGreatDoorU9
import Derived.Test.YtfjgcenlllgonaaGreatDoorU8
open _root_.Bool renaming false->ah,true->af,false_eq_true->aqM
open _root_.Option renaming none->ae,some->aa,bind_some->aqI,map_eq_some_iff->arH,getD_some->arn
open _root_.Classical renaming not_not->arX
open _root_.Go.Lib renaming indexByte->ar0
open _root_.Go.IntKind renaming i64->aqJ
open _root_.List renaming getElem?_eq_getElem->aqK,getElem_mem->aqN,getElem_of_mem->aqZ,length_take->aq9,drop_eq_getElem_cons->aq6,getElem_append_left->aqX,getElem_append_right->are,length_map->arb,replicate->aqO,take_length->ara,getD->arm,append_assoc->ard,length_append->aqT,length_singleton->aq8,getD_cons_succ->ar4,getD_cons_zero->ar3,getElem?_append_right->arD,getElem?_eq_some_iff->aqQ,length_cons->arh,mem_cons->arw
open _root_.Nat renaming le_of_lt->asb,le_refl->aqS,zero_add->arl,zero_le->aq2
open _root_.Sum renaming inl->arj,inr->arc
open _root_.Int renaming eq_ofNat_of_zero_le->aqV,tdiv->aqW,tmod->aqY,toNat_natCast->aqR,tdiv_eq_ediv_of_nonneg->aq0,le_refl->arO
open _root_.Option.some renaming inj->aqL
namespace Go.Proofs.YtfjgcenlllgonaaGreatDoor
open Go Go.RowKit
set_option maxRecDepth 100000
set_option linter.unusedSimpArgs false
set_option linter.unusedVariables false
set_option linter.defProp false
namespace L
noncomputable def AJ:List ByteArray:=(M.jy aJ).getD []
def U0:M.jy aJ=aa AJ:=by kernel_rfl
def Ri:AJ.length<=100:=by unfold AJ;decide+kernel
def Wd(c:Int):Prop:=(97<=c/\c<=122)\/(48<=c/\c<=57)\/c=95
def IdS(s:ByteArray):Prop:=s.size<=16/\(∃h:0<s.size,97<=s[0].toNat/\s[0].toNat<=122)/\(∀k,∀h:k<s.size,Wd (s[k].toNat:Int))/\s∉AJ
theorem Rj(s:ByteArray):mP s=af↔IdS s:=by
 have key:Wp (M.cy aJ s) λr=>r=af↔IdS s:=by
  have hl:=Ri;unfold M.cy;simp only[AB,Lc,U0,W_,aw,ax,reduceCtorEq];refine⟨λh=>?_,λh0=>⟨λh=>?_,λZh=>?_⟩⟩
  .exact aA id λg=>by obtain⟨_,⟨g,_⟩,_⟩:=g;omega
  .exact aA id λg=>by have:=g.1;omega
  refine qv.2 ⟨by omega,?_⟩;have e0:((0:Int).toNat)=0:=rfl;simp only[e0];refine⟨λh=>aA id λg=>?_,λAp=>?_⟩
  .obtain⟨_,⟨_,g⟩,_⟩:=g;grind
  refine Wp.count (λs=>s) s.size (λk _=>∀j,j<k->∀h:j<s.size,Wd (s[j].toNat:Int)) (by omega) rfl (λj hj=>by omega) λk c hk hs hJ=>?_
  obtain rfl:c=_:=hs;simp only[W_,aw,ax,reduceCtorEq,aS,aR];refine⟨λaI=>qv.2 ⟨by omega,?_⟩,λhge=>?_⟩
  .have aI:k<s.size:=by omega
   have ek:((k:Int).toNat)=k:=by omega
   simp only[ek];exact⟨λh=>aA id λg=>h (g.2.2.1 k aI),λh=>⟨aI,aU (by omega),eI hJ λ_=>h⟩⟩
  refine Wp.count (λs=>s) AJ.length (λk _=>∀j,j<k->∀h:j<AJ.length,AJ[j]≠s) (by omega) rfl (λj hj=>by omega) λi c hi hs hI=>?_
  obtain rfl:c=_:=hs;simp only[W_,aw,ax,reduceCtorEq,aS,aR];refine⟨λaI=>?_,λanW=>?_⟩
  .have aI:i<AJ.length:=by omega
   simp only[aF aI,bF (m:=AJ.length) (by omega) aI,W_,aw,ax,reduceCtorEq];exact⟨λh=>aA id λg=>g.2.2.2 (h▸aqN aI),(by grind)⟩
  .refine iff_of_true trivial ⟨by omega,⟨by omega,by omega⟩,λj h=>hJ j (by omega) h,λhm=>?_⟩
   grind [aqZ]
 obtain⟨r,hr,h⟩:=key;unfold mP
 grind
def xG(s:ByteArray):List ByteArray->Option Bool
 |[]=>aa ah
 |[w]=>aa (decide (s=w))
 |w::l=>if decide (s=w)=af then aa (decide (s=w))else xG s l
theorem CO(s:ByteArray):(l:List ByteArray)->xG s l=aa (decide (s∈l))
 |[]=>by simp[xG]
 |[w]=>by simp[xG]
 |w::w'::l=>by
  unfold xG;rw[CO s (w'::l)]
  grind
def Ha(s:ByteArray):M.m8 aJ s=aa (decide (s∈AJ)):=by
 have:M.m8 aJ s=(xG s AJ).bind λj=>if j=af then aa af else aa ah:=by kernel_rfl
 grind [CO]
def CP(c:Int):M.mj aJ c=aa (decide (97<=c/\c<=122)):=by
 apply Wp.eq;unfold M.mj;simp only[W_,aw,ax,reduceCtorEq];omega
def NL(c:Int):M.oq aJ c=aa (decide (48<=c/\c<=57)):=by
 apply Wp.eq;unfold M.oq;simp only[W_,aw,ax,reduceCtorEq];omega
def BI(s:ByteArray)(hs:s.size<=maxLen):Wp (M.ll aJ s) λn=>n=(s.size:Int)↔∀k,∀h:k<s.size,Wd (s[k].toNat:Int):=by
 unfold M.ll;simp only[CP,NL]
 refine Wp.count (λs=>s) s.size (λk _=>∀j,j<k->∀h:j<s.size,Wd (s[j].toNat:Int)) hs rfl (λj hj=>by omega) λk c hk wO hJ=>?_
 obtain rfl:c=_:=wO
 rcases Nat.lt_or_ge k s.size with aI|hge
 .have hb:lP s (k:Int)=aa (s[k].toNat:Int):=by
   have:=(QD (x:=((s[k].toNat:Nat):Int))).1 (qv (s:=s) (i:=(k:Int)).2 ⟨by omega,by simp⟩);exact this
  simp only[sZ aI,hb,bF hs aI,W_,aw,ax,reduceCtorEq,aS,aR];unfold Wd at*
  have ok:(97<=(s[k].toNat:Int)/\(s[k].toNat:Int)<=122)\/(48<=(s[k].toNat:Int)/\(s[k].toNat:Int)<=57)\/(s[k].toNat:Int)=95->k<s.size/\∀j,j<k+1->∀h:j<s.size,(97<=(s[j].toNat:Int)/\(s[j].toNat:Int)<=122)\/(48<=(s[j].toNat:Int)/\(s[j].toNat:Int)<=57)\/(s[j].toNat:Int)=95:=λh=>⟨aI,eI hJ λ_=>h⟩
  grind
 .obtain rfl:k=s.size:=by omega
  simp only[jD,W_,aw,ax,reduceCtorEq,aR]
  grind
def xH(s:ByteArray)(hs:s.size<=maxLen):M.cR aJ s=aa (mP s):=by
 have key:Wp (M.cR aJ s) λr=>r=af↔IdS s:=by
  unfold M.cR;simp only[CP,Ha,W_,aw,ax,reduceCtorEq];refine⟨λh=>?_,λh=>?_⟩
  .have h0:0<s.size:=by
    rcases Nat.eq_zero_or_pos s.size with e|e
    .exact absurd (ByteArray.ext (by simp_all)) h
    .exact e
   refine qv.2 ⟨by omega,?_⟩;have e0:((0:Int).toNat)=0:=rfl;simp only[e0];refine⟨λAp=>(BI s hs).mono λn hn=>⟨λe=>⟨λZh=>?_,λZh=>aA id λg=>Zh (by have:=g.1;omega)⟩,λe=>aA id λg=>e (hn.2 g.2.2.1)⟩,λAp=>aA id λg=>?_⟩
   .exact⟨λg=>⟨by omega,⟨h0,by omega⟩,hn.1 e,g⟩,λg=>g.2.2.2⟩
   .obtain⟨_,⟨_,g⟩,_⟩:=g;grind
  .refine aA id λg=>?_
   obtain⟨_,⟨g,_⟩,_⟩:=g;subst h;cases g
 obtain⟨r,hr,h⟩:=key
 grind [Rj]
theorem tz{β:Type}{l:List (ByteArray×β)}{nm:ByteArray}:0<=iz (λx=>decide (x.1=nm)) l↔fh l nm:=by
 rw[qB];unfold fh;simp
def vp(l:List En)(nm:ByteArray)(hl:l.length<=maxLen):M.kS aJ l nm=aa (decide (fh l nm)):=by
 have:M.bU aJ l nm=aa (iz (λx=>decide (x.1=nm)) l,nm):=by
  unfold M.bU M.m9;exact AI hl (λk h=>by simp only[aF h,jm h,aqI,if_true]) (by grind)
 grind [M.kS,M.cA,tz]
def yk(l:List JD)(nm:ByteArray)(hl:l.length<=maxLen):M.lm aJ l nm=aa (decide (fh l nm)):=by
 have:M.bO aJ l nm=aa (iz (λx=>decide (x.1=nm)) l,nm):=by
  unfold M.bO M.mL;exact AI hl (λk h=>by simp only[aF h,jm h,aqI,if_true]) (by grind)
 grind [M.lm,M.cu,tz]
def wA(l:List Fd)(f:Fd)(hl:l.length<=maxLen):M.bp aJ l f=aa (decide (fh l f.1),f):=by
 have:M.bP aJ l f=aa (iz (λx=>decide (x.1=f.1)) l,f):=by
  unfold M.bP M.kU;exact AI hl (λk h=>by simp only[aF h,jm h,aqI,if_true]) (by grind)
 grind [M.bp,tz]
def Hb(l:List jV)(f:jV)(hl:l.length<=maxLen):M.bM aJ l f=aa (decide (fh l f.1),f):=by
 have:M.bV aJ l f=aa (iz (λx=>decide (x.1=f.1)) l,f):=by
  unfold M.bV M.lY;exact AI hl (λk h=>by simp only[aF h,jm h,aqI,if_true]) (by grind)
 grind [M.bM,tz]
def Ea(l:List iV)(f:iV)(hl:l.length<=maxLen):M.bq aJ l f=aa (decide (fh l f.1),f):=by
 have:M.bQ aJ l f=aa (iz (λx=>decide (x.1=f.1)) l,f):=by
  unfold M.bQ M.kX;exact AI hl (λk h=>by simp only[aF h,jm h,aqI,if_true]) (by grind)
 grind [M.bq,tz]
def JJ(l:List ByteArray)(m:ByteArray)(hl:l.length<=maxLen):M.eA aJ l m=aa (decide (m∈l)):=by
 have:M.fk aJ l m=aa (iz (λx=>decide (m=x)) l):=by
  unfold M.fk;exact D9 hl (λk h=>by simp only[aF h,jm h,aqI,if_true]) (by grind)
 grind [M.eA,qB]
def JK(l:List Int)(m:Int)(hl:l.length<=maxLen):M.gp aJ l m=aa (decide (m∈l)):=by
 have:M.iP aJ l m=aa (iz (λx=>decide (m=x)) l):=by
  unfold M.iP;exact D9 hl (λk h=>by simp only[aF h,jm h,aqI,if_true]) (by grind)
 grind [M.gp,qB]
def oV{α:Type}{l:List α}{k:Nat}(h:k<=l.length):gD l (0:Int) (k:Int)=aa (l.take k):=by
 apply Wp.eq;exact wp_cut.2 ⟨by omega,by simp⟩
def Eb(l:Lw)(hw:WF cC l)(k:Nat)(hk:k<l.1.length):M.ot aJ l (k:Int) l.1[k]=aa ((pk l k).getD (0,0)):=by
 have hx:WF b9 l.1[k]:=hw.1.2 _ (aqN hk);have w1:=hw.1.1;have hs:l.1[k].1.size<=maxLen:=hx.1;have hm:∀m∈l.1[k].2,ByteArray.size m<=maxLen:=hx.2.2;apply Wp.eq;unfold M.ot pk;rw[aqK hk];simp only[xH _ hs,oV (asb hk),vp (l.1.take k) _ (by grind),W_,aw,ax,reduceCtorEq];generalize l.1[k]=x at*;refine⟨λh=>by grind,λh=>?_⟩;rw[aj (by simp[h])];refine⟨λh=>by grind,λh2=>?_⟩;rw[aj h2];refine⟨λh=>by grind,λh3=>?_⟩;rw[aj (by omega)];refine⟨λh=>by grind,λh4=>?_⟩;rw[aj (by omega)]
 refine Wp.count (λs=>s) x.2.length (λi _=>∀j,j<i->D6 x.2 j=ae) (by omega) rfl (λj hj=>by omega) λi c hi hs hJ=>?_
 obtain rfl:c=_:=hs;simp only[W_,aw,ax,reduceCtorEq,aS,aR];refine⟨λaI=>?_,λhge=>?_⟩
 .have aI:i<x.2.length:=by omega
  have hf:D6 x.2 i=if mP x.2[i]=ah then aa (2,100+(i:Int))else if x.2[i]∈x.2.take i then aa (7,100+(i:Int))else ae:=by
   unfold D6;rw[aqK aI]
  simp only[aF aI,xH _ (hm _ (aqN aI)),oV (asb aI),JJ (x.2.take i) _ (by rw[aq9];unfold maxLen;omega),oE (k:=i) (a:=100) (by omega) (by omega),bF (m:=x.2.length) (by omega) aI,W_,aw,ax,reduceCtorEq];refine⟨λh=>?_,λh=>⟨λh2=>?_,λh2=>⟨aI,eI hJ ?_⟩⟩⟩
  all_goals grind [dh]
 grind [bZ]
def BJ(l:Lw)(hw:WF cC l):M.nf aJ l=aa (if 8<l.1.length then((4:Int),((1:Int),((8:Int),(0:Int))))else match dp (λk=>(pk l k).map λe=>(k,e)) l.1.length with
 |some (k,e)=>nW 1 (k:Int) (aa e)
 |none=>UP):=by
 have w1:=hw.1.1;unfold maxLen at w1;apply Wp.eq;unfold M.nf;simp only[W_,aw,ax,reduceCtorEq];refine⟨λh=>by grind,λh8=>?_⟩;rw[aj (by omega)]
 refine Wp.count (λs=>s) l.1.length (λi _=>∀j,j<i->(λk=>(pk l k).map λe=>(k,e)) j=ae) w1 rfl (λj hj=>by omega) λi c hi hs hJ=>?_
 obtain rfl:c=_:=hs;simp only[W_,aw,ax,reduceCtorEq,aS,aR];refine⟨λaI=>?_,λhge=>?_⟩
 .have aI:i<l.1.length:=by omega
  simp only[aF aI,Eb l hw i aI,bF w1 aI,W_,aw,ax,reduceCtorEq];refine⟨λh=>?_,λh=>⟨aI,eI hJ ?_⟩⟩
  .cases he:pk l i with
   |none=>grind
   |some e=>rw[dh (NK he) hJ aI];rfl
  .cases he:pk l i with
   |none=>rfl
   |some e=>grind [uw]
 .rw[bZ.2 λj hj=>hJ j (by omega)];rfl
theorem r8(t:Ty)(E:List En):M.cY aJ t E=aa (decide (mH t E.length)):=by
 obtain⟨(k:Int),(e:Int)⟩:=t;apply Wp.eq;unfold M.cY;simp only[W_,aw,ax,reduceCtorEq];simp only[mH];dsimp only[aC,Row.den]at*;omega
def ze(t:Ty)(E:List En):M.iN aJ t E=aa (I6 t E):=by
 obtain⟨(k:Int),(e:Int)⟩:=t;apply Wp.eq;unfold M.iN I6;simp only[r8,W_,aw,ax,reduceCtorEq];by_cases hv:mH (k,e) E.length
 .simp only[hv,not_true_eq_false,if_false,false_implies,true_implies,true_and];refine⟨λh=>by rw[al h],λh1=>⟨λh=>by rw[aj h1,al h],λh2=>⟨λh=>by rw[aj h1,aj h2,al h],λh3=>⟨λh=>by rw[aj h1,aj h2,aj h3,al h],λh4=>⟨(by grind),λh5=>?_⟩⟩⟩⟩⟩;simp only[mH]at hv;dsimp only[aC,Row.den]at*
  have hi:e.toNat<E.length:=by omega
  refine eZ.2 ⟨by omega,?_⟩
  grind
 grind
def Ec(r:Ty):M.fE aJ r=aa (decide (VR r)):=by
 obtain⟨(k:Int),(e:Int)⟩:=r;apply Wp.eq;unfold M.fE;simp only[W_,aw,ax,reduceCtorEq];simp only[VR];grind
def NM(a b:Rw):M.nh aJ a b=aa (decide (qy a b)):=by
 obtain⟨⟨(a1:Int),(a2:Int)⟩,(a3:Int),(a4:Int),(a5:Int)⟩:=a;obtain⟨⟨(b1:Int),(b2:Int)⟩,(b3:Int),(b4:Int),(b5:Int)⟩:=b;apply Wp.eq;unfold M.nh M.lW M.kB;simp only[Ec,W_,aw,ax,reduceCtorEq];simp only[qy];dsimp only[aC,Row.den]at*
 by_cases h1:VR (a1,a2)<;>by_cases h2:VR (b1,b2)<;>simp only[h1,h2,W_,aw,ax,reduceCtorEq]<;>omega
def Rk(l:List Rw)(x:Rw)(hl:l.length<=maxLen):Wp (M.c9 aJ l x) λr=>r.2.1=af↔∃y∈l,qy y x:=by
 unfold M.c9 M.kT
 refine Wp.count (λs=>s.1) l.length (λk s=>s.2=x/\∀j,j<k->∀h:j<l.length,¬qy l[j] x) hl rfl ⟨rfl,λj hj=>by omega⟩ λk c hk hs hJ=>?_
 obtain⟨c1,c2⟩:=c;obtain⟨h1,hJ⟩:=hJ;obtain rfl:c2=x:=h1;obtain rfl:c1=_:=hs;simp only[NM,W_,aw,ax,reduceCtorEq,aS,aR];refine⟨λaI=>?_,λhge=>?_⟩
 .have aI:k<l.length:=by omega
  simp only[aF aI,bF hl aI,W_,aw,ax,reduceCtorEq]
  grind
 .refine aA id ?_
  grind [aqZ]
def U1(t:JD)(E:List En):M.ni aJ t E=aa (og t E):=by
 apply Wp.eq;unfold M.ni og;simp only[r8,ze,Ec,W_,aw,ax,reduceCtorEq];refine⟨λh=>by grind,λh64=>?_⟩;rw[aj (c:=64<t.2.2.2.length) (by omega)];refine⟨λh1=>by rw[al (λg=>h1 g.1)],λh1=>⟨(by grind),λh2=>?_⟩⟩;rw[aj (λg=>g ⟨h1,h2⟩)]
 refine Wp.count (λs=>s) t.2.2.2.length (λk _=>∀j,j<k->qK t E j=ae) (by omega) rfl (λj hj=>by omega) λk s hk hs hJ=>?_
 obtain rfl:s=_:=hs;simp only[W_,aw,ax,reduceCtorEq,aS,aR];refine⟨λaI=>?_,λhge=>?_⟩
 .have aI:k<t.2.2.2.length:=by omega
  have hf:qK t E k=if sr t.2.2.2[k] t E then aa ((k:Int),3)else if∃y∈t.2.2.2.take k,qy y t.2.2.2[k]then aa ((k:Int),11)else ae:=by
   unfold qK;rw[aqK aI]
  have bad:sr t.2.2.2[k] t E->((k:Int),(3:Int))=(dp (qK t E) t.2.2.2.length).getD (0,0):=λhw=>by
   grind [dh]
  have Ed:¬sr t.2.2.2[k] t E->Wp (M.c9 aJ (t.2.2.2.take k) t.2.2.2[k]) λy=>(y.2.1=af->((k:Int),(11:Int))=(dp (qK t E) t.2.2.2.length).getD (0,0))/\(y.2.1=ah->k<t.2.2.2.length/\∀j,j<k+1->qK t E j=ae):=λhw=>by
   rw[aj hw]at hf
   refine(Rk _ _ (by rw[aq9];unfold maxLen;omega)).mono λy hy=>⟨λh=>?_,λh=>⟨aI,eI hJ ?_⟩⟩
   all_goals grind [dh]
  simp only[aF aI,oV (asb aI),bF (m:=t.2.2.2.length) (by omega) aI,W_,aw,ax,reduceCtorEq];unfold sr at bad Ed;unfold D4 at bad Ed
  grind
 grind [bZ]
def Rm{t:JD}{E:List En}:(og t E).2≠0->((og t E).1= -1\/(0<=(og t E).1/\(og t E).1<=64)):=by
 unfold og;intro h;split
 .grind
 split
 .exact .inl rfl
 rename_i h1 h2
 cases hf:dp (qK t E) t.2.2.2.length with
 |none=>grind
 |some e=>
  obtain⟨k,hk,he,_⟩:=gS hf;unfold qK at he;split at he
  .cases he
  split at he
  .grind
  split at he
  all_goals grind
def AK(l:Lw)(hw:WF cC l):M.mz aJ l=aa (if 8<l.2.1.length then((4:Int),((2:Int),((8:Int),(0:Int))))else match dp (λk=>(rY l k).map λe=>(k,e)) l.2.1.length with
 |some (k,e)=>nW 2 (k:Int) (aa e)
 |none=>UP):=by
 have w1:=hw.2.1.1;have w0:=hw.1.1;have wt:∀t∈l.2.1,WF aP t:=hw.2.1.2;unfold maxLen at w1;apply Wp.eq;unfold M.mz;simp only[W_,aw,ax,reduceCtorEq];refine⟨λh=>by grind,λh8=>?_⟩;rw[aj (by omega)]
 refine Wp.count (λs=>s) l.2.1.length (λi _=>∀j,j<i->(λk=>(rY l k).map λe=>(k,e)) j=ae) w1 rfl (λj hj=>by omega) λi c hi hs hJ=>?_
 obtain rfl:c=_:=hs;simp only[W_,aw,ax,reduceCtorEq,aS,aR];refine⟨λaI=>?_,λhge=>?_⟩
 .have aI:i<l.2.1.length:=by omega
  have p9:l.2.1[i].1.size<=maxLen:=(wt _ (aqN aI)).1
  have hE:rY l i=if mP l.2.1[i].1=ah then aa (2,0)else if fh l.1 l.2.1[i].1\/fh (l.2.1.take i) l.2.1[i].1 then aa (7,0)else if(og l.2.1[i] l.1).2=0 then ae else aa ((og l.2.1[i] l.1).2,if 0<=(og l.2.1[i] l.1).1 then 100+(og l.2.1[i] l.1).1 else 0):=by
   unfold rY;rw[aqK aI]
  simp only[aF aI,U1,xH _ p9,oV (asb aI),vp _ _ w0,yk (l.2.1.take i) _ (by rw[aq9];unfold maxLen;omega),bF w1 aI,W_,aw,ax,reduceCtorEq]
  have bad:∀e,rY l i=aa e->nW 2 (i:Int) (aa e)=(match dp (λk=>(rY l k).map λe=>(k,e)) l.2.1.length with|some (k,e)=>nW 2 (k:Int) (aa e)|none=>UP):=λe he=>by
   rw[dh (NK he) hJ aI]
  have Ed:rY l i=ae->i<l.2.1.length/\∀j,j<i+1->(λk=>(rY l k).map λe=>(k,e)) j=ae:=(by grind)
  have Qr:=Rm (t:=l.2.1[i]) (E:=l.1);generalize og l.2.1[i] l.1=te at*;obtain⟨(r:Int),(c:Int)⟩:=te;dsimp only at*;refine⟨λh=>?_,λh=>⟨λh2=>?_,λh2=>⟨λh3=>?_,λh3=>⟨λh4=>?_,λh4=>?_⟩⟩⟩⟩
  .exact⟨λ_=>bad (2,0) (hE.trans (al h)),λg=>absurd g (by decide)⟩
  .rw[aj (c:=mP l.2.1[i].1=ah) (by simp[h]),al (Or.inl h2)]at hE;exact⟨λ_=>bad (7,0) hE,λg=>absurd g (by decide)⟩
  .rw[aj (c:=mP l.2.1[i].1=ah) (by simp[h]),al (Or.inr h3)]at hE;exact⟨λ_=>bad (7,0) hE,λg=>absurd g (by decide)⟩
  .rw[aj (c:=mP l.2.1[i].1=ah) (by simp[h]),aj (λg=>g.elim h2 h3),aj h4]at hE;have hr:=Qr h4;refine⟨λg=>⟨λ_=>?_,λe=>absurd e h4⟩,λg=>⟨λ_=>?_,λe=>absurd e h4⟩⟩
   .rw[aH (by omega) (by omega)];exact bad (c,100+r) (hE.trans (by grind))
   .exact bad (c,0) (hE.trans (by grind))
  grind
 .rw[bZ.2 λj hj=>hJ j (by omega)];rfl
noncomputable def tA(l:Lw)(f:Fd)(a b:List Fd):Int:=if mP f.1=ah then 2 else if fh a f.1\/fh b f.1 then 7 else if¬mH f.2 l.1.length then 8 else 0
def uM(l:Lw)(f:Fd)(a b:List Fd)(hf:f.1.size<=maxLen)(ha:a.length<=maxLen)(hb:b.length<=maxLen):M.kV aJ l f a b=aa (tA l f a b):=by
 apply Wp.eq;unfold M.kV;simp only[xH _ hf,wA _ _ ha,wA _ _ hb,r8,W_,aw,ax,reduceCtorEq]
 grind [tA]
def Ee(l:List UInt8)(c:UInt8):0<=ar0 l c↔c∈l:=by
 induction l with
 |nil=>simp[ar0]
 |cons b l ih=>
  have hg:=Go.Lib.indexByte_ge l c;unfold ar0
  grind
def AL(s:ByteArray)(_:s.size<=maxLen):M.mA aJ s=aa (decide (plain s)):=by
 have hc:M.strings_Contains aJ s (⟨#[34]⟩:ByteArray)=aa (decide (0<=ar0 s.data.toList 34)):=rfl
 have eJ:0<=ar0 s.data.toList 34↔∃i,∃h:i<s.size,(s[i].toNat:Int)=34:=by
  rw[Ee];constructor
  .intro h;obtain⟨i,hi,e⟩:=aqZ h;refine⟨i,by simpa using hi,?_⟩
   have:s[i]'(by simpa using hi)=34:=by
    have e:s.data[i]'(by simpa using hi)=34:=by simpa using e
    exact e
   rw[this];rfl
  .rintro⟨i,hi,e⟩
   have e2:s[i]=34:=by
    apply UInt8.toNat_inj.1
    show s[i].toNat=34
    omega
   have:(34:UInt8)=s.data.toList[i]'(by simpa using hi):=by rw[<-e2];simp;rfl
   grind
 apply Wp.eq;unfold M.mA;simp only[hc,W_,aw,ax,reduceCtorEq];refine⟨λh=>?_,λh64=>⟨λh=>?_,λIa=>?_⟩⟩
 .grind [plain]
 .grind [plain]
 refine Wp.count (λs=>s) s.size (λi _=>∀j,j<i->∀h:j<s.size,32<=(s[j].toNat:Int)/\(s[j].toNat:Int)<=126) (by omega) rfl (λj hj=>by omega) λi c hi hs hJ=>?_
 obtain rfl:c=_:=hs
 rcases Nat.lt_or_ge i s.size with aI|hge
 .have hb:lP s (i:Int)=aa (s[i].toNat:Int):=by
   have:=(QD (x:=((s[i].toNat:Nat):Int))).1 (qv (s:=s) (i:=(i:Int)).2 ⟨by omega,by simp⟩);exact this
  simp only[sZ aI,hb,bF (m:=s.size) (by omega) aI,W_,aw,ax,reduceCtorEq,aS,aR];refine⟨λh=>?_,λh=>⟨λh2=>?_,λh2=>⟨aI,eI hJ λ_=>by omega⟩⟩⟩
  all_goals grind [plain]
 .obtain rfl:i=s.size:=by omega
  simp only[jD,W_,aw,ax,reduceCtorEq,aR];refine(⟨λi hi=>?_,by omega⟩:plain s)
  grind
def oW(sg:uB):Prop:=∀e:List Ty,(∀n∈e,WF aD n)->M.iO aJ e sg=aa (G0 e sg)
def pF{sg:uB}(hT:oW sg){e:List Ty}(want:Ty)(hw:∀n∈e,WF aD n):M.iY aJ e sg want=aa (rZ e sg want):=by
 apply Wp.eq;unfold M.iY;simp only[hT e hw,CL,W_,aw,ax,reduceCtorEq]
 grind [rZ]
def Ef(l:Lw)(x:iV)(hw:WF bg x)(lU:jW x)(hT:oW (dR l x))(k:Nat)(hk:k<x.2.2.2.2.length):M.mn aJ x (k:Int) (dR l x)=aa (r7 l x k x.2.2.2.2[k]):=by
 have G6:=hw.2.2.2.2.2 _ (aqN hk);have HY:=lU.2.2.2.2.2.2 _ (aqN hk)
 obtain⟨r,hr⟩:∃r,r=x.2.2.2.2[k]:=⟨_,rfl⟩
 have UX:=lU.2.2.2.1
 have U2:Wp (Loop (S:=Int×Int) (X:=Int) (λs4=>
  (if(decide (s4.2<((x.2.2.2.2.take k).length:Int)))=af then
  ((idx (x.2.2.2.2.take k) s4.2).bind λx6=>
  (if(decide ((x6.2.1:Int)=r.2.1))=af then
  some (aqJ.wrap (s4.1+(1:Int)))
  else
  some s4.1):Option (Int)).bind λj5=>
  some (arj (j5,aqJ.wrap (s4.2+(1:Int))))
  else
  some (arc s4.1))) aJ ((0:Int),(0:Int))) λn=>n=(D7 x k r.2.1:Int):=by
  have NH:(x.2.2.2.2.take k).length=k:=by rw[aq9];omega
  refine Wp.count (λs=>s.2) k (λj s=>s.1=(((x.2.2.2.2.take j).countP λr'=>decide ((r'.2.1:Int)=r.2.1):Nat):Int)) (by omega) rfl rfl λj s hj hs UC=>?_
  obtain⟨sb,c⟩:=s;dsimp only at hs UC;subst hs;rw[NH];have Ac:(x.2.2.2.2.take j).countP (λr'=>decide ((r'.2.1:Int)=r.2.1))<=60:=Nat.le_trans List.countP_le_length (by rw[aq9];omega);simp only[W_,aw,ax,reduceCtorEq,aS,aR];refine⟨λS7=>?_,λS7=>?_⟩
  .have xc:j<x.2.2.2.2.length:=by omega
   have Zk:j<(x.2.2.2.2.take k).length:=by omega
   simp only[aF Zk,List.getElem_take,bF (m:=k) (by omega) (show j<k by omega),W_,aw,ax,reduceCtorEq]
   have Xl:(x.2.2.2.2.take (j+1)).countP (λr'=>decide ((r'.2.1:Int)=r.2.1))=(x.2.2.2.2.take j).countP (λr'=>decide ((r'.2.1:Int)=r.2.1))+if(x.2.2.2.2[j].2.1:Int)=r.2.1 then 1 else 0:=by
    rw[<-List.take_append_getElem xc,List.countP_append];simp[List.countP_cons]
   refine⟨λh'=>⟨by omega,?_⟩,λh'=>⟨by omega,?_⟩⟩
   .rw[Xl,al h',UC,aH (by omega) (by omega)];rfl
   .rw[Xl,aj h',UC];rfl
  .obtain rfl:j=k:=by omega
   exact UC
 apply Wp.eq;unfold M.mn;rw[<-hr];have p9:r.1.size<=maxLen:=(hr▸G6).1
 have aiy:r.2.2.2.2.2.2.2.size<=maxLen:=by
  have:=(hr▸HY).2.1;unfold maxLen;omega
 have Ac:D7 x k r.2.1<=60:=Nat.le_trans List.countP_le_length (by rw[aq9];omega);have hg:∀n∈r.2.2.2.2.2.1,WF aD n:=(hr▸G6).2.2.2.2.2.1.2;have hv:∀n∈r.2.2.2.2.2.2.1,WF aD n:=(hr▸G6).2.2.2.2.2.2.1.2;have OG:r6 x k r↔(r.2.2.1:Int)≠-1/\((r.2.2.1:Int)<0\/(k:Int)<=r.2.2.1\/∃y,x.2.2.2.2[(r.2.2.1:Int).toNat]? =aa y/\(y.2.1:Int)≠r.2.1):=Iff.rfl;simp only[aF hk,<-hr,oV (asb hk),Hb (x.2.2.2.2.take k) _ (by rw[aq9];unfold maxLen;omega),xH _ p9,AL _ aiy,W_,aw,ax,reduceCtorEq];simp only[az]at U2
 refine U2.mono λn hn=>?_
 subst hn;clear U2 G6 HY hr;unfold r7;refine⟨λh=>by rw[al h],λh1=>?_⟩;rw[aj (c:=mP r.1=ah) (by simp[h1])];refine⟨λh=>by rw[al h],λh2=>?_⟩;rw[aj (c:=fh (x.2.2.2.2.take k) r.1) h2];generalize D7 x k r.2.1=q at*;obtain⟨nm,(d:Int),(p:Int),(pr:Int),v,g,val,src⟩:=r;obtain⟨(v1:Int),(v2:Int)⟩:=v;dsimp only[aC,Row.den]at*;refine⟨λh=>by rw[al (c:=¬(0<=d/\d<(x.2.2.2.1.length:Int))) (by omega)],λh3=>⟨λh=>by rw[al (c:=¬(0<=d/\d<(x.2.2.2.1.length:Int))) (by omega)],λh4=>?_⟩⟩;rw[aj (c:=¬(0<=d/\d<(x.2.2.2.1.length:Int))) (by omega)]
 have hd:d.toNat<x.2.2.2.1.length:=by omega
 have hvr:¬VR ((v1,v2):Ty)\/v1=v2↔v1<0\/v2<=v1\/109573<v2:=by
  simp only[VR];dsimp only[aC,Row.den];omega
 refine⟨λhp=>⟨λh=>by rw[al (OG.2 ⟨hp, .inl h⟩)],λh5=>⟨λh=>by rw[al (OG.2 ⟨hp, .inr (.inl h)⟩)],λh6=>eZ.2 ⟨⟨by omega,by omega⟩,λh7=>by rw[al (OG.2 ⟨hp, .inr (.inr ⟨_,aqK (by omega),h7⟩)⟩)],λh7=>?_⟩⟩⟩,λhp=>?_⟩
 .have Y3:¬r6 x k (nm,d,p,pr,(v1,v2),g,val,src):=λh=>by
   obtain⟨_,g1|g1|⟨y,g1,g2⟩⟩:=OG.1 h
   .omega
   .omega
   .rw[aqK (by omega)]at g1;cases g1;exact g2 h7
  clear OG;rw[aj Y3]
  have last:Wp (idx x.2.2.2.1 d) λx_3=>Wp (M.iY aJ val (dR l x) x_3.2) λx_4=>x_4=match x.2.2.2.1[d.toNat]? with
   |some d=>rZ val (dR l x) d.2
   |none=>0:=by
   refine eZ.2 ⟨by omega,?_⟩;rw[pF hT _ hv,aqK hd];exact .some rfl
  by_cases g1:pr<0\/9<pr\/¬VR ((v1,v2):Ty)\/v1=v2
  .rw[al g1];refine⟨λ_=>rfl,λa1=>⟨λ_=>rfl,λa2=>⟨λ_=>rfl,λa3=>⟨λ_=>rfl,λa4=>⟨λ_=>rfl,λa5=>?_⟩⟩⟩⟩⟩;rw[hvr]at g1;omega
  rw[aj g1]
  have ZE:¬(pr<0\/9<pr\/v1<0\/v2<=v1\/109573<v2):=by rw[<-hvr];exact g1
  refine⟨λh=>by omega,λa1=>⟨λh=>by omega,λa2=>⟨λh=>by omega,λa3=>⟨λh=>by omega,λa4=>⟨λh=>by omega,λa5=>?_⟩⟩⟩⟩⟩;refine⟨λh=>by rw[al (by omega)],λh8=>?_⟩;rw[aj (by omega)];refine⟨λh=>by rw[al h],λh9=>?_⟩;rw[aj (λh=>h h9)];refine⟨λh=>?_,λh=>?_⟩
  .rw[pF hT _ hg];refine .some ⟨λh'=>by rw[al ⟨by omega,h'⟩],λh'=>?_⟩;rw[aj (λg=>g.2 h')];exact last
  .rw[aj (λg=>h (by omega))];exact last
 .have Y3:¬r6 x k (nm,d,p,pr,(v1,v2),g,val,src):=λh=>(OG.1 h).1 hp
  clear OG;rw[aj Y3]
  have last:Wp (idx x.2.2.2.1 d) λx_3=>Wp (M.iY aJ val (dR l x) x_3.2) λx_4=>x_4=match x.2.2.2.1[d.toNat]? with
   |some d=>rZ val (dR l x) d.2
   |none=>0:=by
   refine eZ.2 ⟨by omega,?_⟩;rw[pF hT _ hv,aqK hd];exact .some rfl
  by_cases g1:pr<0\/9<pr\/¬VR ((v1,v2):Ty)\/v1=v2
  .rw[al g1];refine⟨λ_=>rfl,λa1=>⟨λ_=>rfl,λa2=>⟨λ_=>rfl,λa3=>⟨λ_=>rfl,λa4=>⟨λ_=>rfl,λa5=>?_⟩⟩⟩⟩⟩;rw[hvr]at g1;omega
  rw[aj g1]
  have ZE:¬(pr<0\/9<pr\/v1<0\/v2<=v1\/109573<v2):=by rw[<-hvr];exact g1
  refine⟨λh=>by omega,λa1=>⟨λh=>by omega,λa2=>⟨λh=>by omega,λa3=>⟨λh=>by omega,λa4=>⟨λh=>by omega,λa5=>?_⟩⟩⟩⟩⟩;refine⟨λh=>by rw[al (by omega)],λh8=>?_⟩;rw[aj (by omega)];refine⟨λh=>by rw[al h],λh9=>?_⟩;rw[aj (λh=>h h9)];refine⟨λh=>?_,λh=>?_⟩
  .rw[pF hT _ hg];refine .some ⟨λh'=>by rw[al ⟨by omega,h'⟩],λh'=>?_⟩;rw[aj (λg=>g.2 h')];exact last
  .rw[aj (λg=>h (by omega))];exact last
def NN(x:iV):Prop:=∀d:Nat,d<x.2.2.2.1.length->∃tr,M.ke aJ x (d:Int)=aa tr/\tr.length<=1000/\((d:Int)∈tr↔(d:Int)∈D5 x d)
def NO(l:Lw)(k:Nat)(hk:k<l.2.2.length)(hs:∀s∈l.2.2,s.2.2.1.length<=100000/\s.2.2.2.1.length<=100000):M.lX aJ l (k:Int)=aa ((dR l l.2.2[k]).1,(dR l l.2.2[k]).2.1,(dR l l.2.2[k]).2.2.2.2.2,(dR l l.2.2[k]).2.2.1,(dR l l.2.2[k]).2.2.2.1,(dR l l.2.2[k]).2.2.2.2.1):=by
 rw[<-Lj l k hk hs];unfold M.iJ;rw[aj (by simp),aqI,aj (by simp;omega)];rfl
def Yp(l:Lw)(x:iV)(i:Nat)(h:i<x.2.2.1.length):BG l x i=if tA l x.2.2.1[i] (x.2.2.1.take i) []≠0 then aa (tA l x.2.2.1[i] (x.2.2.1.take i) [],100+(i:Int))else ae:=by
 have hn:∀nm,¬fh ([]:List Fd) nm:=λnm ⟨y,hy,_⟩=>by cases hy
 grind [BG,tA]
def Yq(l:Lw)(x:iV)(i:Nat)(h:i<x.2.2.2.1.length):BH l x i=if tA l x.2.2.2.1[i] x.2.2.1 (x.2.2.2.1.take i)≠0 then aa (tA l x.2.2.2.1[i] x.2.2.1 (x.2.2.2.1.take i),200+(i:Int))else ae:=by
 grind [BH,tA]
def BK(l:Lw)(hw:WF cC l)(lU:lf l)(k:Nat)(hk:k<l.2.2.length)(hT:oW (dR l l.2.2[k]))(hC:NN l.2.2[k]):M.nl aJ l (k:Int)=aa ((uD l k).getD (0,0)):=by
 have rE:=lU.2.2.2.2.2 _ (aqN hk);have wP:=hw.2.2.2 _ (aqN hk)
 have Rh:=NO l k hk λs hs=>⟨by have:=(lU.2.2.2.2.2 s hs).2.1;omega,by have:=(lU.2.2.2.2.2 s hs).2.2.1;omega⟩
 have hE:uD l k=if mP l.2.2[k].1=ah then aa (2,0)else if fh l.1 l.2.2[k].1\/fh l.2.1 l.2.2[k].1\/fh (l.2.2.take k) l.2.2[k].1 then aa (7,0)else if qL l k l.2.2[k]then aa (6,0)else
  if 12<l.2.2[k].2.2.1.length then aa (4,112)else if 12<l.2.2[k].2.2.2.1.length then aa (4,212)else((vm l l.2.2[k]).or (dp (yI l l.2.2[k]) l.2.2[k].2.2.2.2.length)).or (dp (AF l.2.2[k]) l.2.2[k].2.2.2.1.length):=by
  unfold uD;rw[aqK hk]
 have h5:=lU.2.2.1
 obtain⟨x,hx⟩:∃x,x=l.2.2[k]:=⟨_,rfl⟩
 simp only[<-hx]at rE wP Rh hE hT hC;have EO:=rE.2.2.1;have UX:=rE.2.2.2.1;have aiB:=rE.2.1;have p9:x.1.size<=maxLen:=wP.1
 have NH:(l.2.2.take k).length=k:=by rw[aq9];omega
 have eJ:∀f∈x.2.2.1,(f.1:ByteArray).size<=maxLen:=λf hf=>by have:=rE.2.2.2.2.1 f hf;unfold maxLen;omega
 have hdf:∀f∈x.2.2.2.1,(f.1:ByteArray).size<=maxLen:=λf hf=>by have:=rE.2.2.2.2.2.1 f hf;unfold maxLen;omega
 apply Wp.eq;unfold M.nl;rw[aF hk,aqI,oV (asb hk),aqI,<-hx]
 have Rn:(((M.kS aJ l.1 x.1).bind λy4=>
  (if y4=af then
  some (af,x)
  else
  (M.lm aJ l.2.1 x.1).bind λy5=>
  (if y5=af then
  some (af,x)
  else
  (M.bq aJ (l.2.2.take k) x).bind λy6=>
  some (y6.1,y6.2))):Option (Bool×bg.den)))=aa (decide (fh l.1 x.1\/fh l.2.1 x.1\/fh (l.2.2.take k) x.1),x):=by
  apply Wp.eq;simp only[vp _ _ hw.1.1,yk _ _ hw.2.1.1,Ea (l.2.2.take k) _ (by rw[NH];unfold maxLen;omega),W_,aw,ax,reduceCtorEq];exact⟨λh=>by rw[au (Or.inl h)],λh1=>⟨λh=>by rw[au (Or.inr (Or.inl h))],λh2=>ay (λb=>(b,x)) (decide_eq_decide.2 ⟨λh=> .inr (.inr h),λh=>(h.resolve_left h1).resolve_left h2⟩)⟩⟩
 rw[Rn,aqI,xH _ p9,aqI,hE];by_cases h1:mP x.1=ah
 .rw[al (by simp[h1]),al h1];exact .some rfl
 rw[aj (by simpa using h1),aj h1];by_cases h2:fh l.1 x.1\/fh l.2.1 x.1\/fh (l.2.2.take k) x.1
 .rw[al (au h2),al h2];exact .some rfl
 rw[aj (by simpa using h2),aj h2];have OI:qL l k x↔(x.2.1:Int)≠-1/\((x.2.1:Int)<0\/(k:Int)<=x.2.1\/∃y,l.2.2[(x.2.1:Int).toNat]? =aa y/\(y.2.1:Int)≠-1):=Iff.rfl
 have Ro:((if(!decide ((x.2.1:Int)=(-1:Int)))=af then
  (if(decide ((x.2.1:Int)<(0:Int)))=af then
  some af
  else
  (if(decide ((k:Int)<=x.2.1))=af then
  some af
  else
  (idx (l.2.2.take k) x.2.1).bind λx9=>
  some (!decide ((x9.2.1:Int)=(-1:Int)))))
  else
  some ah):Option (Bool))=aa (decide (qL l k x)):=by
  apply Wp.eq;simp only[W_,aw,ax,reduceCtorEq]
  obtain⟨(m:Int),hm⟩:∃m:Int,m=x.2.1:=⟨_,rfl⟩
  simp only[<-hm]at OI⊢;refine⟨λhp=>⟨λh=>(OI.2 ⟨hp, .inl h⟩),λh3=>⟨λh=>(OI.2 ⟨hp, .inr (.inl h)⟩),λh4=>eZ.2 ⟨by dsimp only[aC,Row.den]at*;omega,?_⟩⟩⟩,λhp h=>(OI.1 h).1 hp⟩
  have Zj:m.toNat<k:=by dsimp only[aC,Row.den]at*;omega
  rw[List.getElem_take];have vy:l.2.2[m.toNat]? =aa (l.2.2[m.toNat]'(by omega)):=aqK (by omega);rw[<-decide_not];refine decide_eq_decide.2 ⟨λh g=>?_,λh=>arX.1 λh'=>h (OI.2 ⟨hp, .inr (.inr ⟨_,vy,h'⟩)⟩)⟩;obtain⟨_,g1|g1|⟨y,g1,g2⟩⟩:=OI.1 g
  .exact absurd g1 h3
  .exact absurd g1 h4
  .rw[vy]at g1;cases g1;exact g2 h
 rw[Ro,aqI];by_cases h3:qL l k x
 .rw[al (au h3),al h3];exact .some rfl
 rw[aj (by simpa using h3),aj h3];clear Rn Ro OI hE;dsimp only;by_cases h4:12<x.2.2.1.length
 .rw[al (au (by omega)),al h4];exact .some rfl
 rw[aj (by rw[az];omega),aj h4];by_cases h5:12<x.2.2.2.1.length
 .rw[al (au (by omega)),al h5];exact .some rfl
 rw[aj (by rw[az];omega),aj h5,Rh];unfold vm;simp only[W_,aw,ax,reduceCtorEq]
 refine Wp.count (λs=>s) x.2.2.1.length (λi _=>∀j,j<i->BG l x j=ae) (by omega) rfl (λj hj=>by omega) λi c hi hs hJ=>?_
 obtain rfl:c=_:=hs;simp only[W_,aw,ax,reduceCtorEq,aS,aR];refine⟨λaI=>?_,λhge=>?_⟩
 .have aI:i<x.2.2.1.length:=by omega
  have hf:=Yp l x i aI;simp only[aF aI,oV (asb aI),uM l _ (x.2.2.1.take i) [] (eJ _ (aqN aI)) (by rw[aq9];unfold maxLen;omega) (by simp),oE (k:=i) (a:=100) (by omega) (by omega),bF (m:=x.2.2.1.length) (by omega) aI,W_,aw,ax,reduceCtorEq];refine⟨λh=>?_,λh=>⟨aI,eI hJ (by rw[hf,aj (λg=>g h)])⟩⟩;rw[dh (hf.trans (al h)) hJ aI];rfl
 rw[bZ.2 λj(hj:j<x.2.2.1.length)=>hJ j (by omega),Option.none_or];clear hJ
 refine Wp.count (λs=>s) x.2.2.2.1.length (λi _=>∀j,j<i->BH l x j=ae) (by omega) rfl (λj hj=>by omega) λi c hi hs hJ=>?_
 obtain rfl:c=_:=hs;simp only[W_,aw,ax,reduceCtorEq,aS,aR];refine⟨λaI=>?_,λhge=>?_⟩
 .have aI:i<x.2.2.2.1.length:=by omega
  have hf:=Yq l x i aI;simp only[aF aI,oV (asb aI),uM l _ x.2.2.1 (x.2.2.2.1.take i) (hdf _ (aqN aI)) (by unfold maxLen;omega) (by rw[aq9];unfold maxLen;omega),oE (k:=i) (a:=200) (by omega) (by omega),bF (m:=x.2.2.2.1.length) (by omega) aI,W_,aw,ax,reduceCtorEq];refine⟨λh=>?_,λh=>⟨aI,eI hJ (by rw[hf,aj (λg=>g h)])⟩⟩;rw[dh (hf.trans (al h)) hJ aI];rfl
 rw[bZ.2 λj(hj:j<x.2.2.2.1.length)=>hJ j (by omega),Option.none_or];clear hJ
 refine Wp.count (λs=>s) x.2.2.2.2.length (λi _=>∀j,j<i->yI l x j=ae) (by omega) rfl (λj hj=>by omega) λi c hi hs hJ=>?_
 obtain rfl:c=_:=hs;simp only[W_,aw,ax,reduceCtorEq,aS,aR];refine⟨λaI=>?_,λhge=>?_⟩
 .have aI:i<x.2.2.2.2.length:=by omega
  have hf:yI l x i=if r7 l x i x.2.2.2.2[i]≠0 then aa (r7 l x i x.2.2.2.2[i],300+(i:Int))else ae:=by
   unfold yI;rw[aqK aI]
  have hr:M.mn aJ x (i:Int) ((dR l x).1,((dR l x).2.1,((dR l x).2.2.1,((dR l x).2.2.2.1,((dR l x).2.2.2.2.1,(dR l x).2.2.2.2.2)))))=_:=Ef l x wP rE hT i aI;simp only[hr,oE (k:=i) (a:=300) (by omega) (by omega),bF (m:=x.2.2.2.2.length) (by omega) aI,W_,aw,ax,reduceCtorEq];refine⟨λh=>?_,λh=>⟨aI,eI hJ (by rw[hf,aj (λg=>g h)])⟩⟩;rw[dh (hf.trans (al h)) hJ aI];rfl
 rw[bZ.2 λj(hj:j<x.2.2.2.2.length)=>hJ j (by omega),Option.none_or];clear hJ
 refine Wp.count (λs=>s) x.2.2.2.1.length (λi _=>∀j,j<i->AF x j=ae) (by omega) rfl (λj hj=>by omega) λi c hi hs hJ=>?_
 obtain rfl:c=_:=hs;simp only[W_,aw,ax,reduceCtorEq,aS,aR];refine⟨λaI=>?_,λhge=>?_⟩
 .have aI:i<x.2.2.2.1.length:=by omega
  obtain⟨tr,e1,e2,e3⟩:=hC i aI
  have hf:AF x i=if(i:Int)∈D5 x i then aa (9,200+(i:Int))else ae:=rfl
  simp only[e1,JK tr _ (by unfold maxLen;omega),oE (k:=i) (a:=200) (by omega) (by omega),bF (m:=x.2.2.2.1.length) (by omega) aI,W_,aw,ax,reduceCtorEq];refine⟨λh=>?_,λh=>⟨aI,eI hJ (by rw[hf,aj (λg=>h (e3.2 g))])⟩⟩;rw[dh (hf.trans (al (e3.1 h))) hJ aI];rfl
 .rw[bZ.2 λj(hj:j<x.2.2.2.1.length)=>hJ j (by omega)];rfl
theorem AM(l:Lw)(hw:WF cC l)(lU:lf l)(hT:∀x∈l.2.2,oW (dR l x))(hC:∀x∈l.2.2,NN x):M.mC aJ l=aa (if 4<l.2.2.length then((4:Int),((3:Int),((4:Int),(0:Int))))else match dp (λk=>(uD l k).map λe=>(k,e)) l.2.2.length with
 |some (k,e)=>nW 3 (k:Int) (aa e)
 |none=>UP):=by
 have w1:=hw.2.2.1;unfold maxLen at w1;apply Wp.eq;unfold M.mC;simp only[W_,aw,ax,reduceCtorEq];refine⟨λh=>by grind,λh8=>?_⟩;rw[aj (by omega)]
 refine Wp.count (λs=>s) l.2.2.length (λi _=>∀j,j<i->(λk=>(uD l k).map λe=>(k,e)) j=ae) w1 rfl (λj hj=>by omega) λi c hi hs hJ=>?_
 obtain rfl:c=_:=hs;simp only[W_,aw,ax,reduceCtorEq,aS,aR];refine⟨λaI=>?_,λhge=>?_⟩
 .have aI:i<l.2.2.length:=by omega
  simp only[BK l hw lU i aI (hT _ (aqN aI)) (hC _ (aqN aI)),bF w1 aI,W_,aw,ax,reduceCtorEq];refine⟨λh=>?_,λh=>⟨aI,eI hJ ?_⟩⟩
  .cases he:uD l i with
   |none=>grind
   |some e=>rw[dh (NK he) hJ aI];rfl
  .cases he:uD l i with
   |none=>rfl
   |some e=>grind [AH]
 .rw[bZ.2 λj hj=>hJ j (by omega)];rfl
def Hc(l:Lw)(hw:WF cC l)(lU:lf l)(hT:∀x∈l.2.2,oW (dR l x))(hC:∀x∈l.2.2,NN x):M.ln aJ l=aa (uE l):=by
 have bad:∀(f:Nat->Option (Int×Int))(m:Nat)(sec:Int)(k:Nat)(e:Int×Int),(∀i e,f i=aa e->e.1≠0)->dp (λk=>(f k).map λe=>(k,e)) m=aa (k,e)->(!decide ((nW sec (k:Int) (aa e)).1=0))=af:=λf m sec k e hf he=>by
  obtain⟨j,_,hj,_⟩:=gS he;obtain⟨e',Qd,h2⟩:=arH.1 hj;cases h2;have:e.1≠0:=hf _ _ Qd
  show(!decide (e.1=0))=af
  simp[this]
 unfold M.ln uE;rw[BJ l hw,aqI];by_cases h1:8<l.1.length
 .grind
 rw[aj h1,aj h1]
 cases hA:dp (λk=>(pk l k).map λe=>(k,e)) l.1.length with
 |some p=>
  obtain⟨k,e⟩:=p;dsimp only;rw[al (bad _ _ _ _ _ (λi e=>uw) hA)]
 |none=>
  dsimp only;rw[aj (by simp[UP]),AK l hw,aqI];by_cases h2:8<l.2.1.length
  .grind
  rw[aj h2,aj h2]
  cases hB:dp (λk=>(rY l k).map λe=>(k,e)) l.2.1.length with
  |some p=>
   obtain⟨k,e⟩:=p;dsimp only;rw[al (bad _ _ _ _ _ (λi e=>AG) hB)]
  |none=>
   grind [UP,AM]
end L
namespace L
def Rp(op:Int):M.eh aJ op=aa (ar op):=by
 apply Wp.eq;unfold M.eh ar;simp only[W_,aw,ax,reduceCtorEq];omega
def Rq(op:Int):M.fM aJ op=aa (decide ((1<=op/\op<=8)\/(14<=op/\op<=16)\/op=33\/op=34\/(36<=op/\op<=39))):=by
 apply Wp.eq;unfold M.fM;simp only[W_,aw,ax,reduceCtorEq];omega
def cz(k:Int):M.fi aJ k=aa (decide (k=2\/k=3\/k=4)):=by
 apply Wp.eq;unfold M.fi;simp only[W_,aw,ax,reduceCtorEq];omega
def bH(k:Int):M.ig aJ k=aa (decide (0<=k/\k<=5)):=by
 apply Wp.eq;unfold M.ig;simp only[W_,aw,ax,reduceCtorEq];omega
def cN(m k:Int)(s:uB):M.dy aJ m k s=aa (if D4 m (k,(0:Int)) s.1 then((k,(0:Int)),(0:Int))else(((0:Int),(0:Int)),(3:Int))):=by
 apply Wp.eq;unfold M.dy;simp only[ze,W_,aw,ax,reduceCtorEq]
 grind [D4]
noncomputable def pN(n:Ty)(l:List Ty)(s:uB):Option (Ty×Int):=
 if(n.2:Int)≠0/\¬((1<=(n.1:Int)/\(n.1:Int)<=8)\/(14<=(n.1:Int)/\(n.1:Int)<=16)\/(n.1:Int)=33\/(n.1:Int)=34\/(36<=(n.1:Int)/\(n.1:Int)<=39))then aa (((0:Int),(0:Int)),2)else M.bu aJ n l s
def uN(t:Ty):Prop:=1<=(t.1:Int)/\(t.1:Int)<=5->(t.2:Int)=0
theorem Yr(op m:Int)(a b:Ty)(s:uB)(h2:ar op=2)(ha:uN a)(_:uN b):pN (op,m) [a,b] s=M.bo aJ (op,m) [a,b] s:=by
 have hr:=AD (op,m) s
 have hR:GZ op m s↔(14<=op/\op<=16->0<=m/\m<=5):=by
  unfold ar at h2;unfold GZ;exact(by grind)
 have fJ:op=11\/op=12\/op=13\/op=14\/op=15\/op=16\/op=17\/op=18\/op=19\/op=20\/op=21\/op=22\/op=23\/op=24\/op=27\/op=28\/op=29\/op=30:=by unfold ar at h2;omega
 obtain⟨(a1:Int),(a2:Int)⟩:=a;obtain⟨(b1:Int),(b2:Int)⟩:=b;simp only[uN]at ha
 rcases fJ with rfl|rfl|rfl|rfl|rfl|rfl|rfl|rfl|rfl|rfl|rfl|rfl|rfl|rfl|rfl|rfl|rfl|rfl
 all_goals
  unfold pN M.bu M.dq M.jv M.bo M.bX M.iT M.lC;simp[be,bm,aZ,bI,cz,bH,bK,hr,hR,idx,CL]
  grind
def Rr(op m:Int)(a b c:Ty)(s:uB)(h3:ar op=3):pN (op,m) [a,b,c] s=M.bo aJ (op,m) [a,b,c] s:=by
 have fJ:op=26:=by unfold ar at h3;omega
 subst fJ;have hr:=AD ((26:Int),m) s
 have hR:GZ 26 m s:=by unfold GZ;omega
 obtain⟨(a1:Int),(a2:Int)⟩:=a;obtain⟨(b1:Int),(b2:Int)⟩:=b;obtain⟨(c1:Int),(c2:Int)⟩:=c;unfold pN M.bu M.dq M.bo M.bX;simp[be,bm,aZ,bI,cz,bH,bK,hr,hR,idx,CL]
 grind
theorem Ys(op m:Int)(a:Ty)(s:uB)(hm:m<=9223372036854775807)(h1:ar op=1)(ha:uN a):pN (op,m) [a] s=M.bo aJ (op,m) [a] s:=by
 have hr:=AD (op,m) s
 have hR:GZ op m s↔(op=34->0<=m/\aqY m 8<=5):=by
  unfold ar at h1;unfold GZ;exact⟨λh=>h.2.2.1,λh=>⟨λ_=>by omega,λ_=>by omega,h,λ_=>by omega⟩⟩
 have hd:0<=m->0<=aqJ.wrap (aqW m 8):=λh=>Lf h hm (by omega)
 have ht:0<=m->0<=aqY m 8:=λh=>Int.tmod_nonneg _ h
 have fJ:op=10\/op=25\/op=31\/op=32\/op=33\/op=34:=by unfold ar at h1;omega
 obtain⟨(a1:Int),(a2:Int)⟩:=a;simp only[uN]at ha
 rcases fJ with rfl|rfl|rfl|rfl|rfl|rfl
 .unfold pN M.bu M.dq M.bo M.bX M.dX;simp[be,bm,aZ,bI,cz,bH,bK,hr,hR,idx,CL]
  grind
 .unfold pN M.bu M.dq M.bo M.bX M.dX;simp[be,bm,aZ,bI,cz,bH,bK,hr,hR,idx,CL]
  grind
 .unfold pN M.bu M.dq M.bo M.bX M.dX;simp[be,bm,aZ,bI,cz,bH,bK,hr,hR,idx,CL]
  grind
 .unfold pN M.bu M.dq M.bo M.bX M.dX;simp[be,bm,aZ,bI,cz,bH,bK,hr,hR,idx,CL]
  grind
 .have i0:idx [((a1,a2):Ty)] 0=aa (a1,a2):=rfl;unfold pN M.bu M.ju M.bo M.bX M.dX;by_cases h:0<=m/\m<(s.2.1.length:Int)
  .obtain⟨k,rfl⟩:=aqV h.1
   have hk:k<s.2.1.length:=by omega
   simp[be,bm,aZ,bI,bK,hr,hR,CL,r8,cJ,i0,aF hk,hk,show¬((s.2.1.length:Int)<=(k:Int)) by omega,show¬((k:Int)<0) by omega];generalize s.2.1[k]=t
   by_cases c1:mH t.2.1 s.1.length<;>by_cases c2:mH t.2.2.1 s.1.length<;>by_cases c3:((a1,a2):Ty)=t.2.1<;>simp[c1,c2,c3]
  .simp[be,bm,aZ,bI,bK,hr,hR,CL,r8,cJ,i0];by_cases Ou:m<0
   .simp[Ou,show¬0<=m by omega]
   .simp[Ou,show 0<=m by omega,show(s.2.1.length:Int)<=m by omega,show¬m<(s.2.1.length:Int) by omega]
 .have i0:idx [((a1,a2):Ty)] 0=aa (a1,a2):=rfl;unfold pN M.bu M.ju M.bo M.bX M.dX;simp only[hr,hR];by_cases h:0<=m/\aqY m 8<=5
  .have hd:=hd h.1;have ht:=ht h.1;generalize aqJ.wrap (aqW m 8)=j at*;generalize aqY m 8=q at*;by_cases h':j<(s.2.1.length:Int)
   .obtain⟨k,rfl⟩:=aqV hd
    have hk:k<s.2.1.length:=by omega
    simp[be,bm,aZ,bI,bH,bK,h,ht,CL,r8,cJ,i0,aF hk,hk,show¬(m<0) by omega,show¬((s.2.1.length:Int)<=(k:Int)) by omega,show¬((k:Int)<0) by omega];generalize s.2.1[k]=t;obtain⟨nm,⟨(k1:Int),(k2:Int)⟩,⟨(v1:Int),(v2:Int)⟩,rs⟩:=t;generalize s.1.length=ne;by_cases R:a1=3/\k1=3/\k2=0/\v1=4/\v2=0
    .obtain⟨rfl,rfl,rfl,rfl,rfl⟩:=R;obtain rfl:a2=0:=ha ⟨by decide,by decide⟩
     have v3:mH (((3:Int),(0:Int)):Ty) ne:=by simp[mH]
     have v4:mH (((4:Int),(0:Int)):Ty) ne:=by simp[mH]
     simp[v3,v4]
    .have hR2:(((if a1=3 then if((k1,k2):Int×Int)=(3,0)then aa (decide (((v1,v2):Int×Int)=(4,0)),a1,a2)else aa (ah,a1,a2)else aa (ah,a1,a2)):Option (Bool×Int×Int)))=aa (ah,a1,a2):=by
      by_cases q1:a1=3<;>by_cases q2:k1=3<;>by_cases q3:k2=0<;>by_cases q4:v1=4<;>by_cases q5:v2=0<;>simp[q1,q2,q3,q4,q5]<;>exact absurd ⟨q1,q2,q3,q4,q5⟩ R
     rw[hR2];by_cases c1:mH ((k1,k2):Ty) ne
     .by_cases c2:mH ((v1,v2):Ty) ne
      .by_cases e:((a1,a2):Ty)=(k1,k2)
       .injection e with e1 e2
        subst e1 e2;have c1':=c1;have ZY:=c2;simp only[mH]at c1' ZY;dsimp only[aC,Row.den]at c1' ZY;by_cases f:a1=3
        .have g:¬v1=4:=λg=>R (by omega)
         subst f
         obtain rfl:a2=0:=by omega
         simp[c1,c2,g]
        .simp[c1,c2,f]
       .simp[c1,c2,e]
      .simp[c1,c2]
     .simp[c1]
   .simp[be,bm,aZ,bI,bH,bK,h,ht,CL,r8,cJ,i0,show¬(m<0) by omega,show(s.2.1.length:Int)<=j by omega,show¬j<0 by omega]
  .simp[be,bm,aZ,bI,bH,bK,CL,r8,cJ,i0];by_cases Ou:m<0
   .simp[Ou,show¬0<=m by omega]
   .have h5:5<aqY m 8:=by omega
    simp[Ou,h5,show¬aqY m 8<=5 by omega]
def bN(m:Int)(ls:List Ty)(s:uB):M.fF aJ m ls s=if 0<=m/\m<(ls.length:Int)then(match ls[m.toNat]? with
 |some t=>if mH t s.1.length then aa (t,(0:Int))else aa (((0:Int),(0:Int)),(8:Int))
 |none=>ae)else aa (((0:Int),(0:Int)),(6:Int)):=by
 grind [M.fF,aF,r8]
def zero_eq(op m:Int)(s:uB)(hm:m<=9223372036854775807)(h0:ar op=0):pN (op,m) [] s=M.bo aJ (op,m) [] s:=by
 have hr:=AD (op,m) s
 have hR:GZ op m s↔(1<=op/\op<=5->D4 m (op,(0:Int)) s.1)/\(op=6->0<=m):=by
  unfold ar at h0;unfold GZ;exact(by grind)
 have hd:0<=m->0<=aqJ.wrap (aqW m 16):=λh=>Lf h hm (by omega)
 have fJ:op=1\/op=2\/op=3\/op=4\/op=5\/op=6\/op=7\/op=8\/op=9\/op=35\/op=36\/op=37\/op=38\/op=39:=by unfold ar at h0;omega
 have v:∀k:Int,1<=k->k<=5->mH ((k,(0:Int)):Ty) s.1.length:=λk h1 h2=> .inl ⟨h1,h2,rfl⟩
 rcases fJ with rfl|rfl|rfl|rfl|rfl|rfl|rfl|rfl|rfl|rfl|rfl|rfl|rfl|rfl
 .unfold pN M.bu M.bY M.cD M.bo M.bX M.cT;have v:=v 1 (by decide) (by decide)
  by_cases h:D4 m ((1:Int),(0:Int)) s.1<;>simp[be,bm,aZ,bI,cz,bH,cN,bN,bK,hr,hR,cJ,h,v]
 .unfold pN M.bu M.bY M.cD M.bo M.bX M.cT;have v:=v 2 (by decide) (by decide)
  by_cases h:D4 m ((2:Int),(0:Int)) s.1<;>simp[be,bm,aZ,bI,cz,bH,cN,bN,bK,hr,hR,cJ,h,v]
 .unfold pN M.bu M.bY M.cD M.bo M.bX M.cT;have v:=v 3 (by decide) (by decide)
  by_cases h:D4 m ((3:Int),(0:Int)) s.1<;>simp[be,bm,aZ,bI,cz,bH,cN,bN,bK,hr,hR,cJ,h,v]
 .unfold pN M.bu M.bY M.cD M.bo M.bX M.cT;have v:=v 4 (by decide) (by decide)
  by_cases h:D4 m ((4:Int),(0:Int)) s.1<;>simp[be,bm,aZ,bI,cz,bH,cN,bN,bK,hr,hR,cJ,h,v]
 .unfold pN M.bu M.bY M.cD M.bo M.bX M.cT;have v:=v 5 (by decide) (by decide)
  by_cases h:D4 m ((5:Int),(0:Int)) s.1<;>simp[be,bm,aZ,bI,cz,bH,cN,bN,bK,hr,hR,cJ,h,v]
 .unfold pN M.bu M.bY M.cD M.bo M.bX M.cT;by_cases h:m<0
  .simp[be,bm,aZ,bI,cz,bH,cN,bN,bK,hr,hR,cJ,h]
  .have hd:=hd (by omega)
   have h':0<=m:=by omega
   generalize aqJ.wrap (aqW m 16)=j at*;generalize aqY m 16=q at*;by_cases hj:j<(s.1.length:Int)
   .obtain⟨k,rfl⟩:=aqV hd
    have hk:k<s.1.length:=by omega
    have v6:mH (((6:Int),(k:Int)):Ty) s.1.length:= .inr (by grind);by_cases hq:q<(s.1[k].2.length:Int)
    .simp[be,bm,aZ,bI,cz,bH,cN,bN,bK,hr,hR,cJ,h,h',hk,aF hk,v6,hq,show¬(s.1.length:Int)<=(k:Int) by omega,show¬(s.1[k].2.length:Int)<=q by omega]
    .simp[be,bm,aZ,bI,cz,bH,cN,bN,bK,hr,hR,cJ,h,h',hk,aF hk,v6,hq,show¬(s.1.length:Int)<=(k:Int) by omega,show(s.1[k].2.length:Int)<=q by omega]
   .simp[be,bm,aZ,bI,cz,bH,cN,bN,bK,hr,hR,cJ,h,h',hj,show(s.1.length:Int)<=j by omega]
 .unfold pN M.bu M.bY M.cD M.bo M.bX M.cT;by_cases h:0<=m/\m<(s.2.2.1.length:Int)
  .obtain⟨k,rfl⟩:=aqV h.1
   have hk:k<s.2.2.1.length:=by omega
   by_cases hv:mH s.2.2.1[k] s.1.length<;>simp[be,bm,aZ,bI,cz,bH,cN,bN,bK,hr,hR,cJ,hk,aF hk,hv]
  .by_cases h0:0<=m
   .have h1:¬m<(s.2.2.1.length:Int):=λg=>h ⟨h0,g⟩
    simp[be,bm,aZ,bI,cz,bH,cN,bN,bK,hr,hR,cJ,h0,h1]
   .simp[be,bm,aZ,bI,cz,bH,cN,bN,bK,hr,hR,cJ,h0]
 .unfold pN M.bu M.bY M.cD M.bo M.bX M.cT;by_cases h:0<=m/\m<(s.2.2.2.1.length:Int)
  .obtain⟨k,rfl⟩:=aqV h.1
   have hk:k<s.2.2.2.1.length:=by omega
   by_cases hv:mH s.2.2.2.1[k] s.1.length<;>simp[be,bm,aZ,bI,cz,bH,cN,bN,bK,hr,hR,cJ,hk,aF hk,hv]
  .by_cases h0:0<=m
   .have h1:¬m<(s.2.2.2.1.length:Int):=λg=>h ⟨h0,g⟩
    simp[be,bm,aZ,bI,cz,bH,cN,bN,bK,hr,hR,cJ,h0,h1]
   .simp[be,bm,aZ,bI,cz,bH,cN,bN,bK,hr,hR,cJ,h0]
 .unfold pN M.bu M.bY M.cD M.bo M.bX M.cT;have v:=v 5 (by decide) (by decide);by_cases h:m=0
  .subst h;simp[be,bm,aZ,bI,cz,bH,cN,bN,bK,hr,hR,cJ,v]
  grind [be]
 .unfold pN M.bu M.bY M.cD M.bo M.bX M.cT;have v:=v 2 (by decide) (by decide);by_cases h:m=0
  .subst h;cases hs:s.2.2.2.2.2<;>simp[be,bm,aZ,bI,cz,bH,cN,bN,bK,hr,hR,cJ,v,hs]
  grind [be]
 .unfold pN M.bu M.bY M.cD M.bo M.bX M.cT;cases hs:s.2.2.2.2.2
  .simp[be,bm,aZ,bI,cz,bH,cN,bN,bK,hr,hR,cJ,hs]
  by_cases h:0<=m/\m<(s.2.2.2.2.1.length:Int)
  .obtain⟨k,rfl⟩:=aqV h.1
   have hk:k<s.2.2.2.2.1.length:=by omega
   by_cases hv:mH s.2.2.2.2.1[k] s.1.length
   .simp[be,bm,aZ,bI,cz,bH,cN,bN,bK,hr,hR,cJ,hk,aF hk,hv,hs]
    grind
   .simp[be,bm,aZ,bI,cz,bH,cN,bN,bK,hr,hR,cJ,hk,aF hk,hv,hs]
  .by_cases h0:0<=m
   .have h1:¬m<(s.2.2.2.2.1.length:Int):=λg=>h ⟨h0,g⟩
    simp[be,bm,aZ,bI,cz,bH,cN,bN,bK,hr,hR,cJ,h0,h1,hs]
   .simp[be,bm,aZ,bI,cz,bH,cN,bN,bK,hr,hR,cJ,h0,hs]
 .unfold pN M.bu M.bY M.cD M.bo M.bX M.cT;cases hs:s.2.2.2.2.2
  .simp[be,bm,aZ,bI,cz,bH,cN,bN,bK,hr,hR,cJ,hs]
  by_cases h:0<=m/\m<(s.2.2.2.2.1.length:Int)
  .obtain⟨k,rfl⟩:=aqV h.1
   have hk:k<s.2.2.2.2.1.length:=by omega
   by_cases hv:mH s.2.2.2.2.1[k] s.1.length
   .simp[be,bm,aZ,bI,cz,bH,cN,bN,bK,hr,hR,cJ,hk,aF hk,hv,hs]
    grind
   .simp[be,bm,aZ,bI,cz,bH,cN,bN,bK,hr,hR,cJ,hk,aF hk,hv,hs]
  .by_cases h0:0<=m
   .have h1:¬m<(s.2.2.2.2.1.length:Int):=λg=>h ⟨h0,g⟩
    simp[be,bm,aZ,bI,cz,bH,cN,bN,bK,hr,hR,cJ,h0,h1,hs]
   .simp[be,bm,aZ,bI,cz,bH,cN,bN,bK,hr,hR,cJ,h0,hs]
 .unfold pN M.bu M.bY M.cD M.bo M.bX M.cT;cases hs:s.2.2.2.2.2
  .simp[be,bm,aZ,bI,cz,bH,cN,bN,bK,hr,hR,cJ,hs]
  by_cases h:0<=m/\m<(s.2.2.2.2.1.length:Int)
  .obtain⟨k,rfl⟩:=aqV h.1
   have hk:k<s.2.2.2.2.1.length:=by omega
   by_cases hv:mH s.2.2.2.2.1[k] s.1.length
   .simp[be,bm,aZ,bI,cz,bH,cN,bN,bK,hr,hR,cJ,hk,aF hk,hv,hs]
    grind
   .simp[be,bm,aZ,bI,cz,bH,cN,bN,bK,hr,hR,cJ,hk,aF hk,hv,hs]
  .by_cases h0:0<=m
   .have h1:¬m<(s.2.2.2.2.1.length:Int):=λg=>h ⟨h0,g⟩
    simp[be,bm,aZ,bI,cz,bH,cN,bN,bK,hr,hR,cJ,h0,h1,hs]
   .simp[be,bm,aZ,bI,cz,bH,cN,bN,bK,hr,hR,cJ,h0,hs]
 .unfold pN M.bu M.bY M.cD M.bo M.bX M.cT;cases hs:s.2.2.2.2.2
  .simp[be,bm,aZ,bI,cz,bH,cN,bN,bK,hr,hR,cJ,hs]
  by_cases h:0<=m/\m<(s.2.2.2.2.1.length:Int)
  .obtain⟨k,rfl⟩:=aqV h.1
   have hk:k<s.2.2.2.2.1.length:=by omega
   by_cases hv:mH s.2.2.2.2.1[k] s.1.length
   .simp[be,bm,aZ,bI,cz,bH,cN,bN,bK,hr,hR,cJ,hk,aF hk,hv,hs];generalize s.2.2.2.2.1[k]=t at*
    grind
   .simp[be,bm,aZ,bI,cz,bH,cN,bN,bK,hr,hR,cJ,hk,aF hk,hv,hs]
  .by_cases h0:0<=m
   .have h1:¬m<(s.2.2.2.2.1.length:Int):=λg=>h ⟨h0,g⟩
    simp[be,bm,aZ,bI,cz,bH,cN,bN,bK,hr,hR,cJ,h0,h1,hs]
   .simp[be,bm,aZ,bI,cz,bH,cN,bN,bK,hr,hR,cJ,h0,hs]
def ab2(n:Ty)(l:List Ty)(s:uB)(hw:WF aD n)(hl:(l.length:Int)=ar n.1)(hN:∀t∈l,uN t):pN n l s=aa (Rc n l s):=by
 rw[<-JH hw hl];obtain⟨(op:Int),(m:Int)⟩:=n;have hm:m<=9223372036854775807:=hw.2.2;have h3:=lR op;dsimp only at hl
 match l,hl with
 |[],hl=>exact zero_eq op m s hm hl.symm
 |[a],hl=>grind [Ys]
 |[a,b],hl=>grind [Yr]
 |[a,b,c],hl=>exact Rr op m a b c s hl.symm
 |a::b::c::d::l,hl=>grind
def mH.nrm{t:Ty}{n:Nat}(h:mH t n):uN t:=λh'=>by
 obtain⟨(k:Int),(e:Int)⟩:=t
 rcases h with h|h
 all_goals grind
def Pc{α:Type}(m:Option α)(Q:α->Prop):Prop:=∀r,m=aa r->Q r
theorem lN{α:Type}{x:α}{Q:α->Prop}:Pc (aa x) Q↔Q x:=⟨λh=>h x rfl,λh r e=>by grind⟩
theorem iW{α β:Type}{m:Option α}{k:α->Option β}{Q:β->Prop}:Pc (m.bind k) Q↔Pc m λx=>Pc (k x) Q:=by
 constructor
 .intro h x hx r hr;exact h r (by grind)
 .intro h r hr;obtain⟨x,hx,hr⟩:=Option.bind_eq_some_iff.1 hr;exact h x hx r hr
def pg{α:Type}{c:Prop}[Decidable c]{a b:Option α}{Q:α->Prop}:Pc (if c then a else b) Q↔(c->Pc a Q)/\(¬c->Pc b Q):=by
 grind
theorem Pc.of{α:Type}{m:Option α}{Q:α->Prop}(h:∀x,Q x):Pc m Q:=λx _=>h x
theorem uN.kind(k:Int):uN ((k,(0:Int)):Ty):=λ_=>rfl
theorem Rt(n:Ty)(s:uB):Pc (M.cT aJ n s) λr=>r.2=af->uN r.1:=by
 have ho:∀k,M.ja aJ k=aa (decide (k=2\/k=3\/k=4\/k=5)):=aZ;unfold M.cT;rw[iW]
 refine Pc.of λj=>?_
 simp only[cJ,ho,aqI];by_cases hv:mH j s.1.length
 .simp only[iW,pg,lN];simp[hv.nrm]
 .simp[hv,iW,pg,lN]
theorem JL(n a:Ty)(s:uB)(ha:uN a):Pc (M.dX aJ n a s) λr=>r.2=af->uN r.1:=by
 unfold M.dX;simp only[bI,bm,cJ,aqI,iW,pg,lN];refine⟨λ_ _=>ha,λ_=>⟨λ_ _=>ha,λ_=>?_⟩⟩
 have h33:Pc (idx s.2.1 n.2) λx=>(decide (mH x.2.1 s.1.length)=af->(decide (mH x.2.2.1 s.1.length)=af->o6 aD a x.2.1=af->uN x.2.2.1)/\(¬decide (mH x.2.2.1 s.1.length)=af->ah=af->uN x.2.2.1))/\(¬decide (mH x.2.1 s.1.length)=af->ah=af->uN x.2.2.1):=Pc.of λx=>⟨λ_=>⟨λh _=>(ao h:mH x.2.2.1 s.1.length).nrm,λ_ h=>(by cases h)⟩,λ_ h=>(by cases h)⟩
 have Ia:Pc (idx s.2.1 (aqJ.wrap (aqW n.2 8))) λx=>(decide ((a.1:Int)=3)=af->(o6 aD x.2.1 ((3:Int),(0:Int))=af->o6 aD x.2.2.1 ((4:Int),(0:Int))=af->uN a)/\(¬o6 aD x.2.1 ((3:Int),(0:Int))=af->ah=af->uN a))/\(¬decide ((a.1:Int)=3)=af->ah=af->uN a):=Pc.of (by grind)
 grind [uN.kind]
theorem JM(op:Int)(a b:Ty)(ha:uN a):Pc (M.iT aJ op a b) λr=>r.2=af->uN r.1:=by
 have hk:∀k:Int,uN ((k,(0:Int)):Ty):=uN.kind;unfold M.iT M.lC;simp only[bI,bm,aZ,aqI,iW,pg,lN];simp[ha,hk]
def U3(n:Ty)(l:List Ty)(s:uB)(hw:WF aD n)(hl:(l.length:Int)=ar n.1)(hN:∀t∈l,uN t)(h0:(Rc n l s).2=0):uN (Rc n l s).1:=by
 have vy:∀i,Pc (idx l i) uN:=λi x hx=>by
  grind [idx]
 have key:Pc (M.bo aJ n l s) λr=>r.2=0->uN r.1:=by
  unfold M.bo;rw[iW]
  refine Pc.of λj1=>?_
  rw[pg];refine⟨λ_=>lN.2 λh=>(by cases h),λ_=>?_⟩;rw[iW]
  refine Pc.of λy3=>?_
  rw[pg];refine⟨λ_=>lN.2 λh=>(by cases h),λ_=>?_⟩;rw[iW]
  refine Pc.of λy4=>?_
  rw[pg];refine⟨λ_=>lN.2 λh=>(by cases h),λ_=>?_⟩;rw[iW]
  have fin:∀{m:Option (Bool×Ty)},Pc m (λj=>j.1=af->uN j.2)->Pc m λj5=>Pc (if(!j5.1)=af then aa (((0:Int),(0:Int)),(8:Int))else aa (j5.2,(0:Int))) λr:Ty×Int=>r.2=0->uN r.1:=λ{m}h j hj=>by
   have:=h j hj;refine pg.2 ⟨λ_=>lN.2 λh=>(by cases h),λh=>lN.2 λ_=>this (by simpa using h)⟩
  refine fin ?_;rw[pg];refine⟨λ_=>?_,λ_=>?_⟩
  .grind [iW,lN,Rt]
  rw[pg];refine⟨λ_=>?_,λ_=>?_⟩
  .rw[iW]
   refine λa ha=>iW.2 ?_
   grind [lN,JL]
  rw[pg];refine⟨λ_=>?_,λ_=>?_⟩
  .rw[iW]
   refine λa ha=>iW.2 λb _=>iW.2 ?_
   grind [lN,JM]
  .rw[iW]
   refine λa ha=>?_
   have ha:=vy _ a ha;simp only[iW,pg,lN]
   grind [Pc.of]
 exact key _ (JH hw hl) h0
def D1(st:List Nat)(m:Nat)(v:Nat):bn (dZ st++aqO (m+1) (0:Int)) (st.length:Int) (v:Int)=dZ (st++[v])++aqO m (0:Int):=by
 grind [bn]
def xD(st:List Nat)(m:Nat)(u v:Nat):bn (dZ (st++[u])++aqO m (0:Int)) (st.length:Int) (v:Int)=dZ (st++[v])++aqO m (0:Int):=by
 unfold bn
 simp_all
def vq(e:List Ty):M.ie aJ e=aa (pD e):=by
 apply Wp.eq;unfold M.ie pD
 refine Wp.dec (λh=> .some ?_) λh1=>?_
 .grind
 rw[aj (show¬48<e.length by omega)]
 refine Wp.dec (λh=> .some ?_) λh2=>?_
 .grind
 rw[aj (show¬e.length=0 by omega)]
 have Bc:ol (e.length:Int) (0:Int)=aa (aqO e.length 0):=by
  unfold ol;rw[al (by omega),aqR]
 rw[Bc];simp only[aqI];refine Wp.join (Wp.loop (λs:Int×List Int×List Int=>∃st sk:List Nat,s=((st.length:Int),dZ st++aqO (e.length-st.length) 0,dZ sk)/\st.length<=e.length/\sk.length<=12/\ji (e.drop st.length) st.length st sk=ji e 0 [] []) (λs=>(e.length-s.1).toNat) ⟨[],[],by simp,by simp,by simp,by simp⟩ (by simp only;unfold aJ;omega) ?_)
 rintro _ ⟨st,sk,rfl,mf,Zg,cO⟩
 simp only
 refine Wp.dec (λhk=>?_) λhk=> .some ?_
 case refine_2=>
  have hd:e.drop st.length=[]:=List.drop_of_length_le (by omega);rw[hd]at cO;rw[<-cO]
  have h0:e.length-st.length=0:=by omega
  rw[h0];simp only[ji,List.replicate_zero,List.append_nil]
  show Wp _ _
  refine Wp.dec (λh=> .some ?_) λh=> .some ?_
  all_goals grind
 have jh:st.length<e.length:=by omega
 have hd:e.drop st.length=e[st.length]::e.drop (st.length+1):=aq6 jh
 obtain⟨m,hm⟩:∃m,e.length-st.length=m+1:=⟨e.length-st.length-1,by omega⟩
 rw[hd]at cO;rw[aF jh,hm];simp only[aqI,Rp];generalize fJ:(e[st.length].1:Int)=op;rw[ji]at cO;rw[fJ]at cO;have EN:=lR op
 refine Wp.dec (λh=> .some ?_) λJB=>?_
 .rw[al h]at cO
  show _=_
  rw[<-cO]
 rw[aj JB]at cO
 refine Wp.dec (λh=> .some ?_) λhlen=>?_
 .rw[al (by simpa using h)]at cO
  show _=_
  rw[<-cO]
 have hlen:¬(sk.length:Int)<ar op:=by simpa using hlen
 rw[aj hlen]at cO
 obtain⟨a,ha⟩:∃a:Nat,ar op=a:=⟨(ar op).toNat,by omega⟩
 rw[ha]at cO JB hlen EN⊢
 have aip:a<=sk.length:=by omega
 have e6:idx (dZ st++aqO (m+1) (0:Int)) (st.length:Int)=aa 0:=by
  rw[aF (by simp)];rw[are (by simp)];simp
 rw[e6]
 have hw:aqJ.wrap (((dZ sk).length:Int)-(a:Int))=((sk.length-a:Nat):Int):=by
  rw[arb,aH (by omega) (by omega)];omega
 have hs:pZ (a:Int) st.length sk=(if a=0 then st.length else sk.getD (sk.length-a) 0):=by
  unfold pZ;by_cases h0:a=0
  .subst h0;simp
  .grind
 simp only[aqI,D1,hw];refine Wp.seq (· =dZ (st++[pZ (a:Int) st.length sk])++aqO m (0:Int)) ?_ ?_
 .refine Wp.dec (λh=>?_) λh=>?_
  .have aI:sk.length-a<(dZ sk).length:=by simp;omega
   rw[aF aI]
   have e9:idx (dZ (st++[st.length])++aqO m (0:Int)) (st.length:Int)=aa (st.length:Int):=by
    rw[aF (by simp)];rw[aqX (by simp)];simp
   simp only[aqI,e9,List.getElem_map,xD];refine .some ?_
   grind
  .refine .some ?_
   grind
 .rintro _ rfl
  generalize pZ (a:Int) st.length sk=s at cO⊢
  have Ij:gD (dZ sk) (0:Int) ((sk.length-a:Nat):Int)=aa (dZ (sk.take (sk.length-a))):=by
   rw[jC (by simp)];simp
  have e11:idx (dZ (st++[s])++aqO m (0:Int)) (st.length:Int)=aa (s:Int):=by
   rw[aF (by simp)];rw[aqX (by simp)];simp
  have Yj:cf (dZ (sk.take (sk.length-a))) [(s:Int)]=aa (dZ (sk.take (sk.length-a)++[s])):=by
   rw[br (by simp;omega)];simp
  rw[Ij];simp only[aqI,e11,Yj]
  have hl:(dZ (sk.take (sk.length-a)++[s])).length=sk.length-a+1:=by simp
  rw[hl];rw[aqR]at cO
  refine Wp.dec (λh=> .some ?_) λh=> .some ?_
  .rw[al (by omega)]at cO
   show _=_
   rw[<-cO]
  .rw[aj (by omega)]at cO;rw[aU (by omega)];refine⟨⟨st++[s],sk.take (sk.length-a)++[s],?_,by simp;omega,by simp;omega,?_⟩,by grind⟩
   all_goals grind
def oW.all(s:uB):oW s:=λe hw=>by
 apply Wp.eq;unfold M.iO;simp only[vq,Rp,Rq,W_,aw,ax,reduceCtorEq];refine⟨λh=>by unfold G0;rw[al h],λh0=>?_⟩;obtain⟨h48,dG,cV,Q0,HY⟩:=Lg h0
 have hT:G0 e s=match p4 s e 0 []with
  | .inl (i,c)=>(((0:Int),(0:Int)),(i:Int),c)
  | .inr kz=>(kz.headD ((0:Int),(0:Int)),0,0):=by unfold G0;rw[aj (by omega)]<;>cases p4 s e 0 []<;>rfl
 refine Wp.count (λs=>s.1) e.length (λk q=>∃st sk,q.2.length=sk.length/\ji e 0 [] []=ji (e.drop k) k st sk/\p4 s e 0 []=p4 s (e.drop k) k q.2/\q.2.length<=k/\(0<k->q.2≠[])/\∀t∈q.2,uN t) (by omega) rfl (by grind) λk q hk hs hJ=>?_
 obtain⟨i,kz⟩:=q;obtain⟨st,sk,hl,hr,ht,NH,oZ,aiC⟩:=hJ;dsimp only at hs hl ht NH oZ aiC;subst hs;simp only[W_,aw,ax,reduceCtorEq,aS,aR];refine⟨λaI=>?_,λhge=>?_⟩
 .have aI:k<e.length:=by omega
  rw[aq6 aI,ji]at hr;rw[aq6 aI,p4]at ht;rw[HY]at hr;have ha3:=lR e[k].1;split at hr
  .cases hr
  split at hr
  .cases hr
  split at hr
  .cases hr
  rename_i ha0 ha1 ha2
  have w1:aqJ.wrap ((kz.length:Int)-ar e[k].1)=((kz.length-(ar e[k].1).toNat:Nat):Int):=by rw[aH (by omega) (by omega)];omega
  have hd:((kz.drop (kz.length-(ar e[k].1).toNat)).length:Int)=ar e[k].1:=by rw[List.length_drop];omega
  have hwk:=hw _ (aqN aI)
  have hdn:∀t∈kz.drop (kz.length-(ar e[k].1).toNat),uN t:=(by grind)
  have hp:=ab2 e[k] _ s hwk hd hdn;have Bi:=U3 e[k] _ s hwk hd hdn
  have bad:∀c:Int,c≠0->(Rc e[k] (kz.drop (kz.length-(ar e[k].1).toNat)) s).2=c->(((0:Int),(0:Int)),(k:Int),c)=G0 e s:=(by grind)
  have rest:¬((e[k].2:Int)≠0/\¬((1<=(e[k].1:Int)/\(e[k].1:Int)<=8)\/(14<=(e[k].1:Int)/\(e[k].1:Int)<=16)\/(e[k].1:Int)=33\/(e[k].1:Int)=34\/(36<=(e[k].1:Int)/\(e[k].1:Int)<=39)))->M.bu aJ e[k] (kz.drop (kz.length-(ar e[k].1).toNat)) s=aa (Rc e[k] (kz.drop (kz.length-(ar e[k].1).toNat)) s):=λh=>by
   rw[<-hp];exact(aj h).symm
  have cond:((e[k].2:Int)≠0/\¬((1<=(e[k].1:Int)/\(e[k].1:Int)<=8)\/(14<=(e[k].1:Int)/\(e[k].1:Int)<=16)\/(e[k].1:Int)=33\/(e[k].1:Int)=34\/(36<=(e[k].1:Int)/\(e[k].1:Int)<=39)))->(Rc e[k] (kz.drop (kz.length-(ar e[k].1).toNat)) s).2=2:=λh=>by
   have:aa (Rc e[k] (kz.drop (kz.length-(ar e[k].1).toNat)) s)=aa (((0:Int),(0:Int)),(2:Int)):=by
    rw[<-hp];exact al h
   grind
  have Ed:¬((e[k].2:Int)≠0/\¬((1<=(e[k].1:Int)/\(e[k].1:Int)<=8)\/(14<=(e[k].1:Int)/\(e[k].1:Int)<=16)\/(e[k].1:Int)=33\/(e[k].1:Int)=34\/(36<=(e[k].1:Int)/\(e[k].1:Int)<=39)))->Wp (M.bu aJ e[k] (kz.drop (kz.length-(ar e[k].1).toNat)) s) λy9=>(¬(y9.2:Int)=0->(((0:Int),(0:Int)),(k:Int),y9.2)=G0 e s)/\((y9.2:Int)=0->Wp (cf (kz.take (kz.length-(ar e[k].1).toNat)) [y9.1]) λx=>k<e.length/\aqJ.wrap ((k:Int)+1)=((k+1:Nat):Int)/\∃st sk,x.length=sk.length/\ji e 0 [] []=ji (e.drop (k+1)) (k+1) st sk/\p4 s e 0 []=p4 s (e.drop (k+1)) (k+1) x/\x.length<=k+1/\(0<k+1->x≠[])/\∀t∈x,uN t):=λh=>by
   rw[rest h];refine .some ⟨λhc=>bad _ hc rfl,λhc=>?_⟩;rw[aj (λg=>g hc)]at ht;refine lZ.2 ⟨by grind,aI,bF (m:=e.length) (by omega) aI,_,_,?_,HY.trans hr,ht,?_,λ_=>by simp,λt h=>?_⟩
   .grind
   all_goals grind
  simp only[aF aI,w1,jC (show kz.length-(ar e[k].1).toNat<=kz.length by omega),pA (l:=kz) (kz.length-(ar e[k].1).toNat) kz.length rfl rfl (by omega) (aqS _),ara,W_,aw,ax,reduceCtorEq];exact⟨λh1=>⟨λh2=>bad 2 (by decide) (cond ⟨h1,h2⟩),λh2=>Ed λg=>g.2 h2⟩,λh1=>Ed λg=>g.1 h1⟩
 .obtain rfl:k=e.length:=by omega
  rw[List.drop_length,p4]at ht;rw[hT,ht];have:kz≠[]:=oZ (List.length_pos_iff.2 dG);obtain⟨a,l,rfl⟩:=List.exists_cons_of_ne_nil this;exact eZ.2 ⟨by simp,rfl⟩
end L
namespace L.P
def Eg{e:List Ty}{st:List Nat}(w:Whole e st){i:Nat}(hi:i<e.length):M.nE aJ e (i:Int)=aa (dZ (opsL st (ar e[i].1).toNat i)):=by
 rw[<-yj w hi];unfold M.nE M.mo M.kZ;rw[L.p3,L.vq,aqI,aqI,aqI]
 grind [P.CJ,P.dE,ol]
def NP{r:Vl×Int}(h:(fS r).2=0):(fS r).1=r.1:=by
 grind [P.fS]
def Hd(r:Vl×Int)(K:Option (Vl×Int)):(if(!decide (r.2=(0:Int)))=af then
 some (((0:Int),((0:Int),(0:Int))),r.2)
 else
 ((if(!decide (r.1.1=(1:Int)))=af then
 some af
 else
 (M.cE aJ r.1).bind λZl=>
 some (!Zl)):Option (Bool)).bind λj11=>
 (if j11=af then
 some (((0:Int),((0:Int),(0:Int))),(8:Int))
 else K))=if(fS r).2≠0 then aa (z3,(fS r).2)else K:=by
 grind [P.fS,P.gk,P.z3]
def JN(r:Vl×Int):(if(fS r).2≠0 then aa (z3,(fS r).2)else aa (r.1,(0:Int)))=aa (fS r):=by
 grind [P.fS]
def aiD(a:Int):((if decide (a=(23:Int))=af then aa af else(if decide (a=(24:Int))=af then aa af else aa (decide (a=(26:Int))))):Option Bool)=aa (decide (cI a)):=by
 grind [P.cI]
theorem Ru{e:List Ty}{st:List Nat}(w:Whole e st){env:bR.den}(he:kl env)(ht:AA env)(hw:∀n∈e,WF aD n):∀(f N i:Nat),i<f->i<e.length->2*f<=N->M.fj aJ N e (i:Int) env=aa (gI (mv env) e st f i):=by
 intro f
 induction f with
 |zero=>grind
 |succ f ih=>
  intro N i Ln hi hN;have v:=w.val;have hl:=w.le
  obtain⟨N,rfl⟩:∃m,N=m+2:=⟨N-2,by omega⟩
  have aiE:=v.ops hi
  have hge:e.getD i ((0,0):Int×Int)=e[i]:=by simp[arm,hi]
  have hlen:=ee st (ar e[i].1).toNat i;have EN:=lR e[i].1
  have Lo:∀M',2*f<=M'->∀o∈opsL st (ar e[i].1).toNat i,M.fj aJ M' e (o:Int) env=aa (gI (mv env) e st f o):=by
   intro M' hM' o ho;obtain⟨g1,_⟩:=aiE o ho;exact ih M' o (by omega) (by omega) hM'
  unfold gI M.fj;rw[hge,Eg w hi,aqI,aF hi,aqI,aiD,aqI];have Lp:=hw e[i] (aqN hi);generalize an1:opsL st (ar e[i].1).toNat i=ops at*;by_cases hz:cI e[i].1
  .rw[al hz,al (au hz)]
   have ha2:2<=ops.length/\((e[i].1:Int)=26->3<=ops.length):=by
    have:2<=ar e[i].1/\((e[i].1:Int)=26->ar e[i].1=3):=by
     revert hz;generalize(e[i].1:Int)=op;intro hz
     rcases hz with rfl|rfl|rfl<;>decide
    refine⟨by omega,λh=>?_⟩;have:=this.2 h;omega
   have gd:∀k(hk:k<ops.length),idx (dZ ops) (k:Int)=aa ((ops.getD k 0:Nat):Int)/\ops.getD k 0∈ops:=by
    intro k hk
    have:ops.getD k 0=ops[k]:=by simp[arm,hk]
    rw[this];refine⟨?_,aqN hk⟩;rw[aF (by simpa using hk)];simp
   obtain⟨i0,m0⟩:=gd 0 (by omega);obtain⟨i1,m1⟩:=gd 1 (by omega);rw[show((0:Nat):Int)=0 from rfl]at i0;rw[show((1:Nat):Int)=1 from rfl]at i1;have Iy:=Lo N (by omega) _ m0;have wY:=Lo N (by omega) _ m1;unfold M.rR;unfold GX;rw[aF hi,aqI];by_cases h2:(e[i].2:Int)=0
   rotate_left
   .rw[al (by simpa using h2),al h2];rfl
   rw[aj (by simpa using h2),aj (by simpa using h2),i0,aqI,Iy,aqI];generalize gI (mv env) e st f (ops.getD 0 0)=r;rw[Hd];by_cases hb0:(fS r).2=0
   rotate_left
   .grind
   have dG:¬(fS r).2≠0:=λg=>g hb0
   rw[aj dG,aj dG,NP hb0,aqI];by_cases h26:(e[i].1:Int)=26
   .obtain⟨i2,m2⟩:=gd 2 (by grind);rw[show((2:Nat):Int)=2 from rfl]at i2;have Kb:=Lo N (by omega) _ m2;rw[al (au h26)];by_cases hn:(r.1.2.2:Int)=1
    all_goals grind
   .rw[aj (by simpa using h26),aj (λg=>h26 g.1),aj h26,aqI]
    by_cases hc:((e[i].1:Int)=23)=((r.1.2.2:Int)=0)
    .grind
    .rw[aj hc,aj (by grind),i1,aqI,wY,aqI];generalize gI (mv env) e st f (ops.getD 1 0)=r';rw[Hd,JN];rfl
  .rw[aj hz,aj (by simpa using hz)];apply Wp.eq;refine Wp.join (Wp.loop (λs:Int×List Vl=>s.1=((s.2.length:Nat):Int)/\s.2.length<=ops.length/\gH (gI (mv env) e st f) (ops.take s.2.length)= .inl s.2) (λs=>(ops.length-s.1).toNat) ⟨by simp,by simp,by simp[gH]⟩ (by simp only;unfold aJ;omega) ?_)
   rintro⟨c,vs⟩ ⟨hs,MB,hva⟩
   dsimp only at hs MB hva⊢;subst hs;have wT:=tq ops vs.length MB vs hva
   refine Wp.dec (λhk=>?_) λhk=> .some ?_
   .have jh:vs.length<ops.length:=by simp at hk;omega
    have aiF:vs.length<(dZ ops).length:=by simpa using jh
    rw[aF aiF];simp only[aqI,List.getElem_map];rw[Lo (N+1) (by omega) _ (aqN jh)];simp only[aqI];have hd:ops.drop vs.length=ops[vs.length]::ops.drop (vs.length+1):=aq6 jh;rw[hd,gH]at wT;have aiG:ops.take (vs.length+1)=ops.take vs.length++[ops[vs.length]]:=List.take_succ_eq_append_getElem jh
    obtain⟨r,hr⟩:∃r,gI (mv env) e st f ops[vs.length]=r:=⟨_,rfl⟩
    rw[hr]at wT⊢;by_cases h0:r.2=0
    .rw[aj (by simp[h0]),br (by simp;omega),aqI,aU (by omega)]
     have oF:gH (gI (mv env) e st f) [ops[vs.length]]= .inl [r.1]:=by
      simp only[gH,hr];rw[al h0]
     have VP:=tq (g:=gI (mv env) e st f) (ops.take (vs.length+1)) vs.length (by simp;omega) vs (by grind);rw[aiG,List.drop_append_of_le_length (by simp;omega),List.drop_of_length_le (by simp;omega),List.nil_append,oF]at VP;refine .some ⟨⟨by simp,by simp;omega,?_⟩,by grind⟩
     grind
    .rw[al (by simp[h0])];rw[aj h0]at wT;refine .some ?_
     show _=_
     rw[wT];rfl
   .have hdn:ops.drop vs.length=[]:=(by grind)
    rw[hdn,gH]at wT;rw[wT]
    show Wp ((aa e[i]).bind λx47=>(M.la aJ x47 vs env).bind λy48=>aa (y48.1,y48.2)) _
    rw[aqI,<-JA he ht Lp (by omega),La he Lp (by omega)];simp only[List.append_nil];exact .some rfl
def NQ(e:List Ty):L.pD e=pD e:=aqL ((L.vq e).symm.trans (pE e))
def He{e:List Ty}{st:List Nat}(w:Whole e st){env:bR.den}(he:kl env)(ht:AA env)(hw:∀n∈e,WF aD n):M.mN aJ e env=aa (gI (mv env) e st e.length (e.length-1)):=by
 have oZ:0<e.length:=List.length_pos_iff.2 w.ne;have hle:=w.le;unfold M.mN M.rN M.sX;rw[L.p3,NQ,w.res]
 grind [aH,P.Ru,aJ]
end L.P
namespace L.P
end L.P
namespace L.P
def pK(N:Nat)(op:Int):M.gA N op=aa (decide (50<=op/\op<=53)):=by
 grind [M.gA]
def r9(N:Nat)(op:Int):M.dU N op=aa (decide (¬cI op/\(50<=op/\op<=53\/0<=ar op))):=by
 unfold M.dU;rw[DZ,pK,dE]
 grind [P.cI]
def gd(D:List Int)(k:Nat):Int:=D.getD k (-1)
theorem me{D:List Int}{t:Nat}(ht:t<D.length)(d:Int)(k:Nat):gd (D.set t d) k=if k=t then d else gd D k:=by
 grind [P.gd]
def oh{D:List Int}{t:Nat}(ht:t<D.length):idx D (t:Int)=aa (gd D t):=by
 rw[aF ht];simp[gd,arm,ht]
def p5(len:Nat)(D:List Int)(j:Nat)(n:Ty):Prop:=
 ((n.1:Int)=51/\∃t:Nat,(n.2:Int)=t/\j<t/\t<=len/\gd D t=gd D j)\/
 (((n.1:Int)=50\/(n.1:Int)=52\/(n.1:Int)=53)/\1<=gd D j/\gd D (j+1)=gd D j-1/\∃t:Nat,(n.2:Int)=t/\j<t/\t<=len/\gd D t=if(n.1:Int)=50 then gd D j-1 else gd D j)\/
 ((n.1:Int)≠51/\¬((n.1:Int)=50\/(n.1:Int)=52\/(n.1:Int)=53)/\0<=ar n.1/\ar n.1<=gd D j/\gd D (j+1)=gd D j-ar n.1+1/\gd D j-ar n.1+1<=12)
def Eh(n k:Nat):gd (aqO n (-1)) k= -1:=by
 grind [P.gd]
def Ei(n:Ty)(top:Vl):Bool:=decide (decide ((top.2.2:Int)=1)=decide ((n.1:Int)=53))
inductive dF(code:List Ty)(env:bR.den):Nat->List Vl->Vl×Int->Prop
 |done {v:Vl} {S:List Vl}:dF code env code.length (v::S) (v,0)
 |jump {p t:Nat} {S:List Vl} {r:Vl×Int} {n:Ty} (h:code[p]? =aa n) (tB:(n.1:Int)=51) (ht:(n.2:Int)=t) (JO:p<t) (A9:t<=code.length) (next:dF code env t S r):dF code env p S r
 |op {p a:Nat} {S:List Vl} {r:Vl×Int} {n:Ty} (h:code[p]? =aa n) (dG:¬(50<=(n.1:Int)/\(n.1:Int)<=53)) (ha:ar n.1=a) (hs:a<=S.length) (h0:(mv env n (S.drop (S.length-a))).2=0) (next:dF code env (p+1) (S.take (S.length-a)++[(mv env n (S.drop (S.length-a))).1]) r):dF code env p S r
 |fail {p a:Nat} {S:List Vl} {n:Ty} (h:code[p]? =aa n) (dG:¬(50<=(n.1:Int)/\(n.1:Int)<=53)) (ha:ar n.1=a) (hs:a<=S.length) (h0:(mv env n (S.drop (S.length-a))).2≠0):dF code env p S (z3,(mv env n (S.drop (S.length-a))).2)
 |cond {p t:Nat} {S:List Vl} {r:Vl×Int} {n:Ty} {top:Vl} (h:code[p]? =aa n) (fJ:(n.1:Int)=50\/(n.1:Int)=52\/(n.1:Int)=53) (ht:(n.2:Int)=t) (JO:p<t) (A9:t<=code.length) (hk:(top.1:Int)=1) (hv:(top.2.2:Int)=0\/(top.2.2:Int)=1) (next:dF code env (if Ei n top=af then t else p+1) (if Ei n top=ah\/(n.1:Int)=50 then S else S++[top]) r):dF code env p (S++[top]) r
end L.P
namespace L.P
abbrev Sg:Type:=bE.den
def us(op:Int):Prop:=(1<=op/\op<=8)\/(14<=op/\op<=16)\/op=33\/op=34\/(36<=op/\op<=39)
def Lq(N:Nat)(op:Int):Wp (M.fM N op) λb=>b=af↔us op:=by
 by_cases h:us op
 .have:op=1\/op=2\/op=3\/op=4\/op=5\/op=6\/op=7\/op=8\/op=14\/op=15\/op=16\/op=33\/op=34\/op=36\/op=37\/op=38\/op=39:=by unfold us at h;omega
  refine⟨af,?_,by simp[h]⟩
  rcases this with rfl|rfl|rfl|rfl|rfl|rfl|rfl|rfl|rfl|rfl|rfl|rfl|rfl|rfl|rfl|rfl|rfl<;>(show(_:Option Bool)=_;kernel_rfl)
 .refine⟨ah,?_,by simp[h]⟩
  have ne:∀k:Int,us k->decide (op=k)=ah:=(by grind)
  unfold M.fM;rw[ne 1 (by unfold us;omega),ne 2 (by unfold us;omega),ne 3 (by unfold us;omega),ne 4 (by unfold us;omega),ne 5 (by unfold us;omega),ne 6 (by unfold us;omega),ne 7 (by unfold us;omega),ne 8 (by unfold us;omega),ne 14 (by unfold us;omega),ne 15 (by unfold us;omega),ne 16 (by unfold us;omega),ne 33 (by unfold us;omega),ne 34 (by unfold us;omega),ne 36 (by unfold us;omega),ne 37 (by unfold us;omega),ne 38 (by unfold us;omega),ne 39 (by unfold us;omega)];rfl
abbrev Lr(k:Int):Prop:=k=2\/k=3\/k=4
def tC(N:Nat)(k:Int):M.fi N k=aa (decide (Lr k)):=by
 unfold M.fi Lr
 grind
def Ls(N:Nat)(m:Int):M.ig N m=aa (decide (0<=m/\m<=5)):=by
 grind [M.ig]
def RT(op:Int)(ts:List Ty)(t:Ty):Prop:=
 (op=10/\∃a:Ty,ts=[a]/\Lr a.1/\t=a)\/
 (op=25/\∃a:Ty,ts=[a]/\(a.1:Int)=1/\t=((1:Int),(0:Int)))\/
 ((op=31\/op=32)/\∃a:Ty,ts=[a]/\(a.1:Int)=5/\t=((2:Int),(0:Int)))\/
 ((op=11\/op=12)/\∃a:Ty,ts=[a,a]/\Lr a.1/\t=a)\/
 (op=13/\∃a b:Ty,ts=[a,b]/\(b.1:Int)=2/\((a.1:Int)=2\/(a.1:Int)=3)/\t=(a.1,(0:Int)))\/
 (op=14/\∃a b:Ty,ts=[a,b]/\(b.1:Int)=4/\((a.1:Int)=3\/(a.1:Int)=4)/\t=(a.1,(0:Int)))\/
 (op=15/\∃a b:Ty,ts=[a,b]/\(((b.1:Int)=2/\((a.1:Int)=2\/(a.1:Int)=3)/\t=(a.1,(0:Int)))\/((a.1:Int)=3/\(b.1:Int)=3/\t=((4:Int),(0:Int)))))\/
 (op=16/\∃a b:Ty,ts=[a,b]/\(a.1:Int)=3/\(b.1:Int)=3/\t=a)\/
 ((op=17\/op=18)/\∃a:Ty,ts=[a,a]/\(Lr a.1\/(a.1:Int)=5)/\t=a)\/
 ((op=19\/op=20)/\∃a:Ty,ts=[a,a]/\t=((1:Int),(0:Int)))\/
 ((op=21\/op=22)/\∃a:Ty,ts=[a,a]/\(Lr a.1\/(a.1:Int)=5)/\t=((1:Int),(0:Int)))\/
 ((op=23\/op=24)/\∃a b:Ty,ts=[a,b]/\(a.1:Int)=1/\(b.1:Int)=1/\t=((1:Int),(0:Int)))\/
 (op=26/\∃a b:Ty,ts=[a,b,b]/\(a.1:Int)=1/\t=b)\/
 ((op=27\/op=28)/\∃a b:Ty,ts=[a,b]/\(a.1:Int)=5/\(b.1:Int)=2/\t=a)\/
 ((op=29\/op=30)/\∃a b:Ty,ts=[a,b]/\(a.1:Int)=5/\(b.1:Int)=5/\t=((2:Int),(0:Int)))
def CL(a b:Ty):o6 aD a b=decide (a=b):=by
 grind [o6]
def pG{α:Type}{a:α}{l:List α}:idx (a::l) (0:Int)=aa a:=rfl
def wB{α:Type}{a b:α}{l:List α}:idx (a::b::l) (1:Int)=aa b:=rfl
def Yt{α:Type}{a b c:α}{l:List α}:idx (a::b::c::l) (2:Int)=aa c:=rfl
def ab4{α:Type}{l:List α}(h:l.length=1):∃a,l=[a]:=by
 match l,h with
 |[a],_=>grind
def JP{α:Type}{l:List α}(h:l.length=2):∃a b,l=[a,b]:=by
 match l,h with
 |[a,b],_=>grind
def Hf{α:Type}{l:List α}(h:l.length=3):∃a b c,l=[a,b,c]:=by
 match l,h with
 |[a,b,c],_=>grind
def JQ(N:Nat)(op:Int)(a b:Int):Wp (M.jv N op a b) λr=>r.2=af->(op=14/\b=4/\(a=3\/a=4)/\r.1=(a,(0:Int)))\/(op≠14/\b=2/\(a=2\/a=3)/\r.1=(a,(0:Int)))\/(op=15/\a=3/\b=3/\r.1=((4:Int),(0:Int))):=by
 unfold M.jv
 refine Wp.dec (λh=>?_) λh=>?_
 .by_cases h1:b=4
  .by_cases h2:a=3
   .simp only[au h1,au h2,if_true,aqI];exact .some λ_=> .inl ⟨h,h1, .inl h2,rfl⟩
   .simp only[au h1,av h2,if_true,aqM,if_false,aqI];exact .some (by grind)
  .simp only[av h1,aqM,if_false,aqI];exact .some λh=>by cases h
 .refine Wp.dec (λh1=>?_) λh1=>?_
  .by_cases h2:a=2
   .simp only[au h2,if_true,aqI];exact .some (by grind)
   .simp only[av h2,aqM,if_false,aqI];exact .some (by grind)
  .by_cases h3:op=15/\a=3/\b=3
   .obtain⟨g1,g2,g3⟩:=h3;simp only[au g1,au g2,au g3,if_true,aqI];exact .some (by grind)
   .have:(if decide (op=15)=af then(if decide (a=3)=af then aa (decide (b=3))else aa ah)else aa ah)=aa ah:=by
     by_cases g1:op=15<;>by_cases g2:a=3<;>by_cases g3:b=3<;>simp_all
    rw[this]
    exact .some λh=>by cases h
def NR(N:Nat)(op:Int)(ts:List Ty)(hl:(ts.length:Int)=ar op):Wp (M.dq N op ts) λr=>r.2=af->RT op ts r.1:=by
 unfold M.dq
 have one:ar op=1->∃a,ts=[a]:=λh=>ab4 (by omega)
 have two:ar op=2->∃a b,ts=[a,b]:=λh=>JP (by omega)
 refine Wp.dec (λh=>?_) λh1=>?_
 .obtain⟨a,rfl⟩:=one (by rw[h];rfl);simp only[pG,aqI,tC]
  exact .some λh'=> .inl ⟨h,a,rfl,by simpa using h',rfl⟩
 refine Wp.dec (λh=>?_) λh2=>?_
 .obtain⟨a,rfl⟩:=one (by rw[h];rfl);simp only[pG,aqI]
  exact .some λh'=> .inr (.inl ⟨h,a,rfl,by simpa using h',rfl⟩)
 rw[tj];simp only[aqI]
 refine Wp.dec (λh=>?_) λh3=>?_
 .obtain⟨a,b,rfl⟩:=two (by rcases h with h|h<;>rw[h]<;>rfl);simp only[pG,wB,aqI,tC,CL];by_cases yB:a=b
  .subst yB;simp only[decide_true,if_true,aqI]
   exact .some λh'=> .inr (.inr (.inr (.inl ⟨h,a,rfl,by simpa using h',rfl⟩)))
  .simp only[av yB,aqM,if_false,aqI]
   exact .some λh'=>by cases h'
 rw[DZ];simp only[aqI]
 refine Wp.dec (λh=>?_) λh4=>?_
 .obtain⟨a,b,rfl⟩:=two (by rcases h with h|h|h<;>rw[h]<;>rfl);simp only[pG,wB,aqI]
  refine Wp.seq _ (JQ ..) λr hr=> .some λh'=>?_
  rcases hr h' with⟨g1,g2,g3,g4⟩|⟨g1,g2,g3,g4⟩|⟨g1,g2,g3,g4⟩
  .exact .inr (.inr (.inr (.inr (.inr (.inl ⟨g1,a,b,rfl,g2,g3,g4⟩)))))
  .rcases h with h|h|h
   .exact .inr (.inr (.inr (.inr (.inl ⟨h,a,b,rfl,g2,g3,g4⟩))))
   .exact absurd h g1
   .exact .inr (.inr (.inr (.inr (.inr (.inr (.inl ⟨h,a,b,rfl, .inl ⟨g2,g3,g4⟩⟩))))))
  .exact .inr (.inr (.inr (.inr (.inr (.inr (.inl ⟨g1,a,b,rfl, .inr ⟨g2,g3,g4⟩⟩))))))
 refine Wp.dec (λh=>?_) λh5=>?_
 .obtain⟨a,b,rfl⟩:=two (by rw[h];rfl);simp only[pG,wB,aqI];by_cases g1:(a.1:Int)=3
  .simp only[au g1,if_true,aqI]
   exact .some λh'=> .inr (.inr (.inr (.inr (.inr (.inr (.inr (.inl ⟨h,a,b,rfl,g1,by simpa using h',rfl⟩)))))))
  .simp only[av g1,aqM,if_false,aqI]
   exact .some λh'=>by cases h'
 rw[tj];simp only[aqI]
 refine Wp.dec (λh=>?_) λh6=>?_
 .obtain⟨a,b,rfl⟩:=two (by rcases h with h|h<;>rw[h]<;>rfl);simp only[pG,wB,aqI,tC,CL];by_cases yB:a=b
  .subst yB;simp only[decide_true,if_true]
   have mk:(Lr a.1\/(a.1:Int)=5)->RT op [a,a] a:=λh'=> .inr (.inr (.inr (.inr (.inr (.inr (.inr (.inr (.inl ⟨h,a,rfl,h',rfl⟩))))))))
   by_cases hn:Lr a.1
   .simp only[au hn,if_true,aqI]
    exact .some λ_=>mk (.inl hn)
   .simp only[av hn,aqM,if_false,aqI]
    exact .some λh'=>mk (.inr (by simpa using h'))
  .simp only[av yB,aqM,if_false,aqI]
   exact .some λh'=>by cases h'
 rw[tj];simp only[aqI]
 refine Wp.dec (λh=>?_) λh7=>?_
 .obtain⟨a,b,rfl⟩:=two (by rcases h with h|h<;>rw[h]<;>rfl);simp only[pG,wB,aqI,CL]
  refine .some λh'=> .inr (.inr (.inr (.inr (.inr (.inr (.inr (.inr (.inr (.inl ⟨h,a,?_,rfl⟩)))))))))
  have:a=b:=by simpa using h'
  rw[this]
 rw[tj];simp only[aqI]
 refine Wp.dec (λh=>?_) λh8=>?_
 .obtain⟨a,b,rfl⟩:=two (by rcases h with h|h<;>rw[h]<;>rfl);simp only[pG,wB,aqI,tC,CL];by_cases yB:a=b
  .subst yB;simp only[decide_true,if_true]
   have mk:(Lr a.1\/(a.1:Int)=5)->RT op [a,a] ((1:Int),(0:Int)):=λh'=> .inr (.inr (.inr (.inr (.inr (.inr (.inr (.inr (.inr (.inr (.inl ⟨h,a,rfl,h',rfl⟩))))))))))
   by_cases hn:Lr a.1
   .simp only[au hn,if_true,aqI]
    exact .some λ_=>mk (.inl hn)
   .simp only[av hn,aqM,if_false,aqI]
    exact .some λh'=>mk (.inr (by simpa using h'))
  .simp only[av yB,aqM,if_false,aqI]
   exact .some λh'=>by cases h'
 rw[tj];simp only[aqI]
 refine Wp.dec (λh=>?_) λh9=>?_
 .obtain⟨a,b,rfl⟩:=two (by rcases h with h|h<;>rw[h]<;>rfl);simp only[pG,wB,aqI];by_cases g1:(a.1:Int)=1
  .simp only[au g1,if_true,aqI]
   exact .some λh'=> .inr (.inr (.inr (.inr (.inr (.inr (.inr (.inr (.inr (.inr (.inr (.inl ⟨h,a,b,rfl,g1,by simpa using h',rfl⟩)))))))))))
  .simp only[av g1,aqM,if_false,aqI]
   exact .some λh'=>by cases h'
 refine Wp.dec (λh=>?_) λh10=>?_
 .obtain⟨a,b,c,rfl⟩:=Hf (l:=ts) (by rw[h]at hl;have:ar 26=3:=rfl;omega);simp only[pG,wB,Yt,aqI,CL];by_cases g1:(a.1:Int)=1
  .simp only[au g1,if_true,aqI]
   refine .some λh'=> .inr (.inr (.inr (.inr (.inr (.inr (.inr (.inr (.inr (.inr (.inr (.inr (.inl ⟨h,a,b,?_,g1,rfl⟩))))))))))))
   have:b=c:=by simpa using h'
   rw[this]
  .simp only[av g1,aqM,if_false,aqI]
   exact .some λh'=>by cases h'
 rw[tj];simp only[aqI]
 refine Wp.dec (λh=>?_) λh11=>?_
 .obtain⟨a,b,rfl⟩:=two (by rcases h with h|h<;>rw[h]<;>rfl);simp only[pG,wB,aqI];by_cases g1:(a.1:Int)=5
  .simp only[au g1,if_true,aqI]
   exact .some λh'=> .inr (.inr (.inr (.inr (.inr (.inr (.inr (.inr (.inr (.inr (.inr (.inr (.inr (.inl ⟨h,a,b,rfl,g1,by simpa using h',rfl⟩)))))))))))))
  .simp only[av g1,aqM,if_false,aqI]
   exact .some λh'=>by cases h'
 rw[tj];simp only[aqI]
 refine Wp.dec (λh=>?_) λS8=>?_
 .obtain⟨a,b,rfl⟩:=two (by rcases h with h|h<;>rw[h]<;>rfl);simp only[pG,wB,aqI];by_cases g1:(a.1:Int)=5
  .simp only[au g1,if_true,aqI]
   exact .some λh'=> .inr (.inr (.inr (.inr (.inr (.inr (.inr (.inr (.inr (.inr (.inr (.inr (.inr (.inr ⟨h,a,b,rfl,g1,by simpa using h',rfl⟩)))))))))))))
  .simp only[av g1,aqM,if_false,aqI]
   exact .some λh'=>by cases h'
 rw[tj];simp only[aqI]
 refine Wp.dec (λh=>?_) λh13=> .some λh'=>by cases h'
 .obtain⟨a,rfl⟩:=one (by rcases h with h|h<;>rw[h]<;>rfl);simp only[pG,aqI]
  exact .some λh'=> .inr (.inr (.inl ⟨h,a,rfl,by simpa using h',rfl⟩))
def mH(t:Ty)(n:Nat):Prop:=(1<=(t.1:Int)/\(t.1:Int)<=5/\(t.2:Int)=0)\/((t.1:Int)=6/\0<=(t.2:Int)/\(t.2:Int)<n)
instance(t:Ty)(n:Nat):Decidable (mH t n):=by unfold mH;exact inferInstance
def AN(N:Nat)(t:Ty)(E:List b9.den):M.cY N t E=aa (decide (mH t E.length)):=by
 obtain⟨(k:Int),(u:Int)⟩:=t;unfold M.cY;dsimp only[aC,Row.den];rw[GJ];simp only[aqI]
 grind [P.mH]
def p6(N:Nat)(n k:Int)(s:Sg)(hk:1<=k/\k<=5):Wp (M.dy N n k s) λr=>r.2=0->r.1=(k,(0:Int)):=by
 unfold M.dy
 refine Wp.seq (λ_=>True) ?_ λy _=>?_
 .unfold M.iN;dsimp only[aC,Row.den];rw[AN];simp only[aqI]
  refine Wp.ite (λ_=> .some trivial) λ_=>?_
  refine Wp.dec (λ_=> .some trivial) λ_=>?_
  refine Wp.dec (λ_=> .some trivial) λ_=>?_
  refine Wp.dec (λ_=> .some trivial) λ_=>?_
  refine Wp.dec (λ_=> .some trivial) λ_=>?_
  refine Wp.dec (λ_=> .some trivial) λ_=>by omega
 refine Wp.seq (λ_=>True) (Wp.ite (λ_=> .some trivial) λ_=> .some trivial) λj _=>?_
 refine Wp.ite (λ_=> .some ?_) λ_=> .some ?_
 all_goals grind
def U4(N:Nat)(m:Int)(hm:m<=9223372036854775807)(s:Sg):Wp (M.cD N m s) λr=>r.2=0->0<=m/\r.1=((6:Int),aqJ.wrap (aqW m 16)):=by
 unfold M.cD
 refine Wp.dec (λ_=> .some λh=>by cases h) λh0=>?_
 have e:aqW m 16=m/16:=aq0 (by omega)
 have w:aqJ.wrap (aqW m 16)=m/16:=by rw[e,aH (by omega) (by omega)]
 refine Wp.seq (λ_=>True) ?_ λj _=>Wp.ite (λ_=> .some λh=>by cases h) λ_=> .some λ_=>⟨by omega,rfl⟩
 refine Wp.dec (λ_=> .some trivial) λh1=>?_
 rw[w]at h1⊢
 exact Wp.seq (λ_=>True) (Wp.iz (by omega) (by omega) λ_ _ _=>trivial) λ_ _=> .some trivial
def Lst(n:Int)(ts:List Ty)(s:Sg)(t:Ty):Prop:=∃k:Nat,n=k/\ts[k]? =aa t/\mH t s.1.length
def xI(N:Nat)(n:Int)(ts:List Ty)(s:Sg):Wp (M.fF N n ts s) λr=>r.2=0->Lst n ts s r.1:=by
 unfold M.fF;simp only[aQ,aqI,l4]
 refine Wp.ite (λ_=> .some λh=>by cases h) λh=>?_
 simp only[Bool.or_eq_true,az,not_or]at h
 obtain⟨k,rfl⟩:∃k:Nat,n=k:=⟨n.toNat,by omega⟩
 have hk:k<ts.length:=by omega
 rw[aF hk];simp only[aqI,AN]
 refine Wp.ite (λ_=> .some λh=>by cases h) λhv=> .some λ_=>⟨k,rfl,aqK hk,by grind⟩
def Tb(op m:Int)(a:Ty)(s:Sg)(t:Ty):Prop:=∃(k:Nat)(T:aP.den),s.2.1[k]? =aa T/\mH T.2.1 s.1.length/\mH T.2.2.1 s.1.length/\a=T.2.1/\((op=34/\0<=m/\0<=aqY m 8/\aqY m 8<=5/\aqJ.wrap (aqW m 8)=k/\(T.2.1.1:Int)=3/\(T.2.2.1.1:Int)=4/\t=T.2.1)\/(op≠34/\m=k/\t=T.2.2.1))
def Rv(N:Nat)(op m:Int)(a:Ty)(s:Sg):Wp (M.ju N (op,m) a s) λr=>r.2=0->Tb op m a s r.1:=by
 unfold M.ju;dsimp only[aC,Row.den];refine Wp.join (Wp.mono (Q:=λx=>(∃j,x=arj j/\((op=34/\0<=m/\0<=aqY m 8/\aqY m 8<=5/\aqJ.wrap (aqW m 8)=j)\/(op≠34/\m=j)))\/∃r,x=arc r/\r.2≠0) ?_ ?_)
 .refine Wp.dec (λh=>?_) λh=> .some (.inl ⟨_,rfl, .inr ⟨h,rfl⟩⟩)
  rw[Ls];simp only[aqI]
  refine Wp.seq (λj=>j=ah->0<=m/\0<=aqY m 8/\aqY m 8<=5) ?_ λj hj=>?_
  .refine Wp.dec (λ_=> .some λh=>by cases h) λh=> .some λh'=>⟨by omega,?_⟩
   grind
  .refine Wp.ite (λ_=> .some (.inr ⟨_,rfl,by simp⟩)) λhc=>?_
   obtain⟨g1,g2,g3⟩:=hj (by simpa using hc);exact .some (by grind)
 rintro _ (⟨j,rfl,hj⟩|⟨r,rfl,hr⟩)
 case inr=>exact λh=>absurd h hr
 show Wp _ _
 refine Wp.seq (λb=>b=ah->0<=j/\j<s.2.1.length) ?_ λb hb=>?_
 .exact Wp.dec (λ_=> .some λh=>by cases h) λh=> .some λh'=>by grind
 refine Wp.ite (λ_=> .some λh=>by cases h) λhc=>?_
 obtain⟨j0,j1⟩:=hb (by simpa using hc)
 obtain⟨k,rfl⟩:∃k:Nat,j=k:=⟨j.toNat,by omega⟩
 have hk:k<s.2.1.length:=by omega
 have get:=aqK hk;rw[aF hk];generalize s.2.1[k]=T at get;simp only[aqI,AN,CL]
 refine Wp.seq (λb=>b=ah->mH T.2.1 s.1.length/\mH T.2.2.1 s.1.length/\a=T.2.1) ?_ λb hb=>?_
 .refine Wp.ite (λ_=> .some λh=>by cases h) λh1=>?_
  refine Wp.ite (λ_=> .some λh=>by cases h) λh2=> .some (by grind)
 refine Wp.ite (λ_=> .some λh=>by cases h) λhc=>?_
 obtain⟨v1,v2,v3⟩:=hb (by simpa using hc)
 refine Wp.dec (λIa=>?_) λIa=> .some λ_=>?_
 .refine Wp.seq (λb=>b=ah->(T.2.1.1:Int)=3/\(T.2.2.1.1:Int)=4) ?_ λb hb=>?_
  .exact Wp.mO (λ_=> .some λh=>by cases h) λh=> .some λh'=>⟨h,by simpa using h'⟩
  refine Wp.ite (λ_=> .some λh=>by cases h) λhc=> .some λ_=>?_
  obtain⟨w1,w2⟩:=hb (by simpa using hc)
  rcases hj with⟨_,g1,g2,g3,g4⟩|⟨g,_⟩
  .exact⟨k,T,get,v1,v2,v3,(by grind)⟩
  grind
 .rcases hj with⟨g,_⟩|⟨_,g⟩
  .grind
  .exact⟨k,T,get,v1,v2,v3, .inr ⟨Ia,g,rfl⟩⟩
def Mb(op m:Int)(s:Sg)(t:Ty):Prop:=Lst m s.2.2.2.2.1 s t/\(op=36->(t.1:Int)=2\/(t.1:Int)=3)/\(op=37\/op=38->(t.1:Int)=1)/\(op=39->Lr t.1\/(t.1:Int)=5)
def NS(N:Nat)(op m:Int)(s:Sg):Wp (M.bY N (op,m) s) λr=>r.2=0->(op=35/\r.1=((2:Int),(0:Int)))\/(op≠35/\Mb op m s r.1):=by
 unfold M.bY;dsimp only[aC,Row.den];simp only[tj,tC,aqI]
 refine Wp.ite (λ_=> .some λh=>by cases h) λ_=>?_
 refine Wp.dec (λh=> .some λ_=> .inl ⟨h,rfl⟩) λGQ=>?_
 refine Wp.seq _ (xI ..) λy hy=>?_
 refine Wp.mO (λh=> .some ?_) λh0=>?_
 .grind
 have hL:=hy h0
 refine Wp.seq (λb=>b=af->(op=36->(y.1.1:Int)=2\/(y.1.1:Int)=3)/\(op=37\/op=38->(y.1.1:Int)=1)/\(op=39->Lr y.1.1\/(y.1.1:Int)=5)) ?_ λb hb=>?_
 .refine Wp.dec (λh=>?_) λZf=>?_
  .refine Wp.dec (λh2=> .some λ_=>⟨λ_=> .inl h2,λg=>by omega,λg=>by omega⟩) λ_=> .some (by grind)
  refine Wp.dec (λh=> .some (by grind)) λh37=>?_
  refine Wp.dec (λh=>?_) λ_=> .some λh=>by cases h
  refine Wp.dec (λh2=> .some λ_=>⟨λg=>absurd g Zf,λg=>absurd g h37,λ_=> .inl h2⟩) λ_=> .some (by grind)
 refine Wp.ite (λ_=> .some λh=>by cases h) λhc=> .some λ_=> .inr ⟨GQ,hL,hb (by simpa using hc)⟩
def NT(op m:Int)(ts:List Ty)(s:Sg)(t:Ty):Prop:=
 ((1<=op/\op<=5)/\t=(op,(0:Int)))\/
 (op=6/\0<=m/\t=((6:Int),aqJ.wrap (aqW m 16)))\/
 (op=7/\Lst m s.2.2.1 s t)\/
 (op=8/\Lst m s.2.2.2.1 s t)\/
 (op=9/\t=((5:Int),(0:Int)))\/
 ((op=33\/op=34)/\∃a,ts=[a]/\Tb op m a s t)\/
 (op=35/\t=((2:Int),(0:Int)))\/
 ((op=36\/op=37\/op=38\/op=39)/\Mb op m s t)\/
 ((op=14\/op=15\/op=16->0<=m/\m<=5)/\RT op ts t)
def U5(N:Nat)(op m:Int)(hm:m<=9223372036854775807)(ts:List Ty)(s:Sg)(hl:(ts.length:Int)=ar op):Wp (M.bu N (op,m) ts s) λr=>r.2=0->NT op m ts s r.1:=by
 unfold M.bu;dsimp only[aC,Row.den];simp only[tj op 33 34,DZ op 14 15 16,GJ op 35 36 37 38 39,Ls,aqI]
 have fin:∀Q:Ty×Int->Prop,((op=14\/op=15\/op=16->0<=m/\m<=5)->∀t,RT op ts t->Q (t,0))->Q (((0:Int),(0:Int)),8)->((op=14\/op=15\/op=16)->0<=m/\m<=5)->Wp ((M.dq N op ts).bind λy17=>if(!y17.2)=af then aa (((0:Int),(0:Int)),(8:Int))else aa (y17.1,(0:Int))) Q:=by
  intro Q hq h8 Ov
  refine Wp.seq _ (NR N op ts hl) λy hy=>?_
  refine Wp.ite (λ_=> .some h8) λh=> .some (hq Ov _ (hy (by simpa using h)))
 refine Wp.join ?_
 refine Wp.dec (λh=>Wp.seq _ (p6 _ _ 1 _ (by omega)) λr hr=> .some λh'=> .inl ⟨by omega,by grind⟩) λh1=>?_
 refine Wp.dec (λh=>Wp.seq _ (p6 _ _ 2 _ (by omega)) λr hr=> .some λh'=> .inl ⟨by omega,by grind⟩) λh2=>?_
 refine Wp.dec (λh=>Wp.seq _ (p6 _ _ 3 _ (by omega)) λr hr=> .some λh'=> .inl ⟨by omega,by grind⟩) λh3=>?_
 refine Wp.dec (λh=>Wp.seq _ (p6 _ _ 4 _ (by omega)) λr hr=> .some λh'=> .inl ⟨by omega,by grind⟩) λh4=>?_
 refine Wp.dec (λh=>Wp.seq _ (p6 _ _ 5 _ (by omega)) λr hr=> .some λh'=> .inl ⟨by omega,by grind⟩) λh5=>?_
 refine Wp.dec (λh=>Wp.seq _ (U4 _ _ hm _) λr hr=> .some λh'=> .inr (.inl ⟨h,hr h'⟩)) λh6=>?_
 refine Wp.dec (λh=>Wp.seq _ (xI ..) λr hr=> .some λh'=> .inr (.inr (.inl ⟨h,hr h'⟩))) λh7=>?_
 refine Wp.dec (λh=>Wp.seq _ (xI ..) λr hr=> .some λh'=> .inr (.inr (.inr (.inl ⟨h,hr h'⟩)))) λh8=>?_
 refine Wp.dec (λh=> .some λh'=> .inr (by grind)) λh9=>?_
 refine Wp.dec (λh=>?_) λh33=>?_
 .obtain⟨a,rfl⟩:=ab4 (l:=ts) (by grind [P.ar]);simp only[pG,aqI]
  exact Wp.seq _ (Rv ..) λr hr=> .some λh'=> .inr (by grind)
 refine Wp.dec (λh=>?_) λGQ=>?_
 .refine Wp.seq _ (NS ..) λr hr=> .some λh'=>?_
  rcases hr h' with⟨g1,g2⟩|⟨g1,g2⟩
  .exact .inr (by grind)
  .exact .inr (by grind)
 refine Wp.dec (λh=>?_) λEO=>?_
 .refine Wp.ite (λ_=> .some λh=>by cases h) λhmo=> .some ?_
  exact fin _ (λOv t ht _=> .inr (by grind)) (λh=>by cases h) λ_=>by simpa using hmo
 .refine .some ?_
  exact fin _ (λOv t ht _=> .inr (by grind)) (λh=>by cases h) λh=>absurd h EO
end L.P
namespace L.P
def AO{g:Nat->Vl×Int}:∀{os:List Nat}{c:Int},gH g os= .inr c->c≠0
 |[],c,h=>by cases h
 |o::os,c,h=>by
  rw[gH]at h;split at h
  .cases hq:gH g os with
   |inl vs=>rw[hq]at h;cases h
   |inr d=>rw[hq]at h;cases h;exact AO hq
  .rename_i h0;cases h;exact h0
def JR{st:List Nat}:∀{i:Nat}{l:List Nat},Ch st i l->∀a:Nat,a<=l.length->opsL st l.length i=opsL st (l.length-a) (pZ (a:Int) i l)++opsL st a i:=by
 intro i l c
 induction c with
 |nil=>
  intro a ha
  obtain rfl:a=0:=by simpa using ha
  simp[opsL]
 | @snoc j s l h1 h2 c ih=>
   intro a ha;rw[aqT,aq8]at ha⊢
   have hg:st.getD (j+1-1) 0=s:=by simp[arm,h1]
   cases a with
   |zero=>simp[pZ,opsL]
   |succ a=>
    have e1:opsL st (l.length+1) (j+1)=opsL st l.length s++[j]:=by rw[opsL,hg];rfl
    have e2:opsL st (a+1) (j+1)=opsL st a s++[j]:=by rw[opsL,hg];rfl
    rw[e1,e2,ih a (by omega),ard]
    have e3:l.length+1-(a+1)=l.length-a:=by omega
    rw[e3]
    congr 1
    have en:((a+1:Nat):Int).toNat=a+1:=by omega
    have s1:pZ ((a+1:Nat):Int) (j+1) (l++[s])=(l++[s]).getD (l.length-a) 0:=by
     unfold pZ;rw[aj (by omega),aqT,aq8,en,e3]
    rw[s1];unfold pZ;by_cases h0:(a:Int)=0
    .rw[al h0]
     have:a=0:=by omega
     subst this;simp[arm]
    .rw[aj h0,aqR]
     have aI:l.length-a<l.length:=by omega
     simp[arm,List.getElem?_append_left aI]
def U6{e:List Ty}{st:List Nat}(w:Whole e st){l:List Nat}(c:Ch st e.length l):opsL st l.length e.length=[e.length-1]:=by
 have hp:0<e.length:=List.length_pos_iff.2 w.ne
 have h1:l.length=1:=by
  have:=(c.one hp).2 w.one;have:=List.length_pos_iff.2 (c.pos hp);omega
 rw[h1,opsL];rfl
end L.P
namespace L.P
def qb(g:Nat->Nat->Int->List (Ty×Int)):List Nat->Nat->Int->List (Ty×Int)
 |[],_,_=>[]
 |o::os,b,d=>g o b d++qb g os (b+(g o b d).length) (d+1)
def yl(g:Nat->Nat->Int->List (Ty×Int))(n:Ty)(os:List Nat)(b:Nat)(d:Int):List (Ty×Int):=
 g (os.getD 0 0) b d++(((if(n.1:Int)=24 then 53 else 52,((b+(g (os.getD 0 0) b d).length+1+(g (os.getD 1 0) (b+(g (os.getD 0 0) b d).length+1) d).length:Nat):Int)):Int×Int),d+1)::g (os.getD 1 0) (b+(g (os.getD 0 0) b d).length+1) d
def qM(g:Nat->Nat->Int->List (Ty×Int))(os:List Nat)(b:Nat)(d:Int):Nat:=
 b+(g (os.getD 0 0) b d).length+1+(g (os.getD 1 0) (b+(g (os.getD 0 0) b d).length+1) d).length+1
def Hg(g:Nat->Nat->Int->List (Ty×Int))(os:List Nat)(b:Nat)(d:Int):List (Ty×Int):=
 g (os.getD 0 0) b d++(((50,((qM g os b d:Nat):Int)):Int×Int),d+1)::(g (os.getD 1 0) (b+(g (os.getD 0 0) b d).length+1) d++(((51,((qM g os b d+(g (os.getD 2 0) (qM g os b d) d).length:Nat):Int)):Int×Int),d+1)::g (os.getD 2 0) (qM g os b d) d)
def cg(e:List Ty)(st:List Nat):Nat->Nat->Nat->Int->List (Ty×Int)
 |0,_,_,_=>[]
 |f+1,i,b,d=>
  if((e.getD i ((0,0):Int×Int)).1:Int)=23\/((e.getD i ((0,0):Int×Int)).1:Int)=24 then yl (cg e st f) (e.getD i ((0,0):Int×Int)) (opsL st (ar (e.getD i ((0,0):Int×Int)).1).toNat i) b d
  else if((e.getD i ((0,0):Int×Int)).1:Int)=26 then Hg (cg e st f) (opsL st (ar (e.getD i ((0,0):Int×Int)).1).toNat i) b d
  else qb (cg e st f) (opsL st (ar (e.getD i ((0,0):Int×Int)).1).toNat i) b d++[(e.getD i ((0,0):Int×Int),d+((ar (e.getD i ((0,0):Int×Int)).1).toNat:Nat))]
def Ej(g:Nat->Nat->Int->List (Ty×Int)):∀(xs ys:List Nat)(b:Nat)(d:Int),qb g (xs++ys) b d=qb g xs b d++qb g ys (b+(qb g xs b d).length) (d+xs.length)
 |[],ys,b,d=>by simp[qb]
 |x::xs,ys,b,d=>by
  rw[List.cons_append,qb,qb,Ej g xs ys]
  grind
def Lt{st:List Nat}{g:Nat->Nat->Int->List (Ty×Int)}{P:Nat}(hg:∀(o s b:Nat)(d:Int),o<P->st[o]? =aa s->s<=o->(g o b d).length<=2*(o+1-s)):∀(a i:Nat)(l:List Nat),Ch st i l->a<=l.length->i<=P->∀(b:Nat)(d:Int),(qb g (opsL st a i) b d).length<=2*(i-pZ (a:Int) i l)
 |0,i,l,_,_,_,b,d=>by simp[opsL,qb]
 |a+1,i,l,c,ha,hi,b,d=>by
  cases c with
  |nil=>simp at ha
  | @snoc j s l h1 h2 c=>
    have hg':st.getD (j+1-1) 0=s:=by simp[arm,h1]
    have e1:opsL st (a+1) (j+1)=opsL st a s++[j]:=by rw[opsL,hg'];rfl
    have TB:a<=l.length:=by rw[aqT,aq8]at ha;omega
    have ih:=Lt hg a s l c TB (by omega) b d;have hj:=hg j s (b+(qb g (opsL st a s) b d).length) (d+(opsL st a s).length) (by omega) h1 h2
    have es:pZ ((a+1:Nat):Int) (j+1) (l++[s])=if a=0 then s else pZ (a:Int) s l:=by
     unfold pZ
     have en:((a+1:Nat):Int).toNat=a+1:=by omega
     have e3:l.length+1-(a+1)=l.length-a:=by omega
     rw[aj (by omega),aqT,aq8,en,e3];by_cases h0:a=0
     .grind
     .grind
    have hle:pZ (a:Int) s l<=s:=D2 (by omega) c (by omega)
    have OB:a=0->pZ (a:Int) s l=s:=λh=>by unfold pZ;grind
    rw[e1,Ej,aqT,es];simp only[qb,List.append_nil]
    grind
theorem Lu{g:Nat->Nat->Int->List (Ty×Int)}(hg:∀(o b b':Nat)(d d':Int),(g o b d).length=(g o b' d').length):∀(os:List Nat)(b b':Nat)(d d':Int),(qb g os b d).length=(qb g os b' d').length
 |[],_,_,_,_=>rfl
 |o::os,b,b',d,d'=>by
  rw[qb,qb,aqT,aqT,hg o b b' d d',Lu hg os _ (b'+(g o b' d').length) _ (d'+1)]
def Rx(e:List Ty)(st:List Nat):∀(f i b b':Nat)(d d':Int),(cg e st f i b d).length=(cg e st f i b' d').length
 |0,_,_,_,_,_=>rfl
 |f+1,i,b,b',d,d'=>by
  have ih:=Rx e st f
  grind [P.cg,P.yl,P.Hg,P.Lu]
def Ry{e:List Ty}{st:List Nat}(w:Whole e st):∀(f i s b:Nat)(d:Int),i<e.length->st[i]? =aa s->s<=i->(cg e st f i b d).length<=2*(i+1-s)
 |0,i,s,b,d,_,_,_=>by simp[cg]
 |f+1,i,s,b,d,hi,hs,hsi=>by
  obtain⟨v1,l,v2,v3,v4,v5⟩:=w.val.node i hi
  have hge:e.getD i ((0,0):Int×Int)=e[i]:=by simp only[arm,aqK hi,arn]
  have rE:s=pZ (ar e[i].1) i l:=by rw[hs]at v5;exact aqL v5
  obtain⟨a,ha⟩:∃a:Nat,ar e[i].1=a:=⟨(ar e[i].1).toNat,by omega⟩
  have key:=Lt (st:=st) (g:=cg e st f) (P:=i) (λo s b d ho V6 aiH=>Ry w f o s b d (by omega) V6 aiH) a i l v2 (by omega) (aqS _);have jq:pZ (a:Int) i l<=i:=D2 (by omega) v2 (by omega);rw[ha]at rE;rw[cg,hge]
  have han:(ar e[i].1).toNat=a:=by omega
  rw[han];have ih:=Rx e st f;have key:=key b d;split
  .rename_i fJ
   have h2:a=2:=by
    have:ar e[i].1=2:=by rcases fJ with h|h<;>rw[h]<;>rfl
    omega
   subst h2;obtain⟨o0,o1,hos⟩:=JP (ee st 2 i)
   grind [P.yl,P.qb]
  split
  .rename_i fJ
   have h3:a=3:=by
    have:ar e[i].1=3:=by rw[fJ];rfl
    omega
   subst h3;obtain⟨o0,o1,o2,hos⟩:=Hf (ee st 3 i)
   grind [P.Hg,P.qb]
  grind
def Rz{e:List Ty}{st:List Nat}(w:Whole e st){f i b:Nat}{d:Int}(hi:i<e.length):(cg e st f i b d).length<=96:=by
 obtain⟨v1,l,v2,v3,v4,v5⟩:=w.val.node i hi;have hle:=w.le;have:=Ry w f i _ b d hi v5 (D2 v1 v2 v3);omega
def AQ{α:Type}(p q:List α)(x y:α):bn (p++x::q) (p.length:Int) y=p++y::q:=by
 unfold bn
 simp_all
def Ek{α:Type}(p q:List α)(x:α):idx (p++x::q) (p.length:Int)=aa x:=by
 rw[aF (by simp)];simp
abbrev ins(l:List (Ty×Int)):List Ty:=l.map Prod.fst
def AR{e:List Ty}{st:List Nat}(w:Whole e st):∀(f i N:Nat),i<f->i<e.length->f<=N->∀(code:List Ty)(d:Int),code.length+400*f<=1000000->M.b8 aJ N e (i:Int) code=aa (code++ins (cg e st f i code.length d))
 |0,_,_,h,_,_,_,_,_=>by omega
 |f+1,i,0,_,_,h,_,_,_=>by omega
 |f+1,i,N+1,hf,hi,hN,code,d,hc=>by
  have ih:=AR w f;have hle:=w.le
  have aI:∀o∈opsL st (ar e[i].1).toNat i,o<i:=λo ho=>(w.val.ops hi o ho).1
  have h96:∀o∈opsL st (ar e[i].1).toNat i,∀b d,(cg e st f o b d).length<=96:=λo ho b d=>Rz w (by grind)
  have hge:e.getD i ((0,0):Int×Int)=e[i]:=by simp only[arm,aqK hi,arn]
  obtain⟨v1,_⟩:=w.val.node i hi;have EN:=lR e[i].1;unfold M.b8;rw[yj w hi,aF hi,cg,hge];simp only[aqI];rw[tj];simp only[aqI];have hlen:=ee st (ar e[i].1).toNat i;generalize hos:opsL st (ar e[i].1).toNat i=os at*;by_cases Ic:(e[i].1:Int)=23\/(e[i].1:Int)=24
  .rw[au Ic,al rfl,al Ic]
   have h2:(ar e[i].1).toNat=2:=by rcases Ic with h|h<;>rw[h]<;>rfl
   obtain⟨o0,o1,rfl⟩:=JP (l:=os) (by omega)
   have fJ:(if decide ((e[i].1:Int)=24)=af then aa (53:Int)else aa (52:Int))=aa (if(e[i].1:Int)=24 then(53:Int)else 52):=by
    by_cases h:(e[i].1:Int)=24<;>simp[h]
   rw[fJ];have i0:idx (dZ [o0,o1]) (0:Int)=aa (o0:Int):=rfl;have i1:idx (dZ [o0,o1]) (1:Int)=aa (o1:Int):=rfl;have l0:=aI o0 (by simp);have l1:=aI o1 (by simp);have n0:=h96 o0 (by simp) code.length d;have r0:=ih o0 N (by omega) (by omega) (by omega) code d (by omega);generalize Yu:cg e st f o0 code.length d=g0 at*
   have zJ:(code++ins g0).length=code.length+g0.length:=by simp
   generalize hx:(if(e[i].1:Int)=24 then(53:Int)else 52)=x;have r1:=ih o1 N (by omega) (by omega) (by omega) (code++ins g0++[((x,0):Int×Int)]) d (by rw[aqT,zJ,aq8];omega);rw[show(code++ins g0++[((x,0):Int×Int)]).length=code.length+g0.length+1 by grind]at r1
   have hA:yl (cg e st f) e[i] [o0,o1] code.length d=g0++(((x,((code.length+g0.length+1+(cg e st f o1 (code.length+g0.length+1) d).length:Nat):Int)):Int×Int),d+1)::cg e st f o1 (code.length+g0.length+1) d:=by
    unfold yl;simp only[ar3,ar4,Yu,hx]
   rw[hA];generalize cg e st f o1 (code.length+g0.length+1) d=g1 at*;rw[i0,i1];simp only[aqI];rw[r0];simp only[aqI];rw[br (by grind)];simp only[aqI];rw[r1];simp only[aqI];rw[ard (code++ins g0),List.singleton_append,Ek];simp only[aqI];rw[AQ]
   grind
  rw[av Ic,aj (by simp),aj Ic];by_cases Ln:(e[i].1:Int)=26
  .rw[au Ln,al rfl,al Ln]
   have h3:(ar e[i].1).toNat=3:=by rw[Ln];rfl
   obtain⟨o0,o1,o2,rfl⟩:=Hf (l:=os) (by omega);have i0:idx (dZ [o0,o1,o2]) (0:Int)=aa (o0:Int):=rfl;have i1:idx (dZ [o0,o1,o2]) (1:Int)=aa (o1:Int):=rfl;have i2:idx (dZ [o0,o1,o2]) (2:Int)=aa (o2:Int):=rfl;have l0:=aI o0 (by simp);have l1:=aI o1 (by simp);have l2:=aI o2 (by simp);have n0:=h96 o0 (by simp) code.length d;have n1:=h96 o1 (by simp);have r0:=ih o0 N (by omega) (by omega) (by omega) code d (by omega);generalize Yu:cg e st f o0 code.length d=g0 at*
   have zJ:(code++ins g0).length=code.length+g0.length:=by simp
   have r1:=ih o1 N (by omega) (by omega) (by omega) (code++ins g0++[((50,0):Int×Int)]) d (by rw[aqT,zJ,aq8];omega);rw[show(code++ins g0++[((50,0):Int×Int)]).length=code.length+g0.length+1 by grind]at r1;have n1:=n1 (code.length+g0.length+1) d;generalize hg1:cg e st f o1 (code.length+g0.length+1) d=g1 at*;generalize hE:code.length+g0.length+1+g1.length+1=E
   have wR:qM (cg e st f) [o0,o1,o2] code.length d=E:=by
    unfold qM;simp only[ar3,ar4,Yu,hg1];exact hE
   have hp:(code++ins g0++((50,(E:Int)):Int×Int)::ins g1).length=code.length+g0.length+1+g1.length:=by rw[aqT,zJ];simp;omega
   have r2:=ih o2 N (by omega) (by omega) (by omega) (code++ins g0++((50,(E:Int)):Int×Int)::ins g1++[((51,0):Int×Int)]) d (by rw[aqT,hp,aq8];omega);rw[show(code++ins g0++((50,(E:Int)):Int×Int)::ins g1++[((51,0):Int×Int)]).length=E by grind]at r2
   have hI:Hg (cg e st f) [o0,o1,o2] code.length d=g0++(((50,(E:Int)):Int×Int),d+1)::(g1++(((51,((E+(cg e st f o2 E d).length:Nat):Int)):Int×Int),d+1)::cg e st f o2 E d):=by
    unfold Hg;rw[wR];simp only[ar3,ar4,Yu,hg1]
   rw[hI];generalize cg e st f o2 E d=g2 at*;rw[i0,i1,i2];simp only[aqI];rw[r0];simp only[aqI];rw[br (by grind)];simp only[aqI];rw[r1];simp only[aqI]
   have hq:(code++ins g0++[((50,0):Int×Int)]++ins g1).length=code.length+g0.length+1+g1.length:=by rw[aqT,aqT,zJ];simp
   rw[br (by grind)];simp only[aqI]
   have hz:code++ins g0++[((50,0):Int×Int)]++ins g1++[((51,0):Int×Int)]=(code++ins g0)++((50,0):Int×Int)::(ins g1++[((51,0):Int×Int)]):=by simp
   have hzl:((code++ins g0++[((50,0):Int×Int)]++ins g1++[((51,0):Int×Int)]).length:Int)=(E:Int):=by rw[aqT,hq,aq8];omega
   rw[hzl,hz,Ek];simp only[aqI];rw[AQ]
   have HU:code++ins g0++((50,(E:Int)):Int×Int)::(ins g1++[((51,0):Int×Int)])=code++ins g0++((50,(E:Int)):Int×Int)::ins g1++[((51,0):Int×Int)]:=by simp
   rw[HU,r2];simp only[aqI];rw[ard (code++ins g0++_::ins g1),List.singleton_append,hq,<-hp,Ek];simp only[aqI];rw[AQ]
   have hn:(((code++ins g0++((50,(E:Int)):Int×Int)::ins g1++((51,0):Int×Int)::ins g2:List Ty)).length:Int)=((E+g2.length:Nat):Int):=by
    rw[aqT,hp];simp;omega
   grind
  rw[av Ln,aj (by simp),aj Ln]
  have ab6:Loop (S:=Int×List aD.den) (X:=List aD.den) (λRA=>(if(decide (RA.1<((dZ os).length:Int)))=af then(idx (dZ os) RA.1).bind λaiJ=>(M.b8 aJ N e aiJ RA.2).bind λaiK=>aa (arj (aqJ.wrap (RA.1+(1:Int)),aiK))else aa (arc RA.2))) aJ ((0:Int),code)=aa (code++ins (qb (cg e st f) os code.length d)):=by
   apply Wp.eq
   have an5:os.length<=3:=by omega
   refine Wp.loop (λs:Int×List Ty=>∃k:Nat,s.1=k/\k<=os.length/\s.2=code++ins (qb (cg e st f) (os.take k) code.length d)/\(qb (cg e st f) (os.take k) code.length d).length<=96*k) (λs=>(os.length-s.1).toNat) ⟨0,rfl,aq2 _,by simp[qb],by simp[qb]⟩ (by unfold aJ;grind) ?_
   rintro⟨_,c⟩ ⟨k,rfl,hk,hcd,an6⟩
   dsimp only at hcd⊢;subst hcd;rw[arb]
   refine Wp.dec (λh=>?_) λh=> .some ?_
   .have jh:k<os.length:=by omega
    have hm:=aqN jh;have NH:=aI _ hm;rw[aF (by simpa using jh)];simp only[aqI,List.getElem_map]
    have Ac:(code++ins (qb (cg e st f) (os.take k) code.length d)).length=code.length+(qb (cg e st f) (os.take k) code.length d).length:=by simp
    rw[ih _ N (by omega) (by omega) (by omega) _ (d+(os.take k).length) (by rw[Ac];omega),Ac,aU (by omega)]
    have VP:qb (cg e st f) (os.take (k+1)) code.length d=qb (cg e st f) (os.take k) code.length d++cg e st f os[k] (code.length+(qb (cg e st f) (os.take k) code.length d).length) (d+(os.take k).length):=by
     rw[List.take_succ_eq_append_getElem jh,Ej];simp[qb]
    have an7:=h96 _ hm (code.length+(qb (cg e st f) (os.take k) code.length d).length) (d+(os.take k).length);refine .some ⟨⟨k+1,rfl,jh,?_,?_⟩,by grind⟩
    all_goals grind
   .show _=_
    grind
  rw[ab6];simp only[aqI]
  have hcg:(code++ins (qb (cg e st f) os code.length d)).length<=1000000:=by
   have:=Rz w (f:=f+1) (b:=code.length) (d:=d) hi;rw[cg,hge,aj Ic,aj Ln,hos,aqT]at this;simp;omega
  rw[br (by grind)];simp[ins]
structure FOK(code:List Ty)(F:List Int):Prop where
 pos:0<code.length
 le:code.length<=128
 len:F.length=code.length+1
 bd:∀k,k<=code.length->0<=gd F k/\gd F k<=12
 first:gd F 0=0
 last:gd F code.length=1
 step:∀j(h:j<code.length),p5 code.length F j code[j]/\¬cI code[j].1
 reach:∀k,0<k->k<=code.length->∃j,∃h:j<code.length,j<k/\((j+1=k/\(code[j].1:Int)≠51)\/((50<=(code[j].1:Int)/\(code[j].1:Int)<=53)/\(code[j].2:Int)=k))
structure Cs(F D:List Int):Prop where
 len:D.length=F.length
 ok:∀k,gd D k= -1\/gd D k=gd F k
def Cs.set{F D:List Int}(c:Cs F D){t:Nat}(ht:t<F.length):Cs F (D.set t (gd F t)):=by
 refine⟨by rw[List.length_set,c.len],λk=>?_⟩;rw[me (by rw[c.len];exact ht)];split
 .grind
 .exact c.ok k
def pH{N:Nat}{F D:List Int}(c:Cs F D){t:Nat}(ht:t<F.length):M.bW N (t:Int) (gd F t) D=aa (0,D.set t (gd F t)):=by
 have htD:t<D.length:=by rw[c.len];exact ht
 unfold M.bW;rw[oh htD];simp only[aqI,aQ]
 rcases c.ok t with h|h
 all_goals grind [bn]
def Fwd(F D:List Int)(i:Nat)(n:Ty):Prop:=((n.1:Int)≠51->gd D (i+1)=gd F (i+1))/\((50<=(n.1:Int)/\(n.1:Int)<=53)->∀t:Nat,(n.2:Int)=t->gd D t=gd F t)
structure Up(F D D':List Int)(i:Nat):Prop where
 low:∀k,k<=i->gd D' k=gd D k
 keep:∀k,gd D k=gd F k->gd D' k=gd F k
def Up.set{F D:List Int}{t i:Nat}(ht:t<D.length)(uZ:i<t):Up F D (D.set t (gd F t)) i:=by
 refine⟨λk hk=>?_,λk hk=>?_⟩<;>rw[me ht]
 all_goals grind
def Up.trans{F A B C:List Int}{i:Nat}(h:Up F A B i)(h':Up F B C i):Up F A C i:=
 ⟨λk hk=>(h'.low k hk).trans (h.low k hk),λk hk=>h'.keep k (h.keep k hk)⟩
def JT{N:Nat}{code:List Ty}{F D:List Int}(f:FOK code F)(c:Cs F D){i:Nat}(hi:i<code.length)(h0:gd D i=gd F i):Wp (M.cQ N code (i:Int) code[i] D) λr=>r.1=0/\Cs F r.2/\Up F D r.2 i/\Fwd F r.2 i code[i]:=by
 have hle:=f.le;have Zm:=f.len;have hDl:=c.len;have hb:=f.bd i (by omega);have Ko:=f.bd (i+1) (by omega);obtain⟨hs,NU⟩:=f.step i hi;unfold M.cQ Fwd;generalize code[i]=n at*;obtain⟨(op:Int),(m:Int)⟩:=n;dsimp only[aC,Row.den]at*;have EN:=lR op;rw[r9,pK,oh (by omega),dE,DZ,h0];simp only[aqI]
 have e0:(50<=op/\op<=53\/0<=ar op)->(50<=op/\op<=53->(i:Int)<m/\m<=(code.length:Int))->(if(!decide (¬cI op/\(50<=op/\op<=53\/0<=ar op)))=af then aa af else(if decide (50<=op/\op<=53)=af then(if decide (m<=(i:Int))=af then aa af else aa (decide ((code.length:Int)<m)))else aa ah))=aa ah:=by
  intro g1 g2;rw[au (show¬cI op/\(50<=op/\op<=53\/0<=ar op)from⟨NU,g1⟩),aj (by simp)];by_cases g:50<=op/\op<=53
  .grind
  .grind
 rcases hs with⟨h1,t,h2,h3,h4,h5⟩|⟨h1,h2,h3,t,h4,h5,h6,h7⟩|⟨h1,h2,h3,h4,h5,h6⟩
 .dsimp only[aC,Row.den]at*;subst h2;rw[e0 (.inl (by omega)) (λ_=>by omega)];simp only[aqI,aqM,if_false]
  refine Wp.dec (λ_=>?_) λh=>absurd h1 h
  rw[<-h5,pH c (by omega)];refine .some ⟨rfl,c.set (by omega),Up.set (by omega) h3,λh=>absurd h1 h,λ_ u hu=>?_⟩
  grind [P.me]
 .dsimp only[aC,Row.den]at*;subst h4;rw[e0 (.inl (by omega)) (λ_=>by omega)];simp only[aqI,aqM,if_false]
  refine Wp.dec (λh=>by omega) λ_=>?_
  refine Wp.dec (λ_=>?_) λh=>absurd h1 h
  refine Wp.dec (λh=>by omega) λ_=>?_
  have w1:aqJ.wrap (gd F i-1)=gd F (i+1):=by rw[aH (by omega) (by omega),h3]
  rw[w1,aU (by omega),pH c (by omega)];have c1:=c.set (t:=i+1) (by omega);have u1:Up F D (D.set (i+1) (gd F (i+1))) i:=Up.set (by omega) (by omega);simp only[aqI]
  refine Wp.mO (λh=>absurd trivial h) λ_=>?_
  have e7:(if decide (op=50)=af then aa (gd F (i+1))else aa (gd F i))=aa (gd F t):=by
   by_cases Yv:op=50
   .grind
   .grind
  rw[e7];simp only[aqI];rw[pH c1 (by omega)];have c2:=c1.set (t:=t) (by omega);have u2:Up F (D.set (i+1) (gd F (i+1))) ((D.set (i+1) (gd F (i+1))).set t (gd F t)) i:=Up.set (by grind) h5;refine .some ⟨rfl,c2,u1.trans u2,λ_=>u2.keep _ (by rw[me (by omega),al rfl]),λ_ u hu=>?_⟩
  grind [P.me]
 .dsimp only[aC,Row.den]at*
  have fJ:¬(50<=op/\op<=53):=by
   intro h
   have:op=50\/op=51\/op=52\/op=53:=by omega
   omega
  rw[e0 (.inr h3) (λh=>absurd h fJ)];simp only[aqI,aqM,if_false]
  refine Wp.dec (λh=>absurd h h1) λ_=>?_
  refine Wp.dec (λh=>absurd h h2) λ_=>?_
  refine Wp.dec (λh=>by omega) λ_=>?_
  have w1:aqJ.wrap (gd F i-ar op)=gd F i-ar op:=aH (by omega) (by omega)
  have w2:aqJ.wrap (gd F i-ar op+1)=gd F (i+1):=by rw[aH (by omega) (by omega),h5]
  rw[w1,w2]
  refine Wp.dec (λh=>by omega) λ_=>?_
  rw[aU (by omega),pH c (by omega)];exact .some ⟨rfl,c.set (by omega),Up.set (by omega) (by omega),λ_=>by grind [P.me],λh=>absurd h fJ⟩
def NV{code:List Ty}{F:List Int}(f:FOK code F):Wp (M.dt aJ code) λy=>y.2=0:=by
 have hl:=f.le;have hp:=f.pos;have Zm:=f.len;unfold M.dt
 refine Wp.dec (λh=>by omega) λh1=>?_
 refine Wp.dec (λh=>by omega) λh2=>?_
 rw[aU (by omega)]
 have Bc:ol ((code.length+1:Nat):Int) (0:Int)=aa (aqO (code.length+1) 0):=by
  unfold ol;rw[al (by omega),aqR]
 rw[Bc];simp only[aqI];refine Wp.seq (· =aqO (code.length+1) (-1:Int)) ?_ ?_
 .refine Wp.loop (λs:Int×List Int=>∃k m:Nat,s=((k:Int),aqO k (-1)++aqO m 0)/\k+m=code.length+1) (λs=>(code.length+1-s.1).toNat) ⟨0,code.length+1,by simp,by omega⟩ (by unfold aJ;grind) ?_
  rintro _ ⟨k,m,rfl,hk⟩
  simp only[List.length_replicate]
  refine Wp.dec (λh=>?_) λh=> .some ?_
  .obtain⟨m,rfl⟩:∃m',m=m'+1:=⟨m-1,by omega⟩
   rw[aF (by simp)];simp only[aqI];rw[aU (by omega)];refine .some ⟨⟨k+1,m,?_,by omega⟩,by grind⟩
   grind [bn,aqR,List.replicate_succ']
  .obtain rfl:m=0:=by omega
   obtain rfl:k=code.length+1:=by omega
   show _=_
   simp
 rintro _ rfl
 have e1:idx (aqO (code.length+1) (-1:Int)) 0=aa (-1):=by rw[List.replicate_succ];rfl
 rw[e1];simp only[aqI];have e0:bn (aqO (code.length+1) (-1:Int)) (0:Int) (0:Int)=(aqO (code.length+1) (-1:Int)).set 0 0:=rfl;rw[e0]
 have g0:∀k,gd ((aqO (code.length+1) (-1:Int)).set 0 0) k=if k=0 then 0 else-1:=λk=>by
  rw[me (by simp),Eh]
 refine Wp.join (Wp.loop (λs:Int×Int×List Int=>∃i:Nat,s.2.1=i/\i<=code.length/\Cs F s.2.2/\(∀k,k<=i->gd s.2.2 k=gd F k)/\∀j(h:j<code.length),j<i->Fwd F s.2.2 j code[j]) (λs=>(code.length-s.2.1).toNat) ⟨0,rfl,aq2 _,⟨by simp[Zm],λk=>?_⟩,λk hk=>?_,λj _ h=>by omega⟩ (by unfold aJ;grind) ?_)
 .grind [P.FOK.first]
 .grind [P.FOK.first]
 rintro⟨g,at',D⟩ ⟨i,vy,hi,hc,Ap,hf⟩
 dsimp only at vy hi hc Ap hf⊢;subst vy;have hDl:=hc.len
 refine Wp.dec (λaI=>?_) λhge=> .some ?_
 .have aI:i<code.length:=by omega
  have hbi:=f.bd i hi;have hgi:=Ap i (aqS _);rw[aU (by omega),aF aI,oh (by omega)];simp only[aqI];refine Wp.join ?_
  refine Wp.dec (λh=>by omega) λ_=>?_
  refine Wp.seq _ (JT f hc aI hgi) λr hr=>?_
  obtain⟨r1,r2,r3,r4⟩:=hr
  refine Wp.mO (λh=>absurd r1 h) λ_=> .some ?_
  have vB:∀j(h:j<code.length),j<i+1->Fwd F r.2 j code[j]:=λj h hj=>by
   by_cases hji:j=i
   .grind
   .obtain⟨a,b⟩:=hf j h (by omega);exact⟨λg=>r3.keep _ (a g),λg t ht=>r3.keep _ (b g t ht)⟩
  refine Wp.some ⟨⟨i+1,rfl,aI,r2,λk hk=>?_,vB⟩,by grind⟩;by_cases Yw:k<=i
  .show gd r.2 k=_
   rw[r3.low k Yw,Ap k Yw]
  .obtain rfl:k=i+1:=by omega
   obtain⟨j,h,hj,hq⟩:=f.reach (i+1) (by omega) (by omega);obtain⟨a,b⟩:=vB j h hj
   grind
 .obtain rfl:i=code.length:=by omega
  show Wp ((idx D (code.length:Int)).bind _) _
  rw[oh (by omega),Ap _ (aqS _),f.last];exact .some rfl
def RC{st:List Nat}:∀{i:Nat}{l:List Nat},Ch st i l->∀(a:Nat),a<=l.length->∀k(h:k<(opsL st a i).length),Ch st ((opsL st a i)[k]+1) (l.take (l.length-a+k+1)):=by
 intro i l c
 induction c with
 |nil=>
  intro a ha k h
  obtain rfl:a=0:=by simpa using ha
  simp[opsL]at h
 | @snoc j s l h1 h2 c ih=>
   intro a ha k h
   cases a with
   |zero=>simp[opsL]at h
   |succ a=>
    have hg:st.getD (j+1-1) 0=s:=by simp[arm,h1]
    have e1:opsL st (a+1) (j+1)=opsL st a s++[j]:=by rw[opsL,hg];rfl
    rw[aqT,aq8]at ha⊢
    have hk:k<a+1:=by rw[ee]at h;exact h
    have e3:l.length+1-(a+1)+k+1=l.length-a+k+1:=by omega
    rw[e3];by_cases hka:k<a
    .grind [P.ee]
    .obtain rfl:k=a:=by omega
     have:(opsL st (k+1) (j+1))[k]=j:=by
      simp only[e1];rw[are (by rw[ee];grind)];simp[ee]
     rw[this,show l.length-k+k+1=(l++[s]).length by rw[aqT,aq8];omega,ara];exact .snoc h1 h2 c
def Hh(st:List Nat)(i:Nat)(d:Int):Prop:=∃l,Ch st (i+1) l/\d+1<=l.length
def Hh.le{e:List Ty}{st:List Nat}(w:Whole e st){i:Nat}{d:Int}(hi:i<e.length)(h:Hh st i d):d+1<=12:=by
 obtain⟨l,c,hd⟩:=h;obtain⟨v1,l',v2,v3,v4,v5⟩:=w.val.node i hi;have:=(v2.next v1 v3 v5).Nw c
 grind
def Hh.op{e:List Ty}{st:List Nat}(w:Whole e st){i:Nat}{d d':Int}(hi:i<e.length)(h:Hh st i d){k:Nat}(hk:k<(opsL st (ar e[i].1).toNat i).length)(hd:d'<=d+k):Hh st (opsL st (ar e[i].1).toNat i)[k] d':=by
 obtain⟨l,c,hl⟩:=h;obtain⟨v1,l',v2,v3,v4,v5⟩:=w.val.node i hi;have hu:=(v2.next v1 v3 v5).Nw c;rw[<-hu]at hl;rw[aqT,aq9,aq8]at hl
 have jh:k<(ar e[i].1).toNat:=by rw[ee]at hk;exact hk
 refine⟨_,RC v2 _ v3 k hk,?_⟩
 grind
structure Pc(code:List Ty)(F:List Int)(b b':Nat)(d d':Int):Prop where
 le:b<=b'
 inn:gd F b=d
 out:gd F b'=d'
 bd:∀k,b<=k->k<=b'->0<=gd F k/\gd F k<=12
 step:∀j(h:j<code.length),b<=j->j<b'->p5 code.length F j code[j]/\¬cI code[j].1
 reach:∀k,b<k->k<=b'->∃j,∃h:j<code.length,j<k/\((j+1=k/\(code[j].1:Int)≠51)\/((50<=(code[j].1:Int)/\(code[j].1:Int)<=53)/\(code[j].2:Int)=k))
def Pc.KT{code:List Ty}{F:List Int}{b c c':Nat}{d d' d'':Int}(h:Pc code F b c d d')(h':Pc code F c c' d' d''):Pc code F b c' d d'':=by
 refine⟨Nat.le_trans h.le h'.le,h.inn,h'.out,λk k1 k2=>?_,λj hj j1 j2=>?_,λk k1 k2=>?_⟩
 .by_cases hk:k<=c
  .exact h.bd k k1 hk
  .exact h'.bd k (by omega) k2
 .by_cases hk:j<c
  .exact h.step j hj j1 hk
  .exact h'.step j hj (by omega) j2
 .by_cases hk:k<=c
  .exact h.reach k k1 hk
  .exact h'.reach k (by omega) k2
def At(code:List Ty)(F:List Int)(b:Nat)(l:List (Ty×Int)):Prop:=∀k(h:k<l.length),code[b+k]? =aa l[k].1/\gd F (b+k)=l[k].2
def At.left{code:List Ty}{F:List Int}{b:Nat}{l m:List (Ty×Int)}(h:At code F b (l++m)):At code F b l:=λk hk=>by
 have:=h k (by grind)
 grind
def At.right{code:List Ty}{F:List Int}{b:Nat}{l m:List (Ty×Int)}(h:At code F b (l++m)):At code F (b+l.length) m:=λk hk=>by
 have:=h (l.length+k) (by grind)
 grind
def At.head{code:List Ty}{F:List Int}{b:Nat}{x:Ty×Int}{m:List (Ty×Int)}(h:At code F b (x::m)):code[b]? =aa x.1/\gd F b=x.2:=h 0 (by simp)
def At.tail{code:List Ty}{F:List Int}{b:Nat}{x:Ty×Int}{m:List (Ty×Int)}(h:At code F b (x::m)):At code F (b+1) m:=At.right (l:=[x]) h
theorem Pc.one{code:List Ty}{F:List Int}{b:Nat}{n:Ty}{a:Nat}{d:Int}(hn:code[b]? =aa n)(ha:ar n.1=a)(NU:¬cI n.1)(hj:¬(50<=(n.1:Int)/\(n.1:Int)<=53))(hb:gd F b=d+a)(sE:gd F (b+1)=d+1)(h0:0<=d)(S8:d+1<=12)(QG:d+a<=12):Pc code F b (b+1) (d+a) (d+1):=by
 obtain⟨hl,rfl⟩:=aqQ.1 hn;refine⟨by omega,hb,sE,λk k1 k2=>?_,λj h j1 j2=>?_,λk k1 k2=>?_⟩
 .rcases(show k=b\/k=b+1 by omega)with rfl|rfl
  .omega
  .omega
 .obtain rfl:j=b:=by omega
  refine⟨.inr (.inr ⟨λh=>hj (by rw[h];decide),λh=>hj ?_,by omega,by omega,by omega,by omega⟩),NU⟩
  rcases h with h|h|h<;>rw[h]<;>decide
 .obtain rfl:k=b+1:=by omega
  exact⟨b,hl,by omega, .inl ⟨rfl,λh=>hj (by rw[h];decide)⟩⟩
theorem Pc.ins{code:List Ty}{F:List Int}{b:Nat}{n:Ty}{d d':Int}(hn:code[b]? =aa n)(hb:gd F b=d)(sE:gd F (b+1)=d')(h:0<=d/\d<=12)(h':0<=d'/\d'<=12)(hs:p5 code.length F b n)(NU:¬cI n.1)(hr:∃j,∃h:j<code.length,j<b+1/\((j+1=b+1/\(code[j].1:Int)≠51)\/((50<=(code[j].1:Int)/\(code[j].1:Int)<=53)/\(code[j].2:Int)=((b+1:Nat):Int)))):Pc code F b (b+1) d d':=by
 obtain⟨hl,rfl⟩:=aqQ.1 hn;refine⟨by omega,hb,sE,λk k1 k2=>?_,λj h j1 j2=>?_,λk k1 k2=>?_⟩
 .rcases(show k=b\/k=b+1 by omega)with rfl|rfl
  all_goals omega
 .obtain rfl:j=b:=by omega
  exact⟨hs,NU⟩
 .obtain rfl:k=b+1:=by omega
  exact hr
def RD{op:Int}(h:50<=op):ar op= -1:=by
 grind [P.ar]
theorem Pc.nil{code:List Ty}{F:List Int}{b:Nat}{d:Int}(hb:gd F b=d)(h:0<=d/\d<=12):Pc code F b b d d:=
 ⟨aqS _,hb,hb,(by grind),λj _ j1 j2=>by omega,λk k1 k2=>by omega⟩
def RE{code:List Ty}{F:List Int}{g:Nat->Nat->Int->List (Ty×Int)}:∀(os:List Nat)(b:Nat)(d:Int),0<=d->d+os.length<=12->(∀(k:Nat)(hk:k<os.length)(b:Nat),At code F b (g os[k] b (d+k))->gd F (b+(g os[k] b (d+k)).length)=d+k+1->b+(g os[k] b (d+k)).length<=code.length->Pc code F b (b+(g os[k] b (d+k)).length) (d+k) (d+k+1))->At code F b (qb g os b d)->gd F (b+(qb g os b d).length)=d+os.length->b+(qb g os b d).length<=code.length->Pc code F b (b+(qb g os b d).length) d (d+os.length)
 |[],b,d,h0,S8,_,_,ho,_=>by
  simp only[qb,List.length_nil,Nat.add_zero]at ho S8⊢
  grind [P.Pc.nil]
 |o::os,b,d,h0,S8,hg,hA,ho,hl=>by
  rw[qb]at hA ho hl⊢;rw[aqT]at ho hl⊢;rw[arh]at ho S8⊢
  have hr:=RE os (b+(g o b d).length) (d+1) (by omega) (by omega) (λk hk b'=>by
   have:=hg (k+1) (by grind) b';rw[show d+((k+1:Nat):Int)=d+1+(k:Int) by omega]at this
   exact this) hA.right (by grind) (by omega)
  have hx:=hg 0 (by simp) b;simp only[List.getElem_cons_zero,show d+((0:Nat):Int)=d by omega]at hx;have:=(hx hA.left hr.inn (by omega)).KT hr
  grind
def Wt{code:List Ty}{F:List Int}{e:List Ty}{st:List Nat}(w:Whole e st):∀(f i b:Nat)(d:Int),i<f->i<e.length->0<=d->Hh st i d->At code F b (cg e st f i b d)->gd F (b+(cg e st f i b d).length)=d+1->b+(cg e st f i b d).length<=code.length->Pc code F b (b+(cg e st f i b d).length) d (d+1)
 |0,_,_,_,h,_,_,_,_,_,_=>by omega
 |f+1,i,b,d,hf,hi,h0,BP,hA,ho,hl=>by
  have ih:=Wt (code:=code) (F:=F) w f;have S8:=BP.le w hi
  have hge:e.getD i ((0,0):Int×Int)=e[i]:=by simp only[arm,aqK hi,arn]
  obtain⟨v1,_⟩:=w.val.node i hi
  have aI:∀o∈opsL st (ar e[i].1).toNat i,o<i:=λo ho=>(w.val.ops hi o ho).1
  have fJ:∀k(hk:k<(opsL st (ar e[i].1).toNat i).length)(d':Int),d'<=d+k->Hh st (opsL st (ar e[i].1).toNat i)[k] d':=λk hk d' hd=>BP.op w hi hk hd
  have hlen:=ee st (ar e[i].1).toNat i;rw[cg,hge]at hA ho hl⊢;generalize opsL st (ar e[i].1).toNat i=os at*;by_cases Ic:(e[i].1:Int)=23\/(e[i].1:Int)=24
  .rw[al Ic]at hA ho hl⊢
   have h2:(ar e[i].1).toNat=2:=by rcases Ic with h|h<;>rw[h]<;>rfl
   obtain⟨o0,o1,rfl⟩:=JP (l:=os) (by omega);have l0:=aI o0 (by simp);have l1:=aI o1 (by simp);have p0:=ih o0 b d (by omega) (by omega) h0 (fJ 0 (by simp) d (by omega));unfold yl at hA ho hl⊢;simp only[ar3,ar4]at hA ho hl⊢;generalize cg e st f o0 b d=g0 at*;have p1:=ih o1 (b+g0.length+1) d (by omega) (by omega) h0 (fJ 1 (by simp) d (by omega));generalize cg e st f o1 (b+g0.length+1) d=g1 at*;rw[aqT,arh]at ho hl⊢;have a0:=hA.left;have a1:=hA.right.head;have a2:=hA.right.tail
   have eE:b+(g0.length+(g1.length+1))=b+g0.length+1+g1.length:=by omega
   rw[eE]at ho hl⊢;have q1:=p1 a2 ho (by omega);have q0:=p0 a0 a1.2 (by omega)
   have Ac:b+g0.length<code.length:=by omega
   have hx:(if(e[i].1:Int)=24 then(53:Int)else 52)=53\/(if(e[i].1:Int)=24 then(53:Int)else 52)=52:=by split<;>simp
   generalize(if(e[i].1:Int)=24 then(53:Int)else 52)=x at*;obtain⟨Yx,a12⟩:=a1;dsimp only at Yx a12;have hc:code[b+g0.length]=((x,((b+g0.length+1+g1.length:Nat):Int)):Int×Int):=(aqQ.1 Yx).2;refine q0.KT (Pc.KT (Pc.ins Yx a12 q1.inn ⟨by omega,by omega⟩ ⟨by omega,by omega⟩ ?_ ?_ ?_) q1)
   .refine .inr (.inl ⟨?_,by omega,by rw[q1.inn,a12];omega,b+g0.length+1+g1.length,rfl,by omega,by omega,?_⟩)
    .show x=50\/x=52\/x=53
     omega
    .show gd F (b+g0.length+1+g1.length)=if x=50 then _ else _
     rw[aj (by omega),ho,a12]
   .show¬cI x
    unfold cI;omega
   .refine⟨b+g0.length,Ac,by omega, .inl ⟨rfl,?_⟩⟩;rw[hc]
    show x≠51
    omega
  rw[aj Ic]at hA ho hl⊢;by_cases Ln:(e[i].1:Int)=26
  .rw[al Ln]at hA ho hl⊢
   have h3:(ar e[i].1).toNat=3:=by rw[Ln];rfl
   obtain⟨o0,o1,o2,rfl⟩:=Hf (l:=os) (by omega);have l0:=aI o0 (by simp);have l1:=aI o1 (by simp);have l2:=aI o2 (by simp);have p0:=ih o0 b d (by omega) (by omega) h0 (fJ 0 (by simp) d (by omega));unfold Hg at hA ho hl⊢;generalize hE:qM (cg e st f) [o0,o1,o2] b d=E at*;unfold qM at hE;simp only[ar3,ar4]at hA ho hl hE⊢;generalize cg e st f o0 b d=g0 at*;have p1:=ih o1 (b+g0.length+1) d (by omega) (by omega) h0 (fJ 1 (by simp) d (by omega));generalize cg e st f o1 (b+g0.length+1) d=g1 at*;have p2:=ih o2 E d (by omega) (by omega) h0 (fJ 2 (by simp) d (by omega));generalize cg e st f o2 E d=g2 at*;rw[aqT,arh,aqT,arh]at ho hl⊢
   have eE:b+(g0.length+(g1.length+(g2.length+1)+1))=E+g2.length:=by omega
   rw[eE]at ho hl⊢;have a0:=hA.left;obtain⟨Yx,a12⟩:=hA.right.head;have a2:=hA.right.tail;have a3:=a2.left;obtain⟨a41,a42⟩:=a2.right.head;have a5:=a2.right.tail;rw[hE]at a5;dsimp only at Yx a12 a41 a42;have q2:=p2 a5 ho hl;have q1:=p1 a3 a42 (by omega);have q0:=p0 a0 a12 (by omega)
   have Ac:b+g0.length<code.length:=by omega
   have an8:b+g0.length+1+g1.length<code.length:=by omega
   have hc:code[b+g0.length]=((50,(E:Int)):Int×Int):=(aqQ.1 Yx).2
   have j1:Pc code F (b+g0.length) (b+g0.length+1) (d+1) d:=by
    refine Pc.ins Yx a12 q1.inn ⟨by omega,by omega⟩ ⟨by omega,by omega⟩ ?_ ?_ ?_
    .refine .inr (.inl ⟨.inl rfl,by omega,by rw[q1.inn,a12];omega,E,rfl,by omega,by omega,?_⟩)
     show gd F E=if(50:Int)=50 then _ else _
     rw[al rfl,q2.inn,a12];omega
    .show¬cI (50:Int)
     unfold cI;omega
    .refine⟨b+g0.length,Ac,by omega, .inl ⟨rfl,?_⟩⟩;rw[hc]
     show(50:Int)≠51
     decide
   have j2:Pc code F (b+g0.length+1+g1.length) (b+g0.length+1+g1.length+1) (d+1) d:=by
    refine Pc.ins a41 a42 (by rw[hE];exact q2.inn) ⟨by omega,by omega⟩ ⟨by omega,by omega⟩ ?_ ?_ ?_
    .refine .inl ⟨rfl,E+g2.length,rfl,by omega,by omega,?_⟩;rw[ho,a42]
    .show¬cI (51:Int)
     unfold cI;omega
    .refine⟨b+g0.length,Ac,by omega, .inr ⟨?_,?_⟩⟩
     .rw[hc];exact⟨(by decide:(50:Int)<=50),(by decide:(50:Int)<=53)⟩
     .rw[hc,hE]
   rw[hE]at j2;exact q0.KT (j1.KT (q1.KT (j2.KT q2)))
  rw[aj Ln]at hA ho hl⊢;rw[aqT,aq8]at ho hl⊢
  obtain⟨a,ha⟩:∃a:Nat,ar e[i].1=a:=⟨(ar e[i].1).toNat,by omega⟩
  have han:(ar e[i].1).toNat=a:=by omega
  rw[han]at hA hlen
  have hj:¬(50<=(e[i].1:Int)/\(e[i].1:Int)<=53):=by
   intro h;have:=RD h.1;omega
  obtain⟨b1,b2⟩:=hA.right.head;dsimp only at b1 b2
  have QG:d+a<=12:=by
   by_cases ha0:a=0
   .omega
   .have hk:a-1<os.length:=by omega
    have hm:=aqN hk;have:=(fJ (a-1) hk (d+((a-1:Nat):Int)) (by omega)).le w (by have:=aI _ hm;omega);omega
  rw[<-Nat.add_assoc]at ho hl⊢
  have hq:=RE (code:=code) (F:=F) (g:=cg e st f) os b d h0 (by omega) (λk hk b' hA' oY zJ=>by
   have hm:=aqN hk;have NH:=aI _ hm
   exact ih os[k] b' (d+k) (by omega) (by omega) (by omega) (fJ k hk _ (arO _)) hA' oY zJ) hA.left (by rw[b2,hlen]) (by omega)
  rw[hlen]at hq
  have NU:¬cI e[i].1:=by
   unfold cI;intro h
   rcases h with h|h|h
   .exact Ic (.inl h)
   .exact Ic (.inr h)
   .exact Ln h
  exact hq.KT (Pc.one b1 ha NU hj b2 ho h0 (by omega) QG)
def lg(e:List Ty)(st:List Nat):List (Ty×Int):=cg e st e.length (e.length-1) 0 0
def AS(e:List Ty)(st:List Nat):List Int:=(lg e st).map Prod.snd++[1]
def RF{e:List Ty}{st:List Nat}(w:Whole e st):FOK (ins (lg e st)) (AS e st):=by
 have hp:0<e.length:=List.length_pos_iff.2 w.ne;have hle:=w.le;have h96:(lg e st).length<=96:=Rz w (by omega);have Zc:(ins (lg e st)).length=(lg e st).length:=arb ..
 have hld:(AS e st).length=(lg e st).length+1:=by unfold AS;simp
 have hA:At (ins (lg e st)) (AS e st) 0 (lg e st):=λk hk=>by
  rw[arl];refine⟨by simp[ins,hk],?_⟩
  grind [P.gd,P.AS]
 have ho:gd (AS e st) (0+(lg e st).length)=0+1:=by
  rw[arl];unfold gd arm AS;rw[arD (by simp)];simp
 have room:Hh st (e.length-1) 0:=by
  obtain⟨v1,l,v2,v3,v4,v5⟩:=w.val.node (e.length-1) (by omega);exact⟨_,v2.next v1 v3 v5,by simp;omega⟩
 have p:Pc (ins (lg e st)) (AS e st) 0 (0+(lg e st).length) 0 (0+1):=Wt w e.length (e.length-1) 0 0 (by omega) (by omega) (by omega) room hA ho (by rw[Zc];exact Nat.le_of_eq (arl _));rw[arl]at p
 have dG:0<(lg e st).length:=by
  rcases Nat.eq_zero_or_pos (lg e st).length with h|h
  .grind [P.Pc.inn]
  .exact h
 rw[<-Zc]at p;exact⟨by omega,by omega,by omega,λk hk=>p.bd k (aq2 _) hk,p.inn,p.out,λj h=>p.step j h (aq2 _) h,λk k1 k2=>p.reach k k1 k2⟩
end L.P
namespace L.P
def xJ:List Vl->List Ty->Prop
 |[],[]=>True
 |v::vs,t::ts=>ma v t/\xJ vs ts
 |[],_::_=>False
 |_::_,[]=>False
theorem xJ.len:∀{vs:List Vl}{ts:List Ty},xJ vs ts->vs.length=ts.length
 |[],[],_=>rfl
 |_::_,_::_,h=>by simp[xJ.len h.2]
 |[],_::_,h=>h.elim
 |_::_,[],h=>h.elim
def xJ.pl:∀{vs:List Vl}{ts:List Ty},xJ vs ts->∀v∈vs,bD v.1 v.2.1 v.2.2
 |[],[],_,v,h=>by simp at h
 |w::vs,t::ts,h,v,hv=>by
  rcases arw.1 hv with rfl|hv
  .exact h.1.1
  .exact xJ.pl h.2 v hv
 |[],_::_,h,_,_=>h.elim
 |_::_,[],h,_,_=>h.elim
theorem Lv{vs:List Vl}{a:Ty}(h:xJ vs [a]):∃v,vs=[v]/\ma v a:=by
 match vs,h with
 |[v],h=>exact⟨v,rfl,h.1⟩
def su{vs:List Vl}{a b:Ty}(h:xJ vs [a,b]):∃v w,vs=[v,w]/\ma v a/\ma w b:=by
 match vs,h with
 |[v,w],h=>exact⟨v,w,rfl,h.1,h.2.1⟩
def ab9{vs:List Vl}{a b c:Ty}(h:xJ vs [a,b,c]):∃v w x,vs=[v,w,x]/\ma v a/\ma w b/\ma x c:=by
 match vs,h with
 |[v,w,x],h=>exact⟨v,w,x,rfl,h.1,h.2.1,h.2.2.1⟩
def Ie(op:Int):Prop:=10<=op/\op<=32
def Zn{op:Int}(h:Ie op):¬op=7/\¬op=8/\¬op=33/\¬op=34/\¬(op=36\/op=37\/op=38\/op=39)/\¬(op=1\/op=2\/op=3\/op=4\/op=5)/\¬op=6/\¬op=9/\¬op=35:=by unfold Ie at h;omega
def RG{N:Nat}{op m:Int}{v:Vl}{env:bR.den}(h:Ie op):M.bi N (op,m) [v] env=M.cr N op v.1:=by
 obtain⟨h1,h2,h3,h4,h5,_⟩:=Zn h;unfold M.bi;dsimp only[aC,Row.den];rw[wo,av h1,av h2,av h3,av h4,av h5];simp[pG]
def Hi{N:Nat}{op m:Int}{v w:Vl}{env:bR.den}(h:Ie op):M.bi N (op,m) [v,w] env=M.aT N op v w:=by
 obtain⟨h1,h2,h3,h4,h5,_⟩:=Zn h;unfold M.bi;dsimp only[aC,Row.den];rw[wo,av h1,av h2,av h3,av h4,av h5];simp[pG,wB]
def RH{N:Nat}{op m:Int}{v w x:Vl}{env:bR.den}(h:Ie op)(hv:(v.1:Int)=1):M.bi N (op,m) [v,w,x] env=M.dz N w x:=by
 obtain⟨h1,h2,h3,h4,h5,_⟩:=Zn h;unfold M.bi;dsimp only[aC,Row.den];rw[wo,av h1,av h2,av h3,av h4,av h5];simp[pG,wB,Yt,hv]
def RJ{N:Nat}{op m:Int}{v:Vl}{env:bR.den}(h:Ie op):M.bl N (op,m) [v] env=(M.gC N op v).bind λy=>aa (y,(0:Int)):=by
 obtain⟨h1,h2,h3,h4,h5,h6,h7,h8,h9⟩:=Zn h;unfold M.bl;dsimp only[aC,Row.den];rw[GJ,wo,av h1,av h2,av h3,av h4,av h5,av h6,av h7,av h8,av h9];simp[pG]
def Hj{N:Nat}{op m:Int}{v w:Vl}{env:bR.den}(h:Ie op):M.bl N (op,m) [v,w] env=(M.bT N (op,m) v w).bind λy=>aa (y.1,y.2):=by
 obtain⟨h1,h2,h3,h4,h5,h6,h7,h8,h9⟩:=Zn h;unfold M.bl;dsimp only[aC,Row.den];rw[GJ,wo,av h1,av h2,av h3,av h4,av h5,av h6,av h7,av h8,av h9];simp[pG,wB]
def RM{N:Nat}{op m:Int}{v w x:Vl}{env:bR.den}(h:Ie op):M.bl N (op,m) [v,w,x] env=if(v.2.2:Int)=1 then aa (w,(0:Int))else aa (x,(0:Int)):=by
 obtain⟨h1,h2,h3,h4,h5,h6,h7,h8,h9⟩:=Zn h;unfold M.bl;dsimp only[aC,Row.den];rw[GJ,wo,av h1,av h2,av h3,av h4,av h5,av h6,av h7,av h8,av h9];simp[pG,wB,Yt]
def nS(N:Nat)(b:Bool):Wp (M.eo N b) λy=>(y.1:Int)=1/\(y.2.1:Int)=0:=by
 unfold M.eo
 exact Wp.ite (λ_=> .some ⟨rfl,rfl⟩) λ_=> .some ⟨rfl,rfl⟩
def RN(op:Int)(a:Vl):Wp (M.gC aJ op a) λy=>(y.2.1:Int)=0/\(op=10->(y.1:Int)=a.1)/\(op=25->(y.1:Int)=1)/\(op=31\/op=32->(y.1:Int)=2):=by
 unfold M.gC
 refine Wp.dec (λh=> .some (by grind)) λh=>?_
 refine Wp.dec (λh=>Wp.seq _ (nS ..) λy hy=> .some (by grind)) λh'=>?_
 refine Wp.seq _ (rk ..) λy _=>?_
 exact Wp.dec (λ_=> .some ⟨rfl,λg=>absurd g h,λg=>absurd g h',λ_=>rfl⟩) λ_=> .some (by grind)
def NW{op m:Int}{a b:Vl}(hm:op=14\/op=15\/op=16->0<=m/\m<=5)(fJ:13<=op/\op<=16):Wp (M.gP aJ (op,m) a b) λr=>Cd r.2/\(r.1.2.1:Int)=0/\(r.1.1:Int)=if op=15/\¬(b.1:Int)=2 then 4 else a.1:=by
 unfold M.gP;dsimp only[aC,Row.den]
 refine Wp.seq (λj=>Cd j.1/\(j.2.2.1:Int)=0/\(j.2.1:Int)=if op=15/\¬(b.1:Int)=2 then 4 else a.1) ?_ λj hj=> .some hj
 refine Wp.dec (λh=>Wp.seq _ (Av ..) λr hr=> .some (by grind)) λh13=>?_
 have EM:=hm (by omega);simp only[aQ,aqI,kj]
 refine Wp.ite (λh=>Wp.seq _ (CE EM) λr hr=> .some (by grind)) λ_=>?_
 refine Wp.dec (λh=>Wp.seq _ (DT EM) λr hr=> .some (by grind)) λEO=>?_
 refine Wp.dec (λh=>Wp.seq _ (vh EM) λr hr=> .some (by grind)) λZh=>?_
 refine Wp.dec (λh=>Wp.seq _ (oS _ EM) λr hr=> .some (by grind)) λh2=>?_
 exact Wp.seq _ (wb EM) λr hr=> .some (by grind)
def bk(op p q:Int):Int:=
 if op=15/\¬q=2 then 4 else if op=11\/op=27\/op=12\/(13<=op/\op<=16)then p else if 19<=op/\op<=24 then 1 else if op=28 then 5 else 2
theorem U7{op p q:Int}(h:op=11\/op=27\/op=12):bk op p q=p:=by grind [P.bk]
theorem NX{op p q:Int}(h:13<=op/\op<=16):bk op p q=if op=15/\¬q=2 then 4 else p:=by grind [P.bk]
def El{op p q:Int}(h:19<=op/\op<=24):bk op p q=1:=by grind [P.bk]
theorem aca{op p q:Int}(h:op=28):bk op p q=5:=by grind [P.bk]
def Yy{op p q:Int}(h:op=29\/op=30):bk op p q=2:=by grind [P.bk]
def NY{op m:Int}{a b:Vl}(hm:op=14\/op=15\/op=16->0<=m/\m<=5)(fJ:¬(op=17\/op=18))(ZL:11<=op/\op<=30/\¬op=25/\¬op=26):Wp (M.bT aJ (op,m) a b) λr=>Cd r.2/\(r.1.2.1:Int)=0/\(r.1.1:Int)=bk op a.1 b.1:=by
 unfold M.bT;dsimp only[aC,Row.den];rw[tj,wo,tj];simp only[aqI]
 refine Wp.dec (λh=> .some ⟨CB 0,rfl,(U7 (by omega)).symm⟩) λ_=>?_
 refine Wp.dec (λh=> .some ⟨CB 0,rfl,(U7 (by omega)).symm⟩) λ_=>?_
 refine Wp.dec (λh=>Wp.seq _ (NW hm (by omega)) λr hr=> .some ⟨hr.1,hr.2.1,hr.2.2.trans (NX (by omega)).symm⟩) λ_=>?_
 refine Wp.dec (λh=>absurd h fJ) λ_=>?_
 refine Wp.dec (λh=>Wp.seq _ (nS ..) λy hy=> .some ⟨CB 0,hy.2,hy.1.trans (El (by omega)).symm⟩) λ_=>?_
 refine Wp.dec (λh=>Wp.seq _ (nS ..) λy hy=> .some ⟨CB 0,hy.2,hy.1.trans (El (by omega)).symm⟩) λ_=>?_
 refine Wp.dec (λh=>Wp.seq _ (nS ..) λy hy=> .some ⟨CB 0,hy.2,hy.1.trans (El (by omega)).symm⟩) λ_=>?_
 refine Wp.dec (λh=>Wp.seq _ (nS ..) λy hy=> .some ⟨CB 0,hy.2,hy.1.trans (El (by omega)).symm⟩) λ_=>?_
 refine Wp.dec (λh=>Wp.seq (λj:Int×Vl=>j.1=0/\(j.2.1:Int)=1/\(j.2.2.1:Int)=0) (Wp.dec (λ_=>Wp.seq _ (nS ..) λ_ hy=> .some ⟨rfl,hy⟩) λ_=>Wp.seq _ (nS ..) λ_ hy=> .some ⟨rfl,hy⟩) λj hj=> .some ⟨.inl hj.1,hj.2.2,hj.2.1.trans (El (by omega)).symm⟩) λ_=>?_
 refine Wp.dec (λh=>Wp.seq (λj:Int×Vl=>j.1=0/\(j.2.1:Int)=1/\(j.2.2.1:Int)=0) (Wp.dec (λ_=>Wp.seq _ (nS ..) λ_ hy=> .some ⟨rfl,hy⟩) λ_=>Wp.seq _ (nS ..) λ_ hy=> .some ⟨rfl,hy⟩) λj hj=> .some ⟨.inl hj.1,hj.2.2,hj.2.1.trans (El (by omega)).symm⟩) λ_=>?_
 refine Wp.dec (λh=>Wp.seq _ (pC ..) λr hr=> .some ⟨hr,rfl,(aca h).symm⟩) λh28=>?_
 refine Wp.dec (λh=> .some ⟨CB 0,rfl,(Yy (by omega)).symm⟩) λh29=>?_
 exact Wp.seq _ (pf ..) λr _=> .some ⟨CB 0,rfl,(Yy (by omega)).symm⟩
def NZ{op m:Int}{a b:Vl}(fJ:op=17\/op=18):Wp (M.bT aJ (op,m) a b) λr=>r.2=0/\(r.1=a\/r.1=b):=by
 unfold M.bT;dsimp only[aC,Row.den];rw[tj,wo,tj];simp only[aqI]
 refine Wp.dec (λh=>by omega) λ_=>?_
 refine Wp.dec (λh=>by omega) λ_=>?_
 refine Wp.dec (λh=>by omega) λ_=>?_
 refine Wp.dec (λh=>?_) λh=>absurd fJ h
 exact Wp.ite (λ_=> .some ⟨rfl, .inr rfl⟩) λ_=> .some ⟨rfl, .inl rfl⟩
def C3(c:Int):Prop:=c=0\/c=3\/c=6\/c=12
def Cd.c3{c:Int}(h:Cd c):C3 c:=by unfold Cd at h;unfold C3;omega
def RO(t:Ty)(y:Vl×Int):Prop:=C3 y.2/\(y.2=0->(y.1.1:Int)=t.1/\(y.1.2.1:Int)=t.2)
def Hk{v:Vl}{a:Ty}(h:ma v a)(h6:(a.1:Int)≠6):(a.2:Int)=0:=by
 obtain⟨(k:Int),(e:Int),(n:Int)⟩:=v;obtain⟨(p:Int),(q:Int)⟩:=a;obtain⟨h1,h2,h3⟩:=h;dsimp only[aC,Row.den]at*;unfold bD at h1;omega
def Lx(N:Nat)(v w:Vl):M.dz N v w=aa (decide ((v.1:Int)=w.1/\(v.2.1:Int)=w.2.1)):=by
 grind [M.dz]
def yJ{op:Int}{v w:Vl}{a b:Ty}(hv:ma v a)(hw:ma w b)
 (h:((op=11\/op=12)/\a=b/\Lr a.1)\/(op=13/\(b.1:Int)=2/\((a.1:Int)=2\/(a.1:Int)=3))\/(op=14/\(b.1:Int)=4/\((a.1:Int)=3\/(a.1:Int)=4))\/(op=15/\(((b.1:Int)=2/\((a.1:Int)=2\/(a.1:Int)=3))\/((a.1:Int)=3/\(b.1:Int)=3)))\/(op=16/\(a.1:Int)=3/\(b.1:Int)=3)\/((op=17\/op=18\/op=21\/op=22)/\a=b/\(Lr a.1\/(a.1:Int)=5))\/((op=19\/op=20)/\a=b)\/((op=23\/op=24)/\(a.1:Int)=1/\(b.1:Int)=1)\/((op=27\/op=28)/\(a.1:Int)=5/\(b.1:Int)=2)\/((op=29\/op=30)/\(a.1:Int)=5/\(b.1:Int)=5)):M.aT aJ op v w=aa af:=by
 obtain⟨(k:Int),(e:Int),(n:Int)⟩:=v;obtain⟨(k':Int),(e':Int),(n':Int)⟩:=w;obtain⟨(p:Int),(q:Int)⟩:=a;obtain⟨(p':Int),(q':Int)⟩:=b;obtain⟨_,h2,h3⟩:=hv;obtain⟨_,h5,h6⟩:=hw;dsimp only[aC,Row.den]at*;subst h2 h3 h5 h6;unfold M.aT;dsimp only[aC,Row.den];simp only[Lx,fH]
 rcases h with⟨ho,yB,hn⟩|⟨ho,hb,ha⟩|⟨ho,hb,ha⟩|⟨ho,⟨hb,ha⟩|⟨ha,hb⟩⟩|⟨ho,ha,hb⟩|⟨ho,yB,hn⟩|⟨ho,yB⟩|⟨ho,ha,hb⟩|⟨ho,ha,hb⟩|⟨ho,ha,hb⟩
 .grind
 .grind
 .grind
 .grind
 .grind
 .grind
 .obtain⟨rfl,rfl⟩:k=k'/\e=e':=by simpa using yB
  rcases ho with rfl|rfl|rfl|rfl<;>rcases hn with(rfl|rfl|rfl)|rfl<;>simp
 .obtain⟨rfl,rfl⟩:k=k'/\e=e':=by simpa using yB
  rcases ho with rfl|rfl<;>simp
 .subst hb ha;rcases ho with rfl|rfl<;>simp
 .subst hb ha;rcases ho with rfl|rfl<;>simp
 .subst hb ha;rcases ho with rfl|rfl<;>simp
def RP{op m:Int}{ts:List Ty}{t:Ty}{args:List Vl}{env:bR.den}(hm:op=14\/op=15\/op=16->0<=m/\m<=5)(h:RT op ts t)(ha:xJ args ts):Wp (M.bi aJ (op,m) args env) (· =af)/\Wp (M.bl aJ (op,m) args env) (RO t):=by
 have c0:C3 0:= .inl rfl
 have un:∀{v:Vl}{a:Ty},Ie op->ma v a->M.cr aJ op a.1=aa af->(∀y:Vl,(y.2.1:Int)=0/\(op=10->(y.1:Int)=v.1)/\(op=25->(y.1:Int)=1)/\(op=31\/op=32->(y.1:Int)=2)->(y.1:Int)=t.1/\(y.2.1:Int)=t.2)->Wp (M.bi aJ (op,m) [v] env) (· =af)/\Wp (M.bl aJ (op,m) [v] env) (RO t):=by
  intro v a hp hv h1 h2;rw[RG hp,RJ hp,show v.1=a.1 from hv.2.1,h1];exact⟨.some rfl,Wp.seq _ (RN ..) λy hy=> .some ⟨c0,λ_=>h2 y hy⟩⟩
 have bin:∀{v w:Vl}{a b:Ty},Ie op->ma v a->ma w b->¬(op=17\/op=18)->(11<=op/\op<=30/\¬op=25/\¬op=26)->M.aT aJ op v w=aa af->(t.2:Int)=0->bk op a.1 b.1=t.1->Wp (M.bi aJ (op,m) [v,w] env) (· =af)/\Wp (M.bl aJ (op,m) [v,w] env) (RO t):=by
  intro v w a b hp hv hw h17 ZL h1 h2 h3;rw[Hi hp,Hj hp,h1];refine⟨.some rfl,Wp.seq _ (NY hm h17 ZL) λy hy=> .some ⟨hy.1.c3,λ_=>⟨?_,hy.2.1.trans h2.symm⟩⟩⟩;rw[<-h3,<-show v.1=a.1 from hv.2.1,<-show w.1=b.1 from hw.2.1];exact hy.2.2
 have p:10<=op/\op<=32->Ie op:=λh=>h
 rcases h with⟨ho,a,rfl,hn,rfl⟩|⟨ho,a,rfl,hn,rfl⟩|⟨ho,a,rfl,hn,rfl⟩|⟨ho,a,rfl,hn,rfl⟩|⟨ho,a,b,rfl,hb,hk,rfl⟩|⟨ho,a,b,rfl,hb,hk,rfl⟩|⟨ho,a,b,rfl,⟨hb,hk,rfl⟩|⟨hk,hb,rfl⟩⟩|⟨ho,a,b,rfl,hk,hb,rfl⟩|⟨ho,a,rfl,hn,rfl⟩|⟨ho,a,rfl,rfl⟩|⟨ho,a,rfl,hn,rfl⟩|⟨ho,a,b,rfl,hk,hb,rfl⟩|⟨ho,a,b,rfl,hk,rfl⟩|⟨ho,a,b,rfl,hk,hb,rfl⟩|⟨ho,a,b,rfl,hk,hb,rfl⟩
 .obtain⟨v,rfl,hv⟩:=Lv ha
  refine un (p (by omega)) hv ?_ λy hy=>⟨(hy.2.1 ho).trans hv.2.1,hy.1.trans (Hk hv (by grind)).symm⟩
  grind [M.cr,P.fH]
 .grind [P.Lv,M.cr]
 .grind [P.Lv,M.cr]
 .obtain⟨v,w,rfl,hv,hw⟩:=su ha;exact bin (p (by omega)) hv hw (by omega) (by omega) (yJ hv hw (.inl ⟨ho,rfl,hn⟩)) (Hk hv (by rcases hn with h|h|h<;>rw[h]<;>decide)) (U7 (by omega))
 .obtain⟨v,w,rfl,hv,hw⟩:=su ha;exact bin (p (by omega)) hv hw (by omega) (by omega) (yJ hv hw (.inr (.inl ⟨ho,hb,hk⟩))) rfl (by rw[NX (by omega),aj (by omega)])
 .obtain⟨v,w,rfl,hv,hw⟩:=su ha;exact bin (p (by omega)) hv hw (by omega) (by omega) (yJ hv hw (.inr (.inr (.inl ⟨ho,hb,hk⟩)))) rfl (by rw[NX (by omega),aj (by omega)])
 .obtain⟨v,w,rfl,hv,hw⟩:=su ha;exact bin (p (by omega)) hv hw (by omega) (by omega) (yJ hv hw (.inr (.inr (.inr (.inl ⟨ho, .inl ⟨hb,hk⟩⟩))))) rfl (by grind [P.NX])
 .obtain⟨v,w,rfl,hv,hw⟩:=su ha;exact bin (p (by omega)) hv hw (by omega) (by omega) (yJ hv hw (by grind)) rfl (by rw[NX (by omega),al ⟨ho,by rw[hb];decide⟩])
 .obtain⟨v,w,rfl,hv,hw⟩:=su ha;exact bin (p (by omega)) hv hw (by omega) (by omega) (yJ hv hw (by grind)) (Hk hv (by rw[hk];decide)) (by rw[NX (by omega),aj (by omega)])
 .obtain⟨v,w,rfl,hv,hw⟩:=su ha;have hp:Ie op:=p (by omega);rw[Hi hp,Hj hp,yJ hv hw (.inr (.inr (.inr (.inr (.inr (.inl ⟨by omega,rfl,hn⟩))))))];refine⟨.some rfl,Wp.seq _ (NZ ho) λy hy=> .some ⟨.inl hy.1,λ_=>?_⟩⟩
  rcases hy.2 with h|h<;>simp only[h]
  .exact hv.2
  .exact hw.2
 .obtain⟨v,w,rfl,hv,hw⟩:=su ha;exact bin (p (by omega)) hv hw (by omega) (by omega) (yJ hv hw (by grind)) rfl (El (by omega))
 .obtain⟨v,w,rfl,hv,hw⟩:=su ha;exact bin (p (by omega)) hv hw (by omega) (by omega) (yJ hv hw (.inr (.inr (.inr (.inr (.inr (.inl ⟨by omega,rfl,hn⟩))))))) rfl (El (by omega))
 .obtain⟨v,w,rfl,hv,hw⟩:=su ha;exact bin (p (by omega)) hv hw (by omega) (by omega) (yJ hv hw (by grind)) rfl (El (by omega))
 .obtain⟨v,w,x,rfl,hv,hw,hx⟩:=ab9 ha;have hp:Ie op:=p (by omega);rw[RH hp (hv.2.1.trans hk),RM hp,Lx];refine⟨.some ?_,Wp.ite (λ_=> .some ⟨c0,λ_=>hw.2⟩) λ_=> .some ⟨c0,λ_=>hx.2⟩⟩;exact au ⟨hw.2.1.trans hx.2.1.symm,hw.2.2.trans hx.2.2.symm⟩
 .obtain⟨v,w,rfl,hv,hw⟩:=su ha;refine bin (p (by omega)) hv hw (by omega) (by omega) (yJ hv hw (by grind)) (Hk hv (by rw[hk];decide)) ?_
  grind [P.U7,P.aca]
 .obtain⟨v,w,rfl,hv,hw⟩:=su ha;exact bin (p (by omega)) hv hw (by omega) (by omega) (yJ hv hw (by grind)) rfl (Yy ho)
end L.P
end Go.Proofs.YtfjgcenlllgonaaGreatDoor
