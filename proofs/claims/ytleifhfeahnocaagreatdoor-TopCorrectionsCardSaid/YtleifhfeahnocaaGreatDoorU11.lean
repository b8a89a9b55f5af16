/- Joined texts: RU RV RW TV TX RY RZ PV PT. -/
import Derived.Test.YtleifhfeahnocaaGreatDoorU10
import Derived.Test.YtleifhfeahnocaaGreatDoorU1
open _root_.Bool renaming false->ag,true->af,false_eq_true->ajI,and_eq_true->akd
open _root_.Option renaming none->ae,some->aa,bind_some->ai8
open _root_.Go.Lib renaming indexByte->aks,compact->ajN
open _root_.Go.IntKind renaming i64->ai9,u64->ajc
open _root_.List renaming getElem?_eq_getElem->ajb,getElem_mem->aje,getElem_of_mem->ajm,length_take->ajO,take_append_getElem->ajk,append_nil->ajS,drop_eq_getElem_cons->ajx,drop_of_length_le->ajX,getElem_append_left->ajM,getElem_append_right->ajU,replicate->aji,take_length->ajn,getElem?_eq_some_iff->ajr,length_cons->ajp,length_nil->ajJ,mem_append->ajt,mem_cons->ajQ,pairwise_cons->aka,range->ajY,getElem?_take->ake,countP_eq_zero->akT,mem_singleton->ajy
open _root_.Nat renaming le_of_lt->akD,le_trans->ajs,le_refl->ajh,zero_le->ajB,add_zero->akj,beq->ajf,div_div_eq_div_mul->akM,mul_le_mul_right->ajq,pow_add->akR
open _root_.Int renaming eq_ofNat_of_zero_le->ajd,tdiv->ajl,tmod->ajH,toNat_natCast->ajg,le_refl->aj1
open _root_.Option.some renaming inj->aja
namespace Go.Proofs.YtleifhfeahnocaaGreatDoor
open Go Go.RowKit
set_option maxRecDepth 100000
set_option linter.unusedSimpArgs false
set_option linter.unusedVariables false
set_option linter.defProp false
namespace L
noncomputable def xu:List ByteArray:=(M.nR aU).getD []
def Pb:M.nR aU=aa xu:=by kernel_rfl
def Mz:xu.length<=100:=by unfold xu;decide+kernel
def Wd(c:Int):Prop:=(97<=c/\c<=122)\/(48<=c/\c<=57)\/c=95
def IdS(s:ByteArray):Prop:=s.size<=16/\(∃h:0<s.size,97<=s[0].toNat/\s[0].toNat<=122)/\(∀k,∀h:k<s.size,Wd (s[k].toNat:Int))/\s∉xu
theorem MA(s:ByteArray):pc s=af↔IdS s:=by
 have key:Wp (M.lc aU s) λr=>r=af↔IdS s:=by
  have hl:=Mz;unfold M.lc;simp only[Dw,O5,Pb,W_,av,ax,reduceCtorEq];refine⟨λh=>?_,λh0=>⟨λh=>?_,λh16=>?_⟩⟩
  .exact aA id λg=>by obtain⟨_,⟨g,_⟩,_⟩:=g;omega
  .exact aA id λg=>by have:=g.1;omega
  refine tt.2 ⟨by omega,?_⟩;have e0:((0:Int).toNat)=0:=rfl;simp only[e0];refine⟨λh=>aA id λg=>?_,λWN=>?_⟩
  .obtain⟨_,⟨_,g⟩,_⟩:=g;grind
  refine Wp.count (λs=>s) s.size (λk _=>∀j,j<k->∀h:j<s.size,Wd (s[j].toNat:Int)) (by omega) rfl (λj hj=>by omega) λk c hk hs hJ=>?_
  obtain rfl:c=_:=hs;simp only[W_,av,ax,reduceCtorEq,bf,aX];refine⟨λaG=>tt.2 ⟨by omega,?_⟩,λhge=>?_⟩
  .have aG:k<s.size:=by omega
   have ek:((k:Int).toNat)=k:=by omega
   simp only[ek];exact⟨λh=>aA id λg=>h (g.2.2.1 k aG),λh=>⟨aG,aS (by omega),eL hJ λ_=>h⟩⟩
  refine Wp.count (λs=>s) xu.length (λk _=>∀j,j<k->∀h:j<xu.length,xu[j]≠s) (by omega) rfl (λj hj=>by omega) λi c hi hs hI=>?_
  obtain rfl:c=_:=hs;simp only[W_,av,ax,reduceCtorEq,bf,aX];refine⟨λaG=>?_,λagv=>?_⟩
  .have aG:i<xu.length:=by omega
   simp only[aF aG,cR (m:=xu.length) (by omega) aG,W_,av,ax,reduceCtorEq];exact⟨λh=>aA id λg=>g.2.2.2 (h▸aje aG),(by grind)⟩
  .refine iff_of_true trivial ⟨by omega,⟨by omega,by omega⟩,λj h=>hJ j (by omega) h,λhm=>?_⟩
   grind [ajm]
 obtain⟨r,hr,h⟩:=key;unfold pc
 grind
def uD(s:ByteArray):List ByteArray->Option Bool
 |[]=>aa ag
 |[w]=>aa (decide (s=w))
 |w::l=>if decide (s=w)=af then aa (decide (s=w))else uD s l
theorem zS(s:ByteArray):(l:List ByteArray)->uD s l=aa (decide (s∈l))
 |[]=>by simp[uD]
 |[w]=>by simp[uD]
 |w::w'::l=>by
  unfold uD;rw[zS s (w'::l)]
  grind
def DA(s:ByteArray):M.lv aU s=aa (decide (s∈xu)):=by
 have:M.lv aU s=(uD s xu).bind λj=>if j=af then aa af else aa ag:=by kernel_rfl
 grind [zS]
def zT(c:Int):M.kA aU c=aa (decide (97<=c/\c<=122)):=by
 apply Wp.eq;unfold M.kA;simp only[W_,av,ax,reduceCtorEq];omega
def JE(c:Int):M.mB aU c=aa (decide (48<=c/\c<=57)):=by
 apply Wp.eq;unfold M.mB;simp only[W_,av,ax,reduceCtorEq];omega
def yM(s:ByteArray)(hs:s.size<=maxLen):Wp (M.jM aU s) λn=>n=(s.size:Int)↔∀k,∀h:k<s.size,Wd (s[k].toNat:Int):=by
 unfold M.jM;simp only[zT,JE]
 refine Wp.count (λs=>s) s.size (λk _=>∀j,j<k->∀h:j<s.size,Wd (s[j].toNat:Int)) hs rfl (λj hj=>by omega) λk c hk uE hJ=>?_
 obtain rfl:c=_:=uE
 rcases Nat.lt_or_ge k s.size with aG|hge
 .have hb:me s (k:Int)=aa (s[k].toNat:Int):=by
   have:=(QD (x:=((s[k].toNat:Nat):Int))).1 (tt (s:=s) (i:=(k:Int)).2 ⟨by omega,by simp⟩);exact this
  simp only[FP aG,hb,cR hs aG,W_,av,ax,reduceCtorEq,bf,aX];unfold Wd at*
  have ok:(97<=(s[k].toNat:Int)/\(s[k].toNat:Int)<=122)\/(48<=(s[k].toNat:Int)/\(s[k].toNat:Int)<=57)\/(s[k].toNat:Int)=95->k<s.size/\∀j,j<k+1->∀h:j<s.size,(97<=(s[j].toNat:Int)/\(s[j].toNat:Int)<=122)\/(48<=(s[j].toNat:Int)/\(s[j].toNat:Int)<=57)\/(s[j].toNat:Int)=95:=λh=>⟨aG,eL hJ λ_=>h⟩
  grind
 .obtain rfl:k=s.size:=by omega
  simp only[tv,W_,av,ax,reduceCtorEq,aX]
  grind
def uF(s:ByteArray)(hs:s.size<=maxLen):M.ct aU s=aa (pc s):=by
 have key:Wp (M.ct aU s) λr=>r=af↔IdS s:=by
  unfold M.ct;simp only[zT,DA,W_,av,ax,reduceCtorEq];refine⟨λh=>?_,λh=>?_⟩
  .have h0:0<s.size:=by
    rcases Nat.eq_zero_or_pos s.size with e|e
    .exact absurd (ByteArray.ext (by simp_all)) h
    .exact e
   refine tt.2 ⟨by omega,?_⟩;have e0:((0:Int).toNat)=0:=rfl;simp only[e0];refine⟨λWN=>(yM s hs).mono λn hn=>⟨λe=>⟨λh16=>?_,λh16=>aA id λg=>h16 (by have:=g.1;omega)⟩,λe=>aA id λg=>e (hn.2 g.2.2.1)⟩,λWN=>aA id λg=>?_⟩
   .exact⟨λg=>⟨by omega,⟨h0,by omega⟩,hn.1 e,g⟩,λg=>g.2.2.2⟩
   .obtain⟨_,⟨_,g⟩,_⟩:=g;grind
  .refine aA id λg=>?_
   obtain⟨_,⟨g,_⟩,_⟩:=g;subst h;cases g
 obtain⟨r,hr,h⟩:=key
 grind [MA]
theorem qz{β:Type}{l:List (ByteArray×β)}{nm:ByteArray}:0<=fM (λx=>decide (x.1=nm)) l↔jW l nm:=by
 rw[oy];unfold jW;simp
def sv(l:List En)(nm:ByteArray)(hl:l.length<=maxLen):M.jy aU l nm=aa (decide (jW l nm)):=by
 have:M.bB aU l nm=aa (fM (λx=>decide (x.1=nm)) l,nm):=by
  unfold M.bB M.lz;exact xr hl (λk h=>by simp only[aF h,ow h,ai8,if_true]) (by grind)
 grind [M.jy,M.bW,qz]
def vp(l:List QG)(nm:ByteArray)(hl:l.length<=maxLen):M.jN aU l nm=aa (decide (jW l nm)):=by
 have:M.br aU l nm=aa (fM (λx=>decide (x.1=nm)) l,nm):=by
  unfold M.br M.kX;exact xr hl (λk h=>by simp only[aF h,ow h,ai8,if_true]) (by grind)
 grind [M.jN,M.bO,qz]
def tC(l:List Fd)(f:Fd)(hl:l.length<=maxLen):M.bc aU l f=aa (decide (jW l f.1),f):=by
 have:M.bt aU l f=aa (fM (λx=>decide (x.1=f.1)) l,f):=by
  unfold M.bt M.jA;exact xr hl (λk h=>by simp only[aF h,ow h,ai8,if_true]) (by grind)
 grind [M.bc,qz]
def DB(l:List uz)(f:uz)(hl:l.length<=maxLen):M.bo aU l f=aa (decide (jW l f.1),f):=by
 have:M.bC aU l f=aa (fM (λx=>decide (x.1=f.1)) l,f):=by
  unfold M.bC M.kl;exact xr hl (λk h=>by simp only[aF h,ow h,ai8,if_true]) (by grind)
 grind [M.bo,qz]
def Bq(l:List iT)(f:iT)(hl:l.length<=maxLen):M.bd aU l f=aa (decide (jW l f.1),f):=by
 have:M.bu aU l f=aa (fM (λx=>decide (x.1=f.1)) l,f):=by
  unfold M.bu M.jD;exact xr hl (λk h=>by simp only[aF h,ow h,ai8,if_true]) (by grind)
 grind [M.bd,qz]
def FY(l:List ByteArray)(m:ByteArray)(hl:l.length<=maxLen):M.dc aU l m=aa (decide (m∈l)):=by
 have:M.dO aU l m=aa (fM (λx=>decide (m=x)) l):=by
  unfold M.dO;exact Hu hl (λk h=>by simp only[aF h,ow h,ai8,if_true]) (by grind)
 grind [M.dc,oy]
def FZ(l:List Int)(m:Int)(hl:l.length<=maxLen):M.eM aU l m=aa (decide (m∈l)):=by
 have:M.gh aU l m=aa (fM (λx=>decide (m=x)) l):=by
  unfold M.gh;exact Hu hl (λk h=>by simp only[aF h,ow h,ai8,if_true]) (by grind)
 grind [M.eM,oy]
def mR{α:Type}{l:List α}{k:Nat}(h:k<=l.length):gq l (0:Int) (k:Int)=aa (l.take k):=by
 apply Wp.eq;exact wp_cut.2 ⟨by omega,by simp⟩
def Br(l:Lw)(hw:WF bG l)(k:Nat)(hk:k<l.1.length):M.mC aU l (k:Int) l.1[k]=aa ((qx l k).getD (0,0)):=by
 have hx:WF ef l.1[k]:=hw.1.2 _ (aje hk);have w1:=hw.1.1;have hs:l.1[k].1.size<=maxLen:=hx.1;have hm:∀m∈l.1[k].2,ByteArray.size m<=maxLen:=hx.2.2;apply Wp.eq;unfold M.mC qx;rw[ajb hk];simp only[uF _ hs,mR (akD hk),sv (l.1.take k) _ (by grind),W_,av,ax,reduceCtorEq];generalize l.1[k]=x at*;refine⟨λh=>by grind,λh=>?_⟩;rw[ai (by simp[h])];refine⟨λh=>by grind,λh2=>?_⟩;rw[ai h2];refine⟨λh=>by grind,λh3=>?_⟩;rw[ai (by omega)];refine⟨λh=>by grind,λh4=>?_⟩;rw[ai (by omega)]
 refine Wp.count (λs=>s) x.2.length (λi _=>∀j,j<i->Mv x.2 j=ae) (by omega) rfl (λj hj=>by omega) λi c hi hs hJ=>?_
 obtain rfl:c=_:=hs;simp only[W_,av,ax,reduceCtorEq,bf,aX];refine⟨λaG=>?_,λhge=>?_⟩
 .have aG:i<x.2.length:=by omega
  have hf:Mv x.2 i=if pc x.2[i]=ag then aa (2,100+(i:Int))else if x.2[i]∈x.2.take i then aa (7,100+(i:Int))else ae:=by
   unfold Mv;rw[ajb aG]
  simp only[aF aG,uF _ (hm _ (aje aG)),mR (akD aG),FY (x.2.take i) _ (by rw[ajO];unfold maxLen;omega),tA (k:=i) (a:=100) (by omega) (by omega),cR (m:=x.2.length) (by omega) aG,W_,av,ax,reduceCtorEq];refine⟨λh=>?_,λh=>⟨λh2=>?_,λh2=>⟨aG,eL hJ ?_⟩⟩⟩
  all_goals grind [fx]
 grind [cq]
def yN(l:Lw)(hw:WF bG l):M.lA aU l=aa (if 8<l.1.length then((4:Int),((1:Int),((8:Int),(0:Int))))else match cX (λk=>(qx l k).map λe=>(k,e)) l.1.length with
 |some (k,e)=>tx 1 (k:Int) (aa e)
 |none=>Mu):=by
 have w1:=hw.1.1;unfold maxLen at w1;apply Wp.eq;unfold M.lA;simp only[W_,av,ax,reduceCtorEq];refine⟨λh=>by grind,λh8=>?_⟩;rw[ai (by omega)]
 refine Wp.count (λs=>s) l.1.length (λi _=>∀j,j<i->(λk=>(qx l k).map λe=>(k,e)) j=ae) w1 rfl (λj hj=>by omega) λi c hi hs hJ=>?_
 obtain rfl:c=_:=hs;simp only[W_,av,ax,reduceCtorEq,bf,aX];refine⟨λaG=>?_,λhge=>?_⟩
 .have aG:i<l.1.length:=by omega
  simp only[aF aG,Br l hw i aG,cR w1 aG,W_,av,ax,reduceCtorEq];refine⟨λh=>?_,λh=>⟨aG,eL hJ ?_⟩⟩
  .cases he:qx l i with
   |none=>grind
   |some e=>rw[fx (S4 he) hJ aG];rfl
  .cases he:qx l i with
   |none=>rfl
   |some e=>grind [uC]
 .rw[cq.2 λj hj=>hJ j (by omega)];rfl
theorem pP(t:Ty)(E:List En):M.cY aU t E=aa (decide (oO t E.length)):=by
 obtain⟨(k:Int),(e:Int)⟩:=t;apply Wp.eq;unfold M.cY;simp only[W_,av,ax,reduceCtorEq];simp only[oO];dsimp only[aB,Row.den]at*;omega
def vY(t:Ty)(E:List En):M.ga aU t E=aa (yI t E):=by
 obtain⟨(k:Int),(e:Int)⟩:=t;apply Wp.eq;unfold M.ga yI;simp only[pP,W_,av,ax,reduceCtorEq];by_cases hv:oO (k,e) E.length
 .simp only[hv,not_true_eq_false,if_false,false_implies,true_implies,true_and];refine⟨λh=>by rw[aj h],λh1=>⟨λh=>by rw[ai h1,aj h],λh2=>⟨λh=>by rw[ai h1,ai h2,aj h],λh3=>⟨λh=>by rw[ai h1,ai h2,ai h3,aj h],λh4=>⟨(by grind),λh5=>?_⟩⟩⟩⟩⟩;simp only[oO]at hv;dsimp only[aB,Row.den]at*
  have hi:e.toNat<E.length:=by omega
  refine eW.2 ⟨by omega,?_⟩
  grind
 grind
def uG(r:Ty):M.dU aU r=aa (decide (VR r)):=by
 obtain⟨(k:Int),(e:Int)⟩:=r;apply Wp.eq;unfold M.dU;simp only[W_,av,ax,reduceCtorEq];simp only[VR];grind
def JF(a b:Rw):M.lB aU a b=aa (decide (vn a b)):=by
 obtain⟨⟨(a1:Int),(a2:Int)⟩,(a3:Int),(a4:Int),(a5:Int)⟩:=a;obtain⟨⟨(b1:Int),(b2:Int)⟩,(b3:Int),(b4:Int),(b5:Int)⟩:=b;apply Wp.eq;unfold M.lB M.ki M.dP;simp only[uG,W_,av,ax,reduceCtorEq];simp only[vn];dsimp only[aB,Row.den]at*
 by_cases h1:VR (a1,a2)<;>by_cases h2:VR (b1,b2)<;>simp only[h1,h2,W_,av,ax,reduceCtorEq]<;>omega
def MB(l:List Rw)(x:Rw)(hl:l.length<=maxLen):Wp (M.cy aU l x) λr=>r.2.1=af↔∃y∈l,vn y x:=by
 unfold M.cy M.jz
 refine Wp.count (λs=>s.1) l.length (λk s=>s.2=x/\∀j,j<k->∀h:j<l.length,¬vn l[j] x) hl rfl ⟨rfl,λj hj=>by omega⟩ λk c hk hs hJ=>?_
 obtain⟨c1,c2⟩:=c;obtain⟨h1,hJ⟩:=hJ;obtain rfl:c2=x:=h1;obtain rfl:c1=_:=hs;simp only[JF,W_,av,ax,reduceCtorEq,bf,aX];refine⟨λaG=>?_,λhge=>?_⟩
 .have aG:k<l.length:=by omega
  simp only[aF aG,cR hl aG,W_,av,ax,reduceCtorEq]
  grind
 .refine aA id ?_
  grind [ajm]
def Pd(t:QG)(E:List En):M.lC aU t E=aa (p8 t E):=by
 apply Wp.eq;unfold M.lC p8;simp only[pP,vY,uG,W_,av,ax,reduceCtorEq];refine⟨λh=>by grind,λh64=>?_⟩;rw[ai (c:=64<t.2.2.2.length) (by omega)];refine⟨λh1=>by rw[aj (λg=>h1 g.1)],λh1=>⟨(by grind),λh2=>?_⟩⟩;rw[ai (λg=>g ⟨h1,h2⟩)]
 refine Wp.count (λs=>s) t.2.2.2.length (λk _=>∀j,j<k->Bn t E j=ae) (by omega) rfl (λj hj=>by omega) λk s hk hs hJ=>?_
 obtain rfl:s=_:=hs;simp only[W_,av,ax,reduceCtorEq,bf,aX];refine⟨λaG=>?_,λhge=>?_⟩
 .have aG:k<t.2.2.2.length:=by omega
  have hf:Bn t E k=if xl t.2.2.2[k] t E then aa ((k:Int),3)else if∃y∈t.2.2.2.take k,vn y t.2.2.2[k]then aa ((k:Int),11)else ae:=by
   unfold Bn;rw[ajb aG]
  have bad:xl t.2.2.2[k] t E->((k:Int),(3:Int))=(cX (Bn t E) t.2.2.2.length).getD (0,0):=λhw=>by
   grind [fx]
  have Bt:¬xl t.2.2.2[k] t E->Wp (M.cy aU (t.2.2.2.take k) t.2.2.2[k]) λy=>(y.2.1=af->((k:Int),(11:Int))=(cX (Bn t E) t.2.2.2.length).getD (0,0))/\(y.2.1=ag->k<t.2.2.2.length/\∀j,j<k+1->Bn t E j=ae):=λhw=>by
   rw[ai hw]at hf
   refine(MB _ _ (by rw[ajO];unfold maxLen;omega)).mono λy hy=>⟨λh=>?_,λh=>⟨aG,eL hJ ?_⟩⟩
   all_goals grind [fx]
  simp only[aF aG,mR (akD aG),cR (m:=t.2.2.2.length) (by omega) aG,W_,av,ax,reduceCtorEq];unfold xl at bad Bt;unfold B4 at bad Bt
  grind
 grind [cq]
def MC{t:QG}{E:List En}:(p8 t E).2≠0->((p8 t E).1= -1\/(0<=(p8 t E).1/\(p8 t E).1<=64)):=by
 unfold p8;intro h;split
 .grind
 split
 .exact .inl rfl
 rename_i h1 h2
 cases hf:cX (Bn t E) t.2.2.2.length with
 |none=>grind
 |some e=>
  obtain⟨k,hk,he,_⟩:=fq hf;unfold Bn at he;split at he
  .cases he
  split at he
  .grind
  split at he
  all_goals grind
def xv(l:Lw)(hw:WF bG l):M.kG aU l=aa (if 8<l.2.1.length then((4:Int),((2:Int),((8:Int),(0:Int))))else match cX (λk=>(tB l k).map λe=>(k,e)) l.2.1.length with
 |some (k,e)=>tx 2 (k:Int) (aa e)
 |none=>Mu):=by
 have w1:=hw.2.1.1;have w0:=hw.1.1;have wt:∀t∈l.2.1,WF bl t:=hw.2.1.2;unfold maxLen at w1;apply Wp.eq;unfold M.kG;simp only[W_,av,ax,reduceCtorEq];refine⟨λh=>by grind,λh8=>?_⟩;rw[ai (by omega)]
 refine Wp.count (λs=>s) l.2.1.length (λi _=>∀j,j<i->(λk=>(tB l k).map λe=>(k,e)) j=ae) w1 rfl (λj hj=>by omega) λi c hi hs hJ=>?_
 obtain rfl:c=_:=hs;simp only[W_,av,ax,reduceCtorEq,bf,aX];refine⟨λaG=>?_,λhge=>?_⟩
 .have aG:i<l.2.1.length:=by omega
  have kS:l.2.1[i].1.size<=maxLen:=(wt _ (aje aG)).1
  have hE:tB l i=if pc l.2.1[i].1=ag then aa (2,0)else if jW l.1 l.2.1[i].1\/jW (l.2.1.take i) l.2.1[i].1 then aa (7,0)else if(p8 l.2.1[i] l.1).2=0 then ae else aa ((p8 l.2.1[i] l.1).2,if 0<=(p8 l.2.1[i] l.1).1 then 100+(p8 l.2.1[i] l.1).1 else 0):=by
   unfold tB;rw[ajb aG]
  simp only[aF aG,Pd,uF _ kS,mR (akD aG),sv _ _ w0,vp (l.2.1.take i) _ (by rw[ajO];unfold maxLen;omega),cR w1 aG,W_,av,ax,reduceCtorEq]
  have bad:∀e,tB l i=aa e->tx 2 (i:Int) (aa e)=(match cX (λk=>(tB l k).map λe=>(k,e)) l.2.1.length with|some (k,e)=>tx 2 (k:Int) (aa e)|none=>Mu):=λe he=>by
   rw[fx (S4 he) hJ aG]
  have Bt:tB l i=ae->i<l.2.1.length/\∀j,j<i+1->(λk=>(tB l k).map λe=>(k,e)) j=ae:=(by grind)
  have RS:=MC (t:=l.2.1[i]) (E:=l.1);generalize p8 l.2.1[i] l.1=te at*;obtain⟨(r:Int),(c:Int)⟩:=te;dsimp only at*;refine⟨λh=>?_,λh=>⟨λh2=>?_,λh2=>⟨λh3=>?_,λh3=>⟨λh4=>?_,λh4=>?_⟩⟩⟩⟩
  .exact⟨λ_=>bad (2,0) (hE.trans (aj h)),λg=>absurd g (by decide)⟩
  .rw[ai (c:=pc l.2.1[i].1=ag) (by simp[h]),aj (Or.inl h2)]at hE;exact⟨λ_=>bad (7,0) hE,λg=>absurd g (by decide)⟩
  .rw[ai (c:=pc l.2.1[i].1=ag) (by simp[h]),aj (Or.inr h3)]at hE;exact⟨λ_=>bad (7,0) hE,λg=>absurd g (by decide)⟩
  .rw[ai (c:=pc l.2.1[i].1=ag) (by simp[h]),ai (λg=>g.elim h2 h3),ai h4]at hE;have hr:=RS h4;refine⟨λg=>⟨λ_=>?_,λe=>absurd e h4⟩,λg=>⟨λ_=>?_,λe=>absurd e h4⟩⟩
   .rw[aW (by omega) (by omega)];exact bad (c,100+r) (hE.trans (by grind))
   .exact bad (c,0) (hE.trans (by grind))
  grind
 .rw[cq.2 λj hj=>hJ j (by omega)];rfl
noncomputable def qA(l:Lw)(f:Fd)(a b:List Fd):Int:=if pc f.1=ag then 2 else if jW a f.1\/jW b f.1 then 7 else if¬oO f.2 l.1.length then 8 else 0
def rN(l:Lw)(f:Fd)(a b:List Fd)(hf:f.1.size<=maxLen)(ha:a.length<=maxLen)(hb:b.length<=maxLen):M.jB aU l f a b=aa (qA l f a b):=by
 apply Wp.eq;unfold M.jB;simp only[uF _ hf,tC _ _ ha,tC _ _ hb,pP,W_,av,ax,reduceCtorEq]
 grind [qA]
def Bu(l:List UInt8)(c:UInt8):0<=aks l c↔c∈l:=by
 induction l with
 |nil=>simp[aks]
 |cons b l ih=>
  have hg:=Go.Lib.indexByte_ge l c;unfold aks
  grind
def xw(s:ByteArray)(_:s.size<=maxLen):M.kH aU s=aa (decide (plain s)):=by
 have hc:M.strings_Contains aU s (⟨#[34]⟩:ByteArray)=aa (decide (0<=aks s.data.toList 34)):=rfl
 have cT:0<=aks s.data.toList 34↔∃i,∃h:i<s.size,(s[i].toNat:Int)=34:=by
  rw[Bu];constructor
  .intro h;obtain⟨i,hi,e⟩:=ajm h;refine⟨i,by simpa using hi,?_⟩
   have:s[i]'(by simpa using hi)=34:=by
    have e:s.data[i]'(by simpa using hi)=34:=by simpa using e
    exact e
   rw[this];rfl
  .rintro⟨i,hi,e⟩
   have e2:s[i]=34:=by
    apply UInt8.toNat_inj.1
    show s[i].toNat=34
    omega
   have:(34:UInt8)=s.data.toList[i]'(by simpa using hi):=by rw[<-e2];simp;rfl
   grind
 apply Wp.eq;unfold M.kH;simp only[hc,W_,av,ax,reduceCtorEq];refine⟨λh=>?_,λh64=>⟨λh=>?_,λPe=>?_⟩⟩
 .grind [plain]
 .grind [plain]
 refine Wp.count (λs=>s) s.size (λi _=>∀j,j<i->∀h:j<s.size,32<=(s[j].toNat:Int)/\(s[j].toNat:Int)<=126) (by omega) rfl (λj hj=>by omega) λi c hi hs hJ=>?_
 obtain rfl:c=_:=hs
 rcases Nat.lt_or_ge i s.size with aG|hge
 .have hb:me s (i:Int)=aa (s[i].toNat:Int):=by
   have:=(QD (x:=((s[i].toNat:Nat):Int))).1 (tt (s:=s) (i:=(i:Int)).2 ⟨by omega,by simp⟩);exact this
  simp only[FP aG,hb,cR (m:=s.size) (by omega) aG,W_,av,ax,reduceCtorEq,bf,aX];refine⟨λh=>?_,λh=>⟨λh2=>?_,λh2=>⟨aG,eL hJ λ_=>by omega⟩⟩⟩
  all_goals grind [plain]
 .obtain rfl:i=s.size:=by omega
  simp only[tv,W_,av,ax,reduceCtorEq,aX];refine(⟨λi hi=>?_,by omega⟩:plain s)
  grind
def DC(sg:rM):Prop:=∀e:List Ty,(∀n∈e,WF aD n)->M.og aU e sg=aa (KB e sg)
def nB{sg:rM}(hT:DC sg){e:List Ty}(want:Ty)(hw:∀n∈e,WF aD n):M.gv aU e sg want=aa (xo e sg want):=by
 apply Wp.eq;unfold M.gv;simp only[hT e hw,KA,W_,av,ax,reduceCtorEq]
 grind [xo]
def Bv(l:Lw)(x:iT)(hw:WF aM x)(eY:iG x)(hT:DC (gC l x))(k:Nat)(hk:k<x.2.2.2.2.length):M.kB aU x (k:Int) (gC l x)=aa (xq l x k x.2.2.2.2[k]):=by
 have KD:=hw.2.2.2.2.2 _ (aje hk);have QH:=eY.2.2.2.2.2.2 _ (aje hk)
 obtain⟨r,hr⟩:∃r,r=x.2.2.2.2[k]:=⟨_,rfl⟩
 have WO:=eY.2.2.2.1
 have Pf:Wp (Loop (S:=Int×Int) (X:=Int) (λs4=>
  (if(decide (s4.2<((x.2.2.2.2.take k).length:Int)))=af then
  ((idx (x.2.2.2.2.take k) s4.2).bind λx6=>
  (if(decide ((x6.2.1:Int)=r.2.1))=af then
  some (ai9.wrap (s4.1+(1:Int)))
  else
  some s4.1):Option (Int)).bind λj5=>
  some (Sum.inl (j5,ai9.wrap (s4.2+(1:Int))))
  else
  some (Sum.inr s4.1))) aU ((0:Int),(0:Int))) λn=>n=(O8 x k r.2.1:Int):=by
  have QI:(x.2.2.2.2.take k).length=k:=by rw[ajO];omega
  refine Wp.count (λs=>s.2) k (λj s=>s.1=(((x.2.2.2.2.take j).countP λr'=>decide ((r'.2.1:Int)=r.2.1):Nat):Int)) (by omega) rfl rfl λj s hj hs X8=>?_
  obtain⟨sb,c⟩:=s;dsimp only at hs X8;subst hs;rw[QI];have Qd:(x.2.2.2.2.take j).countP (λr'=>decide ((r'.2.1:Int)=r.2.1))<=60:=ajs List.countP_le_length (by rw[ajO];omega);simp only[W_,av,ax,reduceCtorEq,bf,aX];refine⟨λUl=>?_,λUl=>?_⟩
  .have EX:j<x.2.2.2.2.length:=by omega
   have hjt:j<(x.2.2.2.2.take k).length:=by omega
   simp only[aF hjt,List.getElem_take,cR (m:=k) (by omega) (show j<k by omega),W_,av,ax,reduceCtorEq]
   have Qy:(x.2.2.2.2.take (j+1)).countP (λr'=>decide ((r'.2.1:Int)=r.2.1))=(x.2.2.2.2.take j).countP (λr'=>decide ((r'.2.1:Int)=r.2.1))+if(x.2.2.2.2[j].2.1:Int)=r.2.1 then 1 else 0:=by
    rw[<-ajk EX,List.countP_append];simp[List.countP_cons]
   refine⟨λh'=>⟨by omega,?_⟩,λh'=>⟨by omega,?_⟩⟩
   .rw[Qy,aj h',X8,aW (by omega) (by omega)];rfl
   .rw[Qy,ai h',X8];rfl
  .obtain rfl:j=k:=by omega
   exact X8
 apply Wp.eq;unfold M.kB;rw[<-hr];have kS:r.1.size<=maxLen:=(hr▸KD).1
 have abI:r.2.2.2.2.2.2.2.size<=maxLen:=by
  have:=(hr▸QH).2.1;unfold maxLen;omega
 have Qd:O8 x k r.2.1<=60:=ajs List.countP_le_length (by rw[ajO];omega);have hg:∀n∈r.2.2.2.2.2.1,WF aD n:=(hr▸KD).2.2.2.2.2.1.2;have hv:∀n∈r.2.2.2.2.2.2.1,WF aD n:=(hr▸KD).2.2.2.2.2.2.1.2;have S5:xp x k r↔(r.2.2.1:Int)≠-1/\((r.2.2.1:Int)<0\/(k:Int)<=r.2.2.1\/∃y,x.2.2.2.2[(r.2.2.1:Int).toNat]? =aa y/\(y.2.1:Int)≠r.2.1):=Iff.rfl;simp only[aF hk,<-hr,mR (akD hk),DB (x.2.2.2.2.take k) _ (by rw[ajO];unfold maxLen;omega),uF _ kS,xw _ abI,W_,av,ax,reduceCtorEq];simp only[az]at Pf
 refine Pf.mono λn hn=>?_
 subst hn;clear Pf KD QH hr;unfold xq;refine⟨λh=>by rw[aj h],λh1=>?_⟩;rw[ai (c:=pc r.1=ag) (by simp[h1])];refine⟨λh=>by rw[aj h],λh2=>?_⟩;rw[ai (c:=jW (x.2.2.2.2.take k) r.1) h2];generalize O8 x k r.2.1=q at*;obtain⟨nm,(d:Int),(p:Int),(pr:Int),v,g,val,src⟩:=r;obtain⟨(v1:Int),(v2:Int)⟩:=v;dsimp only[aB,Row.den]at*;refine⟨λh=>by rw[aj (c:=¬(0<=d/\d<(x.2.2.2.1.length:Int))) (by omega)],λh3=>⟨λh=>by rw[aj (c:=¬(0<=d/\d<(x.2.2.2.1.length:Int))) (by omega)],λh4=>?_⟩⟩;rw[ai (c:=¬(0<=d/\d<(x.2.2.2.1.length:Int))) (by omega)]
 have hd:d.toNat<x.2.2.2.1.length:=by omega
 have X9:¬VR ((v1,v2):Ty)\/v1=v2↔v1<0\/v2<=v1\/109573<v2:=by
  simp only[VR];dsimp only[aB,Row.den];omega
 refine⟨λhp=>⟨λh=>by rw[aj (S5.2 ⟨hp, .inl h⟩)],λh5=>⟨λh=>by rw[aj (S5.2 ⟨hp, .inr (.inl h)⟩)],λh6=>eW.2 ⟨⟨by omega,by omega⟩,λh7=>by rw[aj (S5.2 ⟨hp, .inr (.inr ⟨_,ajb (by omega),h7⟩)⟩)],λh7=>?_⟩⟩⟩,λhp=>?_⟩
 .have TV:¬xp x k (nm,d,p,pr,(v1,v2),g,val,src):=λh=>by
   obtain⟨_,g1|g1|⟨y,g1,g2⟩⟩:=S5.1 h
   .omega
   .omega
   .rw[ajb (by omega)]at g1;cases g1;exact g2 h7
  clear S5;rw[ai TV]
  have last:Wp (idx x.2.2.2.1 d) λx_3=>Wp (M.gv aU val (gC l x) x_3.2) λx_4=>x_4=match x.2.2.2.1[d.toNat]? with
   |some d=>xo val (gC l x) d.2
   |none=>0:=by
   refine eW.2 ⟨by omega,?_⟩;rw[nB hT _ hv,ajb hd];exact .some rfl
  by_cases g1:pr<0\/9<pr\/¬VR ((v1,v2):Ty)\/v1=v2
  .rw[aj g1];refine⟨λ_=>rfl,λa1=>⟨λ_=>rfl,λa2=>⟨λ_=>rfl,λa3=>⟨λ_=>rfl,λa4=>⟨λ_=>rfl,λa5=>?_⟩⟩⟩⟩⟩;rw[X9]at g1;omega
  rw[ai g1]
  have Uz:¬(pr<0\/9<pr\/v1<0\/v2<=v1\/109573<v2):=by rw[<-X9];exact g1
  refine⟨λh=>by omega,λa1=>⟨λh=>by omega,λa2=>⟨λh=>by omega,λa3=>⟨λh=>by omega,λa4=>⟨λh=>by omega,λa5=>?_⟩⟩⟩⟩⟩;refine⟨λh=>by rw[aj (by omega)],λh8=>?_⟩;rw[ai (by omega)];refine⟨λh=>by rw[aj h],λh9=>?_⟩;rw[ai (λh=>h h9)];refine⟨λh=>?_,λh=>?_⟩
  .rw[nB hT _ hg];refine .some ⟨λh'=>by rw[aj ⟨by omega,h'⟩],λh'=>?_⟩;rw[ai (λg=>g.2 h')];exact last
  .rw[ai (λg=>h (by omega))];exact last
 .have TV:¬xp x k (nm,d,p,pr,(v1,v2),g,val,src):=λh=>(S5.1 h).1 hp
  clear S5;rw[ai TV]
  have last:Wp (idx x.2.2.2.1 d) λx_3=>Wp (M.gv aU val (gC l x) x_3.2) λx_4=>x_4=match x.2.2.2.1[d.toNat]? with
   |some d=>xo val (gC l x) d.2
   |none=>0:=by
   refine eW.2 ⟨by omega,?_⟩;rw[nB hT _ hv,ajb hd];exact .some rfl
  by_cases g1:pr<0\/9<pr\/¬VR ((v1,v2):Ty)\/v1=v2
  .rw[aj g1];refine⟨λ_=>rfl,λa1=>⟨λ_=>rfl,λa2=>⟨λ_=>rfl,λa3=>⟨λ_=>rfl,λa4=>⟨λ_=>rfl,λa5=>?_⟩⟩⟩⟩⟩;rw[X9]at g1;omega
  rw[ai g1]
  have Uz:¬(pr<0\/9<pr\/v1<0\/v2<=v1\/109573<v2):=by rw[<-X9];exact g1
  refine⟨λh=>by omega,λa1=>⟨λh=>by omega,λa2=>⟨λh=>by omega,λa3=>⟨λh=>by omega,λa4=>⟨λh=>by omega,λa5=>?_⟩⟩⟩⟩⟩;refine⟨λh=>by rw[aj (by omega)],λh8=>?_⟩;rw[ai (by omega)];refine⟨λh=>by rw[aj h],λh9=>?_⟩;rw[ai (λh=>h h9)];refine⟨λh=>?_,λh=>?_⟩
  .rw[nB hT _ hg];refine .some ⟨λh'=>by rw[aj ⟨by omega,h'⟩],λh'=>?_⟩;rw[ai (λg=>g.2 h')];exact last
  .rw[ai (λg=>h (by omega))];exact last
def JG(x:iT):Prop:=∀d:Nat,d<x.2.2.2.1.length->∃tr,M.dz aU x (d:Int)=aa tr/\tr.length<=1000/\((d:Int)∈tr↔(d:Int)∈KC x d)
def JH(l:Lw)(k:Nat)(hk:k<l.2.2.length)(hs:∀s∈l.2.2,s.2.2.1.length<=100000/\s.2.2.2.1.length<=100000):M.kj aU l (k:Int)=aa ((gC l l.2.2[k]).1,(gC l l.2.2[k]).2.1,(gC l l.2.2[k]).2.2.2.2.2,(gC l l.2.2[k]).2.2.1,(gC l l.2.2[k]).2.2.2.1,(gC l l.2.2[k]).2.2.2.2.1):=by
 rw[<-O7 l k hk hs];unfold M.nc;rw[ai (by simp),ai8,ai (by simp;omega)];rfl
def S6(l:Lw)(x:iT)(i:Nat)(h:i<x.2.2.1.length):Mw l x i=if qA l x.2.2.1[i] (x.2.2.1.take i) []≠0 then aa (qA l x.2.2.1[i] (x.2.2.1.take i) [],100+(i:Int))else ae:=by
 have hn:∀nm,¬jW ([]:List Fd) nm:=λnm ⟨y,hy,_⟩=>by cases hy
 grind [Mw,qA]
def S7(l:Lw)(x:iT)(i:Nat)(h:i<x.2.2.2.1.length):Mx l x i=if qA l x.2.2.2.1[i] x.2.2.1 (x.2.2.2.1.take i)≠0 then aa (qA l x.2.2.2.1[i] x.2.2.1 (x.2.2.2.1.take i),200+(i:Int))else ae:=by
 grind [Mx,qA]
def yO(l:Lw)(hw:WF bG l)(eY:dG l)(k:Nat)(hk:k<l.2.2.length)(hT:DC (gC l l.2.2[k]))(hC:JG l.2.2[k]):M.lG aU l (k:Int)=aa ((vH l k).getD (0,0)):=by
 have yZ:=eY.2.2.2.2.2 _ (aje hk);have Hv:=hw.2.2.2 _ (aje hk)
 have WQ:=JH l k hk λs hs=>⟨by have:=(eY.2.2.2.2.2 s hs).2.1;omega,by have:=(eY.2.2.2.2.2 s hs).2.2.1;omega⟩
 have hE:vH l k=if pc l.2.2[k].1=ag then aa (2,0)else if jW l.1 l.2.2[k].1\/jW l.2.1 l.2.2[k].1\/jW (l.2.2.take k) l.2.2[k].1 then aa (7,0)else if qy l k l.2.2[k]then aa (6,0)else
  if 12<l.2.2[k].2.2.1.length then aa (4,112)else if 12<l.2.2[k].2.2.2.1.length then aa (4,212)else((JC l l.2.2[k]).or (cX (FX l l.2.2[k]) l.2.2[k].2.2.2.2.length)).or (cX (JD l.2.2[k]) l.2.2[k].2.2.2.1.length):=by
  unfold vH;rw[ajb hk]
 have h5:=eY.2.2.1
 obtain⟨x,hx⟩:∃x,x=l.2.2[k]:=⟨_,rfl⟩
 simp only[<-hx]at yZ Hv WQ hE hT hC;have Hw:=yZ.2.2.1;have WO:=yZ.2.2.2.1;have agx:=yZ.2.1;have kS:x.1.size<=maxLen:=Hv.1
 have QI:(l.2.2.take k).length=k:=by rw[ajO];omega
 have cT:∀f∈x.2.2.1,(f.1:ByteArray).size<=maxLen:=λf hf=>by have:=yZ.2.2.2.2.1 f hf;unfold maxLen;omega
 have hdf:∀f∈x.2.2.2.1,(f.1:ByteArray).size<=maxLen:=λf hf=>by have:=yZ.2.2.2.2.2.1 f hf;unfold maxLen;omega
 apply Wp.eq;unfold M.lG;rw[aF hk,ai8,mR (akD hk),ai8,<-hx]
 have MD:(((M.jy aU l.1 x.1).bind λy4=>
  (if y4=af then
  some (af,x)
  else
  (M.jN aU l.2.1 x.1).bind λy5=>
  (if y5=af then
  some (af,x)
  else
  (M.bd aU (l.2.2.take k) x).bind λy6=>
  some (y6.1,y6.2))):Option (Bool×aM.den)))=aa (decide (jW l.1 x.1\/jW l.2.1 x.1\/jW (l.2.2.take k) x.1),x):=by
  apply Wp.eq;simp only[sv _ _ hw.1.1,vp _ _ hw.2.1.1,Bq (l.2.2.take k) _ (by rw[QI];unfold maxLen;omega),W_,av,ax,reduceCtorEq];exact⟨λh=>by rw[aq (Or.inl h)],λh1=>⟨λh=>by rw[aq (Or.inr (Or.inl h))],λh2=>ay (λb=>(b,x)) (decide_eq_decide.2 ⟨λh=> .inr (.inr h),λh=>(h.resolve_left h1).resolve_left h2⟩)⟩⟩
 rw[MD,ai8,uF _ kS,ai8,hE];by_cases h1:pc x.1=ag
 .rw[aj (by simp[h1]),aj h1];exact .some rfl
 rw[ai (by simpa using h1),ai h1];by_cases h2:jW l.1 x.1\/jW l.2.1 x.1\/jW (l.2.2.take k) x.1
 .rw[aj (aq h2),aj h2];exact .some rfl
 rw[ai (by simpa using h2),ai h2];have S8:qy l k x↔(x.2.1:Int)≠-1/\((x.2.1:Int)<0\/(k:Int)<=x.2.1\/∃y,l.2.2[(x.2.1:Int).toNat]? =aa y/\(y.2.1:Int)≠-1):=Iff.rfl
 have WR:((if(!decide ((x.2.1:Int)=(-1:Int)))=af then
  (if(decide ((x.2.1:Int)<(0:Int)))=af then
  some af
  else
  (if(decide ((k:Int)<=x.2.1))=af then
  some af
  else
  (idx (l.2.2.take k) x.2.1).bind λx9=>
  some (!decide ((x9.2.1:Int)=(-1:Int)))))
  else
  some ag):Option (Bool))=aa (decide (qy l k x)):=by
  apply Wp.eq;simp only[W_,av,ax,reduceCtorEq]
  obtain⟨(m:Int),hm⟩:∃m:Int,m=x.2.1:=⟨_,rfl⟩
  simp only[<-hm]at S8⊢;refine⟨λhp=>⟨λh=>(S8.2 ⟨hp, .inl h⟩),λh3=>⟨λh=>(S8.2 ⟨hp, .inr (.inl h)⟩),λh4=>eW.2 ⟨by dsimp only[aB,Row.den]at*;omega,?_⟩⟩⟩,λhp h=>(S8.1 h).1 hp⟩
  have hmn:m.toNat<k:=by dsimp only[aB,Row.den]at*;omega
  rw[List.getElem_take];have ym:l.2.2[m.toNat]? =aa (l.2.2[m.toNat]'(by omega)):=ajb (by omega);rw[<-decide_not];refine decide_eq_decide.2 ⟨λh g=>?_,λh=>Classical.not_not.1 λh'=>h (S8.2 ⟨hp, .inr (.inr ⟨_,ym,h'⟩)⟩)⟩;obtain⟨_,g1|g1|⟨y,g1,g2⟩⟩:=S8.1 g
  .exact absurd g1 h3
  .exact absurd g1 h4
  .rw[ym]at g1;cases g1;exact g2 h
 rw[WR,ai8];by_cases h3:qy l k x
 .rw[aj (aq h3),aj h3];exact .some rfl
 rw[ai (by simpa using h3),ai h3];clear MD WR S8 hE;dsimp only;by_cases h4:12<x.2.2.1.length
 .rw[aj (aq (by omega)),aj h4];exact .some rfl
 rw[ai (by rw[az];omega),ai h4];by_cases h5:12<x.2.2.2.1.length
 .rw[aj (aq (by omega)),aj h5];exact .some rfl
 rw[ai (by rw[az];omega),ai h5,WQ];unfold JC;simp only[W_,av,ax,reduceCtorEq]
 refine Wp.count (λs=>s) x.2.2.1.length (λi _=>∀j,j<i->Mw l x j=ae) (by omega) rfl (λj hj=>by omega) λi c hi hs hJ=>?_
 obtain rfl:c=_:=hs;simp only[W_,av,ax,reduceCtorEq,bf,aX];refine⟨λaG=>?_,λhge=>?_⟩
 .have aG:i<x.2.2.1.length:=by omega
  have hf:=S6 l x i aG;simp only[aF aG,mR (akD aG),rN l _ (x.2.2.1.take i) [] (cT _ (aje aG)) (by rw[ajO];unfold maxLen;omega) (by simp),tA (k:=i) (a:=100) (by omega) (by omega),cR (m:=x.2.2.1.length) (by omega) aG,W_,av,ax,reduceCtorEq];refine⟨λh=>?_,λh=>⟨aG,eL hJ (by rw[hf,ai (λg=>g h)])⟩⟩;rw[fx (hf.trans (aj h)) hJ aG];rfl
 rw[cq.2 λj(hj:j<x.2.2.1.length)=>hJ j (by omega),Option.none_or];clear hJ
 refine Wp.count (λs=>s) x.2.2.2.1.length (λi _=>∀j,j<i->Mx l x j=ae) (by omega) rfl (λj hj=>by omega) λi c hi hs hJ=>?_
 obtain rfl:c=_:=hs;simp only[W_,av,ax,reduceCtorEq,bf,aX];refine⟨λaG=>?_,λhge=>?_⟩
 .have aG:i<x.2.2.2.1.length:=by omega
  have hf:=S7 l x i aG;simp only[aF aG,mR (akD aG),rN l _ x.2.2.1 (x.2.2.2.1.take i) (hdf _ (aje aG)) (by unfold maxLen;omega) (by rw[ajO];unfold maxLen;omega),tA (k:=i) (a:=200) (by omega) (by omega),cR (m:=x.2.2.2.1.length) (by omega) aG,W_,av,ax,reduceCtorEq];refine⟨λh=>?_,λh=>⟨aG,eL hJ (by rw[hf,ai (λg=>g h)])⟩⟩;rw[fx (hf.trans (aj h)) hJ aG];rfl
 rw[cq.2 λj(hj:j<x.2.2.2.1.length)=>hJ j (by omega),Option.none_or];clear hJ
 refine Wp.count (λs=>s) x.2.2.2.2.length (λi _=>∀j,j<i->FX l x j=ae) (by omega) rfl (λj hj=>by omega) λi c hi hs hJ=>?_
 obtain rfl:c=_:=hs;simp only[W_,av,ax,reduceCtorEq,bf,aX];refine⟨λaG=>?_,λhge=>?_⟩
 .have aG:i<x.2.2.2.2.length:=by omega
  have hf:FX l x i=if xq l x i x.2.2.2.2[i]≠0 then aa (xq l x i x.2.2.2.2[i],300+(i:Int))else ae:=by
   unfold FX;rw[ajb aG]
  have hr:M.kB aU x (i:Int) ((gC l x).1,((gC l x).2.1,((gC l x).2.2.1,((gC l x).2.2.2.1,((gC l x).2.2.2.2.1,(gC l x).2.2.2.2.2)))))=_:=Bv l x Hv yZ hT i aG;simp only[hr,tA (k:=i) (a:=300) (by omega) (by omega),cR (m:=x.2.2.2.2.length) (by omega) aG,W_,av,ax,reduceCtorEq];refine⟨λh=>?_,λh=>⟨aG,eL hJ (by rw[hf,ai (λg=>g h)])⟩⟩;rw[fx (hf.trans (aj h)) hJ aG];rfl
 rw[cq.2 λj(hj:j<x.2.2.2.2.length)=>hJ j (by omega),Option.none_or];clear hJ
 refine Wp.count (λs=>s) x.2.2.2.1.length (λi _=>∀j,j<i->JD x j=ae) (by omega) rfl (λj hj=>by omega) λi c hi hs hJ=>?_
 obtain rfl:c=_:=hs;simp only[W_,av,ax,reduceCtorEq,bf,aX];refine⟨λaG=>?_,λhge=>?_⟩
 .have aG:i<x.2.2.2.1.length:=by omega
  obtain⟨tr,e1,e2,e3⟩:=hC i aG
  have hf:JD x i=if(i:Int)∈KC x i then aa (9,200+(i:Int))else ae:=rfl
  simp only[e1,FZ tr _ (by unfold maxLen;omega),tA (k:=i) (a:=200) (by omega) (by omega),cR (m:=x.2.2.2.1.length) (by omega) aG,W_,av,ax,reduceCtorEq];refine⟨λh=>?_,λh=>⟨aG,eL hJ (by rw[hf,ai (λg=>h (e3.2 g))])⟩⟩;rw[fx (hf.trans (aj (e3.1 h))) hJ aG];rfl
 .rw[cq.2 λj(hj:j<x.2.2.2.1.length)=>hJ j (by omega)];rfl
theorem xx(l:Lw)(hw:WF bG l)(eY:dG l)(hT:∀x∈l.2.2,DC (gC l x))(hC:∀x∈l.2.2,JG x):M.kI aU l=aa (if 4<l.2.2.length then((4:Int),((3:Int),((4:Int),(0:Int))))else match cX (λk=>(vH l k).map λe=>(k,e)) l.2.2.length with
 |some (k,e)=>tx 3 (k:Int) (aa e)
 |none=>Mu):=by
 have w1:=hw.2.2.1;unfold maxLen at w1;apply Wp.eq;unfold M.kI;simp only[W_,av,ax,reduceCtorEq];refine⟨λh=>by grind,λh8=>?_⟩;rw[ai (by omega)]
 refine Wp.count (λs=>s) l.2.2.length (λi _=>∀j,j<i->(λk=>(vH l k).map λe=>(k,e)) j=ae) w1 rfl (λj hj=>by omega) λi c hi hs hJ=>?_
 obtain rfl:c=_:=hs;simp only[W_,av,ax,reduceCtorEq,bf,aX];refine⟨λaG=>?_,λhge=>?_⟩
 .have aG:i<l.2.2.length:=by omega
  simp only[yO l hw eY i aG (hT _ (aje aG)) (hC _ (aje aG)),cR w1 aG,W_,av,ax,reduceCtorEq];refine⟨λh=>?_,λh=>⟨aG,eL hJ ?_⟩⟩
  .cases he:vH l i with
   |none=>grind
   |some e=>rw[fx (S4 he) hJ aG];rfl
  .cases he:vH l i with
   |none=>rfl
   |some e=>grind [Dz]
 .rw[cq.2 λj hj=>hJ j (by omega)];rfl
def DD(l:Lw)(hw:WF bG l)(eY:dG l)(hT:∀x∈l.2.2,DC (gC l x))(hC:∀x∈l.2.2,JG x):M.ik aU l=aa (Bo l):=by
 have bad:∀(f:Nat->Option (Int×Int))(m:Nat)(sec:Int)(k:Nat)(e:Int×Int),(∀i e,f i=aa e->e.1≠0)->cX (λk=>(f k).map λe=>(k,e)) m=aa (k,e)->(!decide ((tx sec (k:Int) (aa e)).1=0))=af:=λf m sec k e hf he=>by
  obtain⟨j,_,hj,_⟩:=fq he;obtain⟨e',he',h2⟩:=Option.map_eq_some_iff.1 hj;cases h2;have:e.1≠0:=hf _ _ he'
  show(!decide (e.1=0))=af
  simp[this]
 unfold M.ik Bo;rw[yN l hw,ai8];by_cases h1:8<l.1.length
 .grind
 rw[ai h1,ai h1]
 cases hA:cX (λk=>(qx l k).map λe=>(k,e)) l.1.length with
 |some p=>
  obtain⟨k,e⟩:=p;dsimp only;rw[aj (bad _ _ _ _ _ (λi e=>uC) hA)]
 |none=>
  dsimp only;rw[ai (by simp[Mu]),xv l hw,ai8];by_cases h2:8<l.2.1.length
  .grind
  rw[ai h2,ai h2]
  cases hB:cX (λk=>(tB l k).map λe=>(k,e)) l.2.1.length with
  |some p=>
   obtain⟨k,e⟩:=p;dsimp only;rw[aj (bad _ _ _ _ _ (λi e=>Dy) hB)]
  |none=>
   grind [Mu,xx]
end L
namespace L
def ME(op:Int):M.gu aU op=aa (ar op):=by
 apply Wp.eq;unfold M.gu ar;simp only[W_,av,ax,reduceCtorEq];omega
def MF(op:Int):M.kY aU op=aa (decide ((1<=op/\op<=8)\/(14<=op/\op<=16)\/op=33\/op=34\/(36<=op/\op<=39))):=by
 apply Wp.eq;unfold M.kY;simp only[W_,av,ax,reduceCtorEq];omega
def bT(k:Int):M.fm aU k=aa (decide (k=2\/k=3\/k=4)):=by
 apply Wp.eq;unfold M.fm;simp only[W_,av,ax,reduceCtorEq];omega
def bk(k:Int):M.jC aU k=aa (decide (0<=k/\k<=5)):=by
 apply Wp.eq;unfold M.jC;simp only[W_,av,ax,reduceCtorEq];omega
def cm(m k:Int)(s:rM):M.dK aU m k s=aa (if B4 m (k,(0:Int)) s.1 then((k,(0:Int)),(0:Int))else(((0:Int),(0:Int)),(3:Int))):=by
 apply Wp.eq;unfold M.dK;simp only[vY,W_,av,ax,reduceCtorEq]
 grind [B4]
noncomputable def pN(n:Ty)(l:List Ty)(s:rM):Option (Ty×Int):=
 if(n.2:Int)≠0/\¬((1<=(n.1:Int)/\(n.1:Int)<=8)\/(14<=(n.1:Int)/\(n.1:Int)<=16)\/(n.1:Int)=33\/(n.1:Int)=34\/(36<=(n.1:Int)/\(n.1:Int)<=39))then aa (((0:Int),(0:Int)),2)else M.bi aU n l s
def rO(t:Ty):Prop:=1<=(t.1:Int)/\(t.1:Int)<=5->(t.2:Int)=0
theorem S9(op m:Int)(a b:Ty)(s:rM)(h2:ar op=2)(ha:rO a)(_:rO b):pN (op,m) [a,b] s=M.aY aU (op,m) [a,b] s:=by
 have hr:=uA (op,m) s
 have hR:Dx op m s↔(14<=op/\op<=16->0<=m/\m<=5):=by
  unfold ar at h2;unfold Dx;exact(by grind)
 have tf:op=11\/op=12\/op=13\/op=14\/op=15\/op=16\/op=17\/op=18\/op=19\/op=20\/op=21\/op=22\/op=23\/op=24\/op=27\/op=28\/op=29\/op=30:=by unfold ar at h2;omega
 obtain⟨(a1:Int),(a2:Int)⟩:=a;obtain⟨(b1:Int),(b2:Int)⟩:=b;simp only[rO]at ha
 rcases tf with rfl|rfl|rfl|rfl|rfl|rfl|rfl|rfl|rfl|rfl|rfl|rfl|rfl|rfl|rfl|rfl|rfl|rfl
 all_goals
  unfold pN M.bi M.dV M.mo M.aY M.bD M.iF M.lT;simp[aQ,aT,aR,bm,bT,bk,cd,hr,hR,idx,KA]
  grind
def MG(op m:Int)(a b c:Ty)(s:rM)(h3:ar op=3):pN (op,m) [a,b,c] s=M.aY aU (op,m) [a,b,c] s:=by
 have tf:op=26:=by unfold ar at h3;omega
 subst tf;have hr:=uA ((26:Int),m) s
 have hR:Dx 26 m s:=by unfold Dx;omega
 obtain⟨(a1:Int),(a2:Int)⟩:=a;obtain⟨(b1:Int),(b2:Int)⟩:=b;obtain⟨(c1:Int),(c2:Int)⟩:=c;unfold pN M.bi M.dV M.aY M.bD;simp[aQ,aT,aR,bm,bT,bk,cd,hr,hR,idx,KA]
 grind
theorem Ta(op m:Int)(a:Ty)(s:rM)(hm:m<=9223372036854775807)(h1:ar op=1)(ha:rO a):pN (op,m) [a] s=M.aY aU (op,m) [a] s:=by
 have hr:=uA (op,m) s
 have hR:Dx op m s↔(op=34->0<=m/\ajH m 8<=5):=by
  unfold ar at h1;unfold Dx;exact⟨λh=>h.2.2.1,λh=>⟨λ_=>by omega,λ_=>by omega,h,λ_=>by omega⟩⟩
 have hd:0<=m->0<=ai9.wrap (ajl m 8):=λh=>Hs h hm (by omega)
 have ht:0<=m->0<=ajH m 8:=λh=>Int.tmod_nonneg _ h
 have tf:op=10\/op=25\/op=31\/op=32\/op=33\/op=34:=by unfold ar at h1;omega
 obtain⟨(a1:Int),(a2:Int)⟩:=a;simp only[rO]at ha
 rcases tf with rfl|rfl|rfl|rfl|rfl|rfl
 .unfold pN M.bi M.dV M.aY M.bD M.dB;simp[aQ,aT,aR,bm,bT,bk,cd,hr,hR,idx,KA]
  grind
 .unfold pN M.bi M.dV M.aY M.bD M.dB;simp[aQ,aT,aR,bm,bT,bk,cd,hr,hR,idx,KA]
  grind
 .unfold pN M.bi M.dV M.aY M.bD M.dB;simp[aQ,aT,aR,bm,bT,bk,cd,hr,hR,idx,KA]
  grind
 .unfold pN M.bi M.dV M.aY M.bD M.dB;simp[aQ,aT,aR,bm,bT,bk,cd,hr,hR,idx,KA]
  grind
 .have i0:idx [((a1,a2):Ty)] 0=aa (a1,a2):=rfl;unfold pN M.bi M.lF M.aY M.bD M.dB;by_cases h:0<=m/\m<(s.2.1.length:Int)
  .obtain⟨k,rfl⟩:=ajd h.1
   have hk:k<s.2.1.length:=by omega
   simp[aQ,aT,aR,bm,cd,hr,hR,KA,pP,ch,i0,aF hk,hk,show¬((s.2.1.length:Int)<=(k:Int)) by omega,show¬((k:Int)<0) by omega];generalize s.2.1[k]=t
   by_cases c1:oO t.2.1 s.1.length<;>by_cases c2:oO t.2.2.1 s.1.length<;>by_cases c3:((a1,a2):Ty)=t.2.1<;>simp[c1,c2,c3]
  .simp[aQ,aT,aR,bm,cd,hr,hR,KA,pP,ch,i0];by_cases Q5:m<0
   .simp[Q5,show¬0<=m by omega]
   .simp[Q5,show 0<=m by omega,show(s.2.1.length:Int)<=m by omega,show¬m<(s.2.1.length:Int) by omega]
 .have i0:idx [((a1,a2):Ty)] 0=aa (a1,a2):=rfl;unfold pN M.bi M.lF M.aY M.bD M.dB;simp only[hr,hR];by_cases h:0<=m/\ajH m 8<=5
  .have hd:=hd h.1;have ht:=ht h.1;generalize ai9.wrap (ajl m 8)=j at*;generalize ajH m 8=q at*;by_cases h':j<(s.2.1.length:Int)
   .obtain⟨k,rfl⟩:=ajd hd
    have hk:k<s.2.1.length:=by omega
    simp[aQ,aT,aR,bm,bk,cd,h,ht,KA,pP,ch,i0,aF hk,hk,show¬(m<0) by omega,show¬((s.2.1.length:Int)<=(k:Int)) by omega,show¬((k:Int)<0) by omega];generalize s.2.1[k]=t;obtain⟨nm,⟨(k1:Int),(k2:Int)⟩,⟨(v1:Int),(v2:Int)⟩,rs⟩:=t;generalize s.1.length=ne;by_cases R:a1=3/\k1=3/\k2=0/\v1=4/\v2=0
    .obtain⟨rfl,rfl,rfl,rfl,rfl⟩:=R;obtain rfl:a2=0:=ha ⟨by decide,by decide⟩
     have v3:oO (((3:Int),(0:Int)):Ty) ne:=by simp[oO]
     have v4:oO (((4:Int),(0:Int)):Ty) ne:=by simp[oO]
     simp[v3,v4]
    .have hR2:(((if a1=3 then if((k1,k2):Int×Int)=(3,0)then aa (decide (((v1,v2):Int×Int)=(4,0)),a1,a2)else aa (ag,a1,a2)else aa (ag,a1,a2)):Option (Bool×Int×Int)))=aa (ag,a1,a2):=by
      by_cases q1:a1=3<;>by_cases q2:k1=3<;>by_cases q3:k2=0<;>by_cases q4:v1=4<;>by_cases q5:v2=0<;>simp[q1,q2,q3,q4,q5]<;>exact absurd ⟨q1,q2,q3,q4,q5⟩ R
     rw[hR2];by_cases c1:oO ((k1,k2):Ty) ne
     .by_cases c2:oO ((v1,v2):Ty) ne
      .by_cases e:((a1,a2):Ty)=(k1,k2)
       .injection e with e1 e2
        subst e1 e2;have XT:=c1;have U0:=c2;simp only[oO]at XT U0;dsimp only[aB,Row.den]at XT U0;by_cases f:a1=3
        .have g:¬v1=4:=λg=>R (by omega)
         subst f
         obtain rfl:a2=0:=by omega
         simp[c1,c2,g]
        .simp[c1,c2,f]
       .simp[c1,c2,e]
      .simp[c1,c2]
     .simp[c1]
   .simp[aQ,aT,aR,bm,bk,cd,h,ht,KA,pP,ch,i0,show¬(m<0) by omega,show(s.2.1.length:Int)<=j by omega,show¬j<0 by omega]
  .simp[aQ,aT,aR,bm,bk,cd,KA,pP,ch,i0];by_cases Q5:m<0
   .simp[Q5,show¬0<=m by omega]
   .have h5:5<ajH m 8:=by omega
    simp[Q5,h5,show¬ajH m 8<=5 by omega]
def bq(m:Int)(ls:List Ty)(s:rM):M.fO aU m ls s=if 0<=m/\m<(ls.length:Int)then(match ls[m.toNat]? with
 |some t=>if oO t s.1.length then aa (t,(0:Int))else aa (((0:Int),(0:Int)),(8:Int))
 |none=>ae)else aa (((0:Int),(0:Int)),(6:Int)):=by
 grind [M.fO,aF,pP]
def zero_eq(op m:Int)(s:rM)(hm:m<=9223372036854775807)(h0:ar op=0):pN (op,m) [] s=M.aY aU (op,m) [] s:=by
 have hr:=uA (op,m) s
 have hR:Dx op m s↔(1<=op/\op<=5->B4 m (op,(0:Int)) s.1)/\(op=6->0<=m):=by
  unfold ar at h0;unfold Dx;exact(by grind)
 have hd:0<=m->0<=ai9.wrap (ajl m 16):=λh=>Hs h hm (by omega)
 have tf:op=1\/op=2\/op=3\/op=4\/op=5\/op=6\/op=7\/op=8\/op=9\/op=35\/op=36\/op=37\/op=38\/op=39:=by unfold ar at h0;omega
 have v:∀k:Int,1<=k->k<=5->oO ((k,(0:Int)):Ty) s.1.length:=λk h1 h2=> .inl ⟨h1,h2,rfl⟩
 rcases tf with rfl|rfl|rfl|rfl|rfl|rfl|rfl|rfl|rfl|rfl|rfl|rfl|rfl|rfl
 .unfold pN M.bi M.bR M.cr M.aY M.bD M.cz;have v:=v 1 (by decide) (by decide)
  by_cases h:B4 m ((1:Int),(0:Int)) s.1<;>simp[aQ,aT,aR,bm,bT,bk,cm,bq,cd,hr,hR,ch,h,v]
 .unfold pN M.bi M.bR M.cr M.aY M.bD M.cz;have v:=v 2 (by decide) (by decide)
  by_cases h:B4 m ((2:Int),(0:Int)) s.1<;>simp[aQ,aT,aR,bm,bT,bk,cm,bq,cd,hr,hR,ch,h,v]
 .unfold pN M.bi M.bR M.cr M.aY M.bD M.cz;have v:=v 3 (by decide) (by decide)
  by_cases h:B4 m ((3:Int),(0:Int)) s.1<;>simp[aQ,aT,aR,bm,bT,bk,cm,bq,cd,hr,hR,ch,h,v]
 .unfold pN M.bi M.bR M.cr M.aY M.bD M.cz;have v:=v 4 (by decide) (by decide)
  by_cases h:B4 m ((4:Int),(0:Int)) s.1<;>simp[aQ,aT,aR,bm,bT,bk,cm,bq,cd,hr,hR,ch,h,v]
 .unfold pN M.bi M.bR M.cr M.aY M.bD M.cz;have v:=v 5 (by decide) (by decide)
  by_cases h:B4 m ((5:Int),(0:Int)) s.1<;>simp[aQ,aT,aR,bm,bT,bk,cm,bq,cd,hr,hR,ch,h,v]
 .unfold pN M.bi M.bR M.cr M.aY M.bD M.cz;by_cases h:m<0
  .simp[aQ,aT,aR,bm,bT,bk,cm,bq,cd,hr,hR,ch,h]
  .have hd:=hd (by omega)
   have h':0<=m:=by omega
   generalize ai9.wrap (ajl m 16)=j at*;generalize ajH m 16=q at*;by_cases hj:j<(s.1.length:Int)
   .obtain⟨k,rfl⟩:=ajd hd
    have hk:k<s.1.length:=by omega
    have v6:oO (((6:Int),(k:Int)):Ty) s.1.length:= .inr (by grind);by_cases hq:q<(s.1[k].2.length:Int)
    .simp[aQ,aT,aR,bm,bT,bk,cm,bq,cd,hr,hR,ch,h,h',hk,aF hk,v6,hq,show¬(s.1.length:Int)<=(k:Int) by omega,show¬(s.1[k].2.length:Int)<=q by omega]
    .simp[aQ,aT,aR,bm,bT,bk,cm,bq,cd,hr,hR,ch,h,h',hk,aF hk,v6,hq,show¬(s.1.length:Int)<=(k:Int) by omega,show(s.1[k].2.length:Int)<=q by omega]
   .simp[aQ,aT,aR,bm,bT,bk,cm,bq,cd,hr,hR,ch,h,h',hj,show(s.1.length:Int)<=j by omega]
 .unfold pN M.bi M.bR M.cr M.aY M.bD M.cz;by_cases h:0<=m/\m<(s.2.2.1.length:Int)
  .obtain⟨k,rfl⟩:=ajd h.1
   have hk:k<s.2.2.1.length:=by omega
   by_cases hv:oO s.2.2.1[k] s.1.length<;>simp[aQ,aT,aR,bm,bT,bk,cm,bq,cd,hr,hR,ch,hk,aF hk,hv]
  .by_cases h0:0<=m
   .have h1:¬m<(s.2.2.1.length:Int):=λg=>h ⟨h0,g⟩
    simp[aQ,aT,aR,bm,bT,bk,cm,bq,cd,hr,hR,ch,h0,h1]
   .simp[aQ,aT,aR,bm,bT,bk,cm,bq,cd,hr,hR,ch,h0]
 .unfold pN M.bi M.bR M.cr M.aY M.bD M.cz;by_cases h:0<=m/\m<(s.2.2.2.1.length:Int)
  .obtain⟨k,rfl⟩:=ajd h.1
   have hk:k<s.2.2.2.1.length:=by omega
   by_cases hv:oO s.2.2.2.1[k] s.1.length<;>simp[aQ,aT,aR,bm,bT,bk,cm,bq,cd,hr,hR,ch,hk,aF hk,hv]
  .by_cases h0:0<=m
   .have h1:¬m<(s.2.2.2.1.length:Int):=λg=>h ⟨h0,g⟩
    simp[aQ,aT,aR,bm,bT,bk,cm,bq,cd,hr,hR,ch,h0,h1]
   .simp[aQ,aT,aR,bm,bT,bk,cm,bq,cd,hr,hR,ch,h0]
 .unfold pN M.bi M.bR M.cr M.aY M.bD M.cz;have v:=v 5 (by decide) (by decide);by_cases h:m=0
  .subst h;simp[aQ,aT,aR,bm,bT,bk,cm,bq,cd,hr,hR,ch,v]
  grind [aQ]
 .unfold pN M.bi M.bR M.cr M.aY M.bD M.cz;have v:=v 2 (by decide) (by decide);by_cases h:m=0
  .subst h;cases hs:s.2.2.2.2.2<;>simp[aQ,aT,aR,bm,bT,bk,cm,bq,cd,hr,hR,ch,v,hs]
  grind [aQ]
 .unfold pN M.bi M.bR M.cr M.aY M.bD M.cz;cases hs:s.2.2.2.2.2
  .simp[aQ,aT,aR,bm,bT,bk,cm,bq,cd,hr,hR,ch,hs]
  by_cases h:0<=m/\m<(s.2.2.2.2.1.length:Int)
  .obtain⟨k,rfl⟩:=ajd h.1
   have hk:k<s.2.2.2.2.1.length:=by omega
   by_cases hv:oO s.2.2.2.2.1[k] s.1.length
   .simp[aQ,aT,aR,bm,bT,bk,cm,bq,cd,hr,hR,ch,hk,aF hk,hv,hs]
    grind
   .simp[aQ,aT,aR,bm,bT,bk,cm,bq,cd,hr,hR,ch,hk,aF hk,hv,hs]
  .by_cases h0:0<=m
   .have h1:¬m<(s.2.2.2.2.1.length:Int):=λg=>h ⟨h0,g⟩
    simp[aQ,aT,aR,bm,bT,bk,cm,bq,cd,hr,hR,ch,h0,h1,hs]
   .simp[aQ,aT,aR,bm,bT,bk,cm,bq,cd,hr,hR,ch,h0,hs]
 .unfold pN M.bi M.bR M.cr M.aY M.bD M.cz;cases hs:s.2.2.2.2.2
  .simp[aQ,aT,aR,bm,bT,bk,cm,bq,cd,hr,hR,ch,hs]
  by_cases h:0<=m/\m<(s.2.2.2.2.1.length:Int)
  .obtain⟨k,rfl⟩:=ajd h.1
   have hk:k<s.2.2.2.2.1.length:=by omega
   by_cases hv:oO s.2.2.2.2.1[k] s.1.length
   .simp[aQ,aT,aR,bm,bT,bk,cm,bq,cd,hr,hR,ch,hk,aF hk,hv,hs]
    grind
   .simp[aQ,aT,aR,bm,bT,bk,cm,bq,cd,hr,hR,ch,hk,aF hk,hv,hs]
  .by_cases h0:0<=m
   .have h1:¬m<(s.2.2.2.2.1.length:Int):=λg=>h ⟨h0,g⟩
    simp[aQ,aT,aR,bm,bT,bk,cm,bq,cd,hr,hR,ch,h0,h1,hs]
   .simp[aQ,aT,aR,bm,bT,bk,cm,bq,cd,hr,hR,ch,h0,hs]
 .unfold pN M.bi M.bR M.cr M.aY M.bD M.cz;cases hs:s.2.2.2.2.2
  .simp[aQ,aT,aR,bm,bT,bk,cm,bq,cd,hr,hR,ch,hs]
  by_cases h:0<=m/\m<(s.2.2.2.2.1.length:Int)
  .obtain⟨k,rfl⟩:=ajd h.1
   have hk:k<s.2.2.2.2.1.length:=by omega
   by_cases hv:oO s.2.2.2.2.1[k] s.1.length
   .simp[aQ,aT,aR,bm,bT,bk,cm,bq,cd,hr,hR,ch,hk,aF hk,hv,hs]
    grind
   .simp[aQ,aT,aR,bm,bT,bk,cm,bq,cd,hr,hR,ch,hk,aF hk,hv,hs]
  .by_cases h0:0<=m
   .have h1:¬m<(s.2.2.2.2.1.length:Int):=λg=>h ⟨h0,g⟩
    simp[aQ,aT,aR,bm,bT,bk,cm,bq,cd,hr,hR,ch,h0,h1,hs]
   .simp[aQ,aT,aR,bm,bT,bk,cm,bq,cd,hr,hR,ch,h0,hs]
 .unfold pN M.bi M.bR M.cr M.aY M.bD M.cz;cases hs:s.2.2.2.2.2
  .simp[aQ,aT,aR,bm,bT,bk,cm,bq,cd,hr,hR,ch,hs]
  by_cases h:0<=m/\m<(s.2.2.2.2.1.length:Int)
  .obtain⟨k,rfl⟩:=ajd h.1
   have hk:k<s.2.2.2.2.1.length:=by omega
   by_cases hv:oO s.2.2.2.2.1[k] s.1.length
   .simp[aQ,aT,aR,bm,bT,bk,cm,bq,cd,hr,hR,ch,hk,aF hk,hv,hs];generalize s.2.2.2.2.1[k]=t at*
    grind
   .simp[aQ,aT,aR,bm,bT,bk,cm,bq,cd,hr,hR,ch,hk,aF hk,hv,hs]
  .by_cases h0:0<=m
   .have h1:¬m<(s.2.2.2.2.1.length:Int):=λg=>h ⟨h0,g⟩
    simp[aQ,aT,aR,bm,bT,bk,cm,bq,cd,hr,hR,ch,h0,h1,hs]
   .simp[aQ,aT,aR,bm,bT,bk,cm,bq,cd,hr,hR,ch,h0,hs]
def WS(n:Ty)(l:List Ty)(s:rM)(hw:WF aD n)(hl:(l.length:Int)=ar n.1)(hN:∀t∈l,rO t):pN n l s=aa (Ht n l s):=by
 rw[<-Mq hw hl];obtain⟨(op:Int),(m:Int)⟩:=n;have hm:m<=9223372036854775807:=hw.2.2;have h3:=tw op;dsimp only at hl
 match l,hl with
 |[],hl=>exact zero_eq op m s hm hl.symm
 |[a],hl=>grind [Ta]
 |[a,b],hl=>grind [S9]
 |[a,b,c],hl=>exact MG op m a b c s hl.symm
 |a::b::c::d::l,hl=>grind
def oO.nrm{t:Ty}{n:Nat}(h:oO t n):rO t:=λh'=>by
 obtain⟨(k:Int),(e:Int)⟩:=t
 rcases h with h|h
 all_goals grind
def Pc{α:Type}(m:Option α)(Q:α->Prop):Prop:=∀r,m=aa r->Q r
theorem jX{α:Type}{x:α}{Q:α->Prop}:Pc (aa x) Q↔Q x:=⟨λh=>h x rfl,λh r e=>by grind⟩
theorem gk{α β:Type}{m:Option α}{k:α->Option β}{Q:β->Prop}:Pc (m.bind k) Q↔Pc m λx=>Pc (k x) Q:=by
 constructor
 .intro h x hx r hr;exact h r (by grind)
 .intro h r hr;obtain⟨x,hx,hr⟩:=Option.bind_eq_some_iff.1 hr;exact h x hx r hr
def nf{α:Type}{c:Prop}[Decidable c]{a b:Option α}{Q:α->Prop}:Pc (if c then a else b) Q↔(c->Pc a Q)/\(¬c->Pc b Q):=by
 grind
theorem Pc.of{α:Type}{m:Option α}{Q:α->Prop}(h:∀x,Q x):Pc m Q:=λx _=>h x
theorem rO.kind(k:Int):rO ((k,(0:Int)):Ty):=λ_=>rfl
theorem MH(n:Ty)(s:rM):Pc (M.cz aU n s) λr=>r.2=af->rO r.1:=by
 have ho:∀k,M.iS aU k=aa (decide (k=2\/k=3\/k=4\/k=5)):=aR;unfold M.cz;rw[gk]
 refine Pc.of λj=>?_
 simp only[ch,ho,ai8];by_cases hv:oO j s.1.length
 .simp only[gk,nf,jX];simp[hv.nrm]
 .simp[hv,gk,nf,jX]
theorem F5(n a:Ty)(s:rM)(ha:rO a):Pc (M.dB aU n a s) λr=>r.2=af->rO r.1:=by
 unfold M.dB;simp only[bm,aT,ch,ai8,gk,nf,jX];refine⟨λ_ _=>ha,λ_=>⟨λ_ _=>ha,λ_=>?_⟩⟩
 have h33:Pc (idx s.2.1 n.2) λx=>(decide (oO x.2.1 s.1.length)=af->(decide (oO x.2.2.1 s.1.length)=af->pT aD a x.2.1=af->rO x.2.2.1)/\(¬decide (oO x.2.2.1 s.1.length)=af->ag=af->rO x.2.2.1))/\(¬decide (oO x.2.1 s.1.length)=af->ag=af->rO x.2.2.1):=Pc.of λx=>⟨λ_=>⟨λh _=>(an h:oO x.2.2.1 s.1.length).nrm,λ_ h=>(by cases h)⟩,λ_ h=>(by cases h)⟩
 have Pe:Pc (idx s.2.1 (ai9.wrap (ajl n.2 8))) λx=>(decide ((a.1:Int)=3)=af->(pT aD x.2.1 ((3:Int),(0:Int))=af->pT aD x.2.2.1 ((4:Int),(0:Int))=af->rO a)/\(¬pT aD x.2.1 ((3:Int),(0:Int))=af->ag=af->rO a))/\(¬decide ((a.1:Int)=3)=af->ag=af->rO a):=Pc.of (by grind)
 grind [rO.kind]
theorem F6(op:Int)(a b:Ty)(ha:rO a):Pc (M.iF aU op a b) λr=>r.2=af->rO r.1:=by
 have hk:∀k:Int,rO ((k,(0:Int)):Ty):=rO.kind;unfold M.iF M.lT;simp only[bm,aT,aR,ai8,gk,nf,jX];simp[ha,hk]
def Pg(n:Ty)(l:List Ty)(s:rM)(hw:WF aD n)(hl:(l.length:Int)=ar n.1)(hN:∀t∈l,rO t)(h0:(Ht n l s).2=0):rO (Ht n l s).1:=by
 have ym:∀i,Pc (idx l i) rO:=λi x hx=>by
  grind [idx]
 have key:Pc (M.aY aU n l s) λr=>r.2=0->rO r.1:=by
  unfold M.aY;rw[gk]
  refine Pc.of λj1=>?_
  rw[nf];refine⟨λ_=>jX.2 λh=>(by cases h),λ_=>?_⟩;rw[gk]
  refine Pc.of λy3=>?_
  rw[nf];refine⟨λ_=>jX.2 λh=>(by cases h),λ_=>?_⟩;rw[gk]
  refine Pc.of λy4=>?_
  rw[nf];refine⟨λ_=>jX.2 λh=>(by cases h),λ_=>?_⟩;rw[gk]
  have fin:∀{m:Option (Bool×Ty)},Pc m (λj=>j.1=af->rO j.2)->Pc m λj5=>Pc (if(!j5.1)=af then aa (((0:Int),(0:Int)),(8:Int))else aa (j5.2,(0:Int))) λr:Ty×Int=>r.2=0->rO r.1:=λ{m}h j hj=>by
   have:=h j hj;refine nf.2 ⟨λ_=>jX.2 λh=>(by cases h),λh=>jX.2 λ_=>this (by simpa using h)⟩
  refine fin ?_;rw[nf];refine⟨λ_=>?_,λ_=>?_⟩
  .grind [gk,jX,MH]
  rw[nf];refine⟨λ_=>?_,λ_=>?_⟩
  .rw[gk]
   refine λa ha=>gk.2 ?_
   grind [jX,F5]
  rw[nf];refine⟨λ_=>?_,λ_=>?_⟩
  .rw[gk]
   refine λa ha=>gk.2 λb _=>gk.2 ?_
   grind [jX,F6]
  .rw[gk]
   refine λa ha=>?_
   have ha:=ym _ a ha;simp only[gk,nf,jX]
   grind [Pc.of]
 exact key _ (Mq hw hl) h0
def Bw(st:List Nat)(m:Nat)(v:Nat):b8 (fc st++aji (m+1) (0:Int)) (st.length:Int) (v:Int)=fc (st++[v])++aji m (0:Int):=by
 grind [b8]
def uH(st:List Nat)(m:Nat)(u v:Nat):b8 (fc (st++[u])++aji m (0:Int)) (st.length:Int) (v:Int)=fc (st++[v])++aji m (0:Int):=by
 unfold b8
 simp_all
def F7(e:List Ty):M.fB aU e=aa (rB e):=by
 apply Wp.eq;unfold M.fB rB
 refine Wp.dec (λh=> .some ?_) λh1=>?_
 .grind
 rw[ai (show¬48<e.length by omega)]
 refine Wp.dec (λh=> .some ?_) λh2=>?_
 .grind
 rw[ai (show¬e.length=0 by omega)]
 have ON:p6 (e.length:Int) (0:Int)=aa (aji e.length 0):=by
  unfold p6;rw[aj (by omega),ajg]
 rw[ON];simp only[ai8];refine Wp.join (Wp.loop (λs:Int×List Int×List Int=>∃st sk:List Nat,s=((st.length:Int),fc st++aji (e.length-st.length) 0,fc sk)/\st.length<=e.length/\sk.length<=12/\ld (e.drop st.length) st.length st sk=ld e 0 [] []) (λs=>(e.length-s.1).toNat) ⟨[],[],by simp,by simp,by simp,by simp⟩ (by simp only;unfold aU;omega) ?_)
 rintro _ ⟨st,sk,rfl,gD,hsk,bJ⟩
 simp only
 refine Wp.dec (λhk=>?_) λhk=> .some ?_
 case refine_2=>
  have hd:e.drop st.length=[]:=ajX (by omega);rw[hd]at bJ;rw[<-bJ]
  have h0:e.length-st.length=0:=by omega
  rw[h0];simp only[ld,List.replicate_zero,ajS]
  show Wp _ _
  refine Wp.dec (λh=> .some ?_) λh=> .some ?_
  all_goals grind
 have iU:st.length<e.length:=by omega
 have hd:e.drop st.length=e[st.length]::e.drop (st.length+1):=ajx iU
 obtain⟨m,hm⟩:∃m,e.length-st.length=m+1:=⟨e.length-st.length-1,by omega⟩
 rw[hd]at bJ;rw[aF iU,hm];simp only[ai8,ME];generalize tf:(e[st.length].1:Int)=op;rw[ld]at bJ;rw[tf]at bJ;have Ya:=tw op
 refine Wp.dec (λh=> .some ?_) λMI=>?_
 .rw[aj h]at bJ
  show _=_
  rw[<-bJ]
 rw[ai MI]at bJ
 refine Wp.dec (λh=> .some ?_) λhlen=>?_
 .rw[aj (by simpa using h)]at bJ
  show _=_
  rw[<-bJ]
 have hlen:¬(sk.length:Int)<ar op:=by simpa using hlen
 rw[ai hlen]at bJ
 obtain⟨a,ha⟩:∃a:Nat,ar op=a:=⟨(ar op).toNat,by omega⟩
 rw[ha]at bJ MI hlen Ya⊢
 have abL:a<=sk.length:=by omega
 have e6:idx (fc st++aji (m+1) (0:Int)) (st.length:Int)=aa 0:=by
  rw[aF (by simp)];rw[ajU (by simp)];simp
 rw[e6]
 have hw:ai9.wrap (((fc sk).length:Int)-(a:Int))=((sk.length-a:Nat):Int):=by
  rw[List.length_map,aW (by omega) (by omega)];omega
 have hs:vX (a:Int) st.length sk=(if a=0 then st.length else sk.getD (sk.length-a) 0):=by
  unfold vX;by_cases h0:a=0
  .subst h0;simp
  .grind
 simp only[ai8,Bw,hw];refine Wp.seq (· =fc (st++[vX (a:Int) st.length sk])++aji m (0:Int)) ?_ ?_
 .refine Wp.dec (λh=>?_) λh=>?_
  .have aG:sk.length-a<(fc sk).length:=by simp;omega
   rw[aF aG]
   have e9:idx (fc (st++[st.length])++aji m (0:Int)) (st.length:Int)=aa (st.length:Int):=by
    rw[aF (by simp)];rw[ajM (by simp)];simp
   simp only[ai8,e9,List.getElem_map,uH];refine .some ?_
   grind
  .refine .some ?_
   grind
 .rintro _ rfl
  generalize vX (a:Int) st.length sk=s at bJ⊢
  have EE:gq (fc sk) (0:Int) ((sk.length-a:Nat):Int)=aa (fc (sk.take (sk.length-a))):=by
   rw[rp (by simp)];simp
  have e11:idx (fc (st++[s])++aji m (0:Int)) (st.length:Int)=aa (s:Int):=by
   rw[aF (by simp)];rw[ajM (by simp)];simp
  have Tb:cu (fc (sk.take (sk.length-a))) [(s:Int)]=aa (fc (sk.take (sk.length-a)++[s])):=by
   rw[fU (by simp;omega)];simp
  rw[EE];simp only[ai8,e11,Tb]
  have hl:(fc (sk.take (sk.length-a)++[s])).length=sk.length-a+1:=by simp
  rw[hl];rw[ajg]at bJ
  refine Wp.dec (λh=> .some ?_) λh=> .some ?_
  .rw[aj (by omega)]at bJ
   show _=_
   rw[<-bJ]
  .rw[ai (by omega)]at bJ;rw[aS (by omega)];refine⟨⟨st++[s],sk.take (sk.length-a)++[s],?_,by simp;omega,by simp;omega,?_⟩,by grind⟩
   all_goals grind
def DC.all(s:rM):DC s:=λe hw=>by
 apply Wp.eq;unfold M.og;simp only[F7,ME,MF,W_,av,ax,reduceCtorEq];refine⟨λh=>by unfold KB;rw[aj h],λh0=>?_⟩;obtain⟨h48,dw,dD,NN,QH⟩:=O6 h0
 have hT:KB e s=match nT s e 0 []with
  | .inl (i,c)=>(((0:Int),(0:Int)),(i:Int),c)
  | .inr nF=>(nF.headD ((0:Int),(0:Int)),0,0):=by unfold KB;rw[ai (by omega)]<;>cases nT s e 0 []<;>rfl
 refine Wp.count (λs=>s.1) e.length (λk q=>∃st sk,q.2.length=sk.length/\ld e 0 [] []=ld (e.drop k) k st sk/\nT s e 0 []=nT s (e.drop k) k q.2/\q.2.length<=k/\(0<k->q.2≠[])/\∀t∈q.2,rO t) (by omega) rfl (by grind) λk q hk hs hJ=>?_
 obtain⟨i,nF⟩:=q;obtain⟨st,sk,hl,hr,ht,QI,qa,abN⟩:=hJ;dsimp only at hs hl ht QI qa abN;subst hs;simp only[W_,av,ax,reduceCtorEq,bf,aX];refine⟨λaG=>?_,λhge=>?_⟩
 .have aG:k<e.length:=by omega
  rw[ajx aG,ld]at hr;rw[ajx aG,nT]at ht;rw[QH]at hr;have ha3:=tw e[k].1;split at hr
  .cases hr
  split at hr
  .cases hr
  split at hr
  .cases hr
  rename_i ha0 ha1 ha2
  have w1:ai9.wrap ((nF.length:Int)-ar e[k].1)=((nF.length-(ar e[k].1).toNat:Nat):Int):=by rw[aW (by omega) (by omega)];omega
  have hd:((nF.drop (nF.length-(ar e[k].1).toNat)).length:Int)=ar e[k].1:=by rw[List.length_drop];omega
  have hwk:=hw _ (aje aG)
  have Yb:∀t∈nF.drop (nF.length-(ar e[k].1).toNat),rO t:=(by grind)
  have hp:=WS e[k] _ s hwk hd Yb;have B9:=Pg e[k] _ s hwk hd Yb
  have bad:∀c:Int,c≠0->(Ht e[k] (nF.drop (nF.length-(ar e[k].1).toNat)) s).2=c->(((0:Int),(0:Int)),(k:Int),c)=KB e s:=(by grind)
  have rest:¬((e[k].2:Int)≠0/\¬((1<=(e[k].1:Int)/\(e[k].1:Int)<=8)\/(14<=(e[k].1:Int)/\(e[k].1:Int)<=16)\/(e[k].1:Int)=33\/(e[k].1:Int)=34\/(36<=(e[k].1:Int)/\(e[k].1:Int)<=39)))->M.bi aU e[k] (nF.drop (nF.length-(ar e[k].1).toNat)) s=aa (Ht e[k] (nF.drop (nF.length-(ar e[k].1).toNat)) s):=λh=>by
   rw[<-hp];exact(ai h).symm
  have cond:((e[k].2:Int)≠0/\¬((1<=(e[k].1:Int)/\(e[k].1:Int)<=8)\/(14<=(e[k].1:Int)/\(e[k].1:Int)<=16)\/(e[k].1:Int)=33\/(e[k].1:Int)=34\/(36<=(e[k].1:Int)/\(e[k].1:Int)<=39)))->(Ht e[k] (nF.drop (nF.length-(ar e[k].1).toNat)) s).2=2:=λh=>by
   have:aa (Ht e[k] (nF.drop (nF.length-(ar e[k].1).toNat)) s)=aa (((0:Int),(0:Int)),(2:Int)):=by
    rw[<-hp];exact aj h
   grind
  have Bt:¬((e[k].2:Int)≠0/\¬((1<=(e[k].1:Int)/\(e[k].1:Int)<=8)\/(14<=(e[k].1:Int)/\(e[k].1:Int)<=16)\/(e[k].1:Int)=33\/(e[k].1:Int)=34\/(36<=(e[k].1:Int)/\(e[k].1:Int)<=39)))->Wp (M.bi aU e[k] (nF.drop (nF.length-(ar e[k].1).toNat)) s) λy9=>(¬(y9.2:Int)=0->(((0:Int),(0:Int)),(k:Int),y9.2)=KB e s)/\((y9.2:Int)=0->Wp (cu (nF.take (nF.length-(ar e[k].1).toNat)) [y9.1]) λx=>k<e.length/\ai9.wrap ((k:Int)+1)=((k+1:Nat):Int)/\∃st sk,x.length=sk.length/\ld e 0 [] []=ld (e.drop (k+1)) (k+1) st sk/\nT s e 0 []=nT s (e.drop (k+1)) (k+1) x/\x.length<=k+1/\(0<k+1->x≠[])/\∀t∈x,rO t):=λh=>by
   rw[rest h];refine .some ⟨λhc=>bad _ hc rfl,λhc=>?_⟩;rw[ai (λg=>g hc)]at ht;refine nS.2 ⟨by grind,aG,cR (m:=e.length) (by omega) aG,_,_,?_,QH.trans hr,ht,?_,λ_=>by simp,λt h=>?_⟩
   .grind
   all_goals grind
  simp only[aF aG,w1,rp (show nF.length-(ar e[k].1).toNat<=nF.length by omega),rn (l:=nF) (nF.length-(ar e[k].1).toNat) nF.length rfl rfl (by omega) (ajh _),ajn,W_,av,ax,reduceCtorEq];exact⟨λh1=>⟨λh2=>bad 2 (by decide) (cond ⟨h1,h2⟩),λh2=>Bt λg=>g.2 h2⟩,λh1=>Bt λg=>g.1 h1⟩
 .obtain rfl:k=e.length:=by omega
  rw[List.drop_length,nT]at ht;rw[hT,ht];have:nF≠[]:=qa (List.length_pos_iff.2 dw);obtain⟨a,l,rfl⟩:=List.exists_cons_of_ne_nil this;exact eW.2 ⟨by simp,rfl⟩
end L
namespace L
inductive MJ(D:Int->Int->Prop):Int->Int->Prop
 |one {a b:Int} (h:D a b):MJ D a b
 |step {a b c:Int} (h:MJ D a b) (g:D b c):MJ D a c
def Dp(s:iT)(a b:Int):Prop:=b∈oL s a
def xy{y:Int}:∀{l out:List Int},y∈l.foldl (λo z=>ins z o) out↔y∈l\/y∈out
 |[],_=>by simp
 |x::l,out=>by
  rw[List.foldl_cons,xy (l:=l),ox,ajQ]
  grind
def pe(s:iT){out:List Int}{y:Int}:y∈stepT s out↔y∈out\/∃x∈out,Dp s x y:=by
 unfold stepT
 suffices∀(l o:List Int),y∈l.foldl (λo x=>(oL s x).foldl (λo y=>ins y o) o) o↔y∈o\/∃x∈l,Dp s x y from this _ _
 intro l
 induction l with
 |nil=>intro o;simp
 |cons x l ih=>
  intro o;rw[List.foldl_cons,ih,xy];unfold Dp
  grind
def qB(s:iT)(d:Int):∀n y,y∈mf s n (oL s d)->MJ (Dp s) d y
 |0,y,h=> .one h
 |n+1,y,h=>by
  rcases(pe s).1 h with h|⟨x,hx,h⟩
  .exact qB s d n y h
  .exact .step (qB s d n x hx) h
def JI{l m:List Int}(hl:l.Pairwise (· < ·))(hm:m.Pairwise (· < ·))(h:∀y,y∈l↔y∈m):l=m:=by
 induction l generalizing m with
 |nil=>
  cases m with
  |nil=>rfl
  |cons y m=>exact absurd ((h y).2 (by simp)) (by simp)
 |cons x l ih=>
  cases m with
  |nil=>grind
  |cons y m=>
   obtain⟨h1,h2⟩:=aka.1 hl;obtain⟨g1,g2⟩:=aka.1 hm
   have e:x=y:=by
    rcases ajQ.1 ((h x).1 (by simp))with e|e
    .exact e
    .rcases ajQ.1 ((h y).2 (by simp))with e'|e'
     all_goals grind
   grind
def zU{l:List Int}:∀{m:List Int},l.Nodup->(∀y,y∈l->y∈m)->l.length<=m.length:=by
 induction l with
 |nil=>grind
 |cons x l ih=>
  intro m hn h;obtain⟨h1,h2⟩:=List.nodup_cons.1 hn;have hx:=h x (by simp)
  have:=ih (m:=m.erase x) h2 λy hy=>(List.mem_erase_of_ne (λe:y=x=>h1 (by rw[<-e];exact hy))).2 (h y (by simp[hy]))
  rw[List.length_erase_of_mem hx]at this;have:=List.length_pos_of_mem hx;simp only[ajp];omega
def Hx{l m:List Int}(hl:l.Pairwise (· < ·))(_:m.Pairwise (· < ·))(h:∀y,y∈l->y∈m)(hx:∃y,y∈m/\y∉l):l.length<m.length:=by
 have nd:l.Nodup:=hl.imp λh=>by omega
 obtain⟨y,hy,hn⟩:=hx;have nd2:(y::l).Nodup:=List.nodup_cons.2 ⟨hn,nd⟩;have:(y::l).length<=m.length:=zU nd2 (by grind)
 grind
def By(s:iT)(d:Int):(∀n,n<=s.2.2.2.1.length->(stepT s (mf s n (oL s d))=mf s n (oL s d)\/n<=(mf s n (oL s d)).length)):=by
 have Yc:∀m,uB s.2.2.2.1.length (mf s m (oL s d)):=λm=>by
  induction m with
  |zero=>exact nU s d
  |succ m ih=>exact rq s ih
 intro n
 induction n with
 |zero=>grind
 |succ n ih=>
  intro hn
  rcases ih (by omega)with h|h
  .grind [mf]
  .by_cases hx:∃y,y∈stepT s (mf s n (oL s d))/\y∉mf s n (oL s d)
   .right
    have:=Hx (Yc n).1 (rq s (Yc n)).1 (λy hy=>(pe s).2 (.inl hy)) hx
    grind [mf]
   .left
    have:stepT s (mf s n (oL s d))=mf s n (oL s d):=JI (rq s (Yc n)).1 (Yc n).1 λy=>⟨(by grind),λh=>(pe s).2 (.inl h)⟩
    grind [mf]
theorem Ph(s:iT)(d y:Int):y∈KC s d↔MJ (Dp s) d y:=by
 refine⟨λh=>qB s d _ y h,λh=>?_⟩
 have closed:∀x z,x∈KC s d->Dp s x z->z∈KC s d:=by
  intro x z hx hz
  rcases By s d s.2.2.2.1.length (ajh _)with h|h
  .have:z∈stepT s (mf s s.2.2.2.1.length (oL s d)):=(pe s).2 (.inr ⟨x,hx,hz⟩);rw[h]at this;exact this
  .have hs:=Pa s d;have Q4:=(nU s x).2 z hz
   refine Classical.not_not.1 λhn=>?_
   have:=Hx (l:=KC s d) (m:=ins z (KC s d)) hs.1 (FW hs.1) (λy hy=>ox.2 (.inr hy)) ⟨z,ox.2 (.inl rfl),hn⟩;have:=(hs.ins Q4).len
   grind [KC]
 have start:∀z,Dp s d z->z∈KC s d:=by
  intro z hz
  show z∈mf s s.2.2.2.1.length (oL s d)
  have:∀n,z∈mf s n (oL s d):=λn=>by
   induction n with
   |zero=>exact hz
   |succ n ih=>exact(pe s).2 (.inl ih)
  exact this _
 induction h<;>grind
def DE(d:Array Int)(y:Int):∀m,y∈Go.Lib.compactUpTo d m↔∃j,j<m/\d[j]! =y
 |0=>by simp[Go.Lib.compactUpTo]
 |m+1=>by
  rw[Go.Lib.compactUpTo_succ,ajt,DE d y m];constructor
  .grind
  .rintro⟨j,hj,h⟩
   rcases Nat.lt_succ_iff_lt_or_eq.1 hj with h1|rfl
   .grind
   .by_cases hk:Go.Lib.keeps d j=af
    .grind
    .left
     unfold Go.Lib.keeps at hk
     grind
theorem vq(l:List Int)(y:Int):y∈ajN l↔y∈l:=by
 unfold ajN;rw[DE];constructor
 .grind
 .intro h;obtain⟨j,hj,rfl⟩:=ajm h;exact⟨j,hj,by simp[hj]⟩
def zV(l:List Int)(hl:l.length<=1000000):Wp ((M.bQ aU l).bind λy1=>(M.bz aU y1).bind λy2=>aa y2) λr=>r.length<=l.length/\∀y,y∈r↔y∈l:=by
 have e1:M.bQ aU l=aa (ll l):=by
  unfold M.bQ zG;rw[aj (by omega)]
 have hs:(ll l).length=l.length:=List.length_mergeSort ..
 have e2:M.bz aU (ll l)=aa (ajN (ll l)):=by
  unfold M.bz pb;rw[aj (by omega)]
 rw[e1,ai8,e2];refine .some ⟨?_,λy=>?_⟩
 all_goals grind [xh,ll,vq,List.mem_mergeSort]
def lp(l:List Int)(hl:l.length<=1000000):Wp (M.gQ aU l) λr=>r.length<=l.length/\∀y,y∈r↔y∈l:=zV l hl
def tD(l:List Int)(hl:l.length<=1000000):Wp (M.gb aU l) λr=>r.length<=l.length/\∀y,y∈r↔y∈l:=zV l hl
def JJ(e:List Ty)(y:Int):Prop:=∃n∈e,(n.1:Int)=8/\(n.2:Int)=y
theorem F8(p:Int->Bool)(e:List Ty)(y:Int):y∈pO p e↔∃n∈e,p n.1=af/\(n.2:Int)=y:=by
 unfold pO
 suffices∀(e:List Ty)(l:List Int),y∈e.foldl (λl n=>if p n.1=af then ins n.2 l else l) l↔y∈l\/∃n∈e,p n.1=af/\(n.2:Int)=y by grind
 intro e
 induction e with
 |nil=>intro l;simp
 |cons n e ih=>
  grind [ox]
theorem DF(e:List Ty)(y:Int):y∈pO vo e↔JJ e y:=by
 grind [F8,JJ,vo]
def rP(e:List Ty)(he:e.length<=100000):Wp (M.dy aU e) λr=>r.2.1.length<=e.length/\∀y,y∈r.2.1↔JJ e y:=by
 unfold M.dy;rw[wp_bind]
 refine Wp.count (λs=>s.1) e.length (λk s=>(s.2.1.length<=k/\s.2.2.1.length<=k/\s.2.2.2.length<=k)/\∀y,y∈s.2.2.1↔∃j,∃h:j<e.length,j<k/\(e[j].1:Int)=8/\(e[j].2:Int)=y) (by omega) rfl ⟨by simp,λy=>by simp⟩ λk s hk hs hJ=>?_
 obtain⟨i,a,b,c⟩:=s;obtain⟨⟨l1,l2,l3⟩,hm⟩:=hJ;dsimp only at hs l1 l2 l3 hm;subst hs;simp only[W_,av,ax,reduceCtorEq,bf,aX];refine⟨λaG=>?_,λhge=>?_⟩
 .have aG:k<e.length:=by omega
  have nxt:∀b':List Int,(∀y,y∈b'↔y∈b\/((e[k].1:Int)=8/\(e[k].2:Int)=y))->∀y,y∈b'↔∃j,∃h:j<e.length,j<k+1/\(e[j].1:Int)=8/\(e[j].2:Int)=y:=(by grind)
  have same:(e[k].1:Int)≠8->∀y,y∈b↔∃j,∃h:j<e.length,j<k+1/\(e[j].1:Int)=8/\(e[j].2:Int)=y:=(by grind)
  simp only[aF aG,cR (m:=e.length) (by omega) aG,W_,av,ax,reduceCtorEq]
  have app:∀(q:List Int)(v:Int)(Q:List Int->Prop),q.length<=k->Q (q++[v])->Wp (cu q [v]) Q:=λq v Q hq h=>nS.2 ⟨by simp;omega,h⟩
  grind
 .refine(lp a (by omega)).mono λ_ _=>?_
  refine(lp b (by omega)).mono λr hr=>?_
  refine(lp c (by omega)).mono λ_ _=>?_
  grind [JJ,ajm]
def F9(r:uz)(n:Nat)(y:Int):Prop:=(JJ r.2.2.2.2.2.1 y\/JJ r.2.2.2.2.2.2.1 y)/\0<=y/\y<(n:Int)
def Hy(l o:List Int)(n:Nat)(hl:l.length<=100000)(ho:o.length<=100000):Wp (Loop (S:=Int×List Int) (X:=List Int) (λs4=>
 (if(decide (s4.1<(l.length:Int)))=af then
 ((idx l s4.1).bind λx6=>
 ((if(decide ((0:Int)<=x6))=af then
 some (decide (x6<(n:Int)))
 else
 some ag):Option (Bool)).bind λj7=>
 (if j7=af then
 (cu s4.2 ([x6]:List Int)).bind λl8=>
 some l8
 else
 some s4.2):Option (List Int)).bind λj5=>
 some (Sum.inl (ai9.wrap (s4.1+(1:Int)),j5))
 else
 some (Sum.inr s4.2))) aU ((0:Int),o)) λr=>r.length<=o.length+l.length/\∀y,y∈r↔y∈o\/(y∈l/\0<=y/\y<(n:Int)):=by
 refine Wp.count (λs=>s.1) l.length (λk s=>s.2.length<=o.length+k/\∀y,y∈s.2↔y∈o\/((∃j,∃h:j<l.length,j<k/\l[j]=y)/\0<=y/\y<(n:Int))) (by omega) rfl ⟨by simp,λy=>by simp⟩ λk s hk hs hJ=>?_
 obtain⟨i,q⟩:=s;obtain⟨h1,hm⟩:=hJ;dsimp only at hs h1 hm;subst hs;simp only[W_,av,ax,reduceCtorEq,bf,aX];refine⟨λaG=>?_,λhge=>?_⟩
 .have aG:k<l.length:=by omega
  simp only[aF aG,cR (m:=l.length) (by omega) aG,W_,av,ax,reduceCtorEq]
  grind [nS]
 .refine⟨by omega,λy=>?_⟩;rw[hm];refine or_congr Iff.rfl (and_congr_left λhy=>⟨(by grind),λh=>?_⟩)
  grind [ajm]
def JK(r:uz)(n:Nat)(h1:r.2.2.2.2.2.1.length<=50)(h2:r.2.2.2.2.2.2.1.length<=50):Wp (M.fA aU r (n:Int)) λl=>l.length<=100/\∀y,y∈l↔F9 r n y:=by
 unfold M.fA;rw[wp_bind]
 refine(rP _ (by omega)).mono λa ha=>?_
 rw[wp_bind]
 refine(rP _ (by omega)).mono λb hb=>?_
 rw[wp_bind]
 refine(Hy a.2.1 [] n (by omega) (by simp)).mono λc hc=>?_
 have Qd:=hc.1;simp only[ajJ]at Qd
 refine(Hy b.2.1 c n (by omega) (by omega)).mono λq hq=>⟨by omega,λy=>?_⟩
 grind [F9]
theorem zW(n:Nat)(y:Int):∀(l out:List Int),y∈pd n out l↔y∈out\/(y∈l/\0<=y/\y<(n:Int))
 |[],out=>by show y∈out↔_;simp
 |x::l,out=>by
  show y∈pd n (if 0<=x/\x<(n:Int)then ins x out else out) l↔_
  rw[zW n y l]
  grind [ox]
def MK(s:iT)(d y:Int):Dp s d y↔(0<=d/\d<(s.2.2.2.1.length:Int))/\∃r∈s.2.2.2.2,(r.2.1:Int)=d/\F9 r s.2.2.2.1.length y:=by
 unfold Dp oL;split
 .rename_i hd
  suffices∀(rs:List uz)(out:List Int),y∈rs.foldl (λout r=>if(r.2.1:Int)=d then pd s.2.2.2.1.length (pd s.2.2.2.1.length out (pO vo r.2.2.2.2.2.1)) (pO vo r.2.2.2.2.2.2.1)else out) out↔y∈out\/∃r∈rs,(r.2.1:Int)=d/\F9 r s.2.2.2.1.length y by
   grind
  intro rs
  induction rs with
  |nil=>intro out;simp
  |cons r rs ih=>
   intro out;rw[List.foldl_cons,ih]
   grind [zW,DF,F9]
 grind
def Tc(s:iT)(L:List (List Int)):Prop:=L.length=s.2.2.2.1.length/\∀d,∀h:d<L.length,L[d].length<=6000/\∀y,y∈L[d]↔Dp s (d:Int) y
theorem nC(s:iT)(hs:iG s):Wp (M.gR aU s) (Tc s):=by
 have Hw:=hs.2.2.1;have WO:=hs.2.2.2.1;have hru:=hs.2.2.2.2.2.2;unfold M.gR;rw[wp_bind];refine sq.2 ⟨by omega,?_⟩;rw[wp_bind,ajg]
 refine Wp.count (λs=>s.1) s.2.2.2.2.length (λk q=>q.2.length=s.2.2.2.1.length/\∀d,∀h:d<q.2.length,q.2[d].length<=100*k/\∀y,y∈q.2[d]↔∃j,∃h:j<s.2.2.2.2.length,j<k/\(s.2.2.2.2[j].2.1:Int)=(d:Int)/\F9 s.2.2.2.2[j] s.2.2.2.1.length y) (by omega) rfl ⟨by simp,λd h=>by simp⟩ λk q hk uE hJ=>?_
 obtain⟨i,q⟩:=q;obtain⟨hl,hm⟩:=hJ;dsimp only at uE hl hm;subst uE;simp only[W_,av,ax,reduceCtorEq,bf,aX];refine⟨λaG=>?_,λhge=>?_⟩
 .have aG:k<s.2.2.2.2.length:=by omega
  have hrk:=hru _ (aje aG);simp only[aF aG,cR (m:=s.2.2.2.2.length) (by omega) aG,hl,W_,av,ax,reduceCtorEq]
  have mc:∀d,∀h:d<q.length,(¬(s.2.2.2.2[k].2.1:Int)=(d:Int))->q[d].length<=100*(k+1)/\∀y,y∈q[d]↔∃j,∃h:j<s.2.2.2.2.length,j<k+1/\(s.2.2.2.2[j].2.1:Int)=(d:Int)/\F9 s.2.2.2.2[j] s.2.2.2.1.length y:=(by grind)
  have dfo:=JK s.2.2.2.2[k] s.2.2.2.1.length hrk.2.2.1 hrk.2.2.2
  obtain⟨(v:Int),hv⟩:∃v:Int,v=s.2.2.2.2[k].2.1:=⟨_,rfl⟩
  simp only[<-hv]at mc⊢;refine⟨λh0=>⟨λh1=>?_,λh1=>⟨aG,λd h=>mc d (by omega) λe=>h1 (e▸Int.ofNat_lt.2 h)⟩⟩,λh0=>⟨aG,λd h=>mc d (by omega) (by grind)⟩⟩;obtain⟨c,rfl⟩:=ajd h0
  have hc:c<q.length:=by rw[hl];exact Int.ofNat_lt.1 h1
  simp only[aF hc,W_,av,ax,reduceCtorEq]
  refine dfo.mono λl9 h9=>nS.2 ⟨by grind,?_⟩
  refine⟨aG,by rw[ju];exact hl,λd h=>?_⟩
  have hd:d<q.length:=by rw[ju]at h;exact h
  rw[vS h hd]
  by_cases e:(c:Int)=(d:Int)
  .rw[aj e]
   have e:c=d:=by omega
   subst e;refine⟨by grind,λy=>?_⟩;rw[ajt,(hm c hd).2,h9.2];constructor
   .rintro(⟨j,h1,h2,h3⟩|h3)
    .grind
    grind
   grind
  .rw[ai e];exact mc d hd e
 obtain rfl:k=s.2.2.2.2.length:=by omega
 have Zf:∀d,∀h:d<q.length,q[d].length<=6000/\∀y,y∈q[d]↔Dp s (d:Int) y:=λd h=>⟨by grind,λy=>by
  rw[(hm d h).2,MK];constructor
  .grind
  grind [ajm]⟩
 refine Wp.count (λs=>s.1) q.length (λk z=>z.2.length=q.length/\∀d,∀h:d<z.2.length,z.2[d].length<=6000/\∀y,y∈z.2[d]↔Dp s (d:Int) y) (by omega) rfl ⟨rfl,Zf⟩ λk z hk uE hJ=>?_
 obtain⟨i,z⟩:=z;obtain⟨zl,zm⟩:=hJ;dsimp only at uE zl zm;subst uE;simp only[W_,av,ax,reduceCtorEq,bf,aX];refine⟨λaG=>?_,λhge=>⟨by grind,zm⟩⟩
 have aG:k<q.length:=by omega
 have hkz:k<z.length:=by omega
 simp only[aF hkz,cR (m:=q.length) (by omega) aG,W_,av,ax,reduceCtorEq]
 refine(tD z[k] (by grind)).mono λr hr=>⟨aG,by rw[ju];exact zl,λd h=>?_⟩
 have hd:d<z.length:=by rw[ju]at h;exact h
 rw[vS h hd]
 by_cases e:(k:Int)=(d:Int)
 .grind
 grind
def Sn(seen:List Bool)(y:Int):Prop:=0<=y/\seen[y.toNat]? =aa af
def Td{seen:List Bool}{x:Int}(hx:0<=x/\x.toNat<seen.length)(y:Int):Sn (b8 seen x af) y↔y=x\/Sn seen y:=by
 grind [Sn,b8]
structure RI(D:Int->Int->Prop)(d0:Int)(n:Nat)(ex:Int->Prop)(seen:List Bool)(q:List Int):Prop where
 len:seen.length=n
 qo:∀x∈q,0<=x/\x<(n:Int)/\(x=d0\/Sn seen x)
 snd:∀y,Sn seen y->MJ D d0 y
 clo:∀x,(x=d0\/Sn seen x)->x∈q\/ex x\/∀y,D x y->Sn seen y
 bud:q.length+seen.count ag<=n+1
def sx(s:iT)(L:List (List Int))(hL:Tc s L)(d:Nat)(hd:d<s.2.2.2.1.length)(Hw:s.2.2.2.1.length<=14):Wp (M.lD aU L (d:Int)) λr=>r.length<=1000/\∀y,y∈r↔MJ (Dp s) (d:Int) y:=by
 obtain⟨hl,hL⟩:=hL
 have hD:∀a b,Dp s a b->0<=b/\b<(s.2.2.2.1.length:Int):=λa b h=>(nU s a).2 b h
 generalize s.2.2.2.1.length=n at*;unfold M.lD;rw[wp_bind];refine sq.2 ⟨by omega,?_⟩;rw[wp_bind,ajg,hl]
 refine Wp.loop (λq=>RI (Dp s) (d:Int) n (λ_=>False) q.1 q.2) (λq=>2*q.1.count ag+q.2.length) ?_ ?_ λq hq=>?_
 .refine⟨by simp,λx hx=>?_,λy hy=>?_,λx hx=>?_,by simp;omega⟩
  .grind
  .exfalso;have:=hy.2
   grind
  .rcases hx with rfl|hx
   .grind
   .exfalso;have:=hx.2
    grind
 .grind [aU]
 obtain⟨seen,q⟩:=q;dsimp only at hq;dsimp only
 have hcn:∀l:List Bool,l.count ag<=l.length:=λl=>List.count_le_length
 refine Wp.dec (λh0=>?_) λh0=>?_
 .have N9:0<q.length:=by omega
  obtain⟨x,t,rfl⟩:=List.exists_cons_of_ne_nil (List.length_pos_iff.1 N9);have hx:=hq.qo x (by simp);obtain⟨c,rfl⟩:=ajd hx.1
  have hc:c<L.length:=by omega
  have i0:idx ((c:Int)::t) (0:Int)=aa (c:Int):=rfl
  have EE:gq ((c:Int)::t) (1:Int) (((c:Int)::t).length:Int)=aa t:=by
   apply Wp.eq;refine wp_cut.2 ⟨by simp;omega,?_⟩;rw[ajg,ajn];rfl
  rw[i0,ai8,EE,ai8,aF hc,ai8]
  have Qb:∀y,Dp s (c:Int) y->MJ (Dp s) (d:Int) y:=λy h=>by
   rcases hx.2.2 with e|e
   .exact .one (e▸h)
   .exact .step (hq.snd _ e) h
  have WT:=(hL c hc).2;have TT:=(hL c hc).1;have QJ:=hq.bud;simp only[ajp]at QJ;generalize L[c]=l at*
  refine Wp.count (λs=>s.1) l.length (λk z=>RI (Dp s) (d:Int) n (λy=>y=(c:Int)) z.2.1 z.2.2/\(∀j,j<k->∀h:j<l.length,Sn z.2.1 l[j])/\2*z.2.1.count ag+z.2.2.length<=2*seen.count ag+t.length) (by omega) rfl ⟨⟨hq.len,λx hx=>hq.qo x (by simp[hx]),hq.snd,λx hx=>?_,by grind⟩,λj hj=>by omega,ajh _⟩ λk z hk uE hJ=>?_
  .rcases hq.clo x hx with h|h|h
   all_goals grind
  obtain⟨i,sn,qu⟩:=z;obtain⟨hR,hP,hB⟩:=hJ;dsimp only at uE hR hP hB;subst uE;simp only[W_,av,ax,reduceCtorEq,bf,aX];refine⟨λaG=>?_,λhge=>?_⟩
  .have aG:k<l.length:=by omega
   have hy:Dp s (c:Int) l[k]:=(WT _).1 (aje aG);have hyr:=hD _ _ hy;simp only[aF aG,cR (m:=l.length) (by omega) aG,W_,av,ax,reduceCtorEq]
   obtain⟨y,XS⟩:∃y,y=l[k]:=⟨_,rfl⟩
   simp only[<-XS]at hy hyr⊢
   have hyl:y.toNat<sn.length:=by rw[hR.len];omega
   refine eW.2 ⟨by rw[hR.len];omega,λhf=>eW.2 ⟨by grind,nS.2 ⟨?_,aG,?_⟩⟩,λht=>⟨aG,hR,eL hP λ_=>?_,hB⟩⟩
   .grind
   .have abQ:=Td (seen:=sn) (x:=y) ⟨hyr.1,hyl⟩
    have Pf:(b8 sn y af).count ag+1=sn.count ag:=by
     unfold b8;rw[List.count_set hyl]
     have h1:0<sn.count ag:=(by grind)
     simp[hf];omega
    refine⟨⟨by unfold b8;simp[hR.len],λx hx=>?_,λz hz=>?_,λx hx=>?_,?_⟩,eL (λj hj h=>?_) λh=>?_,?_⟩
    .rcases ajt.1 hx with hx|hx
     .obtain⟨a1,a2,a3⟩:=hR.qo x hx
      grind
     grind
    .rcases(abQ z).1 hz with rfl|hz
     .exact Qb _ hy
     .exact hR.snd z hz
    .have go:x=(d:Int)\/Sn sn x->x∈qu++[y]\/x=(c:Int)\/∀z,Dp s x z->Sn (b8 sn y af) z:=λg=>by
      rcases hR.clo x g with h|h|h
      all_goals grind
     grind
    .have:=hR.bud;simp;omega
    all_goals grind
   .rw[<-XS];exact⟨hyr.1,by grind⟩
  .obtain rfl:k=l.length:=by omega
   show zL _ _ _ _ (.inl _)
   refine⟨⟨hR.len,hR.qo,hR.snd,λx hx=>?_,hR.bud⟩,?_⟩
   .rcases hR.clo x hx with h|h|h
    all_goals grind [ajm]
   grind
 .have N9:q=[]:=by
   cases q with
   |nil=>rfl
   |cons x t=>simp at h0
  subst N9;refine .some ?_
  show Wp _ _
  have Ev:∀y,Sn seen y↔MJ (Dp s) (d:Int) y:=λy=>⟨hq.snd y,λh=>by
   have cl:∀x,(x=(d:Int)\/Sn seen x)->∀z,Dp s x z->Sn seen z:=λx hx=>by
    rcases hq.clo x hx with h|h|h
    all_goals grind
   induction h<;>grind⟩
  have gY:=hq.len
  refine Wp.count (λs=>s.1) seen.length (λk z=>z.2.length<=k/\∀y,y∈z.2↔Sn seen y/\y<(k:Int)) (by omega) rfl ⟨by simp,λy=>⟨λh=>(by cases h),λh=>(by have:=h.1.1;grind)⟩⟩ λk z hk uE hJ=>?_
  obtain⟨i,o⟩:=z;obtain⟨hJ1,hJ⟩:=hJ;dsimp only at uE hJ1 hJ;subst uE;simp only[W_,av,ax,reduceCtorEq,bf,aX];refine⟨λaG=>?_,λhge=>⟨by omega,λy=>?_⟩⟩
  .have aG:k<seen.length:=by omega
   have Iq:Sn seen (k:Int)↔seen[k]=af:=by
    unfold Sn;rw[ajg,ajb aG];simp
   simp only[aF aG,cR (m:=seen.length) (by omega) aG,W_,av,ax,reduceCtorEq]
   grind [nS]
  .rw[hJ,<-Ev];refine⟨λh=>h.1,λh=>⟨h,?_⟩⟩;have:=(ajr.1 h.2).1
   grind
def JG.all(x:iT)(hs:iG x):JG x:=λd hd=>by
 have key:Wp (M.dz aU x (d:Int)) λtr=>tr.length<=1000/\∀y,y∈tr↔MJ (Dp x) (d:Int) y:=by
  unfold M.dz;rw[ai (by simp),ai8,ai (by simp;omega),wp_bind]
  refine(nC x hs).mono λL hL=>?_
  rw[wp_bind]
  exact(sx x L hL d hd hs.2.2.1).mono λr hr=> .some hr
 obtain⟨tr,e,h1,h2⟩:=key
 grind [Ph]
def Bz(l:Lw)(hw:WF bG l)(eY:dG l):M.ik aU l=aa (Bo l):=
 DD l hw eY (λ_ _=>DC.all _) λx hx=>JG.all x (eY.2.2.2.2.2 x hx)
end L
namespace L
def Um(r:Ty)(d:Int):Prop:=VR r/\(r.1:Int)<=d/\d<(r.2:Int)
instance(r:Ty)(d:Int):Decidable (Um r d):=by unfold Um;infer_instance
theorem Te(r:Ty)(d:Int):M.cg aU r d=aa (decide (Um r d)):=by
 obtain⟨(r1:Int),(r2:Int)⟩:=r;apply Wp.eq;unfold M.cg;simp only[uG,W_,av,ax,reduceCtorEq];unfold Um
 grind
def BA{α:Type}{l:List α}{i:Int}(h0:0<=i)(h1:i<(l.length:Int)):∃x,idx l i=aa x/\x∈l:=by
 obtain⟨k,rfl⟩:=ajd h0
 have hk:k<l.length:=by omega
 exact⟨_,aF hk,aje hk⟩
def cC{α:Type}(l:List α)(i:Int)(y:α):(b8 l i y).length=l.length:=by unfold b8;simp
def ids(P:Nat->Bool)(k:Nat):List Int:=((ajY k).filter P).map λi:Nat=>(i:Int)
theorem xz(P:Nat->Bool)(k:Nat):ids P (k+1)=ids P k++(if P k=af then[(k:Int)]else[]):=by
 unfold ids;rw[List.range_succ,List.filter_append,List.map_append]
 grind
theorem BB{P:Nat->Bool}{k:Nat}{j:Int}:j∈ids P k↔∃i:Nat,i<k/\P i=af/\j=(i:Int):=by
 grind [ids]
def Hz(P:Nat->Bool)(k:Nat):(ids P k).length<=k:=by
 grind [ids]
def ix(l:List Int)(n:Int):Int:=fM (λx=>decide (x=n)) l
theorem Tf{l:List Int}{n:Int}:0<=ix l n↔n∈l:=by
 grind [ix,oy]
def DG(P:Nat->Bool)(n:Nat):∀m,∃t,ids P (n+m)=ids P n++t
 |0=>⟨[],by simp⟩
 |m+1=>by
  obtain⟨t,ht⟩:=DG P n m
  grind [xz]
theorem Tg{P:Nat->Bool}{n k:Nat}(hk:k<n)(h:P k=af):ix (ids P n) (k:Int)=((ids P k).length:Int):=by
 obtain⟨t,ht⟩:=DG P (k+1) (n-(k+1));rw[show k+1+(n-(k+1))=n by omega,xz,aj h,List.append_assoc]at ht;unfold ix
 refine Bp (k:=(ids P k).length) (by rw[ht];simp) ?_ λj hj Qe=>?_
 .grind
 grind [BB,aje]
def Ga(rules:List uz)(L:List Int):Nat->Nat->Int
 |0,_=> -1
 |f+1,i=>match rules[i]? with
  |none=> -1
  |some r=>if 0<=(r.2.2.1:Int)/\(r.2.2.1:Int)<(i:Int)then(if 0<=ix L r.2.2.1 then ix L r.2.2.1 else Ga rules L f (r.2.2.1:Int).toNat)else-1
def zX(rules:List uz)(L:List Int):∀f f' i,i<f->i<f'->Ga rules L f i=Ga rules L f' i
 |0,_,_,h,_=>absurd h (Nat.not_lt_zero _)
 |_+1,0,_,_,h=>absurd h (Nat.not_lt_zero _)
 |f+1,f'+1,i,h,h'=>by
  unfold Ga
  cases rules[i]? with
  |none=>rfl
  |some r=>
   dsimp only
   obtain⟨(p:Int),WU⟩:∃p:Int,p=r.2.2.1:=⟨_,rfl⟩
   simp only[<-WU];by_cases hp:0<=p/\p<(i:Int)
   .rw[aj hp,aj hp];by_cases h0:0<=ix L p
    .grind
    .rw[ai h0,ai h0];exact zX rules L f f' _ (by omega) (by omega)
   grind
def BC(rules:List uz)(L:List Int)(i:Nat):Int:=Ga rules L (i+1) i
def Pj{rules:List uz}{L:List Int}{i:Nat}(hi:i<rules.length):BC rules L i=if 0<=(rules[i].2.2.1:Int)/\(rules[i].2.2.1:Int)<(i:Int)then(if 0<=ix L rules[i].2.2.1 then ix L rules[i].2.2.1 else BC rules L (rules[i].2.2.1:Int).toNat)else-1:=by
 show Ga rules L (i+1) i=_
 unfold Ga;rw[ajb hi];dsimp only
 obtain⟨(p:Int),WU⟩:∃p:Int,p=rules[i].2.2.1:=⟨_,rfl⟩
 simp only[<-WU];by_cases hp:0<=p/\p<(i:Int)
 .rw[aj hp,aj hp];by_cases h0:0<=ix L p
  .grind
  .rw[ai h0,ai h0];exact zX rules L _ _ _ (by omega) (by omega)
 grind
def kp(rules:List uz)(Pr:uz->Bool)(i:Nat):Bool:=match rules[i]? with
 |some r=>Pr r
 |none=>ag
def WV{rules:List uz}{Pr:uz->Bool}{i:Nat}(h:i<rules.length):kp rules Pr i=Pr rules[i]:=by
 grind [kp]
def NO(a d:Int)(r:uz):Bool:=decide ((r.2.1:Int)=a/\Um r.2.2.2.2.1 d)
def yP(rules:List uz)(a d:Int):List Int:=ids (kp rules (NO a d)) rules.length
theorem Ti{r:uz}{a d:Int}{β:Type}{k:Bool->Option β}:(((if(decide (r.2.1=a))=af then(aa (decide (Um r.2.2.2.2.1 d)):Option Bool)else aa ag):Option Bool).bind k)=k (NO a d r):=by
 grind [NO]
def WW(a d:Int)(r:uz):M.fh aU r a d=aa (NO a d r,a,d):=by
 grind [M.fh,Te,Ti]
def rC(P:Nat->Bool)(n:Nat):List Nat:=(ajY n).filter P
def JL(P:Nat->Bool)(k:Nat):rC P (k+1)=rC P k++(if P k=af then[k]else[]):=lU k P
def DH(P:Nat->Bool)(k:Nat):(rC P k).length=(ids P k).length:=by unfold ids rC;simp
def zY(rules:List uz)(a d:Int):List Int:=(rC (kp rules (NO a d)) rules.length).map (BC rules (yP rules a d))
def HA(rules:List uz)(a d:Int):List Int:=(rC (kp rules (NO a d)) rules.length).map λi=>match rules[i]? with
 |some r=>r.2.2.2.1
 |none=>0
def ML{rules:List uz}{a d:Int}(hl:rules.length<=100000):M.fi aU rules a d=aa (a,d,yP rules a d,zY rules a d):=by
 unfold M.fi;refine Wp.eq (wp_bind.2 (sq.2 ⟨by omega,?_⟩));rw[ajg]
 obtain⟨P,hP⟩:∃P,P=kp rules (NO a d):=⟨_,rfl⟩
 obtain⟨L,hL⟩:∃L,L=yP rules a d:=⟨_,rfl⟩
 have hLd:L=ids P rules.length:=by rw[hL,hP];rfl
 refine Wp.count (λs=>s.1) rules.length (λk s=>s.2.1=a/\s.2.2.1=d/\s.2.2.2.1.length=rules.length/\(∀i:Nat,∀h:i<s.2.2.2.1.length,i<k->s.2.2.2.1[i]=if P i=af then ix L i else BC rules L i)/\s.2.2.2.2.1=ids P k/\s.2.2.2.2.2=(rC P k).map (BC rules L)) (by omega) rfl ⟨rfl,rfl,by simp,λi _ hi=>absurd hi (by omega),rfl,rfl⟩ λk s hk hs hJ=>?_
 obtain⟨i,a',d',Tj,li,pa⟩:=s;obtain⟨j1,j2,j3,j4,j5,j6⟩:=hJ;dsimp only at hs j1 j2 j3 j4 j5 j6;subst hs j1 j2 j5 j6
 refine Wp.dec (λaG=>?_) λhge=>?_
 .have aG:k<rules.length:=by dsimp only at aG;omega
  have Pk:=Hz P k;have B3:=DH P k;dsimp only
  refine Wp.seq (λj=>j.1=a'/\j.2.1=d'/\j.2.2.1.length=rules.length/\(∀i:Nat,∀h:i<j.2.2.1.length,i<k+1->j.2.2.1[i]=if P i=af then ix L i else BC rules L i)/\j.2.2.2.1=ids P (k+1)/\j.2.2.2.2=(rC P (k+1)).map (BC rules L)) ?_ λj hj=> .some ⟨aG,cR (m:=rules.length) (by omega) aG,hj⟩
  rw[aF aG,ai8]
  obtain⟨(p:Int),WU⟩:∃p:Int,p=rules[k].2.2.1:=⟨_,rfl⟩
  refine Wp.seq (λv=>v=BC rules L k) ?_ λv hv=>?_
  .rw[Pj aG,<-WU]
   refine Wp.seq (λj=>j=decide (0<=p/\p<(k:Int))) ?_ λj hj=>?_
   .refine Wp.dec (λh=> .some ?_) λh=> .some ?_
    all_goals grind
   .subst hj
    refine Wp.dec (λh=>?_) λh=> .some ?_
    .obtain⟨q,rfl⟩:=ajd h.1
     have hq:q<k:=by omega
     have hql:q<Tj.length:=by omega
     rw[aF hql,ai8];refine .some ?_
     grind [Tf,BB]
    grind
  .subst hv;rw[aF (show k<Tj.length by omega),ai8,WW,ai8,xz,JL]
   have hPk:P k=NO a' d' rules[k]:=by rw[hP];exact WV aG
   rw[hPk];dsimp only;by_cases hp:NO a' d' rules[k]=af
   .rw[aj hp,aj hp,aj hp,aF (show k<(b8 Tj (k:Int) (BC rules L k)).length by rw[cC];omega),ai8,fU (by simp;omega),ai8,fU (by simp;omega),ai8];refine .some ⟨rfl,rfl,by rw[cC,cC];exact j3,λi h hi=>?_,rfl,by simp⟩
    grind [b8,Tg]
   .rw[ai hp,ai hp,ai hp];refine .some ⟨rfl,rfl,by rw[cC];exact j3,λi h hi=>?_,by simp,by simp⟩
    grind [b8]
 .have hge:k=rules.length:=by dsimp only at hge;omega
  refine .some ?_;subst hge
  show _=_
  grind [zY]
def JM(x:iT)(a d:Int)(hl:x.2.2.2.2.length<=100000):M.jR aU x a d=aa (yP x.2.2.2.2 a d,zY x.2.2.2.2 a d,HA x.2.2.2.2 a d):=by
 unfold M.jR;rw[ML hl,ai8]
 obtain⟨rules,hr⟩:∃r:List uz,r=x.2.2.2.2:=⟨_,rfl⟩
 rw[<-hr]at hl⊢
 obtain⟨P,hP⟩:∃P,P=kp rules (NO a d):=⟨_,rfl⟩
 have hi:yP rules a d=(rC P rules.length).map λi:Nat=>(i:Int):=by rw[hP];rfl
 have hNl:(rC P rules.length).length<=rules.length:=by unfold rC;exact(by grind)
 refine Wp.eq (Wp.seq (λj=>j=HA rules a d) ?_ λj hj=> .some (by rw[hj]));unfold HA;dsimp only;rw[hi,<-hP]
 have JN:∀i∈rC P rules.length,i<rules.length:=λi hi=>List.mem_range.1 (List.mem_filter.1 hi).1
 refine Wp.count (λs=>s.1) (rC P rules.length).length (λk s=>s.2=((rC P rules.length).take k).map λi=>match rules[i]? with
  |some r=>r.2.2.2.1
  |none=>0) (by omega) rfl rfl λk s hk hs hJ=>?_
 obtain⟨kk,l⟩:=s;dsimp only at hs hJ⊢;subst hs hJ;rw[List.length_map]
 refine Wp.dec (λaG=>?_) λhge=>?_
 .have aG:k<(rC P rules.length).length:=by omega
  have hb:=JN _ (aje aG);refine .bind (.idx k rfl (by simpa using aG) ?_);rw[List.getElem_map,aF hb,ai8];refine .bind (.app (by simp;omega) (.some ⟨aG,aS (by omega),?_⟩))
  grind [ajk]
 .have:k=(rC P rules.length).length:=by omega
  subst this;refine .some ?_
  show _=_
  grind
end L
namespace L
def Pl(n:Nat)(v:Int):Prop:=v= -1\/v= -2\/0<=v/\v<(n:Int)
def DI(p:List Int)(i:Int)(hl:p.length<=8):Wp (M.jk aU p i) λr=>r.length<=p.length/\∀x∈r,(0:Int)<=x/\x<(p.length:Int):=by
 unfold M.jk
 refine Wp.count (λs=>s.1) p.length (λk s=>s.2.length<=k/\∀x∈s.2,(0:Int)<=x/\x<(p.length:Int)) (by omega) rfl (by grind) λk s hk hs hJ=>?_
 obtain⟨c,l⟩:=s;obtain⟨j1,j2⟩:=hJ;dsimp only at hs j1 j2;subst hs
 refine Wp.dec (λaG=>?_) λhge=> .some ⟨by grind,j2⟩
 have aG:k<p.length:=by dsimp only at aG;omega
 dsimp only
 refine Wp.seq (λj=>j.length<=k+1/\∀x∈j,(0:Int)<=x/\x<(p.length:Int)) ?_ λj hj=> .some ⟨aG,cR (m:=p.length) (by omega) aG,hj⟩
 rw[aF aG,ai8]
 refine Wp.dec (λ_=>?_) λ_=> .some ⟨by omega,j2⟩
 rw[fU (by simp;omega),ai8];refine .some ⟨by simp;omega,λx hx=>?_⟩
 grind
def Pm{p q r:List Int}(i:Int)(hl:p.length<=8)(hq:q.length=p.length)(hr:r.length=p.length):Wp (M.iy aU (p,(q,r)) i) λb=>∀x∈b,(0:Int)<=x/\x<(p.length:Int):=by
 unfold M.iy
 refine Wp.seq _ (DI p i hl) λy hy=>?_
 obtain⟨y1,y2⟩:=hy
 refine Wp.count (λs=>s.1) y.length (λk s=>s.2.length<=k/\∀x∈s.2,(0:Int)<=x/\x<(p.length:Int)) (by omega) rfl (by grind) λk s hk hs hJ=>?_
 obtain⟨c,l⟩:=s;obtain⟨j1,j2⟩:=hJ;dsimp only at hs j1 j2;subst hs
 refine Wp.dec (λaG=>?_) λhge=> .some j2
 have aG:k<y.length:=by dsimp only at aG;omega
 dsimp only
 refine Wp.seq (λj=>j.length<=k+1/\∀x∈j,(0:Int)<=x/\x<(p.length:Int)) ?_ λj hj=> .some ⟨aG,cR (m:=y.length) (by omega) aG,hj⟩
 have hv:=y2 _ (aje aG);rw[aF aG,ai8];generalize y[k]=v at hv⊢
 have at_:∀{l:List Int}{u:Int},l.length=p.length->(0:Int)<=u/\u<(p.length:Int)->∃z,idx l u=aa z:=λ{l u}h h'=>by
  obtain⟨z,hz,_⟩:=BA (l:=l) (i:=u) h'.1 (by omega)
  grind
 obtain⟨z1,e1⟩:=at_ hr hv;obtain⟨z2,e2⟩:=at_ hq hv
 have hd:∀{l:List Int},0<l.length->(∀x∈l,(0:Int)<=x/\x<(p.length:Int))->∃u z,idx l (0:Int)=aa u/\idx q u=aa z:=λ{l}h h'=>by
  obtain⟨u,hu,hm⟩:=BA (l:=l) (i:=0) (aj1 _) (by omega)
  grind
 rw[e1,ai8]
 refine Wp.dec (λ_=> .some ⟨by omega,j2⟩) λ_=>?_
 refine Wp.seq (λj=>j.length<=k/\∀x∈j,(0:Int)<=x/\x<(p.length:Int)) ?_ λl6 h6=>?_
 .refine Wp.seq (λ_=>True) ?_ λj7 _=>?_
  .refine Wp.dec (λh=>?_) λ_=> .some trivial
   obtain⟨u,z,hu,hz⟩:=hd (l:=l) (by omega) j2;rw[e2,ai8,hu,ai8,hz];exact .some trivial
  .refine Wp.ite (λ_=>?_) λ_=> .some ⟨j1,j2⟩
   rw[rn (l:=l) (i:=0) (j:=0) 0 0 rfl rfl (ajh _) (ajB _),ai8];exact .some ⟨by simp,by simp⟩
 .obtain⟨g1,g2⟩:=h6
  refine Wp.seq (λ_=>True) ?_ λj12 _=>?_
  .refine Wp.dec (λ_=> .some trivial) λh=>?_
   obtain⟨u,z,hu,hz⟩:=hd (l:=l6) (by omega) g2;rw[e2,ai8,hu,ai8,hz];exact .some trivial
  .refine Wp.ite (λ_=>?_) λ_=> .some ⟨by omega,g2⟩
   rw[fU (by simp;omega),ai8];refine .some ⟨by simp;omega,λx hx=>?_⟩
   grind
theorem HB{p q r:List Int}(i:Int)(hl:p.length<=8)(hq:q.length=p.length)(hr:r.length=p.length)(hp:∀x∈r,Pl p.length x):Wp (M.dq aU (p,(q,r)) i) (Pl p.length):=by
 unfold M.dq
 refine Wp.seq _ (Pm i hl hq hr) λb hb=>?_
 refine Wp.dec (λ_=> .some (.inl rfl)) λh0=>?_
 refine Wp.dec (λh1=>?_) λ_=> .some (.inr (.inl rfl))
 obtain⟨u,hu,hm⟩:=BA (l:=b) (i:=0) (aj1 _) (by omega);have:=hb u hm;obtain⟨z,hz,hzm⟩:=BA (l:=r) (i:=u) this.1 (by omega);rw[hu,ai8];dsimp only;rw[hz,ai8];exact .some (hp z hzm)
theorem DJ{α:Type}{l:List α}{i:Int}{y x:α}(h:x∈b8 l i y):x∈l\/x=y:=by
 grind [b8]
theorem Pn{p q:List Int}{a:List Bool}(hl:p.length<=8)(hq:q.length=p.length)(ha:a.length=p.length):Wp (M.jm aU p q a) λr=>r.length=p.length/\∀x∈r,Pl p.length x:=by
 unfold M.jm;rw[wp_bind];refine sq.2 ⟨by omega,?_⟩;rw[ajg]
 have hw:∀n:Nat,n<=8->ai9.wrap ((n:Int)-1)=(n:Int)-1:=λn h=>aW (by omega) (by omega)
 refine Wp.loop (λs=>(∃k:Nat,s.1=(k:Int)-1/\k<=p.length)/\s.2.length=p.length/\∀x∈s.2,Pl p.length x) (λs=>(s.1+1).toNat) ⟨⟨p.length,hw _ hl,ajh _⟩,by simp,λx hx=>?_⟩ ?_ ?_
 .rw[List.mem_replicate]at hx;exact .inr (.inr ⟨by omega,by omega⟩)
 .grind [aU]
 .rintro⟨c,l⟩ ⟨⟨k,hk,Pk⟩,j1,j2⟩
  dsimp only at hk j1 j2;subst hk
  refine Wp.dec (λaG=>?_) λhge=> .some ⟨j1,j2⟩
  obtain⟨m,rfl⟩:∃m,k=m+1:=⟨k-1,by grind⟩
  have hm:(((m+1:Nat):Int)-1)=(m:Int):=by omega
  rw[hm]
  have Rb:m<p.length:=by omega
  dsimp only
  refine Wp.seq (λj=>j.length=p.length/\∀x∈j,Pl p.length x) ?_ λj hj=> .some ⟨⟨⟨m,by rw[hw _ (by omega)],by omega⟩,hj⟩,by grind⟩
  refine Wp.seq _ (HB (m:Int) hl hq j1 j2) λv hv=>?_
  have s1:(b8 l (m:Int) v).length=p.length:=by rw[cC];exact j1
  have s2:∀x∈b8 l (m:Int) v,Pl p.length x:=λx hx=>by
   grind [DJ]
  rw[aF (show m<l.length by omega),ai8]
  refine Wp.seq (λ_=>True) ?_ λj6 _=>?_
  .rw[aF (by grind),ai8]
   refine Wp.dec (λ_=>?_) λ_=> .some trivial
   rw[aF (show m<a.length by omega),ai8];exact .some trivial
  .refine Wp.ite (λ_=>?_) λ_=> .some ⟨s1,s2⟩
   rw[aF (by grind),ai8];refine .some ⟨by rw[cC];exact s1,λx hx=>?_⟩
   rcases DJ hx with h|rfl
   .exact s2 x h
   .exact .inr (.inr ⟨by omega,by omega⟩)
def JO(p q:List Int)(a:List Bool)(hp:p.length<=100000):Wp (M.kO aU p q a) (Pl p.length):=by
 unfold M.kO
 have hV:Wp (M.ji aU p q) λc=>c=0->p.length<=8/\q.length=p.length:=by
  unfold M.ji
  refine Wp.eC (λ_=> .some λh=>by cases h) λh1=>?_
  refine Wp.dec (λ_=> .some λh=>by cases h) λh2=>?_
  have hq:q.length=p.length:=by omega
  refine Wp.count (λs=>s) p.length (λ_ _=>True) (by omega) rfl trivial λk s hk hs _=>?_
  obtain rfl:s=_:=hs
  refine Wp.dec (λaG=>?_) λhge=> .some λ_=>⟨by omega,hq⟩
  have aG:k<p.length:=by omega
  rw[aF aG,ai8]
  refine Wp.seq (λ_=>True) (Wp.dec (λ_=> .some trivial) λ_=> .some trivial) λj3 _=>?_
  refine Wp.ite (λ_=> .some λh=>by cases h) λ_=>?_
  refine Wp.seq (λ_=>True) ?_ λj4 _=>?_
  .rw[aF (show k<q.length by omega),ai8]
   exact Wp.dec (λ_=> .some trivial) λ_=> .some trivial
  .exact Wp.ite (λ_=> .some λh=>by cases h) λ_=> .some ⟨aG,cR (m:=p.length) (by omega) aG,trivial⟩
 refine Wp.seq (λj=>j=ag->p.length<=8/\q.length=p.length/\a.length=p.length) ?_ λj hj=>?_
 .refine Wp.seq _ hV λc hc=>?_
  refine Wp.eC (λ_=> .some λh=>by cases h) λh=> .some λg=>?_
  grind
 .cases j with
  |true=>rw[aj rfl];exact .some (.inl rfl)
  |false=>
   grind [Wp.seq,Pn,HB]
end L
namespace L
def kR(l:List Int)(i:Nat):Int:=l.getD i 0
def par(i:Nat):Nat:=(i-1)/2
def sy(l:List Int)(n:Nat):Prop:=∀k,0<k->k<n->kR l (par k)<=kR l k
def swp(l:List Int)(i j:Nat):List Int:=(l.set i (kR l j)).set j (kR l i)
def qC{l:List Int}{i:Nat}(h:i<l.length):kR l i=l[i]:=by unfold kR;simp[h]
def HC(l:List Int)(i k:Nat)(v:Int)(h:i<l.length):kR (l.set i v) k=if k=i then v else kR l k:=by
 unfold kR;rw[List.getD_eq_getElem?_getD,List.getD_eq_getElem?_getD,List.getElem?_set];by_cases e:k=i
 .rw[aj e.symm,aj h,aj e];rfl
 .rw[ai (λg=>e g.symm),ai e]
def rr(l:List Int)(i j:Nat):(swp l i j).length=l.length:=by unfold swp;simp
def oM(l:List Int)(i j k:Nat)(hi:i<l.length)(hj:j<l.length):kR (swp l i j) k=if k=j then kR l i else if k=i then kR l j else kR l k:=by
 unfold swp;rw[HC _ _ _ _ (by simpa using hj),HC _ _ _ _ hi]
def xA(l:List Int)(i j:Nat)(hi:i<l.length)(hj:j<l.length):(swp l i j).Perm l:=by
 rw[List.perm_iff_count];intro x;unfold swp;rw[List.count_set (by simpa using hj),List.count_set hi,qC hi,qC hj,List.getElem_set]
 have h1:(if(l[i]==x)=af then 1 else 0)<=l.count x:=by
  split
  .rename_i h;exact List.count_pos_iff.2 (by rw[beq_iff_eq]at h;rw[<-h];exact aje hi)
  .exact ajB _
 by_cases e:i=j
 .subst e;simp only[if_true];omega
 .rw[ai e];omega
def swap_eq(l:List Int)(i j:Nat)(hi:i<l.length)(hj:j<l.length):M.cV aU (i:Int) (j:Int) l=aa (swp l i j):=by
 unfold M.cV;simp only[aF hi,aF hj,ai8];rw[aF (show j<(b8 l (i:Int) l[j]).length by unfold b8;simpa using hj),ai8];unfold swp b8;rw[qC hi,qC hj,ajg,ajg]
def BD(l:List Int)(i j:Nat)(hi:i<l.length)(hj:j<l.length):M.dR aU l (i:Int) (j:Int)=aa (decide (kR l i<kR l j)):=by
 unfold M.dR;rw[aF hi,aF hj,qC hi,qC hj];rfl
def Tl(l:List Int)(j:Nat):Prop:=(∀k,0<k->k<l.length->k≠j->kR l (par k)<=kR l k)/\(0<j->∀k,0<k->k<l.length->par k=j->kR l (par j)<=kR l k)
def mv{k:Nat}(h:0<k):par k<k:=by unfold par;omega
def Tl.done{l:List Int}{i:Nat}(h:Tl l i)(hi:i=0\/kR l (par i)<=kR l i):sy l l.length:=λk h0 hk=>by
 by_cases e:k=i
 .subst e
  rcases hi with hi|hi
  .omega
  .exact hi
 .exact h.1 k h0 hk e
def Tl.step{l:List Int}{i:Nat}(h:Tl l i)(h0:0<i)(hi:i<l.length)(aG:kR l i<kR l (par i)):Tl (swp l (par i) i) (par i):=by
 have hp:=mv h0
 have BY:par i<l.length:=by omega
 obtain⟨h1,h2⟩:=h;have h2:=h2 h0;refine⟨λk k0 hk dw=>?_,λp0 k k0 hk vU=>?_⟩
 .rw[rr]at hk;rw[oM _ _ _ _ BY hi,oM _ _ _ _ BY hi];have vU:=mv k0;by_cases e:k=i
  .subst e;rw[ai (by omega),aj rfl,aj rfl];omega
  .rw[ai e,ai dw];by_cases e2:par k=i
   .rw[aj e2];exact h2 k k0 hk e2
   .rw[ai e2];by_cases e3:par k=par i
    .rw[aj e3];have:=h1 k k0 hk e;rw[e3]at this;omega
    .rw[ai e3];exact h1 k k0 hk e
 .rw[rr]at hk;rw[oM _ _ _ _ BY hi,oM _ _ _ _ BY hi];have hpp:=mv p0;have Zj:=h1 (par i) p0 BY (by omega);rw[ai (by omega),ai (by omega)];by_cases e:k=i
  .subst e;rw[aj rfl];exact Zj
  .have hkp:k≠par i:=λe2=>by
    rw[e2]at vU;omega
   rw[ai e,ai hkp];have:=h1 k k0 hk e;rw[vU]at this;omega
def Tm{i:Nat}(h0:0<i)(hi:i<=1000000):ai9.wrap (ajl (ai9.wrap ((i:Int)-(1:Int))) (2:Int))=((par i:Nat):Int):=by
 rw[aW (n:=(i:Int)-1) (by omega) (by omega),Int.tdiv_eq_ediv_of_nonneg (by omega)];unfold par;rw[aW (by omega) (by omega)];omega
def WX(l:List Int)(j:Nat)(hj:j<l.length)(hl:l.length<=1000000)(hU:Tl l j):Wp (M.gi aU (j:Int) l) λr=>r.Perm l/\sy r r.length:=by
 unfold M.gi
 refine Wp.loop (λs=>∃i:Nat,s.1=(i:Int)/\i<s.2.length/\s.2.Perm l/\Tl s.2 i) (λs=>s.1.toNat) ⟨j,rfl,hj, .refl l,hU⟩ (by show(j:Int).toNat<aU;unfold aU;omega) λs hs=>?_
 obtain⟨c,q⟩:=s;obtain⟨i,hc,hi,hp,hu⟩:=hs;dsimp only at hc hi hp hu;subst hc;have hlen:=hp.length_eq;dsimp only;by_cases h0:i=0
 .subst h0
  have e:ai9.wrap (ajl (ai9.wrap (((0:Nat):Int)-(1:Int))) (2:Int))=((0:Nat):Int):=by decide
  rw[e,aj (aq rfl),ai8,aj rfl];exact .some ⟨hp,hu.done (.inl rfl)⟩
 .have BY:=mv (show 0<i by omega);rw[Tm (by omega) (by omega),ai (by rw[az];omega),BD _ _ _ hi (by omega),ai8,ai8];by_cases aG:kR q i<kR q (par i)
  .rw[ai (by simpa using aG),swap_eq _ _ _ (by omega) hi,ai8];refine .some ⟨⟨par i,rfl,by show par i<(swp q (par i) i).length;rw[rr];omega,(xA q _ _ (by omega) hi).trans hp,hu.step (by omega) hi aG⟩,?_⟩
   show((par i:Nat):Int).toNat<((i:Nat):Int).toNat
   omega
  .rw[aj (by simpa using aG)];exact .some ⟨hp,hu.done (.inr (by omega))⟩
def QK(l:List Int)(i n:Nat):Prop:=(∀k,0<k->k<n->par k≠i->kR l (par k)<=kR l k)/\(0<i->∀k,0<k->k<n->par k=i->kR l (par i)<=kR l k)
def QK.done{l:List Int}{i n:Nat}(h:QK l i n)(hi:∀k,0<k->k<n->par k=i->kR l i<=kR l k):sy l n:=λk h0 hk=>by
 by_cases e:par k=i
 .rw[e];exact hi k h0 hk e
 .exact h.1 k h0 hk e
def QK.step{l:List Int}{i j n:Nat}(h:QK l i n)(Yd:0<j)(hjn:j<n)(hn:n<=l.length)(WY:par j=i)(aG:kR l j<kR l i)(JP:∀k,0<k->k<n->par k=i->kR l j<=kR l k):QK (swp l i j) j n:=by
 have hp:=mv Yd
 have xm:i<l.length:=by omega
 have EX:j<l.length:=by omega
 obtain⟨h1,h2⟩:=h;refine⟨λk k0 hk dw=>?_,λ_ k k0 hk vU=>?_⟩
 .rw[oM _ _ _ _ xm EX,oM _ _ _ _ xm EX,ai dw];by_cases e:k=j
  .subst e;rw[aj WY,aj rfl];omega
  .rw[ai e];by_cases e2:k=i
   .subst e2;have vU:=mv k0;rw[ai (by omega),aj rfl];exact h2 k0 j Yd hjn WY
   .rw[ai e2];by_cases e3:par k=i
    .rw[aj e3];exact JP k k0 hk e3
    .rw[ai e3];exact h1 k k0 hk e3
 .have hkp:=mv k0;rw[oM _ _ _ _ xm EX,oM _ _ _ _ xm EX,WY,ai (by omega),aj rfl,ai (by omega),ai (by omega)];have:=h1 k k0 hk (by omega);rw[vU]at this;exact this
def Po(l:List Int)(n:Nat)(hn:n<=l.length)(hl:l.length<=1000000)(hD:QK l 0 n):Wp (M.fg aU (0:Int) (n:Int) l) λr=>r.2.Perm l/\sy r.2 n/\∀k,n<=k->kR r.2 k=kR l k:=by
 unfold M.fg;rw[wp_bind]
 refine(?_:Wp _ λr=>r.2.Perm l/\sy r.2 n/\∀k,n<=k->kR r.2 k=kR l k).mono λr hr=> .some hr
 refine Wp.loop (λs=>∃i:Nat,s.1=(i:Int)/\i<=n/\s.2.Perm l/\QK s.2 i n/\∀k,n<=k->kR s.2 k=kR l k) (λs=>n-s.1.toNat) ⟨0,rfl,ajB _, .refl l,hD,λ_ _=>rfl⟩ (by show n-_<aU;unfold aU;omega) λs hs=>?_
 obtain⟨c,q⟩:=s;obtain⟨i,hc,hi,hp,hu,hk⟩:=hs;dsimp only at hc hi hp hu hk;subst hc;have hlen:=hp.length_eq;dsimp only
 have e1:ai9.wrap (ai9.wrap ((2:Int)*(i:Int))+(1:Int))=((2*i+1:Nat):Int):=by
  rw[aW (n:=(2:Int)*(i:Int)) (by omega) (by omega),aW (by omega) (by omega)];omega
 have e2:ai9.wrap (((2*i+1:Nat):Int)+(1:Int))=((2*i+2:Nat):Int):=by
  rw[aW (by omega) (by omega)];omega
 rw[e1,e2];by_cases h1:n<=2*i+1
 .rw[aj (by rw[az];omega),ai8,aj rfl];exact .some ⟨hp,hu.done λk k0 B3 vU=>by unfold par at vU;omega,hk⟩
 rw[ai (by rw[az];omega),ai8,ai (by rw[az];omega)]
 have key:∀j:Nat,0<j->j<n->par j=i->(∀k,0<k->k<n->par k=i->kR q j<=kR q k)->Wp ((M.dR aU q (j:Int) (i:Int)).bind λy7=>
  (if(!y7)=af then
  some (Sum.inr ((i:Int),q))
  else
  (M.cV aU (i:Int) (j:Int) q).bind λy8=>
  some (Sum.inl ((j:Int),y8)))) (zL (λs:Int×List Int=>∃i:Nat,s.1=(i:Int)/\i<=n/\s.2.Perm l/\QK s.2 i n/\∀k,n<=k->kR s.2 k=kR l k) (λs=>n-s.1.toNat) ((i:Int),q) λr:Int×List Int=>r.2.Perm l/\sy r.2 n/\∀k,n<=k->kR r.2 k=kR l k):=λj j0 hj WY JP=>by
  have:=mv j0;rw[BD _ _ _ (by omega) (by omega),ai8];by_cases aG:kR q j<kR q i
  .rw[ai (by simpa using aG),swap_eq _ _ _ (by omega) (by omega),ai8];refine .some ⟨⟨j,rfl,by omega,(xA q _ _ (by omega) (by omega)).trans hp,hu.step j0 hj (by omega) WY aG JP,λk B3=>?_⟩,?_⟩
   .show kR (swp q i j) k=kR l k
    rw[oM _ _ _ _ (by omega) (by omega),ai (by omega),ai (by omega)];exact hk k B3
   .show n-((j:Nat):Int).toNat<n-((i:Nat):Int).toNat
    omega
  .rw[aj (by simpa using aG)];exact .some ⟨hp,hu.done λk k0 B3 vU=>by have:=JP k k0 B3 vU;omega,hk⟩
 have kids:∀k,0<k->k<n->par k=i->k=2*i+1\/k=2*i+2:=λk k0 _ vU=>by unfold par at vU;omega
 by_cases h2:2*i+2<n
 .rw[aj (by rw[az];omega),BD _ _ _ (by omega) (by omega),ai8,ai8];by_cases aG:kR q (2*i+2)<kR q (2*i+1)
  .rw[aj (by simpa using aG),ai8]
   exact key _ (by omega) h2 (by unfold par;omega) λk k0 B3 vU=>by rcases kids k k0 B3 vU with rfl|rfl<;>omega
  .rw[ai (by simpa using aG),ai8]
   exact key _ (by omega) (by omega) (by unfold par;omega) λk k0 B3 vU=>by rcases kids k k0 B3 vU with rfl|rfl<;>omega
 .rw[ai (by rw[az];omega),ai8,ai (by decide),ai8]
  exact key _ (by omega) (by omega) (by unfold par;omega) λk k0 B3 vU=>by
   rcases kids k k0 B3 vU with rfl|rfl
   .exact aj1 _
   .omega
def HD(x:Int)(l:List Int)(hl:l.length<=999999)(hH:sy l l.length):Wp (M.cZ aU x l) λr=>r.Perm (x::l)/\sy r r.length:=by
 unfold M.cZ M.jG M.ey;rw[fU (by simp;omega)];simp only[ai8]
 have e:ai9.wrap (((l++[x]).length:Int)-(1:Int))=((l.length:Nat):Int):=by
  rw[aW (by simp) (by simp;omega)];simp
 rw[e,wp_bind]
 have mc:∀k,k<l.length->kR (l++[x]) k=kR l k:=λk hk=>by unfold kR;simp[List.getElem?_append_left hk]
 refine(WX (l++[x]) l.length (by simp) (by simp;omega) ⟨λk k0 hk dw=>?_,λh0 k k0 hk vU=>?_⟩).mono λr hr=> .some ⟨hr.1.trans (List.perm_append_singleton x l),hr.2⟩
 .have iU:k<l.length:=by simp at hk;omega
  have:=mv k0;rw[mc _ iU,mc _ (by omega)];exact hH k k0 iU
 .have:=mv k0;simp at hk;omega
def sy.min{l:List Int}{n:Nat}(h:sy l n):∀k,k<n->kR l 0<=kR l k:=λk=>by
 induction k using Nat.strongRecOn with
 |_ k ih=>
  intro hk;by_cases h0:k=0
  .subst h0;exact aj1 _
  .have hp:=mv (show 0<k by omega);have:=ih (par k) hp (by omega);have:=h k (by omega) hk;omega
def Tn(l:List Int)(h0:0<l.length)(hl:l.length<=1000000)(hH:sy l l.length):Wp (M.fG aU l) λr=>l.Perm (r.1::r.2)/\sy r.2 r.2.length/\∀y∈r.2,r.1<=y:=by
 unfold M.fG M.ey
 obtain⟨n,hn⟩:∃n,l.length=n+1:=⟨l.length-1,by omega⟩
 have e:ai9.wrap ((l.length:Int)-(1:Int))=((n:Nat):Int):=by rw[aW (by omega) (by omega)];omega
 rw[ai8,e];have sw:=swap_eq l 0 n (by omega) (by omega);rw[show((0:Nat):Int)=(0:Int)from rfl]at sw;rw[sw,ai8,wp_bind]
 have hs:=λk=>oM l 0 n k (by omega) (by omega)
 refine(Po (swp l 0 n) n (by rw[rr];omega) (by rw[rr];omega) ⟨λk k0 hk dw=>?_,λh=>by omega⟩).mono λr hr=>?_
 .have:=mv k0;rw[hs,hs,ai (by omega),ai dw,ai (by omega),ai (by omega)];exact hH k k0 (by omega)
 .obtain⟨b,q⟩:=r;obtain⟨h1,h2,h3⟩:=hr;dsimp only at h1 h2 h3⊢
  have hq:q.length=n+1:=by rw[h1.length_eq,rr];exact hn
  have e2:ai9.wrap ((q.length:Int)-(1:Int))=((n:Nat):Int):=by rw[aW (by omega) (by omega)];omega
  have hqn:q[n]'(by omega)=kR l 0:=by
   rw[<-qC (l:=q) (by omega),h3 n (ajh _),hs];by_cases e0:n=0
   .rw[aj rfl]
   .rw[aj rfl]
  unfold M.mq;rw[e2,aF (by omega),ai8,rp (by omega),ai8,ai8]
  have DK:l.Perm (q[n]'(by omega)::q.take n):=by
   have e3:q=q.take n++[q[n]'(by omega)]:=by
    rw[ajk (by omega),<-hq,ajn]
   refine((xA l 0 n (by omega) (by omega)).symm.trans h1.symm).trans ?_;have:(q.take n++[q[n]'(by omega)]).Perm (q[n]'(by omega)::q.take n):=List.perm_append_singleton _ _;rw[<-e3]at this;exact this
  refine .some ⟨DK,λk k0 hk=>?_,λy hy=>?_⟩
  .have ht:(q.take n).length=n:=by rw[ajO];omega
   have hk:k<n:=by rw[<-ht];exact hk
   have vU:=mv k0
   have tk:∀i,i<n->kR (q.take n) i=kR q i:=λi hi=>by unfold kR;simp[ake,hi]
   show kR (q.take n) (par k)<=kR (q.take n) k
   rw[tk _ hk,tk _ (by omega)];exact h2 k k0 hk
  .show q[n]'(by omega)<=y
   rw[hqn];have:y∈l:=DK.symm.subset (List.mem_cons_of_mem _ hy);obtain⟨k,hk,rfl⟩:=ajm this;rw[<-qC hk];exact hH.min k hk
end L
namespace L
def NP(s:iT)(p:List Int)(d:Int):Prop:=(0<=d/\d<(s.2.2.2.1.length:Int))/\d∉p/\∀y,Dp s d y->y∈p
def uI(s:iT)(o:List Int):Prop:=∀k,∀h:k<o.length,NP s (o.take k) o[k]/\∀d,NP s (o.take k) d->o[k]<=d
def uI.snoc{s:iT}{o:List Int}{x:Int}(h:uI s o)(hx:NP s o x)(hm:∀d,NP s o d->x<=d):uI s (o++[x]):=λk hk=>by
 by_cases e:k<o.length
 .have:=h k e
  grind
 grind
def uI.mem{s:iT}{o:List Int}(h:uI s o){x:Int}(hx:x∈o):(0<=x/\x<(s.2.2.2.1.length:Int))/\∀y,Dp s x y->y∈o:=by
 obtain⟨k,hk,rfl⟩:=ajm hx;obtain⟨h1,_⟩:=h k hk;exact⟨h1.1,λy hy=>List.mem_of_mem_take (h1.2.2 y hy)⟩
def uI.nodup{s:iT}{o:List Int}(h:uI s o):o.Nodup:=by
 rw[List.nodup_iff_pairwise_ne,List.pairwise_iff_getElem];intro i j hi hj T6 e;refine(h j hj).1.2.1 ?_
 grind [List.mem_take_iff_getElem]
def vZ{n:Nat}{l:List Int}(hn:l.Nodup)(h:∀x∈l,0<=x/\x<(n:Int)):l.length<=n:=by
 have:=zU (m:=(ajY n).map λk:Nat=>(k:Int)) hn λy hy=>by
  obtain⟨a,b⟩:=h y hy;exact List.mem_map.2 ⟨y.toNat,List.mem_range.2 (by omega),by omega⟩
 grind
theorem uI.len{s:iT}{o:List Int}(h:uI s o):o.length<=s.2.2.2.1.length:=vZ h.nodup λx hx=>(h.mem hx).1
def QL{α:Type}{l:List α}{i:Int}(h:0<=i):idx l i=l[i.toNat]? :=by unfold idx;rw[aj h]
def DL{α:Type}(l:List α)(i:Int)(v:α)(u:Nat)(hi:i.toNat<l.length):(b8 l i v)[u]? =if u=i.toNat then aa v else l[u]? :=by
 grind [b8]
structure MM(L:List (List Int))(n k:Nat)(U:List (List Int))(W H:List Int):Prop where
 ul:U.length=n
 wl:W.length=n
 u:∀e,∀h:e<U.length,U[e].length<=6000*k/\∀u:Int,U[e].count u=if 0<=u/\u<(k:Int)then(L.getD u.toNat []).count (e:Int)else 0
 w:∀u,u<k->W[u]? =aa ((L.getD u []).length:Int)
 hp:sy H H.length
 nd:H.Nodup
 h:∀u:Int,u∈H↔(0<=u/\u<(k:Int))/\L.getD u.toNat []=[]
def MM.hl{L:List (List Int)}{n k:Nat}{U:List (List Int)}{W H:List Int}(h:MM L n k U W H):H.length<=k:=vZ h.nd λx hx=>((h.h x).1 hx).1
structure abS(s:iT)(L:List (List Int))(n:Nat)(W O H:List Int):Prop where
 wl:W.length=n
 o:uI s O
 w:∀u,u<n->W[u]? =aa (((L.getD u []).countP λy=>decide (y∉O):Nat):Int)
 hp:sy H H.length
 nd:H.Nodup
 h:∀u:Int,u∈H↔NP s O u
structure WZ(s:iT)(L:List (List Int))(n:Nat)(O l:List Int)(W H:List Int):Prop where
 wl:W.length=n
 w:∀u,u<n->W[u]? =aa (((L.getD u []).countP (λy=>decide (y∉O))+l.count (u:Int):Nat):Int)
 hp:sy H H.length
 nd:H.Nodup
 h:∀u:Int,u∈H↔(0<=u/\u<(n:Int))/\u∉O/\W[u.toNat]? =aa 0
def WZ.hl{s:iT}{L:List (List Int)}{n:Nat}{O l W H:List Int}(h:WZ s L n O l W H):H.length<=n:=vZ h.nd λx hx=>((h.h x).1 hx).1
theorem getD_some{L:List (List Int)}{u:Nat}(h:u<L.length):L.getD u []=L[u]:=by simp[h]
def DM(l O:List Int)(x:Int)(hx:x∉O):l.countP (λy=>decide (y∉O))=l.countP (λy=>decide (y∉O++[x]))+l.count x:=by
 induction l<;>grind
def MN(l:List Int)(d n:Nat)(U:List (List Int))(hU:U.length=n)(hl:l.length<=6000)(hr:∀y∈l,0<=y/\y<(n:Int))(hb:∀e,∀h:e<U.length,U[e].length<=100000):Wp (Loop (S:=Int×List (List Int)) (X:=List (List Int)) (λyQ=>
 (if(decide (yQ.1<(l.length:Int)))=af then
 (idx l yQ.1).bind λPp=>
 (idx yQ.2 Pp).bind λx15=>
 (idx yQ.2 Pp).bind λx16=>
 (cu x16 ([(d:Int)]:List Int)).bind λl17=>
 (idx yQ.2 Pp).bind λx18=>
 (if decide (Pp=Pp)=af then
 (idx yQ.2 Pp).bind λx19=>
 some (Sum.inl (ai9.wrap (yQ.1+(1:Int)),sX yQ.2 Pp (λm20=>l17)))
 else ae)
 else
 some (Sum.inr yQ.2))) aU ((0:Int),U)) λV=>V.length=n/\∀e,∀h:e<V.length,∀h':e<U.length,V[e].length<=U[e].length+l.length/\∀u:Int,V[e].count u=U[e].count u+if u=(d:Int)then l.count (e:Int)else 0:=by
 refine Wp.count (λs=>s.1) l.length (λk s=>s.2.length=n/\∀e,∀h:e<s.2.length,∀h':e<U.length,s.2[e].length<=U[e].length+k/\∀u:Int,s.2[e].count u=U[e].count u+if u=(d:Int)then(l.take k).count (e:Int)else 0) (by omega) rfl (by grind) λk s hk hs hJ=>?_
 obtain⟨i,V⟩:=s;obtain⟨hV,hJ⟩:=hJ;dsimp only at hs hV hJ;subst hs;simp only[W_,av,ax,reduceCtorEq,bf,aX];refine⟨λaG=>?_,λhge=>?_⟩
 .have aG:k<l.length:=by omega
  obtain⟨a0,a1⟩:=hr _ (aje aG);obtain⟨x,hx⟩:=ajd a0
  have hxV:x<V.length:=by omega
  simp only[aF aG,hx,aF hxV,cR (m:=l.length) (by omega) aG,W_,av,ax,reduceCtorEq];have hbx:=(hJ x hxV (by omega)).1;have:=hb x (by omega);refine nS.2 ⟨by simp;omega,trivial |> λ_=>⟨aG,by rw[ju];exact hV,λe h h'=>?_⟩⟩
  have he:e<V.length:=by rw[ju]at h;exact h
  have Rg:l.take (k+1)=l.take k++[l[k]]:=(ajk aG).symm;rw[vS h he,Rg,hx]
  grind
 grind
def Pq(s:iT)(L:List (List Int))(n:Nat)(O l W H:List Int)(x:Int)(hn:n<=14)(TT:l.length<=100000)(hL:∀u,(L.getD u []).length<=6000)(hI:WZ s L n O l W H)
 (hl:∀u∈l,(0<=u/\u<(n:Int))/\u∉O)(Q:((List Int×List Int×List Int)⊕(List Int×List Int))->Prop)(hQ:∀W' H',WZ s L n O [] W' H'->Q (.inl (W',O,H'))):Wp (Loop (S:=Int×(List Int)×List Int) (X:=((List Int)×(List Int)×List Int)⊕((List Int)×List Int)) (λKE=>
   (if(decide (KE.1<(l.length:Int)))=af then
   ((idx l KE.1).bind λTo=>
   (idx KE.2.1 To).bind λx31=>
   (idx KE.2.1 To).bind λx32=>
   (idx (b8 KE.2.1 To (ai9.wrap (x31-(1:Int)))) To).bind λQC=>
   (if(decide (QC=(0:Int)))=af then
   (M.cZ aU To KE.2.2).bind λy34=>
   some (b8 KE.2.1 To (ai9.wrap (x31-(1:Int))),y34)
   else
   some (b8 KE.2.1 To (ai9.wrap (x31-(1:Int))),KE.2.2)):Option ((List Int)×List Int)).bind λj29=>
   some (Sum.inl (ai9.wrap (KE.1+(1:Int)),j29.1,j29.2))
   else
   some (Sum.inr (Sum.inl (KE.2.1,O,KE.2.2))))) aU ((0:Int),W,H)) Q:=by
 refine Wp.count (λs=>s.1) l.length (λk z=>WZ s L n O (l.drop k) z.2.1 z.2.2) (by omega) rfl hI λk z hk hs hJ=>?_
 obtain⟨i,V,G⟩:=z;dsimp only at hs hJ;subst hs
 refine Wp.dec (λaG=>?_) λhge=>?_
 .have aG:k<l.length:=by dsimp only at aG;omega
  obtain⟨⟨a0,a1⟩,a2⟩:=hl _ (aje aG);have lZ:l.drop k=l[k]::l.drop (k+1):=ajx aG;obtain⟨u,hu⟩:=ajd a0;rw[hu]at a1 a2 lZ
  have AI:u<n:=by omega
  have hVl:=hJ.wl;have hw:=hJ.w u AI;rw[lZ,List.count_cons_self]at hw
  obtain⟨a,ha⟩:∃a,a=(L.getD u []).countP (λy=>decide (y∉O)):=⟨_,rfl⟩
  obtain⟨b,hb⟩:∃b,b=(l.drop (k+1)).count (u:Int):=⟨_,rfl⟩
  have TX:a<=6000:=by rw[ha];exact(by grind)
  have HZ:b<=100000:=by rw[hb];exact ajs List.count_le_length (by grind)
  rw[<-ha,<-hb]at hw
  have iw:idx V (u:Int)=aa ((a+(b+1):Nat):Int):=by rw[QL (by omega)];exact hw
  have ew:ai9.wrap (((a+(b+1):Nat):Int)-(1:Int))=((a+b:Nat):Int):=by rw[aW (by omega) (by omega)];omega
  have iv:idx (b8 V (u:Int) ((a+b:Nat):Int)) (u:Int)=aa ((a+b:Nat):Int):=by
   rw[QL (by omega),DL _ _ _ _ (by omega),aj rfl]
  dsimp only;rw[aF aG,hu,ai8,iw,ai8,ai8,ew,iv,ai8]
  have w':∀v,v<n->(b8 V (u:Int) ((a+b:Nat):Int))[v]? =aa (((L.getD v []).countP (λy=>decide (y∉O))+(l.drop (k+1)).count (v:Int):Nat):Int):=λv hv=>by
   rw[DL _ _ _ _ (by omega)];by_cases e:v=u
   .grind
   .rw[ai (by omega),hJ.w v hv,lZ,List.count_cons_of_ne (by omega)]
  have nH:(u:Int)∉G:=λg=>by
   have:=((hJ.h _).1 g).2.2
   grind [ajg]
  have hGl:=hJ.hl;by_cases e0:a+b=0
  .rw[aj (by rw[az];omega),wp_bind,wp_bind]
   refine(HD _ _ (by omega) hJ.hp).mono λr hr=> .some (.some ⟨aG,?_,?_⟩)
   .exact cR (m:=l.length) (by omega) aG
   .refine⟨by grind [b8],w',hr.2,hr.1.nodup_iff.2 (List.nodup_cons.2 ⟨nH,hJ.nd⟩),λv=>?_⟩
    show v∈r↔_/\_/\(b8 V _ _)[v.toNat]? =aa 0
    rw[hr.1.mem_iff,ajQ,DL _ _ _ _ (by omega),hJ.h v]
    by_cases e:v=(u:Int)
    .simp_all
    .constructor
     .rintro(h|⟨h1,h2,h3⟩)
      all_goals simp_all
     .rintro⟨h1,h2,h3⟩
      rw[ai (by omega)]at h3
      grind
  .rw[ai (by grind),ai8];refine .some ⟨aG,?_,?_⟩
   .exact cR (m:=l.length) (by omega) aG
   .refine⟨by grind [b8],w',hJ.hp,hJ.nd,λv=>?_⟩
    show v∈G↔_/\_/\(b8 V _ _)[v.toNat]? =aa 0
    rw[DL _ _ _ _ (by omega),hJ.h v]
    by_cases e:v=(u:Int)
    .subst e;rw[aj rfl];refine⟨λh=>absurd ((hJ.h _).2 h) nH,λh=>?_⟩
     grind
    .constructor
     .rintro⟨h1,h2,h3⟩
      rw[ai (by omega)];grind
     .rintro⟨h1,h2,h3⟩
      rw[ai (by omega)]at h3
      grind
 .have hge:k=l.length:=by dsimp only at hge;omega
  subst hge;rw[List.drop_length]at hJ;exact .some (hQ _ _ hJ)
def MO(s:iT)(hs:iG s):Wp (M.dM aU s) λr=>∃o,uI s o/\(∀d,¬NP s o d)/\r=if o.length<s.2.2.2.1.length then((9:Int),([]:List Int))else((0:Int),o):=by
 have Hw:=hs.2.2.1;unfold M.dM
 refine Wp.seq (Tc s) ?_ λL hL=>?_
 .have e:M.lI aU s=M.gR aU s:=rfl
  grind [nC]
 obtain⟨hLl,hL⟩:=hL
 have hDr:∀a b,Dp s a b->0<=b/\b<(s.2.2.2.1.length:Int):=λa b h=>(nU s a).2 b h
 have hLq:∀u,(L.getD u []).length<=6000:=(by grind)
 have hLm:∀u:Nat,u<s.2.2.2.1.length->∀y,y∈L.getD u []↔Dp s (u:Int) y:=(by grind)
 obtain⟨n,hn⟩:∃n,n=s.2.2.2.1.length:=⟨_,rfl⟩
 rw[<-hn]at Hw hLl hDr hLm⊢;rw[wp_bind];refine sq.2 ⟨by omega,?_⟩;rw[wp_bind];refine sq.2 ⟨by omega,?_⟩;rw[ajg,hLl]
 refine Wp.seq (λz=>MM L n n z.1 z.2.1 z.2.2) ?_ λz hz=>?_
 .rw[wp_bind]
  refine Wp.mono (Q:=λz=>MM L n n z.1 z.2.1 z.2.2) ?_ λz hz=> .some hz
  refine Wp.count (λz=>z.1) n (λk z=>MM L n k z.2.1 z.2.2.1 z.2.2.2) (by omega) rfl ⟨by simp,by simp,λe h=>⟨by simp,λu=>?_⟩,λu hu=>by omega,λk h0 h1=>(by cases h1),List.nodup_nil,λu=>?_⟩ λk z hk hz hJ=>?_
  .grind
  .grind
  obtain⟨i,U,W,H⟩:=z;dsimp only at hz hJ;subst hz
  refine Wp.dec (λaG=>?_) λhge=>?_
  .have aG:k<n:=by dsimp only at aG;omega
   have Ye:k<L.length:=by omega
   have hUl:=hJ.ul;have hWl:=hJ.wl;dsimp only;rw[aF Ye,ai8,aF (show k<W.length by omega),ai8,wp_bind,wp_bind,wp_bind];have hHl:=hJ.hl
   refine(MN L[k] k n U hUl (hL k Ye).1 (by grind) λe h=>by have:=(hJ.u e h).1;omega).mono λV hV=>?_
   have uu:∀e,∀h:e<V.length,V[e].length<=6000*(k+1)/\∀u:Int,V[e].count u=if 0<=u/\u<((k+1:Nat):Int)then(L.getD u.toNat []).count (e:Int)else 0:=λe h=>by
    have hV1:=hV.1;obtain⟨g1,g2⟩:=hV.2 e h (by omega);obtain⟨f1,f2⟩:=hJ.u e (by omega);have:=(hL k Ye).1;refine⟨by omega,λu=>?_⟩;rw[g2,f2]
    by_cases eu:u=(k:Int)
    .subst eu;rw[ai (by omega),aj rfl,aj (by omega),ajg,getD_some Ye];omega
    grind
   have ww:∀u,u<k+1->(b8 W (k:Int) (L[k].length:Int))[u]? =aa ((L.getD u []).length:Int):=λu hu=>by
    rw[DL _ _ _ _ (by omega)];by_cases e:u=k
    .grind
    .rw[ai (by omega),hJ.w u (by omega)]
   have wl:(b8 W (k:Int) (L[k].length:Int)).length=n:=by unfold b8;rw[List.length_set];exact hWl
   by_cases e0:L[k].length=0
   .rw[aj (by rw[az];omega),wp_bind]
    refine(HD _ _ (by omega) hJ.hp).mono λr hr=> .some (.some (.some ⟨aG,cR (m:=n) (by omega) aG,⟨hV.1,wl,uu,ww,hr.2,hr.1.nodup_iff.2 (List.nodup_cons.2 ⟨λg=>?_,hJ.nd⟩),λu=>?_⟩⟩))
    .have:=((hJ.h _).1 g).1;omega
    .show u∈r↔_
     rw[hr.1.mem_iff,ajQ,hJ.h u]
     by_cases eu:u=(k:Int)
     .grind [ajg]
     grind
   .rw[ai (by rw[az];omega)];refine .some (.some (.some ⟨aG,cR (m:=n) (by omega) aG,⟨hV.1,wl,uu,ww,hJ.hp,hJ.nd,λu=>?_⟩⟩))
    show u∈H↔_
    rw[hJ.h u]
    grind [getD_some]
  .have hge:k=n:=by dsimp only at hge;omega
   subst hge;exact .some hJ
 obtain⟨U,W,H⟩:=z;dsimp only at hz⊢;have hUl:=hz.ul
 have hU:∀e,∀h:e<U.length,U[e].length<=100000/\∀u:Int,U[e].count u=if 0<=u/\u<(n:Int)then(L.getD u.toNat []).count (e:Int)else 0:=λe h=>⟨by have:=(hz.u e h).1;omega,(hz.u e h).2⟩
 refine Wp.seq (λz=>uI s z.1/\z.2=[]/\∀d,¬NP s z.1 d) ?_ λz hq=>?_
 .refine Wp.loop (λz=>abS s L n z.1 z.2.1 z.2.2) (λz=>n-z.2.1.length) ⟨hz.wl,λk h=>(by cases h),λu hu=>?_,hz.hp,hz.nd,λu=>?_⟩ (by show n-_<aU;unfold aU;omega) λz hI=>?_
  .rw[hz.w u hu]
   simp_all
  .rw[hz.h u];unfold NP;rw[<-hn];constructor
   .grind
   .rintro⟨h1,_,h2⟩
    refine⟨h1,List.eq_nil_iff_forall_not_mem.2 λy hy=>?_⟩
    grind
  obtain⟨W,O,H⟩:=z;dsimp only at hI⊢;have hO:=hI.o;have hOl:=hO.len;rw[<-hn]at hOl
  have hHl:H.length<=n:=vZ hI.nd λx hx=>by
   have:=((hI.h x).1 hx).1
   grind
  unfold M.ey;rw[ai8]
  refine Wp.dec (λh0=>?_) λh0=>?_
  .have h0:0<H.length:=by omega
   rw[wp_bind]
   refine(Tn H h0 (by omega) hI.hp).mono λr hr=>?_
   obtain⟨x,G⟩:=r;obtain⟨hp,hG,JP⟩:=hr;dsimp only at hp hG JP⊢;have hxH:x∈H:=hp.symm.subset (by simp);have hx:=(hI.h x).1 hxH;have Om:=hp.nodup_iff.1 hI.nd;obtain⟨hxG,hGn⟩:=List.nodup_cons.1 Om
   have hO':uI s (O++[x]):=hO.snoc hx λd hd=>by
    have:d∈H:=(hI.h d).2 hd
    grind
   have W1:=hO'.len;rw[<-hn,List.length_append]at W1;simp only[ajp,ajJ]at W1;rw[fU (by simp;omega),ai8];have Qb:=hx.1;rw[<-hn]at Qb;obtain⟨e,he⟩:=ajd Qb.1
   have heU:e<U.length:=by omega
   rw[he,aF heU,ai8,<-he];obtain⟨f1,f2⟩:=hU e heU;rw[<-he]at f2
   have inU:∀u∈U[e],(0<=u/\u<(n:Int))/\Dp s u x:=λu hu=>by
    have h1:=List.count_pos_iff.2 hu;rw[f2]at h1;by_cases hc:0<=u/\u<(n:Int)
    .grind
    grind
   refine Pq s L n (O++[x]) U[e] W G x Hw f1 hLq ⟨hI.wl,λu hu=>?_,hG,hGn,λu=>?_⟩ (λu hu=>?_) _ λW' H' h'=>?_
   .rw[hI.w u hu,f2,aj (by omega),ajg,DM _ _ _ hx.2.1]
   .have JN:u∈G↔u∈H/\u≠x:=by
     rw[hp.mem_iff,ajQ];exact(by grind)
    rw[JN,hI.h u];unfold NP;rw[<-hn];constructor
    .rintro⟨⟨h1,h2,h3⟩,h4⟩
     refine⟨h1,by simp[h2,h4],?_⟩;rw[hI.w u.toNat (by omega)]
     congr 2
     grind [akT]
    .rintro⟨h1,h2,h3⟩
     rw[hI.w u.toNat (by omega)]at h3
     have h3:(L.getD u.toNat []).countP (λy=>decide (y∉O))=0:=by
      have:=aja h3;omega
     rw[akT]at h3;simp only[ajt,ajy,not_or]at h2
     grind [Int.toNat_of_nonneg]
   .obtain⟨h1,h2⟩:=inU u hu;refine⟨h1,λh=>?_⟩
    rcases ajt.1 h with h|h
    .exact hx.2.1 ((hO.mem h).2 x h2)
    .rw[ajy.1 h]at h2;exact hx.2.1 (hx.2.2 x h2)
   .refine⟨⟨h'.wl,hO',λu hu=>?_,h'.hp,h'.nd,λu=>?_⟩,?_⟩
    .have:=h'.w u hu
     grind
    .rw[h'.h u];unfold NP;rw[<-hn];constructor
     .rintro⟨h1,h2,h3⟩
      refine⟨h1,h2,λy hy=>?_⟩;rw[h'.w u.toNat (by omega),List.count_nil,akj]at h3
      have h3:(L.getD u.toNat []).countP (λy=>decide (y∉O++[x]))=0:=by
       have:=aja h3;omega
      rw[akT]at h3;have:=h3 y ((hLm u.toNat (by omega) y).2 (by rw[Int.toNat_of_nonneg h1.1];exact hy))
      grind
     .rintro⟨h1,h2,h3⟩
      refine⟨h1,h2,?_⟩;rw[h'.w u.toNat (by omega),List.count_nil,akj]
      congr 2
      rw[akT]
      grind
    grind
  .have h0:H=[]:=List.length_eq_zero_iff.1 (by omega);subst h0;exact .some ⟨hO,rfl,λd hd=>by cases(hI.h d).2 hd⟩
 .obtain⟨O,H⟩:=z;obtain⟨h1,h2,h3⟩:=hq;dsimp only at h1 h2 h3⊢
  refine Wp.dec (λh=> .some ⟨O,h1,h3,?_⟩) λh=> .some ⟨O,h1,h3,?_⟩
  all_goals grind
end L
namespace L.P
abbrev Vl:Type:=aE.den
abbrev Ty:Type:=aD.den
def bx{α:Type}{c:Prop}[Decidable c]{a b:α}:(if c then aa a else aa b)=aa (if c then a else b):=by split<;>rfl
def sz(a b:Bool):(if a=af then af else b)=(a||b):=by cases a<;>rfl
def oz(a b:Bool):(if a=af then b else ag)=(a&&b):=by cases a<;>rfl
def gE(k e n:Int):Prop:=
 (k=1/\e=0/\0<=n/\n<=1)\/(k=2/\e=0/\-1000000000000<=n/\n<=1000000000000)\/(k=3/\e=0/\-1000000000000000<=n/\n<=1000000000000000)\/
 (k=4/\e=0/\-1000000000<=n/\n<=1000000000)\/(k=5/\e=0/\0<=n/\n<=109572)\/(k=6/\0<=e/\e<=7/\0<=n/\n<=15)
instance(k e n:Int):Decidable (gE k e n):=by unfold gE;infer_instance
def iH(N:Nat)(v:Vl):M.dj N v=aa (decide (gE v.1 v.2.1 v.2.2)):=by
 revert v;rintro⟨(k:Int),(e:Int),(n:Int)⟩
 unfold M.dj;simp only[bx,ai8,sz,oz];refine ay aa ?_;by_cases h1:k=1
 .subst h1;rw[Bool.eq_iff_iff];simp[gE];grind
 by_cases h2:k=2
 .grind [P.gE]
 by_cases h3:k=3
 .grind [P.gE]
 by_cases h4:k=4
 .grind [P.gE]
 by_cases h5:k=5
 .grind [P.gE]
 by_cases h6:k=6
 .subst h6;rw[Bool.eq_iff_iff];simp[gE];grind
 simp[gE,h1,h2,h3,h4,h5,h6]
def DN(k e n a b:Int):Prop:=gE k e n/\k=a/\e=b
instance(k e n a b:Int):Decidable (DN k e n a b):=by unfold DN;infer_instance
abbrev Tp(v:Vl)(t:Ty):Prop:=DN v.1 v.2.1 v.2.2 t.1 t.2
def xB(N:Nat)(v:Vl)(t:Ty):M.lJ N v t=aa (decide (Tp v t)):=by
 unfold M.lJ;rw[iH];simp only[bx,ai8,oz]
 grind [P.DN]
def DO(op k e:Int):Prop:=e=0/\(if op=36 then k=2\/k=3 else if op=39 then 2<=k/\k<=5 else k=1)
instance(op k e:Int):Decidable (DO op k e):=by unfold DO;infer_instance
abbrev Xa(op:Int)(t:Ty):Prop:=DO op t.1 t.2
def qD(N:Nat)(k:Int):M.gz N k=aa (decide (2<=k/\k<=4)):=by
 unfold M.gz;simp only[bx,ai8,sz];refine ay aa ?_
 grind
def uJ(N:Nat)(op:Int)(t:Ty):M.im N op t=aa (decide (Xa op t)):=by
 unfold M.im;rw[qD];simp only[bx,ai8,sz,oz];refine ay aa ?_;obtain⟨(k:Int),(e:Int)⟩:=t;rw[Bool.eq_iff_iff]
 show _↔decide (DO op k e)=af
 unfold DO
 grind
def fold(op acc n:Int)(first:Bool):Int:=
 if op=36 then acc+n else if op=37 then acc*n else if op=38 then(if acc<n then n else acc)else(if first=af\/acc<n then n else acc)
def qE(op:Int)(t:Ty)(j:Nat):List (List Vl)->Bool->Int->Int⊕Int
 |[],_,acc=> .inl acc
 |l::ms,first,acc=>match l[j]? with
  |none=> .inr 6
  |some v=>if(v.1:Int)=0 then .inr 6 else if Tp v t then
    (if gE t.1 0 (fold op acc v.2.2 first)then qE op t j ms ag (fold op acc v.2.2 first)else .inr 3)else .inr 8
def xC(op:Int):Int:=if op=37 then 1 else 0
def Pt(op:Int)(t:Ty)(j:Nat)(ms:List (List Vl)):Vl×Int:=
 if op=39/\ms=[]then((0,0,0),6)else match qE op t j ms af (xC op)with
  | .inl a=>((t.1,0,a),0)
  | .inr c=>((0,0,0),c)
def MP(op:Int)(t:Ty)(first:Bool)(acc:Int):Prop:=(op=39/\first=af/\acc=0)\/gE t.1 0 acc
def Pu{op:Int}{t:Ty}(tf:op=36\/op=37\/op=38\/op=39)(ht:Xa op t):MP op t af (xC op):=by
 obtain⟨(k:Int),(e:Int)⟩:=t
 obtain⟨h0,h1⟩:=(show DO op k e from ht)
 show(op=39/\af=af/\xC op=0)\/gE k 0 (xC op)
 grind [P.gE,P.xC]
def xD{N:Nat}(hN:100001<=N){op:Int}(tf:op=36\/op=37\/op=38\/op=39){j:Nat}{env:kz.den}(hj:j<env.2.2.2.2.1.length)(hm:env.2.2.2.1.length<=100)(ht:Xa op env.2.2.2.2.1[j]):
 M.jO N (op,(j:Int)) env=aa (Pt op env.2.2.2.2.1[j] j env.2.2.2.1):=by
 obtain⟨d,ip,df,ms,ts,tb⟩:=env;simp only at hj hm ht⊢;apply Wp.eq;unfold M.jO;simp only;rw[aF hj];simp only[ai8];generalize ts[j]=t at ht⊢;have UJ:(t.2:Int)=0:=(show DO op t.1 t.2 from ht).1
 have e1:(if decide (op=37)=af then aa (t.1,t.2,(1:Int))else aa (t.1,t.2,(0:Int)):Option Vl)=aa (t.1,t.2,xC op):=by
  unfold xC;by_cases h:op=37<;>simp[h]
 rw[e1];simp only[ai8,bx,oz];unfold Pt
 refine Wp.ite (λh=>?_) λh=>?_
 .have:op=39/\ms=[]:=by simpa using h
  rw[aj this];exact .some rfl
 .have h39:¬(op=39/\ms=[]):=by simpa using h
  rw[ai h39]
  refine Wp.join (Wp.loop (λs:Int×Vl=>∃k:Nat,∃acc:Int,s=((k:Int),(t.1,t.2,acc))/\k<=ms.length/\MP op t (decide (k=0)) acc/\qE op t j (ms.drop k) (decide (k=0)) acc=qE op t j ms af (xC op)) (λs=>(ms.length-s.1).toNat)
   ⟨0,xC op,rfl,ajB _,Pu tf ht,rfl⟩ (by grind) ?_)
  rintro _ ⟨k,acc,rfl,hk,Pv,hf⟩
  simp only
  refine Wp.dec (λh=>?_) λh=> .some (.some ?_)
  case refine_2=>
   grind [P.qE]
  have iU:k<ms.length:=by omega
  have hd:ms.drop k=ms[k]::ms.drop (k+1):=ajx iU;rw[hd]at hf;rw[aF iU];simp only[ai8];rw[qE]at hf;by_cases hl:j<ms[k].length
  .rw[ajb hl]at hf;simp only at hf;rw[aF hl];simp only[ai8,bx,sz,xB,iH];generalize ms[k][j]=v at hf⊢;by_cases hv:(v.1:Int)=0
   .rw[aj hv]at hf;rw[aj (by simp[hv])];refine .some ?_
    show _=_
    rw[<-hf]
   .rw[ai hv]at hf;rw[ai (by grind)];by_cases hh:Tp v t
    .rw[aj hh]at hf;rw[ai (by simp[hh])]
     obtain⟨hp,Uf,Iq⟩:=(show DN _ _ _ _ _ from hh)
     refine Wp.join ?_
     have key:∀a,fold op acc v.2.2 (decide (k=0))=a->gE t.1 0 a->zL (λs:Int×Vl=>∃k:Nat,∃acc:Int,s=((k:Int),(t.1,t.2,acc))/\k<=ms.length/\MP op t (decide (k=0)) acc/\qE op t j (ms.drop k) (decide (k=0)) acc=qE op t j ms af (xC op)) (λs=>(ms.length-s.1).toNat) ((k:Int),(t.1,t.2,acc)) (vm (λj4=>aa (j4,(0:Int))) λx=>x=match qE op t j ms af (xC op)with
      | .inl a=>((t.1,0,a),0)
      | .inr c=>((0,0,0),c)) (.inl (ai9.wrap ((k:Int)+1),(t.1,t.2,a))):=by
      intro a ha hpa;subst ha;rw[aj hpa]at hf;rw[aS (by omega)];refine⟨⟨k+1,_,rfl,iU, .inr hpa,?_⟩,by grind⟩;rw[show decide (k+1=0)=ag by simp];exact hf
     rcases tf with rfl|rfl|rfl|rfl
     all_goals simp only[decide_true,decide_false,if_true,if_false,Int.reduceEq,ajI,Bool.not_true,Bool.not_false]
     .have Xb:gE t.1 0 acc:=by
       rcases Pv with h|h
       .grind
       .exact h
      have NQ:fold 36 acc v.2.2 (decide (k=0))=acc+v.2.2:=by simp[fold]
      have hw:ai9.wrap (acc+v.2.2)=acc+v.2.2:=by
       revert Xb hp;generalize(v.2.2:Int)=n;generalize(v.1:Int)=vk;generalize(v.2.1:Int)=ve;generalize(t.1:Int)=tk;intro h1 h2;unfold gE at h1 h2;dsimp only[aB,Row.den]at*;exact aW (by omega) (by omega)
      rw[hw];rw[NQ]at hf;by_cases BY:gE t.1 0 (acc+v.2.2)
      .rw[ai (by grind)];exact .some (.some (key _ NQ BY))
      .rw[aj (by grind)];rw[ai BY]at hf;refine .some ?_
       show _=_
       rw[<-hf]
     .have hb:(0<=(v.2.2:Int)/\(v.2.2:Int)<=1)/\0<=acc/\acc<=1/\(t.1:Int)=1:=by
       have h1:=(show DO 37 t.1 t.2 from ht).2
       have h2:gE t.1 0 acc:=by
        rcases Pv with h|h
        .grind
        .exact h
       rw[Uf]at hp;revert h1 h2 hp;generalize(v.2.2:Int)=n;generalize(v.2.1:Int)=ve;generalize(t.1:Int)=tk;intro h3 h1 h2;unfold gE at h2 h3;simp at h1;dsimp only[aB,Row.den]at*;omega
      obtain⟨⟨b1,b2⟩,b3,b4,b5⟩:=hb
      have NQ:fold 37 acc v.2.2 (decide (k=0))=(if v.2.2<acc then v.2.2 else acc:Int):=by
       have b2':(v.2.2:Int)=0\/(v.2.2:Int)=1:=by revert b1 b2;generalize(v.2.2:Int)=n;intro b1 b2;dsimp only[aB,Row.den]at*;omega
       have b4':acc=0\/acc=1:=by omega
       rcases b2' with e1|e1<;>rcases b4' with e2|e2<;>simp[fold,e1,e2]
      refine .some (.some (key _ NQ ?_));refine .inl ⟨b5,rfl,?_⟩
      grind
     .have NQ:fold 38 acc v.2.2 (decide (k=0))=(if acc<v.2.2 then v.2.2 else acc:Int):=by simp[fold]
      have h2:gE t.1 0 acc:=by
       rcases Pv with h|h
       .grind
       .exact h
      refine .some (.some (key _ NQ ?_))
      grind
     .have h3:gE t.1 0 v.2.2:=by rw[Uf,Iq,UJ]at hp;exact hp
      by_cases hc:((k:Int)=0)\/acc<v.2.2
      .have NQ:fold 39 acc v.2.2 (decide (k=0))=v.2.2:=by
        have:k=0\/acc<v.2.2:=hc.imp (λh=>by omega) id;simp[fold,this]
       rw[aj (by simpa using hc)]
       have hv3:v=(t.1,t.2,v.2.2):=by rw[<-Uf,<-Iq]
       rw[hv3];exact .some (.some (key _ NQ h3))
      .have NQ:fold 39 acc v.2.2 (decide (k=0))=acc:=by
        have:¬(k=0\/acc<v.2.2):=(by grind)
        simp[fold,this]
       rw[ai (by simpa using hc)];refine .some (.some (key _ NQ ?_))
       rcases Pv with h|h
       all_goals grind
    .rw[ai hh]at hf;rw[aj (by simp[hh])];refine .some ?_
     show _=_
     rw[<-hf]
  .rw[List.getElem?_eq_none (by omega)]at hf;rw[aj (by simp;omega)];refine .some ?_
   show _=_
   rw[<-hf]
end L.P
namespace L.P
def qF{n:Int}(h0:0<=n)(h1:n<18446744073709551616):ajc.wrap n=n:=by
 simp[IntKind.wrap,IntKind.bits,IntKind.signed];omega
def BE(n:Int):ajc.wrap n=n%18446744073709551616:=by
 simp[IntKind.wrap,IntKind.bits,IntKind.signed]
def mJ(n:Int):0<=ajc.wrap n/\ajc.wrap n<18446744073709551616:=by rw[BE];omega
def QM(a:Int):gF .u64 a 32=a/4294967296:=by
 unfold gF;rw[show min (32:Int).toNat ajc.bits=32 from rfl];exact Int.fdiv_eq_ediv_of_nonneg _ (by decide)
def Xc(a:Int):gF .u64 a 16=a/65536:=by
 unfold gF;rw[show min (16:Int).toNat ajc.bits=16 from rfl];exact Int.fdiv_eq_ediv_of_nonneg _ (by decide)
def abU(a:Int):gF .u64 a 8=a/256:=by
 unfold gF;rw[show min (8:Int).toNat ajc.bits=8 from rfl];exact Int.fdiv_eq_ediv_of_nonneg _ (by decide)
def BF:ByteArray:=(⟨#[0,1,2,2,3,3,3,3,4,4,4,4,4,4,4,4,5,5,5,5,5,5,5,5,5,5,5,5,5,5,5,5,6,6,6,6,6,6,6,6,6,6,6,6,6,6,6,6,6,6,6,6,6,6,6,6,6,6,6,6,6,6,6,6,7,7,7,7,7,7,7,7,7,7,7,7,7,7,7,7,7,7,7,7,7,7,7,7,7,7,7,7,7,7,7,7,7,7,7,7,7,7,7,7,7,7,7,7,7,7,7,7,7,7,7,7,7,7,7,7,7,7,7,7,7,7,7,7,8,8,8,8,8,8,8,8,8,8,8,8,8,8,8,8,8,8,8,8,8,8,8,8,8,8,8,8,8,8,8,8,8,8,8,8,8,8,8,8,8,8,8,8,8,8,8,8,8,8,8,8,8,8,8,8,8,8,8,8,8,8,8,8,8,8,8,8,8,8,8,8,8,8,8,8,8,8,8,8,8,8,8,8,8,8,8,8,8,8,8,8,8,8,8,8,8,8,8,8,8,8,8,8,8,8,8,8,8,8,8,8,8,8,8,8,8,8,8,8,8,8,8,8,8,8,8,8]⟩:ByteArray)
def QN(n:Nat):Bool:=match me BF n with
 |some k=>decide (0<=k)&&decide (k<=8)&&decide (n<2 ^ k.toNat)&&(ajf n 0||(decide (1<=k)&&decide (2 ^ (k.toNat-1)<=n)))
 |none=>ag
def Pw:(ajY 256).all QN=af:=by kernel_rfl
def Bj{n:Nat}(h:n<256):∃k:Nat,me BF n=aa (k:Int)/\k<=8/\n<2 ^ k/\(n≠0->1<=k/\2 ^ (k-1)<=n):=by
 have:=List.all_eq_true.1 Pw n (List.mem_range.2 h);unfold QN at this;split at this
 case h_2=>cases this
 rename_i k hk;simp only[akd,Bool.or_eq_true,az,Nat.beq_eq]at this;obtain⟨⟨⟨h1,h2⟩,h3⟩,h4⟩:=this;refine⟨k.toNat,by rw[hk,Int.toNat_of_nonneg h1],by omega,h3,λhn=>?_⟩
 rcases h4 with h4|h4
 .exact absurd h4 hn
 .exact⟨by omega,h4.2⟩
def Tq{m b k:Nat}(h:m/2 ^ b<2 ^ k):m<2 ^ (b+k):=by
 rw[Nat.div_lt_iff_lt_mul (Nat.two_pow_pos b)]at h;rw[akR,Nat.mul_comm];exact h
def Tr{m b k:Nat}(hk:1<=k)(h:2 ^ (k-1)<=m/2 ^ b):2 ^ (b+k-1)<=m:=by
 rw[Nat.le_div_iff_mul_le (Nat.two_pow_pos b)]at h;rw[show b+k-1=k-1+b by omega,akR];exact h
def MQ{N m:Nat}(hm:m<18446744073709551616):∃L:Nat,M.kN N m=aa (L:Int)/\L<=64/\m<2 ^ L/\(m≠0->1<=L/\2 ^ (L-1)<=m):=by
 have fin:∀(b q:Nat)(w:Int),q=m/2 ^ b->w=b->b<=56->q<256->(m≠0->q≠0)->∃L:Nat,((me BF (IntKind.u8.wrap (q:Int))).bind λx4=>aa (ai9.wrap (w+ai9.wrap x4)))=aa (L:Int)/\L<=64/\m<2 ^ L/\(m≠0->1<=L/\2 ^ (L-1)<=m):=by
  intro b q w hq hw hb h1 h2;subst hq;subst hw;obtain⟨k,g1,g2,g3,g4⟩:=Bj h1
  have hu:IntKind.u8.wrap ((m/2 ^ b:Nat):Int)=((m/2 ^ b:Nat):Int):=by
   simp only[IntKind.wrap,IntKind.bits,IntKind.signed];generalize m/2 ^ b=q at h1⊢;simp;omega
  refine⟨b+k,?_,by omega,Tq g3,λdw=>?_⟩
  .rw[hu,g1,ai8,Dv (by omega),<-Int.natCast_add,Dv (by omega)]
  .obtain⟨g5,g6⟩:=g4 (h2 dw);exact⟨by omega,Tr g5 g6⟩
 have e32:((m:Int)/4294967296)=((m/2 ^ 32:Nat):Int):=by rw[show(2 ^ 32:Nat)=4294967296 from rfl];omega
 have d48:m/2 ^ 32/2 ^ 16=m/2 ^ 48:=by rw[akM,<-akR]
 have d40:m/2 ^ 32/2 ^ 8=m/2 ^ 40:=by rw[akM,<-akR]
 have d56:m/2 ^ 48/2 ^ 8=m/2 ^ 56:=by rw[akM,<-akR]
 have d24:m/2 ^ 16/2 ^ 8=m/2 ^ 24:=by rw[akM,<-akR]
 have c16:∀q:Nat,((q:Int)/65536)=((q/2 ^ 16:Nat):Int):=λq=>by rw[show(2 ^ 16:Nat)=65536 from rfl];omega
 have c8:∀q:Nat,((q:Int)/256)=((q/2 ^ 8:Nat):Int):=λq=>by rw[show(2 ^ 8:Nat)=256 from rfl];omega
 unfold M.kN;rw[show(⟨#[0,1,2,2,3,3,3,3,4,4,4,4,4,4,4,4,5,5,5,5,5,5,5,5,5,5,5,5,5,5,5,5,6,6,6,6,6,6,6,6,6,6,6,6,6,6,6,6,6,6,6,6,6,6,6,6,6,6,6,6,6,6,6,6,7,7,7,7,7,7,7,7,7,7,7,7,7,7,7,7,7,7,7,7,7,7,7,7,7,7,7,7,7,7,7,7,7,7,7,7,7,7,7,7,7,7,7,7,7,7,7,7,7,7,7,7,7,7,7,7,7,7,7,7,7,7,7,7,8,8,8,8,8,8,8,8,8,8,8,8,8,8,8,8,8,8,8,8,8,8,8,8,8,8,8,8,8,8,8,8,8,8,8,8,8,8,8,8,8,8,8,8,8,8,8,8,8,8,8,8,8,8,8,8,8,8,8,8,8,8,8,8,8,8,8,8,8,8,8,8,8,8,8,8,8,8,8,8,8,8,8,8,8,8,8,8,8,8,8,8,8,8,8,8,8,8,8,8,8,8,8,8,8,8,8,8,8,8,8,8,8,8,8,8,8,8,8,8,8,8,8,8,8,8,8,8]⟩:ByteArray)=BF from rfl];simp only[QM,Xc,abU,e32,c16,c8];by_cases h1:4294967296<=m
 .have a1:decide ((4294967296:Int)<=(m:Int))=af:=by simp;omega
  simp only[a1,if_true,ai8,c16,d48];by_cases h2:65536<=m/2 ^ 32
  .have a2:decide ((65536:Int)<=((m/2 ^ 32:Nat):Int))=af:=by simp;omega
   simp only[a2,if_true,ai8,c8,d56];by_cases h3:256<=m/2 ^ 48
   .have a3:decide ((256:Int)<=((m/2 ^ 48:Nat):Int))=af:=by simp;omega
    simp only[a3,if_true,ai8];exact fin 56 _ _ rfl (by kernel_rfl) (by omega) (by omega) (by omega)
   .have a3:decide ((256:Int)<=((m/2 ^ 48:Nat):Int))=ag:=by simp;omega
    simp only[a3,ajI,if_false,ai8];exact fin 48 _ _ rfl (by kernel_rfl) (by omega) (by omega) (by omega)
  .have a2:decide ((65536:Int)<=((m/2 ^ 32:Nat):Int))=ag:=by simp;omega
   simp only[a2,ajI,if_false,ai8,c8,d40];by_cases h3:256<=m/2 ^ 32
   .have a3:decide ((256:Int)<=((m/2 ^ 32:Nat):Int))=af:=by simp;omega
    simp only[a3,if_true,ai8];exact fin 40 _ _ rfl (by kernel_rfl) (by omega) (by omega) (by omega)
   .have a3:decide ((256:Int)<=((m/2 ^ 32:Nat):Int))=ag:=by simp;omega
    simp only[a3,ajI,if_false,ai8];exact fin 32 _ _ rfl (by kernel_rfl) (by omega) (by omega) (by omega)
 .have a1:decide ((4294967296:Int)<=(m:Int))=ag:=by simp;omega
  simp only[a1,ajI,if_false,ai8,c16];by_cases h2:65536<=m
  .have a2:decide ((65536:Int)<=(m:Int))=af:=by simp;omega
   simp only[a2,if_true,ai8,c8,d24];by_cases h3:256<=m/2 ^ 16
   .have a3:decide ((256:Int)<=((m/2 ^ 16:Nat):Int))=af:=by simp;omega
    simp only[a3,if_true,ai8];exact fin 24 _ _ rfl (by kernel_rfl) (by omega) (by omega) (by omega)
   .have a3:decide ((256:Int)<=((m/2 ^ 16:Nat):Int))=ag:=by simp;omega
    simp only[a3,ajI,if_false,ai8];exact fin 16 _ _ rfl (by kernel_rfl) (by omega) (by omega) (by omega)
  .have a2:decide ((65536:Int)<=(m:Int))=ag:=by simp;omega
   simp only[a2,ajI,if_false,ai8,c8];by_cases h3:256<=m
   .have a3:decide ((256:Int)<=(m:Int))=af:=by simp;omega
    simp only[a3,if_true,ai8];exact fin 8 _ _ rfl (by kernel_rfl) (by omega) (by omega) (by omega)
   .have a3:decide ((256:Int)<=(m:Int))=ag:=by simp;omega
    simp only[a3,ajI,if_false,ai8];exact fin 0 m _ (by simp) (by kernel_rfl) (by omega) (by omega) (λh=>h)
def Xd(rh:Int)(h:0<=rh):(if rh<4294967296 then(4294967296-rh).toNat else 4294967297)<aU:=by
 unfold aU
 split<;>omega
def JQ{hi lo y:Int}(h0:0<=hi)(h1:hi<y)(h2:y<18446744073709551616):∃r,M.dW aU hi lo y=aa r:=by
 have key:Wp (M.dW aU hi lo y) λ_=>True:=by
  unfold M.dW;rw[ai (by simp;omega),ai (by simp;omega)]
  refine Wp.dec (λ_=>?_) λdw=>?_
  .unfold yq EK;rw[ai (by omega),ai (by omega)];exact .some trivial
  .obtain⟨m,rfl⟩:∃m:Nat,y=m:=⟨y.toNat,by omega⟩
   obtain⟨L,g1,g2,g3,g4⟩:=MQ (N:=aU) (m:=m) (by omega);obtain⟨g4,g5⟩:=g4 (by omega);unfold M.gA;rw[g1]
   have hL:ajc.wrap (ai9.wrap ((64:Int)-(L:Int)))=((64-L:Nat):Int):=by
    rw[aW (by omega) (by omega),qF (by omega) (by omega)];omega
   have hL2:ajc.wrap ((64:Int)-((64-L:Nat):Int))=(L:Int):=by rw[qF (by omega) (by omega)];omega
   simp only[ai8,hL,hL2]
   have gY:∀a:Int,IA .u64 a ((64-L:Nat):Int)=aa (Ay .u64 a ((64-L:Nat):Int)):=λa=>ai (by omega)
   have QH:∀a:Int,Cc .u64 a (L:Int)=aa (gF .u64 a (L:Int)):=λa=>ai (by omega)
   have abW:∀a:Int,Cc .u64 a ((64-L:Nat):Int)=aa (gF .u64 a ((64-L:Nat):Int)):=λa=>ai (by omega)
   simp only[gY,QH,abW,ai8,QM]
   have hy:9223372036854775808<=Ay .u64 (m:Int) ((64-L:Nat):Int)/\Ay .u64 (m:Int) ((64-L:Nat):Int)<18446744073709551616:=by
    unfold Ay;rw[show min (((64-L:Nat):Int).toNat) ajc.bits=64-L by simp[IntKind.bits]]
    have e1:m*2 ^ (64-L)<2 ^ 64:=by
     calc m*2 ^ (64-L)<2 ^ L*2 ^ (64-L):=Nat.mul_lt_mul_of_pos_right g3 (Nat.two_pow_pos _)
      _=2 ^ 64:=by rw[<-akR];congr 1;omega
    have e2:2 ^ 63<=m*2 ^ (64-L):=by
     calc 2 ^ 63=2 ^ (L-1)*2 ^ (64-L):=by rw[<-akR];congr 1;omega
      _<=m*2 ^ (64-L):=ajq _ g5
    have e3:((m:Int)*2 ^ (64-L))=((m*2 ^ (64-L):Nat):Int):=by simp
    rw[e3,qF (by omega) (by omega)];omega
   generalize Ay .u64 (m:Int) ((64-L:Nat):Int)=x4 at hy⊢
   have hyn:0<x4/4294967296/\x4/4294967296<4294967296:=by omega
   generalize x4/4294967296=yn at hyn⊢
   have quo:∀a:Int,yq a yn=aa (ajl a yn):=λa=>ai (by omega)
   simp only[quo,ai8]
   have inv:∀rh:Int,0<=rh->rh<18446744073709551616->¬4294967296<=ajc.wrap (rh+yn)->(if ajc.wrap (rh+yn)<4294967296 then(4294967296-ajc.wrap (rh+yn)).toNat else 4294967297)<(if rh<4294967296 then(4294967296-rh).toNat else 4294967297):=by
    intro rh i1 i2 hc;rw[aj (by omega)];by_cases hr:rh<4294967296
    .rw[aj hr];have:ajc.wrap (rh+yn)=rh+yn:=qF (by omega) (by omega);rw[this]at hc⊢;omega
    .rw[ai hr];have:=mJ (rh+yn);omega
   simp only[bx,sz,ai8]
   refine Wp.seq (λ_=>True) (Wp.seq (λ_=>True) (Wp.loop (λs:Int×Int=>0<=s.2/\s.2<18446744073709551616) (λs=>if s.2<4294967296 then(4294967296-s.2).toNat else 4294967297) (mJ _) (Xd _ (mJ _).1) ?_) λ_ _=> .some trivial) λj9 _=>?_
   .rintro⟨q,rh⟩ ⟨i1,i2⟩
    refine .some ?_;split
    .split
     .trivial
     .rename_i hc;exact⟨mJ _,inv rh i1 i2 (by simpa using hc)⟩
    .trivial
   refine Wp.seq (λ_=>True) (Wp.seq (λ_=>True) (Wp.loop (λs:Int×Int=>0<=s.1/\s.1<18446744073709551616) (λs=>if s.1<4294967296 then(4294967296-s.1).toNat else 4294967297) (mJ _) (Xd _ (mJ _).1) ?_) λ_ _=> .some trivial) λj14 _=> .some trivial
   .rintro⟨rh,q⟩ ⟨i1,i2⟩
    refine .some ?_;split
    .split
     .trivial
     .rename_i hc;exact⟨mJ _,inv rh i1 i2 (by simpa using hc)⟩
    .trivial
 obtain⟨x,hx,_⟩:=key;exact⟨x,hx⟩
def lV(N:Nat)(m:Int):M.fQ N m=aa (decide (0<=m)&&decide (m<=5)):=by
 unfold M.fQ;simp only[bx,ai8,oz]
def pf(N:Nat)(n l:Int):M.eB N n l=aa (decide (l<n)||decide (n<ai9.wrap (0-l))):=by
 unfold M.eB;simp only[bx,ai8,sz]
def iI(N:Nat){n:Int}(h: -4611686018427387904<=n/\n<=4611686018427387904):M.dX N n=aa (if n<0 then-n else n):=by
 unfold M.dX;simp only[bx];refine ay aa ?_;by_cases hn:n<0
 .rw[aj (by simpa using hn),aj hn,BE n,BE];omega
 .rw[ai (by simpa using hn),ai hn,qF (by omega) (by omega)]
end L.P
end Go.Proofs.YtleifhfeahnocaaGreatDoor
