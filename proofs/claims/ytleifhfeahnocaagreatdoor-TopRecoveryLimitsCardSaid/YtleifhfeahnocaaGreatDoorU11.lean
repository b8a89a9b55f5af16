/- Joined texts: RU RV RW TV TX RY RZ PV PT. -/
import Derived.Test.YtleifhfeahnocaaGreatDoorU10
import Derived.Test.YtleifhfeahnocaaGreatDoorU1
open _root_.Bool renaming false->ag,true->af,false_eq_true->aiX,and_eq_true->ajH
open _root_.Option renaming none->ae,some->aa,bind_some->aiD
open _root_.Go.Lib renaming indexByte->ajY,compact->aji
open _root_.Go.IntKind renaming i64->aiE,u64->aiH
open _root_.List renaming getElem?_eq_getElem->aiG,getElem_mem->aiJ,getElem_of_mem->aiR,length_take->ajj,take_append_getElem->aiP,append_nil->ajv,drop_eq_getElem_cons->ai5,drop_of_length_le->ajo,getElem_append_left->ai7,getElem_append_right->ajc,replicate->aiN,take_length->aiS,getElem?_eq_some_iff->aiW,length_cons->aiU,length_nil->ajl,mem_append->aje,mem_cons->aju,pairwise_cons->ajL,range->ajp,getElem?_take->ajI,countP_eq_zero->akn
open _root_.Nat renaming le_of_lt->aj8,le_trans->aiY,le_refl->aiM,zero_le->ai6,add_zero->ajO,beq->aiK,div_div_eq_div_mul->akg,mul_le_mul_right->aiV,pow_add->akl
open _root_.Int renaming eq_ofNat_of_zero_le->aiI,tdiv->aiQ,tmod->ajd,toNat_natCast->aiL,le_refl->ajs
open _root_.Option.some renaming inj->aiF
namespace Go.Proofs.YtleifhfeahnocaaGreatDoor
open Go Go.RowKit
set_option maxRecDepth 100000
set_option linter.unusedSimpArgs false
set_option linter.unusedVariables false
set_option linter.defProp false
namespace L
noncomputable def xc:List ByteArray:=(M.nJ aV).getD []
def OR:M.nJ aV=aa xc:=by kernel_rfl
def Mi:xc.length<=100:=by unfold xc;decide+kernel
def Wd(c:Int):Prop:=(97<=c/\c<=122)\/(48<=c/\c<=57)\/c=95
def IdS(s:ByteArray):Prop:=s.size<=16/\(∃h:0<s.size,97<=s[0].toNat/\s[0].toNat<=122)/\(∀k,∀h:k<s.size,Wd (s[k].toNat:Int))/\s∉xc
theorem Mj(s:ByteArray):oY s=af↔IdS s:=by
 have key:Wp (M.k7 aV s) λr=>r=af↔IdS s:=by
  have hl:=Mi;unfold M.k7;simp only[De,OM,OR,W_,av,ax,reduceCtorEq];refine⟨λh=>?_,λh0=>⟨λh=>?_,λh16=>?_⟩⟩
  .exact aA id λg=>by obtain⟨_,⟨g,_⟩,_⟩:=g;omega
  .exact aA id λg=>by have:=g.1;omega
  refine sW.2 ⟨by omega,?_⟩;have e0:((0:Int).toNat)=0:=rfl;simp only[e0];refine⟨λh=>aA id λg=>?_,λWh=>?_⟩
  .obtain⟨_,⟨_,g⟩,_⟩:=g;grind
  refine Wp.count (λs=>s) s.size (λk _=>∀j,j<k->∀h:j<s.size,Wd (s[j].toNat:Int)) (by omega) rfl (λj hj=>by omega) λk c hk hs hJ=>?_
  obtain rfl:c=_:=hs;simp only[W_,av,ax,reduceCtorEq,bg,aY];refine⟨λaH=>sW.2 ⟨by omega,?_⟩,λhge=>?_⟩
  .have aH:k<s.size:=by omega
   have ek:((k:Int).toNat)=k:=by omega
   simp only[ek];exact⟨λh=>aA id λg=>h (g.2.2.1 k aH),λh=>⟨aH,aT (by omega),eH hJ λ_=>h⟩⟩
  refine Wp.count (λs=>s) xc.length (λk _=>∀j,j<k->∀h:j<xc.length,xc[j]≠s) (by omega) rfl (λj hj=>by omega) λi c hi hs hI=>?_
  obtain rfl:c=_:=hs;simp only[W_,av,ax,reduceCtorEq,bg,aY];refine⟨λaH=>?_,λaf0=>?_⟩
  .have aH:i<xc.length:=by omega
   simp only[aF aH,cN (m:=xc.length) (by omega) aH,W_,av,ax,reduceCtorEq];exact⟨λh=>aA id λg=>g.2.2.2 (h▸aiJ aH),(by grind)⟩
  .refine iff_of_true trivial ⟨by omega,⟨by omega,by omega⟩,λj h=>hJ j (by omega) h,λhm=>?_⟩
   grind [aiR]
 obtain⟨r,hr,h⟩:=key;unfold oY
 grind
def ui(s:ByteArray):List ByteArray->Option Bool
 |[]=>aa ag
 |[w]=>aa (decide (s=w))
 |w::l=>if decide (s=w)=af then aa (decide (s=w))else ui s l
theorem zv(s:ByteArray):(l:List ByteArray)->ui s l=aa (decide (s∈l))
 |[]=>by simp[ui]
 |[w]=>by simp[ui]
 |w::w'::l=>by
  unfold ui;rw[zv s (w'::l)]
  grind
def Di(s:ByteArray):M.ln aV s=aa (decide (s∈xc)):=by
 have:M.ln aV s=(ui s xc).bind λj=>if j=af then aa af else aa ag:=by kernel_rfl
 grind [zv]
def zw(c:Int):M.ko aV c=aa (decide (97<=c/\c<=122)):=by
 apply Wp.eq;unfold M.ko;simp only[W_,av,ax,reduceCtorEq];omega
def Jp(c:Int):M.ml aV c=aa (decide (48<=c/\c<=57)):=by
 apply Wp.eq;unfold M.ml;simp only[W_,av,ax,reduceCtorEq];omega
def yt(s:ByteArray)(hs:s.size<=maxLen):Wp (M.jG aV s) λn=>n=(s.size:Int)↔∀k,∀h:k<s.size,Wd (s[k].toNat:Int):=by
 unfold M.jG;simp only[zw,Jp]
 refine Wp.count (λs=>s) s.size (λk _=>∀j,j<k->∀h:j<s.size,Wd (s[j].toNat:Int)) hs rfl (λj hj=>by omega) λk c hk uj hJ=>?_
 obtain rfl:c=_:=uj
 rcases Nat.lt_or_ge k s.size with aH|hge
 .have hb:lW s (k:Int)=aa (s[k].toNat:Int):=by
   have:=(Qd (x:=((s[k].toNat:Nat):Int))).1 (sW (s:=s) (i:=(k:Int)).2 ⟨by omega,by simp⟩);exact this
  simp only[Fx aH,hb,cN hs aH,W_,av,ax,reduceCtorEq,bg,aY];unfold Wd at*
  have ok:(97<=(s[k].toNat:Int)/\(s[k].toNat:Int)<=122)\/(48<=(s[k].toNat:Int)/\(s[k].toNat:Int)<=57)\/(s[k].toNat:Int)=95->k<s.size/\∀j,j<k+1->∀h:j<s.size,(97<=(s[j].toNat:Int)/\(s[j].toNat:Int)<=122)\/(48<=(s[j].toNat:Int)/\(s[j].toNat:Int)<=57)\/(s[j].toNat:Int)=95:=λh=>⟨aH,eH hJ λ_=>h⟩
  grind
 .obtain rfl:k=s.size:=by omega
  simp only[oX,W_,av,ax,reduceCtorEq,aY]
  grind
def uk(s:ByteArray)(hs:s.size<=maxLen):M.cu aV s=aa (oY s):=by
 have key:Wp (M.cu aV s) λr=>r=af↔IdS s:=by
  unfold M.cu;simp only[zw,Di,W_,av,ax,reduceCtorEq];refine⟨λh=>?_,λh=>?_⟩
  .have h0:0<s.size:=by
    rcases Nat.eq_zero_or_pos s.size with e|e
    .exact absurd (ByteArray.ext (by simp_all)) h
    .exact e
   refine sW.2 ⟨by omega,?_⟩;have e0:((0:Int).toNat)=0:=rfl;simp only[e0];refine⟨λWh=>(yt s hs).mono λn hn=>⟨λe=>⟨λh16=>?_,λh16=>aA id λg=>h16 (by have:=g.1;omega)⟩,λe=>aA id λg=>e (hn.2 g.2.2.1)⟩,λWh=>aA id λg=>?_⟩
   .exact⟨λg=>⟨by omega,⟨h0,by omega⟩,hn.1 e,g⟩,λg=>g.2.2.2⟩
   .obtain⟨_,⟨_,g⟩,_⟩:=g;grind
  .refine aA id λg=>?_
   obtain⟨_,⟨g,_⟩,_⟩:=g;subst h;cases g
 obtain⟨r,hr,h⟩:=key
 grind [Mj]
theorem qn{β:Type}{l:List (ByteArray×β)}{nm:ByteArray}:0<=fE (λx=>decide (x.1=nm)) l↔jQ l nm:=by
 rw[og];unfold jQ;simp
def rU(l:List En)(nm:ByteArray)(hl:l.length<=maxLen):M.jo aV l nm=aa (decide (jQ l nm)):=by
 have:M.bC aV l nm=aa (fE (λx=>decide (x.1=nm)) l,nm):=by
  unfold M.bC M.lp;exact w7 hl (λk h=>by simp only[aF h,mB h,aiD,if_true]) (by grind)
 grind [M.jo,M.bU,qn]
def uU(l:List Qg)(nm:ByteArray)(hl:l.length<=maxLen):M.jH aV l nm=aa (decide (jQ l nm)):=by
 have:M.bt aV l nm=aa (fE (λx=>decide (x.1=nm)) l,nm):=by
  unfold M.bt M.kU;exact w7 hl (λk h=>by simp only[aF h,mB h,aiD,if_true]) (by grind)
 grind [M.jH,M.bI,qn]
def s7(l:List Fd)(f:Fd)(hl:l.length<=maxLen):M.bd aV l f=aa (decide (jQ l f.1),f):=by
 have:M.bu aV l f=aa (fE (λx=>decide (x.1=f.1)) l,f):=by
  unfold M.bu M.jr;exact w7 hl (λk h=>by simp only[aF h,mB h,aiD,if_true]) (by grind)
 grind [M.bd,qn]
def Dj(l:List ue)(f:ue)(hl:l.length<=maxLen):M.bp aV l f=aa (decide (jQ l f.1),f):=by
 have:M.bD aV l f=aa (fE (λx=>decide (x.1=f.1)) l,f):=by
  unfold M.bD M.ke;exact w7 hl (λk h=>by simp only[aF h,mB h,aiD,if_true]) (by grind)
 grind [M.bp,qn]
def A6(l:List iJ)(f:iJ)(hl:l.length<=maxLen):M.be aV l f=aa (decide (jQ l f.1),f):=by
 have:M.bw aV l f=aa (fE (λx=>decide (x.1=f.1)) l,f):=by
  unfold M.bw M.jv;exact w7 hl (λk h=>by simp only[aF h,mB h,aiD,if_true]) (by grind)
 grind [M.be,qn]
def FD(l:List ByteArray)(m:ByteArray)(hl:l.length<=maxLen):M.db aV l m=aa (decide (m∈l)):=by
 have:M.dK aV l m=aa (fE (λx=>decide (m=x)) l):=by
  unfold M.dK;exact Hb hl (λk h=>by simp only[aF h,mB h,aiD,if_true]) (by grind)
 grind [M.db,og]
def FE(l:List Int)(m:Int)(hl:l.length<=maxLen):M.eI aV l m=aa (decide (m∈l)):=by
 have:M.fQ aV l m=aa (fE (λx=>decide (m=x)) l):=by
  unfold M.fQ;exact Hb hl (λk h=>by simp only[aF h,mB h,aiD,if_true]) (by grind)
 grind [M.eI,og]
def mK{α:Type}{l:List α}{k:Nat}(h:k<=l.length):fX l (0:Int) (k:Int)=aa (l.take k):=by
 apply Wp.eq;exact wp_cut.2 ⟨by omega,by simp⟩
def A7(l:Lw)(hw:WF bV l)(k:Nat)(hk:k<l.1.length):M.mm aV l (k:Int) l.1[k]=aa ((ql l k).getD (0,0)):=by
 have hx:WF dY l.1[k]:=hw.1.2 _ (aiJ hk);have w1:=hw.1.1;have hs:l.1[k].1.size<=maxLen:=hx.1;have hm:∀m∈l.1[k].2,ByteArray.size m<=maxLen:=hx.2.2;apply Wp.eq;unfold M.mm ql;rw[aiG hk];simp only[uk _ hs,mK (aj8 hk),rU (l.1.take k) _ (by grind),W_,av,ax,reduceCtorEq];generalize l.1[k]=x at*;refine⟨λh=>by grind,λh=>?_⟩;rw[ai (by simp[h])];refine⟨λh=>by grind,λh2=>?_⟩;rw[ai h2];refine⟨λh=>by grind,λh3=>?_⟩;rw[ai (by omega)];refine⟨λh=>by grind,λh4=>?_⟩;rw[ai (by omega)]
 refine Wp.count (λs=>s) x.2.length (λi _=>∀j,j<i->Me x.2 j=ae) (by omega) rfl (λj hj=>by omega) λi c hi hs hJ=>?_
 obtain rfl:c=_:=hs;simp only[W_,av,ax,reduceCtorEq,bg,aY];refine⟨λaH=>?_,λhge=>?_⟩
 .have aH:i<x.2.length:=by omega
  have hf:Me x.2 i=if oY x.2[i]=ag then aa (2,100+(i:Int))else if x.2[i]∈x.2.take i then aa (7,100+(i:Int))else ae:=by
   unfold Me;rw[aiG aH]
  simp only[aF aH,uk _ (hm _ (aiJ aH)),mK (aj8 aH),FD (x.2.take i) _ (by rw[ajj];unfold maxLen;omega),sZ (k:=i) (a:=100) (by omega) (by omega),cN (m:=x.2.length) (by omega) aH,W_,av,ax,reduceCtorEq];refine⟨λh=>?_,λh=>⟨λh2=>?_,λh2=>⟨aH,eH hJ ?_⟩⟩⟩
  all_goals grind [ff]
 grind [cr]
def yu(l:Lw)(hw:WF bV l):M.lq aV l=aa (if 8<l.1.length then((4:Int),((1:Int),((8:Int),(0:Int))))else match cV (λk=>(ql l k).map λe=>(k,e)) l.1.length with
 |some (k,e)=>sY 1 (k:Int) (aa e)
 |none=>Md):=by
 have w1:=hw.1.1;unfold maxLen at w1;apply Wp.eq;unfold M.lq;simp only[W_,av,ax,reduceCtorEq];refine⟨λh=>by grind,λh8=>?_⟩;rw[ai (by omega)]
 refine Wp.count (λs=>s) l.1.length (λi _=>∀j,j<i->(λk=>(ql l k).map λe=>(k,e)) j=ae) w1 rfl (λj hj=>by omega) λi c hi hs hJ=>?_
 obtain rfl:c=_:=hs;simp only[W_,av,ax,reduceCtorEq,bg,aY];refine⟨λaH=>?_,λhge=>?_⟩
 .have aH:i<l.1.length:=by omega
  simp only[aF aH,A7 l hw i aH,cN w1 aH,W_,av,ax,reduceCtorEq];refine⟨λh=>?_,λh=>⟨aH,eH hJ ?_⟩⟩
  .cases he:ql l i with
   |none=>grind
   |some e=>rw[ff (SD he) hJ aH];rfl
  .cases he:ql l i with
   |none=>rfl
   |some e=>grind [uh]
 .rw[cr.2 λj hj=>hJ j (by omega)];rfl
theorem pE(t:Ty)(E:List En):M.cW aV t E=aa (decide (oC t E.length)):=by
 obtain⟨(k:Int),(e:Int)⟩:=t;apply Wp.eq;unfold M.cW;simp only[W_,av,ax,reduceCtorEq];simp only[oC];dsimp only[aB,Row.den]at*;omega
def vH(t:Ty)(E:List En):M.fO aV t E=aa (yo t E):=by
 obtain⟨(k:Int),(e:Int)⟩:=t;apply Wp.eq;unfold M.fO yo;simp only[pE,W_,av,ax,reduceCtorEq];by_cases hv:oC (k,e) E.length
 .simp only[hv,not_true_eq_false,if_false,false_implies,true_implies,true_and];refine⟨λh=>by rw[aj h],λh1=>⟨λh=>by rw[ai h1,aj h],λh2=>⟨λh=>by rw[ai h1,ai h2,aj h],λh3=>⟨λh=>by rw[ai h1,ai h2,ai h3,aj h],λh4=>⟨(by grind),λh5=>?_⟩⟩⟩⟩⟩;simp only[oC]at hv;dsimp only[aB,Row.den]at*
  have hi:e.toNat<E.length:=by omega
  refine eQ.2 ⟨by omega,?_⟩
  grind
 grind
def um(r:Ty):M.dS aV r=aa (decide (VR r)):=by
 obtain⟨(k:Int),(e:Int)⟩:=r;apply Wp.eq;unfold M.dS;simp only[W_,av,ax,reduceCtorEq];simp only[VR];grind
def Jq(a b:Rw):M.lr aV a b=aa (decide (uS a b)):=by
 obtain⟨⟨(a1:Int),(a2:Int)⟩,(a3:Int),(a4:Int),(a5:Int)⟩:=a;obtain⟨⟨(b1:Int),(b2:Int)⟩,(b3:Int),(b4:Int),(b5:Int)⟩:=b;apply Wp.eq;unfold M.lr M.jY M.dL;simp only[um,W_,av,ax,reduceCtorEq];simp only[uS];dsimp only[aB,Row.den]at*
 by_cases h1:VR (a1,a2)<;>by_cases h2:VR (b1,b2)<;>simp only[h1,h2,W_,av,ax,reduceCtorEq]<;>omega
def Mk(l:List Rw)(x:Rw)(hl:l.length<=maxLen):Wp (M.cx aV l x) λr=>r.2.1=af↔∃y∈l,uS y x:=by
 unfold M.cx M.jq
 refine Wp.count (λs=>s.1) l.length (λk s=>s.2=x/\∀j,j<k->∀h:j<l.length,¬uS l[j] x) hl rfl ⟨rfl,λj hj=>by omega⟩ λk c hk hs hJ=>?_
 obtain⟨c1,c2⟩:=c;obtain⟨h1,hJ⟩:=hJ;obtain rfl:c2=x:=h1;obtain rfl:c1=_:=hs;simp only[Jq,W_,av,ax,reduceCtorEq,bg,aY];refine⟨λaH=>?_,λhge=>?_⟩
 .have aH:k<l.length:=by omega
  simp only[aF aH,cN hl aH,W_,av,ax,reduceCtorEq]
  grind
 .refine aA id ?_
  grind [aiR]
def OT(t:Qg)(E:List En):M.lu aV t E=aa (pV t E):=by
 apply Wp.eq;unfold M.lu pV;simp only[pE,vH,um,W_,av,ax,reduceCtorEq];refine⟨λh=>by grind,λh64=>?_⟩;rw[ai (c:=64<t.2.2.2.length) (by omega)];refine⟨λh1=>by rw[aj (λg=>h1 g.1)],λh1=>⟨(by grind),λh2=>?_⟩⟩;rw[ai (λg=>g ⟨h1,h2⟩)]
 refine Wp.count (λs=>s) t.2.2.2.length (λk _=>∀j,j<k->AZ t E j=ae) (by omega) rfl (λj hj=>by omega) λk s hk hs hJ=>?_
 obtain rfl:s=_:=hs;simp only[W_,av,ax,reduceCtorEq,bg,aY];refine⟨λaH=>?_,λhge=>?_⟩
 .have aH:k<t.2.2.2.length:=by omega
  have hf:AZ t E k=if wX t.2.2.2[k] t E then aa ((k:Int),3)else if∃y∈t.2.2.2.take k,uS y t.2.2.2[k]then aa ((k:Int),11)else ae:=by
   unfold AZ;rw[aiG aH]
  have bad:wX t.2.2.2[k] t E->((k:Int),(3:Int))=(cV (AZ t E) t.2.2.2.length).getD (0,0):=λhw=>by
   grind [ff]
  have A8:¬wX t.2.2.2[k] t E->Wp (M.cx aV (t.2.2.2.take k) t.2.2.2[k]) λy=>(y.2.1=af->((k:Int),(11:Int))=(cV (AZ t E) t.2.2.2.length).getD (0,0))/\(y.2.1=ag->k<t.2.2.2.length/\∀j,j<k+1->AZ t E j=ae):=λhw=>by
   rw[ai hw]at hf
   refine(Mk _ _ (by rw[ajj];unfold maxLen;omega)).mono λy hy=>⟨λh=>?_,λh=>⟨aH,eH hJ ?_⟩⟩
   all_goals grind [ff]
  simp only[aF aH,mK (aj8 aH),cN (m:=t.2.2.2.length) (by omega) aH,W_,av,ax,reduceCtorEq];unfold wX at bad A8;unfold BL at bad A8
  grind
 grind [cr]
def Ml{t:Qg}{E:List En}:(pV t E).2≠0->((pV t E).1= -1\/(0<=(pV t E).1/\(pV t E).1<=64)):=by
 unfold pV;intro h;split
 .grind
 split
 .exact .inl rfl
 rename_i h1 h2
 cases hf:cV (AZ t E) t.2.2.2.length with
 |none=>grind
 |some e=>
  obtain⟨k,hk,he,_⟩:=fe hf;unfold AZ at he;split at he
  .cases he
  split at he
  .grind
  split at he
  all_goals grind
def xd(l:Lw)(hw:WF bV l):M.kB aV l=aa (if 8<l.2.1.length then((4:Int),((2:Int),((8:Int),(0:Int))))else match cV (λk=>(s6 l k).map λe=>(k,e)) l.2.1.length with
 |some (k,e)=>sY 2 (k:Int) (aa e)
 |none=>Md):=by
 have w1:=hw.2.1.1;have w0:=hw.1.1;have wt:∀t∈l.2.1,WF bm t:=hw.2.1.2;unfold maxLen at w1;apply Wp.eq;unfold M.kB;simp only[W_,av,ax,reduceCtorEq];refine⟨λh=>by grind,λh8=>?_⟩;rw[ai (by omega)]
 refine Wp.count (λs=>s) l.2.1.length (λi _=>∀j,j<i->(λk=>(s6 l k).map λe=>(k,e)) j=ae) w1 rfl (λj hj=>by omega) λi c hi hs hJ=>?_
 obtain rfl:c=_:=hs;simp only[W_,av,ax,reduceCtorEq,bg,aY];refine⟨λaH=>?_,λhge=>?_⟩
 .have aH:i<l.2.1.length:=by omega
  have kP:l.2.1[i].1.size<=maxLen:=(wt _ (aiJ aH)).1
  have hE:s6 l i=if oY l.2.1[i].1=ag then aa (2,0)else if jQ l.1 l.2.1[i].1\/jQ (l.2.1.take i) l.2.1[i].1 then aa (7,0)else if(pV l.2.1[i] l.1).2=0 then ae else aa ((pV l.2.1[i] l.1).2,if 0<=(pV l.2.1[i] l.1).1 then 100+(pV l.2.1[i] l.1).1 else 0):=by
   unfold s6;rw[aiG aH]
  simp only[aF aH,OT,uk _ kP,mK (aj8 aH),rU _ _ w0,uU (l.2.1.take i) _ (by rw[ajj];unfold maxLen;omega),cN w1 aH,W_,av,ax,reduceCtorEq]
  have bad:∀e,s6 l i=aa e->sY 2 (i:Int) (aa e)=(match cV (λk=>(s6 l k).map λe=>(k,e)) l.2.1.length with|some (k,e)=>sY 2 (k:Int) (aa e)|none=>Md):=λe he=>by
   rw[ff (SD he) hJ aH]
  have A8:s6 l i=ae->i<l.2.1.length/\∀j,j<i+1->(λk=>(s6 l k).map λe=>(k,e)) j=ae:=(by grind)
  have Rs:=Ml (t:=l.2.1[i]) (E:=l.1);generalize pV l.2.1[i] l.1=te at*;obtain⟨(r:Int),(c:Int)⟩:=te;dsimp only at*;refine⟨λh=>?_,λh=>⟨λh2=>?_,λh2=>⟨λh3=>?_,λh3=>⟨λh4=>?_,λh4=>?_⟩⟩⟩⟩
  .exact⟨λ_=>bad (2,0) (hE.trans (aj h)),λg=>absurd g (by decide)⟩
  .rw[ai (c:=oY l.2.1[i].1=ag) (by simp[h]),aj (Or.inl h2)]at hE;exact⟨λ_=>bad (7,0) hE,λg=>absurd g (by decide)⟩
  .rw[ai (c:=oY l.2.1[i].1=ag) (by simp[h]),aj (Or.inr h3)]at hE;exact⟨λ_=>bad (7,0) hE,λg=>absurd g (by decide)⟩
  .rw[ai (c:=oY l.2.1[i].1=ag) (by simp[h]),ai (λg=>g.elim h2 h3),ai h4]at hE;have hr:=Rs h4;refine⟨λg=>⟨λ_=>?_,λe=>absurd e h4⟩,λg=>⟨λ_=>?_,λe=>absurd e h4⟩⟩
   .rw[aX (by omega) (by omega)];exact bad (c,100+r) (hE.trans (by grind))
   .exact bad (c,0) (hE.trans (by grind))
  grind
 .rw[cr.2 λj hj=>hJ j (by omega)];rfl
noncomputable def qp(l:Lw)(f:Fd)(a b:List Fd):Int:=if oY f.1=ag then 2 else if jQ a f.1\/jQ b f.1 then 7 else if¬oC f.2 l.1.length then 8 else 0
def rr(l:Lw)(f:Fd)(a b:List Fd)(hf:f.1.size<=maxLen)(ha:a.length<=maxLen)(hb:b.length<=maxLen):M.jt aV l f a b=aa (qp l f a b):=by
 apply Wp.eq;unfold M.jt;simp only[uk _ hf,s7 _ _ ha,s7 _ _ hb,pE,W_,av,ax,reduceCtorEq]
 grind [qp]
def A9(l:List UInt8)(c:UInt8):0<=ajY l c↔c∈l:=by
 induction l with
 |nil=>simp[ajY]
 |cons b l ih=>
  have hg:=Go.Lib.indexByte_ge l c;unfold ajY
  grind
def xe(s:ByteArray)(_:s.size<=maxLen):M.kC aV s=aa (decide (plain s)):=by
 have hc:M.strings_Contains aV s (⟨#[34]⟩:ByteArray)=aa (decide (0<=ajY s.data.toList 34)):=rfl
 have cP:0<=ajY s.data.toList 34↔∃i,∃h:i<s.size,(s[i].toNat:Int)=34:=by
  rw[A9];constructor
  .intro h;obtain⟨i,hi,e⟩:=aiR h;refine⟨i,by simpa using hi,?_⟩
   have:s[i]'(by simpa using hi)=34:=by
    have e:s.data[i]'(by simpa using hi)=34:=by simpa using e
    exact e
   rw[this];rfl
  .rintro⟨i,hi,e⟩
   have e2:s[i]=34:=by
    apply UInt8.toNat_inj.1
    show s[i].toNat=34
    omega
   have:(34:UInt8)=s.data.toList[i]'(by simpa using hi):=by rw[<-e2];simp;rfl
   grind
 apply Wp.eq;unfold M.kC;simp only[hc,W_,av,ax,reduceCtorEq];refine⟨λh=>?_,λh64=>⟨λh=>?_,λOU=>?_⟩⟩
 .grind [plain]
 .grind [plain]
 refine Wp.count (λs=>s) s.size (λi _=>∀j,j<i->∀h:j<s.size,32<=(s[j].toNat:Int)/\(s[j].toNat:Int)<=126) (by omega) rfl (λj hj=>by omega) λi c hi hs hJ=>?_
 obtain rfl:c=_:=hs
 rcases Nat.lt_or_ge i s.size with aH|hge
 .have hb:lW s (i:Int)=aa (s[i].toNat:Int):=by
   have:=(Qd (x:=((s[i].toNat:Nat):Int))).1 (sW (s:=s) (i:=(i:Int)).2 ⟨by omega,by simp⟩);exact this
  simp only[Fx aH,hb,cN (m:=s.size) (by omega) aH,W_,av,ax,reduceCtorEq,bg,aY];refine⟨λh=>?_,λh=>⟨λh2=>?_,λh2=>⟨aH,eH hJ λ_=>by omega⟩⟩⟩
  all_goals grind [plain]
 .obtain rfl:i=s.size:=by omega
  simp only[oX,W_,av,ax,reduceCtorEq,aY];refine(⟨λi hi=>?_,by omega⟩:plain s)
  grind
def Dk(sg:rq):Prop:=∀e:List Ty,(∀n∈e,WF aD n)->M.nW aV e sg=aa (Kg e sg)
def np{sg:rq}(hT:Dk sg){e:List Ty}(want:Ty)(hw:∀n∈e,WF aD n):M.ga aV e sg want=aa (w4 e sg want):=by
 apply Wp.eq;unfold M.ga;simp only[hT e hw,Kf,W_,av,ax,reduceCtorEq]
 grind [w4]
def Ba(l:Lw)(x:iJ)(hw:WF aM x)(gv:iq x)(hT:Dk (gn l x))(k:Nat)(hk:k<x.2.2.2.2.length):M.kr aV x (k:Int) (gn l x)=aa (w6 l x k x.2.2.2.2[k]):=by
 have Ki:=hw.2.2.2.2.2 _ (aiJ hk);have Qh:=gv.2.2.2.2.2.2 _ (aiJ hk)
 obtain⟨r,hr⟩:∃r,r=x.2.2.2.2[k]:=⟨_,rfl⟩
 have Wi:=gv.2.2.2.1
 have OV:Wp (Loop (S:=Int×Int) (X:=Int) (λs4=>
  (if(decide (s4.2<((x.2.2.2.2.take k).length:Int)))=af then
  ((idx (x.2.2.2.2.take k) s4.2).bind λx6=>
  (if(decide ((x6.2.1:Int)=r.2.1))=af then
  some (aiE.wrap (s4.1+(1:Int)))
  else
  some s4.1):Option (Int)).bind λj5=>
  some (Sum.inl (j5,aiE.wrap (s4.2+(1:Int))))
  else
  some (Sum.inr s4.1))) aV ((0:Int),(0:Int))) λn=>n=(OP x k r.2.1:Int):=by
  have Qi:(x.2.2.2.2.take k).length=k:=by rw[ajj];omega
  refine Wp.count (λs=>s.2) k (λj s=>s.1=(((x.2.2.2.2.take j).countP λr'=>decide ((r'.2.1:Int)=r.2.1):Nat):Int)) (by omega) rfl rfl λj s hj hs XD=>?_
  obtain⟨sb,c⟩:=s;dsimp only at hs XD;subst hs;rw[Qi];have QT:(x.2.2.2.2.take j).countP (λr'=>decide ((r'.2.1:Int)=r.2.1))<=60:=aiY List.countP_le_length (by rw[ajj];omega);simp only[W_,av,ax,reduceCtorEq,bg,aY];refine⟨λWj=>?_,λWj=>?_⟩
  .have EG:j<x.2.2.2.2.length:=by omega
   have hjt:j<(x.2.2.2.2.take k).length:=by omega
   simp only[aF hjt,List.getElem_take,cN (m:=k) (by omega) (show j<k by omega),W_,av,ax,reduceCtorEq]
   have LV:(x.2.2.2.2.take (j+1)).countP (λr'=>decide ((r'.2.1:Int)=r.2.1))=(x.2.2.2.2.take j).countP (λr'=>decide ((r'.2.1:Int)=r.2.1))+if(x.2.2.2.2[j].2.1:Int)=r.2.1 then 1 else 0:=by
    rw[<-aiP EG,List.countP_append];simp[List.countP_cons]
   refine⟨λh'=>⟨by omega,?_⟩,λh'=>⟨by omega,?_⟩⟩
   .rw[LV,aj h',XD,aX (by omega) (by omega)];rfl
   .rw[LV,ai h',XD];rfl
  .obtain rfl:j=k:=by omega
   exact XD
 apply Wp.eq;unfold M.kr;rw[<-hr];have kP:r.1.size<=maxLen:=(hr▸Ki).1
 have abb:r.2.2.2.2.2.2.2.size<=maxLen:=by
  have:=(hr▸Qh).2.1;unfold maxLen;omega
 have QT:OP x k r.2.1<=60:=aiY List.countP_le_length (by rw[ajj];omega);have hg:∀n∈r.2.2.2.2.2.1,WF aD n:=(hr▸Ki).2.2.2.2.2.1.2;have hv:∀n∈r.2.2.2.2.2.2.1,WF aD n:=(hr▸Ki).2.2.2.2.2.2.1.2;have SE:w5 x k r↔(r.2.2.1:Int)≠-1/\((r.2.2.1:Int)<0\/(k:Int)<=r.2.2.1\/∃y,x.2.2.2.2[(r.2.2.1:Int).toNat]? =aa y/\(y.2.1:Int)≠r.2.1):=Iff.rfl;simp only[aF hk,<-hr,mK (aj8 hk),Dj (x.2.2.2.2.take k) _ (by rw[ajj];unfold maxLen;omega),uk _ kP,xe _ abb,W_,av,ax,reduceCtorEq];simp only[az]at OV
 refine OV.mono λn hn=>?_
 subst hn;clear OV Ki Qh hr;unfold w6;refine⟨λh=>by rw[aj h],λh1=>?_⟩;rw[ai (c:=oY r.1=ag) (by simp[h1])];refine⟨λh=>by rw[aj h],λh2=>?_⟩;rw[ai (c:=jQ (x.2.2.2.2.take k) r.1) h2];generalize OP x k r.2.1=q at*;obtain⟨nm,(d:Int),(p:Int),(pr:Int),v,g,val,src⟩:=r;obtain⟨(v1:Int),(v2:Int)⟩:=v;dsimp only[aB,Row.den]at*;refine⟨λh=>by rw[aj (c:=¬(0<=d/\d<(x.2.2.2.1.length:Int))) (by omega)],λh3=>⟨λh=>by rw[aj (c:=¬(0<=d/\d<(x.2.2.2.1.length:Int))) (by omega)],λh4=>?_⟩⟩;rw[ai (c:=¬(0<=d/\d<(x.2.2.2.1.length:Int))) (by omega)]
 have hd:d.toNat<x.2.2.2.1.length:=by omega
 have XE:¬VR ((v1,v2):Ty)\/v1=v2↔v1<0\/v2<=v1\/109573<v2:=by
  simp only[VR];dsimp only[aB,Row.den];omega
 refine⟨λhp=>⟨λh=>by rw[aj (SE.2 ⟨hp, .inl h⟩)],λh5=>⟨λh=>by rw[aj (SE.2 ⟨hp, .inr (.inl h)⟩)],λh6=>eQ.2 ⟨⟨by omega,by omega⟩,λh7=>by rw[aj (SE.2 ⟨hp, .inr (.inr ⟨_,aiG (by omega),h7⟩)⟩)],λh7=>?_⟩⟩⟩,λhp=>?_⟩
 .have Ts:¬w5 x k (nm,d,p,pr,(v1,v2),g,val,src):=λh=>by
   obtain⟨_,g1|g1|⟨y,g1,g2⟩⟩:=SE.1 h
   .omega
   .omega
   .rw[aiG (by omega)]at g1;cases g1;exact g2 h7
  clear SE;rw[ai Ts]
  have last:Wp (idx x.2.2.2.1 d) λx_3=>Wp (M.ga aV val (gn l x) x_3.2) λx_4=>x_4=match x.2.2.2.1[d.toNat]? with
   |some d=>w4 val (gn l x) d.2
   |none=>0:=by
   refine eQ.2 ⟨by omega,?_⟩;rw[np hT _ hv,aiG hd];exact .some rfl
  by_cases g1:pr<0\/9<pr\/¬VR ((v1,v2):Ty)\/v1=v2
  .rw[aj g1];refine⟨λ_=>rfl,λa1=>⟨λ_=>rfl,λa2=>⟨λ_=>rfl,λa3=>⟨λ_=>rfl,λa4=>⟨λ_=>rfl,λa5=>?_⟩⟩⟩⟩⟩;rw[XE]at g1;omega
  rw[ai g1]
  have T6:¬(pr<0\/9<pr\/v1<0\/v2<=v1\/109573<v2):=by rw[<-XE];exact g1
  refine⟨λh=>by omega,λa1=>⟨λh=>by omega,λa2=>⟨λh=>by omega,λa3=>⟨λh=>by omega,λa4=>⟨λh=>by omega,λa5=>?_⟩⟩⟩⟩⟩;refine⟨λh=>by rw[aj (by omega)],λh8=>?_⟩;rw[ai (by omega)];refine⟨λh=>by rw[aj h],λh9=>?_⟩;rw[ai (λh=>h h9)];refine⟨λh=>?_,λh=>?_⟩
  .rw[np hT _ hg];refine .some ⟨λh'=>by rw[aj ⟨by omega,h'⟩],λh'=>?_⟩;rw[ai (λg=>g.2 h')];exact last
  .rw[ai (λg=>h (by omega))];exact last
 .have Ts:¬w5 x k (nm,d,p,pr,(v1,v2),g,val,src):=λh=>(SE.1 h).1 hp
  clear SE;rw[ai Ts]
  have last:Wp (idx x.2.2.2.1 d) λx_3=>Wp (M.ga aV val (gn l x) x_3.2) λx_4=>x_4=match x.2.2.2.1[d.toNat]? with
   |some d=>w4 val (gn l x) d.2
   |none=>0:=by
   refine eQ.2 ⟨by omega,?_⟩;rw[np hT _ hv,aiG hd];exact .some rfl
  by_cases g1:pr<0\/9<pr\/¬VR ((v1,v2):Ty)\/v1=v2
  .rw[aj g1];refine⟨λ_=>rfl,λa1=>⟨λ_=>rfl,λa2=>⟨λ_=>rfl,λa3=>⟨λ_=>rfl,λa4=>⟨λ_=>rfl,λa5=>?_⟩⟩⟩⟩⟩;rw[XE]at g1;omega
  rw[ai g1]
  have T6:¬(pr<0\/9<pr\/v1<0\/v2<=v1\/109573<v2):=by rw[<-XE];exact g1
  refine⟨λh=>by omega,λa1=>⟨λh=>by omega,λa2=>⟨λh=>by omega,λa3=>⟨λh=>by omega,λa4=>⟨λh=>by omega,λa5=>?_⟩⟩⟩⟩⟩;refine⟨λh=>by rw[aj (by omega)],λh8=>?_⟩;rw[ai (by omega)];refine⟨λh=>by rw[aj h],λh9=>?_⟩;rw[ai (λh=>h h9)];refine⟨λh=>?_,λh=>?_⟩
  .rw[np hT _ hg];refine .some ⟨λh'=>by rw[aj ⟨by omega,h'⟩],λh'=>?_⟩;rw[ai (λg=>g.2 h')];exact last
  .rw[ai (λg=>h (by omega))];exact last
def Jr(x:iJ):Prop:=∀d:Nat,d<x.2.2.2.1.length->∃tr,M.dx aV x (d:Int)=aa tr/\tr.length<=1000/\((d:Int)∈tr↔(d:Int)∈Kh x d)
def Js(l:Lw)(k:Nat)(hk:k<l.2.2.length)(hs:∀s∈l.2.2,s.2.2.1.length<=100000/\s.2.2.2.1.length<=100000):M.jZ aV l (k:Int)=aa ((gn l l.2.2[k]).1,(gn l l.2.2[k]).2.1,(gn l l.2.2[k]).2.2.2.2.2,(gn l l.2.2[k]).2.2.1,(gn l l.2.2[k]).2.2.2.1,(gn l l.2.2[k]).2.2.2.2.1):=by
 rw[<-OO l k hk hs];unfold M.mS;rw[ai (by simp),aiD,ai (by simp;omega)];rfl
def SF(l:Lw)(x:iJ)(i:Nat)(h:i<x.2.2.1.length):Mf l x i=if qp l x.2.2.1[i] (x.2.2.1.take i) []≠0 then aa (qp l x.2.2.1[i] (x.2.2.1.take i) [],100+(i:Int))else ae:=by
 have hn:∀nm,¬jQ ([]:List Fd) nm:=λnm ⟨y,hy,_⟩=>by cases hy
 grind [Mf,qp]
def SG(l:Lw)(x:iJ)(i:Nat)(h:i<x.2.2.2.1.length):Mg l x i=if qp l x.2.2.2.1[i] x.2.2.1 (x.2.2.2.1.take i)≠0 then aa (qp l x.2.2.2.1[i] x.2.2.1 (x.2.2.2.1.take i),200+(i:Int))else ae:=by
 grind [Mg,qp]
def yv(l:Lw)(hw:WF bV l)(gv:ei l)(k:Nat)(hk:k<l.2.2.length)(hT:Dk (gn l l.2.2[k]))(hC:Jr l.2.2[k]):M.lB aV l (k:Int)=aa ((vo l k).getD (0,0)):=by
 have yF:=gv.2.2.2.2.2 _ (aiJ hk);have Hc:=hw.2.2.2 _ (aiJ hk)
 have Wk:=Js l k hk λs hs=>⟨by have:=(gv.2.2.2.2.2 s hs).2.1;omega,by have:=(gv.2.2.2.2.2 s hs).2.2.1;omega⟩
 have hE:vo l k=if oY l.2.2[k].1=ag then aa (2,0)else if jQ l.1 l.2.2[k].1\/jQ l.2.1 l.2.2[k].1\/jQ (l.2.2.take k) l.2.2[k].1 then aa (7,0)else if qm l k l.2.2[k]then aa (6,0)else
  if 12<l.2.2[k].2.2.1.length then aa (4,112)else if 12<l.2.2[k].2.2.2.1.length then aa (4,212)else((Jn l l.2.2[k]).or (cV (FC l l.2.2[k]) l.2.2[k].2.2.2.2.length)).or (cV (Jo l.2.2[k]) l.2.2[k].2.2.2.1.length):=by
  unfold vo;rw[aiG hk]
 have h5:=gv.2.2.1
 obtain⟨x,hx⟩:∃x,x=l.2.2[k]:=⟨_,rfl⟩
 simp only[<-hx]at yF Hc Wk hE hT hC;have Hd:=yF.2.2.1;have Wi:=yF.2.2.2.1;have af2:=yF.2.1;have kP:x.1.size<=maxLen:=Hc.1
 have Qi:(l.2.2.take k).length=k:=by rw[ajj];omega
 have cP:∀f∈x.2.2.1,(f.1:ByteArray).size<=maxLen:=λf hf=>by have:=yF.2.2.2.2.1 f hf;unfold maxLen;omega
 have hdf:∀f∈x.2.2.2.1,(f.1:ByteArray).size<=maxLen:=λf hf=>by have:=yF.2.2.2.2.2.1 f hf;unfold maxLen;omega
 apply Wp.eq;unfold M.lB;rw[aF hk,aiD,mK (aj8 hk),aiD,<-hx]
 have Mm:(((M.jo aV l.1 x.1).bind λy4=>
  (if y4=af then
  some (af,x)
  else
  (M.jH aV l.2.1 x.1).bind λy5=>
  (if y5=af then
  some (af,x)
  else
  (M.be aV (l.2.2.take k) x).bind λy6=>
  some (y6.1,y6.2))):Option (Bool×aM.den)))=aa (decide (jQ l.1 x.1\/jQ l.2.1 x.1\/jQ (l.2.2.take k) x.1),x):=by
  apply Wp.eq;simp only[rU _ _ hw.1.1,uU _ _ hw.2.1.1,A6 (l.2.2.take k) _ (by rw[Qi];unfold maxLen;omega),W_,av,ax,reduceCtorEq];exact⟨λh=>by rw[aq (Or.inl h)],λh1=>⟨λh=>by rw[aq (Or.inr (Or.inl h))],λh2=>ay (λb=>(b,x)) (decide_eq_decide.2 ⟨λh=> .inr (.inr h),λh=>(h.resolve_left h1).resolve_left h2⟩)⟩⟩
 rw[Mm,aiD,uk _ kP,aiD,hE];by_cases h1:oY x.1=ag
 .rw[aj (by simp[h1]),aj h1];exact .some rfl
 rw[ai (by simpa using h1),ai h1];by_cases h2:jQ l.1 x.1\/jQ l.2.1 x.1\/jQ (l.2.2.take k) x.1
 .rw[aj (aq h2),aj h2];exact .some rfl
 rw[ai (by simpa using h2),ai h2];have SH:qm l k x↔(x.2.1:Int)≠-1/\((x.2.1:Int)<0\/(k:Int)<=x.2.1\/∃y,l.2.2[(x.2.1:Int).toNat]? =aa y/\(y.2.1:Int)≠-1):=Iff.rfl
 have Wl:((if(!decide ((x.2.1:Int)=(-1:Int)))=af then
  (if(decide ((x.2.1:Int)<(0:Int)))=af then
  some af
  else
  (if(decide ((k:Int)<=x.2.1))=af then
  some af
  else
  (idx (l.2.2.take k) x.2.1).bind λx9=>
  some (!decide ((x9.2.1:Int)=(-1:Int)))))
  else
  some ag):Option (Bool))=aa (decide (qm l k x)):=by
  apply Wp.eq;simp only[W_,av,ax,reduceCtorEq]
  obtain⟨(m:Int),hm⟩:∃m:Int,m=x.2.1:=⟨_,rfl⟩
  simp only[<-hm]at SH⊢;refine⟨λhp=>⟨λh=>(SH.2 ⟨hp, .inl h⟩),λh3=>⟨λh=>(SH.2 ⟨hp, .inr (.inl h)⟩),λh4=>eQ.2 ⟨by dsimp only[aB,Row.den]at*;omega,?_⟩⟩⟩,λhp h=>(SH.1 h).1 hp⟩
  have hmn:m.toNat<k:=by dsimp only[aB,Row.den]at*;omega
  rw[List.getElem_take];have xS:l.2.2[m.toNat]? =aa (l.2.2[m.toNat]'(by omega)):=aiG (by omega);rw[<-decide_not];refine decide_eq_decide.2 ⟨λh g=>?_,λh=>Classical.not_not.1 λh'=>h (SH.2 ⟨hp, .inr (.inr ⟨_,xS,h'⟩)⟩)⟩;obtain⟨_,g1|g1|⟨y,g1,g2⟩⟩:=SH.1 g
  .exact absurd g1 h3
  .exact absurd g1 h4
  .rw[xS]at g1;cases g1;exact g2 h
 rw[Wl,aiD];by_cases h3:qm l k x
 .rw[aj (aq h3),aj h3];exact .some rfl
 rw[ai (by simpa using h3),ai h3];clear Mm Wl SH hE;dsimp only;by_cases h4:12<x.2.2.1.length
 .rw[aj (aq (by omega)),aj h4];exact .some rfl
 rw[ai (by rw[az];omega),ai h4];by_cases h5:12<x.2.2.2.1.length
 .rw[aj (aq (by omega)),aj h5];exact .some rfl
 rw[ai (by rw[az];omega),ai h5,Wk];unfold Jn;simp only[W_,av,ax,reduceCtorEq]
 refine Wp.count (λs=>s) x.2.2.1.length (λi _=>∀j,j<i->Mf l x j=ae) (by omega) rfl (λj hj=>by omega) λi c hi hs hJ=>?_
 obtain rfl:c=_:=hs;simp only[W_,av,ax,reduceCtorEq,bg,aY];refine⟨λaH=>?_,λhge=>?_⟩
 .have aH:i<x.2.2.1.length:=by omega
  have hf:=SF l x i aH;simp only[aF aH,mK (aj8 aH),rr l _ (x.2.2.1.take i) [] (cP _ (aiJ aH)) (by rw[ajj];unfold maxLen;omega) (by simp),sZ (k:=i) (a:=100) (by omega) (by omega),cN (m:=x.2.2.1.length) (by omega) aH,W_,av,ax,reduceCtorEq];refine⟨λh=>?_,λh=>⟨aH,eH hJ (by rw[hf,ai (λg=>g h)])⟩⟩;rw[ff (hf.trans (aj h)) hJ aH];rfl
 rw[cr.2 λj(hj:j<x.2.2.1.length)=>hJ j (by omega),Option.none_or];clear hJ
 refine Wp.count (λs=>s) x.2.2.2.1.length (λi _=>∀j,j<i->Mg l x j=ae) (by omega) rfl (λj hj=>by omega) λi c hi hs hJ=>?_
 obtain rfl:c=_:=hs;simp only[W_,av,ax,reduceCtorEq,bg,aY];refine⟨λaH=>?_,λhge=>?_⟩
 .have aH:i<x.2.2.2.1.length:=by omega
  have hf:=SG l x i aH;simp only[aF aH,mK (aj8 aH),rr l _ x.2.2.1 (x.2.2.2.1.take i) (hdf _ (aiJ aH)) (by unfold maxLen;omega) (by rw[ajj];unfold maxLen;omega),sZ (k:=i) (a:=200) (by omega) (by omega),cN (m:=x.2.2.2.1.length) (by omega) aH,W_,av,ax,reduceCtorEq];refine⟨λh=>?_,λh=>⟨aH,eH hJ (by rw[hf,ai (λg=>g h)])⟩⟩;rw[ff (hf.trans (aj h)) hJ aH];rfl
 rw[cr.2 λj(hj:j<x.2.2.2.1.length)=>hJ j (by omega),Option.none_or];clear hJ
 refine Wp.count (λs=>s) x.2.2.2.2.length (λi _=>∀j,j<i->FC l x j=ae) (by omega) rfl (λj hj=>by omega) λi c hi hs hJ=>?_
 obtain rfl:c=_:=hs;simp only[W_,av,ax,reduceCtorEq,bg,aY];refine⟨λaH=>?_,λhge=>?_⟩
 .have aH:i<x.2.2.2.2.length:=by omega
  have hf:FC l x i=if w6 l x i x.2.2.2.2[i]≠0 then aa (w6 l x i x.2.2.2.2[i],300+(i:Int))else ae:=by
   unfold FC;rw[aiG aH]
  have hr:M.kr aV x (i:Int) ((gn l x).1,((gn l x).2.1,((gn l x).2.2.1,((gn l x).2.2.2.1,((gn l x).2.2.2.2.1,(gn l x).2.2.2.2.2)))))=_:=Ba l x Hc yF hT i aH;simp only[hr,sZ (k:=i) (a:=300) (by omega) (by omega),cN (m:=x.2.2.2.2.length) (by omega) aH,W_,av,ax,reduceCtorEq];refine⟨λh=>?_,λh=>⟨aH,eH hJ (by rw[hf,ai (λg=>g h)])⟩⟩;rw[ff (hf.trans (aj h)) hJ aH];rfl
 rw[cr.2 λj(hj:j<x.2.2.2.2.length)=>hJ j (by omega),Option.none_or];clear hJ
 refine Wp.count (λs=>s) x.2.2.2.1.length (λi _=>∀j,j<i->Jo x j=ae) (by omega) rfl (λj hj=>by omega) λi c hi hs hJ=>?_
 obtain rfl:c=_:=hs;simp only[W_,av,ax,reduceCtorEq,bg,aY];refine⟨λaH=>?_,λhge=>?_⟩
 .have aH:i<x.2.2.2.1.length:=by omega
  obtain⟨tr,e1,e2,e3⟩:=hC i aH
  have hf:Jo x i=if(i:Int)∈Kh x i then aa (9,200+(i:Int))else ae:=rfl
  simp only[e1,FE tr _ (by unfold maxLen;omega),sZ (k:=i) (a:=200) (by omega) (by omega),cN (m:=x.2.2.2.1.length) (by omega) aH,W_,av,ax,reduceCtorEq];refine⟨λh=>?_,λh=>⟨aH,eH hJ (by rw[hf,ai (λg=>h (e3.2 g))])⟩⟩;rw[ff (hf.trans (aj (e3.1 h))) hJ aH];rfl
 .rw[cr.2 λj(hj:j<x.2.2.2.1.length)=>hJ j (by omega)];rfl
theorem xf(l:Lw)(hw:WF bV l)(gv:ei l)(hT:∀x∈l.2.2,Dk (gn l x))(hC:∀x∈l.2.2,Jr x):M.kD aV l=aa (if 4<l.2.2.length then((4:Int),((3:Int),((4:Int),(0:Int))))else match cV (λk=>(vo l k).map λe=>(k,e)) l.2.2.length with
 |some (k,e)=>sY 3 (k:Int) (aa e)
 |none=>Md):=by
 have w1:=hw.2.2.1;unfold maxLen at w1;apply Wp.eq;unfold M.kD;simp only[W_,av,ax,reduceCtorEq];refine⟨λh=>by grind,λh8=>?_⟩;rw[ai (by omega)]
 refine Wp.count (λs=>s) l.2.2.length (λi _=>∀j,j<i->(λk=>(vo l k).map λe=>(k,e)) j=ae) w1 rfl (λj hj=>by omega) λi c hi hs hJ=>?_
 obtain rfl:c=_:=hs;simp only[W_,av,ax,reduceCtorEq,bg,aY];refine⟨λaH=>?_,λhge=>?_⟩
 .have aH:i<l.2.2.length:=by omega
  simp only[yv l hw gv i aH (hT _ (aiJ aH)) (hC _ (aiJ aH)),cN w1 aH,W_,av,ax,reduceCtorEq];refine⟨λh=>?_,λh=>⟨aH,eH hJ ?_⟩⟩
  .cases he:vo l i with
   |none=>grind
   |some e=>rw[ff (SD he) hJ aH];rfl
  .cases he:vo l i with
   |none=>rfl
   |some e=>grind [Dh]
 .rw[cr.2 λj hj=>hJ j (by omega)];rfl
def Dl(l:Lw)(hw:WF bV l)(gv:ei l)(hT:∀x∈l.2.2,Dk (gn l x))(hC:∀x∈l.2.2,Jr x):M.gU aV l=aa (A4 l):=by
 have bad:∀(f:Nat->Option (Int×Int))(m:Nat)(sec:Int)(k:Nat)(e:Int×Int),(∀i e,f i=aa e->e.1≠0)->cV (λk=>(f k).map λe=>(k,e)) m=aa (k,e)->(!decide ((sY sec (k:Int) (aa e)).1=0))=af:=λf m sec k e hf he=>by
  obtain⟨j,_,hj,_⟩:=fe he;obtain⟨e',he',h2⟩:=Option.map_eq_some_iff.1 hj;cases h2;have:e.1≠0:=hf _ _ he'
  show(!decide (e.1=0))=af
  simp[this]
 unfold M.gU A4;rw[yu l hw,aiD];by_cases h1:8<l.1.length
 .grind
 rw[ai h1,ai h1]
 cases hA:cV (λk=>(ql l k).map λe=>(k,e)) l.1.length with
 |some p=>
  obtain⟨k,e⟩:=p;dsimp only;rw[aj (bad _ _ _ _ _ (λi e=>uh) hA)]
 |none=>
  dsimp only;rw[ai (by simp[Md]),xd l hw,aiD];by_cases h2:8<l.2.1.length
  .grind
  rw[ai h2,ai h2]
  cases hB:cV (λk=>(s6 l k).map λe=>(k,e)) l.2.1.length with
  |some p=>
   obtain⟨k,e⟩:=p;dsimp only;rw[aj (bad _ _ _ _ _ (λi e=>Dg) hB)]
  |none=>
   grind [Md,xf]
end L
namespace L
def Mn(op:Int):M.fZ aV op=aa (ar op):=by
 apply Wp.eq;unfold M.fZ ar;simp only[W_,av,ax,reduceCtorEq];omega
def Mo(op:Int):M.kV aV op=aa (decide ((1<=op/\op<=8)\/(14<=op/\op<=16)\/op=33\/op=34\/(36<=op/\op<=39))):=by
 apply Wp.eq;unfold M.kV;simp only[W_,av,ax,reduceCtorEq];omega
def bQ(k:Int):M.fa aV k=aa (decide (k=2\/k=3\/k=4)):=by
 apply Wp.eq;unfold M.fa;simp only[W_,av,ax,reduceCtorEq];omega
def bl(k:Int):M.ju aV k=aa (decide (0<=k/\k<=5)):=by
 apply Wp.eq;unfold M.ju;simp only[W_,av,ax,reduceCtorEq];omega
def cn(m k:Int)(s:rq):M.dH aV m k s=aa (if BL m (k,(0:Int)) s.1 then((k,(0:Int)),(0:Int))else(((0:Int),(0:Int)),(3:Int))):=by
 apply Wp.eq;unfold M.dH;simp only[vH,W_,av,ax,reduceCtorEq]
 grind [BL]
noncomputable def pN(n:Ty)(l:List Ty)(s:rq):Option (Ty×Int):=
 if(n.2:Int)≠0/\¬((1<=(n.1:Int)/\(n.1:Int)<=8)\/(14<=(n.1:Int)/\(n.1:Int)<=16)\/(n.1:Int)=33\/(n.1:Int)=34\/(36<=(n.1:Int)/\(n.1:Int)<=39))then aa (((0:Int),(0:Int)),2)else M.bi aV n l s
def ru(t:Ty):Prop:=1<=(t.1:Int)/\(t.1:Int)<=5->(t.2:Int)=0
theorem SI(op m:Int)(a b:Ty)(s:rq)(h2:ar op=2)(ha:ru a)(_:ru b):pN (op,m) [a,b] s=M.aZ aV (op,m) [a,b] s:=by
 have hr:=uf (op,m) s
 have hR:Df op m s↔(14<=op/\op<=16->0<=m/\m<=5):=by
  unfold ar at h2;unfold Df;exact(by grind)
 have sN:op=11\/op=12\/op=13\/op=14\/op=15\/op=16\/op=17\/op=18\/op=19\/op=20\/op=21\/op=22\/op=23\/op=24\/op=27\/op=28\/op=29\/op=30:=by unfold ar at h2;omega
 obtain⟨(a1:Int),(a2:Int)⟩:=a;obtain⟨(b1:Int),(b2:Int)⟩:=b;simp only[ru]at ha
 rcases sN with rfl|rfl|rfl|rfl|rfl|rfl|rfl|rfl|rfl|rfl|rfl|rfl|rfl|rfl|rfl|rfl|rfl|rfl
 all_goals
  unfold pN M.bi M.dT M.mc M.aZ M.bE M.im M.lN;simp[aQ,aU,aR,bn,bQ,bl,b9,hr,hR,idx,Kf]
  grind
def Mp(op m:Int)(a b c:Ty)(s:rq)(h3:ar op=3):pN (op,m) [a,b,c] s=M.aZ aV (op,m) [a,b,c] s:=by
 have sN:op=26:=by unfold ar at h3;omega
 subst sN;have hr:=uf ((26:Int),m) s
 have hR:Df 26 m s:=by unfold Df;omega
 obtain⟨(a1:Int),(a2:Int)⟩:=a;obtain⟨(b1:Int),(b2:Int)⟩:=b;obtain⟨(c1:Int),(c2:Int)⟩:=c;unfold pN M.bi M.dT M.aZ M.bE;simp[aQ,aU,aR,bn,bQ,bl,b9,hr,hR,idx,Kf]
 grind
theorem SJ(op m:Int)(a:Ty)(s:rq)(hm:m<=9223372036854775807)(h1:ar op=1)(ha:ru a):pN (op,m) [a] s=M.aZ aV (op,m) [a] s:=by
 have hr:=uf (op,m) s
 have hR:Df op m s↔(op=34->0<=m/\ajd m 8<=5):=by
  unfold ar at h1;unfold Df;exact⟨λh=>h.2.2.1,λh=>⟨λ_=>by omega,λ_=>by omega,h,λ_=>by omega⟩⟩
 have hd:0<=m->0<=aiE.wrap (aiQ m 8):=λh=>G9 h hm (by omega)
 have ht:0<=m->0<=ajd m 8:=λh=>Int.tmod_nonneg _ h
 have sN:op=10\/op=25\/op=31\/op=32\/op=33\/op=34:=by unfold ar at h1;omega
 obtain⟨(a1:Int),(a2:Int)⟩:=a;simp only[ru]at ha
 rcases sN with rfl|rfl|rfl|rfl|rfl|rfl
 .unfold pN M.bi M.dT M.aZ M.bE M.dz;simp[aQ,aU,aR,bn,bQ,bl,b9,hr,hR,idx,Kf]
  grind
 .unfold pN M.bi M.dT M.aZ M.bE M.dz;simp[aQ,aU,aR,bn,bQ,bl,b9,hr,hR,idx,Kf]
  grind
 .unfold pN M.bi M.dT M.aZ M.bE M.dz;simp[aQ,aU,aR,bn,bQ,bl,b9,hr,hR,idx,Kf]
  grind
 .unfold pN M.bi M.dT M.aZ M.bE M.dz;simp[aQ,aU,aR,bn,bQ,bl,b9,hr,hR,idx,Kf]
  grind
 .have i0:idx [((a1,a2):Ty)] 0=aa (a1,a2):=rfl;unfold pN M.bi M.lA M.aZ M.bE M.dz;by_cases h:0<=m/\m<(s.2.1.length:Int)
  .obtain⟨k,rfl⟩:=aiI h.1
   have hk:k<s.2.1.length:=by omega
   simp[aQ,aU,aR,bn,b9,hr,hR,Kf,pE,cm,i0,aF hk,hk,show¬((s.2.1.length:Int)<=(k:Int)) by omega,show¬((k:Int)<0) by omega];generalize s.2.1[k]=t
   by_cases c1:oC t.2.1 s.1.length<;>by_cases c2:oC t.2.2.1 s.1.length<;>by_cases c3:((a1,a2):Ty)=t.2.1<;>simp[c1,c2,c3]
  .simp[aQ,aU,aR,bn,b9,hr,hR,Kf,pE,cm,i0];by_cases QG:m<0
   .simp[QG,show¬0<=m by omega]
   .simp[QG,show 0<=m by omega,show(s.2.1.length:Int)<=m by omega,show¬m<(s.2.1.length:Int) by omega]
 .have i0:idx [((a1,a2):Ty)] 0=aa (a1,a2):=rfl;unfold pN M.bi M.lA M.aZ M.bE M.dz;simp only[hr,hR];by_cases h:0<=m/\ajd m 8<=5
  .have hd:=hd h.1;have ht:=ht h.1;generalize aiE.wrap (aiQ m 8)=j at*;generalize ajd m 8=q at*;by_cases h':j<(s.2.1.length:Int)
   .obtain⟨k,rfl⟩:=aiI hd
    have hk:k<s.2.1.length:=by omega
    simp[aQ,aU,aR,bn,bl,b9,h,ht,Kf,pE,cm,i0,aF hk,hk,show¬(m<0) by omega,show¬((s.2.1.length:Int)<=(k:Int)) by omega,show¬((k:Int)<0) by omega];generalize s.2.1[k]=t;obtain⟨nm,⟨(k1:Int),(k2:Int)⟩,⟨(v1:Int),(v2:Int)⟩,rs⟩:=t;generalize s.1.length=ne;by_cases R:a1=3/\k1=3/\k2=0/\v1=4/\v2=0
    .obtain⟨rfl,rfl,rfl,rfl,rfl⟩:=R;obtain rfl:a2=0:=ha ⟨by decide,by decide⟩
     have v3:oC (((3:Int),(0:Int)):Ty) ne:=by simp[oC]
     have v4:oC (((4:Int),(0:Int)):Ty) ne:=by simp[oC]
     simp[v3,v4]
    .have hR2:(((if a1=3 then if((k1,k2):Int×Int)=(3,0)then aa (decide (((v1,v2):Int×Int)=(4,0)),a1,a2)else aa (ag,a1,a2)else aa (ag,a1,a2)):Option (Bool×Int×Int)))=aa (ag,a1,a2):=by
      by_cases q1:a1=3<;>by_cases q2:k1=3<;>by_cases q3:k2=0<;>by_cases q4:v1=4<;>by_cases q5:v2=0<;>simp[q1,q2,q3,q4,q5]<;>exact absurd ⟨q1,q2,q3,q4,q5⟩ R
     rw[hR2];by_cases c1:oC ((k1,k2):Ty) ne
     .by_cases c2:oC ((v1,v2):Ty) ne
      .by_cases e:((a1,a2):Ty)=(k1,k2)
       .injection e with e1 e2
        subst e1 e2;have Xq:=c1;have Uv:=c2;simp only[oC]at Xq Uv;dsimp only[aB,Row.den]at Xq Uv;by_cases f:a1=3
        .have g:¬v1=4:=λg=>R (by omega)
         subst f
         obtain rfl:a2=0:=by omega
         simp[c1,c2,g]
        .simp[c1,c2,f]
       .simp[c1,c2,e]
      .simp[c1,c2]
     .simp[c1]
   .simp[aQ,aU,aR,bn,bl,b9,h,ht,Kf,pE,cm,i0,show¬(m<0) by omega,show(s.2.1.length:Int)<=j by omega,show¬j<0 by omega]
  .simp[aQ,aU,aR,bn,bl,b9,Kf,pE,cm,i0];by_cases QG:m<0
   .simp[QG,show¬0<=m by omega]
   .have h5:5<ajd m 8:=by omega
    simp[QG,h5,show¬ajd m 8<=5 by omega]
def br(m:Int)(ls:List Ty)(s:rq):M.fG aV m ls s=if 0<=m/\m<(ls.length:Int)then(match ls[m.toNat]? with
 |some t=>if oC t s.1.length then aa (t,(0:Int))else aa (((0:Int),(0:Int)),(8:Int))
 |none=>ae)else aa (((0:Int),(0:Int)),(6:Int)):=by
 grind [M.fG,aF,pE]
def zero_eq(op m:Int)(s:rq)(hm:m<=9223372036854775807)(h0:ar op=0):pN (op,m) [] s=M.aZ aV (op,m) [] s:=by
 have hr:=uf (op,m) s
 have hR:Df op m s↔(1<=op/\op<=5->BL m (op,(0:Int)) s.1)/\(op=6->0<=m):=by
  unfold ar at h0;unfold Df;exact(by grind)
 have hd:0<=m->0<=aiE.wrap (aiQ m 16):=λh=>G9 h hm (by omega)
 have sN:op=1\/op=2\/op=3\/op=4\/op=5\/op=6\/op=7\/op=8\/op=9\/op=35\/op=36\/op=37\/op=38\/op=39:=by unfold ar at h0;omega
 have v:∀k:Int,1<=k->k<=5->oC ((k,(0:Int)):Ty) s.1.length:=λk h1 h2=> .inl ⟨h1,h2,rfl⟩
 rcases sN with rfl|rfl|rfl|rfl|rfl|rfl|rfl|rfl|rfl|rfl|rfl|rfl|rfl|rfl
 .unfold pN M.bi M.bO M.ct M.aZ M.bE M.cy;have v:=v 1 (by decide) (by decide)
  by_cases h:BL m ((1:Int),(0:Int)) s.1<;>simp[aQ,aU,aR,bn,bQ,bl,cn,br,b9,hr,hR,cm,h,v]
 .unfold pN M.bi M.bO M.ct M.aZ M.bE M.cy;have v:=v 2 (by decide) (by decide)
  by_cases h:BL m ((2:Int),(0:Int)) s.1<;>simp[aQ,aU,aR,bn,bQ,bl,cn,br,b9,hr,hR,cm,h,v]
 .unfold pN M.bi M.bO M.ct M.aZ M.bE M.cy;have v:=v 3 (by decide) (by decide)
  by_cases h:BL m ((3:Int),(0:Int)) s.1<;>simp[aQ,aU,aR,bn,bQ,bl,cn,br,b9,hr,hR,cm,h,v]
 .unfold pN M.bi M.bO M.ct M.aZ M.bE M.cy;have v:=v 4 (by decide) (by decide)
  by_cases h:BL m ((4:Int),(0:Int)) s.1<;>simp[aQ,aU,aR,bn,bQ,bl,cn,br,b9,hr,hR,cm,h,v]
 .unfold pN M.bi M.bO M.ct M.aZ M.bE M.cy;have v:=v 5 (by decide) (by decide)
  by_cases h:BL m ((5:Int),(0:Int)) s.1<;>simp[aQ,aU,aR,bn,bQ,bl,cn,br,b9,hr,hR,cm,h,v]
 .unfold pN M.bi M.bO M.ct M.aZ M.bE M.cy;by_cases h:m<0
  .simp[aQ,aU,aR,bn,bQ,bl,cn,br,b9,hr,hR,cm,h]
  .have hd:=hd (by omega)
   have h':0<=m:=by omega
   generalize aiE.wrap (aiQ m 16)=j at*;generalize ajd m 16=q at*;by_cases hj:j<(s.1.length:Int)
   .obtain⟨k,rfl⟩:=aiI hd
    have hk:k<s.1.length:=by omega
    have v6:oC (((6:Int),(k:Int)):Ty) s.1.length:= .inr (by grind);by_cases hq:q<(s.1[k].2.length:Int)
    .simp[aQ,aU,aR,bn,bQ,bl,cn,br,b9,hr,hR,cm,h,h',hk,aF hk,v6,hq,show¬(s.1.length:Int)<=(k:Int) by omega,show¬(s.1[k].2.length:Int)<=q by omega]
    .simp[aQ,aU,aR,bn,bQ,bl,cn,br,b9,hr,hR,cm,h,h',hk,aF hk,v6,hq,show¬(s.1.length:Int)<=(k:Int) by omega,show(s.1[k].2.length:Int)<=q by omega]
   .simp[aQ,aU,aR,bn,bQ,bl,cn,br,b9,hr,hR,cm,h,h',hj,show(s.1.length:Int)<=j by omega]
 .unfold pN M.bi M.bO M.ct M.aZ M.bE M.cy;by_cases h:0<=m/\m<(s.2.2.1.length:Int)
  .obtain⟨k,rfl⟩:=aiI h.1
   have hk:k<s.2.2.1.length:=by omega
   by_cases hv:oC s.2.2.1[k] s.1.length<;>simp[aQ,aU,aR,bn,bQ,bl,cn,br,b9,hr,hR,cm,hk,aF hk,hv]
  .by_cases h0:0<=m
   .have h1:¬m<(s.2.2.1.length:Int):=λg=>h ⟨h0,g⟩
    simp[aQ,aU,aR,bn,bQ,bl,cn,br,b9,hr,hR,cm,h0,h1]
   .simp[aQ,aU,aR,bn,bQ,bl,cn,br,b9,hr,hR,cm,h0]
 .unfold pN M.bi M.bO M.ct M.aZ M.bE M.cy;by_cases h:0<=m/\m<(s.2.2.2.1.length:Int)
  .obtain⟨k,rfl⟩:=aiI h.1
   have hk:k<s.2.2.2.1.length:=by omega
   by_cases hv:oC s.2.2.2.1[k] s.1.length<;>simp[aQ,aU,aR,bn,bQ,bl,cn,br,b9,hr,hR,cm,hk,aF hk,hv]
  .by_cases h0:0<=m
   .have h1:¬m<(s.2.2.2.1.length:Int):=λg=>h ⟨h0,g⟩
    simp[aQ,aU,aR,bn,bQ,bl,cn,br,b9,hr,hR,cm,h0,h1]
   .simp[aQ,aU,aR,bn,bQ,bl,cn,br,b9,hr,hR,cm,h0]
 .unfold pN M.bi M.bO M.ct M.aZ M.bE M.cy;have v:=v 5 (by decide) (by decide);by_cases h:m=0
  .subst h;simp[aQ,aU,aR,bn,bQ,bl,cn,br,b9,hr,hR,cm,v]
  grind [aQ]
 .unfold pN M.bi M.bO M.ct M.aZ M.bE M.cy;have v:=v 2 (by decide) (by decide);by_cases h:m=0
  .subst h;cases hs:s.2.2.2.2.2<;>simp[aQ,aU,aR,bn,bQ,bl,cn,br,b9,hr,hR,cm,v,hs]
  grind [aQ]
 .unfold pN M.bi M.bO M.ct M.aZ M.bE M.cy;cases hs:s.2.2.2.2.2
  .simp[aQ,aU,aR,bn,bQ,bl,cn,br,b9,hr,hR,cm,hs]
  by_cases h:0<=m/\m<(s.2.2.2.2.1.length:Int)
  .obtain⟨k,rfl⟩:=aiI h.1
   have hk:k<s.2.2.2.2.1.length:=by omega
   by_cases hv:oC s.2.2.2.2.1[k] s.1.length
   .simp[aQ,aU,aR,bn,bQ,bl,cn,br,b9,hr,hR,cm,hk,aF hk,hv,hs]
    grind
   .simp[aQ,aU,aR,bn,bQ,bl,cn,br,b9,hr,hR,cm,hk,aF hk,hv,hs]
  .by_cases h0:0<=m
   .have h1:¬m<(s.2.2.2.2.1.length:Int):=λg=>h ⟨h0,g⟩
    simp[aQ,aU,aR,bn,bQ,bl,cn,br,b9,hr,hR,cm,h0,h1,hs]
   .simp[aQ,aU,aR,bn,bQ,bl,cn,br,b9,hr,hR,cm,h0,hs]
 .unfold pN M.bi M.bO M.ct M.aZ M.bE M.cy;cases hs:s.2.2.2.2.2
  .simp[aQ,aU,aR,bn,bQ,bl,cn,br,b9,hr,hR,cm,hs]
  by_cases h:0<=m/\m<(s.2.2.2.2.1.length:Int)
  .obtain⟨k,rfl⟩:=aiI h.1
   have hk:k<s.2.2.2.2.1.length:=by omega
   by_cases hv:oC s.2.2.2.2.1[k] s.1.length
   .simp[aQ,aU,aR,bn,bQ,bl,cn,br,b9,hr,hR,cm,hk,aF hk,hv,hs]
    grind
   .simp[aQ,aU,aR,bn,bQ,bl,cn,br,b9,hr,hR,cm,hk,aF hk,hv,hs]
  .by_cases h0:0<=m
   .have h1:¬m<(s.2.2.2.2.1.length:Int):=λg=>h ⟨h0,g⟩
    simp[aQ,aU,aR,bn,bQ,bl,cn,br,b9,hr,hR,cm,h0,h1,hs]
   .simp[aQ,aU,aR,bn,bQ,bl,cn,br,b9,hr,hR,cm,h0,hs]
 .unfold pN M.bi M.bO M.ct M.aZ M.bE M.cy;cases hs:s.2.2.2.2.2
  .simp[aQ,aU,aR,bn,bQ,bl,cn,br,b9,hr,hR,cm,hs]
  by_cases h:0<=m/\m<(s.2.2.2.2.1.length:Int)
  .obtain⟨k,rfl⟩:=aiI h.1
   have hk:k<s.2.2.2.2.1.length:=by omega
   by_cases hv:oC s.2.2.2.2.1[k] s.1.length
   .simp[aQ,aU,aR,bn,bQ,bl,cn,br,b9,hr,hR,cm,hk,aF hk,hv,hs]
    grind
   .simp[aQ,aU,aR,bn,bQ,bl,cn,br,b9,hr,hR,cm,hk,aF hk,hv,hs]
  .by_cases h0:0<=m
   .have h1:¬m<(s.2.2.2.2.1.length:Int):=λg=>h ⟨h0,g⟩
    simp[aQ,aU,aR,bn,bQ,bl,cn,br,b9,hr,hR,cm,h0,h1,hs]
   .simp[aQ,aU,aR,bn,bQ,bl,cn,br,b9,hr,hR,cm,h0,hs]
 .unfold pN M.bi M.bO M.ct M.aZ M.bE M.cy;cases hs:s.2.2.2.2.2
  .simp[aQ,aU,aR,bn,bQ,bl,cn,br,b9,hr,hR,cm,hs]
  by_cases h:0<=m/\m<(s.2.2.2.2.1.length:Int)
  .obtain⟨k,rfl⟩:=aiI h.1
   have hk:k<s.2.2.2.2.1.length:=by omega
   by_cases hv:oC s.2.2.2.2.1[k] s.1.length
   .simp[aQ,aU,aR,bn,bQ,bl,cn,br,b9,hr,hR,cm,hk,aF hk,hv,hs];generalize s.2.2.2.2.1[k]=t at*
    grind
   .simp[aQ,aU,aR,bn,bQ,bl,cn,br,b9,hr,hR,cm,hk,aF hk,hv,hs]
  .by_cases h0:0<=m
   .have h1:¬m<(s.2.2.2.2.1.length:Int):=λg=>h ⟨h0,g⟩
    simp[aQ,aU,aR,bn,bQ,bl,cn,br,b9,hr,hR,cm,h0,h1,hs]
   .simp[aQ,aU,aR,bn,bQ,bl,cn,br,b9,hr,hR,cm,h0,hs]
def Wm(n:Ty)(l:List Ty)(s:rq)(hw:WF aD n)(hl:(l.length:Int)=ar n.1)(hN:∀t∈l,ru t):pN n l s=aa (Ha n l s):=by
 rw[<-Ma hw hl];obtain⟨(op:Int),(m:Int)⟩:=n;have hm:m<=9223372036854775807:=hw.2.2;have h3:=sX op;dsimp only at hl
 match l,hl with
 |[],hl=>exact zero_eq op m s hm hl.symm
 |[a],hl=>grind [SJ]
 |[a,b],hl=>grind [SI]
 |[a,b,c],hl=>exact Mp op m a b c s hl.symm
 |a::b::c::d::l,hl=>grind
def oC.nrm{t:Ty}{n:Nat}(h:oC t n):ru t:=λh'=>by
 obtain⟨(k:Int),(e:Int)⟩:=t
 rcases h with h|h
 all_goals grind
def Pc{α:Type}(m:Option α)(Q:α->Prop):Prop:=∀r,m=aa r->Q r
theorem jR{α:Type}{x:α}{Q:α->Prop}:Pc (aa x) Q↔Q x:=⟨λh=>h x rfl,λh r e=>by grind⟩
theorem fW{α β:Type}{m:Option α}{k:α->Option β}{Q:β->Prop}:Pc (m.bind k) Q↔Pc m λx=>Pc (k x) Q:=by
 constructor
 .intro h x hx r hr;exact h r (by grind)
 .intro h r hr;obtain⟨x,hx,hr⟩:=Option.bind_eq_some_iff.1 hr;exact h x hx r hr
def mT{α:Type}{c:Prop}[Decidable c]{a b:Option α}{Q:α->Prop}:Pc (if c then a else b) Q↔(c->Pc a Q)/\(¬c->Pc b Q):=by
 grind
theorem Pc.of{α:Type}{m:Option α}{Q:α->Prop}(h:∀x,Q x):Pc m Q:=λx _=>h x
theorem ru.kind(k:Int):ru ((k,(0:Int)):Ty):=λ_=>rfl
theorem Mq(n:Ty)(s:rq):Pc (M.cy aV n s) λr=>r.2=af->ru r.1:=by
 have ho:∀k,M.iI aV k=aa (decide (k=2\/k=3\/k=4\/k=5)):=aR;unfold M.cy;rw[fW]
 refine Pc.of λj=>?_
 simp only[cm,ho,aiD];by_cases hv:oC j s.1.length
 .simp only[fW,mT,jR];simp[hv.nrm]
 .simp[hv,fW,mT,jR]
theorem FF(n a:Ty)(s:rq)(ha:ru a):Pc (M.dz aV n a s) λr=>r.2=af->ru r.1:=by
 unfold M.dz;simp only[bn,aU,cm,aiD,fW,mT,jR];refine⟨λ_ _=>ha,λ_=>⟨λ_ _=>ha,λ_=>?_⟩⟩
 have h33:Pc (idx s.2.1 n.2) λx=>(decide (oC x.2.1 s.1.length)=af->(decide (oC x.2.2.1 s.1.length)=af->oo aD a x.2.1=af->ru x.2.2.1)/\(¬decide (oC x.2.2.1 s.1.length)=af->ag=af->ru x.2.2.1))/\(¬decide (oC x.2.1 s.1.length)=af->ag=af->ru x.2.2.1):=Pc.of λx=>⟨λ_=>⟨λh _=>(an h:oC x.2.2.1 s.1.length).nrm,λ_ h=>(by cases h)⟩,λ_ h=>(by cases h)⟩
 have OU:Pc (idx s.2.1 (aiE.wrap (aiQ n.2 8))) λx=>(decide ((a.1:Int)=3)=af->(oo aD x.2.1 ((3:Int),(0:Int))=af->oo aD x.2.2.1 ((4:Int),(0:Int))=af->ru a)/\(¬oo aD x.2.1 ((3:Int),(0:Int))=af->ag=af->ru a))/\(¬decide ((a.1:Int)=3)=af->ag=af->ru a):=Pc.of (by grind)
 grind [ru.kind]
theorem FH(op:Int)(a b:Ty)(ha:ru a):Pc (M.im aV op a b) λr=>r.2=af->ru r.1:=by
 have hk:∀k:Int,ru ((k,(0:Int)):Ty):=ru.kind;unfold M.im M.lN;simp only[bn,aU,aR,aiD,fW,mT,jR];simp[ha,hk]
def OW(n:Ty)(l:List Ty)(s:rq)(hw:WF aD n)(hl:(l.length:Int)=ar n.1)(hN:∀t∈l,ru t)(h0:(Ha n l s).2=0):ru (Ha n l s).1:=by
 have xS:∀i,Pc (idx l i) ru:=λi x hx=>by
  grind [idx]
 have key:Pc (M.aZ aV n l s) λr=>r.2=0->ru r.1:=by
  unfold M.aZ;rw[fW]
  refine Pc.of λj1=>?_
  rw[mT];refine⟨λ_=>jR.2 λh=>(by cases h),λ_=>?_⟩;rw[fW]
  refine Pc.of λy3=>?_
  rw[mT];refine⟨λ_=>jR.2 λh=>(by cases h),λ_=>?_⟩;rw[fW]
  refine Pc.of λy4=>?_
  rw[mT];refine⟨λ_=>jR.2 λh=>(by cases h),λ_=>?_⟩;rw[fW]
  have fin:∀{m:Option (Bool×Ty)},Pc m (λj=>j.1=af->ru j.2)->Pc m λj5=>Pc (if(!j5.1)=af then aa (((0:Int),(0:Int)),(8:Int))else aa (j5.2,(0:Int))) λr:Ty×Int=>r.2=0->ru r.1:=λ{m}h j hj=>by
   have:=h j hj;refine mT.2 ⟨λ_=>jR.2 λh=>(by cases h),λh=>jR.2 λ_=>this (by simpa using h)⟩
  refine fin ?_;rw[mT];refine⟨λ_=>?_,λ_=>?_⟩
  .grind [fW,jR,Mq]
  rw[mT];refine⟨λ_=>?_,λ_=>?_⟩
  .rw[fW]
   refine λa ha=>fW.2 ?_
   grind [jR,FF]
  rw[mT];refine⟨λ_=>?_,λ_=>?_⟩
  .rw[fW]
   refine λa ha=>fW.2 λb _=>fW.2 ?_
   grind [jR,FH]
  .rw[fW]
   refine λa ha=>?_
   have ha:=xS _ a ha;simp only[fW,mT,jR]
   grind [Pc.of]
 exact key _ (Ma hw hl) h0
def Bb(st:List Nat)(m:Nat)(v:Nat):b8 (eU st++aiN (m+1) (0:Int)) (st.length:Int) (v:Int)=eU (st++[v])++aiN m (0:Int):=by
 grind [b8]
def uo(st:List Nat)(m:Nat)(u v:Nat):b8 (eU (st++[u])++aiN m (0:Int)) (st.length:Int) (v:Int)=eU (st++[v])++aiN m (0:Int):=by
 unfold b8
 simp_all
def FI(e:List Ty):M.fi aV e=aa (q8 e):=by
 apply Wp.eq;unfold M.fi q8
 refine Wp.dec (λh=> .some ?_) λh1=>?_
 .grind
 rw[ai (show¬48<e.length by omega)]
 refine Wp.dec (λh=> .some ?_) λh2=>?_
 .grind
 rw[ai (show¬e.length=0 by omega)]
 have Ow:pT (e.length:Int) (0:Int)=aa (aiN e.length 0):=by
  unfold pT;rw[aj (by omega),aiL]
 rw[Ow];simp only[aiD];refine Wp.join (Wp.loop (λs:Int×List Int×List Int=>∃st sk:List Nat,s=((st.length:Int),eU st++aiN (e.length-st.length) 0,eU sk)/\st.length<=e.length/\sk.length<=12/\k8 (e.drop st.length) st.length st sk=k8 e 0 [] []) (λs=>(e.length-s.1).toNat) ⟨[],[],by simp,by simp,by simp,by simp⟩ (by simp only;unfold aV;omega) ?_)
 rintro _ ⟨st,sk,rfl,gq,hsk,bG⟩
 simp only
 refine Wp.dec (λhk=>?_) λhk=> .some ?_
 case refine_2=>
  have hd:e.drop st.length=[]:=ajo (by omega);rw[hd]at bG;rw[<-bG]
  have h0:e.length-st.length=0:=by omega
  rw[h0];simp only[k8,List.replicate_zero,ajv]
  show Wp _ _
  refine Wp.dec (λh=> .some ?_) λh=> .some ?_
  all_goals grind
 have iK:st.length<e.length:=by omega
 have hd:e.drop st.length=e[st.length]::e.drop (st.length+1):=ai5 iK
 obtain⟨m,hm⟩:∃m,e.length-st.length=m+1:=⟨e.length-st.length-1,by omega⟩
 rw[hd]at bG;rw[aF iK,hm];simp only[aiD,Mn];generalize sN:(e[st.length].1:Int)=op;rw[k8]at bG;rw[sN]at bG;have XF:=sX op
 refine Wp.dec (λh=> .some ?_) λMr=>?_
 .rw[aj h]at bG
  show _=_
  rw[<-bG]
 rw[ai Mr]at bG
 refine Wp.dec (λh=> .some ?_) λhlen=>?_
 .rw[aj (by simpa using h)]at bG
  show _=_
  rw[<-bG]
 have hlen:¬(sk.length:Int)<ar op:=by simpa using hlen
 rw[ai hlen]at bG
 obtain⟨a,ha⟩:∃a:Nat,ar op=a:=⟨(ar op).toNat,by omega⟩
 rw[ha]at bG Mr hlen XF⊢
 have abe:a<=sk.length:=by omega
 have e6:idx (eU st++aiN (m+1) (0:Int)) (st.length:Int)=aa 0:=by
  rw[aF (by simp)];rw[ajc (by simp)];simp
 rw[e6]
 have hw:aiE.wrap (((eU sk).length:Int)-(a:Int))=((sk.length-a:Nat):Int):=by
  rw[List.length_map,aX (by omega) (by omega)];omega
 have hs:vG (a:Int) st.length sk=(if a=0 then st.length else sk.getD (sk.length-a) 0):=by
  unfold vG;by_cases h0:a=0
  .subst h0;simp
  .grind
 simp only[aiD,Bb,hw];refine Wp.seq (· =eU (st++[vG (a:Int) st.length sk])++aiN m (0:Int)) ?_ ?_
 .refine Wp.dec (λh=>?_) λh=>?_
  .have aH:sk.length-a<(eU sk).length:=by simp;omega
   rw[aF aH]
   have e9:idx (eU (st++[st.length])++aiN m (0:Int)) (st.length:Int)=aa (st.length:Int):=by
    rw[aF (by simp)];rw[ai7 (by simp)];simp
   simp only[aiD,e9,List.getElem_map,uo];refine .some ?_
   grind
  .refine .some ?_
   grind
 .rintro _ rfl
  generalize vG (a:Int) st.length sk=s at bG⊢
  have Ej:fX (eU sk) (0:Int) ((sk.length-a:Nat):Int)=aa (eU (sk.take (sk.length-a))):=by
   rw[qV (by simp)];simp
  have e11:idx (eU (st++[s])++aiN m (0:Int)) (st.length:Int)=aa (s:Int):=by
   rw[aF (by simp)];rw[ai7 (by simp)];simp
  have SK:cA (eU (sk.take (sk.length-a))) [(s:Int)]=aa (eU (sk.take (sk.length-a)++[s])):=by
   rw[fJ (by simp;omega)];simp
  rw[Ej];simp only[aiD,e11,SK]
  have hl:(eU (sk.take (sk.length-a)++[s])).length=sk.length-a+1:=by simp
  rw[hl];rw[aiL]at bG
  refine Wp.dec (λh=> .some ?_) λh=> .some ?_
  .rw[aj (by omega)]at bG
   show _=_
   rw[<-bG]
  .rw[ai (by omega)]at bG;rw[aT (by omega)];refine⟨⟨st++[s],sk.take (sk.length-a)++[s],?_,by simp;omega,by simp;omega,?_⟩,by grind⟩
   all_goals grind
def Dk.all(s:rq):Dk s:=λe hw=>by
 apply Wp.eq;unfold M.nW;simp only[FI,Mn,Mo,W_,av,ax,reduceCtorEq];refine⟨λh=>by unfold Kg;rw[aj h],λh0=>?_⟩;obtain⟨h48,du,dB,Ns,Qh⟩:=ON h0
 have hT:Kg e s=match nL s e 0 []with
  | .inl (i,c)=>(((0:Int),(0:Int)),(i:Int),c)
  | .inr nw=>(nw.headD ((0:Int),(0:Int)),0,0):=by unfold Kg;rw[ai (by omega)]<;>cases nL s e 0 []<;>rfl
 refine Wp.count (λs=>s.1) e.length (λk q=>∃st sk,q.2.length=sk.length/\k8 e 0 [] []=k8 (e.drop k) k st sk/\nL s e 0 []=nL s (e.drop k) k q.2/\q.2.length<=k/\(0<k->q.2≠[])/\∀t∈q.2,ru t) (by omega) rfl (by grind) λk q hk hs hJ=>?_
 obtain⟨i,nw⟩:=q;obtain⟨st,sk,hl,hr,ht,Qi,pW,abg⟩:=hJ;dsimp only at hs hl ht Qi pW abg;subst hs;simp only[W_,av,ax,reduceCtorEq,bg,aY];refine⟨λaH=>?_,λhge=>?_⟩
 .have aH:k<e.length:=by omega
  rw[ai5 aH,k8]at hr;rw[ai5 aH,nL]at ht;rw[Qh]at hr;have ha3:=sX e[k].1;split at hr
  .cases hr
  split at hr
  .cases hr
  split at hr
  .cases hr
  rename_i ha0 ha1 ha2
  have w1:aiE.wrap ((nw.length:Int)-ar e[k].1)=((nw.length-(ar e[k].1).toNat:Nat):Int):=by rw[aX (by omega) (by omega)];omega
  have hd:((nw.drop (nw.length-(ar e[k].1).toNat)).length:Int)=ar e[k].1:=by rw[List.length_drop];omega
  have hwk:=hw _ (aiJ aH)
  have XG:∀t∈nw.drop (nw.length-(ar e[k].1).toNat),ru t:=(by grind)
  have hp:=Wm e[k] _ s hwk hd XG;have BR:=OW e[k] _ s hwk hd XG
  have bad:∀c:Int,c≠0->(Ha e[k] (nw.drop (nw.length-(ar e[k].1).toNat)) s).2=c->(((0:Int),(0:Int)),(k:Int),c)=Kg e s:=(by grind)
  have rest:¬((e[k].2:Int)≠0/\¬((1<=(e[k].1:Int)/\(e[k].1:Int)<=8)\/(14<=(e[k].1:Int)/\(e[k].1:Int)<=16)\/(e[k].1:Int)=33\/(e[k].1:Int)=34\/(36<=(e[k].1:Int)/\(e[k].1:Int)<=39)))->M.bi aV e[k] (nw.drop (nw.length-(ar e[k].1).toNat)) s=aa (Ha e[k] (nw.drop (nw.length-(ar e[k].1).toNat)) s):=λh=>by
   rw[<-hp];exact(ai h).symm
  have cond:((e[k].2:Int)≠0/\¬((1<=(e[k].1:Int)/\(e[k].1:Int)<=8)\/(14<=(e[k].1:Int)/\(e[k].1:Int)<=16)\/(e[k].1:Int)=33\/(e[k].1:Int)=34\/(36<=(e[k].1:Int)/\(e[k].1:Int)<=39)))->(Ha e[k] (nw.drop (nw.length-(ar e[k].1).toNat)) s).2=2:=λh=>by
   have:aa (Ha e[k] (nw.drop (nw.length-(ar e[k].1).toNat)) s)=aa (((0:Int),(0:Int)),(2:Int)):=by
    rw[<-hp];exact aj h
   grind
  have A8:¬((e[k].2:Int)≠0/\¬((1<=(e[k].1:Int)/\(e[k].1:Int)<=8)\/(14<=(e[k].1:Int)/\(e[k].1:Int)<=16)\/(e[k].1:Int)=33\/(e[k].1:Int)=34\/(36<=(e[k].1:Int)/\(e[k].1:Int)<=39)))->Wp (M.bi aV e[k] (nw.drop (nw.length-(ar e[k].1).toNat)) s) λy9=>(¬(y9.2:Int)=0->(((0:Int),(0:Int)),(k:Int),y9.2)=Kg e s)/\((y9.2:Int)=0->Wp (cA (nw.take (nw.length-(ar e[k].1).toNat)) [y9.1]) λx=>k<e.length/\aiE.wrap ((k:Int)+1)=((k+1:Nat):Int)/\∃st sk,x.length=sk.length/\k8 e 0 [] []=k8 (e.drop (k+1)) (k+1) st sk/\nL s e 0 []=nL s (e.drop (k+1)) (k+1) x/\x.length<=k+1/\(0<k+1->x≠[])/\∀t∈x,ru t):=λh=>by
   rw[rest h];refine .some ⟨λhc=>bad _ hc rfl,λhc=>?_⟩;rw[ai (λg=>g hc)]at ht;refine nK.2 ⟨by grind,aH,cN (m:=e.length) (by omega) aH,_,_,?_,Qh.trans hr,ht,?_,λ_=>by simp,λt h=>?_⟩
   .grind
   all_goals grind
  simp only[aF aH,w1,qV (show nw.length-(ar e[k].1).toNat<=nw.length by omega),qU (l:=nw) (nw.length-(ar e[k].1).toNat) nw.length rfl rfl (by omega) (aiM _),aiS,W_,av,ax,reduceCtorEq];exact⟨λh1=>⟨λh2=>bad 2 (by decide) (cond ⟨h1,h2⟩),λh2=>A8 λg=>g.2 h2⟩,λh1=>A8 λg=>g.1 h1⟩
 .obtain rfl:k=e.length:=by omega
  rw[List.drop_length,nL]at ht;rw[hT,ht];have:nw≠[]:=pW (List.length_pos_iff.2 du);obtain⟨a,l,rfl⟩:=List.exists_cons_of_ne_nil this;exact eQ.2 ⟨by simp,rfl⟩
end L
namespace L
inductive Ms(D:Int->Int->Prop):Int->Int->Prop
 |one {a b:Int} (h:D a b):Ms D a b
 |step {a b c:Int} (h:Ms D a b) (g:D b c):Ms D a c
def Dp(s:iJ)(a b:Int):Prop:=b∈oy s a
def xg{y:Int}:∀{l out:List Int},y∈l.foldl (λo z=>ins z o) out↔y∈l\/y∈out
 |[],_=>by simp
 |x::l,out=>by
  rw[List.foldl_cons,xg (l:=l),oe,aju]
  grind
def o3(s:iJ){out:List Int}{y:Int}:y∈stepT s out↔y∈out\/∃x∈out,Dp s x y:=by
 unfold stepT
 suffices∀(l o:List Int),y∈l.foldl (λo x=>(oy s x).foldl (λo y=>ins y o) o) o↔y∈o\/∃x∈l,Dp s x y from this _ _
 intro l
 induction l with
 |nil=>intro o;simp
 |cons x l ih=>
  intro o;rw[List.foldl_cons,ih,xg];unfold Dp
  grind
def qs(s:iJ)(d:Int):∀n y,y∈lY s n (oy s d)->Ms (Dp s) d y
 |0,y,h=> .one h
 |n+1,y,h=>by
  rcases(o3 s).1 h with h|⟨x,hx,h⟩
  .exact qs s d n y h
  .exact .step (qs s d n x hx) h
def Jt{l m:List Int}(hl:l.Pairwise (· < ·))(hm:m.Pairwise (· < ·))(h:∀y,y∈l↔y∈m):l=m:=by
 induction l generalizing m with
 |nil=>
  cases m with
  |nil=>rfl
  |cons y m=>exact absurd ((h y).2 (by simp)) (by simp)
 |cons x l ih=>
  cases m with
  |nil=>grind
  |cons y m=>
   obtain⟨h1,h2⟩:=ajL.1 hl;obtain⟨g1,g2⟩:=ajL.1 hm
   have e:x=y:=by
    rcases aju.1 ((h x).1 (by simp))with e|e
    .exact e
    .rcases aju.1 ((h y).2 (by simp))with e'|e'
     all_goals grind
   grind
def zx{l:List Int}:∀{m:List Int},l.Nodup->(∀y,y∈l->y∈m)->l.length<=m.length:=by
 induction l with
 |nil=>grind
 |cons x l ih=>
  intro m hn h;obtain⟨h1,h2⟩:=List.nodup_cons.1 hn;have hx:=h x (by simp)
  have:=ih (m:=m.erase x) h2 λy hy=>(List.mem_erase_of_ne (λe:y=x=>h1 (by rw[<-e];exact hy))).2 (h y (by simp[hy]))
  rw[List.length_erase_of_mem hx]at this;have:=List.length_pos_of_mem hx;simp only[aiU];omega
def He{l m:List Int}(hl:l.Pairwise (· < ·))(_:m.Pairwise (· < ·))(h:∀y,y∈l->y∈m)(hx:∃y,y∈m/\y∉l):l.length<m.length:=by
 have nd:l.Nodup:=hl.imp λh=>by omega
 obtain⟨y,hy,hn⟩:=hx;have nd2:(y::l).Nodup:=List.nodup_cons.2 ⟨hn,nd⟩;have:(y::l).length<=m.length:=zx nd2 (by grind)
 grind
def Bc(s:iJ)(d:Int):(∀n,n<=s.2.2.2.1.length->(stepT s (lY s n (oy s d))=lY s n (oy s d)\/n<=(lY s n (oy s d)).length)):=by
 have XH:∀m,ug s.2.2.2.1.length (lY s m (oy s d)):=λm=>by
  induction m with
  |zero=>exact nM s d
  |succ m ih=>exact qW s ih
 intro n
 induction n with
 |zero=>grind
 |succ n ih=>
  intro hn
  rcases ih (by omega)with h|h
  .grind [lY]
  .by_cases hx:∃y,y∈stepT s (lY s n (oy s d))/\y∉lY s n (oy s d)
   .right
    have:=He (XH n).1 (qW s (XH n)).1 (λy hy=>(o3 s).2 (.inl hy)) hx
    grind [lY]
   .left
    have:stepT s (lY s n (oy s d))=lY s n (oy s d):=Jt (qW s (XH n)).1 (XH n).1 λy=>⟨(by grind),λh=>(o3 s).2 (.inl h)⟩
    grind [lY]
theorem OX(s:iJ)(d y:Int):y∈Kh s d↔Ms (Dp s) d y:=by
 refine⟨λh=>qs s d _ y h,λh=>?_⟩
 have closed:∀x z,x∈Kh s d->Dp s x z->z∈Kh s d:=by
  intro x z hx hz
  rcases Bc s d s.2.2.2.1.length (aiM _)with h|h
  .have:z∈stepT s (lY s s.2.2.2.1.length (oy s d)):=(o3 s).2 (.inr ⟨x,hx,hz⟩);rw[h]at this;exact this
  .have hs:=OQ s d;have QF:=(nM s x).2 z hz
   refine Classical.not_not.1 λhn=>?_
   have:=He (l:=Kh s d) (m:=ins z (Kh s d)) hs.1 (FB hs.1) (λy hy=>oe.2 (.inr hy)) ⟨z,oe.2 (.inl rfl),hn⟩;have:=(hs.ins QF).len
   grind [Kh]
 have start:∀z,Dp s d z->z∈Kh s d:=by
  intro z hz
  show z∈lY s s.2.2.2.1.length (oy s d)
  have:∀n,z∈lY s n (oy s d):=λn=>by
   induction n with
   |zero=>exact hz
   |succ n ih=>exact(o3 s).2 (.inl ih)
  exact this _
 induction h<;>grind
def Dm(d:Array Int)(y:Int):∀m,y∈Go.Lib.compactUpTo d m↔∃j,j<m/\d[j]! =y
 |0=>by simp[Go.Lib.compactUpTo]
 |m+1=>by
  rw[Go.Lib.compactUpTo_succ,aje,Dm d y m];constructor
  .grind
  .rintro⟨j,hj,h⟩
   rcases Nat.lt_succ_iff_lt_or_eq.1 hj with h1|rfl
   .grind
   .by_cases hk:Go.Lib.keeps d j=af
    .grind
    .left
     unfold Go.Lib.keeps at hk
     grind
theorem uV(l:List Int)(y:Int):y∈aji l↔y∈l:=by
 unfold aji;rw[Dm];constructor
 .grind
 .intro h;obtain⟨j,hj,rfl⟩:=aiR h;exact⟨j,hj,by simp[hj]⟩
def zy(l:List Int)(hl:l.length<=1000000):Wp ((M.bN aV l).bind λy1=>(M.bz aV y1).bind λy2=>aa y2) λr=>r.length<=l.length/\∀y,y∈r↔y∈l:=by
 have e1:M.bN aV l=aa (lX l):=by
  unfold M.bN zh;rw[aj (by omega)]
 have hs:(lX l).length=l.length:=List.length_mergeSort ..
 have e2:M.bz aV (lX l)=aa (aji (lX l)):=by
  unfold M.bz oV;rw[aj (by omega)]
 rw[e1,aiD,e2];refine .some ⟨?_,λy=>?_⟩
 all_goals grind [wT,lX,uV,List.mem_mergeSort]
def lj(l:List Int)(hl:l.length<=1000000):Wp (M.gG aV l) λr=>r.length<=l.length/\∀y,y∈r↔y∈l:=zy l hl
def s8(l:List Int)(hl:l.length<=1000000):Wp (M.fP aV l) λr=>r.length<=l.length/\∀y,y∈r↔y∈l:=zy l hl
def Ju(e:List Ty)(y:Int):Prop:=∃n∈e,(n.1:Int)=8/\(n.2:Int)=y
theorem FJ(p:Int->Bool)(e:List Ty)(y:Int):y∈pD p e↔∃n∈e,p n.1=af/\(n.2:Int)=y:=by
 unfold pD
 suffices∀(e:List Ty)(l:List Int),y∈e.foldl (λl n=>if p n.1=af then ins n.2 l else l) l↔y∈l\/∃n∈e,p n.1=af/\(n.2:Int)=y by grind
 intro e
 induction e with
 |nil=>intro l;simp
 |cons n e ih=>
  grind [oe]
theorem Dn(e:List Ty)(y:Int):y∈pD uT e↔Ju e y:=by
 grind [FJ,Ju,uT]
def rv(e:List Ty)(he:e.length<=100000):Wp (M.dw aV e) λr=>r.2.1.length<=e.length/\∀y,y∈r.2.1↔Ju e y:=by
 unfold M.dw;rw[wp_bind]
 refine Wp.count (λs=>s.1) e.length (λk s=>(s.2.1.length<=k/\s.2.2.1.length<=k/\s.2.2.2.length<=k)/\∀y,y∈s.2.2.1↔∃j,∃h:j<e.length,j<k/\(e[j].1:Int)=8/\(e[j].2:Int)=y) (by omega) rfl ⟨by simp,λy=>by simp⟩ λk s hk hs hJ=>?_
 obtain⟨i,a,b,c⟩:=s;obtain⟨⟨l1,l2,l3⟩,hm⟩:=hJ;dsimp only at hs l1 l2 l3 hm;subst hs;simp only[W_,av,ax,reduceCtorEq,bg,aY];refine⟨λaH=>?_,λhge=>?_⟩
 .have aH:k<e.length:=by omega
  have nxt:∀b':List Int,(∀y,y∈b'↔y∈b\/((e[k].1:Int)=8/\(e[k].2:Int)=y))->∀y,y∈b'↔∃j,∃h:j<e.length,j<k+1/\(e[j].1:Int)=8/\(e[j].2:Int)=y:=(by grind)
  have same:(e[k].1:Int)≠8->∀y,y∈b↔∃j,∃h:j<e.length,j<k+1/\(e[j].1:Int)=8/\(e[j].2:Int)=y:=(by grind)
  simp only[aF aH,cN (m:=e.length) (by omega) aH,W_,av,ax,reduceCtorEq]
  have app:∀(q:List Int)(v:Int)(Q:List Int->Prop),q.length<=k->Q (q++[v])->Wp (cA q [v]) Q:=λq v Q hq h=>nK.2 ⟨by simp;omega,h⟩
  grind
 .refine(lj a (by omega)).mono λ_ _=>?_
  refine(lj b (by omega)).mono λr hr=>?_
  refine(lj c (by omega)).mono λ_ _=>?_
  grind [Ju,aiR]
def FK(r:ue)(n:Nat)(y:Int):Prop:=(Ju r.2.2.2.2.2.1 y\/Ju r.2.2.2.2.2.2.1 y)/\0<=y/\y<(n:Int)
def Hf(l o:List Int)(n:Nat)(hl:l.length<=100000)(ho:o.length<=100000):Wp (Loop (S:=Int×List Int) (X:=List Int) (λs4=>
 (if(decide (s4.1<(l.length:Int)))=af then
 ((idx l s4.1).bind λx6=>
 ((if(decide ((0:Int)<=x6))=af then
 some (decide (x6<(n:Int)))
 else
 some ag):Option (Bool)).bind λj7=>
 (if j7=af then
 (cA s4.2 ([x6]:List Int)).bind λl8=>
 some l8
 else
 some s4.2):Option (List Int)).bind λj5=>
 some (Sum.inl (aiE.wrap (s4.1+(1:Int)),j5))
 else
 some (Sum.inr s4.2))) aV ((0:Int),o)) λr=>r.length<=o.length+l.length/\∀y,y∈r↔y∈o\/(y∈l/\0<=y/\y<(n:Int)):=by
 refine Wp.count (λs=>s.1) l.length (λk s=>s.2.length<=o.length+k/\∀y,y∈s.2↔y∈o\/((∃j,∃h:j<l.length,j<k/\l[j]=y)/\0<=y/\y<(n:Int))) (by omega) rfl ⟨by simp,λy=>by simp⟩ λk s hk hs hJ=>?_
 obtain⟨i,q⟩:=s;obtain⟨h1,hm⟩:=hJ;dsimp only at hs h1 hm;subst hs;simp only[W_,av,ax,reduceCtorEq,bg,aY];refine⟨λaH=>?_,λhge=>?_⟩
 .have aH:k<l.length:=by omega
  simp only[aF aH,cN (m:=l.length) (by omega) aH,W_,av,ax,reduceCtorEq]
  grind [nK]
 .refine⟨by omega,λy=>?_⟩;rw[hm];refine or_congr Iff.rfl (and_congr_left λhy=>⟨(by grind),λh=>?_⟩)
  grind [aiR]
def Jv(r:ue)(n:Nat)(h1:r.2.2.2.2.2.1.length<=50)(h2:r.2.2.2.2.2.2.1.length<=50):Wp (M.fh aV r (n:Int)) λl=>l.length<=100/\∀y,y∈l↔FK r n y:=by
 unfold M.fh;rw[wp_bind]
 refine(rv _ (by omega)).mono λa ha=>?_
 rw[wp_bind]
 refine(rv _ (by omega)).mono λb hb=>?_
 rw[wp_bind]
 refine(Hf a.2.1 [] n (by omega) (by simp)).mono λc hc=>?_
 have QT:=hc.1;simp only[ajl]at QT
 refine(Hf b.2.1 c n (by omega) (by omega)).mono λq hq=>⟨by omega,λy=>?_⟩
 grind [FK]
theorem zA(n:Nat)(y:Int):∀(l out:List Int),y∈oZ n out l↔y∈out\/(y∈l/\0<=y/\y<(n:Int))
 |[],out=>by show y∈out↔_;simp
 |x::l,out=>by
  show y∈oZ n (if 0<=x/\x<(n:Int)then ins x out else out) l↔_
  rw[zA n y l]
  grind [oe]
def Mu(s:iJ)(d y:Int):Dp s d y↔(0<=d/\d<(s.2.2.2.1.length:Int))/\∃r∈s.2.2.2.2,(r.2.1:Int)=d/\FK r s.2.2.2.1.length y:=by
 unfold Dp oy;split
 .rename_i hd
  suffices∀(rs:List ue)(out:List Int),y∈rs.foldl (λout r=>if(r.2.1:Int)=d then oZ s.2.2.2.1.length (oZ s.2.2.2.1.length out (pD uT r.2.2.2.2.2.1)) (pD uT r.2.2.2.2.2.2.1)else out) out↔y∈out\/∃r∈rs,(r.2.1:Int)=d/\FK r s.2.2.2.1.length y by
   grind
  intro rs
  induction rs with
  |nil=>intro out;simp
  |cons r rs ih=>
   intro out;rw[List.foldl_cons,ih]
   grind [zA,Dn,FK]
 grind
def SL(s:iJ)(L:List (List Int)):Prop:=L.length=s.2.2.2.1.length/\∀d,∀h:d<L.length,L[d].length<=6000/\∀y,y∈L[d]↔Dp s (d:Int) y
theorem nq(s:iJ)(hs:iq s):Wp (M.gH aV s) (SL s):=by
 have Hd:=hs.2.2.1;have Wi:=hs.2.2.2.1;have hru:=hs.2.2.2.2.2.2;unfold M.gH;rw[wp_bind];refine rR.2 ⟨by omega,?_⟩;rw[wp_bind,aiL]
 refine Wp.count (λs=>s.1) s.2.2.2.2.length (λk q=>q.2.length=s.2.2.2.1.length/\∀d,∀h:d<q.2.length,q.2[d].length<=100*k/\∀y,y∈q.2[d]↔∃j,∃h:j<s.2.2.2.2.length,j<k/\(s.2.2.2.2[j].2.1:Int)=(d:Int)/\FK s.2.2.2.2[j] s.2.2.2.1.length y) (by omega) rfl ⟨by simp,λd h=>by simp⟩ λk q hk uj hJ=>?_
 obtain⟨i,q⟩:=q;obtain⟨hl,hm⟩:=hJ;dsimp only at uj hl hm;subst uj;simp only[W_,av,ax,reduceCtorEq,bg,aY];refine⟨λaH=>?_,λhge=>?_⟩
 .have aH:k<s.2.2.2.2.length:=by omega
  have hrk:=hru _ (aiJ aH);simp only[aF aH,cN (m:=s.2.2.2.2.length) (by omega) aH,hl,W_,av,ax,reduceCtorEq]
  have k9:∀d,∀h:d<q.length,(¬(s.2.2.2.2[k].2.1:Int)=(d:Int))->q[d].length<=100*(k+1)/\∀y,y∈q[d]↔∃j,∃h:j<s.2.2.2.2.length,j<k+1/\(s.2.2.2.2[j].2.1:Int)=(d:Int)/\FK s.2.2.2.2[j] s.2.2.2.1.length y:=(by grind)
  have dfo:=Jv s.2.2.2.2[k] s.2.2.2.1.length hrk.2.2.1 hrk.2.2.2
  obtain⟨(v:Int),hv⟩:∃v:Int,v=s.2.2.2.2[k].2.1:=⟨_,rfl⟩
  simp only[<-hv]at k9⊢;refine⟨λh0=>⟨λh1=>?_,λh1=>⟨aH,λd h=>k9 d (by omega) λe=>h1 (e▸Int.ofNat_lt.2 h)⟩⟩,λh0=>⟨aH,λd h=>k9 d (by omega) (by grind)⟩⟩;obtain⟨c,rfl⟩:=aiI h0
  have hc:c<q.length:=by rw[hl];exact Int.ofNat_lt.1 h1
  simp only[aF hc,W_,av,ax,reduceCtorEq]
  refine dfo.mono λl9 h9=>nK.2 ⟨by grind,?_⟩
  refine⟨aH,by rw[jh];exact hl,λd h=>?_⟩
  have hd:d<q.length:=by rw[jh]at h;exact h
  rw[vB h hd]
  by_cases e:(c:Int)=(d:Int)
  .rw[aj e]
   have e:c=d:=by omega
   subst e;refine⟨by grind,λy=>?_⟩;rw[aje,(hm c hd).2,h9.2];constructor
   .rintro(⟨j,h1,h2,h3⟩|h3)
    .grind
    grind
   grind
  .rw[ai e];exact k9 d hd e
 obtain rfl:k=s.2.2.2.2.length:=by omega
 have YL:∀d,∀h:d<q.length,q[d].length<=6000/\∀y,y∈q[d]↔Dp s (d:Int) y:=λd h=>⟨by grind,λy=>by
  rw[(hm d h).2,Mu];constructor
  .grind
  grind [aiR]⟩
 refine Wp.count (λs=>s.1) q.length (λk z=>z.2.length=q.length/\∀d,∀h:d<z.2.length,z.2[d].length<=6000/\∀y,y∈z.2[d]↔Dp s (d:Int) y) (by omega) rfl ⟨rfl,YL⟩ λk z hk uj hJ=>?_
 obtain⟨i,z⟩:=z;obtain⟨zl,zm⟩:=hJ;dsimp only at uj zl zm;subst uj;simp only[W_,av,ax,reduceCtorEq,bg,aY];refine⟨λaH=>?_,λhge=>⟨by grind,zm⟩⟩
 have aH:k<q.length:=by omega
 have hkz:k<z.length:=by omega
 simp only[aF hkz,cN (m:=q.length) (by omega) aH,W_,av,ax,reduceCtorEq]
 refine(s8 z[k] (by grind)).mono λr hr=>⟨aH,by rw[jh];exact zl,λd h=>?_⟩
 have hd:d<z.length:=by rw[jh]at h;exact h
 rw[vB h hd]
 by_cases e:(k:Int)=(d:Int)
 .grind
 grind
def Sn(seen:List Bool)(y:Int):Prop:=0<=y/\seen[y.toNat]? =aa af
def SM{seen:List Bool}{x:Int}(hx:0<=x/\x.toNat<seen.length)(y:Int):Sn (b8 seen x af) y↔y=x\/Sn seen y:=by
 grind [Sn,b8]
structure RI(D:Int->Int->Prop)(d0:Int)(n:Nat)(ex:Int->Prop)(seen:List Bool)(q:List Int):Prop where
 len:seen.length=n
 qo:∀x∈q,0<=x/\x<(n:Int)/\(x=d0\/Sn seen x)
 snd:∀y,Sn seen y->Ms D d0 y
 clo:∀x,(x=d0\/Sn seen x)->x∈q\/ex x\/∀y,D x y->Sn seen y
 bud:q.length+seen.count ag<=n+1
def rV(s:iJ)(L:List (List Int))(hL:SL s L)(d:Nat)(hd:d<s.2.2.2.1.length)(Hd:s.2.2.2.1.length<=14):Wp (M.lv aV L (d:Int)) λr=>r.length<=1000/\∀y,y∈r↔Ms (Dp s) (d:Int) y:=by
 obtain⟨hl,hL⟩:=hL
 have hD:∀a b,Dp s a b->0<=b/\b<(s.2.2.2.1.length:Int):=λa b h=>(nM s a).2 b h
 generalize s.2.2.2.1.length=n at*;unfold M.lv;rw[wp_bind];refine rR.2 ⟨by omega,?_⟩;rw[wp_bind,aiL,hl]
 refine Wp.loop (λq=>RI (Dp s) (d:Int) n (λ_=>False) q.1 q.2) (λq=>2*q.1.count ag+q.2.length) ?_ ?_ λq hq=>?_
 .refine⟨by simp,λx hx=>?_,λy hy=>?_,λx hx=>?_,by simp;omega⟩
  .grind
  .exfalso;have:=hy.2
   grind
  .rcases hx with rfl|hx
   .grind
   .exfalso;have:=hx.2
    grind
 .grind [aV]
 obtain⟨seen,q⟩:=q;dsimp only at hq;dsimp only
 have hcn:∀l:List Bool,l.count ag<=l.length:=λl=>List.count_le_length
 refine Wp.dec (λh0=>?_) λh0=>?_
 .have NQ:0<q.length:=by omega
  obtain⟨x,t,rfl⟩:=List.exists_cons_of_ne_nil (List.length_pos_iff.1 NQ);have hx:=hq.qo x (by simp);obtain⟨c,rfl⟩:=aiI hx.1
  have hc:c<L.length:=by omega
  have i0:idx ((c:Int)::t) (0:Int)=aa (c:Int):=rfl
  have Ej:fX ((c:Int)::t) (1:Int) (((c:Int)::t).length:Int)=aa t:=by
   apply Wp.eq;refine wp_cut.2 ⟨by simp;omega,?_⟩;rw[aiL,aiS];rfl
  rw[i0,aiD,Ej,aiD,aF hc,aiD]
  have PJ:∀y,Dp s (c:Int) y->Ms (Dp s) (d:Int) y:=λy h=>by
   rcases hx.2.2 with e|e
   .exact .one (e▸h)
   .exact .step (hq.snd _ e) h
  have Wn:=(hL c hc).2;have Tq:=(hL c hc).1;have Qj:=hq.bud;simp only[aiU]at Qj;generalize L[c]=l at*
  refine Wp.count (λs=>s.1) l.length (λk z=>RI (Dp s) (d:Int) n (λy=>y=(c:Int)) z.2.1 z.2.2/\(∀j,j<k->∀h:j<l.length,Sn z.2.1 l[j])/\2*z.2.1.count ag+z.2.2.length<=2*seen.count ag+t.length) (by omega) rfl ⟨⟨hq.len,λx hx=>hq.qo x (by simp[hx]),hq.snd,λx hx=>?_,by grind⟩,λj hj=>by omega,aiM _⟩ λk z hk uj hJ=>?_
  .rcases hq.clo x hx with h|h|h
   all_goals grind
  obtain⟨i,sn,qu⟩:=z;obtain⟨hR,hP,hB⟩:=hJ;dsimp only at uj hR hP hB;subst uj;simp only[W_,av,ax,reduceCtorEq,bg,aY];refine⟨λaH=>?_,λhge=>?_⟩
  .have aH:k<l.length:=by omega
   have hy:Dp s (c:Int) l[k]:=(Wn _).1 (aiJ aH);have hyr:=hD _ _ hy;simp only[aF aH,cN (m:=l.length) (by omega) aH,W_,av,ax,reduceCtorEq]
   obtain⟨y,Xp⟩:∃y,y=l[k]:=⟨_,rfl⟩
   simp only[<-Xp]at hy hyr⊢
   have hyl:y.toNat<sn.length:=by rw[hR.len];omega
   refine eQ.2 ⟨by rw[hR.len];omega,λhf=>eQ.2 ⟨by grind,nK.2 ⟨?_,aH,?_⟩⟩,λht=>⟨aH,hR,eH hP λ_=>?_,hB⟩⟩
   .grind
   .have abj:=SM (seen:=sn) (x:=y) ⟨hyr.1,hyl⟩
    have OV:(b8 sn y af).count ag+1=sn.count ag:=by
     unfold b8;rw[List.count_set hyl]
     have h1:0<sn.count ag:=(by grind)
     simp[hf];omega
    refine⟨⟨by unfold b8;simp[hR.len],λx hx=>?_,λz hz=>?_,λx hx=>?_,?_⟩,eH (λj hj h=>?_) λh=>?_,?_⟩
    .rcases aje.1 hx with hx|hx
     .obtain⟨a1,a2,a3⟩:=hR.qo x hx
      grind
     grind
    .rcases(abj z).1 hz with rfl|hz
     .exact PJ _ hy
     .exact hR.snd z hz
    .have go:x=(d:Int)\/Sn sn x->x∈qu++[y]\/x=(c:Int)\/∀z,Dp s x z->Sn (b8 sn y af) z:=λg=>by
      rcases hR.clo x g with h|h|h
      all_goals grind
     grind
    .have:=hR.bud;simp;omega
    all_goals grind
   .rw[<-Xp];exact⟨hyr.1,by grind⟩
  .obtain rfl:k=l.length:=by omega
   show zo _ _ _ _ (.inl _)
   refine⟨⟨hR.len,hR.qo,hR.snd,λx hx=>?_,hR.bud⟩,?_⟩
   .rcases hR.clo x hx with h|h|h
    all_goals grind [aiR]
   grind
 .have NQ:q=[]:=by
   cases q with
   |nil=>rfl
   |cons x t=>simp at h0
  subst NQ;refine .some ?_
  show Wp _ _
  have Eb:∀y,Sn seen y↔Ms (Dp s) (d:Int) y:=λy=>⟨hq.snd y,λh=>by
   have cl:∀x,(x=(d:Int)\/Sn seen x)->∀z,Dp s x z->Sn seen z:=λx hx=>by
    rcases hq.clo x hx with h|h|h
    all_goals grind
   induction h<;>grind⟩
  have gN:=hq.len
  refine Wp.count (λs=>s.1) seen.length (λk z=>z.2.length<=k/\∀y,y∈z.2↔Sn seen y/\y<(k:Int)) (by omega) rfl ⟨by simp,λy=>⟨λh=>(by cases h),λh=>(by have:=h.1.1;grind)⟩⟩ λk z hk uj hJ=>?_
  obtain⟨i,o⟩:=z;obtain⟨hJ1,hJ⟩:=hJ;dsimp only at uj hJ1 hJ;subst uj;simp only[W_,av,ax,reduceCtorEq,bg,aY];refine⟨λaH=>?_,λhge=>⟨by omega,λy=>?_⟩⟩
  .have aH:k<seen.length:=by omega
   have HY:Sn seen (k:Int)↔seen[k]=af:=by
    unfold Sn;rw[aiL,aiG aH];simp
   simp only[aF aH,cN (m:=seen.length) (by omega) aH,W_,av,ax,reduceCtorEq]
   grind [nK]
  .rw[hJ,<-Eb];refine⟨λh=>h.1,λh=>⟨h,?_⟩⟩;have:=(aiW.1 h.2).1
   grind
def Jr.all(x:iJ)(hs:iq x):Jr x:=λd hd=>by
 have key:Wp (M.dx aV x (d:Int)) λtr=>tr.length<=1000/\∀y,y∈tr↔Ms (Dp x) (d:Int) y:=by
  unfold M.dx;rw[ai (by simp),aiD,ai (by simp;omega),wp_bind]
  refine(nq x hs).mono λL hL=>?_
  rw[wp_bind]
  exact(rV x L hL d hd hs.2.2.1).mono λr hr=> .some hr
 obtain⟨tr,e,h1,h2⟩:=key
 grind [OX]
def Bd(l:Lw)(hw:WF bV l)(gv:ei l):M.gU aV l=aa (A4 l):=
 Dl l hw gv (λ_ _=>Dk.all _) λx hx=>Jr.all x (gv.2.2.2.2.2 x hx)
end L
namespace L
def TQ(r:Ty)(d:Int):Prop:=VR r/\(r.1:Int)<=d/\d<(r.2:Int)
instance(r:Ty)(d:Int):Decidable (TQ r d):=by unfold TQ;infer_instance
theorem SN(r:Ty)(d:Int):M.ch aV r d=aa (decide (TQ r d)):=by
 obtain⟨(r1:Int),(r2:Int)⟩:=r;apply Wp.eq;unfold M.ch;simp only[um,W_,av,ax,reduceCtorEq];unfold TQ
 grind
def Be{α:Type}{l:List α}{i:Int}(h0:0<=i)(h1:i<(l.length:Int)):∃x,idx l i=aa x/\x∈l:=by
 obtain⟨k,rfl⟩:=aiI h0
 have hk:k<l.length:=by omega
 exact⟨_,aF hk,aiJ hk⟩
def cB{α:Type}(l:List α)(i:Int)(y:α):(b8 l i y).length=l.length:=by unfold b8;simp
def ids(P:Nat->Bool)(k:Nat):List Int:=((ajp k).filter P).map λi:Nat=>(i:Int)
theorem xh(P:Nat->Bool)(k:Nat):ids P (k+1)=ids P k++(if P k=af then[(k:Int)]else[]):=by
 unfold ids;rw[List.range_succ,List.filter_append,List.map_append]
 grind
theorem Bf{P:Nat->Bool}{k:Nat}{j:Int}:j∈ids P k↔∃i:Nat,i<k/\P i=af/\j=(i:Int):=by
 grind [ids]
def Hg(P:Nat->Bool)(k:Nat):(ids P k).length<=k:=by
 grind [ids]
def ix(l:List Int)(n:Int):Int:=fE (λx=>decide (x=n)) l
theorem SO{l:List Int}{n:Int}:0<=ix l n↔n∈l:=by
 grind [ix,og]
def Dq(P:Nat->Bool)(n:Nat):∀m,∃t,ids P (n+m)=ids P n++t
 |0=>⟨[],by simp⟩
 |m+1=>by
  obtain⟨t,ht⟩:=Dq P n m
  grind [xh]
theorem SP{P:Nat->Bool}{n k:Nat}(hk:k<n)(h:P k=af):ix (ids P n) (k:Int)=((ids P k).length:Int):=by
 obtain⟨t,ht⟩:=Dq P (k+1) (n-(k+1));rw[show k+1+(n-(k+1))=n by omega,xh,aj h,List.append_assoc]at ht;unfold ix
 refine A5 (k:=(ids P k).length) (by rw[ht];simp) ?_ λj hj PL=>?_
 .grind
 grind [Bf,aiJ]
def FL(rules:List ue)(L:List Int):Nat->Nat->Int
 |0,_=> -1
 |f+1,i=>match rules[i]? with
  |none=> -1
  |some r=>if 0<=(r.2.2.1:Int)/\(r.2.2.1:Int)<(i:Int)then(if 0<=ix L r.2.2.1 then ix L r.2.2.1 else FL rules L f (r.2.2.1:Int).toNat)else-1
def zB(rules:List ue)(L:List Int):∀f f' i,i<f->i<f'->FL rules L f i=FL rules L f' i
 |0,_,_,h,_=>absurd h (Nat.not_lt_zero _)
 |_+1,0,_,_,h=>absurd h (Nat.not_lt_zero _)
 |f+1,f'+1,i,h,h'=>by
  unfold FL
  cases rules[i]? with
  |none=>rfl
  |some r=>
   dsimp only
   obtain⟨(p:Int),Wo⟩:∃p:Int,p=r.2.2.1:=⟨_,rfl⟩
   simp only[<-Wo];by_cases hp:0<=p/\p<(i:Int)
   .rw[aj hp,aj hp];by_cases h0:0<=ix L p
    .grind
    .rw[ai h0,ai h0];exact zB rules L f f' _ (by omega) (by omega)
   grind
def Bg(rules:List ue)(L:List Int)(i:Nat):Int:=FL rules L (i+1) i
def OY{rules:List ue}{L:List Int}{i:Nat}(hi:i<rules.length):Bg rules L i=if 0<=(rules[i].2.2.1:Int)/\(rules[i].2.2.1:Int)<(i:Int)then(if 0<=ix L rules[i].2.2.1 then ix L rules[i].2.2.1 else Bg rules L (rules[i].2.2.1:Int).toNat)else-1:=by
 show FL rules L (i+1) i=_
 unfold FL;rw[aiG hi];dsimp only
 obtain⟨(p:Int),Wo⟩:∃p:Int,p=rules[i].2.2.1:=⟨_,rfl⟩
 simp only[<-Wo];by_cases hp:0<=p/\p<(i:Int)
 .rw[aj hp,aj hp];by_cases h0:0<=ix L p
  .grind
  .rw[ai h0,ai h0];exact zB rules L _ _ _ (by omega) (by omega)
 grind
def kp(rules:List ue)(Pr:ue->Bool)(i:Nat):Bool:=match rules[i]? with
 |some r=>Pr r
 |none=>ag
def Wq{rules:List ue}{Pr:ue->Bool}{i:Nat}(h:i<rules.length):kp rules Pr i=Pr rules[i]:=by
 grind [kp]
def Nt(a d:Int)(r:ue):Bool:=decide ((r.2.1:Int)=a/\TQ r.2.2.2.2.1 d)
def yw(rules:List ue)(a d:Int):List Int:=ids (kp rules (Nt a d)) rules.length
theorem SQ{r:ue}{a d:Int}{β:Type}{k:Bool->Option β}:(((if(decide (r.2.1=a))=af then(aa (decide (TQ r.2.2.2.2.1 d)):Option Bool)else aa ag):Option Bool).bind k)=k (Nt a d r):=by
 grind [Nt]
def Wr(a d:Int)(r:ue):M.eX aV r a d=aa (Nt a d r,a,d):=by
 grind [M.eX,SN,SQ]
def q9(P:Nat->Bool)(n:Nat):List Nat:=(ajp n).filter P
def Jw(P:Nat->Bool)(k:Nat):q9 P (k+1)=q9 P k++(if P k=af then[k]else[]):=lO k P
def Dr(P:Nat->Bool)(k:Nat):(q9 P k).length=(ids P k).length:=by unfold ids q9;simp
def zC(rules:List ue)(a d:Int):List Int:=(q9 (kp rules (Nt a d)) rules.length).map (Bg rules (yw rules a d))
def Hi(rules:List ue)(a d:Int):List Int:=(q9 (kp rules (Nt a d)) rules.length).map λi=>match rules[i]? with
 |some r=>r.2.2.2.1
 |none=>0
def Mv{rules:List ue}{a d:Int}(hl:rules.length<=100000):M.eY aV rules a d=aa (a,d,yw rules a d,zC rules a d):=by
 unfold M.eY;refine Wp.eq (wp_bind.2 (rR.2 ⟨by omega,?_⟩));rw[aiL]
 obtain⟨P,hP⟩:∃P,P=kp rules (Nt a d):=⟨_,rfl⟩
 obtain⟨L,hL⟩:∃L,L=yw rules a d:=⟨_,rfl⟩
 have hLd:L=ids P rules.length:=by rw[hL,hP];rfl
 refine Wp.count (λs=>s.1) rules.length (λk s=>s.2.1=a/\s.2.2.1=d/\s.2.2.2.1.length=rules.length/\(∀i:Nat,∀h:i<s.2.2.2.1.length,i<k->s.2.2.2.1[i]=if P i=af then ix L i else Bg rules L i)/\s.2.2.2.2.1=ids P k/\s.2.2.2.2.2=(q9 P k).map (Bg rules L)) (by omega) rfl ⟨rfl,rfl,by simp,λi _ hi=>absurd hi (by omega),rfl,rfl⟩ λk s hk hs hJ=>?_
 obtain⟨i,a',d',SR,li,pa⟩:=s;obtain⟨j1,j2,j3,j4,j5,j6⟩:=hJ;dsimp only at hs j1 j2 j3 j4 j5 j6;subst hs j1 j2 j5 j6
 refine Wp.dec (λaH=>?_) λhge=>?_
 .have aH:k<rules.length:=by dsimp only at aH;omega
  have Kj:=Hg P k;have BK:=Dr P k;dsimp only
  refine Wp.seq (λj=>j.1=a'/\j.2.1=d'/\j.2.2.1.length=rules.length/\(∀i:Nat,∀h:i<j.2.2.1.length,i<k+1->j.2.2.1[i]=if P i=af then ix L i else Bg rules L i)/\j.2.2.2.1=ids P (k+1)/\j.2.2.2.2=(q9 P (k+1)).map (Bg rules L)) ?_ λj hj=> .some ⟨aH,cN (m:=rules.length) (by omega) aH,hj⟩
  rw[aF aH,aiD]
  obtain⟨(p:Int),Wo⟩:∃p:Int,p=rules[k].2.2.1:=⟨_,rfl⟩
  refine Wp.seq (λv=>v=Bg rules L k) ?_ λv hv=>?_
  .rw[OY aH,<-Wo]
   refine Wp.seq (λj=>j=decide (0<=p/\p<(k:Int))) ?_ λj hj=>?_
   .refine Wp.dec (λh=> .some ?_) λh=> .some ?_
    all_goals grind
   .subst hj
    refine Wp.dec (λh=>?_) λh=> .some ?_
    .obtain⟨q,rfl⟩:=aiI h.1
     have hq:q<k:=by omega
     have hql:q<SR.length:=by omega
     rw[aF hql,aiD];refine .some ?_
     grind [SO,Bf]
    grind
  .subst hv;rw[aF (show k<SR.length by omega),aiD,Wr,aiD,xh,Jw]
   have hPk:P k=Nt a' d' rules[k]:=by rw[hP];exact Wq aH
   rw[hPk];dsimp only;by_cases hp:Nt a' d' rules[k]=af
   .rw[aj hp,aj hp,aj hp,aF (show k<(b8 SR (k:Int) (Bg rules L k)).length by rw[cB];omega),aiD,fJ (by simp;omega),aiD,fJ (by simp;omega),aiD];refine .some ⟨rfl,rfl,by rw[cB,cB];exact j3,λi h hi=>?_,rfl,by simp⟩
    grind [b8,SP]
   .rw[ai hp,ai hp,ai hp];refine .some ⟨rfl,rfl,by rw[cB];exact j3,λi h hi=>?_,by simp,by simp⟩
    grind [b8]
 .have hge:k=rules.length:=by dsimp only at hge;omega
  refine .some ?_;subst hge
  show _=_
  grind [zC]
def Jy(x:iJ)(a d:Int)(hl:x.2.2.2.2.length<=100000):M.jM aV x a d=aa (yw x.2.2.2.2 a d,zC x.2.2.2.2 a d,Hi x.2.2.2.2 a d):=by
 unfold M.jM;rw[Mv hl,aiD]
 obtain⟨rules,hr⟩:∃r:List ue,r=x.2.2.2.2:=⟨_,rfl⟩
 rw[<-hr]at hl⊢
 obtain⟨P,hP⟩:∃P,P=kp rules (Nt a d):=⟨_,rfl⟩
 have hi:yw rules a d=(q9 P rules.length).map λi:Nat=>(i:Int):=by rw[hP];rfl
 have hNl:(q9 P rules.length).length<=rules.length:=by unfold q9;exact(by grind)
 refine Wp.eq (Wp.seq (λj=>j=Hi rules a d) ?_ λj hj=> .some (by rw[hj]));unfold Hi;dsimp only;rw[hi,<-hP]
 have Jz:∀i∈q9 P rules.length,i<rules.length:=λi hi=>List.mem_range.1 (List.mem_filter.1 hi).1
 refine Wp.count (λs=>s.1) (q9 P rules.length).length (λk s=>s.2=((q9 P rules.length).take k).map λi=>match rules[i]? with
  |some r=>r.2.2.2.1
  |none=>0) (by omega) rfl rfl λk s hk hs hJ=>?_
 obtain⟨kk,l⟩:=s;dsimp only at hs hJ⊢;subst hs hJ;rw[List.length_map]
 refine Wp.dec (λaH=>?_) λhge=>?_
 .have aH:k<(q9 P rules.length).length:=by omega
  have hb:=Jz _ (aiJ aH);refine .bind (.idx k rfl (by simpa using aH) ?_);rw[List.getElem_map,aF hb,aiD];refine .bind (.app (by simp;omega) (.some ⟨aH,aT (by omega),?_⟩))
  grind [aiP]
 .have:k=(q9 P rules.length).length:=by omega
  subst this;refine .some ?_
  show _=_
  grind
end L
namespace L
def Pl(n:Nat)(v:Int):Prop:=v= -1\/v= -2\/0<=v/\v<(n:Int)
def Dt(p:List Int)(i:Int)(hl:p.length<=8):Wp (M.iX aV p i) λr=>r.length<=p.length/\∀x∈r,(0:Int)<=x/\x<(p.length:Int):=by
 unfold M.iX
 refine Wp.count (λs=>s.1) p.length (λk s=>s.2.length<=k/\∀x∈s.2,(0:Int)<=x/\x<(p.length:Int)) (by omega) rfl (by grind) λk s hk hs hJ=>?_
 obtain⟨c,l⟩:=s;obtain⟨j1,j2⟩:=hJ;dsimp only at hs j1 j2;subst hs
 refine Wp.dec (λaH=>?_) λhge=> .some ⟨by grind,j2⟩
 have aH:k<p.length:=by dsimp only at aH;omega
 dsimp only
 refine Wp.seq (λj=>j.length<=k+1/\∀x∈j,(0:Int)<=x/\x<(p.length:Int)) ?_ λj hj=> .some ⟨aH,cN (m:=p.length) (by omega) aH,hj⟩
 rw[aF aH,aiD]
 refine Wp.dec (λ_=>?_) λ_=> .some ⟨by omega,j2⟩
 rw[fJ (by simp;omega),aiD];refine .some ⟨by simp;omega,λx hx=>?_⟩
 grind
def OZ{p q r:List Int}(i:Int)(hl:p.length<=8)(hq:q.length=p.length)(hr:r.length=p.length):Wp (M.hZ aV (p,(q,r)) i) λb=>∀x∈b,(0:Int)<=x/\x<(p.length:Int):=by
 unfold M.hZ
 refine Wp.seq _ (Dt p i hl) λy hy=>?_
 obtain⟨y1,y2⟩:=hy
 refine Wp.count (λs=>s.1) y.length (λk s=>s.2.length<=k/\∀x∈s.2,(0:Int)<=x/\x<(p.length:Int)) (by omega) rfl (by grind) λk s hk hs hJ=>?_
 obtain⟨c,l⟩:=s;obtain⟨j1,j2⟩:=hJ;dsimp only at hs j1 j2;subst hs
 refine Wp.dec (λaH=>?_) λhge=> .some j2
 have aH:k<y.length:=by dsimp only at aH;omega
 dsimp only
 refine Wp.seq (λj=>j.length<=k+1/\∀x∈j,(0:Int)<=x/\x<(p.length:Int)) ?_ λj hj=> .some ⟨aH,cN (m:=y.length) (by omega) aH,hj⟩
 have hv:=y2 _ (aiJ aH);rw[aF aH,aiD];generalize y[k]=v at hv⊢
 have at_:∀{l:List Int}{u:Int},l.length=p.length->(0:Int)<=u/\u<(p.length:Int)->∃z,idx l u=aa z:=λ{l u}h h'=>by
  obtain⟨z,hz,_⟩:=Be (l:=l) (i:=u) h'.1 (by omega)
  grind
 obtain⟨z1,e1⟩:=at_ hr hv;obtain⟨z2,e2⟩:=at_ hq hv
 have hd:∀{l:List Int},0<l.length->(∀x∈l,(0:Int)<=x/\x<(p.length:Int))->∃u z,idx l (0:Int)=aa u/\idx q u=aa z:=λ{l}h h'=>by
  obtain⟨u,hu,hm⟩:=Be (l:=l) (i:=0) (ajs _) (by omega)
  grind
 rw[e1,aiD]
 refine Wp.dec (λ_=> .some ⟨by omega,j2⟩) λ_=>?_
 refine Wp.seq (λj=>j.length<=k/\∀x∈j,(0:Int)<=x/\x<(p.length:Int)) ?_ λl6 h6=>?_
 .refine Wp.seq (λ_=>True) ?_ λj7 _=>?_
  .refine Wp.dec (λh=>?_) λ_=> .some trivial
   obtain⟨u,z,hu,hz⟩:=hd (l:=l) (by omega) j2;rw[e2,aiD,hu,aiD,hz];exact .some trivial
  .refine Wp.ite (λ_=>?_) λ_=> .some ⟨j1,j2⟩
   rw[qU (l:=l) (i:=0) (j:=0) 0 0 rfl rfl (aiM _) (ai6 _),aiD];exact .some ⟨by simp,by simp⟩
 .obtain⟨g1,g2⟩:=h6
  refine Wp.seq (λ_=>True) ?_ λj12 _=>?_
  .refine Wp.dec (λ_=> .some trivial) λh=>?_
   obtain⟨u,z,hu,hz⟩:=hd (l:=l6) (by omega) g2;rw[e2,aiD,hu,aiD,hz];exact .some trivial
  .refine Wp.ite (λ_=>?_) λ_=> .some ⟨by omega,g2⟩
   rw[fJ (by simp;omega),aiD];refine .some ⟨by simp;omega,λx hx=>?_⟩
   grind
theorem Hj{p q r:List Int}(i:Int)(hl:p.length<=8)(hq:q.length=p.length)(hr:r.length=p.length)(hp:∀x∈r,Pl p.length x):Wp (M.dp aV (p,(q,r)) i) (Pl p.length):=by
 unfold M.dp
 refine Wp.seq _ (OZ i hl hq hr) λb hb=>?_
 refine Wp.dec (λ_=> .some (.inl rfl)) λh0=>?_
 refine Wp.dec (λh1=>?_) λ_=> .some (.inr (.inl rfl))
 obtain⟨u,hu,hm⟩:=Be (l:=b) (i:=0) (ajs _) (by omega);have:=hb u hm;obtain⟨z,hz,hzm⟩:=Be (l:=r) (i:=u) this.1 (by omega);rw[hu,aiD];dsimp only;rw[hz,aiD];exact .some (hp z hzm)
theorem Du{α:Type}{l:List α}{i:Int}{y x:α}(h:x∈b8 l i y):x∈l\/x=y:=by
 grind [b8]
theorem O0{p q:List Int}{a:List Bool}(hl:p.length<=8)(hq:q.length=p.length)(ha:a.length=p.length):Wp (M.iY aV p q a) λr=>r.length=p.length/\∀x∈r,Pl p.length x:=by
 unfold M.iY;rw[wp_bind];refine rR.2 ⟨by omega,?_⟩;rw[aiL]
 have hw:∀n:Nat,n<=8->aiE.wrap ((n:Int)-1)=(n:Int)-1:=λn h=>aX (by omega) (by omega)
 refine Wp.loop (λs=>(∃k:Nat,s.1=(k:Int)-1/\k<=p.length)/\s.2.length=p.length/\∀x∈s.2,Pl p.length x) (λs=>(s.1+1).toNat) ⟨⟨p.length,hw _ hl,aiM _⟩,by simp,λx hx=>?_⟩ ?_ ?_
 .rw[List.mem_replicate]at hx;exact .inr (.inr ⟨by omega,by omega⟩)
 .grind [aV]
 .rintro⟨c,l⟩ ⟨⟨k,hk,Kj⟩,j1,j2⟩
  dsimp only at hk j1 j2;subst hk
  refine Wp.dec (λaH=>?_) λhge=> .some ⟨j1,j2⟩
  obtain⟨m,rfl⟩:∃m,k=m+1:=⟨k-1,by grind⟩
  have hm:(((m+1:Nat):Int)-1)=(m:Int):=by omega
  rw[hm]
  have NP:m<p.length:=by omega
  dsimp only
  refine Wp.seq (λj=>j.length=p.length/\∀x∈j,Pl p.length x) ?_ λj hj=> .some ⟨⟨⟨m,by rw[hw _ (by omega)],by omega⟩,hj⟩,by grind⟩
  refine Wp.seq _ (Hj (m:Int) hl hq j1 j2) λv hv=>?_
  have s1:(b8 l (m:Int) v).length=p.length:=by rw[cB];exact j1
  have s2:∀x∈b8 l (m:Int) v,Pl p.length x:=λx hx=>by
   grind [Du]
  rw[aF (show m<l.length by omega),aiD]
  refine Wp.seq (λ_=>True) ?_ λj6 _=>?_
  .rw[aF (by grind),aiD]
   refine Wp.dec (λ_=>?_) λ_=> .some trivial
   rw[aF (show m<a.length by omega),aiD];exact .some trivial
  .refine Wp.ite (λ_=>?_) λ_=> .some ⟨s1,s2⟩
   rw[aF (by grind),aiD];refine .some ⟨by rw[cB];exact s1,λx hx=>?_⟩
   rcases Du hx with h|rfl
   .exact s2 x h
   .exact .inr (.inr ⟨by omega,by omega⟩)
def JA(p q:List Int)(a:List Bool)(hp:p.length<=100000):Wp (M.kK aV p q a) (Pl p.length):=by
 unfold M.kK
 have hV:Wp (M.iW aV p q) λc=>c=0->p.length<=8/\q.length=p.length:=by
  unfold M.iW
  refine Wp.fD (λ_=> .some λh=>by cases h) λh1=>?_
  refine Wp.dec (λ_=> .some λh=>by cases h) λh2=>?_
  have hq:q.length=p.length:=by omega
  refine Wp.count (λs=>s) p.length (λ_ _=>True) (by omega) rfl trivial λk s hk hs _=>?_
  obtain rfl:s=_:=hs
  refine Wp.dec (λaH=>?_) λhge=> .some λ_=>⟨by omega,hq⟩
  have aH:k<p.length:=by omega
  rw[aF aH,aiD]
  refine Wp.seq (λ_=>True) (Wp.dec (λ_=> .some trivial) λ_=> .some trivial) λj3 _=>?_
  refine Wp.ite (λ_=> .some λh=>by cases h) λ_=>?_
  refine Wp.seq (λ_=>True) ?_ λj4 _=>?_
  .rw[aF (show k<q.length by omega),aiD]
   exact Wp.dec (λ_=> .some trivial) λ_=> .some trivial
  .exact Wp.ite (λ_=> .some λh=>by cases h) λ_=> .some ⟨aH,cN (m:=p.length) (by omega) aH,trivial⟩
 refine Wp.seq (λj=>j=ag->p.length<=8/\q.length=p.length/\a.length=p.length) ?_ λj hj=>?_
 .refine Wp.seq _ hV λc hc=>?_
  refine Wp.fD (λ_=> .some λh=>by cases h) λh=> .some λg=>?_
  grind
 .cases j with
  |true=>rw[aj rfl];exact .some (.inl rfl)
  |false=>
   grind [Wp.seq,O0,Hj]
end L
namespace L
def kO(l:List Int)(i:Nat):Int:=l.getD i 0
def par(i:Nat):Nat:=(i-1)/2
def rW(l:List Int)(n:Nat):Prop:=∀k,0<k->k<n->kO l (par k)<=kO l k
def swp(l:List Int)(i j:Nat):List Int:=(l.set i (kO l j)).set j (kO l i)
def qt{l:List Int}{i:Nat}(h:i<l.length):kO l i=l[i]:=by unfold kO;simp[h]
def Hk(l:List Int)(i k:Nat)(v:Int)(h:i<l.length):kO (l.set i v) k=if k=i then v else kO l k:=by
 unfold kO;rw[List.getD_eq_getElem?_getD,List.getD_eq_getElem?_getD,List.getElem?_set];by_cases e:k=i
 .rw[aj e.symm,aj h,aj e];rfl
 .rw[ai (λg=>e g.symm),ai e]
def qX(l:List Int)(i j:Nat):(swp l i j).length=l.length:=by unfold swp;simp
def oz(l:List Int)(i j k:Nat)(hi:i<l.length)(hj:j<l.length):kO (swp l i j) k=if k=j then kO l i else if k=i then kO l j else kO l k:=by
 unfold swp;rw[Hk _ _ _ _ (by simpa using hj),Hk _ _ _ _ hi]
def xi(l:List Int)(i j:Nat)(hi:i<l.length)(hj:j<l.length):(swp l i j).Perm l:=by
 rw[List.perm_iff_count];intro x;unfold swp;rw[List.count_set (by simpa using hj),List.count_set hi,qt hi,qt hj,List.getElem_set]
 have h1:(if(l[i]==x)=af then 1 else 0)<=l.count x:=by
  split
  .rename_i h;exact List.count_pos_iff.2 (by rw[beq_iff_eq]at h;rw[<-h];exact aiJ hi)
  .exact ai6 _
 by_cases e:i=j
 .subst e;simp only[if_true];omega
 .rw[ai e];omega
def swap_eq(l:List Int)(i j:Nat)(hi:i<l.length)(hj:j<l.length):M.cT aV (i:Int) (j:Int) l=aa (swp l i j):=by
 unfold M.cT;simp only[aF hi,aF hj,aiD];rw[aF (show j<(b8 l (i:Int) l[j]).length by unfold b8;simpa using hj),aiD];unfold swp b8;rw[qt hi,qt hj,aiL,aiL]
def Bh(l:List Int)(i j:Nat)(hi:i<l.length)(hj:j<l.length):M.dN aV l (i:Int) (j:Int)=aa (decide (kO l i<kO l j)):=by
 unfold M.dN;rw[aF hi,aF hj,qt hi,qt hj];rfl
def SU(l:List Int)(j:Nat):Prop:=(∀k,0<k->k<l.length->k≠j->kO l (par k)<=kO l k)/\(0<j->∀k,0<k->k<l.length->par k=j->kO l (par j)<=kO l k)
def mg{k:Nat}(h:0<k):par k<k:=by unfold par;omega
def SU.done{l:List Int}{i:Nat}(h:SU l i)(hi:i=0\/kO l (par i)<=kO l i):rW l l.length:=λk h0 hk=>by
 by_cases e:k=i
 .subst e
  rcases hi with hi|hi
  .omega
  .exact hi
 .exact h.1 k h0 hk e
def SU.step{l:List Int}{i:Nat}(h:SU l i)(h0:0<i)(hi:i<l.length)(aH:kO l i<kO l (par i)):SU (swp l (par i) i) (par i):=by
 have hp:=mg h0
 have EA:par i<l.length:=by omega
 obtain⟨h1,h2⟩:=h;have h2:=h2 h0;refine⟨λk k0 hk du=>?_,λp0 k k0 hk vD=>?_⟩
 .rw[qX]at hk;rw[oz _ _ _ _ EA hi,oz _ _ _ _ EA hi];have vD:=mg k0;by_cases e:k=i
  .subst e;rw[ai (by omega),aj rfl,aj rfl];omega
  .rw[ai e,ai du];by_cases e2:par k=i
   .rw[aj e2];exact h2 k k0 hk e2
   .rw[ai e2];by_cases e3:par k=par i
    .rw[aj e3];have:=h1 k k0 hk e;rw[e3]at this;omega
    .rw[ai e3];exact h1 k k0 hk e
 .rw[qX]at hk;rw[oz _ _ _ _ EA hi,oz _ _ _ _ EA hi];have hpp:=mg p0;have YP:=h1 (par i) p0 EA (by omega);rw[ai (by omega),ai (by omega)];by_cases e:k=i
  .subst e;rw[aj rfl];exact YP
  .have hkp:k≠par i:=λe2=>by
    rw[e2]at vD;omega
   rw[ai e,ai hkp];have:=h1 k k0 hk e;rw[vD]at this;omega
def SV{i:Nat}(h0:0<i)(hi:i<=1000000):aiE.wrap (aiQ (aiE.wrap ((i:Int)-(1:Int))) (2:Int))=((par i:Nat):Int):=by
 rw[aX (n:=(i:Int)-1) (by omega) (by omega),Int.tdiv_eq_ediv_of_nonneg (by omega)];unfold par;rw[aX (by omega) (by omega)];omega
def Ws(l:List Int)(j:Nat)(hj:j<l.length)(hl:l.length<=1000000)(hU:SU l j):Wp (M.fT aV (j:Int) l) λr=>r.Perm l/\rW r r.length:=by
 unfold M.fT
 refine Wp.loop (λs=>∃i:Nat,s.1=(i:Int)/\i<s.2.length/\s.2.Perm l/\SU s.2 i) (λs=>s.1.toNat) ⟨j,rfl,hj, .refl l,hU⟩ (by show(j:Int).toNat<aV;unfold aV;omega) λs hs=>?_
 obtain⟨c,q⟩:=s;obtain⟨i,hc,hi,hp,hu⟩:=hs;dsimp only at hc hi hp hu;subst hc;have hlen:=hp.length_eq;dsimp only;by_cases h0:i=0
 .subst h0
  have e:aiE.wrap (aiQ (aiE.wrap (((0:Nat):Int)-(1:Int))) (2:Int))=((0:Nat):Int):=by decide
  rw[e,aj (aq rfl),aiD,aj rfl];exact .some ⟨hp,hu.done (.inl rfl)⟩
 .have EA:=mg (show 0<i by omega);rw[SV (by omega) (by omega),ai (by rw[az];omega),Bh _ _ _ hi (by omega),aiD,aiD];by_cases aH:kO q i<kO q (par i)
  .rw[ai (by simpa using aH),swap_eq _ _ _ (by omega) hi,aiD];refine .some ⟨⟨par i,rfl,by show par i<(swp q (par i) i).length;rw[qX];omega,(xi q _ _ (by omega) hi).trans hp,hu.step (by omega) hi aH⟩,?_⟩
   show((par i:Nat):Int).toNat<((i:Nat):Int).toNat
   omega
  .rw[aj (by simpa using aH)];exact .some ⟨hp,hu.done (.inr (by omega))⟩
def Qk(l:List Int)(i n:Nat):Prop:=(∀k,0<k->k<n->par k≠i->kO l (par k)<=kO l k)/\(0<i->∀k,0<k->k<n->par k=i->kO l (par i)<=kO l k)
def Qk.done{l:List Int}{i n:Nat}(h:Qk l i n)(hi:∀k,0<k->k<n->par k=i->kO l i<=kO l k):rW l n:=λk h0 hk=>by
 by_cases e:par k=i
 .rw[e];exact hi k h0 hk e
 .exact h.1 k h0 hk e
def Qk.step{l:List Int}{i j n:Nat}(h:Qk l i n)(XI:0<j)(hjn:j<n)(hn:n<=l.length)(Wt:par j=i)(aH:kO l j<kO l i)(JB:∀k,0<k->k<n->par k=i->kO l j<=kO l k):Qk (swp l i j) j n:=by
 have hp:=mg XI
 have wY:i<l.length:=by omega
 have EG:j<l.length:=by omega
 obtain⟨h1,h2⟩:=h;refine⟨λk k0 hk du=>?_,λ_ k k0 hk vD=>?_⟩
 .rw[oz _ _ _ _ wY EG,oz _ _ _ _ wY EG,ai du];by_cases e:k=j
  .subst e;rw[aj Wt,aj rfl];omega
  .rw[ai e];by_cases e2:k=i
   .subst e2;have vD:=mg k0;rw[ai (by omega),aj rfl];exact h2 k0 j XI hjn Wt
   .rw[ai e2];by_cases e3:par k=i
    .rw[aj e3];exact JB k k0 hk e3
    .rw[ai e3];exact h1 k k0 hk e3
 .have hkp:=mg k0;rw[oz _ _ _ _ wY EG,oz _ _ _ _ wY EG,Wt,ai (by omega),aj rfl,ai (by omega),ai (by omega)];have:=h1 k k0 hk (by omega);rw[vD]at this;exact this
def O1(l:List Int)(n:Nat)(hn:n<=l.length)(hl:l.length<=1000000)(hD:Qk l 0 n):Wp (M.eW aV (0:Int) (n:Int) l) λr=>r.2.Perm l/\rW r.2 n/\∀k,n<=k->kO r.2 k=kO l k:=by
 unfold M.eW;rw[wp_bind]
 refine(?_:Wp _ λr=>r.2.Perm l/\rW r.2 n/\∀k,n<=k->kO r.2 k=kO l k).mono λr hr=> .some hr
 refine Wp.loop (λs=>∃i:Nat,s.1=(i:Int)/\i<=n/\s.2.Perm l/\Qk s.2 i n/\∀k,n<=k->kO s.2 k=kO l k) (λs=>n-s.1.toNat) ⟨0,rfl,ai6 _, .refl l,hD,λ_ _=>rfl⟩ (by show n-_<aV;unfold aV;omega) λs hs=>?_
 obtain⟨c,q⟩:=s;obtain⟨i,hc,hi,hp,hu,hk⟩:=hs;dsimp only at hc hi hp hu hk;subst hc;have hlen:=hp.length_eq;dsimp only
 have e1:aiE.wrap (aiE.wrap ((2:Int)*(i:Int))+(1:Int))=((2*i+1:Nat):Int):=by
  rw[aX (n:=(2:Int)*(i:Int)) (by omega) (by omega),aX (by omega) (by omega)];omega
 have e2:aiE.wrap (((2*i+1:Nat):Int)+(1:Int))=((2*i+2:Nat):Int):=by
  rw[aX (by omega) (by omega)];omega
 rw[e1,e2];by_cases h1:n<=2*i+1
 .rw[aj (by rw[az];omega),aiD,aj rfl];exact .some ⟨hp,hu.done λk k0 BK vD=>by unfold par at vD;omega,hk⟩
 rw[ai (by rw[az];omega),aiD,ai (by rw[az];omega)]
 have key:∀j:Nat,0<j->j<n->par j=i->(∀k,0<k->k<n->par k=i->kO q j<=kO q k)->Wp ((M.dN aV q (j:Int) (i:Int)).bind λy7=>
  (if(!y7)=af then
  some (Sum.inr ((i:Int),q))
  else
  (M.cT aV (i:Int) (j:Int) q).bind λy8=>
  some (Sum.inl ((j:Int),y8)))) (zo (λs:Int×List Int=>∃i:Nat,s.1=(i:Int)/\i<=n/\s.2.Perm l/\Qk s.2 i n/\∀k,n<=k->kO s.2 k=kO l k) (λs=>n-s.1.toNat) ((i:Int),q) λr:Int×List Int=>r.2.Perm l/\rW r.2 n/\∀k,n<=k->kO r.2 k=kO l k):=λj j0 hj Wt JB=>by
  have:=mg j0;rw[Bh _ _ _ (by omega) (by omega),aiD];by_cases aH:kO q j<kO q i
  .rw[ai (by simpa using aH),swap_eq _ _ _ (by omega) (by omega),aiD];refine .some ⟨⟨j,rfl,by omega,(xi q _ _ (by omega) (by omega)).trans hp,hu.step j0 hj (by omega) Wt aH JB,λk BK=>?_⟩,?_⟩
   .show kO (swp q i j) k=kO l k
    rw[oz _ _ _ _ (by omega) (by omega),ai (by omega),ai (by omega)];exact hk k BK
   .show n-((j:Nat):Int).toNat<n-((i:Nat):Int).toNat
    omega
  .rw[aj (by simpa using aH)];exact .some ⟨hp,hu.done λk k0 BK vD=>by have:=JB k k0 BK vD;omega,hk⟩
 have kids:∀k,0<k->k<n->par k=i->k=2*i+1\/k=2*i+2:=λk k0 _ vD=>by unfold par at vD;omega
 by_cases h2:2*i+2<n
 .rw[aj (by rw[az];omega),Bh _ _ _ (by omega) (by omega),aiD,aiD];by_cases aH:kO q (2*i+2)<kO q (2*i+1)
  .rw[aj (by simpa using aH),aiD]
   exact key _ (by omega) h2 (by unfold par;omega) λk k0 BK vD=>by rcases kids k k0 BK vD with rfl|rfl<;>omega
  .rw[ai (by simpa using aH),aiD]
   exact key _ (by omega) (by omega) (by unfold par;omega) λk k0 BK vD=>by rcases kids k k0 BK vD with rfl|rfl<;>omega
 .rw[ai (by rw[az];omega),aiD,ai (by decide),aiD]
  exact key _ (by omega) (by omega) (by unfold par;omega) λk k0 BK vD=>by
   rcases kids k k0 BK vD with rfl|rfl
   .exact ajs _
   .omega
def Hl(x:Int)(l:List Int)(hl:l.length<=999999)(hH:rW l l.length):Wp (M.cX aV x l) λr=>r.Perm (x::l)/\rW r r.length:=by
 unfold M.cX M.jy M.ef;rw[fJ (by simp;omega)];simp only[aiD]
 have e:aiE.wrap (((l++[x]).length:Int)-(1:Int))=((l.length:Nat):Int):=by
  rw[aX (by simp) (by simp;omega)];simp
 rw[e,wp_bind]
 have k9:∀k,k<l.length->kO (l++[x]) k=kO l k:=λk hk=>by unfold kO;simp[List.getElem?_append_left hk]
 refine(Ws (l++[x]) l.length (by simp) (by simp;omega) ⟨λk k0 hk du=>?_,λh0 k k0 hk vD=>?_⟩).mono λr hr=> .some ⟨hr.1.trans (List.perm_append_singleton x l),hr.2⟩
 .have iK:k<l.length:=by simp at hk;omega
  have:=mg k0;rw[k9 _ iK,k9 _ (by omega)];exact hH k k0 iK
 .have:=mg k0;simp at hk;omega
def rW.min{l:List Int}{n:Nat}(h:rW l n):∀k,k<n->kO l 0<=kO l k:=λk=>by
 induction k using Nat.strongRecOn with
 |_ k ih=>
  intro hk;by_cases h0:k=0
  .subst h0;exact ajs _
  .have hp:=mg (show 0<k by omega);have:=ih (par k) hp (by omega);have:=h k (by omega) hk;omega
def SW(l:List Int)(h0:0<l.length)(hl:l.length<=1000000)(hH:rW l l.length):Wp (M.fu aV l) λr=>l.Perm (r.1::r.2)/\rW r.2 r.2.length/\∀y∈r.2,r.1<=y:=by
 unfold M.fu M.ef
 obtain⟨n,hn⟩:∃n,l.length=n+1:=⟨l.length-1,by omega⟩
 have e:aiE.wrap ((l.length:Int)-(1:Int))=((n:Nat):Int):=by rw[aX (by omega) (by omega)];omega
 rw[aiD,e];have sw:=swap_eq l 0 n (by omega) (by omega);rw[show((0:Nat):Int)=(0:Int)from rfl]at sw;rw[sw,aiD,wp_bind]
 have hs:=λk=>oz l 0 n k (by omega) (by omega)
 refine(O1 (swp l 0 n) n (by rw[qX];omega) (by rw[qX];omega) ⟨λk k0 hk du=>?_,λh=>by omega⟩).mono λr hr=>?_
 .have:=mg k0;rw[hs,hs,ai (by omega),ai du,ai (by omega),ai (by omega)];exact hH k k0 (by omega)
 .obtain⟨b,q⟩:=r;obtain⟨h1,h2,h3⟩:=hr;dsimp only at h1 h2 h3⊢
  have hq:q.length=n+1:=by rw[h1.length_eq,qX];exact hn
  have e2:aiE.wrap ((q.length:Int)-(1:Int))=((n:Nat):Int):=by rw[aX (by omega) (by omega)];omega
  have hqn:q[n]'(by omega)=kO l 0:=by
   rw[<-qt (l:=q) (by omega),h3 n (aiM _),hs];by_cases e0:n=0
   .rw[aj rfl]
   .rw[aj rfl]
  unfold M.me;rw[e2,aF (by omega),aiD,qV (by omega),aiD,aiD]
  have Ql:l.Perm (q[n]'(by omega)::q.take n):=by
   have e3:q=q.take n++[q[n]'(by omega)]:=by
    rw[aiP (by omega),<-hq,aiS]
   refine((xi l 0 n (by omega) (by omega)).symm.trans h1.symm).trans ?_;have:(q.take n++[q[n]'(by omega)]).Perm (q[n]'(by omega)::q.take n):=List.perm_append_singleton _ _;rw[<-e3]at this;exact this
  refine .some ⟨Ql,λk k0 hk=>?_,λy hy=>?_⟩
  .have ht:(q.take n).length=n:=by rw[ajj];omega
   have hk:k<n:=by rw[<-ht];exact hk
   have vD:=mg k0
   have tk:∀i,i<n->kO (q.take n) i=kO q i:=λi hi=>by unfold kO;simp[ajI,hi]
   show kO (q.take n) (par k)<=kO (q.take n) k
   rw[tk _ hk,tk _ (by omega)];exact h2 k k0 hk
  .show q[n]'(by omega)<=y
   rw[hqn];have:y∈l:=Ql.symm.subset (List.mem_cons_of_mem _ hy);obtain⟨k,hk,rfl⟩:=aiR this;rw[<-qt hk];exact hH.min k hk
end L
namespace L
def Nu(s:iJ)(p:List Int)(d:Int):Prop:=(0<=d/\d<(s.2.2.2.1.length:Int))/\d∉p/\∀y,Dp s d y->y∈p
def uq(s:iJ)(o:List Int):Prop:=∀k,∀h:k<o.length,Nu s (o.take k) o[k]/\∀d,Nu s (o.take k) d->o[k]<=d
def uq.snoc{s:iJ}{o:List Int}{x:Int}(h:uq s o)(hx:Nu s o x)(hm:∀d,Nu s o d->x<=d):uq s (o++[x]):=λk hk=>by
 by_cases e:k<o.length
 .have:=h k e
  grind
 grind
def uq.mem{s:iJ}{o:List Int}(h:uq s o){x:Int}(hx:x∈o):(0<=x/\x<(s.2.2.2.1.length:Int))/\∀y,Dp s x y->y∈o:=by
 obtain⟨k,hk,rfl⟩:=aiR hx;obtain⟨h1,_⟩:=h k hk;exact⟨h1.1,λy hy=>List.mem_of_mem_take (h1.2.2 y hy)⟩
def uq.nodup{s:iJ}{o:List Int}(h:uq s o):o.Nodup:=by
 rw[List.nodup_iff_pairwise_ne,List.pairwise_iff_getElem];intro i j hi hj TA e;refine(h j hj).1.2.1 ?_
 grind [List.mem_take_iff_getElem]
def vI{n:Nat}{l:List Int}(hn:l.Nodup)(h:∀x∈l,0<=x/\x<(n:Int)):l.length<=n:=by
 have:=zx (m:=(ajp n).map λk:Nat=>(k:Int)) hn λy hy=>by
  obtain⟨a,b⟩:=h y hy;exact List.mem_map.2 ⟨y.toNat,List.mem_range.2 (by omega),by omega⟩
 grind
theorem uq.len{s:iJ}{o:List Int}(h:uq s o):o.length<=s.2.2.2.1.length:=vI h.nodup λx hx=>(h.mem hx).1
def Qm{α:Type}{l:List α}{i:Int}(h:0<=i):idx l i=l[i.toNat]? :=by unfold idx;rw[aj h]
def Dv{α:Type}(l:List α)(i:Int)(v:α)(u:Nat)(hi:i.toNat<l.length):(b8 l i v)[u]? =if u=i.toNat then aa v else l[u]? :=by
 grind [b8]
structure Mw(L:List (List Int))(n k:Nat)(U:List (List Int))(W H:List Int):Prop where
 ul:U.length=n
 wl:W.length=n
 u:∀e,∀h:e<U.length,U[e].length<=6000*k/\∀u:Int,U[e].count u=if 0<=u/\u<(k:Int)then(L.getD u.toNat []).count (e:Int)else 0
 w:∀u,u<k->W[u]? =aa ((L.getD u []).length:Int)
 hp:rW H H.length
 nd:H.Nodup
 h:∀u:Int,u∈H↔(0<=u/\u<(k:Int))/\L.getD u.toNat []=[]
def Mw.hl{L:List (List Int)}{n k:Nat}{U:List (List Int)}{W H:List Int}(h:Mw L n k U W H):H.length<=k:=vI h.nd λx hx=>((h.h x).1 hx).1
structure abm(s:iJ)(L:List (List Int))(n:Nat)(W O H:List Int):Prop where
 wl:W.length=n
 o:uq s O
 w:∀u,u<n->W[u]? =aa (((L.getD u []).countP λy=>decide (y∉O):Nat):Int)
 hp:rW H H.length
 nd:H.Nodup
 h:∀u:Int,u∈H↔Nu s O u
structure Wu(s:iJ)(L:List (List Int))(n:Nat)(O l:List Int)(W H:List Int):Prop where
 wl:W.length=n
 w:∀u,u<n->W[u]? =aa (((L.getD u []).countP (λy=>decide (y∉O))+l.count (u:Int):Nat):Int)
 hp:rW H H.length
 nd:H.Nodup
 h:∀u:Int,u∈H↔(0<=u/\u<(n:Int))/\u∉O/\W[u.toNat]? =aa 0
def Wu.hl{s:iJ}{L:List (List Int)}{n:Nat}{O l W H:List Int}(h:Wu s L n O l W H):H.length<=n:=vI h.nd λx hx=>((h.h x).1 hx).1
theorem getD_some{L:List (List Int)}{u:Nat}(h:u<L.length):L.getD u []=L[u]:=by simp[h]
def Dw(l O:List Int)(x:Int)(hx:x∉O):l.countP (λy=>decide (y∉O))=l.countP (λy=>decide (y∉O++[x]))+l.count x:=by
 induction l<;>grind
def Mx(l:List Int)(d n:Nat)(U:List (List Int))(hU:U.length=n)(hl:l.length<=6000)(hr:∀y∈l,0<=y/\y<(n:Int))(hb:∀e,∀h:e<U.length,U[e].length<=100000):Wp (Loop (S:=Int×List (List Int)) (X:=List (List Int)) (λO2=>
 (if(decide (O2.1<(l.length:Int)))=af then
 (idx l O2.1).bind λSX=>
 (idx O2.2 SX).bind λx15=>
 (idx O2.2 SX).bind λx16=>
 (cA x16 ([(d:Int)]:List Int)).bind λl17=>
 (idx O2.2 SX).bind λx18=>
 (if decide (SX=SX)=af then
 (idx O2.2 SX).bind λx19=>
 some (Sum.inl (aiE.wrap (O2.1+(1:Int)),sD O2.2 SX (λm20=>l17)))
 else ae)
 else
 some (Sum.inr O2.2))) aV ((0:Int),U)) λV=>V.length=n/\∀e,∀h:e<V.length,∀h':e<U.length,V[e].length<=U[e].length+l.length/\∀u:Int,V[e].count u=U[e].count u+if u=(d:Int)then l.count (e:Int)else 0:=by
 refine Wp.count (λs=>s.1) l.length (λk s=>s.2.length=n/\∀e,∀h:e<s.2.length,∀h':e<U.length,s.2[e].length<=U[e].length+k/\∀u:Int,s.2[e].count u=U[e].count u+if u=(d:Int)then(l.take k).count (e:Int)else 0) (by omega) rfl (by grind) λk s hk hs hJ=>?_
 obtain⟨i,V⟩:=s;obtain⟨hV,hJ⟩:=hJ;dsimp only at hs hV hJ;subst hs;simp only[W_,av,ax,reduceCtorEq,bg,aY];refine⟨λaH=>?_,λhge=>?_⟩
 .have aH:k<l.length:=by omega
  obtain⟨a0,a1⟩:=hr _ (aiJ aH);obtain⟨x,hx⟩:=aiI a0
  have hxV:x<V.length:=by omega
  simp only[aF aH,hx,aF hxV,cN (m:=l.length) (by omega) aH,W_,av,ax,reduceCtorEq];have hbx:=(hJ x hxV (by omega)).1;have:=hb x (by omega);refine nK.2 ⟨by simp;omega,trivial |> λ_=>⟨aH,by rw[jh];exact hV,λe h h'=>?_⟩⟩
  have he:e<V.length:=by rw[jh]at h;exact h
  have QR:l.take (k+1)=l.take k++[l[k]]:=(aiP aH).symm;rw[vB h he,QR,hx]
  grind
 grind
def O4(s:iJ)(L:List (List Int))(n:Nat)(O l W H:List Int)(x:Int)(hn:n<=14)(Tq:l.length<=100000)(hL:∀u,(L.getD u []).length<=6000)(hI:Wu s L n O l W H)
 (hl:∀u∈l,(0<=u/\u<(n:Int))/\u∉O)(Q:((List Int×List Int×List Int)⊕(List Int×List Int))->Prop)(hQ:∀W' H',Wu s L n O [] W' H'->Q (.inl (W',O,H'))):Wp (Loop (S:=Int×(List Int)×List Int) (X:=((List Int)×(List Int)×List Int)⊕((List Int)×List Int)) (λKk=>
   (if(decide (Kk.1<(l.length:Int)))=af then
   ((idx l Kk.1).bind λSY=>
   (idx Kk.2.1 SY).bind λx31=>
   (idx Kk.2.1 SY).bind λx32=>
   (idx (b8 Kk.2.1 SY (aiE.wrap (x31-(1:Int)))) SY).bind λQc=>
   (if(decide (Qc=(0:Int)))=af then
   (M.cX aV SY Kk.2.2).bind λy34=>
   some (b8 Kk.2.1 SY (aiE.wrap (x31-(1:Int))),y34)
   else
   some (b8 Kk.2.1 SY (aiE.wrap (x31-(1:Int))),Kk.2.2)):Option ((List Int)×List Int)).bind λj29=>
   some (Sum.inl (aiE.wrap (Kk.1+(1:Int)),j29.1,j29.2))
   else
   some (Sum.inr (Sum.inl (Kk.2.1,O,Kk.2.2))))) aV ((0:Int),W,H)) Q:=by
 refine Wp.count (λs=>s.1) l.length (λk z=>Wu s L n O (l.drop k) z.2.1 z.2.2) (by omega) rfl hI λk z hk hs hJ=>?_
 obtain⟨i,V,G⟩:=z;dsimp only at hs hJ;subst hs
 refine Wp.dec (λaH=>?_) λhge=>?_
 .have aH:k<l.length:=by dsimp only at aH;omega
  obtain⟨⟨a0,a1⟩,a2⟩:=hl _ (aiJ aH);have lS:l.drop k=l[k]::l.drop (k+1):=ai5 aH;obtain⟨u,hu⟩:=aiI a0;rw[hu]at a1 a2 lS
  have Al:u<n:=by omega
  have hVl:=hJ.wl;have hw:=hJ.w u Al;rw[lS,List.count_cons_self]at hw
  obtain⟨a,ha⟩:∃a,a=(L.getD u []).countP (λy=>decide (y∉O)):=⟨_,rfl⟩
  obtain⟨b,hb⟩:∃b,b=(l.drop (k+1)).count (u:Int):=⟨_,rfl⟩
  have Tu:a<=6000:=by rw[ha];exact(by grind)
  have HI:b<=100000:=by rw[hb];exact aiY List.count_le_length (by grind)
  rw[<-ha,<-hb]at hw
  have iw:idx V (u:Int)=aa ((a+(b+1):Nat):Int):=by rw[Qm (by omega)];exact hw
  have ew:aiE.wrap (((a+(b+1):Nat):Int)-(1:Int))=((a+b:Nat):Int):=by rw[aX (by omega) (by omega)];omega
  have iv:idx (b8 V (u:Int) ((a+b:Nat):Int)) (u:Int)=aa ((a+b:Nat):Int):=by
   rw[Qm (by omega),Dv _ _ _ _ (by omega),aj rfl]
  dsimp only;rw[aF aH,hu,aiD,iw,aiD,aiD,ew,iv,aiD]
  have w':∀v,v<n->(b8 V (u:Int) ((a+b:Nat):Int))[v]? =aa (((L.getD v []).countP (λy=>decide (y∉O))+(l.drop (k+1)).count (v:Int):Nat):Int):=λv hv=>by
   rw[Dv _ _ _ _ (by omega)];by_cases e:v=u
   .grind
   .rw[ai (by omega),hJ.w v hv,lS,List.count_cons_of_ne (by omega)]
  have nH:(u:Int)∉G:=λg=>by
   have:=((hJ.h _).1 g).2.2
   grind [aiL]
  have hGl:=hJ.hl;by_cases e0:a+b=0
  .rw[aj (by rw[az];omega),wp_bind,wp_bind]
   refine(Hl _ _ (by omega) hJ.hp).mono λr hr=> .some (.some ⟨aH,?_,?_⟩)
   .exact cN (m:=l.length) (by omega) aH
   .refine⟨by grind [b8],w',hr.2,hr.1.nodup_iff.2 (List.nodup_cons.2 ⟨nH,hJ.nd⟩),λv=>?_⟩
    show v∈r↔_/\_/\(b8 V _ _)[v.toNat]? =aa 0
    rw[hr.1.mem_iff,aju,Dv _ _ _ _ (by omega),hJ.h v]
    by_cases e:v=(u:Int)
    .simp_all
    .constructor
     .rintro(h|⟨h1,h2,h3⟩)
      all_goals simp_all
     .rintro⟨h1,h2,h3⟩
      rw[ai (by omega)]at h3
      grind
  .rw[ai (by grind),aiD];refine .some ⟨aH,?_,?_⟩
   .exact cN (m:=l.length) (by omega) aH
   .refine⟨by grind [b8],w',hJ.hp,hJ.nd,λv=>?_⟩
    show v∈G↔_/\_/\(b8 V _ _)[v.toNat]? =aa 0
    rw[Dv _ _ _ _ (by omega),hJ.h v]
    by_cases e:v=(u:Int)
    .subst e;rw[aj rfl];refine⟨λh=>absurd ((hJ.h _).2 h) nH,λh=>?_⟩
     grind
    .constructor
     .rintro⟨h1,h2,h3⟩
      rw[ai (by omega)];grind
     .rintro⟨h1,h2,h3⟩
      rw[ai (by omega)]at h3
      grind
 .have hge:k=l.length:=by dsimp only at hge;omega
  subst hge;rw[List.drop_length]at hJ;exact .some (hQ _ _ hJ)
def My(s:iJ)(hs:iq s):Wp (M.dI aV s) λr=>∃o,uq s o/\(∀d,¬Nu s o d)/\r=if o.length<s.2.2.2.1.length then((9:Int),([]:List Int))else((0:Int),o):=by
 have Hd:=hs.2.2.1;unfold M.dI
 refine Wp.seq (SL s) ?_ λL hL=>?_
 .have e:M.lE aV s=M.gH aV s:=rfl
  grind [nq]
 obtain⟨hLl,hL⟩:=hL
 have hDr:∀a b,Dp s a b->0<=b/\b<(s.2.2.2.1.length:Int):=λa b h=>(nM s a).2 b h
 have hLq:∀u,(L.getD u []).length<=6000:=(by grind)
 have hLm:∀u:Nat,u<s.2.2.2.1.length->∀y,y∈L.getD u []↔Dp s (u:Int) y:=(by grind)
 obtain⟨n,hn⟩:∃n,n=s.2.2.2.1.length:=⟨_,rfl⟩
 rw[<-hn]at Hd hLl hDr hLm⊢;rw[wp_bind];refine rR.2 ⟨by omega,?_⟩;rw[wp_bind];refine rR.2 ⟨by omega,?_⟩;rw[aiL,hLl]
 refine Wp.seq (λz=>Mw L n n z.1 z.2.1 z.2.2) ?_ λz hz=>?_
 .rw[wp_bind]
  refine Wp.mono (Q:=λz=>Mw L n n z.1 z.2.1 z.2.2) ?_ λz hz=> .some hz
  refine Wp.count (λz=>z.1) n (λk z=>Mw L n k z.2.1 z.2.2.1 z.2.2.2) (by omega) rfl ⟨by simp,by simp,λe h=>⟨by simp,λu=>?_⟩,λu hu=>by omega,λk h0 h1=>(by cases h1),List.nodup_nil,λu=>?_⟩ λk z hk hz hJ=>?_
  .grind
  .grind
  obtain⟨i,U,W,H⟩:=z;dsimp only at hz hJ;subst hz
  refine Wp.dec (λaH=>?_) λhge=>?_
  .have aH:k<n:=by dsimp only at aH;omega
   have XJ:k<L.length:=by omega
   have hUl:=hJ.ul;have hWl:=hJ.wl;dsimp only;rw[aF XJ,aiD,aF (show k<W.length by omega),aiD,wp_bind,wp_bind,wp_bind];have hHl:=hJ.hl
   refine(Mx L[k] k n U hUl (hL k XJ).1 (by grind) λe h=>by have:=(hJ.u e h).1;omega).mono λV hV=>?_
   have uu:∀e,∀h:e<V.length,V[e].length<=6000*(k+1)/\∀u:Int,V[e].count u=if 0<=u/\u<((k+1:Nat):Int)then(L.getD u.toNat []).count (e:Int)else 0:=λe h=>by
    have hV1:=hV.1;obtain⟨g1,g2⟩:=hV.2 e h (by omega);obtain⟨f1,f2⟩:=hJ.u e (by omega);have:=(hL k XJ).1;refine⟨by omega,λu=>?_⟩;rw[g2,f2]
    by_cases eu:u=(k:Int)
    .subst eu;rw[ai (by omega),aj rfl,aj (by omega),aiL,getD_some XJ];omega
    grind
   have ww:∀u,u<k+1->(b8 W (k:Int) (L[k].length:Int))[u]? =aa ((L.getD u []).length:Int):=λu hu=>by
    rw[Dv _ _ _ _ (by omega)];by_cases e:u=k
    .grind
    .rw[ai (by omega),hJ.w u (by omega)]
   have wl:(b8 W (k:Int) (L[k].length:Int)).length=n:=by unfold b8;rw[List.length_set];exact hWl
   by_cases e0:L[k].length=0
   .rw[aj (by rw[az];omega),wp_bind]
    refine(Hl _ _ (by omega) hJ.hp).mono λr hr=> .some (.some (.some ⟨aH,cN (m:=n) (by omega) aH,⟨hV.1,wl,uu,ww,hr.2,hr.1.nodup_iff.2 (List.nodup_cons.2 ⟨λg=>?_,hJ.nd⟩),λu=>?_⟩⟩))
    .have:=((hJ.h _).1 g).1;omega
    .show u∈r↔_
     rw[hr.1.mem_iff,aju,hJ.h u]
     by_cases eu:u=(k:Int)
     .grind [aiL]
     grind
   .rw[ai (by rw[az];omega)];refine .some (.some (.some ⟨aH,cN (m:=n) (by omega) aH,⟨hV.1,wl,uu,ww,hJ.hp,hJ.nd,λu=>?_⟩⟩))
    show u∈H↔_
    rw[hJ.h u]
    grind [getD_some]
  .have hge:k=n:=by dsimp only at hge;omega
   subst hge;exact .some hJ
 obtain⟨U,W,H⟩:=z;dsimp only at hz⊢;have hUl:=hz.ul
 have hU:∀e,∀h:e<U.length,U[e].length<=100000/\∀u:Int,U[e].count u=if 0<=u/\u<(n:Int)then(L.getD u.toNat []).count (e:Int)else 0:=λe h=>⟨by have:=(hz.u e h).1;omega,(hz.u e h).2⟩
 refine Wp.seq (λz=>uq s z.1/\z.2=[]/\∀d,¬Nu s z.1 d) ?_ λz hq=>?_
 .refine Wp.loop (λz=>abm s L n z.1 z.2.1 z.2.2) (λz=>n-z.2.1.length) ⟨hz.wl,λk h=>(by cases h),λu hu=>?_,hz.hp,hz.nd,λu=>?_⟩ (by show n-_<aV;unfold aV;omega) λz hI=>?_
  .rw[hz.w u hu]
   simp_all
  .rw[hz.h u];unfold Nu;rw[<-hn];constructor
   .grind
   .rintro⟨h1,_,h2⟩
    refine⟨h1,List.eq_nil_iff_forall_not_mem.2 λy hy=>?_⟩
    grind
  obtain⟨W,O,H⟩:=z;dsimp only at hI⊢;have hO:=hI.o;have hOl:=hO.len;rw[<-hn]at hOl
  have hHl:H.length<=n:=vI hI.nd λx hx=>by
   have:=((hI.h x).1 hx).1
   grind
  unfold M.ef;rw[aiD]
  refine Wp.dec (λh0=>?_) λh0=>?_
  .have h0:0<H.length:=by omega
   rw[wp_bind]
   refine(SW H h0 (by omega) hI.hp).mono λr hr=>?_
   obtain⟨x,G⟩:=r;obtain⟨hp,hG,JB⟩:=hr;dsimp only at hp hG JB⊢;have hxH:x∈H:=hp.symm.subset (by simp);have hx:=(hI.h x).1 hxH;have N2:=hp.nodup_iff.1 hI.nd;obtain⟨hxG,hGn⟩:=List.nodup_cons.1 N2
   have hO':uq s (O++[x]):=hO.snoc hx λd hd=>by
    have:d∈H:=(hI.h d).2 hd
    grind
   have Wv:=hO'.len;rw[<-hn,List.length_append]at Wv;simp only[aiU,ajl]at Wv;rw[fJ (by simp;omega),aiD];have PJ:=hx.1;rw[<-hn]at PJ;obtain⟨e,he⟩:=aiI PJ.1
   have heU:e<U.length:=by omega
   rw[he,aF heU,aiD,<-he];obtain⟨f1,f2⟩:=hU e heU;rw[<-he]at f2
   have inU:∀u∈U[e],(0<=u/\u<(n:Int))/\Dp s u x:=λu hu=>by
    have h1:=List.count_pos_iff.2 hu;rw[f2]at h1;by_cases hc:0<=u/\u<(n:Int)
    .grind
    grind
   refine O4 s L n (O++[x]) U[e] W G x Hd f1 hLq ⟨hI.wl,λu hu=>?_,hG,hGn,λu=>?_⟩ (λu hu=>?_) _ λW' H' h'=>?_
   .rw[hI.w u hu,f2,aj (by omega),aiL,Dw _ _ _ hx.2.1]
   .have Jz:u∈G↔u∈H/\u≠x:=by
     rw[hp.mem_iff,aju];exact(by grind)
    rw[Jz,hI.h u];unfold Nu;rw[<-hn];constructor
    .rintro⟨⟨h1,h2,h3⟩,h4⟩
     refine⟨h1,by simp[h2,h4],?_⟩;rw[hI.w u.toNat (by omega)]
     congr 2
     grind [akn]
    .rintro⟨h1,h2,h3⟩
     rw[hI.w u.toNat (by omega)]at h3
     have h3:(L.getD u.toNat []).countP (λy=>decide (y∉O))=0:=by
      have:=aiF h3;omega
     rw[akn]at h3;simp only[aje,List.mem_singleton,not_or]at h2
     grind [Int.toNat_of_nonneg]
   .obtain⟨h1,h2⟩:=inU u hu;refine⟨h1,λh=>?_⟩
    rcases aje.1 h with h|h
    .exact hx.2.1 ((hO.mem h).2 x h2)
    .rw[List.mem_singleton.1 h]at h2;exact hx.2.1 (hx.2.2 x h2)
   .refine⟨⟨h'.wl,hO',λu hu=>?_,h'.hp,h'.nd,λu=>?_⟩,?_⟩
    .have:=h'.w u hu
     grind
    .rw[h'.h u];unfold Nu;rw[<-hn];constructor
     .rintro⟨h1,h2,h3⟩
      refine⟨h1,h2,λy hy=>?_⟩;rw[h'.w u.toNat (by omega),List.count_nil,ajO]at h3
      have h3:(L.getD u.toNat []).countP (λy=>decide (y∉O++[x]))=0:=by
       have:=aiF h3;omega
      rw[akn]at h3;have:=h3 y ((hLm u.toNat (by omega) y).2 (by rw[Int.toNat_of_nonneg h1.1];exact hy))
      grind
     .rintro⟨h1,h2,h3⟩
      refine⟨h1,h2,?_⟩;rw[h'.w u.toNat (by omega),List.count_nil,ajO]
      congr 2
      rw[akn]
      grind
    grind
  .have h0:H=[]:=List.length_eq_zero_iff.1 (by omega);subst h0;exact .some ⟨hO,rfl,λd hd=>by cases(hI.h d).2 hd⟩
 .obtain⟨O,H⟩:=z;obtain⟨h1,h2,h3⟩:=hq;dsimp only at h1 h2 h3⊢
  refine Wp.dec (λh=> .some ⟨O,h1,h3,?_⟩) λh=> .some ⟨O,h1,h3,?_⟩
  all_goals grind
end L
namespace L.P
abbrev Vl:Type:=aE.den
abbrev Ty:Type:=aD.den
def bx{α:Type}{c:Prop}[Decidable c]{a b:α}:(if c then aa a else aa b)=aa (if c then a else b):=by split<;>rfl
def rX(a b:Bool):(if a=af then af else b)=(a||b):=by cases a<;>rfl
def oh(a b:Bool):(if a=af then b else ag)=(a&&b):=by cases a<;>rfl
def gr(k e n:Int):Prop:=
 (k=1/\e=0/\0<=n/\n<=1)\/(k=2/\e=0/\-1000000000000<=n/\n<=1000000000000)\/(k=3/\e=0/\-1000000000000000<=n/\n<=1000000000000000)\/
 (k=4/\e=0/\-1000000000<=n/\n<=1000000000)\/(k=5/\e=0/\0<=n/\n<=109572)\/(k=6/\0<=e/\e<=7/\0<=n/\n<=15)
instance(k e n:Int):Decidable (gr k e n):=by unfold gr;infer_instance
def ir(N:Nat)(v:Vl):M.di N v=aa (decide (gr v.1 v.2.1 v.2.2)):=by
 revert v;rintro⟨(k:Int),(e:Int),(n:Int)⟩
 unfold M.di;simp only[bx,aiD,rX,oh];refine ay aa ?_;by_cases h1:k=1
 .subst h1;rw[Bool.eq_iff_iff];simp[gr];grind
 by_cases h2:k=2
 .grind [P.gr]
 by_cases h3:k=3
 .grind [P.gr]
 by_cases h4:k=4
 .grind [P.gr]
 by_cases h5:k=5
 .grind [P.gr]
 by_cases h6:k=6
 .subst h6;rw[Bool.eq_iff_iff];simp[gr];grind
 simp[gr,h1,h2,h3,h4,h5,h6]
def Dx(k e n a b:Int):Prop:=gr k e n/\k=a/\e=b
instance(k e n a b:Int):Decidable (Dx k e n a b):=by unfold Dx;infer_instance
abbrev SZ(v:Vl)(t:Ty):Prop:=Dx v.1 v.2.1 v.2.2 t.1 t.2
def xj(N:Nat)(v:Vl)(t:Ty):M.lF N v t=aa (decide (SZ v t)):=by
 unfold M.lF;rw[ir];simp only[bx,aiD,oh]
 grind [P.Dx]
def Dy(op k e:Int):Prop:=e=0/\(if op=36 then k=2\/k=3 else if op=39 then 2<=k/\k<=5 else k=1)
instance(op k e:Int):Decidable (Dy op k e):=by unfold Dy;infer_instance
abbrev Ww(op:Int)(t:Ty):Prop:=Dy op t.1 t.2
def qv(N:Nat)(k:Int):M.gi N k=aa (decide (2<=k/\k<=4)):=by
 unfold M.gi;simp only[bx,aiD,rX];refine ay aa ?_
 grind
def ur(N:Nat)(op:Int)(t:Ty):M.gW N op t=aa (decide (Ww op t)):=by
 unfold M.gW;rw[qv];simp only[bx,aiD,rX,oh];refine ay aa ?_;obtain⟨(k:Int),(e:Int)⟩:=t;rw[Bool.eq_iff_iff]
 show _↔decide (Dy op k e)=af
 unfold Dy
 grind
def fold(op acc n:Int)(first:Bool):Int:=
 if op=36 then acc+n else if op=37 then acc*n else if op=38 then(if acc<n then n else acc)else(if first=af\/acc<n then n else acc)
def qw(op:Int)(t:Ty)(j:Nat):List (List Vl)->Bool->Int->Int⊕Int
 |[],_,acc=> .inl acc
 |l::ms,first,acc=>match l[j]? with
  |none=> .inr 6
  |some v=>if(v.1:Int)=0 then .inr 6 else if SZ v t then
    (if gr t.1 0 (fold op acc v.2.2 first)then qw op t j ms ag (fold op acc v.2.2 first)else .inr 3)else .inr 8
def xk(op:Int):Int:=if op=37 then 1 else 0
def O5(op:Int)(t:Ty)(j:Nat)(ms:List (List Vl)):Vl×Int:=
 if op=39/\ms=[]then((0,0,0),6)else match qw op t j ms af (xk op)with
  | .inl a=>((t.1,0,a),0)
  | .inr c=>((0,0,0),c)
def Mz(op:Int)(t:Ty)(first:Bool)(acc:Int):Prop:=(op=39/\first=af/\acc=0)\/gr t.1 0 acc
def O6{op:Int}{t:Ty}(sN:op=36\/op=37\/op=38\/op=39)(ht:Ww op t):Mz op t af (xk op):=by
 obtain⟨(k:Int),(e:Int)⟩:=t
 obtain⟨h0,h1⟩:=(show Dy op k e from ht)
 show(op=39/\af=af/\xk op=0)\/gr k 0 (xk op)
 grind [P.gr,P.xk]
def xl{N:Nat}(hN:100001<=N){op:Int}(sN:op=36\/op=37\/op=38\/op=39){j:Nat}{env:kj.den}(hj:j<env.2.2.2.2.1.length)(hm:env.2.2.2.1.length<=100)(ht:Ww op env.2.2.2.2.1[j]):
 M.jJ N (op,(j:Int)) env=aa (O5 op env.2.2.2.2.1[j] j env.2.2.2.1):=by
 obtain⟨d,ip,df,ms,ts,tb⟩:=env;simp only at hj hm ht⊢;apply Wp.eq;unfold M.jJ;simp only;rw[aF hj];simp only[aiD];generalize ts[j]=t at ht⊢;have Ug:(t.2:Int)=0:=(show Dy op t.1 t.2 from ht).1
 have e1:(if decide (op=37)=af then aa (t.1,t.2,(1:Int))else aa (t.1,t.2,(0:Int)):Option Vl)=aa (t.1,t.2,xk op):=by
  unfold xk;by_cases h:op=37<;>simp[h]
 rw[e1];simp only[aiD,bx,oh];unfold O5
 refine Wp.ite (λh=>?_) λh=>?_
 .have:op=39/\ms=[]:=by simpa using h
  rw[aj this];exact .some rfl
 .have h39:¬(op=39/\ms=[]):=by simpa using h
  rw[ai h39]
  refine Wp.join (Wp.loop (λs:Int×Vl=>∃k:Nat,∃acc:Int,s=((k:Int),(t.1,t.2,acc))/\k<=ms.length/\Mz op t (decide (k=0)) acc/\qw op t j (ms.drop k) (decide (k=0)) acc=qw op t j ms af (xk op)) (λs=>(ms.length-s.1).toNat)
   ⟨0,xk op,rfl,ai6 _,O6 sN ht,rfl⟩ (by grind) ?_)
  rintro _ ⟨k,acc,rfl,hk,O7,hf⟩
  simp only
  refine Wp.dec (λh=>?_) λh=> .some (.some ?_)
  case refine_2=>
   grind [P.qw]
  have iK:k<ms.length:=by omega
  have hd:ms.drop k=ms[k]::ms.drop (k+1):=ai5 iK;rw[hd]at hf;rw[aF iK];simp only[aiD];rw[qw]at hf;by_cases hl:j<ms[k].length
  .rw[aiG hl]at hf;simp only at hf;rw[aF hl];simp only[aiD,bx,rX,xj,ir];generalize ms[k][j]=v at hf⊢;by_cases hv:(v.1:Int)=0
   .rw[aj hv]at hf;rw[aj (by simp[hv])];refine .some ?_
    show _=_
    rw[<-hf]
   .rw[ai hv]at hf;rw[ai (by grind)];by_cases hh:SZ v t
    .rw[aj hh]at hf;rw[ai (by simp[hh])]
     obtain⟨hp,TK,HY⟩:=(show Dx _ _ _ _ _ from hh)
     refine Wp.join ?_
     have key:∀a,fold op acc v.2.2 (decide (k=0))=a->gr t.1 0 a->zo (λs:Int×Vl=>∃k:Nat,∃acc:Int,s=((k:Int),(t.1,t.2,acc))/\k<=ms.length/\Mz op t (decide (k=0)) acc/\qw op t j (ms.drop k) (decide (k=0)) acc=qw op t j ms af (xk op)) (λs=>(ms.length-s.1).toNat) ((k:Int),(t.1,t.2,acc)) (uR (λj4=>aa (j4,(0:Int))) λx=>x=match qw op t j ms af (xk op)with
      | .inl a=>((t.1,0,a),0)
      | .inr c=>((0,0,0),c)) (.inl (aiE.wrap ((k:Int)+1),(t.1,t.2,a))):=by
      intro a ha hpa;subst ha;rw[aj hpa]at hf;rw[aT (by omega)];refine⟨⟨k+1,_,rfl,iK, .inr hpa,?_⟩,by grind⟩;rw[show decide (k+1=0)=ag by simp];exact hf
     rcases sN with rfl|rfl|rfl|rfl
     all_goals simp only[decide_true,decide_false,if_true,if_false,Int.reduceEq,aiX,Bool.not_true,Bool.not_false]
     .have Wx:gr t.1 0 acc:=by
       rcases O7 with h|h
       .grind
       .exact h
      have Nv:fold 36 acc v.2.2 (decide (k=0))=acc+v.2.2:=by simp[fold]
      have hw:aiE.wrap (acc+v.2.2)=acc+v.2.2:=by
       revert Wx hp;generalize(v.2.2:Int)=n;generalize(v.1:Int)=vk;generalize(v.2.1:Int)=ve;generalize(t.1:Int)=tk;intro h1 h2;unfold gr at h1 h2;dsimp only[aB,Row.den]at*;exact aX (by omega) (by omega)
      rw[hw];rw[Nv]at hf;by_cases EA:gr t.1 0 (acc+v.2.2)
      .rw[ai (by grind)];exact .some (.some (key _ Nv EA))
      .rw[aj (by grind)];rw[ai EA]at hf;refine .some ?_
       show _=_
       rw[<-hf]
     .have hb:(0<=(v.2.2:Int)/\(v.2.2:Int)<=1)/\0<=acc/\acc<=1/\(t.1:Int)=1:=by
       have h1:=(show Dy 37 t.1 t.2 from ht).2
       have h2:gr t.1 0 acc:=by
        rcases O7 with h|h
        .grind
        .exact h
       rw[TK]at hp;revert h1 h2 hp;generalize(v.2.2:Int)=n;generalize(v.2.1:Int)=ve;generalize(t.1:Int)=tk;intro h3 h1 h2;unfold gr at h2 h3;simp at h1;dsimp only[aB,Row.den]at*;omega
      obtain⟨⟨b1,b2⟩,b3,b4,b5⟩:=hb
      have Nv:fold 37 acc v.2.2 (decide (k=0))=(if v.2.2<acc then v.2.2 else acc:Int):=by
       have b2':(v.2.2:Int)=0\/(v.2.2:Int)=1:=by revert b1 b2;generalize(v.2.2:Int)=n;intro b1 b2;dsimp only[aB,Row.den]at*;omega
       have b4':acc=0\/acc=1:=by omega
       rcases b2' with e1|e1<;>rcases b4' with e2|e2<;>simp[fold,e1,e2]
      refine .some (.some (key _ Nv ?_));refine .inl ⟨b5,rfl,?_⟩
      grind
     .have Nv:fold 38 acc v.2.2 (decide (k=0))=(if acc<v.2.2 then v.2.2 else acc:Int):=by simp[fold]
      have h2:gr t.1 0 acc:=by
       rcases O7 with h|h
       .grind
       .exact h
      refine .some (.some (key _ Nv ?_))
      grind
     .have h3:gr t.1 0 v.2.2:=by rw[TK,HY,Ug]at hp;exact hp
      by_cases hc:((k:Int)=0)\/acc<v.2.2
      .have Nv:fold 39 acc v.2.2 (decide (k=0))=v.2.2:=by
        have:k=0\/acc<v.2.2:=hc.imp (λh=>by omega) id;simp[fold,this]
       rw[aj (by simpa using hc)]
       have hv3:v=(t.1,t.2,v.2.2):=by rw[<-TK,<-HY]
       rw[hv3];exact .some (.some (key _ Nv h3))
      .have Nv:fold 39 acc v.2.2 (decide (k=0))=acc:=by
        have:¬(k=0\/acc<v.2.2):=(by grind)
        simp[fold,this]
       rw[ai (by simpa using hc)];refine .some (.some (key _ Nv ?_))
       rcases O7 with h|h
       all_goals grind
    .rw[ai hh]at hf;rw[aj (by simp[hh])];refine .some ?_
     show _=_
     rw[<-hf]
  .rw[List.getElem?_eq_none (by omega)]at hf;rw[aj (by simp;omega)];refine .some ?_
   show _=_
   rw[<-hf]
end L.P
namespace L.P
def qx{n:Int}(h0:0<=n)(h1:n<18446744073709551616):aiH.wrap n=n:=by
 simp[IntKind.wrap,IntKind.bits,IntKind.signed];omega
def Bi(n:Int):aiH.wrap n=n%18446744073709551616:=by
 simp[IntKind.wrap,IntKind.bits,IntKind.signed]
def mC(n:Int):0<=aiH.wrap n/\aiH.wrap n<18446744073709551616:=by rw[Bi];omega
def Qn(a:Int):gu .u64 a 32=a/4294967296:=by
 unfold gu;rw[show min (32:Int).toNat aiH.bits=32 from rfl];exact Int.fdiv_eq_ediv_of_nonneg _ (by decide)
def Wy(a:Int):gu .u64 a 16=a/65536:=by
 unfold gu;rw[show min (16:Int).toNat aiH.bits=16 from rfl];exact Int.fdiv_eq_ediv_of_nonneg _ (by decide)
def abo(a:Int):gu .u64 a 8=a/256:=by
 unfold gu;rw[show min (8:Int).toNat aiH.bits=8 from rfl];exact Int.fdiv_eq_ediv_of_nonneg _ (by decide)
def Bj:ByteArray:=(⟨#[0,1,2,2,3,3,3,3,4,4,4,4,4,4,4,4,5,5,5,5,5,5,5,5,5,5,5,5,5,5,5,5,6,6,6,6,6,6,6,6,6,6,6,6,6,6,6,6,6,6,6,6,6,6,6,6,6,6,6,6,6,6,6,6,7,7,7,7,7,7,7,7,7,7,7,7,7,7,7,7,7,7,7,7,7,7,7,7,7,7,7,7,7,7,7,7,7,7,7,7,7,7,7,7,7,7,7,7,7,7,7,7,7,7,7,7,7,7,7,7,7,7,7,7,7,7,7,7,8,8,8,8,8,8,8,8,8,8,8,8,8,8,8,8,8,8,8,8,8,8,8,8,8,8,8,8,8,8,8,8,8,8,8,8,8,8,8,8,8,8,8,8,8,8,8,8,8,8,8,8,8,8,8,8,8,8,8,8,8,8,8,8,8,8,8,8,8,8,8,8,8,8,8,8,8,8,8,8,8,8,8,8,8,8,8,8,8,8,8,8,8,8,8,8,8,8,8,8,8,8,8,8,8,8,8,8,8,8,8,8,8,8,8,8,8,8,8,8,8,8,8,8,8,8,8,8]⟩:ByteArray)
def Qo(n:Nat):Bool:=match lW Bj n with
 |some k=>decide (0<=k)&&decide (k<=8)&&decide (n<2 ^ k.toNat)&&(aiK n 0||(decide (1<=k)&&decide (2 ^ (k.toNat-1)<=n)))
 |none=>ag
def O8:(ajp 256).all Qo=af:=by kernel_rfl
def AV{n:Nat}(h:n<256):∃k:Nat,lW Bj n=aa (k:Int)/\k<=8/\n<2 ^ k/\(n≠0->1<=k/\2 ^ (k-1)<=n):=by
 have:=List.all_eq_true.1 O8 n (List.mem_range.2 h);unfold Qo at this;split at this
 case h_2=>cases this
 rename_i k hk;simp only[ajH,Bool.or_eq_true,az,Nat.beq_eq]at this;obtain⟨⟨⟨h1,h2⟩,h3⟩,h4⟩:=this;refine⟨k.toNat,by rw[hk,Int.toNat_of_nonneg h1],by omega,h3,λhn=>?_⟩
 rcases h4 with h4|h4
 .exact absurd h4 hn
 .exact⟨by omega,h4.2⟩
def S0{m b k:Nat}(h:m/2 ^ b<2 ^ k):m<2 ^ (b+k):=by
 rw[Nat.div_lt_iff_lt_mul (Nat.two_pow_pos b)]at h;rw[akl,Nat.mul_comm];exact h
def S3{m b k:Nat}(hk:1<=k)(h:2 ^ (k-1)<=m/2 ^ b):2 ^ (b+k-1)<=m:=by
 rw[Nat.le_div_iff_mul_le (Nat.two_pow_pos b)]at h;rw[show b+k-1=k-1+b by omega,akl];exact h
def MA{N m:Nat}(hm:m<18446744073709551616):∃L:Nat,M.kJ N m=aa (L:Int)/\L<=64/\m<2 ^ L/\(m≠0->1<=L/\2 ^ (L-1)<=m):=by
 have fin:∀(b q:Nat)(w:Int),q=m/2 ^ b->w=b->b<=56->q<256->(m≠0->q≠0)->∃L:Nat,((lW Bj (IntKind.u8.wrap (q:Int))).bind λx4=>aa (aiE.wrap (w+aiE.wrap x4)))=aa (L:Int)/\L<=64/\m<2 ^ L/\(m≠0->1<=L/\2 ^ (L-1)<=m):=by
  intro b q w hq hw hb h1 h2;subst hq;subst hw;obtain⟨k,g1,g2,g3,g4⟩:=AV h1
  have hu:IntKind.u8.wrap ((m/2 ^ b:Nat):Int)=((m/2 ^ b:Nat):Int):=by
   simp only[IntKind.wrap,IntKind.bits,IntKind.signed];generalize m/2 ^ b=q at h1⊢;simp;omega
  refine⟨b+k,?_,by omega,S0 g3,λdu=>?_⟩
  .rw[hu,g1,aiD,Dd (by omega),<-Int.natCast_add,Dd (by omega)]
  .obtain⟨g5,g6⟩:=g4 (h2 du);exact⟨by omega,S3 g5 g6⟩
 have e32:((m:Int)/4294967296)=((m/2 ^ 32:Nat):Int):=by rw[show(2 ^ 32:Nat)=4294967296 from rfl];omega
 have d48:m/2 ^ 32/2 ^ 16=m/2 ^ 48:=by rw[akg,<-akl]
 have d40:m/2 ^ 32/2 ^ 8=m/2 ^ 40:=by rw[akg,<-akl]
 have d56:m/2 ^ 48/2 ^ 8=m/2 ^ 56:=by rw[akg,<-akl]
 have d24:m/2 ^ 16/2 ^ 8=m/2 ^ 24:=by rw[akg,<-akl]
 have c16:∀q:Nat,((q:Int)/65536)=((q/2 ^ 16:Nat):Int):=λq=>by rw[show(2 ^ 16:Nat)=65536 from rfl];omega
 have c8:∀q:Nat,((q:Int)/256)=((q/2 ^ 8:Nat):Int):=λq=>by rw[show(2 ^ 8:Nat)=256 from rfl];omega
 unfold M.kJ;rw[show(⟨#[0,1,2,2,3,3,3,3,4,4,4,4,4,4,4,4,5,5,5,5,5,5,5,5,5,5,5,5,5,5,5,5,6,6,6,6,6,6,6,6,6,6,6,6,6,6,6,6,6,6,6,6,6,6,6,6,6,6,6,6,6,6,6,6,7,7,7,7,7,7,7,7,7,7,7,7,7,7,7,7,7,7,7,7,7,7,7,7,7,7,7,7,7,7,7,7,7,7,7,7,7,7,7,7,7,7,7,7,7,7,7,7,7,7,7,7,7,7,7,7,7,7,7,7,7,7,7,7,8,8,8,8,8,8,8,8,8,8,8,8,8,8,8,8,8,8,8,8,8,8,8,8,8,8,8,8,8,8,8,8,8,8,8,8,8,8,8,8,8,8,8,8,8,8,8,8,8,8,8,8,8,8,8,8,8,8,8,8,8,8,8,8,8,8,8,8,8,8,8,8,8,8,8,8,8,8,8,8,8,8,8,8,8,8,8,8,8,8,8,8,8,8,8,8,8,8,8,8,8,8,8,8,8,8,8,8,8,8,8,8,8,8,8,8,8,8,8,8,8,8,8,8,8,8,8,8]⟩:ByteArray)=Bj from rfl];simp only[Qn,Wy,abo,e32,c16,c8];by_cases h1:4294967296<=m
 .have a1:decide ((4294967296:Int)<=(m:Int))=af:=by simp;omega
  simp only[a1,if_true,aiD,c16,d48];by_cases h2:65536<=m/2 ^ 32
  .have a2:decide ((65536:Int)<=((m/2 ^ 32:Nat):Int))=af:=by simp;omega
   simp only[a2,if_true,aiD,c8,d56];by_cases h3:256<=m/2 ^ 48
   .have a3:decide ((256:Int)<=((m/2 ^ 48:Nat):Int))=af:=by simp;omega
    simp only[a3,if_true,aiD];exact fin 56 _ _ rfl (by kernel_rfl) (by omega) (by omega) (by omega)
   .have a3:decide ((256:Int)<=((m/2 ^ 48:Nat):Int))=ag:=by simp;omega
    simp only[a3,aiX,if_false,aiD];exact fin 48 _ _ rfl (by kernel_rfl) (by omega) (by omega) (by omega)
  .have a2:decide ((65536:Int)<=((m/2 ^ 32:Nat):Int))=ag:=by simp;omega
   simp only[a2,aiX,if_false,aiD,c8,d40];by_cases h3:256<=m/2 ^ 32
   .have a3:decide ((256:Int)<=((m/2 ^ 32:Nat):Int))=af:=by simp;omega
    simp only[a3,if_true,aiD];exact fin 40 _ _ rfl (by kernel_rfl) (by omega) (by omega) (by omega)
   .have a3:decide ((256:Int)<=((m/2 ^ 32:Nat):Int))=ag:=by simp;omega
    simp only[a3,aiX,if_false,aiD];exact fin 32 _ _ rfl (by kernel_rfl) (by omega) (by omega) (by omega)
 .have a1:decide ((4294967296:Int)<=(m:Int))=ag:=by simp;omega
  simp only[a1,aiX,if_false,aiD,c16];by_cases h2:65536<=m
  .have a2:decide ((65536:Int)<=(m:Int))=af:=by simp;omega
   simp only[a2,if_true,aiD,c8,d24];by_cases h3:256<=m/2 ^ 16
   .have a3:decide ((256:Int)<=((m/2 ^ 16:Nat):Int))=af:=by simp;omega
    simp only[a3,if_true,aiD];exact fin 24 _ _ rfl (by kernel_rfl) (by omega) (by omega) (by omega)
   .have a3:decide ((256:Int)<=((m/2 ^ 16:Nat):Int))=ag:=by simp;omega
    simp only[a3,aiX,if_false,aiD];exact fin 16 _ _ rfl (by kernel_rfl) (by omega) (by omega) (by omega)
  .have a2:decide ((65536:Int)<=(m:Int))=ag:=by simp;omega
   simp only[a2,aiX,if_false,aiD,c8];by_cases h3:256<=m
   .have a3:decide ((256:Int)<=(m:Int))=af:=by simp;omega
    simp only[a3,if_true,aiD];exact fin 8 _ _ rfl (by kernel_rfl) (by omega) (by omega) (by omega)
   .have a3:decide ((256:Int)<=(m:Int))=ag:=by simp;omega
    simp only[a3,aiX,if_false,aiD];exact fin 0 m _ (by simp) (by kernel_rfl) (by omega) (by omega) (λh=>h)
def Wz(rh:Int)(h:0<=rh):(if rh<4294967296 then(4294967296-rh).toNat else 4294967297)<aV:=by
 unfold aV
 split<;>omega
def JC{hi lo y:Int}(h0:0<=hi)(h1:hi<y)(h2:y<18446744073709551616):∃r,M.dU aV hi lo y=aa r:=by
 have key:Wp (M.dU aV hi lo y) λ_=>True:=by
  unfold M.dU;rw[ai (by simp;omega),ai (by simp;omega)]
  refine Wp.dec (λ_=>?_) λdu=>?_
  .unfold xV Er;rw[ai (by omega),ai (by omega)];exact .some trivial
  .obtain⟨m,rfl⟩:∃m:Nat,y=m:=⟨y.toNat,by omega⟩
   obtain⟨L,g1,g2,g3,g4⟩:=MA (N:=aV) (m:=m) (by omega);obtain⟨g4,g5⟩:=g4 (by omega);unfold M.gj;rw[g1]
   have hL:aiH.wrap (aiE.wrap ((64:Int)-(L:Int)))=((64-L:Nat):Int):=by
    rw[aX (by omega) (by omega),qx (by omega) (by omega)];omega
   have hL2:aiH.wrap ((64:Int)-((64-L:Nat):Int))=(L:Int):=by rw[qx (by omega) (by omega)];omega
   simp only[aiD,hL,hL2]
   have gN:∀a:Int,Ij .u64 a ((64-L:Nat):Int)=aa (Ac .u64 a ((64-L:Nat):Int)):=λa=>ai (by omega)
   have Qh:∀a:Int,BU .u64 a (L:Int)=aa (gu .u64 a (L:Int)):=λa=>ai (by omega)
   have abq:∀a:Int,BU .u64 a ((64-L:Nat):Int)=aa (gu .u64 a ((64-L:Nat):Int)):=λa=>ai (by omega)
   simp only[gN,Qh,abq,aiD,Qn]
   have hy:9223372036854775808<=Ac .u64 (m:Int) ((64-L:Nat):Int)/\Ac .u64 (m:Int) ((64-L:Nat):Int)<18446744073709551616:=by
    unfold Ac;rw[show min (((64-L:Nat):Int).toNat) aiH.bits=64-L by simp[IntKind.bits]]
    have e1:m*2 ^ (64-L)<2 ^ 64:=by
     calc m*2 ^ (64-L)<2 ^ L*2 ^ (64-L):=Nat.mul_lt_mul_of_pos_right g3 (Nat.two_pow_pos _)
      _=2 ^ 64:=by rw[<-akl];congr 1;omega
    have e2:2 ^ 63<=m*2 ^ (64-L):=by
     calc 2 ^ 63=2 ^ (L-1)*2 ^ (64-L):=by rw[<-akl];congr 1;omega
      _<=m*2 ^ (64-L):=aiV _ g5
    have e3:((m:Int)*2 ^ (64-L))=((m*2 ^ (64-L):Nat):Int):=by simp
    rw[e3,qx (by omega) (by omega)];omega
   generalize Ac .u64 (m:Int) ((64-L:Nat):Int)=x4 at hy⊢
   have hyn:0<x4/4294967296/\x4/4294967296<4294967296:=by omega
   generalize x4/4294967296=yn at hyn⊢
   have quo:∀a:Int,xV a yn=aa (aiQ a yn):=λa=>ai (by omega)
   simp only[quo,aiD]
   have inv:∀rh:Int,0<=rh->rh<18446744073709551616->¬4294967296<=aiH.wrap (rh+yn)->(if aiH.wrap (rh+yn)<4294967296 then(4294967296-aiH.wrap (rh+yn)).toNat else 4294967297)<(if rh<4294967296 then(4294967296-rh).toNat else 4294967297):=by
    intro rh i1 i2 hc;rw[aj (by omega)];by_cases hr:rh<4294967296
    .rw[aj hr];have:aiH.wrap (rh+yn)=rh+yn:=qx (by omega) (by omega);rw[this]at hc⊢;omega
    .rw[ai hr];have:=mC (rh+yn);omega
   simp only[bx,rX,aiD]
   refine Wp.seq (λ_=>True) (Wp.seq (λ_=>True) (Wp.loop (λs:Int×Int=>0<=s.2/\s.2<18446744073709551616) (λs=>if s.2<4294967296 then(4294967296-s.2).toNat else 4294967297) (mC _) (Wz _ (mC _).1) ?_) λ_ _=> .some trivial) λj9 _=>?_
   .rintro⟨q,rh⟩ ⟨i1,i2⟩
    refine .some ?_;split
    .split
     .trivial
     .rename_i hc;exact⟨mC _,inv rh i1 i2 (by simpa using hc)⟩
    .trivial
   refine Wp.seq (λ_=>True) (Wp.seq (λ_=>True) (Wp.loop (λs:Int×Int=>0<=s.1/\s.1<18446744073709551616) (λs=>if s.1<4294967296 then(4294967296-s.1).toNat else 4294967297) (mC _) (Wz _ (mC _).1) ?_) λ_ _=> .some trivial) λj14 _=> .some trivial
   .rintro⟨rh,q⟩ ⟨i1,i2⟩
    refine .some ?_;split
    .split
     .trivial
     .rename_i hc;exact⟨mC _,inv rh i1 i2 (by simpa using hc)⟩
    .trivial
 obtain⟨x,hx,_⟩:=key;exact⟨x,hx⟩
def lP(N:Nat)(m:Int):M.fH N m=aa (decide (0<=m)&&decide (m<=5)):=by
 unfold M.fH;simp only[bx,aiD,oh]
def o4(N:Nat)(n l:Int):M.eA N n l=aa (decide (l<n)||decide (n<aiE.wrap (0-l))):=by
 unfold M.eA;simp only[bx,aiD,rX]
def iu(N:Nat){n:Int}(h: -4611686018427387904<=n/\n<=4611686018427387904):M.dV N n=aa (if n<0 then-n else n):=by
 unfold M.dV;simp only[bx];refine ay aa ?_;by_cases hn:n<0
 .rw[aj (by simpa using hn),aj hn,Bi n,Bi];omega
 .rw[ai (by simpa using hn),ai hn,qx (by omega) (by omega)]
end L.P
end Go.Proofs.YtleifhfeahnocaaGreatDoor
