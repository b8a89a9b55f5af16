/- Joined texts: RU RV RW RY RZ KN RM RN. -/
import Derived.Test.YtfjgcenlllgonaaGreatDoorU8
open _root_.Bool renaming false->ag,true->af
open _root_.Option renaming none->ae,some->aa,bind_some->aoy,bind_eq_some_iff->ao6
open _root_.Classical renaming not_not->ap3,byContradiction->aqc
open _root_.Go.Lib renaming indexByte->ap8,compact->apK
open _root_.Go.IntKind renaming i64->aoz
open _root_.List renaming getElem?_eq_getElem->aoA,getElem_mem->aoG,getElem_of_mem->aoS,length_take->ao0,append_nil->apq,drop_eq_getElem_cons->ao2,getElem_append_left->aoK,getElem_append_right->ao1,getElem_map->apB,length_map->ao5,replicate->aoE,take_length->ao3,getElem?_eq_some_iff->aoI,length_cons->apa,mem_append->ao7,mem_cons->apH,pairwise_cons->ap7,getElem?_append_left->apc,getElem?_take->apV,countP_eq_zero->aqC,length_append->aoH,length_eq_zero_iff->apL,length_set->ap6,mem_map->apY,mem_singleton->aoY,mem_take_iff_getElem->apN,range->ap1,take_add_one->apS
open _root_.Nat renaming le_of_lt->aql,lt_or_ge->aph,le_refl->aoJ,zero_le->aoR,add_zero->apO
open _root_.Sum renaming inl->ao4,inr->aoV
open _root_.Int renaming eq_ofNat_of_zero_le->aoU,tdiv->aoM,tmod->aoP,toNat_natCast->aoF,le_refl->apR,tdiv_eq_ediv_of_nonneg->aoN,toNat_of_nonneg->apI
open _root_.Option.some renaming inj->aoB
namespace Go.Proofs.YtfjgcenlllgonaaGreatDoor
open Go Go.RowKit
set_option maxRecDepth 100000
set_option linter.unusedSimpArgs false
set_option linter.unusedVariables false
set_option linter.defProp false
namespace L
noncomputable def zX:List ByteArray:=(M.iU aG).getD []
theorem S5:M.iU aG=aa zX:=by kernel_rfl
theorem PX:zX.length<=100:=by unfold zX;decide+kernel
def Wd(c:Int):Prop:=(97<=c/\c<=122)\/(48<=c/\c<=57)\/c=95
def IdS(s:ByteArray):Prop:=s.size<=16/\(∃h:0<s.size,97<=s[0].toNat/\s[0].toNat<=122)/\(∀k,∀h:k<s.size,Wd (s[k].toNat:Int))/\s∉zX
theorem PY(s:ByteArray):mr s=af↔IdS s:=by
 have key:Wp (M.b7 aG s) λr=>r=af↔IdS s:=by
  have hl:=PX;unfold M.b7;simp only[zQ,Kf,S5,W_,au,av,reduceCtorEq];refine⟨λh=>?_,λh0=>⟨λh=>?_,λKg=>?_⟩⟩
  .exact ay id λg=>by obtain⟨_,⟨g,_⟩,_⟩:=g;omega
  .exact ay id λg=>by have:=g.1;omega
  refine ql.2 ⟨by omega,?_⟩;have e0:((0:Int).toNat)=0:=rfl;simp only[e0];refine⟨λh=>ay id λg=>?_,λDB=>?_⟩
  .obtain⟨_,⟨_,g⟩,_⟩:=g;grind
  refine Wp.count (λs=>s) s.size (λk _=>∀j,j<k->∀h:j<s.size,Wd (s[j].toNat:Int)) (by omega) rfl (λj hj=>by omega) λk c hk hs hJ=>?_
  obtain rfl:c=_:=hs;simp only[W_,au,av,reduceCtorEq,aQ,aO];refine⟨λaJ=>ql.2 ⟨by omega,?_⟩,λhge=>?_⟩
  .have aJ:k<s.size:=by omega
   have ek:((k:Int).toNat)=k:=by omega
   simp only[ek];exact⟨λh=>ay id λg=>h (g.2.2.1 k aJ),λh=>⟨aJ,aL (by omega),ef hJ λ_=>h⟩⟩
  refine Wp.count (λs=>s) zX.length (λk _=>∀j,j<k->∀h:j<zX.length,zX[j]≠s) (by omega) rfl (λj hj=>by omega) λi c hi hs hI=>?_
  obtain rfl:c=_:=hs;simp only[W_,au,av,reduceCtorEq,aQ,aO];refine⟨λaJ=>?_,λalR=>?_⟩
  .have aJ:i<zX.length:=by omega
   simp only[aD aJ,bX (m:=zX.length) (by omega) aJ,W_,au,av,reduceCtorEq];exact⟨λh=>ay id λg=>g.2.2.2 (h▸aoG aJ),(by grind)⟩
  .refine iff_of_true trivial ⟨by omega,⟨by omega,by omega⟩,λj h=>hJ j (by omega) h,λhm=>?_⟩
   grind [aoS]
 obtain⟨r,hr,h⟩:=key;unfold mr
 grind
def xo(s:ByteArray):List ByteArray->Option Bool
 |[]=>aa ag
 |[w]=>aa (decide (s=w))
 |w::l=>if decide (s=w)=af then aa (decide (s=w))else xo s l
theorem Ck(s:ByteArray):(l:List ByteArray)->xo s l=aa (decide (s∈l))
 |[]=>by simp[xo]
 |[w]=>by simp[xo]
 |w::w'::l=>by
  unfold xo;rw[Ck s (w'::l)]
  grind
theorem FZ(s:ByteArray):M.mO aG s=aa (decide (s∈zX)):=by
 have:M.mO aG s=(xo s zX).bind λj=>if j=af then aa af else aa ag:=by kernel_rfl
 grind [Ck]
theorem Cl(c:Int):M.lL aG c=aa (decide (97<=c/\c<=122)):=by
 apply Wp.eq;unfold M.lL;simp only[W_,au,av,reduceCtorEq];omega
theorem MJ(c:Int):M.oi aG c=aa (decide (48<=c/\c<=57)):=by
 apply Wp.eq;unfold M.oi;simp only[W_,au,av,reduceCtorEq];omega
theorem Bk(s:ByteArray)(hs:s.size<=maxLen):Wp (M.kP aG s) λn=>n=(s.size:Int)↔∀k,∀h:k<s.size,Wd (s[k].toNat:Int):=by
 unfold M.kP;simp only[Cl,MJ]
 refine Wp.count (λs=>s) s.size (λk _=>∀j,j<k->∀h:j<s.size,Wd (s[j].toNat:Int)) hs rfl (λj hj=>by omega) λk c hk vh hJ=>?_
 obtain rfl:c=_:=vh
 rcases aph k s.size with aJ|hge
 .have hb:lj s (k:Int)=aa (s[k].toNat:Int):=by
   have:=(PL (x:=((s[k].toNat:Nat):Int))).1 (ql (s:=s) (i:=(k:Int)).2 ⟨by omega,by simp⟩);exact this
  simp only[tg aJ,hb,bX hs aJ,W_,au,av,reduceCtorEq,aQ,aO];unfold Wd at*
  have ok:(97<=(s[k].toNat:Int)/\(s[k].toNat:Int)<=122)\/(48<=(s[k].toNat:Int)/\(s[k].toNat:Int)<=57)\/(s[k].toNat:Int)=95->k<s.size/\∀j,j<k+1->∀h:j<s.size,(97<=(s[j].toNat:Int)/\(s[j].toNat:Int)<=122)\/(48<=(s[j].toNat:Int)/\(s[j].toNat:Int)<=57)\/(s[j].toNat:Int)=95:=λh=>⟨aJ,ef hJ λ_=>h⟩
  grind
 .obtain rfl:k=s.size:=by omega
  simp only[dB,W_,au,av,reduceCtorEq,aO]
  grind
theorem xp(s:ByteArray)(hs:s.size<=maxLen):M.cI aG s=aa (mr s):=by
 have key:Wp (M.cI aG s) λr=>r=af↔IdS s:=by
  unfold M.cI;simp only[Cl,FZ,W_,au,av,reduceCtorEq];refine⟨λh=>?_,λh=>?_⟩
  .have h0:0<s.size:=by
    rcases Nat.eq_zero_or_pos s.size with e|e
    .exact absurd (ByteArray.ext (by simp_all)) h
    .exact e
   refine ql.2 ⟨by omega,?_⟩;have e0:((0:Int).toNat)=0:=rfl;simp only[e0];refine⟨λDB=>(Bk s hs).mono λn hn=>⟨λe=>⟨λKg=>?_,λKg=>ay id λg=>Kg (by have:=g.1;omega)⟩,λe=>ay id λg=>e (hn.2 g.2.2.1)⟩,λDB=>ay id λg=>?_⟩
   .exact⟨λg=>⟨by omega,⟨h0,by omega⟩,hn.1 e,g⟩,λg=>g.2.2.2⟩
   .obtain⟨_,⟨_,g⟩,_⟩:=g;grind
  .refine ay id λg=>?_
   obtain⟨_,⟨g,_⟩,_⟩:=g;subst h;cases g
 obtain⟨r,hr,h⟩:=key
 grind [PY]
theorem tt{β:Type}{l:List (ByteArray×β)}{nm:ByteArray}:0<=gV (λx=>decide (x.1=nm)) l↔eB l nm:=by
 rw[qp];unfold eB;simp
theorem vn(l:List En)(nm:ByteArray)(hl:l.length<=maxLen):M.kl aG l nm=aa (decide (eB l nm)):=by
 have:M.bP aG l nm=aa (gV (λx=>decide (x.1=nm)) l,nm):=by
  unfold M.bP M.mP;exact zV hl (λk h=>by simp only[aD h,dW h,aoy,if_true]) (by grind)
 grind [M.kl,M.cf,tt]
theorem xR(l:List xQ)(nm:ByteArray)(hl:l.length<=maxLen):M.kQ aG l nm=aa (decide (eB l nm)):=by
 have:M.bL aG l nm=aa (gV (λx=>decide (x.1=nm)) l,nm):=by
  unfold M.bL M.mm;exact zV hl (λk h=>by simp only[aD h,dW h,aoy,if_true]) (by grind)
 grind [M.kQ,M.bZ,tt]
theorem wc(l:List Fd)(f:Fd)(hl:l.length<=maxLen):M.bj aG l f=aa (decide (eB l f.1),f):=by
 have:M.bM aG l f=aa (gV (λx=>decide (x.1=f.1)) l,f):=by
  unfold M.bM M.ko;exact zV hl (λk h=>by simp only[aD h,dW h,aoy,if_true]) (by grind)
 grind [M.bj,tt]
theorem F5(l:List jC)(f:jC)(hl:l.length<=maxLen):M.bJ aG l f=aa (decide (eB l f.1),f):=by
 have:M.bQ aG l f=aa (gV (λx=>decide (x.1=f.1)) l,f):=by
  unfold M.bQ M.lA;exact zV hl (λk h=>by simp only[aD h,dW h,aoy,if_true]) (by grind)
 grind [M.bJ,tt]
theorem DC(l:List kF)(f:kF)(hl:l.length<=maxLen):M.bk aG l f=aa (decide (eB l f.1),f):=by
 have:M.bN aG l f=aa (gV (λx=>decide (x.1=f.1)) l,f):=by
  unfold M.bN M.kv;exact zV hl (λk h=>by simp only[aD h,dW h,aoy,if_true]) (by grind)
 grind [M.bk,tt]
theorem II(l:List ByteArray)(m:ByteArray)(hl:l.length<=maxLen):M.dU aG l m=aa (decide (m∈l)):=by
 have:M.eM aG l m=aa (gV (λx=>decide (m=x)) l):=by
  unfold M.eM;exact DA hl (λk h=>by simp only[aD h,dW h,aoy,if_true]) (by grind)
 grind [M.dU,qp]
theorem IJ(l:List Int)(m:Int)(hl:l.length<=maxLen):M.fP aG l m=aa (decide (m∈l)):=by
 have:M.ig aG l m=aa (gV (λx=>decide (m=x)) l):=by
  unfold M.ig;exact DA hl (λk h=>by simp only[aD h,dW h,aoy,if_true]) (by grind)
 grind [M.fP,qp]
theorem oO{α:Type}{l:List α}{k:Nat}(h:k<=l.length):fo l (0:Int) (k:Int)=aa (l.take k):=by
 apply Wp.eq;exact wp_cut.2 ⟨by omega,by simp⟩
theorem DD(l:Lw)(hw:WF cQ l)(k:Nat)(hk:k<l.1.length):M.oj aG l (k:Int) l.1[k]=aa ((oN l k).getD (0,0)):=by
 have hx:WF bA l.1[k]:=hw.1.2 _ (aoG hk);have w1:=hw.1.1;have hs:l.1[k].1.size<=maxLen:=hx.1;have hm:∀m∈l.1[k].2,ByteArray.size m<=maxLen:=hx.2.2;apply Wp.eq;unfold M.oj oN;rw[aoA hk];simp only[xp _ hs,oO (aql hk),vn (l.1.take k) _ (by grind),W_,au,av,reduceCtorEq];generalize l.1[k]=x at*;refine⟨λh=>by grind,λh=>?_⟩;rw[ai (by simp[h])];refine⟨λh=>by grind,λh2=>?_⟩;rw[ai h2];refine⟨λh=>by grind,λh3=>?_⟩;rw[ai (by omega)];refine⟨λh=>by grind,λh4=>?_⟩;rw[ai (by omega)]
 refine Wp.count (λs=>s) x.2.length (λi _=>∀j,j<i->Dy x.2 j=ae) (by omega) rfl (λj hj=>by omega) λi c hi hs hJ=>?_
 obtain rfl:c=_:=hs;simp only[W_,au,av,reduceCtorEq,aQ,aO];refine⟨λaJ=>?_,λhge=>?_⟩
 .have aJ:i<x.2.length:=by omega
  have hf:Dy x.2 i=if mr x.2[i]=ag then aa (2,100+(i:Int))else if x.2[i]∈x.2.take i then aa (7,100+(i:Int))else ae:=by
   unfold Dy;rw[aoA aJ]
  simp only[aD aJ,xp _ (hm _ (aoG aJ)),oO (aql aJ),II (x.2.take i) _ (by rw[ao0];unfold maxLen;omega),oz (k:=i) (a:=100) (by omega) (by omega),bX (m:=x.2.length) (by omega) aJ,W_,au,av,reduceCtorEq];refine⟨λh=>?_,λh=>⟨λh2=>?_,λh2=>⟨aJ,ef hJ ?_⟩⟩⟩
  all_goals grind [cU]
 grind [bC]
theorem Bl(l:Lw)(hw:WF cQ l):M.mQ aG l=aa (if 8<l.1.length then((4:Int),((1:Int),((8:Int),(0:Int))))else match cF (λk=>(oN l k).map λe=>(k,e)) l.1.length with
 |some (k,e)=>nO 1 (k:Int) (aa e)
 |none=>Rp):=by
 have w1:=hw.1.1;unfold maxLen at w1;apply Wp.eq;unfold M.mQ;simp only[W_,au,av,reduceCtorEq];refine⟨λh=>by grind,λh8=>?_⟩;rw[ai (by omega)]
 refine Wp.count (λs=>s) l.1.length (λi _=>∀j,j<i->(λk=>(oN l k).map λe=>(k,e)) j=ae) w1 rfl (λj hj=>by omega) λi c hi hs hJ=>?_
 obtain rfl:c=_:=hs;simp only[W_,au,av,reduceCtorEq,aQ,aO];refine⟨λaJ=>?_,λhge=>?_⟩
 .have aJ:i<l.1.length:=by omega
  simp only[aD aJ,DD l hw i aJ,bX w1 aJ,W_,au,av,reduceCtorEq];refine⟨λh=>?_,λh=>⟨aJ,ef hJ ?_⟩⟩
  .cases he:oN l i with
   |none=>grind
   |some e=>rw[cU (MI he) hJ aJ];rfl
  .cases he:oN l i with
   |none=>rfl
   |some e=>grind [ug]
 .rw[bC.2 λj hj=>hJ j (by omega)];rfl
theorem rZ(t:Ty)(E:List En):M.dC aG t E=aa (decide (oY t E.length)):=by
 obtain⟨(k:Int),(e:Int)⟩:=t;apply Wp.eq;unfold M.dC;simp only[W_,au,av,reduceCtorEq];simp only[oY];dsimp only[aB,Row.den]at*;omega
theorem Kt(t:Ty)(E:List En):M.jo aG t E=aa (Uz t E):=by
 obtain⟨(k:Int),(e:Int)⟩:=t;apply Wp.eq;unfold M.jo Uz;simp only[rZ,W_,au,av,reduceCtorEq];by_cases hv:oY (k,e) E.length
 .simp only[hv,not_true_eq_false,if_false,false_implies,true_implies,true_and];refine⟨λh=>by rw[aj h],λh1=>⟨λh=>by rw[ai h1,aj h],λh2=>⟨λh=>by rw[ai h1,ai h2,aj h],λh3=>⟨λh=>by rw[ai h1,ai h2,ai h3,aj h],λh4=>⟨(by grind),λh5=>?_⟩⟩⟩⟩⟩;simp only[oY]at hv;dsimp only[aB,Row.den]at*
  have hi:e.toNat<E.length:=by omega
  refine ee.2 ⟨by omega,?_⟩
  grind
 grind
theorem IK(r:Ty):M.ff aG r=aa (decide (VR r)):=by
 obtain⟨(k:Int),(e:Int)⟩:=r;apply Wp.eq;unfold M.ff;simp only[W_,au,av,reduceCtorEq];simp only[VR];grind
theorem MK(a b:Rw):M.mR aG a b=aa (decide (nN a b)):=by
 obtain⟨⟨(a1:Int),(a2:Int)⟩,(a3:Int),(a4:Int),(a5:Int)⟩:=a;obtain⟨⟨(b1:Int),(b2:Int)⟩,(b3:Int),(b4:Int),(b5:Int)⟩:=b;apply Wp.eq;unfold M.mR M.lr M.jO;simp only[IK,W_,au,av,reduceCtorEq];simp only[nN];dsimp only[aB,Row.den]at*
 by_cases h1:VR (a1,a2)<;>by_cases h2:VR (b1,b2)<;>simp only[h1,h2,W_,au,av,reduceCtorEq]<;>omega
theorem PZ(l:List Rw)(x:Rw)(hl:l.length<=maxLen):Wp (M.cR aG l x) λr=>r.2.1=af↔∃y∈l,nN y x:=by
 unfold M.cR M.km
 refine Wp.count (λs=>s.1) l.length (λk s=>s.2=x/\∀j,j<k->∀h:j<l.length,¬nN l[j] x) hl rfl ⟨rfl,λj hj=>by omega⟩ λk c hk hs hJ=>?_
 obtain⟨c1,c2⟩:=c;obtain⟨h1,hJ⟩:=hJ;obtain rfl:c2=x:=h1;obtain rfl:c1=_:=hs;simp only[MK,W_,au,av,reduceCtorEq,aQ,aO];refine⟨λaJ=>?_,λhge=>?_⟩
 .have aJ:k<l.length:=by omega
  simp only[aD aJ,bX hl aJ,W_,au,av,reduceCtorEq]
  grind
 .refine ay id ?_
  grind [aoS]
theorem S6(t:xQ)(E:List En):M.mS aG t E=aa (mJ t E):=by
 apply Wp.eq;unfold M.mS mJ;simp only[rZ,Kt,IK,W_,au,av,reduceCtorEq];refine⟨λh=>by grind,λh64=>?_⟩;rw[ai (c:=64<t.2.2.2.length) (by omega)];refine⟨λh1=>by rw[aj (λg=>h1 g.1)],λh1=>⟨(by grind),λh2=>?_⟩⟩;rw[ai (λg=>g ⟨h1,h2⟩)]
 refine Wp.count (λs=>s) t.2.2.2.length (λk _=>∀j,j<k->qF t E j=ae) (by omega) rfl (λj hj=>by omega) λk s hk hs hJ=>?_
 obtain rfl:s=_:=hs;simp only[W_,au,av,reduceCtorEq,aQ,aO];refine⟨λaJ=>?_,λhge=>?_⟩
 .have aJ:k<t.2.2.2.length:=by omega
  have hf:qF t E k=if pc t.2.2.2[k] t E then aa ((k:Int),3)else if∃y∈t.2.2.2.take k,nN y t.2.2.2[k]then aa ((k:Int),11)else ae:=by
   unfold qF;rw[aoA aJ]
  have bad:pc t.2.2.2[k] t E->((k:Int),(3:Int))=(cF (qF t E) t.2.2.2.length).getD (0,0):=λhw=>by
   grind [cU]
  have DE:¬pc t.2.2.2[k] t E->Wp (M.cR aG (t.2.2.2.take k) t.2.2.2[k]) λy=>(y.2.1=af->((k:Int),(11:Int))=(cF (qF t E) t.2.2.2.length).getD (0,0))/\(y.2.1=ag->k<t.2.2.2.length/\∀j,j<k+1->qF t E j=ae):=λhw=>by
   rw[ai hw]at hf
   refine(PZ _ _ (by rw[ao0];unfold maxLen;omega)).mono λy hy=>⟨λh=>?_,λh=>⟨aJ,ef hJ ?_⟩⟩
   all_goals grind [cU]
  simp only[aD aJ,oO (aql aJ),bX (m:=t.2.2.2.length) (by omega) aJ,W_,au,av,reduceCtorEq];unfold pc at bad DE;unfold Eh at bad DE
  grind
 grind [bC]
theorem P0{t:xQ}{E:List En}:(mJ t E).2≠0->((mJ t E).1= -1\/(0<=(mJ t E).1/\(mJ t E).1<=64)):=by
 unfold mJ;intro h;split
 .grind
 split
 .exact .inl rfl
 rename_i h1 h2
 cases hf:cF (qF t E) t.2.2.2.length with
 |none=>grind
 |some e=>
  obtain⟨k,hk,he,_⟩:=gm hf;unfold qF at he;split at he
  .cases he
  split at he
  .grind
  split at he
  all_goals grind
theorem zY(l:Lw)(hw:WF cQ l):M.lX aG l=aa (if 8<l.2.1.length then((4:Int),((2:Int),((8:Int),(0:Int))))else match cF (λk=>(pW l k).map λe=>(k,e)) l.2.1.length with
 |some (k,e)=>nO 2 (k:Int) (aa e)
 |none=>Rp):=by
 have w1:=hw.2.1.1;have w0:=hw.1.1;have wt:∀t∈l.2.1,WF aP t:=hw.2.1.2;unfold maxLen at w1;apply Wp.eq;unfold M.lX;simp only[W_,au,av,reduceCtorEq];refine⟨λh=>by grind,λh8=>?_⟩;rw[ai (by omega)]
 refine Wp.count (λs=>s) l.2.1.length (λi _=>∀j,j<i->(λk=>(pW l k).map λe=>(k,e)) j=ae) w1 rfl (λj hj=>by omega) λi c hi hs hJ=>?_
 obtain rfl:c=_:=hs;simp only[W_,au,av,reduceCtorEq,aQ,aO];refine⟨λaJ=>?_,λhge=>?_⟩
 .have aJ:i<l.2.1.length:=by omega
  have pS:l.2.1[i].1.size<=maxLen:=(wt _ (aoG aJ)).1
  have hE:pW l i=if mr l.2.1[i].1=ag then aa (2,0)else if eB l.1 l.2.1[i].1\/eB (l.2.1.take i) l.2.1[i].1 then aa (7,0)else if(mJ l.2.1[i] l.1).2=0 then ae else aa ((mJ l.2.1[i] l.1).2,if 0<=(mJ l.2.1[i] l.1).1 then 100+(mJ l.2.1[i] l.1).1 else 0):=by
   unfold pW;rw[aoA aJ]
  simp only[aD aJ,S6,xp _ pS,oO (aql aJ),vn _ _ w0,xR (l.2.1.take i) _ (by rw[ao0];unfold maxLen;omega),bX w1 aJ,W_,au,av,reduceCtorEq]
  have bad:∀e,pW l i=aa e->nO 2 (i:Int) (aa e)=(match cF (λk=>(pW l k).map λe=>(k,e)) l.2.1.length with|some (k,e)=>nO 2 (k:Int) (aa e)|none=>Rp):=λe he=>by
   rw[cU (MI he) hJ aJ]
  have DE:pW l i=ae->i<l.2.1.length/\∀j,j<i+1->(λk=>(pW l k).map λe=>(k,e)) j=ae:=(by grind)
  have Px:=P0 (t:=l.2.1[i]) (E:=l.1);generalize mJ l.2.1[i] l.1=te at*;obtain⟨(r:Int),(c:Int)⟩:=te;dsimp only at*;refine⟨λh=>?_,λh=>⟨λh2=>?_,λh2=>⟨λh3=>?_,λh3=>⟨λh4=>?_,λh4=>?_⟩⟩⟩⟩
  .exact⟨λ_=>bad (2,0) (hE.trans (aj h)),λg=>absurd g (by decide)⟩
  .rw[ai (c:=mr l.2.1[i].1=ag) (by simp[h]),aj (Or.inl h2)]at hE;exact⟨λ_=>bad (7,0) hE,λg=>absurd g (by decide)⟩
  .rw[ai (c:=mr l.2.1[i].1=ag) (by simp[h]),aj (Or.inr h3)]at hE;exact⟨λ_=>bad (7,0) hE,λg=>absurd g (by decide)⟩
  .rw[ai (c:=mr l.2.1[i].1=ag) (by simp[h]),ai (λg=>g.elim h2 h3),ai h4]at hE;have hr:=Px h4;refine⟨λg=>⟨λ_=>?_,λe=>absurd e h4⟩,λg=>⟨λ_=>?_,λe=>absurd e h4⟩⟩
   .rw[aE (by omega) (by omega)];exact bad (c,100+r) (hE.trans (by grind))
   .exact bad (c,0) (hE.trans (by grind))
  grind
 .rw[bC.2 λj hj=>hJ j (by omega)];rfl
noncomputable def tv(l:Lw)(f:Fd)(a b:List Fd):Int:=if mr f.1=ag then 2 else if eB a f.1\/eB b f.1 then 7 else if¬oY f.2 l.1.length then 8 else 0
theorem uO(l:Lw)(f:Fd)(a b:List Fd)(hf:f.1.size<=maxLen)(ha:a.length<=maxLen)(hb:b.length<=maxLen):M.kq aG l f a b=aa (tv l f a b):=by
 apply Wp.eq;unfold M.kq;simp only[xp _ hf,wc _ _ ha,wc _ _ hb,rZ,W_,au,av,reduceCtorEq]
 grind [tv]
theorem DF(l:List UInt8)(c:UInt8):0<=ap8 l c↔c∈l:=by
 induction l with
 |nil=>simp[ap8]
 |cons b l ih=>
  have hg:=Go.Lib.indexByte_ge l c;unfold ap8
  grind
theorem zZ(s:ByteArray)(_:s.size<=maxLen):M.lY aG s=aa (decide (plain s)):=by
 have hc:M.strings_Contains aG s (⟨#[34]⟩:ByteArray)=aa (decide (0<=ap8 s.data.toList 34)):=rfl
 have eK:0<=ap8 s.data.toList 34↔∃i,∃h:i<s.size,(s[i].toNat:Int)=34:=by
  rw[DF];constructor
  .intro h;obtain⟨i,hi,e⟩:=aoS h;refine⟨i,by simpa using hi,?_⟩
   have:s[i]'(by simpa using hi)=34:=by
    have e:s.data[i]'(by simpa using hi)=34:=by simpa using e
    exact e
   rw[this];rfl
  .rintro⟨i,hi,e⟩
   have e2:s[i]=34:=by
    apply UInt8.toNat_inj.1
    show s[i].toNat=34
    omega
   have:(34:UInt8)=s.data.toList[i]'(by simpa using hi):=by rw[<-e2];simp;rfl
   grind
 apply Wp.eq;unfold M.lY;simp only[hc,W_,au,av,reduceCtorEq];refine⟨λh=>?_,λh64=>⟨λh=>?_,λKu=>?_⟩⟩
 .grind [plain]
 .grind [plain]
 refine Wp.count (λs=>s) s.size (λi _=>∀j,j<i->∀h:j<s.size,32<=(s[j].toNat:Int)/\(s[j].toNat:Int)<=126) (by omega) rfl (λj hj=>by omega) λi c hi hs hJ=>?_
 obtain rfl:c=_:=hs
 rcases aph i s.size with aJ|hge
 .have hb:lj s (i:Int)=aa (s[i].toNat:Int):=by
   have:=(PL (x:=((s[i].toNat:Nat):Int))).1 (ql (s:=s) (i:=(i:Int)).2 ⟨by omega,by simp⟩);exact this
  simp only[tg aJ,hb,bX (m:=s.size) (by omega) aJ,W_,au,av,reduceCtorEq,aQ,aO];refine⟨λh=>?_,λh=>⟨λh2=>?_,λh2=>⟨aJ,ef hJ λ_=>by omega⟩⟩⟩
  all_goals grind [plain]
 .obtain rfl:i=s.size:=by omega
  simp only[dB,W_,au,av,reduceCtorEq,aO];refine(⟨λi hi=>?_,by omega⟩:plain s)
  grind
def F6(sg:rv):Prop:=∀e:List Ty,(∀n∈e,WF aA n)->M.p9 aG e sg=aa (Hm e sg)
theorem pq{sg:rv}(hT:F6 sg){e:List Ty}(want:Ty)(hw:∀n∈e,WF aA n):M.iC aG e sg want=aa (rf e sg want):=by
 apply Wp.eq;unfold M.iC;simp only[hT e hw,Ke,W_,au,av,reduceCtorEq]
 grind [rf]
theorem DG(l:Lw)(x:kF)(hw:WF aU x)(oC:lD x)(hT:F6 (fx l x))(k:Nat)(hk:k<x.2.2.2.2.length):M.lM aG x (k:Int) (fx l x)=aa (uC l x k x.2.2.2.2[k]):=by
 have NE:=hw.2.2.2.2.2 _ (aoG hk);have Dw:=oC.2.2.2.2.2.2 _ (aoG hk)
 obtain⟨r,hr⟩:∃r,r=x.2.2.2.2[k]:=⟨_,rfl⟩
 have WN:=oC.2.2.2.1
 have S7:Wp (Loop (S:=Int×Int) (X:=Int) (λs4=>
  (if(decide (s4.2<((x.2.2.2.2.take k).length:Int)))=af then
  ((idx (x.2.2.2.2.take k) s4.2).bind λx6=>
  (if(decide ((x6.2.1:Int)=r.2.1))=af then
  some (aoz.wrap (s4.1+(1:Int)))
  else
  some s4.1):Option (Int)).bind λj5=>
  some (ao4 (j5,aoz.wrap (s4.2+(1:Int))))
  else
  some (aoV s4.1))) aG ((0:Int),(0:Int))) λn=>n=(yq x k r.2.1:Int):=by
  have Ro:(x.2.2.2.2.take k).length=k:=by rw[ao0];omega
  refine Wp.count (λs=>s.2) k (λj s=>s.1=(((x.2.2.2.2.take j).countP λr'=>decide ((r'.2.1:Int)=r.2.1):Nat):Int)) (by omega) rfl rfl λj s hj hs S0=>?_
  obtain⟨sb,c⟩:=s;dsimp only at hs S0;subst hs;rw[Ro];have AN:(x.2.2.2.2.take j).countP (λr'=>decide ((r'.2.1:Int)=r.2.1))<=60:=Nat.le_trans List.countP_le_length (by rw[ao0];omega);simp only[W_,au,av,reduceCtorEq,aQ,aO];refine⟨λRn=>?_,λRn=>?_⟩
  .have wY:j<x.2.2.2.2.length:=by omega
   have hjt:j<(x.2.2.2.2.take k).length:=by omega
   simp only[aD hjt,List.getElem_take,bX (m:=k) (by omega) (show j<k by omega),W_,au,av,reduceCtorEq]
   have VH:(x.2.2.2.2.take (j+1)).countP (λr'=>decide ((r'.2.1:Int)=r.2.1))=(x.2.2.2.2.take j).countP (λr'=>decide ((r'.2.1:Int)=r.2.1))+if(x.2.2.2.2[j].2.1:Int)=r.2.1 then 1 else 0:=by
    rw[<-List.take_append_getElem wY,List.countP_append];simp[List.countP_cons]
   refine⟨λh'=>⟨by omega,?_⟩,λh'=>⟨by omega,?_⟩⟩
   .rw[VH,aj h',S0,aE (by omega) (by omega)];rfl
   .rw[VH,ai h',S0];rfl
  .obtain rfl:j=k:=by omega
   exact S0
 apply Wp.eq;unfold M.lM;rw[<-hr];have pS:r.1.size<=maxLen:=(hr▸NE).1
 have agH:r.2.2.2.2.2.2.2.size<=maxLen:=by
  have:=(hr▸Dw).2.1;unfold maxLen;omega
 have AN:yq x k r.2.1<=60:=Nat.le_trans List.countP_le_length (by rw[ao0];omega);have hg:∀n∈r.2.2.2.2.2.1,WF aA n:=(hr▸NE).2.2.2.2.2.1.2;have hv:∀n∈r.2.2.2.2.2.2.1,WF aA n:=(hr▸NE).2.2.2.2.2.2.1.2;have NF:rW x k r↔(r.2.2.1:Int)≠-1/\((r.2.2.1:Int)<0\/(k:Int)<=r.2.2.1\/∃y,x.2.2.2.2[(r.2.2.1:Int).toNat]? =aa y/\(y.2.1:Int)≠r.2.1):=Iff.rfl;simp only[aD hk,<-hr,oO (aql hk),F5 (x.2.2.2.2.take k) _ (by rw[ao0];unfold maxLen;omega),xp _ pS,zZ _ agH,W_,au,av,reduceCtorEq];simp only[ax]at S7
 refine S7.mono λn hn=>?_
 subst hn;clear S7 NE Dw hr;unfold uC;refine⟨λh=>by rw[aj h],λh1=>?_⟩;rw[ai (c:=mr r.1=ag) (by simp[h1])];refine⟨λh=>by rw[aj h],λh2=>?_⟩;rw[ai (c:=eB (x.2.2.2.2.take k) r.1) h2];generalize yq x k r.2.1=q at*;obtain⟨nm,(d:Int),(p:Int),(pr:Int),v,g,val,src⟩:=r;obtain⟨(v1:Int),(v2:Int)⟩:=v;dsimp only[aB,Row.den]at*;refine⟨λh=>by rw[aj (c:=¬(0<=d/\d<(x.2.2.2.1.length:Int))) (by omega)],λh3=>⟨λh=>by rw[aj (c:=¬(0<=d/\d<(x.2.2.2.1.length:Int))) (by omega)],λh4=>?_⟩⟩;rw[ai (c:=¬(0<=d/\d<(x.2.2.2.1.length:Int))) (by omega)]
 have hd:d.toNat<x.2.2.2.1.length:=by omega
 have hvr:¬VR ((v1,v2):Ty)\/v1=v2↔v1<0\/v2<=v1\/109573<v2:=by
  simp only[VR];dsimp only[aB,Row.den];omega
 refine⟨λhp=>⟨λh=>by rw[aj (NF.2 ⟨hp, .inl h⟩)],λh5=>⟨λh=>by rw[aj (NF.2 ⟨hp, .inr (.inl h)⟩)],λh6=>ee.2 ⟨⟨by omega,by omega⟩,λh7=>by rw[aj (NF.2 ⟨hp, .inr (.inr ⟨_,aoA (by omega),h7⟩)⟩)],λh7=>?_⟩⟩⟩,λhp=>?_⟩
 .have Rh:¬rW x k (nm,d,p,pr,(v1,v2),g,val,src):=λh=>by
   obtain⟨_,g1|g1|⟨y,g1,g2⟩⟩:=NF.1 h
   .omega
   .omega
   .rw[aoA (by omega)]at g1;cases g1;exact g2 h7
  clear NF;rw[ai Rh]
  have last:Wp (idx x.2.2.2.1 d) λx_3=>Wp (M.iC aG val (fx l x) x_3.2) λx_4=>x_4=match x.2.2.2.1[d.toNat]? with
   |some d=>rf val (fx l x) d.2
   |none=>0:=by
   refine ee.2 ⟨by omega,?_⟩;rw[pq hT _ hv,aoA hd];exact .some rfl
  by_cases g1:pr<0\/9<pr\/¬VR ((v1,v2):Ty)\/v1=v2
  .rw[aj g1];refine⟨λ_=>rfl,λa1=>⟨λ_=>rfl,λa2=>⟨λ_=>rfl,λa3=>⟨λ_=>rfl,λa4=>⟨λ_=>rfl,λa5=>?_⟩⟩⟩⟩⟩;rw[hvr]at g1;omega
  rw[ai g1]
  have Yf:¬(pr<0\/9<pr\/v1<0\/v2<=v1\/109573<v2):=by rw[<-hvr];exact g1
  refine⟨λh=>by omega,λa1=>⟨λh=>by omega,λa2=>⟨λh=>by omega,λa3=>⟨λh=>by omega,λa4=>⟨λh=>by omega,λa5=>?_⟩⟩⟩⟩⟩;refine⟨λh=>by rw[aj (by omega)],λh8=>?_⟩;rw[ai (by omega)];refine⟨λh=>by rw[aj h],λh9=>?_⟩;rw[ai (λh=>h h9)];refine⟨λh=>?_,λh=>?_⟩
  .rw[pq hT _ hg];refine .some ⟨λh'=>by rw[aj ⟨by omega,h'⟩],λh'=>?_⟩;rw[ai (λg=>g.2 h')];exact last
  .rw[ai (λg=>h (by omega))];exact last
 .have Rh:¬rW x k (nm,d,p,pr,(v1,v2),g,val,src):=λh=>(NF.1 h).1 hp
  clear NF;rw[ai Rh]
  have last:Wp (idx x.2.2.2.1 d) λx_3=>Wp (M.iC aG val (fx l x) x_3.2) λx_4=>x_4=match x.2.2.2.1[d.toNat]? with
   |some d=>rf val (fx l x) d.2
   |none=>0:=by
   refine ee.2 ⟨by omega,?_⟩;rw[pq hT _ hv,aoA hd];exact .some rfl
  by_cases g1:pr<0\/9<pr\/¬VR ((v1,v2):Ty)\/v1=v2
  .rw[aj g1];refine⟨λ_=>rfl,λa1=>⟨λ_=>rfl,λa2=>⟨λ_=>rfl,λa3=>⟨λ_=>rfl,λa4=>⟨λ_=>rfl,λa5=>?_⟩⟩⟩⟩⟩;rw[hvr]at g1;omega
  rw[ai g1]
  have Yf:¬(pr<0\/9<pr\/v1<0\/v2<=v1\/109573<v2):=by rw[<-hvr];exact g1
  refine⟨λh=>by omega,λa1=>⟨λh=>by omega,λa2=>⟨λh=>by omega,λa3=>⟨λh=>by omega,λa4=>⟨λh=>by omega,λa5=>?_⟩⟩⟩⟩⟩;refine⟨λh=>by rw[aj (by omega)],λh8=>?_⟩;rw[ai (by omega)];refine⟨λh=>by rw[aj h],λh9=>?_⟩;rw[ai (λh=>h h9)];refine⟨λh=>?_,λh=>?_⟩
  .rw[pq hT _ hg];refine .some ⟨λh'=>by rw[aj ⟨by omega,h'⟩],λh'=>?_⟩;rw[ai (λg=>g.2 h')];exact last
  .rw[ai (λg=>h (by omega))];exact last
def ML(x:kF):Prop:=∀d:Nat,d<x.2.2.2.1.length->∃tr,M.jy aG x (d:Int)=aa tr/\tr.length<=1000/\((d:Int)∈tr↔(d:Int)∈Dx x d)
theorem MM(l:Lw)(k:Nat)(hk:k<l.2.2.length)(hs:∀s∈l.2.2,s.2.2.1.length<=100000/\s.2.2.2.1.length<=100000):M.lu aG l (k:Int)=aa ((fx l l.2.2[k]).1,(fx l l.2.2[k]).2.1,(fx l l.2.2[k]).2.2.2.2.2,(fx l l.2.2[k]).2.2.1,(fx l l.2.2[k]).2.2.2.1,(fx l l.2.2[k]).2.2.2.2.1):=by
 rw[<-Kp l k hk hs];unfold M.gY;rw[ai (by simp),aoy,ai (by simp;omega)];rfl
theorem WQ(l:Lw)(x:kF)(i:Nat)(h:i<x.2.2.1.length):Bi l x i=if tv l x.2.2.1[i] (x.2.2.1.take i) []≠0 then aa (tv l x.2.2.1[i] (x.2.2.1.take i) [],100+(i:Int))else ae:=by
 have hn:∀nm,¬eB ([]:List Fd) nm:=λnm ⟨y,hy,_⟩=>by cases hy
 grind [Bi,tv]
theorem WR(l:Lw)(x:kF)(i:Nat)(h:i<x.2.2.2.1.length):Bj l x i=if tv l x.2.2.2.1[i] x.2.2.1 (x.2.2.2.1.take i)≠0 then aa (tv l x.2.2.2.1[i] x.2.2.1 (x.2.2.2.1.take i),200+(i:Int))else ae:=by
 grind [Bj,tv]
theorem Bm(l:Lw)(hw:WF cQ l)(oC:lE l)(k:Nat)(hk:k<l.2.2.length)(hT:F6 (fx l l.2.2[k]))(hC:ML l.2.2[k]):M.mV aG l (k:Int)=aa ((rY l k).getD (0,0)):=by
 have sq:=oC.2.2.2.2.2 _ (aoG hk);have MH:=hw.2.2.2 _ (aoG hk)
 have PV:=MM l k hk λs hs=>⟨by have:=(oC.2.2.2.2.2 s hs).2.1;omega,by have:=(oC.2.2.2.2.2 s hs).2.2.1;omega⟩
 have hE:rY l k=if mr l.2.2[k].1=ag then aa (2,0)else if eB l.1 l.2.2[k].1\/eB l.2.1 l.2.2[k].1\/eB (l.2.2.take k) l.2.2[k].1 then aa (7,0)else if rX l k l.2.2[k]then aa (6,0)else
  if 12<l.2.2[k].2.2.1.length then aa (4,112)else if 12<l.2.2[k].2.2.2.1.length then aa (4,212)else((vj l l.2.2[k]).or (cF (xm l l.2.2[k]) l.2.2[k].2.2.2.2.length)).or (cF (yr l.2.2[k]) l.2.2[k].2.2.2.1.length):=by
  unfold rY;rw[aoA hk]
 have h5:=oC.2.2.1
 obtain⟨x,hx⟩:∃x,x=l.2.2[k]:=⟨_,rfl⟩
 simp only[<-hx]at sq MH PV hE hT hC;have Rq:=sq.2.2.1;have WN:=sq.2.2.2.1;have agK:=sq.2.1;have pS:x.1.size<=maxLen:=MH.1
 have Ro:(l.2.2.take k).length=k:=by rw[ao0];omega
 have eK:∀f∈x.2.2.1,(f.1:ByteArray).size<=maxLen:=λf hf=>by have:=sq.2.2.2.2.1 f hf;unfold maxLen;omega
 have hdf:∀f∈x.2.2.2.1,(f.1:ByteArray).size<=maxLen:=λf hf=>by have:=sq.2.2.2.2.2.1 f hf;unfold maxLen;omega
 apply Wp.eq;unfold M.mV;rw[aD hk,aoy,oO (aql hk),aoy,<-hx]
 have P1:(((M.kl aG l.1 x.1).bind λy4=>
  (if y4=af then
  some (af,x)
  else
  (M.kQ aG l.2.1 x.1).bind λy5=>
  (if y5=af then
  some (af,x)
  else
  (M.bk aG (l.2.2.take k) x).bind λy6=>
  some (y6.1,y6.2))):Option (Bool×aU.den)))=aa (decide (eB l.1 x.1\/eB l.2.1 x.1\/eB (l.2.2.take k) x.1),x):=by
  apply Wp.eq;simp only[vn _ _ hw.1.1,xR _ _ hw.2.1.1,DC (l.2.2.take k) _ (by rw[Ro];unfold maxLen;omega),W_,au,av,reduceCtorEq];exact⟨λh=>by rw[ao (Or.inl h)],λh1=>⟨λh=>by rw[ao (Or.inr (Or.inl h))],λh2=>aw (λb=>(b,x)) (decide_eq_decide.2 ⟨λh=> .inr (.inr h),λh=>(h.resolve_left h1).resolve_left h2⟩)⟩⟩
 rw[P1,aoy,xp _ pS,aoy,hE];by_cases h1:mr x.1=ag
 .rw[aj (by simp[h1]),aj h1];exact .some rfl
 rw[ai (by simpa using h1),ai h1];by_cases h2:eB l.1 x.1\/eB l.2.1 x.1\/eB (l.2.2.take k) x.1
 .rw[aj (ao h2),aj h2];exact .some rfl
 rw[ai (by simpa using h2),ai h2];have NG:rX l k x↔(x.2.1:Int)≠-1/\((x.2.1:Int)<0\/(k:Int)<=x.2.1\/∃y,l.2.2[(x.2.1:Int).toNat]? =aa y/\(y.2.1:Int)≠-1):=Iff.rfl
 have aab:((if(!decide ((x.2.1:Int)=(-1:Int)))=af then
  (if(decide ((x.2.1:Int)<(0:Int)))=af then
  some af
  else
  (if(decide ((k:Int)<=x.2.1))=af then
  some af
  else
  (idx (l.2.2.take k) x.2.1).bind λx9=>
  some (!decide ((x9.2.1:Int)=(-1:Int)))))
  else
  some ag):Option (Bool))=aa (decide (rX l k x)):=by
  apply Wp.eq;simp only[W_,au,av,reduceCtorEq]
  obtain⟨(m:Int),hm⟩:∃m:Int,m=x.2.1:=⟨_,rfl⟩
  simp only[<-hm]at NG⊢;refine⟨λhp=>⟨λh=>(NG.2 ⟨hp, .inl h⟩),λh3=>⟨λh=>(NG.2 ⟨hp, .inr (.inl h)⟩),λh4=>ee.2 ⟨by dsimp only[aB,Row.den]at*;omega,?_⟩⟩⟩,λhp h=>(NG.1 h).1 hp⟩
  have XU:m.toNat<k:=by dsimp only[aB,Row.den]at*;omega
  rw[List.getElem_take];have vD:l.2.2[m.toNat]? =aa (l.2.2[m.toNat]'(by omega)):=aoA (by omega);rw[<-decide_not];refine decide_eq_decide.2 ⟨λh g=>?_,λh=>ap3.1 λh'=>h (NG.2 ⟨hp, .inr (.inr ⟨_,vD,h'⟩)⟩)⟩;obtain⟨_,g1|g1|⟨y,g1,g2⟩⟩:=NG.1 g
  .exact absurd g1 h3
  .exact absurd g1 h4
  .rw[vD]at g1;cases g1;exact g2 h
 rw[aab,aoy];by_cases h3:rX l k x
 .rw[aj (ao h3),aj h3];exact .some rfl
 rw[ai (by simpa using h3),ai h3];clear P1 aab NG hE;dsimp only;by_cases h4:12<x.2.2.1.length
 .rw[aj (ao (by omega)),aj h4];exact .some rfl
 rw[ai (by rw[ax];omega),ai h4];by_cases h5:12<x.2.2.2.1.length
 .rw[aj (ao (by omega)),aj h5];exact .some rfl
 rw[ai (by rw[ax];omega),ai h5,PV];unfold vj;simp only[W_,au,av,reduceCtorEq]
 refine Wp.count (λs=>s) x.2.2.1.length (λi _=>∀j,j<i->Bi l x j=ae) (by omega) rfl (λj hj=>by omega) λi c hi hs hJ=>?_
 obtain rfl:c=_:=hs;simp only[W_,au,av,reduceCtorEq,aQ,aO];refine⟨λaJ=>?_,λhge=>?_⟩
 .have aJ:i<x.2.2.1.length:=by omega
  have hf:=WQ l x i aJ;simp only[aD aJ,oO (aql aJ),uO l _ (x.2.2.1.take i) [] (eK _ (aoG aJ)) (by rw[ao0];unfold maxLen;omega) (by simp),oz (k:=i) (a:=100) (by omega) (by omega),bX (m:=x.2.2.1.length) (by omega) aJ,W_,au,av,reduceCtorEq];refine⟨λh=>?_,λh=>⟨aJ,ef hJ (by rw[hf,ai (λg=>g h)])⟩⟩;rw[cU (hf.trans (aj h)) hJ aJ];rfl
 rw[bC.2 λj(hj:j<x.2.2.1.length)=>hJ j (by omega),Option.none_or];clear hJ
 refine Wp.count (λs=>s) x.2.2.2.1.length (λi _=>∀j,j<i->Bj l x j=ae) (by omega) rfl (λj hj=>by omega) λi c hi hs hJ=>?_
 obtain rfl:c=_:=hs;simp only[W_,au,av,reduceCtorEq,aQ,aO];refine⟨λaJ=>?_,λhge=>?_⟩
 .have aJ:i<x.2.2.2.1.length:=by omega
  have hf:=WR l x i aJ;simp only[aD aJ,oO (aql aJ),uO l _ x.2.2.1 (x.2.2.2.1.take i) (hdf _ (aoG aJ)) (by unfold maxLen;omega) (by rw[ao0];unfold maxLen;omega),oz (k:=i) (a:=200) (by omega) (by omega),bX (m:=x.2.2.2.1.length) (by omega) aJ,W_,au,av,reduceCtorEq];refine⟨λh=>?_,λh=>⟨aJ,ef hJ (by rw[hf,ai (λg=>g h)])⟩⟩;rw[cU (hf.trans (aj h)) hJ aJ];rfl
 rw[bC.2 λj(hj:j<x.2.2.2.1.length)=>hJ j (by omega),Option.none_or];clear hJ
 refine Wp.count (λs=>s) x.2.2.2.2.length (λi _=>∀j,j<i->xm l x j=ae) (by omega) rfl (λj hj=>by omega) λi c hi hs hJ=>?_
 obtain rfl:c=_:=hs;simp only[W_,au,av,reduceCtorEq,aQ,aO];refine⟨λaJ=>?_,λhge=>?_⟩
 .have aJ:i<x.2.2.2.2.length:=by omega
  have hf:xm l x i=if uC l x i x.2.2.2.2[i]≠0 then aa (uC l x i x.2.2.2.2[i],300+(i:Int))else ae:=by
   unfold xm;rw[aoA aJ]
  have hr:M.lM aG x (i:Int) ((fx l x).1,((fx l x).2.1,((fx l x).2.2.1,((fx l x).2.2.2.1,((fx l x).2.2.2.2.1,(fx l x).2.2.2.2.2)))))=_:=DG l x MH sq hT i aJ;simp only[hr,oz (k:=i) (a:=300) (by omega) (by omega),bX (m:=x.2.2.2.2.length) (by omega) aJ,W_,au,av,reduceCtorEq];refine⟨λh=>?_,λh=>⟨aJ,ef hJ (by rw[hf,ai (λg=>g h)])⟩⟩;rw[cU (hf.trans (aj h)) hJ aJ];rfl
 rw[bC.2 λj(hj:j<x.2.2.2.2.length)=>hJ j (by omega),Option.none_or];clear hJ
 refine Wp.count (λs=>s) x.2.2.2.1.length (λi _=>∀j,j<i->yr x j=ae) (by omega) rfl (λj hj=>by omega) λi c hi hs hJ=>?_
 obtain rfl:c=_:=hs;simp only[W_,au,av,reduceCtorEq,aQ,aO];refine⟨λaJ=>?_,λhge=>?_⟩
 .have aJ:i<x.2.2.2.1.length:=by omega
  obtain⟨tr,e1,e2,e3⟩:=hC i aJ
  have hf:yr x i=if(i:Int)∈Dx x i then aa (9,200+(i:Int))else ae:=rfl
  simp only[e1,IJ tr _ (by unfold maxLen;omega),oz (k:=i) (a:=200) (by omega) (by omega),bX (m:=x.2.2.2.1.length) (by omega) aJ,W_,au,av,reduceCtorEq];refine⟨λh=>?_,λh=>⟨aJ,ef hJ (by rw[hf,ai (λg=>h (e3.2 g))])⟩⟩;rw[cU (hf.trans (aj (e3.1 h))) hJ aJ];rfl
 .rw[bC.2 λj(hj:j<x.2.2.2.1.length)=>hJ j (by omega)];rfl
theorem z1(l:Lw)(hw:WF cQ l)(oC:lE l)(hT:∀x∈l.2.2,F6 (fx l x))(hC:∀x∈l.2.2,ML x):M.lZ aG l=aa (if 4<l.2.2.length then((4:Int),((3:Int),((4:Int),(0:Int))))else match cF (λk=>(rY l k).map λe=>(k,e)) l.2.2.length with
 |some (k,e)=>nO 3 (k:Int) (aa e)
 |none=>Rp):=by
 have w1:=hw.2.2.1;unfold maxLen at w1;apply Wp.eq;unfold M.lZ;simp only[W_,au,av,reduceCtorEq];refine⟨λh=>by grind,λh8=>?_⟩;rw[ai (by omega)]
 refine Wp.count (λs=>s) l.2.2.length (λi _=>∀j,j<i->(λk=>(rY l k).map λe=>(k,e)) j=ae) w1 rfl (λj hj=>by omega) λi c hi hs hJ=>?_
 obtain rfl:c=_:=hs;simp only[W_,au,av,reduceCtorEq,aQ,aO];refine⟨λaJ=>?_,λhge=>?_⟩
 .have aJ:i<l.2.2.length:=by omega
  simp only[Bm l hw oC i aJ (hT _ (aoG aJ)) (hC _ (aoG aJ)),bX w1 aJ,W_,au,av,reduceCtorEq];refine⟨λh=>?_,λh=>⟨aJ,ef hJ ?_⟩⟩
  .cases he:rY l i with
   |none=>grind
   |some e=>rw[cU (MI he) hJ aJ];rfl
  .cases he:rY l i with
   |none=>rfl
   |some e=>grind [zU]
 .rw[bC.2 λj hj=>hJ j (by omega)];rfl
theorem F7(l:Lw)(hw:WF cQ l)(oC:lE l)(hT:∀x∈l.2.2,F6 (fx l x))(hC:∀x∈l.2.2,ML x):M.kR aG l=aa (sF l):=by
 have bad:∀(f:Nat->Option (Int×Int))(m:Nat)(sec:Int)(k:Nat)(e:Int×Int),(∀i e,f i=aa e->e.1≠0)->cF (λk=>(f k).map λe=>(k,e)) m=aa (k,e)->(!decide ((nO sec (k:Int) (aa e)).1=0))=af:=λf m sec k e hf he=>by
  obtain⟨j,_,hj,_⟩:=gm he;obtain⟨e',Ph,h2⟩:=Option.map_eq_some_iff.1 hj;cases h2;have:e.1≠0:=hf _ _ Ph
  show(!decide (e.1=0))=af
  simp[this]
 unfold M.kR sF;rw[Bl l hw,aoy];by_cases h1:8<l.1.length
 .grind
 rw[ai h1,ai h1]
 cases hA:cF (λk=>(oN l k).map λe=>(k,e)) l.1.length with
 |some p=>
  obtain⟨k,e⟩:=p;dsimp only;rw[aj (bad _ _ _ _ _ (λi e=>ug) hA)]
 |none=>
  dsimp only;rw[ai (by simp[Rp]),zY l hw,aoy];by_cases h2:8<l.2.1.length
  .grind
  rw[ai h2,ai h2]
  cases hB:cF (λk=>(pW l k).map λe=>(k,e)) l.2.1.length with
  |some p=>
   obtain⟨k,e⟩:=p;dsimp only;rw[aj (bad _ _ _ _ _ (λi e=>zT) hB)]
  |none=>
   grind [Rp,z1]
end L
namespace L
theorem P2(op:Int):M.dN aG op=aa (ar op):=by
 apply Wp.eq;unfold M.dN ar;simp only[W_,au,av,reduceCtorEq];omega
theorem P3(op:Int):M.gB aG op=aa (decide ((1<=op/\op<=8)\/(14<=op/\op<=16)\/op=33\/op=34\/(36<=op/\op<=39))):=by
 apply Wp.eq;unfold M.gB;simp only[W_,au,av,reduceCtorEq];omega
theorem b9(k:Int):M.gj aG k=aa (decide (k=2\/k=3\/k=4)):=by
 apply Wp.eq;unfold M.gj;simp only[W_,au,av,reduceCtorEq];omega
theorem bD(k:Int):M.kt aG k=aa (decide (0<=k/\k<=5)):=by
 apply Wp.eq;unfold M.kt;simp only[W_,au,av,reduceCtorEq];omega
theorem cB(m k:Int)(s:rv):M.eH aG m k s=aa (if Eh m (k,(0:Int)) s.1 then((k,(0:Int)),(0:Int))else(((0:Int),(0:Int)),(3:Int))):=by
 apply Wp.eq;unfold M.eH;simp only[Kt,W_,au,av,reduceCtorEq]
 grind [Eh]
noncomputable def pN(n:Ty)(l:List Ty)(s:rv):Option (Ty×Int):=
 if(n.2:Int)≠0/\¬((1<=(n.1:Int)/\(n.1:Int)<=8)\/(14<=(n.1:Int)/\(n.1:Int)<=16)\/(n.1:Int)=33\/(n.1:Int)=34\/(36<=(n.1:Int)/\(n.1:Int)<=39))then aa (((0:Int),(0:Int)),2)else M.bu aG n l s
def uP(t:Ty):Prop:=1<=(t.1:Int)/\(t.1:Int)<=5->(t.2:Int)=0
theorem WS(op m:Int)(a b:Ty)(s:rv)(h2:ar op=2)(ha:uP a)(_:uP b):pN (op,m) [a,b] s=M.bg aG (op,m) [a,b] s:=by
 have hr:=zR (op,m) s
 have hR:FO op m s↔(14<=op/\op<=16->0<=m/\m<=5):=by
  unfold ar at h2;unfold FO;exact(by grind)
 have gx:op=11\/op=12\/op=13\/op=14\/op=15\/op=16\/op=17\/op=18\/op=19\/op=20\/op=21\/op=22\/op=23\/op=24\/op=27\/op=28\/op=29\/op=30:=by unfold ar at h2;omega
 obtain⟨(a1:Int),(a2:Int)⟩:=a;obtain⟨(b1:Int),(b2:Int)⟩:=b;simp only[uP]at ha
 rcases gx with rfl|rfl|rfl|rfl|rfl|rfl|rfl|rfl|rfl|rfl|rfl|rfl|rfl|rfl|rfl|rfl|rfl|rfl
 all_goals
  unfold pN M.bu M.fg M.nU M.bg M.bH M.ir M.kX;simp[aW,bf,aT,bG,b9,bD,bx,hr,hR,idx,Ke]
  grind
theorem P4(op m:Int)(a b c:Ty)(s:rv)(h3:ar op=3):pN (op,m) [a,b,c] s=M.bg aG (op,m) [a,b,c] s:=by
 have gx:op=26:=by unfold ar at h3;omega
 subst gx;have hr:=zR ((26:Int),m) s
 have hR:FO 26 m s:=by unfold FO;omega
 obtain⟨(a1:Int),(a2:Int)⟩:=a;obtain⟨(b1:Int),(b2:Int)⟩:=b;obtain⟨(c1:Int),(c2:Int)⟩:=c;unfold pN M.bu M.fg M.bg M.bH;simp[aW,bf,aT,bG,b9,bD,bx,hr,hR,idx,Ke]
 grind
theorem WT(op m:Int)(a:Ty)(s:rv)(hm:m<=9223372036854775807)(h1:ar op=1)(ha:uP a):pN (op,m) [a] s=M.bg aG (op,m) [a] s:=by
 have hr:=zR (op,m) s
 have hR:FO op m s↔(op=34->0<=m/\aoP m 8<=5):=by
  unfold ar at h1;unfold FO;exact⟨λh=>h.2.2.1,λh=>⟨λ_=>by omega,λ_=>by omega,h,λ_=>by omega⟩⟩
 have hd:0<=m->0<=aoz.wrap (aoM m 8):=λh=>Kj h hm (by omega)
 have ht:0<=m->0<=aoP m 8:=λh=>Int.tmod_nonneg _ h
 have gx:op=10\/op=25\/op=31\/op=32\/op=33\/op=34:=by unfold ar at h1;omega
 obtain⟨(a1:Int),(a2:Int)⟩:=a;simp only[uP]at ha
 rcases gx with rfl|rfl|rfl|rfl|rfl|rfl
 .unfold pN M.bu M.fg M.bg M.bH M.cN;simp[aW,bf,aT,bG,b9,bD,bx,hr,hR,idx,Ke]
  grind
 .unfold pN M.bu M.fg M.bg M.bH M.cN;simp[aW,bf,aT,bG,b9,bD,bx,hr,hR,idx,Ke]
  grind
 .unfold pN M.bu M.fg M.bg M.bH M.cN;simp[aW,bf,aT,bG,b9,bD,bx,hr,hR,idx,Ke]
  grind
 .unfold pN M.bu M.fg M.bg M.bH M.cN;simp[aW,bf,aT,bG,b9,bD,bx,hr,hR,idx,Ke]
  grind
 .have i0:idx [((a1,a2):Ty)] 0=aa (a1,a2):=rfl;unfold pN M.bu M.mU M.bg M.bH M.cN;by_cases h:0<=m/\m<(s.2.1.length:Int)
  .obtain⟨k,rfl⟩:=aoU h.1
   have hk:k<s.2.1.length:=by omega
   simp[aW,bf,aT,bG,bx,hr,hR,Ke,rZ,cu,i0,aD hk,hk,show¬((s.2.1.length:Int)<=(k:Int)) by omega,show¬((k:Int)<0) by omega];generalize s.2.1[k]=t
   by_cases c1:oY t.2.1 s.1.length<;>by_cases c2:oY t.2.2.1 s.1.length<;>by_cases c3:((a1,a2):Ty)=t.2.1<;>simp[c1,c2,c3]
  .simp[aW,bf,aT,bG,bx,hr,hR,Ke,rZ,cu,i0];by_cases U4:m<0
   .simp[U4,show¬0<=m by omega]
   .simp[U4,show 0<=m by omega,show(s.2.1.length:Int)<=m by omega,show¬m<(s.2.1.length:Int) by omega]
 .have i0:idx [((a1,a2):Ty)] 0=aa (a1,a2):=rfl;unfold pN M.bu M.mU M.bg M.bH M.cN;simp only[hr,hR];by_cases h:0<=m/\aoP m 8<=5
  .have hd:=hd h.1;have ht:=ht h.1;generalize aoz.wrap (aoM m 8)=j at*;generalize aoP m 8=q at*;by_cases h':j<(s.2.1.length:Int)
   .obtain⟨k,rfl⟩:=aoU hd
    have hk:k<s.2.1.length:=by omega
    simp[aW,bf,aT,bG,bD,bx,h,ht,Ke,rZ,cu,i0,aD hk,hk,show¬(m<0) by omega,show¬((s.2.1.length:Int)<=(k:Int)) by omega,show¬((k:Int)<0) by omega];generalize s.2.1[k]=t;obtain⟨nm,⟨(k1:Int),(k2:Int)⟩,⟨(v1:Int),(v2:Int)⟩,rs⟩:=t;generalize s.1.length=ne;by_cases R:a1=3/\k1=3/\k2=0/\v1=4/\v2=0
    .obtain⟨rfl,rfl,rfl,rfl,rfl⟩:=R;obtain rfl:a2=0:=ha ⟨by decide,by decide⟩
     have v3:oY (((3:Int),(0:Int)):Ty) ne:=by simp[oY]
     have v4:oY (((4:Int),(0:Int)):Ty) ne:=by simp[oY]
     simp[v3,v4]
    .have hR2:(((if a1=3 then if((k1,k2):Int×Int)=(3,0)then aa (decide (((v1,v2):Int×Int)=(4,0)),a1,a2)else aa (ag,a1,a2)else aa (ag,a1,a2)):Option (Bool×Int×Int)))=aa (ag,a1,a2):=by
      by_cases q1:a1=3<;>by_cases q2:k1=3<;>by_cases q3:k2=0<;>by_cases q4:v1=4<;>by_cases q5:v2=0<;>simp[q1,q2,q3,q4,q5]<;>exact absurd ⟨q1,q2,q3,q4,q5⟩ R
     rw[hR2];by_cases c1:oY ((k1,k2):Ty) ne
     .by_cases c2:oY ((v1,v2):Ty) ne
      .by_cases e:((a1,a2):Ty)=(k1,k2)
       .injection e with e1 e2
        subst e1 e2;have c1':=c1;have YA:=c2;simp only[oY]at c1' YA;dsimp only[aB,Row.den]at c1' YA;by_cases f:a1=3
        .have g:¬v1=4:=λg=>R (by omega)
         subst f
         obtain rfl:a2=0:=by omega
         simp[c1,c2,g]
        .simp[c1,c2,f]
       .simp[c1,c2,e]
      .simp[c1,c2]
     .simp[c1]
   .simp[aW,bf,aT,bG,bD,bx,h,ht,Ke,rZ,cu,i0,show¬(m<0) by omega,show(s.2.1.length:Int)<=j by omega,show¬j<0 by omega]
  .simp[aW,bf,aT,bG,bD,bx,Ke,rZ,cu,i0];by_cases U4:m<0
   .simp[U4,show¬0<=m by omega]
   .have h5:5<aoP m 8:=by omega
    simp[U4,h5,show¬aoP m 8<=5 by omega]
theorem bK(m:Int)(ls:List Ty)(s:rv):M.gX aG m ls s=if 0<=m/\m<(ls.length:Int)then(match ls[m.toNat]? with
 |some t=>if oY t s.1.length then aa (t,(0:Int))else aa (((0:Int),(0:Int)),(8:Int))
 |none=>ae)else aa (((0:Int),(0:Int)),(6:Int)):=by
 grind [M.gX,aD,rZ]
theorem P5{α:Type}(ls:List α)(m:Int):idx ls m=if 0<=m then ls[m.toNat]? else ae:=rfl
theorem zero_eq(op m:Int)(s:rv)(hm:m<=9223372036854775807)(h0:ar op=0):pN (op,m) [] s=M.bg aG (op,m) [] s:=by
 have hr:=zR (op,m) s
 have hR:FO op m s↔(1<=op/\op<=5->Eh m (op,(0:Int)) s.1)/\(op=6->0<=m):=by
  unfold ar at h0;unfold FO;exact(by grind)
 have hd:0<=m->0<=aoz.wrap (aoM m 16):=λh=>Kj h hm (by omega)
 have gx:op=1\/op=2\/op=3\/op=4\/op=5\/op=6\/op=7\/op=8\/op=9\/op=35\/op=36\/op=37\/op=38\/op=39:=by unfold ar at h0;omega
 have v:∀k:Int,1<=k->k<=5->oY ((k,(0:Int)):Ty) s.1.length:=λk h1 h2=> .inl ⟨h1,h2,rfl⟩
 rcases gx with rfl|rfl|rfl|rfl|rfl|rfl|rfl|rfl|rfl|rfl|rfl|rfl|rfl|rfl
 .unfold pN M.bu M.b8 M.cC M.bg M.bH M.cy;have v:=v 1 (by decide) (by decide)
  by_cases h:Eh m ((1:Int),(0:Int)) s.1<;>simp[aW,bf,aT,bG,b9,bD,cB,bK,bx,hr,hR,cu,h,v]
 .unfold pN M.bu M.b8 M.cC M.bg M.bH M.cy;have v:=v 2 (by decide) (by decide)
  by_cases h:Eh m ((2:Int),(0:Int)) s.1<;>simp[aW,bf,aT,bG,b9,bD,cB,bK,bx,hr,hR,cu,h,v]
 .unfold pN M.bu M.b8 M.cC M.bg M.bH M.cy;have v:=v 3 (by decide) (by decide)
  by_cases h:Eh m ((3:Int),(0:Int)) s.1<;>simp[aW,bf,aT,bG,b9,bD,cB,bK,bx,hr,hR,cu,h,v]
 .unfold pN M.bu M.b8 M.cC M.bg M.bH M.cy;have v:=v 4 (by decide) (by decide)
  by_cases h:Eh m ((4:Int),(0:Int)) s.1<;>simp[aW,bf,aT,bG,b9,bD,cB,bK,bx,hr,hR,cu,h,v]
 .unfold pN M.bu M.b8 M.cC M.bg M.bH M.cy;have v:=v 5 (by decide) (by decide)
  by_cases h:Eh m ((5:Int),(0:Int)) s.1<;>simp[aW,bf,aT,bG,b9,bD,cB,bK,bx,hr,hR,cu,h,v]
 .unfold pN M.bu M.b8 M.cC M.bg M.bH M.cy;by_cases h:m<0
  .simp[aW,bf,aT,bG,b9,bD,cB,bK,bx,hr,hR,cu,h]
  .have hd:=hd (by omega)
   have h':0<=m:=by omega
   generalize aoz.wrap (aoM m 16)=j at*;generalize aoP m 16=q at*;by_cases hj:j<(s.1.length:Int)
   .obtain⟨k,rfl⟩:=aoU hd
    have hk:k<s.1.length:=by omega
    have v6:oY (((6:Int),(k:Int)):Ty) s.1.length:= .inr (by grind);by_cases hq:q<(s.1[k].2.length:Int)
    .simp[aW,bf,aT,bG,b9,bD,cB,bK,bx,hr,hR,cu,h,h',hk,aD hk,v6,hq,show¬(s.1.length:Int)<=(k:Int) by omega,show¬(s.1[k].2.length:Int)<=q by omega]
    .simp[aW,bf,aT,bG,b9,bD,cB,bK,bx,hr,hR,cu,h,h',hk,aD hk,v6,hq,show¬(s.1.length:Int)<=(k:Int) by omega,show(s.1[k].2.length:Int)<=q by omega]
   .simp[aW,bf,aT,bG,b9,bD,cB,bK,bx,hr,hR,cu,h,h',hj,show(s.1.length:Int)<=j by omega]
 .unfold pN M.bu M.b8 M.cC M.bg M.bH M.cy;by_cases h:0<=m/\m<(s.2.2.1.length:Int)
  .obtain⟨k,rfl⟩:=aoU h.1
   have hk:k<s.2.2.1.length:=by omega
   by_cases hv:oY s.2.2.1[k] s.1.length<;>simp[aW,bf,aT,bG,b9,bD,cB,bK,bx,hr,hR,cu,hk,aD hk,hv]
  .by_cases h0:0<=m
   .have h1:¬m<(s.2.2.1.length:Int):=λg=>h ⟨h0,g⟩
    simp[aW,bf,aT,bG,b9,bD,cB,bK,bx,hr,hR,cu,h0,h1]
   .simp[aW,bf,aT,bG,b9,bD,cB,bK,bx,hr,hR,cu,h0]
 .unfold pN M.bu M.b8 M.cC M.bg M.bH M.cy;by_cases h:0<=m/\m<(s.2.2.2.1.length:Int)
  .obtain⟨k,rfl⟩:=aoU h.1
   have hk:k<s.2.2.2.1.length:=by omega
   by_cases hv:oY s.2.2.2.1[k] s.1.length<;>simp[aW,bf,aT,bG,b9,bD,cB,bK,bx,hr,hR,cu,hk,aD hk,hv]
  .by_cases h0:0<=m
   .have h1:¬m<(s.2.2.2.1.length:Int):=λg=>h ⟨h0,g⟩
    simp[aW,bf,aT,bG,b9,bD,cB,bK,bx,hr,hR,cu,h0,h1]
   .simp[aW,bf,aT,bG,b9,bD,cB,bK,bx,hr,hR,cu,h0]
 .unfold pN M.bu M.b8 M.cC M.bg M.bH M.cy;have v:=v 5 (by decide) (by decide);by_cases h:m=0
  .subst h;simp[aW,bf,aT,bG,b9,bD,cB,bK,bx,hr,hR,cu,v]
  grind [aW]
 .unfold pN M.bu M.b8 M.cC M.bg M.bH M.cy;have v:=v 2 (by decide) (by decide);by_cases h:m=0
  .subst h;cases hs:s.2.2.2.2.2<;>simp[aW,bf,aT,bG,b9,bD,cB,bK,bx,hr,hR,cu,v,hs]
  grind [aW]
 .unfold pN M.bu M.b8 M.cC M.bg M.bH M.cy;cases hs:s.2.2.2.2.2
  .simp[aW,bf,aT,bG,b9,bD,cB,bK,bx,hr,hR,cu,hs]
  by_cases h:0<=m/\m<(s.2.2.2.2.1.length:Int)
  .obtain⟨k,rfl⟩:=aoU h.1
   have hk:k<s.2.2.2.2.1.length:=by omega
   by_cases hv:oY s.2.2.2.2.1[k] s.1.length
   .simp[aW,bf,aT,bG,b9,bD,cB,bK,bx,hr,hR,cu,hk,aD hk,hv,hs]
    grind
   .simp[aW,bf,aT,bG,b9,bD,cB,bK,bx,hr,hR,cu,hk,aD hk,hv,hs]
  .by_cases h0:0<=m
   .have h1:¬m<(s.2.2.2.2.1.length:Int):=λg=>h ⟨h0,g⟩
    simp[aW,bf,aT,bG,b9,bD,cB,bK,bx,hr,hR,cu,h0,h1,hs]
   .simp[aW,bf,aT,bG,b9,bD,cB,bK,bx,hr,hR,cu,h0,hs]
 .unfold pN M.bu M.b8 M.cC M.bg M.bH M.cy;cases hs:s.2.2.2.2.2
  .simp[aW,bf,aT,bG,b9,bD,cB,bK,bx,hr,hR,cu,hs]
  by_cases h:0<=m/\m<(s.2.2.2.2.1.length:Int)
  .obtain⟨k,rfl⟩:=aoU h.1
   have hk:k<s.2.2.2.2.1.length:=by omega
   by_cases hv:oY s.2.2.2.2.1[k] s.1.length
   .simp[aW,bf,aT,bG,b9,bD,cB,bK,bx,hr,hR,cu,hk,aD hk,hv,hs]
    grind
   .simp[aW,bf,aT,bG,b9,bD,cB,bK,bx,hr,hR,cu,hk,aD hk,hv,hs]
  .by_cases h0:0<=m
   .have h1:¬m<(s.2.2.2.2.1.length:Int):=λg=>h ⟨h0,g⟩
    simp[aW,bf,aT,bG,b9,bD,cB,bK,bx,hr,hR,cu,h0,h1,hs]
   .simp[aW,bf,aT,bG,b9,bD,cB,bK,bx,hr,hR,cu,h0,hs]
 .unfold pN M.bu M.b8 M.cC M.bg M.bH M.cy;cases hs:s.2.2.2.2.2
  .simp[aW,bf,aT,bG,b9,bD,cB,bK,bx,hr,hR,cu,hs]
  by_cases h:0<=m/\m<(s.2.2.2.2.1.length:Int)
  .obtain⟨k,rfl⟩:=aoU h.1
   have hk:k<s.2.2.2.2.1.length:=by omega
   by_cases hv:oY s.2.2.2.2.1[k] s.1.length
   .simp[aW,bf,aT,bG,b9,bD,cB,bK,bx,hr,hR,cu,hk,aD hk,hv,hs]
    grind
   .simp[aW,bf,aT,bG,b9,bD,cB,bK,bx,hr,hR,cu,hk,aD hk,hv,hs]
  .by_cases h0:0<=m
   .have h1:¬m<(s.2.2.2.2.1.length:Int):=λg=>h ⟨h0,g⟩
    simp[aW,bf,aT,bG,b9,bD,cB,bK,bx,hr,hR,cu,h0,h1,hs]
   .simp[aW,bf,aT,bG,b9,bD,cB,bK,bx,hr,hR,cu,h0,hs]
 .unfold pN M.bu M.b8 M.cC M.bg M.bH M.cy;cases hs:s.2.2.2.2.2
  .simp[aW,bf,aT,bG,b9,bD,cB,bK,bx,hr,hR,cu,hs]
  by_cases h:0<=m/\m<(s.2.2.2.2.1.length:Int)
  .obtain⟨k,rfl⟩:=aoU h.1
   have hk:k<s.2.2.2.2.1.length:=by omega
   by_cases hv:oY s.2.2.2.2.1[k] s.1.length
   .simp[aW,bf,aT,bG,b9,bD,cB,bK,bx,hr,hR,cu,hk,aD hk,hv,hs];generalize s.2.2.2.2.1[k]=t at*
    grind
   .simp[aW,bf,aT,bG,b9,bD,cB,bK,bx,hr,hR,cu,hk,aD hk,hv,hs]
  .by_cases h0:0<=m
   .have h1:¬m<(s.2.2.2.2.1.length:Int):=λg=>h ⟨h0,g⟩
    simp[aW,bf,aT,bG,b9,bD,cB,bK,bx,hr,hR,cu,h0,h1,hs]
   .simp[aW,bf,aT,bG,b9,bD,cB,bK,bx,hr,hR,cu,h0,hs]
theorem aac(n:Ty)(l:List Ty)(s:rv)(hw:WF aA n)(hl:(l.length:Int)=ar n.1)(hN:∀t∈l,uP t):pN n l s=aa (Kl n l s):=by
 rw[<-IF hw hl];obtain⟨(op:Int),(m:Int)⟩:=n;have hm:m<=9223372036854775807:=hw.2.2;have h3:=kE op;dsimp only at hl
 match l,hl with
 |[],hl=>exact zero_eq op m s hm hl.symm
 |[a],hl=>grind [WT]
 |[a,b],hl=>grind [WS]
 |[a,b,c],hl=>exact P4 op m a b c s hl.symm
 |a::b::c::d::l,hl=>grind
theorem oY.WU{t:Ty}{n:Nat}(h:oY t n):uP t:=λh'=>by
 obtain⟨(k:Int),(e:Int)⟩:=t
 rcases h with h|h
 all_goals grind
def Pc{α:Type}(m:Option α)(Q:α->Prop):Prop:=∀r,m=aa r->Q r
theorem ld{α:Type}{x:α}{Q:α->Prop}:Pc (aa x) Q↔Q x:=⟨λh=>h x rfl,λh r e=>by grind⟩
theorem iu{α β:Type}{m:Option α}{k:α->Option β}{Q:β->Prop}:Pc (m.bind k) Q↔Pc m λx=>Pc (k x) Q:=by
 constructor
 .intro h x hx r hr;exact h r (by grind)
 .intro h r hr;obtain⟨x,hx,hr⟩:=ao6.1 hr;exact h x hx r hr
theorem oZ{α:Type}{c:Prop}[Decidable c]{a b:Option α}{Q:α->Prop}:Pc (if c then a else b) Q↔(c->Pc a Q)/\(¬c->Pc b Q):=by
 grind
theorem Pc.of{α:Type}{m:Option α}{Q:α->Prop}(h:∀x,Q x):Pc m Q:=λx _=>h x
theorem uP.kind(k:Int):uP ((k,(0:Int)):Ty):=λ_=>rfl
theorem P6(n:Ty)(s:rv):Pc (M.cy aG n s) λr=>r.2=af->uP r.1:=by
 have ho:∀k,M.iF aG k=aa (decide (k=2\/k=3\/k=4\/k=5)):=aT;unfold M.cy;rw[iu]
 refine Pc.of λj=>?_
 simp only[cu,ho,aoy];by_cases hv:oY j s.1.length
 .simp only[iu,oZ,ld];simp[hv.WU]
 .simp[hv,iu,oZ,ld]
theorem IL(n a:Ty)(s:rv)(ha:uP a):Pc (M.cN aG n a s) λr=>r.2=af->uP r.1:=by
 unfold M.cN;simp only[bG,bf,cu,aoy,iu,oZ,ld];refine⟨λ_ _=>ha,λ_=>⟨λ_ _=>ha,λ_=>?_⟩⟩
 have h33:Pc (idx s.2.1 n.2) λx=>(decide (oY x.2.1 s.1.length)=af->(decide (oY x.2.2.1 s.1.length)=af->px aA a x.2.1=af->uP x.2.2.1)/\(¬decide (oY x.2.2.1 s.1.length)=af->ag=af->uP x.2.2.1))/\(¬decide (oY x.2.1 s.1.length)=af->ag=af->uP x.2.2.1):=Pc.of λx=>⟨λ_=>⟨λh _=>(ak h:oY x.2.2.1 s.1.length).WU,λ_ h=>(by cases h)⟩,λ_ h=>(by cases h)⟩
 have Ku:Pc (idx s.2.1 (aoz.wrap (aoM n.2 8))) λx=>(decide ((a.1:Int)=3)=af->(px aA x.2.1 ((3:Int),(0:Int))=af->px aA x.2.2.1 ((4:Int),(0:Int))=af->uP a)/\(¬px aA x.2.1 ((3:Int),(0:Int))=af->ag=af->uP a))/\(¬decide ((a.1:Int)=3)=af->ag=af->uP a):=Pc.of (by grind)
 grind [uP.kind]
theorem IM(op:Int)(a b:Ty)(ha:uP a):Pc (M.ir aG op a b) λr=>r.2=af->uP r.1:=by
 have hk:∀k:Int,uP ((k,(0:Int)):Ty):=uP.kind;unfold M.ir M.kX;simp only[bG,bf,aT,aoy,iu,oZ,ld];simp[ha,hk]
theorem S8(n:Ty)(l:List Ty)(s:rv)(hw:WF aA n)(hl:(l.length:Int)=ar n.1)(hN:∀t∈l,uP t)(h0:(Kl n l s).2=0):uP (Kl n l s).1:=by
 have vD:∀i,Pc (idx l i) uP:=λi x hx=>by
  grind [idx]
 have key:Pc (M.bg aG n l s) λr=>r.2=0->uP r.1:=by
  unfold M.bg;rw[iu]
  refine Pc.of λj1=>?_
  rw[oZ];refine⟨λ_=>ld.2 λh=>(by cases h),λ_=>?_⟩;rw[iu]
  refine Pc.of λy3=>?_
  rw[oZ];refine⟨λ_=>ld.2 λh=>(by cases h),λ_=>?_⟩;rw[iu]
  refine Pc.of λy4=>?_
  rw[oZ];refine⟨λ_=>ld.2 λh=>(by cases h),λ_=>?_⟩;rw[iu]
  have fin:∀{m:Option (Bool×Ty)},Pc m (λj=>j.1=af->uP j.2)->Pc m λj5=>Pc (if(!j5.1)=af then aa (((0:Int),(0:Int)),(8:Int))else aa (j5.2,(0:Int))) λr:Ty×Int=>r.2=0->uP r.1:=λ{m}h j hj=>by
   have:=h j hj;refine oZ.2 ⟨λ_=>ld.2 λh=>(by cases h),λh=>ld.2 λ_=>this (by simpa using h)⟩
  refine fin ?_;rw[oZ];refine⟨λ_=>?_,λ_=>?_⟩
  .grind [iu,ld,P6]
  rw[oZ];refine⟨λ_=>?_,λ_=>?_⟩
  .rw[iu]
   refine λa ha=>iu.2 ?_
   grind [ld,IL]
  rw[oZ];refine⟨λ_=>?_,λ_=>?_⟩
  .rw[iu]
   refine λa ha=>iu.2 λb _=>iu.2 ?_
   grind [ld,IM]
  .rw[iu]
   refine λa ha=>?_
   have ha:=vD _ a ha;simp only[iu,oZ,ld]
   grind [Pc.of]
 exact key _ (IF hw hl) h0
theorem DH(st:List Nat)(m:Nat)(v:Nat):be (dR st++aoE (m+1) (0:Int)) (st.length:Int) (v:Int)=dR (st++[v])++aoE m (0:Int):=by
 grind [be]
theorem xq(st:List Nat)(m:Nat)(u v:Nat):be (dR (st++[u])++aoE m (0:Int)) (st.length:Int) (v:Int)=dR (st++[v])++aoE m (0:Int):=by
 unfold be
 simp_all
theorem vo(e:List Ty):M.gC aG e=aa (pV e):=by
 apply Wp.eq;unfold M.gC pV
 refine Wp.dec (λh=> .some ?_) λh1=>?_
 .grind
 rw[ai (show¬48<e.length by omega)]
 refine Wp.dec (λh=> .some ?_) λh2=>?_
 .grind
 rw[ai (show¬e.length=0 by omega)]
 have Be:pw (e.length:Int) (0:Int)=aa (aoE e.length 0):=by
  unfold pw;rw[aj (by omega),aoF]
 rw[Be];simp only[aoy];refine Wp.join (Wp.loop (λs:Int×List Int×List Int=>∃st sk:List Nat,s=((st.length:Int),dR st++aoE (e.length-st.length) 0,dR sk)/\st.length<=e.length/\sk.length<=12/\iN (e.drop st.length) st.length st sk=iN e 0 [] []) (λs=>(e.length-s.1).toNat) ⟨[],[],by simp,by simp,by simp,by simp⟩ (by simp only;unfold aG;omega) ?_)
 rintro _ ⟨st,sk,rfl,lm,hsk,cD⟩
 simp only
 refine Wp.dec (λhk=>?_) λhk=> .some ?_
 case refine_2=>
  have hd:e.drop st.length=[]:=List.drop_of_length_le (by omega);rw[hd]at cD;rw[<-cD]
  have h0:e.length-st.length=0:=by omega
  rw[h0];simp only[iN,List.replicate_zero,apq]
  show Wp _ _
  refine Wp.dec (λh=> .some ?_) λh=> .some ?_
  all_goals grind
 have dT:st.length<e.length:=by omega
 have hd:e.drop st.length=e[st.length]::e.drop (st.length+1):=ao2 dT
 obtain⟨m,hm⟩:∃m,e.length-st.length=m+1:=⟨e.length-st.length-1,by omega⟩
 rw[hd]at cD;rw[aD dT,hm];simp only[aoy,P2];generalize gx:(e[st.length].1:Int)=op;rw[iN]at cD;rw[gx]at cD;have DI:=kE op
 refine Wp.dec (λh=> .some ?_) λIN=>?_
 .rw[aj h]at cD
  show _=_
  rw[<-cD]
 rw[ai IN]at cD
 refine Wp.dec (λh=> .some ?_) λhlen=>?_
 .rw[aj (by simpa using h)]at cD
  show _=_
  rw[<-cD]
 have hlen:¬(sk.length:Int)<ar op:=by simpa using hlen
 rw[ai hlen]at cD
 obtain⟨a,ha⟩:∃a:Nat,ar op=a:=⟨(ar op).toNat,by omega⟩
 rw[ha]at cD IN hlen DI⊢
 have agM:a<=sk.length:=by omega
 have e6:idx (dR st++aoE (m+1) (0:Int)) (st.length:Int)=aa 0:=by
  rw[aD (by simp)];rw[ao1 (by simp)];simp
 rw[e6]
 have hw:aoz.wrap (((dR sk).length:Int)-(a:Int))=((sk.length-a:Nat):Int):=by
  rw[ao5,aE (by omega) (by omega)];omega
 have hs:rr (a:Int) st.length sk=(if a=0 then st.length else sk.getD (sk.length-a) 0):=by
  unfold rr;by_cases h0:a=0
  .subst h0;simp
  .grind
 simp only[aoy,DH,hw];refine Wp.seq (· =dR (st++[rr (a:Int) st.length sk])++aoE m (0:Int)) ?_ ?_
 .refine Wp.dec (λh=>?_) λh=>?_
  .have aJ:sk.length-a<(dR sk).length:=by simp;omega
   rw[aD aJ]
   have e9:idx (dR (st++[st.length])++aoE m (0:Int)) (st.length:Int)=aa (st.length:Int):=by
    rw[aD (by simp)];rw[aoK (by simp)];simp
   simp only[aoy,e9,apB,xq];refine .some ?_
   grind
  .refine .some ?_
   grind
 .rintro _ rfl
  generalize rr (a:Int) st.length sk=s at cD⊢
  have AT:fo (dR sk) (0:Int) ((sk.length-a:Nat):Int)=aa (dR (sk.take (sk.length-a))):=by
   rw[mG (by simp)];simp
  have e11:idx (dR (st++[s])++aoE m (0:Int)) (st.length:Int)=aa (s:Int):=by
   rw[aD (by simp)];rw[aoK (by simp)];simp
  have WV:bR (dR (sk.take (sk.length-a))) [(s:Int)]=aa (dR (sk.take (sk.length-a)++[s])):=by
   rw[bF (by simp;omega)];simp
  rw[AT];simp only[aoy,e11,WV]
  have hl:(dR (sk.take (sk.length-a)++[s])).length=sk.length-a+1:=by simp
  rw[hl];rw[aoF]at cD
  refine Wp.dec (λh=> .some ?_) λh=> .some ?_
  .rw[aj (by omega)]at cD
   show _=_
   rw[<-cD]
  .rw[ai (by omega)]at cD;rw[aL (by omega)];refine⟨⟨st++[s],sk.take (sk.length-a)++[s],?_,by simp;omega,by simp;omega,?_⟩,by grind⟩
   all_goals grind
theorem F6.all(s:rv):F6 s:=λe hw=>by
 apply Wp.eq;unfold M.p9;simp only[vo,P2,P3,W_,au,av,reduceCtorEq];refine⟨λh=>by unfold Hm;rw[aj h],λh0=>?_⟩;obtain⟨h48,dS,cM,ND,Dw⟩:=Km h0
 have hT:Hm e s=match nx s e 0 []with
  | .inl (i,c)=>(((0:Int),(0:Int)),(i:Int),c)
  | .inr ny=>(ny.headD ((0:Int),(0:Int)),0,0):=by unfold Hm;rw[ai (by omega)]<;>cases nx s e 0 []<;>rfl
 refine Wp.count (λs=>s.1) e.length (λk q=>∃st sk,q.2.length=sk.length/\iN e 0 [] []=iN (e.drop k) k st sk/\nx s e 0 []=nx s (e.drop k) k q.2/\q.2.length<=k/\(0<k->q.2≠[])/\∀t∈q.2,uP t) (by omega) rfl (by grind) λk q hk hs hJ=>?_
 obtain⟨i,ny⟩:=q;obtain⟨st,sk,hl,hr,ht,Ro,pC,agO⟩:=hJ;dsimp only at hs hl ht Ro pC agO;subst hs;simp only[W_,au,av,reduceCtorEq,aQ,aO];refine⟨λaJ=>?_,λhge=>?_⟩
 .have aJ:k<e.length:=by omega
  rw[ao2 aJ,iN]at hr;rw[ao2 aJ,nx]at ht;rw[Dw]at hr;have ha3:=kE e[k].1;split at hr
  .cases hr
  split at hr
  .cases hr
  split at hr
  .cases hr
  rename_i ha0 ha1 ha2
  have w1:aoz.wrap ((ny.length:Int)-ar e[k].1)=((ny.length-(ar e[k].1).toNat:Nat):Int):=by rw[aE (by omega) (by omega)];omega
  have hd:((ny.drop (ny.length-(ar e[k].1).toNat)).length:Int)=ar e[k].1:=by rw[List.length_drop];omega
  have hwk:=hw _ (aoG aJ)
  have hdn:∀t∈ny.drop (ny.length-(ar e[k].1).toNat),uP t:=(by grind)
  have hp:=aac e[k] _ s hwk hd hdn;have AV:=S8 e[k] _ s hwk hd hdn
  have bad:∀c:Int,c≠0->(Kl e[k] (ny.drop (ny.length-(ar e[k].1).toNat)) s).2=c->(((0:Int),(0:Int)),(k:Int),c)=Hm e s:=(by grind)
  have rest:¬((e[k].2:Int)≠0/\¬((1<=(e[k].1:Int)/\(e[k].1:Int)<=8)\/(14<=(e[k].1:Int)/\(e[k].1:Int)<=16)\/(e[k].1:Int)=33\/(e[k].1:Int)=34\/(36<=(e[k].1:Int)/\(e[k].1:Int)<=39)))->M.bu aG e[k] (ny.drop (ny.length-(ar e[k].1).toNat)) s=aa (Kl e[k] (ny.drop (ny.length-(ar e[k].1).toNat)) s):=λh=>by
   rw[<-hp];exact(ai h).symm
  have cond:((e[k].2:Int)≠0/\¬((1<=(e[k].1:Int)/\(e[k].1:Int)<=8)\/(14<=(e[k].1:Int)/\(e[k].1:Int)<=16)\/(e[k].1:Int)=33\/(e[k].1:Int)=34\/(36<=(e[k].1:Int)/\(e[k].1:Int)<=39)))->(Kl e[k] (ny.drop (ny.length-(ar e[k].1).toNat)) s).2=2:=λh=>by
   have:aa (Kl e[k] (ny.drop (ny.length-(ar e[k].1).toNat)) s)=aa (((0:Int),(0:Int)),(2:Int)):=by
    rw[<-hp];exact aj h
   grind
  have DE:¬((e[k].2:Int)≠0/\¬((1<=(e[k].1:Int)/\(e[k].1:Int)<=8)\/(14<=(e[k].1:Int)/\(e[k].1:Int)<=16)\/(e[k].1:Int)=33\/(e[k].1:Int)=34\/(36<=(e[k].1:Int)/\(e[k].1:Int)<=39)))->Wp (M.bu aG e[k] (ny.drop (ny.length-(ar e[k].1).toNat)) s) λy9=>(¬(y9.2:Int)=0->(((0:Int),(0:Int)),(k:Int),y9.2)=Hm e s)/\((y9.2:Int)=0->Wp (bR (ny.take (ny.length-(ar e[k].1).toNat)) [y9.1]) λx=>k<e.length/\aoz.wrap ((k:Int)+1)=((k+1:Nat):Int)/\∃st sk,x.length=sk.length/\iN e 0 [] []=iN (e.drop (k+1)) (k+1) st sk/\nx s e 0 []=nx s (e.drop (k+1)) (k+1) x/\x.length<=k+1/\(0<k+1->x≠[])/\∀t∈x,uP t):=λh=>by
   rw[rest h];refine .some ⟨λhc=>bad _ hc rfl,λhc=>?_⟩;rw[ai (λg=>g hc)]at ht;refine lB.2 ⟨by grind,aJ,bX (m:=e.length) (by omega) aJ,_,_,?_,Dw.trans hr,ht,?_,λ_=>by simp,λt h=>?_⟩
   .grind
   all_goals grind
  simp only[aD aJ,w1,mG (show ny.length-(ar e[k].1).toNat<=ny.length by omega),rU (l:=ny) (ny.length-(ar e[k].1).toNat) ny.length rfl rfl (by omega) (aoJ _),ao3,W_,au,av,reduceCtorEq];exact⟨λh1=>⟨λh2=>bad 2 (by decide) (cond ⟨h1,h2⟩),λh2=>DE λg=>g.2 h2⟩,λh1=>DE λg=>g.1 h1⟩
 .obtain rfl:k=e.length:=by omega
  rw[List.drop_length,nx]at ht;rw[hT,ht];have:ny≠[]:=pC (List.length_pos_iff.2 dS);obtain⟨a,l,rfl⟩:=List.exists_cons_of_ne_nil this;exact ee.2 ⟨by simp,rfl⟩
end L
namespace L
inductive IP(D:Int->Int->Prop):Int->Int->Prop
 |one {a b:Int} (h:D a b):IP D a b
 |step {a b c:Int} (h:IP D a b) (g:D b c):IP D a c
def Dp(s:kF)(a b:Int):Prop:=b∈lC s a
theorem z6{y:Int}:∀{l out:List Int},y∈l.foldl (λo z=>ins z o) out↔y∈l\/y∈out
 |[],_=>by simp
 |x::l,out=>by
  rw[List.foldl_cons,z6 (l:=l),qm,apH]
  grind
theorem ri(s:kF){out:List Int}{y:Int}:y∈stepT s out↔y∈out\/∃x∈out,Dp s x y:=by
 unfold stepT
 suffices∀(l o:List Int),y∈l.foldl (λo x=>(lC s x).foldl (λo y=>ins y o) o) o↔y∈o\/∃x∈l,Dp s x y from this _ _
 intro l
 induction l with
 |nil=>intro o;simp
 |cons x l ih=>
  intro o;rw[List.foldl_cons,ih,z6];unfold Dp
  grind
theorem tw(s:kF)(d:Int):∀n y,y∈nz s n (lC s d)->IP (Dp s) d y
 |0,y,h=> .one h
 |n+1,y,h=>by
  rcases(ri s).1 h with h|⟨x,hx,h⟩
  .exact tw s d n y h
  .exact .step (tw s d n x hx) h
theorem MN{l m:List Int}(hl:l.Pairwise (· < ·))(hm:m.Pairwise (· < ·))(h:∀y,y∈l↔y∈m):l=m:=by
 induction l generalizing m with
 |nil=>
  cases m with
  |nil=>rfl
  |cons y m=>exact absurd ((h y).2 (by simp)) (by simp)
 |cons x l ih=>
  cases m with
  |nil=>grind
  |cons y m=>
   obtain⟨h1,h2⟩:=ap7.1 hl;obtain⟨g1,g2⟩:=ap7.1 hm
   have e:x=y:=by
    rcases apH.1 ((h x).1 (by simp))with e|e
    .exact e
    .rcases apH.1 ((h y).2 (by simp))with e'|e'
     all_goals grind
   grind
theorem uh{l:List Int}:∀{m:List Int},l.Nodup->(∀y,y∈l->y∈m)->l.length<=m.length:=by
 induction l with
 |nil=>grind
 |cons x l ih=>
  intro m hn h;obtain⟨h1,h2⟩:=List.nodup_cons.1 hn;have hx:=h x (by simp)
  have:=ih (m:=m.erase x) h2 λy hy=>(List.mem_erase_of_ne (λe:y=x=>h1 (by rw[<-e];exact hy))).2 (h y (by simp[hy]))
  rw[List.length_erase_of_mem hx]at this;have:=List.length_pos_of_mem hx;simp only[apa];omega
theorem Kv{l m:List Int}(hl:l.Pairwise (· < ·))(_:m.Pairwise (· < ·))(h:∀y,y∈l->y∈m)(hx:∃y,y∈m/\y∉l):l.length<m.length:=by
 have nd:l.Nodup:=hl.imp λh=>by omega
 obtain⟨y,hy,hn⟩:=hx;have nd2:(y::l).Nodup:=List.nodup_cons.2 ⟨hn,nd⟩;have:(y::l).length<=m.length:=uh nd2 (by grind)
 grind
theorem DJ(s:kF)(d:Int):(∀n,n<=s.2.2.2.1.length->(stepT s (nz s n (lC s d))=nz s n (lC s d)\/n<=(nz s n (lC s d)).length)):=by
 have srt:∀m,uB s.2.2.2.1.length (nz s m (lC s d)):=λm=>by
  induction m with
  |zero=>exact kG s d
  |succ m ih=>exact uf s ih
 intro n
 induction n with
 |zero=>grind
 |succ n ih=>
  intro hn
  rcases ih (by omega)with h|h
  .grind [nz]
  .by_cases hx:∃y,y∈stepT s (nz s n (lC s d))/\y∉nz s n (lC s d)
   .right
    have:=Kv (srt n).1 (uf s (srt n)).1 (λy hy=>(ri s).2 (.inl hy)) hx
    grind [nz]
   .left
    have:stepT s (nz s n (lC s d))=nz s n (lC s d):=MN (uf s (srt n)).1 (srt n).1 λy=>⟨(by grind),λh=>(ri s).2 (.inl h)⟩
    grind [nz]
theorem yM(s:kF)(d y:Int):y∈Dx s d↔IP (Dp s) d y:=by
 refine⟨λh=>tw s d _ y h,λh=>?_⟩
 have closed:∀x z,x∈Dx s d->Dp s x z->z∈Dx s d:=by
  intro x z hx hz
  rcases DJ s d s.2.2.2.1.length (aoJ _)with h|h
  .have:z∈stepT s (nz s s.2.2.2.1.length (lC s d)):=(ri s).2 (.inr ⟨x,hx,hz⟩);rw[h]at this;exact this
  .have hs:=Kr s d;have X4:=(kG s x).2 z hz
   refine ap3.1 λhn=>?_
   have:=Kv (l:=Dx s d) (m:=ins z (Dx s d)) hs.1 (IG hs.1) (λy hy=>qm.2 (.inr hy)) ⟨z,qm.2 (.inl rfl),hn⟩;have:=(hs.ins X4).len
   grind [Dx]
 have start:∀z,Dp s d z->z∈Dx s d:=by
  intro z hz
  show z∈nz s s.2.2.2.1.length (lC s d)
  have:∀n,z∈nz s n (lC s d):=λn=>by
   induction n with
   |zero=>exact hz
   |succ n ih=>exact(ri s).2 (.inl ih)
  exact this _
 induction h<;>grind
theorem F8(d:Array Int)(y:Int):∀m,y∈Go.Lib.compactUpTo d m↔∃j,j<m/\d[j]! =y
 |0=>by simp[Go.Lib.compactUpTo]
 |m+1=>by
  rw[Go.Lib.compactUpTo_succ,ao7,F8 d y m];constructor
  .grind
  .rintro⟨j,hj,h⟩
   rcases Nat.lt_succ_iff_lt_or_eq.1 hj with h1|rfl
   .grind
   .by_cases hk:Go.Lib.keeps d j=af
    .grind
    .left
     unfold Go.Lib.keeps at hk
     grind
theorem F9(l:List Int)(y:Int):y∈apK l↔y∈l:=by
 unfold apK;rw[F8];constructor
 .grind
 .intro h;obtain⟨j,hj,rfl⟩:=aoS h;exact⟨j,hj,by simp[hj]⟩
theorem Cm(l:List Int)(hl:l.length<=1000000):Wp ((M.dO aG l).bind λy1=>(M.dG aG y1).bind λy2=>aa y2) λr=>r.length<=l.length/\∀y,y∈r↔y∈l:=by
 have e1:M.dO aG l=aa (uM l):=by
  unfold M.dO FF;rw[aj (by omega)]
 have hs:(uM l).length=l.length:=List.length_mergeSort ..
 have e2:M.dG aG (uM l)=aa (apK (uM l)):=by
  unfold M.dG tf;rw[aj (by omega)]
 rw[e1,aoy,e2];refine .some ⟨?_,λy=>?_⟩
 all_goals grind [zL,uM,F9,List.mem_mergeSort]
theorem tx(l:List Int)(hl:l.length<=1000000):Wp (M.iS aG l) λr=>r.length<=l.length/\∀y,y∈r↔y∈l:=Cm l hl
theorem DK(l:List Int)(hl:l.length<=1000000):Wp (M.jP aG l) λr=>r.length<=l.length/\∀y,y∈r↔y∈l:=Cm l hl
def MO(e:List Ty)(y:Int):Prop:=∃n∈e,(n.1:Int)=8/\(n.2:Int)=y
theorem IQ(p:Int->Bool)(e:List Ty)(y:Int):y∈iJ p e↔∃n∈e,p n.1=af/\(n.2:Int)=y:=by
 unfold iJ
 suffices∀(e:List Ty)(l:List Int),y∈e.foldl (λl n=>if p n.1=af then ins n.2 l else l) l↔y∈l\/∃n∈e,p n.1=af/\(n.2:Int)=y by grind
 intro e
 induction e with
 |nil=>intro l;simp
 |cons n e ih=>
  grind [qm]
theorem Ga(e:List Ty)(y:Int):y∈iJ ll e↔MO e y:=by
 grind [IQ,MO,ll]
theorem uQ(e:List Ty)(he:e.length<=100000):Wp (M.jx aG e) λr=>r.2.1.length<=e.length/\∀y,y∈r.2.1↔MO e y:=by
 unfold M.jx;rw[wp_bind]
 refine Wp.count (λs=>s.1) e.length (λk s=>(s.2.1.length<=k/\s.2.2.1.length<=k/\s.2.2.2.length<=k)/\∀y,y∈s.2.2.1↔∃j,∃h:j<e.length,j<k/\(e[j].1:Int)=8/\(e[j].2:Int)=y) (by omega) rfl ⟨by simp,λy=>by simp⟩ λk s hk hs hJ=>?_
 obtain⟨i,a,b,c⟩:=s;obtain⟨⟨l1,l2,l3⟩,hm⟩:=hJ;dsimp only at hs l1 l2 l3 hm;subst hs;simp only[W_,au,av,reduceCtorEq,aQ,aO];refine⟨λaJ=>?_,λhge=>?_⟩
 .have aJ:k<e.length:=by omega
  have nxt:∀b':List Int,(∀y,y∈b'↔y∈b\/((e[k].1:Int)=8/\(e[k].2:Int)=y))->∀y,y∈b'↔∃j,∃h:j<e.length,j<k+1/\(e[j].1:Int)=8/\(e[j].2:Int)=y:=(by grind)
  have same:(e[k].1:Int)≠8->∀y,y∈b↔∃j,∃h:j<e.length,j<k+1/\(e[j].1:Int)=8/\(e[j].2:Int)=y:=(by grind)
  simp only[aD aJ,bX (m:=e.length) (by omega) aJ,W_,au,av,reduceCtorEq]
  have app:∀(q:List Int)(v:Int)(Q:List Int->Prop),q.length<=k->Q (q++[v])->Wp (bR q [v]) Q:=λq v Q hq h=>lB.2 ⟨by simp;omega,h⟩
  grind
 .refine(tx a (by omega)).mono λ_ _=>?_
  refine(tx b (by omega)).mono λr hr=>?_
  refine(tx c (by omega)).mono λ_ _=>?_
  grind [MO,aoS]
def IR(r:jC)(n:Nat)(y:Int):Prop:=(MO r.2.2.2.2.2.1 y\/MO r.2.2.2.2.2.2.1 y)/\0<=y/\y<(n:Int)
theorem Kw(l o:List Int)(n:Nat)(hl:l.length<=100000)(ho:o.length<=100000):Wp (Loop (S:=Int×List Int) (X:=List Int) (λs4=>
 (if(decide (s4.1<(l.length:Int)))=af then
 ((idx l s4.1).bind λx6=>
 ((if(decide ((0:Int)<=x6))=af then
 some (decide (x6<(n:Int)))
 else
 some ag):Option (Bool)).bind λj7=>
 (if j7=af then
 (bR s4.2 ([x6]:List Int)).bind λl8=>
 some l8
 else
 some s4.2):Option (List Int)).bind λj5=>
 some (ao4 (aoz.wrap (s4.1+(1:Int)),j5))
 else
 some (aoV s4.2))) aG ((0:Int),o)) λr=>r.length<=o.length+l.length/\∀y,y∈r↔y∈o\/(y∈l/\0<=y/\y<(n:Int)):=by
 refine Wp.count (λs=>s.1) l.length (λk s=>s.2.length<=o.length+k/\∀y,y∈s.2↔y∈o\/((∃j,∃h:j<l.length,j<k/\l[j]=y)/\0<=y/\y<(n:Int))) (by omega) rfl ⟨by simp,λy=>by simp⟩ λk s hk hs hJ=>?_
 obtain⟨i,q⟩:=s;obtain⟨h1,hm⟩:=hJ;dsimp only at hs h1 hm;subst hs;simp only[W_,au,av,reduceCtorEq,aQ,aO];refine⟨λaJ=>?_,λhge=>?_⟩
 .have aJ:k<l.length:=by omega
  simp only[aD aJ,bX (m:=l.length) (by omega) aJ,W_,au,av,reduceCtorEq]
  grind [lB]
 .refine⟨by omega,λy=>?_⟩;rw[hm];refine or_congr Iff.rfl (and_congr_left λhy=>⟨(by grind),λh=>?_⟩)
  grind [aoS]
theorem MP(r:jC)(n:Nat)(h1:r.2.2.2.2.2.1.length<=50)(h2:r.2.2.2.2.2.2.1.length<=50):Wp (M.gD aG r (n:Int)) λl=>l.length<=100/\∀y,y∈l↔IR r n y:=by
 unfold M.gD;rw[wp_bind]
 refine(uQ _ (by omega)).mono λa ha=>?_
 rw[wp_bind]
 refine(uQ _ (by omega)).mono λb hb=>?_
 rw[wp_bind]
 refine(Kw a.2.1 [] n (by omega) (by simp)).mono λc hc=>?_
 have AN:=hc.1;simp only[List.length_nil]at AN
 refine(Kw b.2.1 c n (by omega) (by omega)).mono λq hq=>⟨by omega,λy=>?_⟩
 grind [IR]
theorem Co(n:Nat)(y:Int):∀(l out:List Int),y∈oM n out l↔y∈out\/(y∈l/\0<=y/\y<(n:Int))
 |[],out=>by show y∈out↔_;simp
 |x::l,out=>by
  show y∈oM n (if 0<=x/\x<(n:Int)then ins x out else out) l↔_
  rw[Co n y l]
  grind [qm]
theorem z7(s:kF)(d y:Int):Dp s d y↔(0<=d/\d<(s.2.2.2.1.length:Int))/\∃r∈s.2.2.2.2,(r.2.1:Int)=d/\IR r s.2.2.2.1.length y:=by
 unfold Dp lC;split
 .rename_i hd
  suffices∀(rs:List jC)(out:List Int),y∈rs.foldl (λout r=>if(r.2.1:Int)=d then oM s.2.2.2.1.length (oM s.2.2.2.1.length out (iJ ll r.2.2.2.2.2.1)) (iJ ll r.2.2.2.2.2.2.1)else out) out↔y∈out\/∃r∈rs,(r.2.1:Int)=d/\IR r s.2.2.2.1.length y by
   grind
  intro rs
  induction rs with
  |nil=>intro out;simp
  |cons r rs ih=>
   intro out;rw[List.foldl_cons,ih]
   grind [Co,Ga,IR]
 grind
def WW(s:kF)(L:List (List Int)):Prop:=L.length=s.2.2.2.1.length/\∀d,∀h:d<L.length,L[d].length<=6000/\∀y,y∈L[d]↔Dp s (d:Int) y
theorem we(s:kF)(hs:lD s):Wp (M.ku aG s) (WW s):=by
 have Rq:=hs.2.2.1;have WN:=hs.2.2.2.1;have hru:=hs.2.2.2.2.2.2;unfold M.ku;rw[wp_bind];refine zP.2 ⟨by omega,?_⟩;rw[wp_bind,aoF]
 refine Wp.count (λs=>s.1) s.2.2.2.2.length (λk q=>q.2.length=s.2.2.2.1.length/\∀d,∀h:d<q.2.length,q.2[d].length<=100*k/\∀y,y∈q.2[d]↔∃j,∃h:j<s.2.2.2.2.length,j<k/\(s.2.2.2.2[j].2.1:Int)=(d:Int)/\IR s.2.2.2.2[j] s.2.2.2.1.length y) (by omega) rfl ⟨by simp,λd h=>by simp⟩ λk q hk vh hJ=>?_
 obtain⟨i,q⟩:=q;obtain⟨hl,hm⟩:=hJ;dsimp only at vh hl hm;subst vh;simp only[W_,au,av,reduceCtorEq,aQ,aO];refine⟨λaJ=>?_,λhge=>?_⟩
 .have aJ:k<s.2.2.2.2.length:=by omega
  have hrk:=hru _ (aoG aJ);simp only[aD aJ,bX (m:=s.2.2.2.2.length) (by omega) aJ,hl,W_,au,av,reduceCtorEq]
  have Re:∀d,∀h:d<q.length,(¬(s.2.2.2.2[k].2.1:Int)=(d:Int))->q[d].length<=100*(k+1)/\∀y,y∈q[d]↔∃j,∃h:j<s.2.2.2.2.length,j<k+1/\(s.2.2.2.2[j].2.1:Int)=(d:Int)/\IR s.2.2.2.2[j] s.2.2.2.1.length y:=(by grind)
  have dfo:=MP s.2.2.2.2[k] s.2.2.2.1.length hrk.2.2.1 hrk.2.2.2
  obtain⟨(v:Int),hv⟩:∃v:Int,v=s.2.2.2.2[k].2.1:=⟨_,rfl⟩
  simp only[<-hv]at Re⊢;refine⟨λh0=>⟨λh1=>?_,λh1=>⟨aJ,λd h=>Re d (by omega) λe=>h1 (e▸Int.ofNat_lt.2 h)⟩⟩,λh0=>⟨aJ,λd h=>Re d (by omega) (by grind)⟩⟩;obtain⟨c,rfl⟩:=aoU h0
  have hc:c<q.length:=by rw[hl];exact Int.ofNat_lt.1 h1
  simp only[aD hc,W_,au,av,reduceCtorEq]
  refine dfo.mono λl9 h9=>lB.2 ⟨by grind,?_⟩
  refine⟨aJ,by rw[kg];exact hl,λd h=>?_⟩
  have hd:d<q.length:=by rw[kg]at h;exact h
  rw[yD h hd]
  by_cases e:(c:Int)=(d:Int)
  .rw[aj e]
   have e:c=d:=by omega
   subst e;refine⟨by grind,λy=>?_⟩;rw[ao7,(hm c hd).2,h9.2];constructor
   .rintro(⟨j,h1,h2,h3⟩|h3)
    .grind
    grind
   grind
  .rw[ai e];exact Re d hd e
 obtain rfl:k=s.2.2.2.2.length:=by omega
 have hm2:∀d,∀h:d<q.length,q[d].length<=6000/\∀y,y∈q[d]↔Dp s (d:Int) y:=λd h=>⟨by grind,λy=>by
  rw[(hm d h).2,z7];constructor
  .grind
  grind [aoS]⟩
 refine Wp.count (λs=>s.1) q.length (λk z=>z.2.length=q.length/\∀d,∀h:d<z.2.length,z.2[d].length<=6000/\∀y,y∈z.2[d]↔Dp s (d:Int) y) (by omega) rfl ⟨rfl,hm2⟩ λk z hk vh hJ=>?_
 obtain⟨i,z⟩:=z;obtain⟨zl,zm⟩:=hJ;dsimp only at vh zl zm;subst vh;simp only[W_,au,av,reduceCtorEq,aQ,aO];refine⟨λaJ=>?_,λhge=>⟨by grind,zm⟩⟩
 have aJ:k<q.length:=by omega
 have hkz:k<z.length:=by omega
 simp only[aD hkz,bX (m:=q.length) (by omega) aJ,W_,au,av,reduceCtorEq]
 refine(DK z[k] (by grind)).mono λr hr=>⟨aJ,by rw[kg];exact zl,λd h=>?_⟩
 have hd:d<z.length:=by rw[kg]at h;exact h
 rw[yD h hd]
 by_cases e:(k:Int)=(d:Int)
 .grind
 grind
def Sn(seen:List Bool)(y:Int):Prop:=0<=y/\seen[y.toNat]? =aa af
theorem WX{seen:List Bool}{x:Int}(hx:0<=x/\x.toNat<seen.length)(y:Int):Sn (be seen x af) y↔y=x\/Sn seen y:=by
 grind [Sn,be]
structure RI(D:Int->Int->Prop)(d0:Int)(n:Nat)(ex:Int->Prop)(seen:List Bool)(q:List Int):Prop where
 len:seen.length=n
 qo:∀x∈q,0<=x/\x<(n:Int)/\(x=d0\/Sn seen x)
 snd:∀y,Sn seen y->IP D d0 y
 clo:∀x,(x=d0\/Sn seen x)->x∈q\/ex x\/∀y,D x y->Sn seen y
 bud:q.length+seen.count ag<=n+1
theorem IS(s:kF)(L:List (List Int))(hL:WW s L)(d:Nat)(hd:d<s.2.2.2.1.length)(Rq:s.2.2.2.1.length<=14):Wp (M.ph aG L (d:Int)) λr=>r.length<=1000/\∀y,y∈r↔IP (Dp s) (d:Int) y:=by
 obtain⟨hl,hL⟩:=hL
 have hD:∀a b,Dp s a b->0<=b/\b<(s.2.2.2.1.length:Int):=λa b h=>(kG s a).2 b h
 generalize s.2.2.2.1.length=n at*;unfold M.ph;rw[wp_bind];refine zP.2 ⟨by omega,?_⟩;rw[wp_bind,aoF,hl]
 refine Wp.loop (λq=>RI (Dp s) (d:Int) n (λ_=>False) q.1 q.2) (λq=>2*q.1.count ag+q.2.length) ?_ ?_ λq hq=>?_
 .refine⟨by simp,λx hx=>?_,λy hy=>?_,λx hx=>?_,by simp;omega⟩
  .grind
  .exfalso;have:=hy.2
   grind
  .rcases hx with rfl|hx
   .grind
   .exfalso;have:=hx.2
    grind
 .grind [aG]
 obtain⟨seen,q⟩:=q;dsimp only at hq;dsimp only
 have hcn:∀l:List Bool,l.count ag<=l.length:=λl=>List.count_le_length
 refine Wp.dec (λh0=>?_) λh0=>?_
 .have Ym:0<q.length:=by omega
  obtain⟨x,t,rfl⟩:=List.exists_cons_of_ne_nil (List.length_pos_iff.1 Ym);have hx:=hq.qo x (by simp);obtain⟨c,rfl⟩:=aoU hx.1
  have hc:c<L.length:=by omega
  have i0:idx ((c:Int)::t) (0:Int)=aa (c:Int):=rfl
  have AT:fo ((c:Int)::t) (1:Int) (((c:Int)::t).length:Int)=aa t:=by
   apply Wp.eq;refine wp_cut.2 ⟨by simp;omega,?_⟩;rw[aoF,ao3];rfl
  rw[i0,aoy,AT,aoy,aD hc,aoy]
  have Ud:∀y,Dp s (c:Int) y->IP (Dp s) (d:Int) y:=λy h=>by
   rcases hx.2.2 with e|e
   .exact .one (e▸h)
   .exact .step (hq.snd _ e) h
  have aad:=(hL c hc).2;have vx:=(hL c hc).1;have hb0:=hq.bud;simp only[apa]at hb0;generalize L[c]=l at*
  refine Wp.count (λs=>s.1) l.length (λk z=>RI (Dp s) (d:Int) n (λy=>y=(c:Int)) z.2.1 z.2.2/\(∀j,j<k->∀h:j<l.length,Sn z.2.1 l[j])/\2*z.2.1.count ag+z.2.2.length<=2*seen.count ag+t.length) (by omega) rfl ⟨⟨hq.len,λx hx=>hq.qo x (by simp[hx]),hq.snd,λx hx=>?_,by grind⟩,λj hj=>by omega,aoJ _⟩ λk z hk vh hJ=>?_
  .rcases hq.clo x hx with h|h|h
   all_goals grind
  obtain⟨i,sn,qu⟩:=z;obtain⟨hR,hP,hB⟩:=hJ;dsimp only at vh hR hP hB;subst vh;simp only[W_,au,av,reduceCtorEq,aQ,aO];refine⟨λaJ=>?_,λhge=>?_⟩
  .have aJ:k<l.length:=by omega
   have hy:Dp s (c:Int) l[k]:=(aad _).1 (aoG aJ);have hyr:=hD _ _ hy;simp only[aD aJ,bX (m:=l.length) (by omega) aJ,W_,au,av,reduceCtorEq]
   obtain⟨y,hye⟩:∃y,y=l[k]:=⟨_,rfl⟩
   simp only[<-hye]at hy hyr⊢
   have NH:y.toNat<sn.length:=by rw[hR.len];omega
   refine ee.2 ⟨by rw[hR.len];omega,λhf=>ee.2 ⟨by grind,lB.2 ⟨?_,aJ,?_⟩⟩,λht=>⟨aJ,hR,ef hP λ_=>?_,hB⟩⟩
   .grind
   .have agR:=WX (seen:=sn) (x:=y) ⟨hyr.1,NH⟩
    have S7:(be sn y af).count ag+1=sn.count ag:=by
     unfold be;rw[List.count_set NH]
     have h1:0<sn.count ag:=(by grind)
     simp[hf];omega
    refine⟨⟨by unfold be;simp[hR.len],λx hx=>?_,λz hz=>?_,λx hx=>?_,?_⟩,ef (λj hj h=>?_) λh=>?_,?_⟩
    .rcases ao7.1 hx with hx|hx
     .obtain⟨a1,a2,a3⟩:=hR.qo x hx
      grind
     grind
    .rcases(agR z).1 hz with rfl|hz
     .exact Ud _ hy
     .exact hR.snd z hz
    .have go:x=(d:Int)\/Sn sn x->x∈qu++[y]\/x=(c:Int)\/∀z,Dp s x z->Sn (be sn y af) z:=λg=>by
      rcases hR.clo x g with h|h|h
      all_goals grind
     grind
    .have:=hR.bud;simp;omega
    all_goals grind
   .rw[<-hye];exact⟨hyr.1,by grind⟩
  .obtain rfl:k=l.length:=by omega
   show FL _ _ _ _ (.inl _)
   refine⟨⟨hR.len,hR.qo,hR.snd,λx hx=>?_,hR.bud⟩,?_⟩
   .rcases hR.clo x hx with h|h|h
    all_goals grind [aoS]
   grind
 .have Ym:q=[]:=by
   cases q with
   |nil=>rfl
   |cons x t=>simp at h0
  subst Ym;refine .some ?_
  show Wp _ _
  have Vi:∀y,Sn seen y↔IP (Dp s) (d:Int) y:=λy=>⟨hq.snd y,λh=>by
   have cl:∀x,(x=(d:Int)\/Sn seen x)->∀z,Dp s x z->Sn seen z:=λx hx=>by
    rcases hq.clo x hx with h|h|h
    all_goals grind
   induction h<;>grind⟩
  have iP:=hq.len
  refine Wp.count (λs=>s.1) seen.length (λk z=>z.2.length<=k/\∀y,y∈z.2↔Sn seen y/\y<(k:Int)) (by omega) rfl ⟨by simp,λy=>⟨λh=>(by cases h),λh=>(by have:=h.1.1;grind)⟩⟩ λk z hk vh hJ=>?_
  obtain⟨i,o⟩:=z;obtain⟨hJ1,hJ⟩:=hJ;dsimp only at vh hJ1 hJ;subst vh;simp only[W_,au,av,reduceCtorEq,aQ,aO];refine⟨λaJ=>?_,λhge=>⟨by omega,λy=>?_⟩⟩
  .have aJ:k<seen.length:=by omega
   have Js:Sn seen (k:Int)↔seen[k]=af:=by
    unfold Sn;rw[aoF,aoA aJ];simp
   simp only[aD aJ,bX (m:=seen.length) (by omega) aJ,W_,au,av,reduceCtorEq]
   grind [lB]
  .rw[hJ,<-Vi];refine⟨λh=>h.1,λh=>⟨h,?_⟩⟩;have:=(aoI.1 h.2).1
   grind
theorem ML.all(x:kF)(hs:lD x):ML x:=λd hd=>by
 have key:Wp (M.jy aG x (d:Int)) λtr=>tr.length<=1000/\∀y,y∈tr↔IP (Dp x) (d:Int) y:=by
  unfold M.jy;rw[ai (by simp),aoy,ai (by simp;omega),wp_bind]
  refine(we x hs).mono λL hL=>?_
  rw[wp_bind]
  exact(IS x L hL d hd hs.2.2.1).mono λr hr=> .some hr
 obtain⟨tr,e,h1,h2⟩:=key
 grind [yM]
theorem S9(l:Lw)(hw:WF cQ l)(oC:lE l):M.kR aG l=aa (sF l):=
 F7 l hw oC (λ_ _=>F6.all _) λx hx=>ML.all x (oC.2.2.2.2.2 x hx)
end L
namespace L
def mg(l:List Int)(i:Nat):Int:=l.getD i 0
def par(i:Nat):Nat:=(i-1)/2
def vp(l:List Int)(n:Nat):Prop:=∀k,0<k->k<n->mg l (par k)<=mg l k
def swp(l:List Int)(i j:Nat):List Int:=(l.set i (mg l j)).set j (mg l i)
theorem tz{l:List Int}{i:Nat}(h:i<l.length):mg l i=l[i]:=by unfold mg;simp[h]
theorem Kx(l:List Int)(i k:Nat)(v:Int)(h:i<l.length):mg (l.set i v) k=if k=i then v else mg l k:=by
 unfold mg;rw[List.getD_eq_getElem?_getD,List.getD_eq_getElem?_getD,List.getElem?_set];by_cases e:k=i
 .rw[aj e.symm,aj h,aj e];rfl
 .rw[ai (λg=>e g.symm),ai e]
theorem ui(l:List Int)(i j:Nat):(swp l i j).length=l.length:=by unfold swp;simp
theorem qG(l:List Int)(i j k:Nat)(hi:i<l.length)(hj:j<l.length):mg (swp l i j) k=if k=j then mg l i else if k=i then mg l j else mg l k:=by
 unfold swp;rw[Kx _ _ _ _ (by simpa using hj),Kx _ _ _ _ hi]
theorem z8(l:List Int)(i j:Nat)(hi:i<l.length)(hj:j<l.length):(swp l i j).Perm l:=by
 rw[List.perm_iff_count];intro x;unfold swp;rw[List.count_set (by simpa using hj),List.count_set hi,tz hi,tz hj,List.getElem_set]
 have h1:(if(l[i]==x)=af then 1 else 0)<=l.count x:=by
  split
  .rename_i h;exact List.count_pos_iff.2 (by rw[beq_iff_eq]at h;rw[<-h];exact aoG hi)
  .exact aoR _
 by_cases e:i=j
 .subst e;simp only[if_true];omega
 .rw[ai e];omega
theorem swap_eq(l:List Int)(i j:Nat)(hi:i<l.length)(hj:j<l.length):M.dx aG (i:Int) (j:Int) l=aa (swp l i j):=by
 unfold M.dx;simp only[aD hi,aD hj,aoy];rw[aD (show j<(be l (i:Int) l[j]).length by unfold be;simpa using hj),aoy];unfold swp be;rw[tz hi,tz hj,aoF,aoF]
theorem DL(l:List Int)(i j:Nat)(hi:i<l.length)(hj:j<l.length):M.eN aG l (i:Int) (j:Int)=aa (decide (mg l i<mg l j)):=by
 unfold M.eN;rw[aD hi,aD hj,tz hi,tz hj];rfl
def WY(l:List Int)(j:Nat):Prop:=(∀k,0<k->k<l.length->k≠j->mg l (par k)<=mg l k)/\(0<j->∀k,0<k->k<l.length->par k=j->mg l (par j)<=mg l k)
theorem n9{k:Nat}(h:0<k):par k<k:=by unfold par;omega
theorem WY.done{l:List Int}{i:Nat}(h:WY l i)(hi:i=0\/mg l (par i)<=mg l i):vp l l.length:=λk h0 hk=>by
 by_cases e:k=i
 .subst e
  rcases hi with hi|hi
  .omega
  .exact hi
 .exact h.1 k h0 hk e
theorem WY.step{l:List Int}{i:Nat}(h:WY l i)(h0:0<i)(hi:i<l.length)(aJ:mg l i<mg l (par i)):WY (swp l (par i) i) (par i):=by
 have hp:=n9 h0
 have pU:par i<l.length:=by omega
 obtain⟨h1,h2⟩:=h;have h2:=h2 h0;refine⟨λk k0 hk dS=>?_,λp0 k k0 hk xc=>?_⟩
 .rw[ui]at hk;rw[qG _ _ _ _ pU hi,qG _ _ _ _ pU hi];have xc:=n9 k0;by_cases e:k=i
  .subst e;rw[ai (by omega),aj rfl,aj rfl];omega
  .rw[ai e,ai dS];by_cases e2:par k=i
   .rw[aj e2];exact h2 k k0 hk e2
   .rw[ai e2];by_cases e3:par k=par i
    .rw[aj e3];have:=h1 k k0 hk e;rw[e3]at this;omega
    .rw[ai e3];exact h1 k k0 hk e
 .rw[ui]at hk;rw[qG _ _ _ _ pU hi,qG _ _ _ _ pU hi];have Ui:=n9 p0;have hup:=h1 (par i) p0 pU (by omega);rw[ai (by omega),ai (by omega)];by_cases e:k=i
  .subst e;rw[aj rfl];exact hup
  .have Ta:k≠par i:=λe2=>by
    rw[e2]at xc;omega
   rw[ai e,ai Ta];have:=h1 k k0 hk e;rw[xc]at this;omega
theorem WZ{i:Nat}(h0:0<i)(hi:i<=1000000):aoz.wrap (aoM (aoz.wrap ((i:Int)-(1:Int))) (2:Int))=((par i:Nat):Int):=by
 rw[aE (n:=(i:Int)-1) (by omega) (by omega),aoN (by omega)];unfold par;rw[aE (by omega) (by omega)];omega
theorem aae(l:List Int)(j:Nat)(hj:j<l.length)(hl:l.length<=1000000)(hU:WY l j):Wp (M.ij aG (j:Int) l) λr=>r.Perm l/\vp r r.length:=by
 unfold M.ij
 refine Wp.loop (λs=>∃i:Nat,s.1=(i:Int)/\i<s.2.length/\s.2.Perm l/\WY s.2 i) (λs=>s.1.toNat) ⟨j,rfl,hj, .refl l,hU⟩ (by show(j:Int).toNat<aG;unfold aG;omega) λs hs=>?_
 obtain⟨c,q⟩:=s;obtain⟨i,hc,hi,hp,hu⟩:=hs;dsimp only at hc hi hp hu;subst hc;have hlen:=hp.length_eq;dsimp only;by_cases h0:i=0
 .subst h0
  have e:aoz.wrap (aoM (aoz.wrap (((0:Nat):Int)-(1:Int))) (2:Int))=((0:Nat):Int):=by decide
  rw[e,aj (ao rfl),aoy,aj rfl];exact .some ⟨hp,hu.done (.inl rfl)⟩
 .have pU:=n9 (show 0<i by omega);rw[WZ (by omega) (by omega),ai (by rw[ax];omega),DL _ _ _ hi (by omega),aoy,aoy];by_cases aJ:mg q i<mg q (par i)
  .rw[ai (by simpa using aJ),swap_eq _ _ _ (by omega) hi,aoy];refine .some ⟨⟨par i,rfl,by show par i<(swp q (par i) i).length;rw[ui];omega,(z8 q _ _ (by omega) hi).trans hp,hu.step (by omega) hi aJ⟩,?_⟩
   show((par i:Nat):Int).toNat<((i:Nat):Int).toNat
   omega
  .rw[aj (by simpa using aJ)];exact .some ⟨hp,hu.done (.inr (by omega))⟩
def UL(l:List Int)(i n:Nat):Prop:=(∀k,0<k->k<n->par k≠i->mg l (par k)<=mg l k)/\(0<i->∀k,0<k->k<n->par k=i->mg l (par i)<=mg l k)
theorem UL.done{l:List Int}{i n:Nat}(h:UL l i n)(hi:∀k,0<k->k<n->par k=i->mg l i<=mg l k):vp l n:=λk h0 hk=>by
 by_cases e:par k=i
 .rw[e];exact hi k h0 hk e
 .exact h.1 k h0 hk e
theorem UL.step{l:List Int}{i j n:Nat}(h:UL l i n)(hj0:0<j)(XL:j<n)(hn:n<=l.length)(hpj:par j=i)(aJ:mg l j<mg l i)(Bn:∀k,0<k->k<n->par k=i->mg l j<=mg l k):UL (swp l i j) j n:=by
 have hp:=n9 hj0
 have yp:i<l.length:=by omega
 have wY:j<l.length:=by omega
 obtain⟨h1,h2⟩:=h;refine⟨λk k0 hk dS=>?_,λ_ k k0 hk xc=>?_⟩
 .rw[qG _ _ _ _ yp wY,qG _ _ _ _ yp wY,ai dS];by_cases e:k=j
  .subst e;rw[aj hpj,aj rfl];omega
  .rw[ai e];by_cases e2:k=i
   .subst e2;have xc:=n9 k0;rw[ai (by omega),aj rfl];exact h2 k0 j hj0 XL hpj
   .rw[ai e2];by_cases e3:par k=i
    .rw[aj e3];exact Bn k k0 hk e3
    .rw[ai e3];exact h1 k k0 hk e3
 .have Ta:=n9 k0;rw[qG _ _ _ _ yp wY,qG _ _ _ _ yp wY,hpj,ai (by omega),aj rfl,ai (by omega),ai (by omega)];have:=h1 k k0 hk (by omega);rw[xc]at this;exact this
theorem Tb(l:List Int)(n:Nat)(hn:n<=l.length)(hl:l.length<=1000000)(hD:UL l 0 n):Wp (M.fX aG (0:Int) (n:Int) l) λr=>r.2.Perm l/\vp r.2 n/\∀k,n<=k->mg r.2 k=mg l k:=by
 unfold M.fX;rw[wp_bind]
 refine(?_:Wp _ λr=>r.2.Perm l/\vp r.2 n/\∀k,n<=k->mg r.2 k=mg l k).mono λr hr=> .some hr
 refine Wp.loop (λs=>∃i:Nat,s.1=(i:Int)/\i<=n/\s.2.Perm l/\UL s.2 i n/\∀k,n<=k->mg s.2 k=mg l k) (λs=>n-s.1.toNat) ⟨0,rfl,aoR _, .refl l,hD,λ_ _=>rfl⟩ (by show n-_<aG;unfold aG;omega) λs hs=>?_
 obtain⟨c,q⟩:=s;obtain⟨i,hc,hi,hp,hu,hk⟩:=hs;dsimp only at hc hi hp hu hk;subst hc;have hlen:=hp.length_eq;dsimp only
 have e1:aoz.wrap (aoz.wrap ((2:Int)*(i:Int))+(1:Int))=((2*i+1:Nat):Int):=by
  rw[aE (n:=(2:Int)*(i:Int)) (by omega) (by omega),aE (by omega) (by omega)];omega
 have e2:aoz.wrap (((2*i+1:Nat):Int)+(1:Int))=((2*i+2:Nat):Int):=by
  rw[aE (by omega) (by omega)];omega
 rw[e1,e2];by_cases h1:n<=2*i+1
 .rw[aj (by rw[ax];omega),aoy,aj rfl];exact .some ⟨hp,hu.done λk k0 A8 xc=>by unfold par at xc;omega,hk⟩
 rw[ai (by rw[ax];omega),aoy,ai (by rw[ax];omega)]
 have key:∀j:Nat,0<j->j<n->par j=i->(∀k,0<k->k<n->par k=i->mg q j<=mg q k)->Wp ((M.eN aG q (j:Int) (i:Int)).bind λy7=>
  (if(!y7)=af then
  some (aoV ((i:Int),q))
  else
  (M.dx aG (i:Int) (j:Int) q).bind λy8=>
  some (ao4 ((j:Int),y8)))) (FL (λs:Int×List Int=>∃i:Nat,s.1=(i:Int)/\i<=n/\s.2.Perm l/\UL s.2 i n/\∀k,n<=k->mg s.2 k=mg l k) (λs=>n-s.1.toNat) ((i:Int),q) λr:Int×List Int=>r.2.Perm l/\vp r.2 n/\∀k,n<=k->mg r.2 k=mg l k):=λj j0 hj hpj Bn=>by
  have:=n9 j0;rw[DL _ _ _ (by omega) (by omega),aoy];by_cases aJ:mg q j<mg q i
  .rw[ai (by simpa using aJ),swap_eq _ _ _ (by omega) (by omega),aoy];refine .some ⟨⟨j,rfl,by omega,(z8 q _ _ (by omega) (by omega)).trans hp,hu.step j0 hj (by omega) hpj aJ Bn,λk A8=>?_⟩,?_⟩
   .show mg (swp q i j) k=mg l k
    rw[qG _ _ _ _ (by omega) (by omega),ai (by omega),ai (by omega)];exact hk k A8
   .show n-((j:Nat):Int).toNat<n-((i:Nat):Int).toNat
    omega
  .rw[aj (by simpa using aJ)];exact .some ⟨hp,hu.done λk k0 A8 xc=>by have:=Bn k k0 A8 xc;omega,hk⟩
 have kids:∀k,0<k->k<n->par k=i->k=2*i+1\/k=2*i+2:=λk k0 _ xc=>by unfold par at xc;omega
 by_cases h2:2*i+2<n
 .rw[aj (by rw[ax];omega),DL _ _ _ (by omega) (by omega),aoy,aoy];by_cases aJ:mg q (2*i+2)<mg q (2*i+1)
  .rw[aj (by simpa using aJ),aoy]
   exact key _ (by omega) h2 (by unfold par;omega) λk k0 A8 xc=>by rcases kids k k0 A8 xc with rfl|rfl<;>omega
  .rw[ai (by simpa using aJ),aoy]
   exact key _ (by omega) (by omega) (by unfold par;omega) λk k0 A8 xc=>by rcases kids k k0 A8 xc with rfl|rfl<;>omega
 .rw[ai (by rw[ax];omega),aoy,ai (by decide),aoy]
  exact key _ (by omega) (by omega) (by unfold par;omega) λk k0 A8 xc=>by
   rcases kids k k0 A8 xc with rfl|rfl
   .exact apR _
   .omega
theorem Ky(x:Int)(l:List Int)(hl:l.length<=999999)(hH:vp l l.length):Wp (M.dH aG x l) λr=>r.Perm (x::l)/\vp r r.length:=by
 unfold M.dH M.kz M.fq;rw[bF (by simp;omega)];simp only[aoy]
 have e:aoz.wrap (((l++[x]).length:Int)-(1:Int))=((l.length:Nat):Int):=by
  rw[aE (by simp) (by simp;omega)];simp
 rw[e,wp_bind]
 have Re:∀k,k<l.length->mg (l++[x]) k=mg l k:=λk hk=>by unfold mg;simp[apc hk]
 refine(aae (l++[x]) l.length (by simp) (by simp;omega) ⟨λk k0 hk dS=>?_,λh0 k k0 hk xc=>?_⟩).mono λr hr=> .some ⟨hr.1.trans (List.perm_append_singleton x l),hr.2⟩
 .have dT:k<l.length:=by simp at hk;omega
  have:=n9 k0;rw[Re _ dT,Re _ (by omega)];exact hH k k0 dT
 .have:=n9 k0;simp at hk;omega
theorem vp.min{l:List Int}{n:Nat}(h:vp l n):∀k,k<n->mg l 0<=mg l k:=λk=>by
 induction k using Nat.strongRecOn with
 |_ k ih=>
  intro hk;by_cases h0:k=0
  .subst h0;exact apR _
  .have hp:=n9 (show 0<k by omega);have:=ih (par k) hp (by omega);have:=h k (by omega) hk;omega
theorem W0(l:List Int)(h0:0<l.length)(hl:l.length<=1000000)(hH:vp l l.length):Wp (M.gO aG l) λr=>l.Perm (r.1::r.2)/\vp r.2 r.2.length/\∀y∈r.2,r.1<=y:=by
 unfold M.gO M.fq
 obtain⟨n,hn⟩:∃n,l.length=n+1:=⟨l.length-1,by omega⟩
 have e:aoz.wrap ((l.length:Int)-(1:Int))=((n:Nat):Int):=by rw[aE (by omega) (by omega)];omega
 rw[aoy,e];have sw:=swap_eq l 0 n (by omega) (by omega);rw[show((0:Nat):Int)=(0:Int)from rfl]at sw;rw[sw,aoy,wp_bind]
 have hs:=λk=>qG l 0 n k (by omega) (by omega)
 refine(Tb (swp l 0 n) n (by rw[ui];omega) (by rw[ui];omega) ⟨λk k0 hk dS=>?_,λh=>by omega⟩).mono λr hr=>?_
 .have:=n9 k0;rw[hs,hs,ai (by omega),ai dS,ai (by omega),ai (by omega)];exact hH k k0 (by omega)
 .obtain⟨b,q⟩:=r;obtain⟨h1,h2,h3⟩:=hr;dsimp only at h1 h2 h3⊢
  have hq:q.length=n+1:=by rw[h1.length_eq,ui];exact hn
  have e2:aoz.wrap ((q.length:Int)-(1:Int))=((n:Nat):Int):=by rw[aE (by omega) (by omega)];omega
  have hqn:q[n]'(by omega)=mg l 0:=by
   rw[<-tz (l:=q) (by omega),h3 n (aoJ _),hs];by_cases e0:n=0
   .rw[aj rfl]
   .rw[aj rfl]
  unfold M.nV;rw[e2,aD (by omega),aoy,mG (by omega),aoy,aoy]
  have UM:l.Perm (q[n]'(by omega)::q.take n):=by
   have e3:q=q.take n++[q[n]'(by omega)]:=by
    rw[List.take_append_getElem (by omega),<-hq,ao3]
   refine((z8 l 0 n (by omega) (by omega)).symm.trans h1.symm).trans ?_;have:(q.take n++[q[n]'(by omega)]).Perm (q[n]'(by omega)::q.take n):=List.perm_append_singleton _ _;rw[<-e3]at this;exact this
  refine .some ⟨UM,λk k0 hk=>?_,λy hy=>?_⟩
  .have ht:(q.take n).length=n:=by rw[ao0];omega
   have hk:k<n:=by rw[<-ht];exact hk
   have xc:=n9 k0
   have tk:∀i,i<n->mg (q.take n) i=mg q i:=λi hi=>by unfold mg;simp[apV,hi]
   show mg (q.take n) (par k)<=mg (q.take n) k
   rw[tk _ hk,tk _ (by omega)];exact h2 k k0 hk
  .show q[n]'(by omega)<=y
   rw[hqn];have:y∈l:=UM.symm.subset (List.mem_cons_of_mem _ hy);obtain⟨k,hk,rfl⟩:=aoS this;rw[<-tz hk];exact hH.min k hk
end L
namespace L
def MQ(s:kF)(p:List Int)(d:Int):Prop:=(0<=d/\d<(s.2.2.2.1.length:Int))/\d∉p/\∀y,Dp s d y->y∈p
def uD(s:kF)(o:List Int):Prop:=∀k,∀h:k<o.length,MQ s (o.take k) o[k]/\∀d,MQ s (o.take k) d->o[k]<=d
theorem uD.snoc{s:kF}{o:List Int}{x:Int}(h:uD s o)(hx:MQ s o x)(hm:∀d,MQ s o d->x<=d):uD s (o++[x]):=λk hk=>by
 by_cases e:k<o.length
 .have:=h k e;rw[aoK e,List.take_append_of_le_length (by omega)];exact this
 .have e:k=o.length:=by simp at hk;omega
  subst e;rw[ao1 (aoJ _),List.take_left']
  .simpa using⟨hx,hm⟩
  .rfl
theorem uD.mem{s:kF}{o:List Int}(h:uD s o){x:Int}(hx:x∈o):(0<=x/\x<(s.2.2.2.1.length:Int))/\∀y,Dp s x y->y∈o:=by
 obtain⟨k,hk,rfl⟩:=aoS hx;obtain⟨h1,_⟩:=h k hk;exact⟨h1.1,λy hy=>List.mem_of_mem_take (h1.2.2 y hy)⟩
theorem uD.nodup{s:kF}{o:List Int}(h:uD s o):o.Nodup:=by
 rw[List.nodup_iff_pairwise_ne,List.pairwise_iff_getElem];intro i j hi hj Yp e;refine(h j hj).1.2.1 ?_;rw[<-e];rw[apN];exact⟨i,by omega,rfl⟩
theorem wg{n:Nat}{l:List Int}(hn:l.Nodup)(h:∀x∈l,0<=x/\x<(n:Int)):l.length<=n:=by
 have:=uh (m:=(ap1 n).map λk:Nat=>(k:Int)) hn λy hy=>by
  obtain⟨a,b⟩:=h y hy;exact apY.2 ⟨y.toNat,List.mem_range.2 (by omega),by omega⟩
 simpa using this
theorem uD.len{s:kF}{o:List Int}(h:uD s o):o.length<=s.2.2.2.1.length:=wg h.nodup λx hx=>(h.mem hx).1
theorem UN{α:Type}{l:List α}{i:Int}(h:0<=i):idx l i=l[i.toNat]? :=by unfold idx;rw[aj h]
theorem Gb{α:Type}(l:List α)(i:Int)(v:α)(u:Nat)(hi:i.toNat<l.length):(be l i v)[u]? =if u=i.toNat then aa v else l[u]? :=by
 unfold be;rw[List.getElem?_set];by_cases e:u=i.toNat
 .rw[aj e.symm,aj hi,aj e]
 .rw[ai (λg=>e g.symm),ai e]
structure P7(L:List (List Int))(n k:Nat)(U:List (List Int))(W H:List Int):Prop where
 ul:U.length=n
 wl:W.length=n
 u:∀e,∀h:e<U.length,U[e].length<=6000*k/\∀u:Int,U[e].count u=if 0<=u/\u<(k:Int)then(L.getD u.toNat []).count (e:Int)else 0
 w:∀u,u<k->W[u]? =aa ((L.getD u []).length:Int)
 hp:vp H H.length
 nd:H.Nodup
 h:∀u:Int,u∈H↔(0<=u/\u<(k:Int))/\L.getD u.toNat []=[]
theorem P7.hl{L:List (List Int)}{n k:Nat}{U:List (List Int)}{W H:List Int}(h:P7 L n k U W H):H.length<=k:=wg h.nd λx hx=>((h.h x).1 hx).1
structure agS(s:kF)(L:List (List Int))(n:Nat)(W O H:List Int):Prop where
 wl:W.length=n
 o:uD s O
 w:∀u,u<n->W[u]? =aa (((L.getD u []).countP λy=>decide (y∉O):Nat):Int)
 hp:vp H H.length
 nd:H.Nodup
 h:∀u:Int,u∈H↔MQ s O u
structure InI(s:kF)(L:List (List Int))(n:Nat)(O l:List Int)(W H:List Int):Prop where
 wl:W.length=n
 w:∀u,u<n->W[u]? =aa (((L.getD u []).countP (λy=>decide (y∉O))+l.count (u:Int):Nat):Int)
 hp:vp H H.length
 nd:H.Nodup
 h:∀u:Int,u∈H↔(0<=u/\u<(n:Int))/\u∉O/\W[u.toNat]? =aa 0
theorem InI.hl{s:kF}{L:List (List Int)}{n:Nat}{O l W H:List Int}(h:InI s L n O l W H):H.length<=n:=wg h.nd λx hx=>((h.h x).1 hx).1
theorem getD_some{L:List (List Int)}{u:Nat}(h:u<L.length):L.getD u []=L[u]:=by simp[h]
theorem Gc(l O:List Int)(x:Int)(hx:x∉O):l.countP (λy=>decide (y∉O))=l.countP (λy=>decide (y∉O++[x]))+l.count x:=by
 induction l with
 |nil=>rfl
 |cons y l ih=>
  rw[List.countP_cons,List.countP_cons,List.count_cons,ih];by_cases e:y=x
  .subst e;simp[hx];omega
  .by_cases h:y∈O
   .simp[h,e]
   .simp[h,e];omega
theorem P8(l:List Int)(d n:Nat)(U:List (List Int))(hU:U.length=n)(hl:l.length<=6000)(hr:∀y∈l,0<=y/\y<(n:Int))(hb:∀e,∀h:e<U.length,U[e].length<=100000):Wp (Loop (S:=Int×List (List Int)) (X:=List (List Int)) (λpA=>
 (if(decide (pA.1<(l.length:Int)))=af then
 (idx l pA.1).bind λqE=>
 (idx pA.2 qE).bind λub=>
 (idx pA.2 qE).bind λzM=>
 (bR zM ([(d:Int)]:List Int)).bind λl17=>
 (idx pA.2 qE).bind λuN=>
 (if decide (qE=qE)=af then
 (idx pA.2 qE).bind λDt=>
 some (ao4 (aoz.wrap (pA.1+(1:Int)),vK pA.2 qE (λm20=>l17)))
 else ae)
 else
 some (aoV pA.2))) aG ((0:Int),U)) λV=>V.length=n/\∀e,∀h:e<V.length,∀h':e<U.length,V[e].length<=U[e].length+l.length/\∀u:Int,V[e].count u=U[e].count u+if u=(d:Int)then l.count (e:Int)else 0:=by
 refine Wp.count (λs=>s.1) l.length (λk s=>s.2.length=n/\∀e,∀h:e<s.2.length,∀h':e<U.length,s.2[e].length<=U[e].length+k/\∀u:Int,s.2[e].count u=U[e].count u+if u=(d:Int)then(l.take k).count (e:Int)else 0) (by omega) rfl ⟨hU,λe h h'=>⟨aoJ _,λu=>by simp⟩⟩ λk s hk hs hJ=>?_
 obtain⟨i,V⟩:=s;obtain⟨hV,hJ⟩:=hJ;dsimp only at hs hV hJ;subst hs;simp only[W_,au,av,reduceCtorEq,aQ,aO];refine⟨λaJ=>?_,λhge=>?_⟩
 .have aJ:k<l.length:=by omega
  obtain⟨a0,a1⟩:=hr _ (aoG aJ);obtain⟨x,hx⟩:=aoU a0
  have hxV:x<V.length:=by omega
  simp only[aD aJ,hx,aD hxV,bX (m:=l.length) (by omega) aJ,W_,au,av,reduceCtorEq];have hbx:=(hJ x hxV (by omega)).1;have:=hb x (by omega);refine lB.2 ⟨by simp;omega,trivial |> λ_=>⟨aJ,by rw[kg];exact hV,λe h h'=>?_⟩⟩
  have he:e<V.length:=by rw[kg]at h;exact h
  have XC:l.take (k+1)=l.take k++[l[k]]:=(List.take_append_getElem aJ).symm;rw[yD h he,XC,hx]
  by_cases e0:(x:Int)=(e:Int)
  .rw[aj e0]
   have e0:x=e:=by omega
   subst e0;refine⟨by rw[aoH];simp;omega,λu=>?_⟩;rw[List.count_append,(hJ x he (by omega)).2,List.count_append]
   by_cases eu:u=(d:Int)
   .rw[aj eu,aj eu,eu];simp;omega
   .rw[ai eu,ai eu];have:List.count u [(d:Int)]=0:=List.count_eq_zero.2 (by simpa using eu);omega
  .rw[ai e0];refine⟨by have:=(hJ e he h').1;omega,λu=>?_⟩;rw[(hJ e he h').2,List.count_append];have:List.count (e:Int) [(x:Int)]=0:=List.count_eq_zero.2 (by simp;omega);rw[this];rfl
 .obtain rfl:k=l.length:=by omega
  rw[ao3]at hJ;exact⟨hV,hJ⟩
theorem Tc(s:kF)(L:List (List Int))(n:Nat)(O l W H:List Int)(x:Int)(hn:n<=14)(vx:l.length<=100000)(hL:∀u,(L.getD u []).length<=6000)(hI:InI s L n O l W H)
 (hl:∀u∈l,(0<=u/\u<(n:Int))/\u∉O)(Q:((List Int×List Int×List Int)⊕(List Int×List Int))->Prop)(hQ:∀W' H',InI s L n O [] W' H'->Q (.inl (W',O,H'))):Wp (Loop (S:=Int×(List Int)×List Int) (X:=((List Int)×(List Int)×List Int)⊕((List Int)×List Int)) (λyo=>
   (if(decide (yo.1<(l.length:Int)))=af then
   ((idx l yo.1).bind λFJ=>
   (idx yo.2.1 FJ).bind λWb=>
   (idx yo.2.1 FJ).bind λx32=>
   (idx (be yo.2.1 FJ (aoz.wrap (Wb-(1:Int)))) FJ).bind λRl=>
   (if(decide (Rl=(0:Int)))=af then
   (M.dH aG FJ yo.2.2).bind λy34=>
   some (be yo.2.1 FJ (aoz.wrap (Wb-(1:Int))),y34)
   else
   some (be yo.2.1 FJ (aoz.wrap (Wb-(1:Int))),yo.2.2)):Option ((List Int)×List Int)).bind λZq=>
   some (ao4 (aoz.wrap (yo.1+(1:Int)),Zq.1,Zq.2))
   else
   some (aoV (ao4 (yo.2.1,O,yo.2.2))))) aG ((0:Int),W,H)) Q:=by
 refine Wp.count (λs=>s.1) l.length (λk z=>InI s L n O (l.drop k) z.2.1 z.2.2) (by omega) rfl hI λk z hk hs hJ=>?_
 obtain⟨i,V,G⟩:=z;dsimp only at hs hJ;subst hs
 refine Wp.dec (λaJ=>?_) λhge=>?_
 .have aJ:k<l.length:=by dsimp only at aJ;omega
  obtain⟨⟨a0,a1⟩,a2⟩:=hl _ (aoG aJ);have mI:l.drop k=l[k]::l.drop (k+1):=ao2 aJ;obtain⟨u,hu⟩:=aoU a0;rw[hu]at a1 a2 mI
  have hun:u<n:=by omega
  have hVl:=hJ.wl;have hw:=hJ.w u hun;rw[mI,List.count_cons_self]at hw
  obtain⟨a,ha⟩:∃a,a=(L.getD u []).countP (λy=>decide (y∉O)):=⟨_,rfl⟩
  obtain⟨b,hb⟩:∃b,b=(l.drop (k+1)).count (u:Int):=⟨_,rfl⟩
  have LQ:a<=6000:=by rw[ha];exact Nat.le_trans List.countP_le_length (hL u)
  have CK:b<=100000:=by rw[hb];exact Nat.le_trans List.count_le_length (by rw[List.length_drop];omega)
  rw[<-ha,<-hb]at hw
  have iw:idx V (u:Int)=aa ((a+(b+1):Nat):Int):=by rw[UN (by omega)];exact hw
  have ew:aoz.wrap (((a+(b+1):Nat):Int)-(1:Int))=((a+b:Nat):Int):=by rw[aE (by omega) (by omega)];omega
  have iv:idx (be V (u:Int) ((a+b:Nat):Int)) (u:Int)=aa ((a+b:Nat):Int):=by
   rw[UN (by omega),Gb _ _ _ _ (by omega),aj rfl]
  dsimp only;rw[aD aJ,hu,aoy,iw,aoy,aoy,ew,iv,aoy]
  have w':∀v,v<n->(be V (u:Int) ((a+b:Nat):Int))[v]? =aa (((L.getD v []).countP (λy=>decide (y∉O))+(l.drop (k+1)).count (v:Int):Nat):Int):=λv hv=>by
   rw[Gb _ _ _ _ (by omega)];by_cases e:v=u
   .subst e;rw[aj (by omega),<-ha,<-hb]
   .rw[ai (by omega),hJ.w v hv,mI,List.count_cons_of_ne (by omega)]
  have nH:(u:Int)∉G:=λg=>by
   have:=((hJ.h _).1 g).2.2;rw[aoF,hw]at this;cases this
  have hGl:=hJ.hl;by_cases e0:a+b=0
  .rw[aj (by rw[ax];omega),wp_bind,wp_bind]
   refine(Ky _ _ (by omega) hJ.hp).mono λr hr=> .some (.some ⟨aJ,?_,?_⟩)
   .exact bX (m:=l.length) (by omega) aJ
   .refine⟨by show(be V _ _).length=n;unfold be;rw[ap6];exact hVl,w',hr.2,hr.1.nodup_iff.2 (List.nodup_cons.2 ⟨nH,hJ.nd⟩),λv=>?_⟩
    show v∈r↔_/\_/\(be V _ _)[v.toNat]? =aa 0
    rw[hr.1.mem_iff,apH,Gb _ _ _ _ (by omega),hJ.h v]
    by_cases e:v=(u:Int)
    .subst e;rw[aj rfl];exact⟨λ_=>⟨⟨by omega,a1⟩,a2,by rw[e0];rfl⟩,λ_=> .inl rfl⟩
    .constructor
     .rintro(h|⟨h1,h2,h3⟩)
      .exact absurd h e
      .rw[ai (by omega)];exact⟨h1,h2,h3⟩
     .rintro⟨h1,h2,h3⟩
      rw[ai (by omega)]at h3;exact .inr ⟨h1,h2,h3⟩
  .rw[ai (by rw[ax];omega),aoy];refine .some ⟨aJ,?_,?_⟩
   .exact bX (m:=l.length) (by omega) aJ
   .refine⟨by show(be V _ _).length=n;unfold be;rw[ap6];exact hVl,w',hJ.hp,hJ.nd,λv=>?_⟩
    show v∈G↔_/\_/\(be V _ _)[v.toNat]? =aa 0
    rw[Gb _ _ _ _ (by omega),hJ.h v]
    by_cases e:v=(u:Int)
    .subst e;rw[aj rfl];refine⟨λh=>absurd ((hJ.h _).2 h) nH,λh=>?_⟩;have:=aoB h.2.2;omega
    .constructor
     .rintro⟨h1,h2,h3⟩
      rw[ai (by omega)];exact⟨h1,h2,h3⟩
     .rintro⟨h1,h2,h3⟩
      rw[ai (by omega)]at h3;exact⟨h1,h2,h3⟩
 .have hge:k=l.length:=by dsimp only at hge;omega
  subst hge;rw[List.drop_length]at hJ;exact .some (hQ _ _ hJ)
theorem P9(s:kF)(hs:lD s):Wp (M.fL aG s) λr=>∃o,uD s o/\(∀d,¬MQ s o d)/\r=if o.length<s.2.2.2.1.length then((9:Int),([]:List Int))else((0:Int),o):=by
 have Rq:=hs.2.2.1;unfold M.fL
 refine Wp.seq (WW s) ?_ λL hL=>?_
 .have e:M.mW aG s=M.ku aG s:=rfl;rw[e,wp_bind]
  exact(we s hs).mono λL hL=> .some hL
 obtain⟨hLl,hL⟩:=hL
 have hDr:∀a b,Dp s a b->0<=b/\b<(s.2.2.2.1.length:Int):=λa b h=>(kG s a).2 b h
 have hLq:∀u,(L.getD u []).length<=6000:=λu=>by
  by_cases h:u<L.length
  .rw[getD_some h];exact(hL u h).1
  .rw[List.getD_eq_getElem?_getD,List.getElem?_eq_none (by omega)];exact aoR _
 have NI:∀u:Nat,u<s.2.2.2.1.length->∀y,y∈L.getD u []↔Dp s (u:Int) y:=λu hu y=>by
  rw[getD_some (by omega)];exact(hL u (by omega)).2 y
 obtain⟨n,hn⟩:∃n,n=s.2.2.2.1.length:=⟨_,rfl⟩
 rw[<-hn]at Rq hLl hDr NI⊢;rw[wp_bind];refine zP.2 ⟨by omega,?_⟩;rw[wp_bind];refine zP.2 ⟨by omega,?_⟩;rw[aoF,hLl]
 refine Wp.seq (λz=>P7 L n n z.1 z.2.1 z.2.2) ?_ λz hz=>?_
 .rw[wp_bind]
  refine Wp.mono (Q:=λz=>P7 L n n z.1 z.2.1 z.2.2) ?_ λz hz=> .some hz
  refine Wp.count (λz=>z.1) n (λk z=>P7 L n k z.2.1 z.2.2.1 z.2.2.2) (by omega) rfl ⟨by simp,by simp,λe h=>⟨by simp,λu=>?_⟩,λu hu=>by omega,λk h0 h1=>(by cases h1),List.nodup_nil,λu=>?_⟩ λk z hk hz hJ=>?_
  .rw[ai (by omega)];simp
  .exact⟨λh=>(by cases h),λh=>by omega⟩
  obtain⟨i,U,W,H⟩:=z;dsimp only at hz hJ;subst hz
  refine Wp.dec (λaJ=>?_) λhge=>?_
  .have aJ:k<n:=by dsimp only at aJ;omega
   have UO:k<L.length:=by omega
   have hUl:=hJ.ul;have hWl:=hJ.wl;dsimp only;rw[aD UO,aoy,aD (show k<W.length by omega),aoy,wp_bind,wp_bind,wp_bind];have hHl:=hJ.hl
   refine(P8 L[k] k n U hUl (hL k UO).1 (λy hy=>hDr _ _ (((hL k UO).2 y).1 hy)) λe h=>by have:=(hJ.u e h).1;omega).mono λV hV=>?_
   have uu:∀e,∀h:e<V.length,V[e].length<=6000*(k+1)/\∀u:Int,V[e].count u=if 0<=u/\u<((k+1:Nat):Int)then(L.getD u.toNat []).count (e:Int)else 0:=λe h=>by
    have hV1:=hV.1;obtain⟨g1,g2⟩:=hV.2 e h (by omega);obtain⟨f1,f2⟩:=hJ.u e (by omega);have:=(hL k UO).1;refine⟨by omega,λu=>?_⟩;rw[g2,f2]
    by_cases eu:u=(k:Int)
    .subst eu;rw[ai (by omega),aj rfl,aj (by omega),aoF,getD_some UO];omega
    .rw[ai eu];by_cases h1:0<=u/\u<(k:Int)
     .rw[aj h1,aj (by omega)];rfl
     .rw[ai h1,ai (by omega)]
   have ww:∀u,u<k+1->(be W (k:Int) (L[k].length:Int))[u]? =aa ((L.getD u []).length:Int):=λu hu=>by
    rw[Gb _ _ _ _ (by omega)];by_cases e:u=k
    .subst e;rw[aj (by omega),getD_some UO]
    .rw[ai (by omega),hJ.w u (by omega)]
   have wl:(be W (k:Int) (L[k].length:Int)).length=n:=by unfold be;rw[ap6];exact hWl
   by_cases e0:L[k].length=0
   .rw[aj (by rw[ax];omega),wp_bind]
    refine(Ky _ _ (by omega) hJ.hp).mono λr hr=> .some (.some (.some ⟨aJ,bX (m:=n) (by omega) aJ,⟨hV.1,wl,uu,ww,hr.2,hr.1.nodup_iff.2 (List.nodup_cons.2 ⟨λg=>?_,hJ.nd⟩),λu=>?_⟩⟩))
    .have:=((hJ.h _).1 g).1;omega
    .show u∈r↔_
     rw[hr.1.mem_iff,apH,hJ.h u]
     by_cases eu:u=(k:Int)
     .subst eu;rw[aoF,getD_some UO];exact⟨λ_=>⟨by omega,apL.1 e0⟩,λ_=> .inl rfl⟩
     .constructor
      .rintro(h|⟨h1,h2⟩)
       .exact absurd h eu
       .exact⟨by omega,h2⟩
      .rintro⟨h1,h2⟩
       exact .inr ⟨by omega,h2⟩
   .rw[ai (by rw[ax];omega)];refine .some (.some (.some ⟨aJ,bX (m:=n) (by omega) aJ,⟨hV.1,wl,uu,ww,hJ.hp,hJ.nd,λu=>?_⟩⟩))
    show u∈H↔_
    rw[hJ.h u]
    by_cases eu:u=(k:Int)
    .subst eu;rw[aoF,getD_some UO];exact⟨λh=>by omega,λh=>absurd (by rw[h.2];rfl) e0⟩
    .exact⟨λ⟨h1,h2⟩=>⟨by omega,h2⟩,λ⟨h1,h2⟩=>⟨by omega,h2⟩⟩
  .have hge:k=n:=by dsimp only at hge;omega
   subst hge;exact .some hJ
 obtain⟨U,W,H⟩:=z;dsimp only at hz⊢;have hUl:=hz.ul
 have hU:∀e,∀h:e<U.length,U[e].length<=100000/\∀u:Int,U[e].count u=if 0<=u/\u<(n:Int)then(L.getD u.toNat []).count (e:Int)else 0:=λe h=>⟨by have:=(hz.u e h).1;omega,(hz.u e h).2⟩
 refine Wp.seq (λz=>uD s z.1/\z.2=[]/\∀d,¬MQ s z.1 d) ?_ λz hq=>?_
 .refine Wp.loop (λz=>agS s L n z.1 z.2.1 z.2.2) (λz=>n-z.2.1.length) ⟨hz.wl,λk h=>(by cases h),λu hu=>?_,hz.hp,hz.nd,λu=>?_⟩ (by show n-_<aG;unfold aG;omega) λz hI=>?_
  .rw[hz.w u hu]
   congr 2
   exact(List.countP_eq_length.2 λa _=>by simp).symm
  .rw[hz.h u];unfold MQ;rw[<-hn];constructor
   .rintro⟨h1,h2⟩
    refine⟨h1,by simp,λy hy=>?_⟩;have:=(NI u.toNat (by omega) y).2 (by rw[apI h1.1];exact hy);rw[h2]at this;cases this
   .rintro⟨h1,_,h2⟩
    refine⟨h1,List.eq_nil_iff_forall_not_mem.2 λy hy=>?_⟩;have:=(NI u.toNat (by omega) y).1 hy;rw[apI h1.1]at this;cases h2 y this
  obtain⟨W,O,H⟩:=z;dsimp only at hI⊢;have hO:=hI.o;have hOl:=hO.len;rw[<-hn]at hOl
  have hHl:H.length<=n:=wg hI.nd λx hx=>by
   have:=((hI.h x).1 hx).1;rw[<-hn]at this;exact this
  unfold M.fq;rw[aoy]
  refine Wp.dec (λh0=>?_) λh0=>?_
  .have h0:0<H.length:=by omega
   rw[wp_bind]
   refine(W0 H h0 (by omega) hI.hp).mono λr hr=>?_
   obtain⟨x,G⟩:=r;obtain⟨hp,hG,Bn⟩:=hr;dsimp only at hp hG Bn⊢;have hxH:x∈H:=hp.symm.subset (by simp);have hx:=(hI.h x).1 hxH;have R2:=hp.nodup_iff.1 hI.nd;obtain⟨hxG,hGn⟩:=List.nodup_cons.1 R2
   have hO':uD s (O++[x]):=hO.snoc hx λd hd=>by
    have:d∈H:=(hI.h d).2 hd
    rcases apH.1 (hp.subset this)with rfl|h
    .exact apR _
    .exact Bn d h
   have aai:=hO'.len;rw[<-hn,aoH]at aai;simp only[apa,List.length_nil]at aai;rw[bF (by simp;omega),aoy];have Ud:=hx.1;rw[<-hn]at Ud;obtain⟨e,he⟩:=aoU Ud.1
   have heU:e<U.length:=by omega
   rw[he,aD heU,aoy,<-he];obtain⟨f1,f2⟩:=hU e heU;rw[<-he]at f2
   have inU:∀u∈U[e],(0<=u/\u<(n:Int))/\Dp s u x:=λu hu=>by
    have h1:=List.count_pos_iff.2 hu;rw[f2]at h1;by_cases hc:0<=u/\u<(n:Int)
    .rw[aj hc]at h1;refine⟨hc,?_⟩;have:=(NI u.toNat (by omega) x).1 (List.count_pos_iff.1 h1)
     rwa [apI hc.1]at this
    .rw[ai hc]at h1;omega
   refine Tc s L n (O++[x]) U[e] W G x Rq f1 hLq ⟨hI.wl,λu hu=>?_,hG,hGn,λu=>?_⟩ (λu hu=>?_) _ λW' H' h'=>?_
   .rw[hI.w u hu,f2,aj (by omega),aoF,Gc _ _ _ hx.2.1]
   .have IT:u∈G↔u∈H/\u≠x:=by
     rw[hp.mem_iff,apH];exact⟨λh=>⟨.inr h,λe=>hxG (e▸h)⟩,λh=>h.1.resolve_left h.2⟩
    rw[IT,hI.h u];unfold MQ;rw[<-hn];constructor
    .rintro⟨⟨h1,h2,h3⟩,h4⟩
     refine⟨h1,by simp[h2,h4],?_⟩;rw[hI.w u.toNat (by omega)]
     congr 2
     rw[aqC];intro y hy;have:=(NI u.toNat (by omega) y).1 hy;rw[apI h1.1]at this;simpa using h3 y this
    .rintro⟨h1,h2,h3⟩
     rw[hI.w u.toNat (by omega)]at h3
     have h3:(L.getD u.toNat []).countP (λy=>decide (y∉O))=0:=by
      have:=aoB h3;omega
     rw[aqC]at h3;simp only[ao7,aoY,not_or]at h2;refine⟨⟨h1,h2.1,λy hy=>?_⟩,h2.2⟩;have:=h3 y ((NI u.toNat (by omega) y).2 (by rw[apI h1.1];exact hy));simpa using this
   .obtain⟨h1,h2⟩:=inU u hu;refine⟨h1,λh=>?_⟩
    rcases ao7.1 h with h|h
    .exact hx.2.1 ((hO.mem h).2 x h2)
    .rw[aoY.1 h]at h2;exact hx.2.1 (hx.2.2 x h2)
   .refine⟨⟨h'.wl,hO',λu hu=>?_,h'.hp,h'.nd,λu=>?_⟩,?_⟩
    .have:=h'.w u hu;rw[List.count_nil,apO]at this;exact this
    .rw[h'.h u];unfold MQ;rw[<-hn];constructor
     .rintro⟨h1,h2,h3⟩
      refine⟨h1,h2,λy hy=>?_⟩;rw[h'.w u.toNat (by omega),List.count_nil,apO]at h3
      have h3:(L.getD u.toNat []).countP (λy=>decide (y∉O++[x]))=0:=by
       have:=aoB h3;omega
      rw[aqC]at h3;have:=h3 y ((NI u.toNat (by omega) y).2 (by rw[apI h1.1];exact hy))
      exact aqc λg=>this (ao g)
     .rintro⟨h1,h2,h3⟩
      refine⟨h1,h2,?_⟩;rw[h'.w u.toNat (by omega),List.count_nil,apO]
      congr 2
      rw[aqC];intro y hy;have:=(NI u.toNat (by omega) y).1 hy;rw[apI h1.1]at this
      exact λg=>ak g (h3 y this)
    .show n-(O++[x]).length<n-O.length
     rw[aoH];simp only[apa,List.length_nil];omega
  .have h0:H=[]:=apL.1 (by omega);subst h0;exact .some ⟨hO,rfl,λd hd=>by cases(hI.h d).2 hd⟩
 .obtain⟨O,H⟩:=z;obtain⟨h1,h2,h3⟩:=hq;dsimp only at h1 h2 h3⊢
  refine Wp.dec (λh=> .some ⟨O,h1,h3,?_⟩) λh=> .some ⟨O,h1,h3,?_⟩
  .rw[aj (by omega)]
  .rw[ai (by omega)]
theorem MR{s:kF}{o:List Int}(h:uD s o)(hr:∀d,¬MQ s o d)(hc:∀d:Nat,d<s.2.2.2.1.length->¬IP (Dp s) (d:Int) (d:Int)):o.length=s.2.2.2.1.length:=by
 refine Nat.le_antisymm h.len (Nat.le_of_not_lt λaJ=>?_)
 have hDr:∀a b,Dp s a b->0<=b/\b<(s.2.2.2.1.length:Int):=λa b h=>(kG s a).2 b h
 obtain⟨n,hn⟩:∃n,n=s.2.2.2.1.length:=⟨_,rfl⟩
 rw[<-hn]at aJ hc hDr
 have next:∀d:Int,(0<=d/\d<(n:Int))->d∉o->∃e,Dp s d e/\e∉o:=λd hd hdo=>aqc λdS=>by
  refine hr d ⟨by rw[<-hn];exact hd,hdo,λy hy=>aqc λPm=>dS ⟨y,hy,Pm⟩⟩
 have start:∃d:Int,(0<=d/\d<(n:Int))/\d∉o:=aqc λdS=>by
  have:((ap1 n).map λk:Nat=>(k:Int)).length<=o.length:=uh (List.Pairwise.map _ (λa b(h:a≠b)e=>h (by omega)) List.nodup_range) λy hy=>by
   obtain⟨k,hk,rfl⟩:=apY.1 hy
   exact aqc λh=>dS ⟨(k:Int),by have:=List.mem_range.1 hk;omega,h⟩
  simp at this;omega
 have walk:∀m,∃l:List Int,l.length=m+1/\(∀x∈l,(0<=x/\x<(n:Int))/\x∉o)/\l.Pairwise λa b=>IP (Dp s) b a:=by
  intro m
  induction m with
  |zero=>
   obtain⟨d,h1,h2⟩:=start;exact⟨[d],rfl,λx hx=>by rw[aoY.1 hx];exact⟨h1,h2⟩,by simp⟩
  |succ m ih=>
   obtain⟨l,hl,hm,hp⟩:=ih
   cases l with
   |nil=>cases hl
   |cons x t=>
    obtain⟨e,h1,h2⟩:=next x (hm x (by simp)).1 (hm x (by simp)).2
    refine⟨e::x::t,by simp only[apa]at hl⊢;omega,λy hy=>?_,ap7.2 ⟨λy hy=>?_,hp⟩⟩
    .rcases apH.1 hy with rfl|hy
     .exact⟨hDr _ _ h1,h2⟩
     .exact hm y hy
    .rcases apH.1 hy with rfl|hy
     .exact .one h1
     .exact .step ((ap7.1 hp).1 y hy) h1
 obtain⟨l,hl,hm,hp⟩:=walk n
 have nd:l.Nodup:=by
  refine hp.imp_of_mem λ{a b}ha hb LQ=>λe=>?_
  subst e;obtain⟨h1,_⟩:=hm a ha;have:=hc a.toNat (by omega);rw[apI h1.1]at this;exact this LQ
 have:=wg nd λx hx=>(hm x hx).1
 omega
end L
namespace L
theorem has_eq(l:List Int)(x:Int)(hl:l.length<=100000):M.ra aG l x=aa (decide (x∈l)):=by
 apply Wp.eq;unfold M.ra
 refine Wp.count (λs=>s) l.length (λk _=>∀i(h:i<l.length),i<k->l[i]≠x) (by omega) rfl (λi h g=>by omega) λk s hk hs hJ=>?_
 obtain rfl:s=_:=hs
 refine Wp.dec (λaJ=>?_) λhge=> .some ?_
 .have aJ:k<l.length:=by omega
  rw[aD aJ,aoy]
  refine Wp.dec (λh=> .some ?_) λh=> .some ⟨aJ,bX (m:=l.length) (by omega) aJ,λi hi hik=>?_⟩
  .exact(ao (h▸aoG aJ)).symm
  .by_cases e:i<k
   .exact hJ i hi e
   .obtain rfl:i=k:=by omega
    exact h
 .refine(aq λhm=>?_).symm;obtain⟨i,hi,e⟩:=aoS hm;exact hJ i hi (by omega) e
theorem Qa{s:kF}(hs:lD s)(d:Int)(p:List Int)(hp:p.length<=100000):M.qh aG s d p=aa (decide (∀y∈lC s d,y∈p)):=by
 have hl:=(kG s d).len;have Rq:=hs.2.2.1;apply Wp.eq;unfold M.qh;rw[Ko s hs.few d,aoy]
 refine Wp.count (λs=>s) (lC s d).length (λk _=>∀i(h:i<(lC s d).length),i<k->(lC s d)[i]∈p) (by omega) rfl (λi h g=>by omega) λk t hk ht hJ=>?_
 obtain rfl:t=_:=ht
 refine Wp.dec (λaJ=>?_) λhge=> .some ?_
 .have aJ:k<(lC s d).length:=by omega
  rw[aD aJ,aoy,has_eq _ _ hp,aoy]
  refine Wp.uA (λh=> .some ?_) λh=> .some ⟨aJ,bX (m:=(lC s d).length) (by omega) aJ,λi hi hik=>?_⟩
  .exact(aq λg=>h (g _ (aoG aJ))).symm
  .by_cases e:i<k
   .exact hJ i hi e
   .obtain rfl:i=k:=by omega
    exact h
 .refine(ao λy hy=>?_).symm;obtain⟨i,hi,rfl⟩:=aoS hy;exact hJ i hi (by omega)
theorem MS{s:kF}(hs:lD s){o:List Int}(h:uD s o)(hl:o.length=s.2.2.2.1.length):M.gP aG s=aa ((0:Int),o):=by
 have Rq:=hs.2.2.1;apply Wp.eq;unfold M.gP
 refine Wp.count (λt=>(t.length:Int)) s.2.2.2.1.length (λk t=>t=o.take k) (by omega) rfl (by simp) λk t hk ht hJ=>?_
 subst hJ
 have hlen:(o.take k).length=k:=by rw[ao0];omega
 refine Wp.dec (λaJ=>?_) λhge=> .some ?_
 .have dT:k<o.length:=by rw[hlen]at aJ;omega
  obtain⟨hR,Bn⟩:=h k dT;obtain⟨m,hm⟩:=aoU hR.1.1;have XU:=hR.1.2;rw[hm]at hR Bn XU
  refine Wp.seq (λj=>j=(m:Int)) ?_ λj hj=>?_
  .refine Wp.count (λi=>i) s.2.2.2.1.length (λi _=>i<=m) (by omega) rfl (aoR _) λi t hi ht hJ=>?_
   obtain rfl:t=_:=ht
   refine Wp.seq (λb=>b=af↔¬MQ s (o.take k) (i:Int)) ?_ λb hb=>?_
   .refine Wp.dec (λeK=>?_) λal7=>absurd XU (by omega)
    rw[has_eq _ _ (by omega),aoy]
    refine Wp.dec (λIT=> .some (iff_of_true rfl λg=>g.2.1 IT)) λhnm=>?_
    rw[Qa hs _ _ (by omega),aoy];refine .some ?_;rw[Bool.not_eq_true',az];exact not_congr ⟨λg=>⟨by omega,hnm,g⟩,λg=>g.2.2⟩
   .by_cases hr:MQ s (o.take k) (i:Int)
    .rw[ai (λg=>hb.1 g hr)];have:=Bn _ hr;exact .some (show(i:Int)=(m:Int) by omega)
    .rw[aj (hb.2 hr)]
     have dS:i≠m:=λe=>hr (e▸hR)
     exact .some ⟨by omega,bX (m:=s.2.2.2.1.length) (by omega) (by omega),by omega⟩
  .subst hj;rw[ai (by rw[ax];omega),bF (by simp;omega),aoy];refine .some ⟨by omega,by simp[hlen],?_⟩
   show _=o.take (k+1)
   rw[apS,aoA dT,hm];rfl
 .rw[hlen]at hge
  show((0:Int),o.take k)=_
  rw[List.take_of_length_le (by omega)]
end L
namespace L
theorem Gd(l:List ByteArray)(h:l.length<=1048576):M.cS aG l=aa l:=by
 unfold M.cS;rw[bF (by simp;omega),List.nil_append,aoy];split
 .rename_i h0;obtain rfl:=apL.1 (beq_true h0);exact xn
 .rfl
end L
namespace L
theorem DM{t:xQ}{E:List En}:(mJ t E).2=0↔t.2.2.2.length<=64/\(oY t.2.1 E.length/\oY t.2.2.1 E.length)/\∀k,∀h:k<t.2.2.2.length,¬pc t.2.2.2[k] t E/\¬∃y∈t.2.2.2.take k,nN y t.2.2.2[k]:=by
 have Px:∀k e,qF t E k=aa e->e.2≠0:=λk e he=>by
  unfold qF at he;split at he
  .cases he
  split at he
  .cases he;simp
  split at he
  .cases he;simp
  .cases he
 unfold mJ;by_cases h1:64<t.2.2.2.length
 .rw[aj h1]
  exact ay (by decide) λg=>by omega
 rw[ai h1];by_cases h2:¬(oY t.2.1 E.length/\oY t.2.2.1 E.length)
 .rw[aj h2]
  exact ay (by decide) λg=>h2 g.2.1
 rw[ai h2]
 have key:cF (qF t E) t.2.2.2.length=ae↔∀k,∀h:k<t.2.2.2.length,¬pc t.2.2.2[k] t E/\¬∃y∈t.2.2.2.take k,nN y t.2.2.2[k]:=by
  rw[bC]
  refine forall_congr' λk=>⟨λg h=>?_,λg h=>?_⟩
  .have:=g h;unfold qF at this;rw[aoA h]at this;dsimp only at this;split at this
   .cases this
   split at this
   .cases this
   .exact⟨‹_›,‹_›⟩
  .unfold qF;rw[aoA h];dsimp only;rw[ai (g h).1,ai (g h).2]
 cases hf:cF (qF t E) t.2.2.2.length with
 |none=>exact iff_of_true rfl ⟨by omega,ap3.1 h2,key.1 hf⟩
 |some e=>
  obtain⟨k,_,he,_⟩:=gm hf
  exact ay (Px k e he) λg=>by rw[key.2 g.2.2]at hf;cases hf
def oP(rules:List jC):Prop:=∀i,∀h:i<rules.length,(rules[i].2.2.1:Int)= -1\/∃p,∃hp:p<i,(rules[i].2.2.1:Int)=(p:Int)/\((rules[p]'(by omega)).2.1:Int)=rules[i].2.1
theorem DN{l:Lw}{x:kF}{k:Nat}{r:jC}:uC l x k r=0↔mr r.1=af/\¬eB (x.2.2.2.2.take k) r.1/\(0<=(r.2.1:Int)/\(r.2.1:Int)<(x.2.2.2.1.length:Int))/\¬rW x k r/\
 ¬((r.2.2.2.1:Int)<0\/9<(r.2.2.2.1:Int)\/¬VR r.2.2.2.2.1\/(r.2.2.2.2.1.1:Int)=r.2.2.2.2.1.2)/\yq x k r.2.1<8/\plain r.2.2.2.2.2.2.2/\
 (0<r.2.2.2.2.2.1.length->rf r.2.2.2.2.2.1 (fx l x) ((1:Int),(0:Int))=0)/\(match x.2.2.2.1[(r.2.1:Int).toNat]? with
   |some d=>rf r.2.2.2.2.2.2.1 (fx l x) d.2
   |none=>0)=0:=by
 unfold uC;by_cases h1:mr r.1=ag
 .rw[aj h1]
  exact ay (by decide) λg=>by rw[h1]at g;cases g.1
 rw[ai h1];by_cases h2:eB (x.2.2.2.2.take k) r.1
 .rw[aj h2]
  exact ay (by decide) λg=>g.2.1 h2
 rw[ai h2];by_cases h3:0<=(r.2.1:Int)/\(r.2.1:Int)<(x.2.2.2.1.length:Int)
 case neg=>
  rw[aj h3]
  exact ay (by decide) λg=>h3 g.2.2.1
 rw[ai (λg=>g h3)];by_cases h4:rW x k r
 .rw[aj h4]
  exact ay (by decide) λg=>g.2.2.2.1 h4
 rw[ai h4];by_cases h5:(r.2.2.2.1:Int)<0\/9<(r.2.2.2.1:Int)\/¬VR r.2.2.2.2.1\/(r.2.2.2.2.1.1:Int)=r.2.2.2.2.1.2
 .rw[aj h5]
  exact ay (by decide) λg=>g.2.2.2.2.1 h5
 rw[ai h5];by_cases h6:8<=yq x k r.2.1
 .rw[aj h6]
  exact ay (by decide) λg=>by have:=g.2.2.2.2.2.1;omega
 rw[ai h6];by_cases h7:plain r.2.2.2.2.2.2.2
 case neg=>
  rw[aj h7]
  exact ay (by decide) λg=>h7 g.2.2.2.2.2.2.1
 rw[ai (λg=>g h7)];by_cases h8:0<r.2.2.2.2.2.1.length/\rf r.2.2.2.2.2.1 (fx l x) ((1:Int),(0:Int))≠0
 .rw[aj h8]
  exact ay h8.2 λg=>h8.2 (g.2.2.2.2.2.2.2.1 h8.1)
 rw[ai h8];exact⟨λg=>⟨by simpa using h1,h2,h3,h4,h5,by omega,h7,λa=>ap3.1 λb=>h8 ⟨a,b⟩,g⟩,λg=>g.2.2.2.2.2.2.2.2⟩
theorem IU{l:Lw}{x:kF}(h:∀i,∀hi:i<x.2.2.2.2.length,uC l x i x.2.2.2.2[i]=0):oP x.2.2.2.2:=λi hi=>by
 have hb:=(DN.1 (h i hi)).2.2.2.1;unfold rW at hb;generalize x.2.2.2.2[i]=r at*;obtain⟨nm,(df:Int),(p:Int),z⟩:=r;dsimp only[aB,Row.den]at*;by_cases h1:p= -1
 .exact .inl h1
 right
 have h2:0<=p:=ap3.1 λg=>hb ⟨h1, .inl (by omega)⟩
 have h3:p<(i:Int):=ap3.1 λg=>hb ⟨h1, .inr (.inl (by omega))⟩
 obtain⟨q,rfl⟩:=aoU h2;have hq:q<i:=Int.ofNat_lt.1 h3;refine⟨q,hq,rfl,ap3.1 λg=>hb ⟨h1, .inr (.inr ⟨_,?_,g⟩)⟩⟩;rw[aoF];exact aoA (by omega)
theorem Valid.agT{l:Lw}(h:Valid l)(oC:lE l):PW l:=by
 obtain⟨a1,a2,a3,a4,a5,a6⟩:=h.scopes;obtain⟨b1,b2,b3,b4,b5,b6⟩:=oC;refine⟨λe he=>?_,λt ht=>?_,λs hs r hr=>?_,by omega,by omega,by omega,λs hs=>?_⟩
 .have:=(b4 e he).2.1;omega
 .obtain⟨k,hk,rfl⟩:=aoS ht;have:=a5 k hk;unfold pW at this;rw[aoA hk]at this;dsimp only at this;split at this
  .cases this
  split at this
  .cases this
  split at this
  case isFalse=>cases this
  rename_i h0;have:=(DM.1 h0).1;omega
 .have:=(b6 s hs).2.2.2.2.2.2 r hr;omega
 .have h1:=(b6 s hs).2.1;have h2:=(b6 s hs).2.2.1;have h3:=(b6 s hs).2.2.2.1;omega
end L
end Go.Proofs.YtfjgcenlllgonaaGreatDoor
