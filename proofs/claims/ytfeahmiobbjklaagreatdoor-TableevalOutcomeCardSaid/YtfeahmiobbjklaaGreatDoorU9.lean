/- Joined texts: RU RV RW TA TB TC TD TE TF TG TH TJ TT TU. -/
import Derived.Test.YtfeahmiobbjklaaGreatDoorU8
open _root_.Bool renaming false->ag,true->af,false_eq_true->agK
open _root_.Option renaming none->ae,some->aa,bind_some->agv
open _root_.Go.Lib renaming indexByte->ahA,compact->ahn
open _root_.Go.IntKind renaming i64->agw,u64->agy
open _root_.List renaming getElem?_eq_getElem->agz,getElem_mem->agA,getElem_of_mem->agS,length_take->ag0,take_append_getElem->agP,drop_eq_getElem_cons->agJ,drop_of_length_le->ahb,getElem_append_left->ahk,getElem_append_right->ahh,replicate->agE,getElem?_eq_some_iff->agL,mem_append->agT,mem_cons->agY,pairwise_cons->agO,filter_eq_self->ahP,mem_filter->ahi,range->agG,mem_singleton->agZ,append_assoc->ahr
open _root_.Nat renaming le_of_lt->ahL,le_trans->agW,le_refl->agB,eq_of_testBit_eq->ahC,lt_of_lt_of_le->agV,mul_le_mul_right->agM
open _root_.Int renaming eq_ofNat_of_zero_le->agF,tdiv->agN,tmod->aha,toNat_natCast->agD
open _root_.BitVec renaming ofInt->ahf
open _root_.Go.Proofs renaming ltOf->ag7
open _root_.Classical renaming propDecidable->ag1
namespace Go.Proofs.YtfeahmiobbjklaaGreatDoor
open Go Go.RowKit
set_option maxRecDepth 100000
set_option linter.unusedSimpArgs false
set_option linter.unusedVariables false
set_option linter.defProp false
namespace L
noncomputable def wo:List ByteArray:=(M.mr aU).getD []
def NT:M.mr aU=aa wo:=by kernel_rfl
def Lh:wo.length<=100:=by unfold wo;decide+kernel
def Wd(c:Int):Prop:=(97<=c/\c<=122)\/(48<=c/\c<=57)\/c=95
def Ze(s:ByteArray):Prop:=s.size<=16/\(∃h:0<s.size,97<=s[0].toNat/\s[0].toNat<=122)/\(∀k,∀h:k<s.size,Wd (s[k].toNat:Int))/\s∉wo
theorem Li(s:ByteArray):np s=af↔Ze s:=by
 have key:Wp (M.jP aU s) λr=>r=af↔Ze s:=by
  have hl:=Lh;unfold M.jP;simp only[Cc,NN,NT,W_,aq,au,reduceCtorEq];refine⟨λh=>?_,λh0=>⟨λh=>?_,λVE=>?_⟩⟩
  .exact ax id λg=>by obtain⟨_,⟨g,_⟩,_⟩:=g;omega
  .exact ax id λg=>by have:=g.1;omega
  refine r3.2 ⟨by omega,?_⟩;have e0:((0:Int).toNat)=0:=rfl;simp only[e0];refine⟨λh=>ax id λg=>?_,λUn=>?_⟩
  .obtain⟨_,⟨_,g⟩,_⟩:=g;grind
  refine Wp.count (λs=>s) s.size (λk _=>∀j,j<k->∀h:j<s.size,Wd (s[j].toNat:Int)) (by omega) rfl (λj hj=>by omega) λk c hk hs hJ=>?_
  obtain rfl:c=_:=hs;simp only[W_,aq,au,reduceCtorEq,bo,bc];refine⟨λaH=>r3.2 ⟨by omega,?_⟩,λhge=>?_⟩
  .have aH:k<s.size:=by omega
   have ek:((k:Int).toNat)=k:=by omega
   simp only[ek];exact⟨λh=>ax id λg=>h (g.2.2.1 k aH),λh=>⟨aH,aP (by omega),eZ hJ λ_=>h⟩⟩
  refine Wp.count (λs=>s) wo.length (λk _=>∀j,j<k->∀h:j<wo.length,wo[j]≠s) (by omega) rfl (λj hj=>by omega) λi c hi hs hI=>?_
  obtain rfl:c=_:=hs;simp only[W_,aq,au,reduceCtorEq,bo,bc];refine⟨λaH=>?_,λadG=>?_⟩
  .have aH:i<wo.length:=by omega
   simp only[aB aH,cy (m:=wo.length) (by omega) aH,W_,aq,au,reduceCtorEq];exact⟨λh=>ax id λg=>g.2.2.2 (h▸agA aH),(by grind)⟩
  .refine iff_of_true trivial ⟨by omega,⟨by omega,by omega⟩,λj h=>hJ j (by omega) h,λhm=>?_⟩
   grind [agS]
 obtain⟨r,hr,h⟩:=key;unfold np
 grind
def tw(s:ByteArray):List ByteArray->Option Bool
 |[]=>aa ag
 |[w]=>aa (decide (s=w))
 |w::l=>if decide (s=w)=af then aa (decide (s=w))else tw s l
theorem yy(s:ByteArray):(l:List ByteArray)->tw s l=aa (decide (s∈l))
 |[]=>by simp[tw]
 |[w]=>by simp[tw]
 |w::w'::l=>by
  unfold tw;rw[yy s (w'::l)]
  grind
def Cj(s:ByteArray):M.kr aU s=aa (decide (s∈wo)):=by
 have:M.kr aU s=(tw s wo).bind λj=>if j=af then aa af else aa ag:=by kernel_rfl
 grind [yy]
def yz(c:Int):M.jt aU c=aa (decide (97<=c/\c<=122)):=by
 apply Wp.eq;unfold M.jt;simp only[W_,aq,au,reduceCtorEq];omega
def Iv(c:Int):M.lm aU c=aa (decide (48<=c/\c<=57)):=by
 apply Wp.eq;unfold M.lm;simp only[W_,aq,au,reduceCtorEq];omega
def xq(s:ByteArray)(hs:s.size<=maxLen):Wp (M.iX aU s) λn=>n=(s.size:Int)↔∀k,∀h:k<s.size,Wd (s[k].toNat:Int):=by
 unfold M.iX;simp only[yz,Iv]
 refine Wp.count (λs=>s) s.size (λk _=>∀j,j<k->∀h:j<s.size,Wd (s[j].toNat:Int)) hs rfl (λj hj=>by omega) λk c hk Dn hJ=>?_
 obtain rfl:c=_:=Dn
 rcases Nat.lt_or_ge k s.size with aH|hge
 .have hb:kS s (k:Int)=aa (s[k].toNat:Int):=by
   have:=(Pf (x:=((s[k].toNat:Nat):Int))).1 (r3 (s:=s) (i:=(k:Int)).2 ⟨by omega,by simp⟩);exact this
  simp only[EN aH,hb,cy hs aH,W_,aq,au,reduceCtorEq,bo,bc];unfold Wd at*
  have ok:(97<=(s[k].toNat:Int)/\(s[k].toNat:Int)<=122)\/(48<=(s[k].toNat:Int)/\(s[k].toNat:Int)<=57)\/(s[k].toNat:Int)=95->k<s.size/\∀j,j<k+1->∀h:j<s.size,(97<=(s[j].toNat:Int)/\(s[j].toNat:Int)<=122)\/(48<=(s[j].toNat:Int)/\(s[j].toNat:Int)<=57)\/(s[j].toNat:Int)=95:=λh=>⟨aH,eZ hJ λ_=>h⟩
  grind
 .obtain rfl:k=s.size:=by omega
  simp only[wh,W_,aq,au,reduceCtorEq,bc]
  grind
def tx(s:ByteArray)(hs:s.size<=maxLen):M.bY aU s=aa (np s):=by
 have key:Wp (M.bY aU s) λr=>r=af↔Ze s:=by
  unfold M.bY;simp only[yz,Cj,W_,aq,au,reduceCtorEq];refine⟨λh=>?_,λh=>?_⟩
  .have h0:0<s.size:=by
    rcases Nat.eq_zero_or_pos s.size with e|e
    .exact absurd (ByteArray.ext (by simp_all)) h
    .exact e
   refine r3.2 ⟨by omega,?_⟩;have e0:((0:Int).toNat)=0:=rfl;simp only[e0];refine⟨λUn=>(xq s hs).mono λn hn=>⟨λe=>⟨λVE=>?_,λVE=>ax id λg=>VE (by have:=g.1;omega)⟩,λe=>ax id λg=>e (hn.2 g.2.2.1)⟩,λUn=>ax id λg=>?_⟩
   .exact⟨λg=>⟨by omega,⟨h0,by omega⟩,hn.1 e,g⟩,λg=>g.2.2.2⟩
   .obtain⟨_,⟨_,g⟩,_⟩:=g;grind
  .refine ax id λg=>?_
   obtain⟨_,⟨g,_⟩,_⟩:=g;subst h;cases g
 obtain⟨r,hr,h⟩:=key
 grind [Li]
theorem py{β:Type}{l:List (ByteArray×β)}{nm:ByteArray}:0<=fa (λx=>decide (x.1=nm)) l↔iQ l nm:=by
 rw[lD];unfold iQ;simp
def q8(l:List En)(nm:ByteArray)(hl:l.length<=maxLen):M.iH aU l nm=aa (decide (iQ l nm)):=by
 have:M.bu aU l nm=aa (fa (λx=>decide (x.1=nm)) l,nm):=by
  unfold M.bu M.ku;exact wm hl (λk h=>by simp only[aB h,ox h,agv,if_true]) (by grind)
 grind [M.iH,M.bK,py]
def tZ(l:List Q9)(nm:ByteArray)(hl:l.length<=maxLen):M.iY aU l nm=aa (decide (iQ l nm)):=by
 have:M.bj aU l nm=aa (fa (λx=>decide (x.1=nm)) l,nm):=by
  unfold M.bj M.jO;exact wm hl (λk h=>by simp only[aB h,ox h,agv,if_true]) (by grind)
 grind [M.iY,M.bD,py]
def r8(l:List Fd)(f:Fd)(hl:l.length<=maxLen):M.aS aU l f=aa (decide (iQ l f.1),f):=by
 have:M.bk aU l f=aa (fa (λx=>decide (x.1=f.1)) l,f):=by
  unfold M.bk M.iJ;exact wm hl (λk h=>by simp only[aB h,ox h,agv,if_true]) (by grind)
 grind [M.aS,py]
def Ck(l:List ig)(f:ig)(hl:l.length<=maxLen):M.bh aU l f=aa (decide (iQ l f.1),f):=by
 have:M.bw aU l f=aa (fa (λx=>decide (x.1=f.1)) l,f):=by
  unfold M.bw M.jn;exact wm hl (λk h=>by simp only[aB h,ox h,agv,if_true]) (by grind)
 grind [M.bh,py]
def zW(l:List ie)(f:ie)(hl:l.length<=maxLen):M.aT aU l f=aa (decide (iQ l f.1),f):=by
 have:M.bl aU l f=aa (fa (λx=>decide (x.1=f.1)) l,f):=by
  unfold M.bl M.iN;exact wm hl (λk h=>by simp only[aB h,ox h,agv,if_true]) (by grind)
 grind [M.aT,py]
def EU(l:List ByteArray)(m:ByteArray)(hl:l.length<=maxLen):M.cP aU l m=aa (decide (m∈l)):=by
 have:M.dj aU l m=aa (fa (λx=>decide (m=x)) l):=by
  unfold M.dj;exact r7 hl (λk h=>by simp only[aB h,ox h,agv,if_true]) (by grind)
 grind [M.cP,lD]
def EV(l:List Int)(m:Int)(hl:l.length<=maxLen):M.dT aU l m=aa (decide (m∈l)):=by
 have:M.fA aU l m=aa (fa (λx=>decide (m=x)) l):=by
  unfold M.fA;exact r7 hl (λk h=>by simp only[aB h,ox h,agv,if_true]) (by grind)
 grind [M.dT,lD]
def lE{α:Type}{l:List α}{k:Nat}(h:k<=l.length):ga l (0:Int) (k:Int)=aa (l.take k):=by
 apply Wp.eq;exact wp_cut.2 ⟨by omega,by simp⟩
def zX(l:Lw)(hw:WF dv l)(k:Nat)(hk:k<l.1.length):M.ln aU l (k:Int) l.1[k]=aa ((oL l k).getD (0,0)):=by
 have hx:WF dD l.1[k]:=hw.1.2 _ (agA hk);have w1:=hw.1.1;have hs:l.1[k].1.size<=maxLen:=hx.1;have hm:∀m∈l.1[k].2,ByteArray.size m<=maxLen:=hx.2.2;apply Wp.eq;unfold M.ln oL;rw[agz hk];simp only[tx _ hs,lE (ahL hk),q8 (l.1.take k) _ (by grind),W_,aq,au,reduceCtorEq];generalize l.1[k]=x at*;refine⟨λh=>by grind,λh=>?_⟩;rw[ai (by simp[h])];refine⟨λh=>by grind,λh2=>?_⟩;rw[ai h2];refine⟨λh=>by grind,λh3=>?_⟩;rw[ai (by omega)];refine⟨λh=>by grind,λh4=>?_⟩;rw[ai (by omega)]
 refine Wp.count (λs=>s) x.2.length (λi _=>∀j,j<i->Ld x.2 j=ae) (by omega) rfl (λj hj=>by omega) λi c hi hs hJ=>?_
 obtain rfl:c=_:=hs;simp only[W_,aq,au,reduceCtorEq,bo,bc];refine⟨λaH=>?_,λhge=>?_⟩
 .have aH:i<x.2.length:=by omega
  have hf:Ld x.2 i=if np x.2[i]=ag then aa (2,100+(i:Int))else if x.2[i]∈x.2.take i then aa (7,100+(i:Int))else ae:=by
   unfold Ld;rw[agz aH]
  simp only[aB aH,tx _ (hm _ (agA aH)),lE (ahL aH),EU (x.2.take i) _ (by rw[ag0];unfold maxLen;omega),r6 (k:=i) (a:=100) (by omega) (by omega),cy (m:=x.2.length) (by omega) aH,W_,aq,au,reduceCtorEq];refine⟨λh=>?_,λh=>⟨λh2=>?_,λh2=>⟨aH,eZ hJ ?_⟩⟩⟩
  all_goals grind [fZ]
 grind [cg]
def xr(l:Lw)(hw:WF dv l):M.kw aU l=aa (if 8<l.1.length then((4:Int),((1:Int),((8:Int),(0:Int))))else match db (λk=>(oL l k).map λe=>(k,e)) l.1.length with
 |some (k,e)=>r4 1 (k:Int) (aa e)
 |none=>AI):=by
 have w1:=hw.1.1;unfold maxLen at w1;apply Wp.eq;unfold M.kw;simp only[W_,aq,au,reduceCtorEq];refine⟨λh=>by grind,λh8=>?_⟩;rw[ai (by omega)]
 refine Wp.count (λs=>s) l.1.length (λi _=>∀j,j<i->(λk=>(oL l k).map λe=>(k,e)) j=ae) w1 rfl (λj hj=>by omega) λi c hi hs hJ=>?_
 obtain rfl:c=_:=hs;simp only[W_,aq,au,reduceCtorEq,bo,bc];refine⟨λaH=>?_,λhge=>?_⟩
 .have aH:i<l.1.length:=by omega
  simp only[aB aH,zX l hw i aH,cy w1 aH,W_,aq,au,reduceCtorEq];refine⟨λh=>?_,λh=>⟨aH,eZ hJ ?_⟩⟩
  .cases he:oL l i with
   |none=>grind
   |some e=>rw[fZ (Re he) hJ aH];rfl
  .cases he:oL l i with
   |none=>rfl
   |some e=>grind [tv]
 .rw[cg.2 λj hj=>hJ j (by omega)];rfl
theorem oz(t:Ty)(E:List En):M.cE aU t E=aa (decide (mT t E.length)):=by
 obtain⟨(k:Int),(e:Int)⟩:=t;apply Wp.eq;unfold M.cE;simp only[W_,aq,au,reduceCtorEq];simp only[mT];dsimp only[az,Row.den]at*;omega
def zY(t:Ty)(E:List En):M.gu aU t E=aa (HR t E):=by
 obtain⟨(k:Int),(e:Int)⟩:=t;apply Wp.eq;unfold M.gu HR;simp only[oz,W_,aq,au,reduceCtorEq];by_cases hv:mT (k,e) E.length
 .simp only[hv,not_true_eq_false,if_false,false_implies,true_implies,true_and];refine⟨λh=>by rw[aj h],λh1=>⟨λh=>by rw[ai h1,aj h],λh2=>⟨λh=>by rw[ai h1,ai h2,aj h],λh3=>⟨λh=>by rw[ai h1,ai h2,ai h3,aj h],λh4=>⟨(by grind),λh5=>?_⟩⟩⟩⟩⟩;simp only[mT]at hv;dsimp only[az,Row.den]at*
  have hi:e.toNat<E.length:=by omega
  refine fj.2 ⟨by omega,?_⟩
  grind
 grind
def EW(r:Ty):M.ed aU r=aa (decide (VR r)):=by
 obtain⟨(k:Int),(e:Int)⟩:=r;apply Wp.eq;unfold M.ed;simp only[W_,aq,au,reduceCtorEq];simp only[VR];grind
def Iw(a b:Rw):M.kz aU a b=aa (decide (tX a b)):=by
 obtain⟨⟨(a1:Int),(a2:Int)⟩,(a3:Int),(a4:Int),(a5:Int)⟩:=a;obtain⟨⟨(b1:Int),(b2:Int)⟩,(b3:Int),(b4:Int),(b5:Int)⟩:=b;apply Wp.eq;unfold M.kz M.jk M.gW;simp only[EW,W_,aq,au,reduceCtorEq];simp only[tX];dsimp only[az,Row.den]at*
 by_cases h1:VR (a1,a2)<;>by_cases h2:VR (b1,b2)<;>simp only[h1,h2,W_,aq,au,reduceCtorEq]<;>omega
def Lj(l:List Rw)(x:Rw)(hl:l.length<=maxLen):Wp (M.b7 aU l x) λr=>r.2.1=af↔∃y∈l,tX y x:=by
 unfold M.b7 M.iI
 refine Wp.count (λs=>s.1) l.length (λk s=>s.2=x/\∀j,j<k->∀h:j<l.length,¬tX l[j] x) hl rfl ⟨rfl,λj hj=>by omega⟩ λk c hk hs hJ=>?_
 obtain⟨c1,c2⟩:=c;obtain⟨h1,hJ⟩:=hJ;obtain rfl:c2=x:=h1;obtain rfl:c1=_:=hs;simp only[Iw,W_,aq,au,reduceCtorEq,bo,bc];refine⟨λaH=>?_,λhge=>?_⟩
 .have aH:k<l.length:=by omega
  simp only[aB aH,cy hl aH,W_,aq,au,reduceCtorEq]
  grind
 .refine ax id ?_
  grind [agS]
def NU(t:Q9)(E:List En):M.kA aU t E=aa (qv t E):=by
 apply Wp.eq;unfold M.kA qv;simp only[oz,zY,EW,W_,aq,au,reduceCtorEq];refine⟨λh=>by grind,λh64=>?_⟩;rw[ai (c:=64<t.2.2.2.length) (by omega)];refine⟨λh1=>by rw[aj (λg=>h1 g.1)],λh1=>⟨(by grind),λh2=>?_⟩⟩;rw[ai (λg=>g ⟨h1,h2⟩)]
 refine Wp.count (λs=>s) t.2.2.2.length (λk _=>∀j,j<k->zU t E j=ae) (by omega) rfl (λj hj=>by omega) λk s hk hs hJ=>?_
 obtain rfl:s=_:=hs;simp only[W_,aq,au,reduceCtorEq,bo,bc];refine⟨λaH=>?_,λhge=>?_⟩
 .have aH:k<t.2.2.2.length:=by omega
  have hf:zU t E k=if wi t.2.2.2[k] t E then aa ((k:Int),3)else if∃y∈t.2.2.2.take k,tX y t.2.2.2[k]then aa ((k:Int),11)else ae:=by
   unfold zU;rw[agz aH]
  have bad:wi t.2.2.2[k] t E->((k:Int),(3:Int))=(db (zU t E) t.2.2.2.length).getD (0,0):=λhw=>by
   grind [fZ]
  have good:¬wi t.2.2.2[k] t E->Wp (M.b7 aU (t.2.2.2.take k) t.2.2.2[k]) λy=>(y.2.1=af->((k:Int),(11:Int))=(db (zU t E) t.2.2.2.length).getD (0,0))/\(y.2.1=ag->k<t.2.2.2.length/\∀j,j<k+1->zU t E j=ae):=λhw=>by
   rw[ai hw]at hf
   refine(Lj _ _ (by rw[ag0];unfold maxLen;omega)).mono λy hy=>⟨λh=>?_,λh=>⟨aH,eZ hJ ?_⟩⟩
   all_goals grind [fZ]
  simp only[aB aH,lE (ahL aH),cy (m:=t.2.2.2.length) (by omega) aH,W_,aq,au,reduceCtorEq];unfold wi at bad good;unfold Dm at bad good
  grind
 grind [cg]
def Lk{t:Q9}{E:List En}:(qv t E).2≠0->((qv t E).1= -1\/(0<=(qv t E).1/\(qv t E).1<=64)):=by
 unfold qv;intro h;split
 .grind
 split
 .exact .inl rfl
 rename_i h1 h2
 cases hf:db (zU t E) t.2.2.2.length with
 |none=>grind
 |some e=>
  obtain⟨k,hk,he,_⟩:=gk hf;unfold zU at he;split at he
  .cases he
  split at he
  .grind
  split at he
  all_goals grind
def wq(l:Lw)(hw:WF dv l):M.jB aU l=aa (if 8<l.2.1.length then((4:Int),((2:Int),((8:Int),(0:Int))))else match db (λk=>(tq l k).map λe=>(k,e)) l.2.1.length with
 |some (k,e)=>r4 2 (k:Int) (aa e)
 |none=>AI):=by
 have w1:=hw.2.1.1;have w0:=hw.1.1;have wt:∀t∈l.2.1,WF bn t:=hw.2.1.2;unfold maxLen at w1;apply Wp.eq;unfold M.jB;simp only[W_,aq,au,reduceCtorEq];refine⟨λh=>by grind,λh8=>?_⟩;rw[ai (by omega)]
 refine Wp.count (λs=>s) l.2.1.length (λi _=>∀j,j<i->(λk=>(tq l k).map λe=>(k,e)) j=ae) w1 rfl (λj hj=>by omega) λi c hi hs hJ=>?_
 obtain rfl:c=_:=hs;simp only[W_,aq,au,reduceCtorEq,bo,bc];refine⟨λaH=>?_,λhge=>?_⟩
 .have aH:i<l.2.1.length:=by omega
  have lJ:l.2.1[i].1.size<=maxLen:=(wt _ (agA aH)).1
  have hE:tq l i=if np l.2.1[i].1=ag then aa (2,0)else if iQ l.1 l.2.1[i].1\/iQ (l.2.1.take i) l.2.1[i].1 then aa (7,0)else if(qv l.2.1[i] l.1).2=0 then ae else aa ((qv l.2.1[i] l.1).2,if 0<=(qv l.2.1[i] l.1).1 then 100+(qv l.2.1[i] l.1).1 else 0):=by
   unfold tq;rw[agz aH]
  simp only[aB aH,NU,tx _ lJ,lE (ahL aH),q8 _ _ w0,tZ (l.2.1.take i) _ (by rw[ag0];unfold maxLen;omega),cy w1 aH,W_,aq,au,reduceCtorEq]
  have bad:∀e,tq l i=aa e->r4 2 (i:Int) (aa e)=(match db (λk=>(tq l k).map λe=>(k,e)) l.2.1.length with|some (k,e)=>r4 2 (k:Int) (aa e)|none=>AI):=λe he=>by
   rw[fZ (Re he) hJ aH]
  have good:tq l i=ae->i<l.2.1.length/\∀j,j<i+1->(λk=>(tq l k).map λe=>(k,e)) j=ae:=(by grind)
  have KU:=Lk (t:=l.2.1[i]) (E:=l.1);generalize qv l.2.1[i] l.1=te at*;obtain⟨(r:Int),(c:Int)⟩:=te;dsimp only at*;refine⟨λh=>?_,λh=>⟨λh2=>?_,λh2=>⟨λh3=>?_,λh3=>⟨λh4=>?_,λh4=>?_⟩⟩⟩⟩
  .exact⟨λ_=>bad (2,0) (hE.trans (aj h)),λg=>absurd g (by decide)⟩
  .rw[ai (c:=np l.2.1[i].1=ag) (by simp[h]),aj (Or.inl h2)]at hE;exact⟨λ_=>bad (7,0) hE,λg=>absurd g (by decide)⟩
  .rw[ai (c:=np l.2.1[i].1=ag) (by simp[h]),aj (Or.inr h3)]at hE;exact⟨λ_=>bad (7,0) hE,λg=>absurd g (by decide)⟩
  .rw[ai (c:=np l.2.1[i].1=ag) (by simp[h]),ai (λg=>g.elim h2 h3),ai h4]at hE;have hr:=KU h4;refine⟨λg=>⟨λ_=>?_,λe=>absurd e h4⟩,λg=>⟨λ_=>?_,λe=>absurd e h4⟩⟩
   .rw[bL (by omega) (by omega)];exact bad (c,100+r) (hE.trans (by grind))
   .exact bad (c,0) (hE.trans (by grind))
  grind
 .rw[cg.2 λj hj=>hJ j (by omega)];rfl
noncomputable def pz(l:Lw)(f:Fd)(a b:List Fd):Int:=if np f.1=ag then 2 else if iQ a f.1\/iQ b f.1 then 7 else if¬mT f.2 l.1.length then 8 else 0
def qF(l:Lw)(f:Fd)(a b:List Fd)(hf:f.1.size<=maxLen)(ha:a.length<=maxLen)(hb:b.length<=maxLen):M.iK aU l f a b=aa (pz l f a b):=by
 apply Wp.eq;unfold M.iK;simp only[tx _ hf,r8 _ _ ha,r8 _ _ hb,oz,W_,aq,au,reduceCtorEq]
 grind [pz]
def zZ(l:List UInt8)(c:UInt8):0<=ahA l c↔c∈l:=by
 induction l with
 |nil=>simp[ahA]
 |cons b l ih=>
  have hg:=Go.Lib.indexByte_ge l c;unfold ahA
  grind
def wu(s:ByteArray)(_:s.size<=maxLen):M.jC aU s=aa (decide (plain s)):=by
 have hc:M.strings_Contains aU s (⟨#[34]⟩:ByteArray)=aa (decide (0<=ahA s.data.toList 34)):=rfl
 have cG:0<=ahA s.data.toList 34↔∃i,∃h:i<s.size,(s[i].toNat:Int)=34:=by
  rw[zZ];constructor
  .intro h;obtain⟨i,hi,e⟩:=agS h;refine⟨i,by simpa using hi,?_⟩
   have:s[i]'(by simpa using hi)=34:=by
    have e:s.data[i]'(by simpa using hi)=34:=by simpa using e
    exact e
   rw[this];rfl
  .rintro⟨i,hi,e⟩
   have e2:s[i]=34:=by
    apply UInt8.toNat_inj.1
    show s[i].toNat=34
    omega
   have:(34:UInt8)=s.data.toList[i]'(by simpa using hi):=by rw[<-e2];simp;rfl
   grind
 apply Wp.eq;unfold M.jC;simp only[hc,W_,aq,au,reduceCtorEq];refine⟨λh=>?_,λh64=>⟨λh=>?_,λNV=>?_⟩⟩
 .grind [plain]
 .grind [plain]
 refine Wp.count (λs=>s) s.size (λi _=>∀j,j<i->∀h:j<s.size,32<=(s[j].toNat:Int)/\(s[j].toNat:Int)<=126) (by omega) rfl (λj hj=>by omega) λi c hi hs hJ=>?_
 obtain rfl:c=_:=hs
 rcases Nat.lt_or_ge i s.size with aH|hge
 .have hb:kS s (i:Int)=aa (s[i].toNat:Int):=by
   have:=(Pf (x:=((s[i].toNat:Nat):Int))).1 (r3 (s:=s) (i:=(i:Int)).2 ⟨by omega,by simp⟩);exact this
  simp only[EN aH,hb,cy (m:=s.size) (by omega) aH,W_,aq,au,reduceCtorEq,bo,bc];refine⟨λh=>?_,λh=>⟨λh2=>?_,λh2=>⟨aH,eZ hJ λ_=>by omega⟩⟩⟩
  all_goals grind [plain]
 .obtain rfl:i=s.size:=by omega
  simp only[wh,W_,aq,au,reduceCtorEq,bc];refine(⟨λi hi=>?_,by omega⟩:plain s)
  grind
def Cm(sg:sA):Prop:=∀e:List Ty,(∀n∈e,WF ay n)->M.mR aU e sg=aa (NP e sg)
def l7{sg:sA}(hT:Cm sg){e:List Ty}(want:Ty)(hw:∀n∈e,WF ay n):M.fM aU e sg want=aa (zV e sg want):=by
 apply Wp.eq;unfold M.fM;simp only[hT e hw,Ji,W_,aq,au,reduceCtorEq]
 grind [zV]
def z6(l:Lw)(x:ie)(hw:WF br x)(il:pw x)(hT:Cm (jc l x))(k:Nat)(hk:k<x.2.2.2.2.length):M.ju aU x (k:Int) (jc l x)=aa (xp l x k x.2.2.2.2[k]):=by
 have NW:=hw.2.2.2.2.2 _ (agA hk);have Rf:=il.2.2.2.2.2.2 _ (agA hk)
 obtain⟨r,hr⟩:∃r,r=x.2.2.2.2[k]:=⟨_,rfl⟩
 have Zf:=il.2.2.2.1
 have NX:Wp (Loop (S:=Int×Int) (X:=Int) (λs4=>
  (if(decide (s4.2<((x.2.2.2.2.take k).length:Int)))=af then
  ((idx (x.2.2.2.2.take k) s4.2).bind λx6=>
  (if(decide ((x6.2.1:Int)=r.2.1))=af then
  some (agw.wrap (s4.1+(1:Int)))
  else
  some s4.1):Option (Int)).bind λj5=>
  some (Sum.inl (j5,agw.wrap (s4.2+(1:Int))))
  else
  some (Sum.inr s4.1))) aU ((0:Int),(0:Int))) λn=>n=(It x k r.2.1:Int):=by
  have P5:(x.2.2.2.2.take k).length=k:=by rw[ag0];omega
  refine Wp.count (λs=>s.2) k (λj s=>s.1=(((x.2.2.2.2.take j).countP λr'=>decide ((r'.2.1:Int)=r.2.1):Nat):Int)) (by omega) rfl rfl λj s hj hs VF=>?_
  obtain⟨sb,c⟩:=s;dsimp only at hs VF;subst hs;rw[P5];have KV:(x.2.2.2.2.take j).countP (λr'=>decide ((r'.2.1:Int)=r.2.1))<=60:=agW List.countP_le_length (by rw[ag0];omega);simp only[W_,aq,au,reduceCtorEq,bo,bc];refine⟨λhjk=>?_,λhjk=>?_⟩
  .have DU:j<x.2.2.2.2.length:=by omega
   have Jk:j<(x.2.2.2.2.take k).length:=by omega
   simp only[aB Jk,List.getElem_take,cy (m:=k) (by omega) (show j<k by omega),W_,aq,au,reduceCtorEq]
   have Xh:(x.2.2.2.2.take (j+1)).countP (λr'=>decide ((r'.2.1:Int)=r.2.1))=(x.2.2.2.2.take j).countP (λr'=>decide ((r'.2.1:Int)=r.2.1))+if(x.2.2.2.2[j].2.1:Int)=r.2.1 then 1 else 0:=by
    rw[<-agP DU,List.countP_append];simp[List.countP_cons]
   refine⟨λh'=>⟨by omega,?_⟩,λh'=>⟨by omega,?_⟩⟩
   .rw[Xh,aj h',VF,bL (by omega) (by omega)];rfl
   .rw[Xh,ai h',VF];rfl
  .obtain rfl:j=k:=by omega
   exact VF
 apply Wp.eq;unfold M.ju;rw[<-hr];have lJ:r.1.size<=maxLen:=(hr▸NW).1
 have Zg:r.2.2.2.2.2.2.2.size<=maxLen:=by
  have:=(hr▸Rf).2.1;unfold maxLen;omega
 have KV:It x k r.2.1<=60:=agW List.countP_le_length (by rw[ag0];omega);have hg:∀n∈r.2.2.2.2.2.1,WF ay n:=(hr▸NW).2.2.2.2.2.1.2;have hv:∀n∈r.2.2.2.2.2.2.1,WF ay n:=(hr▸NW).2.2.2.2.2.2.1.2;have Rg:tt x k r↔(r.2.2.1:Int)≠-1/\((r.2.2.1:Int)<0\/(k:Int)<=r.2.2.1\/∃y,x.2.2.2.2[(r.2.2.1:Int).toNat]? =aa y/\(y.2.1:Int)≠r.2.1):=Iff.rfl;simp only[aB hk,<-hr,lE (ahL hk),Ck (x.2.2.2.2.take k) _ (by rw[ag0];unfold maxLen;omega),tx _ lJ,wu _ Zg,W_,aq,au,reduceCtorEq];simp only[aw]at NX
 refine NX.mono λn hn=>?_
 subst hn;clear NX NW Rf hr;unfold xp;refine⟨λh=>by rw[aj h],λh1=>?_⟩;rw[ai (c:=np r.1=ag) (by simp[h1])];refine⟨λh=>by rw[aj h],λh2=>?_⟩;rw[ai (c:=iQ (x.2.2.2.2.take k) r.1) h2];generalize It x k r.2.1=q at*;obtain⟨nm,(d:Int),(p:Int),(pr:Int),v,g,val,src⟩:=r;obtain⟨(v1:Int),(v2:Int)⟩:=v;dsimp only[az,Row.den]at*;refine⟨λh=>by rw[aj (c:=¬(0<=d/\d<(x.2.2.2.1.length:Int))) (by omega)],λh3=>⟨λh=>by rw[aj (c:=¬(0<=d/\d<(x.2.2.2.1.length:Int))) (by omega)],λh4=>?_⟩⟩;rw[ai (c:=¬(0<=d/\d<(x.2.2.2.1.length:Int))) (by omega)]
 have hd:d.toNat<x.2.2.2.1.length:=by omega
 have VG:¬VR ((v1,v2):Ty)\/v1=v2↔v1<0\/v2<=v1\/109573<v2:=by
  simp only[VR];dsimp only[az,Row.den];omega
 refine⟨λhp=>⟨λh=>by rw[aj (Rg.2 ⟨hp, .inl h⟩)],λh5=>⟨λh=>by rw[aj (Rg.2 ⟨hp, .inr (.inl h)⟩)],λh6=>fj.2 ⟨⟨by omega,by omega⟩,λh7=>by rw[aj (Rg.2 ⟨hp, .inr (.inr ⟨_,agz (by omega),h7⟩)⟩)],λh7=>?_⟩⟩⟩,λhp=>?_⟩
 .have R2:¬tt x k (nm,d,p,pr,(v1,v2),g,val,src):=λh=>by
   obtain⟨_,g1|g1|⟨y,g1,g2⟩⟩:=Rg.1 h
   .omega
   .omega
   .rw[agz (by omega)]at g1;cases g1;exact g2 h7
  clear Rg;rw[ai R2]
  have last:Wp (idx x.2.2.2.1 d) λZh=>Wp (M.fM aU val (jc l x) Zh.2) λZi=>Zi=match x.2.2.2.1[d.toNat]? with
   |some d=>zV val (jc l x) d.2
   |none=>0:=by
   refine fj.2 ⟨by omega,?_⟩;rw[l7 hT _ hv,agz hd];exact .some rfl
  by_cases g1:pr<0\/9<pr\/¬VR ((v1,v2):Ty)\/v1=v2
  .rw[aj g1];refine⟨λ_=>rfl,λa1=>⟨λ_=>rfl,λa2=>⟨λ_=>rfl,λa3=>⟨λ_=>rfl,λa4=>⟨λ_=>rfl,λa5=>?_⟩⟩⟩⟩⟩;rw[VG]at g1;omega
  rw[ai g1]
  have Sz:¬(pr<0\/9<pr\/v1<0\/v2<=v1\/109573<v2):=by rw[<-VG];exact g1
  refine⟨λh=>by omega,λa1=>⟨λh=>by omega,λa2=>⟨λh=>by omega,λa3=>⟨λh=>by omega,λa4=>⟨λh=>by omega,λa5=>?_⟩⟩⟩⟩⟩;refine⟨λh=>by rw[aj (by omega)],λh8=>?_⟩;rw[ai (by omega)];refine⟨λh=>by rw[aj h],λh9=>?_⟩;rw[ai (λh=>h h9)];refine⟨λh=>?_,λh=>?_⟩
  .rw[l7 hT _ hg];refine .some ⟨λh'=>by rw[aj ⟨by omega,h'⟩],λh'=>?_⟩;rw[ai (λg=>g.2 h')];exact last
  .rw[ai (λg=>h (by omega))];exact last
 .have R2:¬tt x k (nm,d,p,pr,(v1,v2),g,val,src):=λh=>(Rg.1 h).1 hp
  clear Rg;rw[ai R2]
  have last:Wp (idx x.2.2.2.1 d) λZh=>Wp (M.fM aU val (jc l x) Zh.2) λZi=>Zi=match x.2.2.2.1[d.toNat]? with
   |some d=>zV val (jc l x) d.2
   |none=>0:=by
   refine fj.2 ⟨by omega,?_⟩;rw[l7 hT _ hv,agz hd];exact .some rfl
  by_cases g1:pr<0\/9<pr\/¬VR ((v1,v2):Ty)\/v1=v2
  .rw[aj g1];refine⟨λ_=>rfl,λa1=>⟨λ_=>rfl,λa2=>⟨λ_=>rfl,λa3=>⟨λ_=>rfl,λa4=>⟨λ_=>rfl,λa5=>?_⟩⟩⟩⟩⟩;rw[VG]at g1;omega
  rw[ai g1]
  have Sz:¬(pr<0\/9<pr\/v1<0\/v2<=v1\/109573<v2):=by rw[<-VG];exact g1
  refine⟨λh=>by omega,λa1=>⟨λh=>by omega,λa2=>⟨λh=>by omega,λa3=>⟨λh=>by omega,λa4=>⟨λh=>by omega,λa5=>?_⟩⟩⟩⟩⟩;refine⟨λh=>by rw[aj (by omega)],λh8=>?_⟩;rw[ai (by omega)];refine⟨λh=>by rw[aj h],λh9=>?_⟩;rw[ai (λh=>h h9)];refine⟨λh=>?_,λh=>?_⟩
  .rw[l7 hT _ hg];refine .some ⟨λh'=>by rw[aj ⟨by omega,h'⟩],λh'=>?_⟩;rw[ai (λg=>g.2 h')];exact last
  .rw[ai (λg=>h (by omega))];exact last
def Ix(x:ie):Prop:=∀d:Nat,d<x.2.2.2.1.length->∃tr,M.gG aU x (d:Int)=aa tr/\tr.length<=1000/\((d:Int)∈tr↔(d:Int)∈Jj x d)
def Iy(l:Lw)(k:Nat)(hk:k<l.2.2.length)(hs:∀s∈l.2.2,s.2.2.1.length<=100000/\s.2.2.2.1.length<=100000):M.jm aU l (k:Int)=aa ((jc l l.2.2[k]).1,(jc l l.2.2[k]).2.1,(jc l l.2.2[k]).2.2.2.2.2,(jc l l.2.2[k]).2.2.1,(jc l l.2.2[k]).2.2.2.1,(jc l l.2.2[k]).2.2.2.2.1):=by
 rw[<-NR l k hk hs];unfold M.lM;rw[ai (by simp),agv,ai (by simp;omega)];rfl
def Rh(l:Lw)(x:ie)(i:Nat)(h:i<x.2.2.1.length):Le l x i=if pz l x.2.2.1[i] (x.2.2.1.take i) []≠0 then aa (pz l x.2.2.1[i] (x.2.2.1.take i) [],100+(i:Int))else ae:=by
 have hn:∀nm,¬iQ ([]:List Fd) nm:=λnm ⟨y,hy,_⟩=>by cases hy
 grind [Le,pz]
def Ri(l:Lw)(x:ie)(i:Nat)(h:i<x.2.2.2.1.length):Lf l x i=if pz l x.2.2.2.1[i] x.2.2.1 (x.2.2.2.1.take i)≠0 then aa (pz l x.2.2.2.1[i] x.2.2.1 (x.2.2.2.1.take i),200+(i:Int))else ae:=by
 grind [Lf,pz]
def xu(l:Lw)(hw:WF dv l)(il:gy l)(k:Nat)(hk:k<l.2.2.length)(hT:Cm (jc l l.2.2[k]))(hC:Ix l.2.2[k]):M.kD aU l (k:Int)=aa ((uz l k).getD (0,0)):=by
 have uv:=il.2.2.2.2.2 _ (agA hk);have EX:=hw.2.2.2 _ (agA hk)
 have Uo:=Iy l k hk λs hs=>⟨by have:=(il.2.2.2.2.2 s hs).2.1;omega,by have:=(il.2.2.2.2.2 s hs).2.2.1;omega⟩
 have hE:uz l k=if np l.2.2[k].1=ag then aa (2,0)else if iQ l.1 l.2.2[k].1\/iQ l.2.1 l.2.2[k].1\/iQ (l.2.2.take k) l.2.2[k].1 then aa (7,0)else if px l k l.2.2[k]then aa (6,0)else
  if 12<l.2.2[k].2.2.1.length then aa (4,112)else if 12<l.2.2[k].2.2.2.1.length then aa (4,212)else((Is l l.2.2[k]).or (db (ES l l.2.2[k]) l.2.2[k].2.2.2.2.length)).or (db (Iu l.2.2[k]) l.2.2[k].2.2.2.1.length):=by
  unfold uz;rw[agz hk]
 have h5:=il.2.2.1
 obtain⟨x,hx⟩:∃x,x=l.2.2[k]:=⟨_,rfl⟩
 simp only[<-hx]at uv EX Uo hE hT hC;have Iz:=uv.2.2.1;have Zf:=uv.2.2.2.1;have adJ:=uv.2.1;have lJ:x.1.size<=maxLen:=EX.1
 have P5:(l.2.2.take k).length=k:=by rw[ag0];omega
 have cG:∀f∈x.2.2.1,(f.1:ByteArray).size<=maxLen:=λf hf=>by have:=uv.2.2.2.2.1 f hf;unfold maxLen;omega
 have hdf:∀f∈x.2.2.2.1,(f.1:ByteArray).size<=maxLen:=λf hf=>by have:=uv.2.2.2.2.2.1 f hf;unfold maxLen;omega
 apply Wp.eq;unfold M.kD;rw[aB hk,agv,lE (ahL hk),agv,<-hx]
 have Ll:(((M.iH aU l.1 x.1).bind λy4=>
  (if y4=af then
  some (af,x)
  else
  (M.iY aU l.2.1 x.1).bind λy5=>
  (if y5=af then
  some (af,x)
  else
  (M.aT aU (l.2.2.take k) x).bind λy6=>
  some (y6.1,y6.2))):Option (Bool×br.den)))=aa (decide (iQ l.1 x.1\/iQ l.2.1 x.1\/iQ (l.2.2.take k) x.1),x):=by
  apply Wp.eq;simp only[q8 _ _ hw.1.1,tZ _ _ hw.2.1.1,zW (l.2.2.take k) _ (by rw[P5];unfold maxLen;omega),W_,aq,au,reduceCtorEq];exact⟨λh=>by rw[an (Or.inl h)],λh1=>⟨λh=>by rw[an (Or.inr (Or.inl h))],λh2=>av (λb=>(b,x)) (decide_eq_decide.2 ⟨λh=> .inr (.inr h),λh=>(h.resolve_left h1).resolve_left h2⟩)⟩⟩
 rw[Ll,agv,tx _ lJ,agv,hE];by_cases h1:np x.1=ag
 .rw[aj (by simp[h1]),aj h1];exact .some rfl
 rw[ai (by simpa using h1),ai h1];by_cases h2:iQ l.1 x.1\/iQ l.2.1 x.1\/iQ (l.2.2.take k) x.1
 .rw[aj (an h2),aj h2];exact .some rfl
 rw[ai (by simpa using h2),ai h2];have Pj:px l k x↔(x.2.1:Int)≠-1/\((x.2.1:Int)<0\/(k:Int)<=x.2.1\/∃y,l.2.2[(x.2.1:Int).toNat]? =aa y/\(y.2.1:Int)≠-1):=Iff.rfl
 have Lm:((if(!decide ((x.2.1:Int)=(-1:Int)))=af then
  (if(decide ((x.2.1:Int)<(0:Int)))=af then
  some af
  else
  (if(decide ((k:Int)<=x.2.1))=af then
  some af
  else
  (idx (l.2.2.take k) x.2.1).bind λx9=>
  some (!decide ((x9.2.1:Int)=(-1:Int)))))
  else
  some ag):Option (Bool))=aa (decide (px l k x)):=by
  apply Wp.eq;simp only[W_,aq,au,reduceCtorEq]
  obtain⟨(m:Int),hm⟩:∃m:Int,m=x.2.1:=⟨_,rfl⟩
  simp only[<-hm]at Pj⊢;refine⟨λhp=>⟨λh=>(Pj.2 ⟨hp, .inl h⟩),λh3=>⟨λh=>(Pj.2 ⟨hp, .inr (.inl h)⟩),λh4=>fj.2 ⟨by dsimp only[az,Row.den]at*;omega,?_⟩⟩⟩,λhp h=>(Pj.1 h).1 hp⟩
  have hmn:m.toNat<k:=by dsimp only[az,Row.den]at*;omega
  rw[List.getElem_take];have w5:l.2.2[m.toNat]? =aa (l.2.2[m.toNat]'(by omega)):=agz (by omega);rw[<-decide_not];refine decide_eq_decide.2 ⟨λh g=>?_,λh=>Classical.not_not.1 λh'=>h (Pj.2 ⟨hp, .inr (.inr ⟨_,w5,h'⟩)⟩)⟩;obtain⟨_,g1|g1|⟨y,g1,g2⟩⟩:=Pj.1 g
  .exact absurd g1 h3
  .exact absurd g1 h4
  .rw[w5]at g1;cases g1;exact g2 h
 rw[Lm,agv];by_cases h3:px l k x
 .rw[aj (an h3),aj h3];exact .some rfl
 rw[ai (by simpa using h3),ai h3];clear Ll Lm Pj hE;dsimp only;by_cases h4:12<x.2.2.1.length
 .rw[aj (an (by omega)),aj h4];exact .some rfl
 rw[ai (by rw[aw];omega),ai h4];by_cases h5:12<x.2.2.2.1.length
 .rw[aj (an (by omega)),aj h5];exact .some rfl
 rw[ai (by rw[aw];omega),ai h5,Uo];unfold Is;simp only[W_,aq,au,reduceCtorEq]
 refine Wp.count (λs=>s) x.2.2.1.length (λi _=>∀j,j<i->Le l x j=ae) (by omega) rfl (λj hj=>by omega) λi c hi hs hJ=>?_
 obtain rfl:c=_:=hs;simp only[W_,aq,au,reduceCtorEq,bo,bc];refine⟨λaH=>?_,λhge=>?_⟩
 .have aH:i<x.2.2.1.length:=by omega
  have hf:=Rh l x i aH;simp only[aB aH,lE (ahL aH),qF l _ (x.2.2.1.take i) [] (cG _ (agA aH)) (by rw[ag0];unfold maxLen;omega) (by simp),r6 (k:=i) (a:=100) (by omega) (by omega),cy (m:=x.2.2.1.length) (by omega) aH,W_,aq,au,reduceCtorEq];refine⟨λh=>?_,λh=>⟨aH,eZ hJ (by rw[hf,ai (λg=>g h)])⟩⟩;rw[fZ (hf.trans (aj h)) hJ aH];rfl
 rw[cg.2 λj(hj:j<x.2.2.1.length)=>hJ j (by omega),Option.none_or];clear hJ
 refine Wp.count (λs=>s) x.2.2.2.1.length (λi _=>∀j,j<i->Lf l x j=ae) (by omega) rfl (λj hj=>by omega) λi c hi hs hJ=>?_
 obtain rfl:c=_:=hs;simp only[W_,aq,au,reduceCtorEq,bo,bc];refine⟨λaH=>?_,λhge=>?_⟩
 .have aH:i<x.2.2.2.1.length:=by omega
  have hf:=Ri l x i aH;simp only[aB aH,lE (ahL aH),qF l _ x.2.2.1 (x.2.2.2.1.take i) (hdf _ (agA aH)) (by unfold maxLen;omega) (by rw[ag0];unfold maxLen;omega),r6 (k:=i) (a:=200) (by omega) (by omega),cy (m:=x.2.2.2.1.length) (by omega) aH,W_,aq,au,reduceCtorEq];refine⟨λh=>?_,λh=>⟨aH,eZ hJ (by rw[hf,ai (λg=>g h)])⟩⟩;rw[fZ (hf.trans (aj h)) hJ aH];rfl
 rw[cg.2 λj(hj:j<x.2.2.2.1.length)=>hJ j (by omega),Option.none_or];clear hJ
 refine Wp.count (λs=>s) x.2.2.2.2.length (λi _=>∀j,j<i->ES l x j=ae) (by omega) rfl (λj hj=>by omega) λi c hi hs hJ=>?_
 obtain rfl:c=_:=hs;simp only[W_,aq,au,reduceCtorEq,bo,bc];refine⟨λaH=>?_,λhge=>?_⟩
 .have aH:i<x.2.2.2.2.length:=by omega
  have hf:ES l x i=if xp l x i x.2.2.2.2[i]≠0 then aa (xp l x i x.2.2.2.2[i],300+(i:Int))else ae:=by
   unfold ES;rw[agz aH]
  have hr:M.ju aU x (i:Int) ((jc l x).1,((jc l x).2.1,((jc l x).2.2.1,((jc l x).2.2.2.1,((jc l x).2.2.2.2.1,(jc l x).2.2.2.2.2)))))=_:=z6 l x EX uv hT i aH;simp only[hr,r6 (k:=i) (a:=300) (by omega) (by omega),cy (m:=x.2.2.2.2.length) (by omega) aH,W_,aq,au,reduceCtorEq];refine⟨λh=>?_,λh=>⟨aH,eZ hJ (by rw[hf,ai (λg=>g h)])⟩⟩;rw[fZ (hf.trans (aj h)) hJ aH];rfl
 rw[cg.2 λj(hj:j<x.2.2.2.2.length)=>hJ j (by omega),Option.none_or];clear hJ
 refine Wp.count (λs=>s) x.2.2.2.1.length (λi _=>∀j,j<i->Iu x j=ae) (by omega) rfl (λj hj=>by omega) λi c hi hs hJ=>?_
 obtain rfl:c=_:=hs;simp only[W_,aq,au,reduceCtorEq,bo,bc];refine⟨λaH=>?_,λhge=>?_⟩
 .have aH:i<x.2.2.2.1.length:=by omega
  obtain⟨tr,e1,e2,e3⟩:=hC i aH
  have hf:Iu x i=if(i:Int)∈Jj x i then aa (9,200+(i:Int))else ae:=rfl
  simp only[e1,EV tr _ (by unfold maxLen;omega),r6 (k:=i) (a:=200) (by omega) (by omega),cy (m:=x.2.2.2.1.length) (by omega) aH,W_,aq,au,reduceCtorEq];refine⟨λh=>?_,λh=>⟨aH,eZ hJ (by rw[hf,ai (λg=>h (e3.2 g))])⟩⟩;rw[fZ (hf.trans (aj (e3.1 h))) hJ aH];rfl
 .rw[cg.2 λj(hj:j<x.2.2.2.1.length)=>hJ j (by omega)];rfl
theorem wv(l:Lw)(hw:WF dv l)(il:gy l)(hT:∀x∈l.2.2,Cm (jc l x))(hC:∀x∈l.2.2,Ix x):M.jD aU l=aa (if 4<l.2.2.length then((4:Int),((3:Int),((4:Int),(0:Int))))else match db (λk=>(uz l k).map λe=>(k,e)) l.2.2.length with
 |some (k,e)=>r4 3 (k:Int) (aa e)
 |none=>AI):=by
 have w1:=hw.2.2.1;unfold maxLen at w1;apply Wp.eq;unfold M.jD;simp only[W_,aq,au,reduceCtorEq];refine⟨λh=>by grind,λh8=>?_⟩;rw[ai (by omega)]
 refine Wp.count (λs=>s) l.2.2.length (λi _=>∀j,j<i->(λk=>(uz l k).map λe=>(k,e)) j=ae) w1 rfl (λj hj=>by omega) λi c hi hs hJ=>?_
 obtain rfl:c=_:=hs;simp only[W_,aq,au,reduceCtorEq,bo,bc];refine⟨λaH=>?_,λhge=>?_⟩
 .have aH:i<l.2.2.length:=by omega
  simp only[xu l hw il i aH (hT _ (agA aH)) (hC _ (agA aH)),cy w1 aH,W_,aq,au,reduceCtorEq];refine⟨λh=>?_,λh=>⟨aH,eZ hJ ?_⟩⟩
  .cases he:uz l i with
   |none=>grind
   |some e=>rw[fZ (Re he) hJ aH];rfl
  .cases he:uz l i with
   |none=>rfl
   |some e=>grind [Ci]
 .rw[cg.2 λj hj=>hJ j (by omega)];rfl
def Cn(l:Lw)(hw:WF dv l)(il:gy l)(hT:∀x∈l.2.2,Cm (jc l x))(hC:∀x∈l.2.2,Ix x):M.fB aU l=aa (ET l):=by
 have bad:∀(f:Nat->Option (Int×Int))(m:Nat)(sec:Int)(k:Nat)(e:Int×Int),(∀i e,f i=aa e->e.1≠0)->db (λk=>(f k).map λe=>(k,e)) m=aa (k,e)->(!decide ((r4 sec (k:Int) (aa e)).1=0))=af:=λf m sec k e hf he=>by
  obtain⟨j,_,hj,_⟩:=gk he;obtain⟨e',sN,h2⟩:=Option.map_eq_some_iff.1 hj;cases h2;have:e.1≠0:=hf _ _ sN
  show(!decide (e.1=0))=af
  simp[this]
 unfold M.fB ET;rw[xr l hw,agv];by_cases h1:8<l.1.length
 .grind
 rw[ai h1,ai h1]
 cases hA:db (λk=>(oL l k).map λe=>(k,e)) l.1.length with
 |some p=>
  obtain⟨k,e⟩:=p;dsimp only;rw[aj (bad _ _ _ _ _ (λi e=>tv) hA)]
 |none=>
  dsimp only;rw[ai (by simp[AI]),wq l hw,agv];by_cases h2:8<l.2.1.length
  .grind
  rw[ai h2,ai h2]
  cases hB:db (λk=>(tq l k).map λe=>(k,e)) l.2.1.length with
  |some p=>
   obtain⟨k,e⟩:=p;dsimp only;rw[aj (bad _ _ _ _ _ (λi e=>Cg) hB)]
  |none=>
   grind [AI,wv]
end L
namespace L
def Ln(op:Int):M.fJ aU op=aa (ar op):=by
 apply Wp.eq;unfold M.fJ ar;simp only[W_,aq,au,reduceCtorEq];omega
def Lo(op:Int):M.jK aU op=aa (decide ((1<=op/\op<=8)\/(14<=op/\op<=16)\/op=33\/op=34\/(36<=op/\op<=39))):=by
 apply Wp.eq;unfold M.jK;simp only[W_,aq,au,reduceCtorEq];omega
def bI(k:Int):M.eL aU k=aa (decide (k=2\/k=3\/k=4)):=by
 apply Wp.eq;unfold M.eL;simp only[W_,aq,au,reduceCtorEq];omega
def bd(k:Int):M.iL aU k=aa (decide (0<=k/\k<=5)):=by
 apply Wp.eq;unfold M.iL;simp only[W_,aq,au,reduceCtorEq];omega
def bU(m k:Int)(s:sA):M.dg aU m k s=aa (if Dm m (k,(0:Int)) s.1 then((k,(0:Int)),(0:Int))else(((0:Int),(0:Int)),(3:Int))):=by
 apply Wp.eq;unfold M.dg;simp only[zY,W_,aq,au,reduceCtorEq]
 grind [Dm]
noncomputable def pN(n:Ty)(l:List Ty)(s:sA):Option (Ty×Int):=
 if(n.2:Int)≠0/\¬((1<=(n.1:Int)/\(n.1:Int)<=8)\/(14<=(n.1:Int)/\(n.1:Int)<=16)\/(n.1:Int)=33\/(n.1:Int)=34\/(36<=(n.1:Int)/\(n.1:Int)<=39))then aa (((0:Int),(0:Int)),2)else M.ba aU n l s
def qG(t:Ty):Prop:=1<=(t.1:Int)/\(t.1:Int)<=5->(t.2:Int)=0
theorem Rj(op m:Int)(a b:Ty)(s:sA)(h2:ar op=2)(ha:qG a)(_:qG b):pN (op,m) [a,b] s=M.aW aU (op,m) [a,b] s:=by
 have hr:=wj (op,m) s
 have hR:Cf op m s↔(14<=op/\op<=16->0<=m/\m<=5):=by
  unfold ar at h2;unfold Cf;exact(by grind)
 have sz:op=11\/op=12\/op=13\/op=14\/op=15\/op=16\/op=17\/op=18\/op=19\/op=20\/op=21\/op=22\/op=23\/op=24\/op=27\/op=28\/op=29\/op=30:=by unfold ar at h2;omega
 obtain⟨(a1:Int),(a2:Int)⟩:=a;obtain⟨(b1:Int),(b2:Int)⟩:=b;simp only[qG]at ha
 rcases sz with rfl|rfl|rfl|rfl|rfl|rfl|rfl|rfl|rfl|rfl|rfl|rfl|rfl|rfl|rfl|rfl|rfl|rfl
 all_goals
  unfold pN M.ba M.dA M.k7 M.aW M.bx M.gv M.kH;simp[aM,aN,aL,bg,bI,bd,cd,hr,hR,idx,Ji]
  grind
def Lp(op m:Int)(a b c:Ty)(s:sA)(h3:ar op=3):pN (op,m) [a,b,c] s=M.aW aU (op,m) [a,b,c] s:=by
 have sz:op=26:=by unfold ar at h3;omega
 subst sz;have hr:=wj ((26:Int),m) s
 have hR:Cf 26 m s:=by unfold Cf;omega
 obtain⟨(a1:Int),(a2:Int)⟩:=a;obtain⟨(b1:Int),(b2:Int)⟩:=b;obtain⟨(c1:Int),(c2:Int)⟩:=c;unfold pN M.ba M.dA M.aW M.bx;simp[aM,aN,aL,bg,bI,bd,cd,hr,hR,idx,Ji]
 grind
theorem Rk(op m:Int)(a:Ty)(s:sA)(hm:m<=9223372036854775807)(h1:ar op=1)(ha:qG a):pN (op,m) [a] s=M.aW aU (op,m) [a] s:=by
 have hr:=wj (op,m) s
 have hR:Cf op m s↔(op=34->0<=m/\aha m 8<=5):=by
  unfold ar at h1;unfold Cf;exact⟨λh=>h.2.2.1,λh=>⟨λ_=>by omega,λ_=>by omega,h,λ_=>by omega⟩⟩
 have hd:0<=m->0<=agw.wrap (agN m 8):=λh=>Gk h hm (by omega)
 have ht:0<=m->0<=aha m 8:=λh=>Int.tmod_nonneg _ h
 have sz:op=10\/op=25\/op=31\/op=32\/op=33\/op=34:=by unfold ar at h1;omega
 obtain⟨(a1:Int),(a2:Int)⟩:=a;simp only[qG]at ha
 rcases sz with rfl|rfl|rfl|rfl|rfl|rfl
 .unfold pN M.ba M.dA M.aW M.bx M.c9;simp[aM,aN,aL,bg,bI,bd,cd,hr,hR,idx,Ji]
  grind
 .unfold pN M.ba M.dA M.aW M.bx M.c9;simp[aM,aN,aL,bg,bI,bd,cd,hr,hR,idx,Ji]
  grind
 .unfold pN M.ba M.dA M.aW M.bx M.c9;simp[aM,aN,aL,bg,bI,bd,cd,hr,hR,idx,Ji]
  grind
 .unfold pN M.ba M.dA M.aW M.bx M.c9;simp[aM,aN,aL,bg,bI,bd,cd,hr,hR,idx,Ji]
  grind
 .have i0:idx [((a1,a2):Ty)] 0=aa (a1,a2):=rfl;unfold pN M.ba M.kC M.aW M.bx M.c9;by_cases h:0<=m/\m<(s.2.1.length:Int)
  .obtain⟨k,rfl⟩:=agF h.1
   have hk:k<s.2.1.length:=by omega
   simp[aM,aN,aL,bg,cd,hr,hR,Ji,oz,bT,i0,aB hk,hk,show¬((s.2.1.length:Int)<=(k:Int)) by omega,show¬((k:Int)<0) by omega];generalize s.2.1[k]=t
   by_cases c1:mT t.2.1 s.1.length<;>by_cases c2:mT t.2.2.1 s.1.length<;>by_cases c3:((a1,a2):Ty)=t.2.1<;>simp[c1,c2,c3]
  .simp[aM,aN,aL,bg,cd,hr,hR,Ji,oz,bT,i0];by_cases PL:m<0
   .simp[PL,show¬0<=m by omega]
   .simp[PL,show 0<=m by omega,show(s.2.1.length:Int)<=m by omega,show¬m<(s.2.1.length:Int) by omega]
 .have i0:idx [((a1,a2):Ty)] 0=aa (a1,a2):=rfl;unfold pN M.ba M.kC M.aW M.bx M.c9;simp only[hr,hR];by_cases h:0<=m/\aha m 8<=5
  .have hd:=hd h.1;have ht:=ht h.1;generalize agw.wrap (agN m 8)=j at*;generalize aha m 8=q at*;by_cases h':j<(s.2.1.length:Int)
   .obtain⟨k,rfl⟩:=agF hd
    have hk:k<s.2.1.length:=by omega
    simp[aM,aN,aL,bg,bd,cd,h,ht,Ji,oz,bT,i0,aB hk,hk,show¬(m<0) by omega,show¬((s.2.1.length:Int)<=(k:Int)) by omega,show¬((k:Int)<0) by omega];generalize s.2.1[k]=t;obtain⟨nm,⟨(k1:Int),(k2:Int)⟩,⟨(v1:Int),(v2:Int)⟩,rs⟩:=t;generalize s.1.length=ne;by_cases R:a1=3/\k1=3/\k2=0/\v1=4/\v2=0
    .obtain⟨rfl,rfl,rfl,rfl,rfl⟩:=R;obtain rfl:a2=0:=ha ⟨by decide,by decide⟩
     have v3:mT (((3:Int),(0:Int)):Ty) ne:=by simp[mT]
     have v4:mT (((4:Int),(0:Int)):Ty) ne:=by simp[mT]
     simp[v3,v4]
    .have hR2:(((if a1=3 then if((k1,k2):Int×Int)=(3,0)then aa (decide (((v1,v2):Int×Int)=(4,0)),a1,a2)else aa (ag,a1,a2)else aa (ag,a1,a2)):Option (Bool×Int×Int)))=aa (ag,a1,a2):=by
      by_cases q1:a1=3<;>by_cases q2:k1=3<;>by_cases q3:k2=0<;>by_cases q4:v1=4<;>by_cases q5:v2=0<;>simp[q1,q2,q3,q4,q5]<;>exact absurd ⟨q1,q2,q3,q4,q5⟩ R
     rw[hR2];by_cases c1:mT ((k1,k2):Ty) ne
     .by_cases c2:mT ((v1,v2):Ty) ne
      .by_cases e:((a1,a2):Ty)=(k1,k2)
       .injection e with e1 e2
        subst e1 e2;have Vz:=c1;have SZ:=c2;simp only[mT]at Vz SZ;dsimp only[az,Row.den]at Vz SZ;by_cases f:a1=3
        .have g:¬v1=4:=λg=>R (by omega)
         subst f
         obtain rfl:a2=0:=by omega
         simp[c1,c2,g]
        .simp[c1,c2,f]
       .simp[c1,c2,e]
      .simp[c1,c2]
     .simp[c1]
   .simp[aM,aN,aL,bg,bd,cd,h,ht,Ji,oz,bT,i0,show¬(m<0) by omega,show(s.2.1.length:Int)<=j by omega,show¬j<0 by omega]
  .simp[aM,aN,aL,bg,bd,cd,Ji,oz,bT,i0];by_cases PL:m<0
   .simp[PL,show¬0<=m by omega]
   .have h5:5<aha m 8:=by omega
    simp[PL,h5,show¬aha m 8<=5 by omega]
def bi(m:Int)(ls:List Ty)(s:sA):M.fo aU m ls s=if 0<=m/\m<(ls.length:Int)then(match ls[m.toNat]? with
 |some t=>if mT t s.1.length then aa (t,(0:Int))else aa (((0:Int),(0:Int)),(8:Int))
 |none=>ae)else aa (((0:Int),(0:Int)),(6:Int)):=by
 grind [M.fo,aB,oz]
def zero_eq(op m:Int)(s:sA)(hm:m<=9223372036854775807)(h0:ar op=0):pN (op,m) [] s=M.aW aU (op,m) [] s:=by
 have hr:=wj (op,m) s
 have hR:Cf op m s↔(1<=op/\op<=5->Dm m (op,(0:Int)) s.1)/\(op=6->0<=m):=by
  unfold ar at h0;unfold Cf;exact(by grind)
 have hd:0<=m->0<=agw.wrap (agN m 16):=λh=>Gk h hm (by omega)
 have sz:op=1\/op=2\/op=3\/op=4\/op=5\/op=6\/op=7\/op=8\/op=9\/op=35\/op=36\/op=37\/op=38\/op=39:=by unfold ar at h0;omega
 have v:∀k:Int,1<=k->k<=5->mT ((k,(0:Int)):Ty) s.1.length:=λk h1 h2=> .inl ⟨h1,h2,rfl⟩
 rcases sz with rfl|rfl|rfl|rfl|rfl|rfl|rfl|rfl|rfl|rfl|rfl|rfl|rfl|rfl
 .unfold pN M.ba M.bF M.bV M.aW M.bx M.b8;have v:=v 1 (by decide) (by decide)
  by_cases h:Dm m ((1:Int),(0:Int)) s.1<;>simp[aM,aN,aL,bg,bI,bd,bU,bi,cd,hr,hR,bT,h,v]
 .unfold pN M.ba M.bF M.bV M.aW M.bx M.b8;have v:=v 2 (by decide) (by decide)
  by_cases h:Dm m ((2:Int),(0:Int)) s.1<;>simp[aM,aN,aL,bg,bI,bd,bU,bi,cd,hr,hR,bT,h,v]
 .unfold pN M.ba M.bF M.bV M.aW M.bx M.b8;have v:=v 3 (by decide) (by decide)
  by_cases h:Dm m ((3:Int),(0:Int)) s.1<;>simp[aM,aN,aL,bg,bI,bd,bU,bi,cd,hr,hR,bT,h,v]
 .unfold pN M.ba M.bF M.bV M.aW M.bx M.b8;have v:=v 4 (by decide) (by decide)
  by_cases h:Dm m ((4:Int),(0:Int)) s.1<;>simp[aM,aN,aL,bg,bI,bd,bU,bi,cd,hr,hR,bT,h,v]
 .unfold pN M.ba M.bF M.bV M.aW M.bx M.b8;have v:=v 5 (by decide) (by decide)
  by_cases h:Dm m ((5:Int),(0:Int)) s.1<;>simp[aM,aN,aL,bg,bI,bd,bU,bi,cd,hr,hR,bT,h,v]
 .unfold pN M.ba M.bF M.bV M.aW M.bx M.b8;by_cases h:m<0
  .simp[aM,aN,aL,bg,bI,bd,bU,bi,cd,hr,hR,bT,h]
  .have hd:=hd (by omega)
   have h':0<=m:=by omega
   generalize agw.wrap (agN m 16)=j at*;generalize aha m 16=q at*;by_cases hj:j<(s.1.length:Int)
   .obtain⟨k,rfl⟩:=agF hd
    have hk:k<s.1.length:=by omega
    have v6:mT (((6:Int),(k:Int)):Ty) s.1.length:= .inr (by grind);by_cases hq:q<(s.1[k].2.length:Int)
    .simp[aM,aN,aL,bg,bI,bd,bU,bi,cd,hr,hR,bT,h,h',hk,aB hk,v6,hq,show¬(s.1.length:Int)<=(k:Int) by omega,show¬(s.1[k].2.length:Int)<=q by omega]
    .simp[aM,aN,aL,bg,bI,bd,bU,bi,cd,hr,hR,bT,h,h',hk,aB hk,v6,hq,show¬(s.1.length:Int)<=(k:Int) by omega,show(s.1[k].2.length:Int)<=q by omega]
   .simp[aM,aN,aL,bg,bI,bd,bU,bi,cd,hr,hR,bT,h,h',hj,show(s.1.length:Int)<=j by omega]
 .unfold pN M.ba M.bF M.bV M.aW M.bx M.b8;by_cases h:0<=m/\m<(s.2.2.1.length:Int)
  .obtain⟨k,rfl⟩:=agF h.1
   have hk:k<s.2.2.1.length:=by omega
   by_cases hv:mT s.2.2.1[k] s.1.length<;>simp[aM,aN,aL,bg,bI,bd,bU,bi,cd,hr,hR,bT,hk,aB hk,hv]
  .by_cases h0:0<=m
   .have h1:¬m<(s.2.2.1.length:Int):=λg=>h ⟨h0,g⟩
    simp[aM,aN,aL,bg,bI,bd,bU,bi,cd,hr,hR,bT,h0,h1]
   .simp[aM,aN,aL,bg,bI,bd,bU,bi,cd,hr,hR,bT,h0]
 .unfold pN M.ba M.bF M.bV M.aW M.bx M.b8;by_cases h:0<=m/\m<(s.2.2.2.1.length:Int)
  .obtain⟨k,rfl⟩:=agF h.1
   have hk:k<s.2.2.2.1.length:=by omega
   by_cases hv:mT s.2.2.2.1[k] s.1.length<;>simp[aM,aN,aL,bg,bI,bd,bU,bi,cd,hr,hR,bT,hk,aB hk,hv]
  .by_cases h0:0<=m
   .have h1:¬m<(s.2.2.2.1.length:Int):=λg=>h ⟨h0,g⟩
    simp[aM,aN,aL,bg,bI,bd,bU,bi,cd,hr,hR,bT,h0,h1]
   .simp[aM,aN,aL,bg,bI,bd,bU,bi,cd,hr,hR,bT,h0]
 .unfold pN M.ba M.bF M.bV M.aW M.bx M.b8;have v:=v 5 (by decide) (by decide);by_cases h:m=0
  .subst h;simp[aM,aN,aL,bg,bI,bd,bU,bi,cd,hr,hR,bT,v]
  grind [aM]
 .unfold pN M.ba M.bF M.bV M.aW M.bx M.b8;have v:=v 2 (by decide) (by decide);by_cases h:m=0
  .subst h;cases hs:s.2.2.2.2.2<;>simp[aM,aN,aL,bg,bI,bd,bU,bi,cd,hr,hR,bT,v,hs]
  grind [aM]
 .unfold pN M.ba M.bF M.bV M.aW M.bx M.b8;cases hs:s.2.2.2.2.2
  .simp[aM,aN,aL,bg,bI,bd,bU,bi,cd,hr,hR,bT,hs]
  by_cases h:0<=m/\m<(s.2.2.2.2.1.length:Int)
  .obtain⟨k,rfl⟩:=agF h.1
   have hk:k<s.2.2.2.2.1.length:=by omega
   by_cases hv:mT s.2.2.2.2.1[k] s.1.length
   .simp[aM,aN,aL,bg,bI,bd,bU,bi,cd,hr,hR,bT,hk,aB hk,hv,hs]
    grind
   .simp[aM,aN,aL,bg,bI,bd,bU,bi,cd,hr,hR,bT,hk,aB hk,hv,hs]
  .by_cases h0:0<=m
   .have h1:¬m<(s.2.2.2.2.1.length:Int):=λg=>h ⟨h0,g⟩
    simp[aM,aN,aL,bg,bI,bd,bU,bi,cd,hr,hR,bT,h0,h1,hs]
   .simp[aM,aN,aL,bg,bI,bd,bU,bi,cd,hr,hR,bT,h0,hs]
 .unfold pN M.ba M.bF M.bV M.aW M.bx M.b8;cases hs:s.2.2.2.2.2
  .simp[aM,aN,aL,bg,bI,bd,bU,bi,cd,hr,hR,bT,hs]
  by_cases h:0<=m/\m<(s.2.2.2.2.1.length:Int)
  .obtain⟨k,rfl⟩:=agF h.1
   have hk:k<s.2.2.2.2.1.length:=by omega
   by_cases hv:mT s.2.2.2.2.1[k] s.1.length
   .simp[aM,aN,aL,bg,bI,bd,bU,bi,cd,hr,hR,bT,hk,aB hk,hv,hs]
    grind
   .simp[aM,aN,aL,bg,bI,bd,bU,bi,cd,hr,hR,bT,hk,aB hk,hv,hs]
  .by_cases h0:0<=m
   .have h1:¬m<(s.2.2.2.2.1.length:Int):=λg=>h ⟨h0,g⟩
    simp[aM,aN,aL,bg,bI,bd,bU,bi,cd,hr,hR,bT,h0,h1,hs]
   .simp[aM,aN,aL,bg,bI,bd,bU,bi,cd,hr,hR,bT,h0,hs]
 .unfold pN M.ba M.bF M.bV M.aW M.bx M.b8;cases hs:s.2.2.2.2.2
  .simp[aM,aN,aL,bg,bI,bd,bU,bi,cd,hr,hR,bT,hs]
  by_cases h:0<=m/\m<(s.2.2.2.2.1.length:Int)
  .obtain⟨k,rfl⟩:=agF h.1
   have hk:k<s.2.2.2.2.1.length:=by omega
   by_cases hv:mT s.2.2.2.2.1[k] s.1.length
   .simp[aM,aN,aL,bg,bI,bd,bU,bi,cd,hr,hR,bT,hk,aB hk,hv,hs]
    grind
   .simp[aM,aN,aL,bg,bI,bd,bU,bi,cd,hr,hR,bT,hk,aB hk,hv,hs]
  .by_cases h0:0<=m
   .have h1:¬m<(s.2.2.2.2.1.length:Int):=λg=>h ⟨h0,g⟩
    simp[aM,aN,aL,bg,bI,bd,bU,bi,cd,hr,hR,bT,h0,h1,hs]
   .simp[aM,aN,aL,bg,bI,bd,bU,bi,cd,hr,hR,bT,h0,hs]
 .unfold pN M.ba M.bF M.bV M.aW M.bx M.b8;cases hs:s.2.2.2.2.2
  .simp[aM,aN,aL,bg,bI,bd,bU,bi,cd,hr,hR,bT,hs]
  by_cases h:0<=m/\m<(s.2.2.2.2.1.length:Int)
  .obtain⟨k,rfl⟩:=agF h.1
   have hk:k<s.2.2.2.2.1.length:=by omega
   by_cases hv:mT s.2.2.2.2.1[k] s.1.length
   .simp[aM,aN,aL,bg,bI,bd,bU,bi,cd,hr,hR,bT,hk,aB hk,hv,hs];generalize s.2.2.2.2.1[k]=t at*
    grind
   .simp[aM,aN,aL,bg,bI,bd,bU,bi,cd,hr,hR,bT,hk,aB hk,hv,hs]
  .by_cases h0:0<=m
   .have h1:¬m<(s.2.2.2.2.1.length:Int):=λg=>h ⟨h0,g⟩
    simp[aM,aN,aL,bg,bI,bd,bU,bi,cd,hr,hR,bT,h0,h1,hs]
   .simp[aM,aN,aL,bg,bI,bd,bU,bi,cd,hr,hR,bT,h0,hs]
def Up(n:Ty)(l:List Ty)(s:sA)(hw:WF ay n)(hl:(l.length:Int)=ar n.1)(hN:∀t∈l,qG t):pN n l s=aa (K9 n l s):=by
 rw[<-La hw hl];obtain⟨(op:Int),(m:Int)⟩:=n;have hm:m<=9223372036854775807:=hw.2.2;have h3:=qC op;dsimp only at hl
 match l,hl with
 |[],hl=>exact zero_eq op m s hm hl.symm
 |[a],hl=>grind [Rk]
 |[a,b],hl=>grind [Rj]
 |[a,b,c],hl=>exact Lp op m a b c s hl.symm
 |a::b::c::d::l,hl=>grind
def mT.nrm{t:Ty}{n:Nat}(h:mT t n):qG t:=λh'=>by
 obtain⟨(k:Int),(e:Int)⟩:=t
 rcases h with h|h
 all_goals grind
def Pc{α:Type}(m:Option α)(Q:α->Prop):Prop:=∀r,m=aa r->Q r
theorem jd{α:Type}{x:α}{Q:α->Prop}:Pc (aa x) Q↔Q x:=⟨λh=>h x rfl,λh r e=>by grind⟩
theorem fE{α β:Type}{m:Option α}{k:α->Option β}{Q:β->Prop}:Pc (m.bind k) Q↔Pc m λx=>Pc (k x) Q:=by
 constructor
 .intro h x hx r hr;exact h r (by grind)
 .intro h r hr;obtain⟨x,hx,hr⟩:=Option.bind_eq_some_iff.1 hr;exact h x hx r hr
def lN{α:Type}{c:Prop}[Decidable c]{a b:Option α}{Q:α->Prop}:Pc (if c then a else b) Q↔(c->Pc a Q)/\(¬c->Pc b Q):=by
 grind
theorem Pc.of{α:Type}{m:Option α}{Q:α->Prop}(h:∀x,Q x):Pc m Q:=λx _=>h x
theorem qG.kind(k:Int):qG ((k,(0:Int)):Ty):=λ_=>rfl
theorem Lq(n:Ty)(s:sA):Pc (M.b8 aU n s) λr=>r.2=af->qG r.1:=by
 have ho:∀k,M.gK aU k=aa (decide (k=2\/k=3\/k=4\/k=5)):=aL;unfold M.b8;rw[fE]
 refine Pc.of λj=>?_
 simp only[bT,ho,agv];by_cases hv:mT j s.1.length
 .simp only[fE,lN,jd];simp[hv.nrm]
 .simp[hv,fE,lN,jd]
theorem EY(n a:Ty)(s:sA)(ha:qG a):Pc (M.c9 aU n a s) λr=>r.2=af->qG r.1:=by
 unfold M.c9;simp only[bg,aN,bT,agv,fE,lN,jd];refine⟨λ_ _=>ha,λ_=>⟨λ_ _=>ha,λ_=>?_⟩⟩
 have h33:Pc (idx s.2.1 n.2) λx=>(decide (mT x.2.1 s.1.length)=af->(decide (mT x.2.2.1 s.1.length)=af->lH ay a x.2.1=af->qG x.2.2.1)/\(¬decide (mT x.2.2.1 s.1.length)=af->ag=af->qG x.2.2.1))/\(¬decide (mT x.2.1 s.1.length)=af->ag=af->qG x.2.2.1):=Pc.of λx=>⟨λ_=>⟨λh _=>(al h:mT x.2.2.1 s.1.length).nrm,λ_ h=>(by cases h)⟩,λ_ h=>(by cases h)⟩
 have NV:Pc (idx s.2.1 (agw.wrap (agN n.2 8))) λx=>(decide ((a.1:Int)=3)=af->(lH ay x.2.1 ((3:Int),(0:Int))=af->lH ay x.2.2.1 ((4:Int),(0:Int))=af->qG a)/\(¬lH ay x.2.1 ((3:Int),(0:Int))=af->ag=af->qG a))/\(¬decide ((a.1:Int)=3)=af->ag=af->qG a):=Pc.of (by grind)
 grind [qG.kind]
theorem EZ(op:Int)(a b:Ty)(ha:qG a):Pc (M.gv aU op a b) λr=>r.2=af->qG r.1:=by
 have hk:∀k:Int,qG ((k,(0:Int)):Ty):=qG.kind;unfold M.gv M.kH;simp only[bg,aN,aL,agv,fE,lN,jd];simp[ha,hk]
def NY(n:Ty)(l:List Ty)(s:sA)(hw:WF ay n)(hl:(l.length:Int)=ar n.1)(hN:∀t∈l,qG t)(h0:(K9 n l s).2=0):qG (K9 n l s).1:=by
 have w5:∀i,Pc (idx l i) qG:=λi x hx=>by
  grind [idx]
 have key:Pc (M.aW aU n l s) λr=>r.2=0->qG r.1:=by
  unfold M.aW;rw[fE]
  refine Pc.of λj1=>?_
  rw[lN];refine⟨λ_=>jd.2 λh=>(by cases h),λ_=>?_⟩;rw[fE]
  refine Pc.of λy3=>?_
  rw[lN];refine⟨λ_=>jd.2 λh=>(by cases h),λ_=>?_⟩;rw[fE]
  refine Pc.of λy4=>?_
  rw[lN];refine⟨λ_=>jd.2 λh=>(by cases h),λ_=>?_⟩;rw[fE]
  have fin:∀{m:Option (Bool×Ty)},Pc m (λj=>j.1=af->qG j.2)->Pc m λj5=>Pc (if(!j5.1)=af then aa (((0:Int),(0:Int)),(8:Int))else aa (j5.2,(0:Int))) λr:Ty×Int=>r.2=0->qG r.1:=λ{m}h j hj=>by
   have:=h j hj;refine lN.2 ⟨λ_=>jd.2 λh=>(by cases h),λh=>jd.2 λ_=>this (by simpa using h)⟩
  refine fin ?_;rw[lN];refine⟨λ_=>?_,λ_=>?_⟩
  .grind [fE,jd,Lq]
  rw[lN];refine⟨λ_=>?_,λ_=>?_⟩
  .rw[fE]
   refine λa ha=>fE.2 ?_
   grind [jd,EY]
  rw[lN];refine⟨λ_=>?_,λ_=>?_⟩
  .rw[fE]
   refine λa ha=>fE.2 λb _=>fE.2 ?_
   grind [jd,EZ]
  .rw[fE]
   refine λa ha=>?_
   have ha:=w5 _ a ha;simp only[fE,lN,jd]
   grind [Pc.of]
 exact key _ (La hw hl) h0
def z7(st:List Nat)(m:Nat)(v:Nat):bm (eD st++agE (m+1) (0:Int)) (st.length:Int) (v:Int)=eD (st++[v])++agE m (0:Int):=by
 grind [bm]
def tA(st:List Nat)(m:Nat)(u v:Nat):bm (eD (st++[u])++agE m (0:Int)) (st.length:Int) (v:Int)=eD (st++[v])++agE m (0:Int):=by
 unfold bm
 simp_all
def E0(e:List Ty):M.eT aU e=aa (qt e):=by
 apply Wp.eq;unfold M.eT qt
 refine Wp.dec (λh=> .some ?_) λh1=>?_
 .grind
 rw[ai (show¬48<e.length by omega)]
 refine Wp.dec (λh=> .some ?_) λh2=>?_
 .grind
 rw[ai (show¬e.length=0 by omega)]
 have ND:oM (e.length:Int) (0:Int)=aa (agE e.length 0):=by
  unfold oM;rw[aj (by omega),agD]
 rw[ND];simp only[agv];refine Wp.join (Wp.loop (λs:Int×List Int×List Int=>∃st sk:List Nat,s=((st.length:Int),eD st++agE (e.length-st.length) 0,eD sk)/\st.length<=e.length/\sk.length<=12/\jQ (e.drop st.length) st.length st sk=jQ e 0 [] []) (λs=>(e.length-s.1).toNat) ⟨[],[],by simp,by simp,by simp,by simp⟩ (by simp only;unfold aU;omega) ?_)
 rintro _ ⟨st,sk,rfl,gM,hsk,bz⟩
 simp only
 refine Wp.dec (λhk=>?_) λhk=> .some ?_
 case refine_2=>
  have hd:e.drop st.length=[]:=ahb (by omega);rw[hd]at bz;rw[<-bz]
  have h0:e.length-st.length=0:=by omega
  rw[h0];simp only[jQ,List.replicate_zero,List.append_nil]
  show Wp _ _
  refine Wp.dec (λh=> .some ?_) λh=> .some ?_
  all_goals grind
 have lf:st.length<e.length:=by omega
 have hd:e.drop st.length=e[st.length]::e.drop (st.length+1):=agJ lf
 obtain⟨m,hm⟩:∃m,e.length-st.length=m+1:=⟨e.length-st.length-1,by omega⟩
 rw[hd]at bz;rw[aB lf,hm];simp only[agv,Ln];generalize sz:(e[st.length].1:Int)=op;rw[jQ]at bz;rw[sz]at bz;have VH:=qC op
 refine Wp.dec (λh=> .some ?_) λIA=>?_
 .rw[aj h]at bz
  show _=_
  rw[<-bz]
 rw[ai IA]at bz
 refine Wp.dec (λh=> .some ?_) λhlen=>?_
 .rw[aj (by simpa using h)]at bz
  show _=_
  rw[<-bz]
 have hlen:¬(sk.length:Int)<ar op:=by simpa using hlen
 rw[ai hlen]at bz
 obtain⟨a,ha⟩:∃a:Nat,ar op=a:=⟨(ar op).toNat,by omega⟩
 rw[ha]at bz IA hlen VH⊢
 have Zj:a<=sk.length:=by omega
 have e6:idx (eD st++agE (m+1) (0:Int)) (st.length:Int)=aa 0:=by
  rw[aB (by simp)];rw[ahh (by simp)];simp
 rw[e6]
 have hw:agw.wrap (((eD sk).length:Int)-(a:Int))=((sk.length-a:Nat):Int):=by
  rw[List.length_map,bL (by omega) (by omega)];omega
 have hs:u9 (a:Int) st.length sk=(if a=0 then st.length else sk.getD (sk.length-a) 0):=by
  unfold u9;by_cases h0:a=0
  .subst h0;simp
  .grind
 simp only[agv,z7,hw];refine Wp.seq (· =eD (st++[u9 (a:Int) st.length sk])++agE m (0:Int)) ?_ ?_
 .refine Wp.dec (λh=>?_) λh=>?_
  .have aH:sk.length-a<(eD sk).length:=by simp;omega
   rw[aB aH]
   have e9:idx (eD (st++[st.length])++agE m (0:Int)) (st.length:Int)=aa (st.length:Int):=by
    rw[aB (by simp)];rw[ahk (by simp)];simp
   simp only[agv,e9,List.getElem_map,tA];refine .some ?_
   grind
  .refine .some ?_
   grind
 .rintro _ rfl
  generalize u9 (a:Int) st.length sk=s at bz⊢
  have Dw:ga (eD sk) (0:Int) ((sk.length-a:Nat):Int)=aa (eD (sk.take (sk.length-a))):=by
   rw[qe (by simp)];simp
  have Zk:idx (eD (st++[s])++agE m (0:Int)) (st.length:Int)=aa (s:Int):=by
   rw[aB (by simp)];rw[ahk (by simp)];simp
  have Rl:cm (eD (sk.take (sk.length-a))) [(s:Int)]=aa (eD (sk.take (sk.length-a)++[s])):=by
   rw[dW (by simp;omega)];simp
  rw[Dw];simp only[agv,Zk,Rl]
  have hl:(eD (sk.take (sk.length-a)++[s])).length=sk.length-a+1:=by simp
  rw[hl];rw[agD]at bz
  refine Wp.dec (λh=> .some ?_) λh=> .some ?_
  .rw[aj (by omega)]at bz
   show _=_
   rw[<-bz]
  .rw[ai (by omega)]at bz;rw[aP (by omega)];refine⟨⟨st++[s],sk.take (sk.length-a)++[s],?_,by simp;omega,by simp;omega,?_⟩,by grind⟩
   all_goals grind
def Cm.all(s:sA):Cm s:=λe hw=>by
 apply Wp.eq;unfold M.mR;simp only[E0,Ln,Lo,W_,aq,au,reduceCtorEq];refine⟨λh=>by unfold NP;rw[aj h],λh0=>?_⟩;obtain⟨h48,du,cO,MF,Rf⟩:=NQ h0
 have hT:NP e s=match qD s e 0 []with
  | .inl (i,c)=>(((0:Int),(0:Int)),(i:Int),c)
  | .inr nS=>(nS.headD ((0:Int),(0:Int)),0,0):=by unfold NP;rw[ai (by omega)]<;>cases qD s e 0 []<;>rfl
 refine Wp.count (λs=>s.1) e.length (λk q=>∃st sk,q.2.length=sk.length/\jQ e 0 [] []=jQ (e.drop k) k st sk/\qD s e 0 []=qD s (e.drop k) k q.2/\q.2.length<=k/\(0<k->q.2≠[])/\∀t∈q.2,qG t) (by omega) rfl (by grind) λk q hk hs hJ=>?_
 obtain⟨i,nS⟩:=q;obtain⟨st,sk,hl,hr,ht,P5,oV,Zl⟩:=hJ;dsimp only at hs hl ht P5 oV Zl;subst hs;simp only[W_,aq,au,reduceCtorEq,bo,bc];refine⟨λaH=>?_,λhge=>?_⟩
 .have aH:k<e.length:=by omega
  rw[agJ aH,jQ]at hr;rw[agJ aH,qD]at ht;rw[Rf]at hr;have ha3:=qC e[k].1;split at hr
  .cases hr
  split at hr
  .cases hr
  split at hr
  .cases hr
  rename_i ha0 ha1 ha2
  have w1:agw.wrap ((nS.length:Int)-ar e[k].1)=((nS.length-(ar e[k].1).toNat:Nat):Int):=by rw[bL (by omega) (by omega)];omega
  have hd:((nS.drop (nS.length-(ar e[k].1).toNat)).length:Int)=ar e[k].1:=by rw[List.length_drop];omega
  have hwk:=hw _ (agA aH)
  have VI:∀t∈nS.drop (nS.length-(ar e[k].1).toNat),qG t:=(by grind)
  have hp:=Up e[k] _ s hwk hd VI;have AO:=NY e[k] _ s hwk hd VI
  have bad:∀c:Int,c≠0->(K9 e[k] (nS.drop (nS.length-(ar e[k].1).toNat)) s).2=c->(((0:Int),(0:Int)),(k:Int),c)=NP e s:=(by grind)
  have rest:¬((e[k].2:Int)≠0/\¬((1<=(e[k].1:Int)/\(e[k].1:Int)<=8)\/(14<=(e[k].1:Int)/\(e[k].1:Int)<=16)\/(e[k].1:Int)=33\/(e[k].1:Int)=34\/(36<=(e[k].1:Int)/\(e[k].1:Int)<=39)))->M.ba aU e[k] (nS.drop (nS.length-(ar e[k].1).toNat)) s=aa (K9 e[k] (nS.drop (nS.length-(ar e[k].1).toNat)) s):=λh=>by
   rw[<-hp];exact(ai h).symm
  have cond:((e[k].2:Int)≠0/\¬((1<=(e[k].1:Int)/\(e[k].1:Int)<=8)\/(14<=(e[k].1:Int)/\(e[k].1:Int)<=16)\/(e[k].1:Int)=33\/(e[k].1:Int)=34\/(36<=(e[k].1:Int)/\(e[k].1:Int)<=39)))->(K9 e[k] (nS.drop (nS.length-(ar e[k].1).toNat)) s).2=2:=λh=>by
   have:aa (K9 e[k] (nS.drop (nS.length-(ar e[k].1).toNat)) s)=aa (((0:Int),(0:Int)),(2:Int)):=by
    rw[<-hp];exact aj h
   grind
  have good:¬((e[k].2:Int)≠0/\¬((1<=(e[k].1:Int)/\(e[k].1:Int)<=8)\/(14<=(e[k].1:Int)/\(e[k].1:Int)<=16)\/(e[k].1:Int)=33\/(e[k].1:Int)=34\/(36<=(e[k].1:Int)/\(e[k].1:Int)<=39)))->Wp (M.ba aU e[k] (nS.drop (nS.length-(ar e[k].1).toNat)) s) λy9=>(¬(y9.2:Int)=0->(((0:Int),(0:Int)),(k:Int),y9.2)=NP e s)/\((y9.2:Int)=0->Wp (cm (nS.take (nS.length-(ar e[k].1).toNat)) [y9.1]) λx=>k<e.length/\agw.wrap ((k:Int)+1)=((k+1:Nat):Int)/\∃st sk,x.length=sk.length/\jQ e 0 [] []=jQ (e.drop (k+1)) (k+1) st sk/\qD s e 0 []=qD s (e.drop (k+1)) (k+1) x/\x.length<=k+1/\(0<k+1->x≠[])/\∀t∈x,qG t):=λh=>by
   rw[rest h];refine .some ⟨λhc=>bad _ hc rfl,λhc=>?_⟩;rw[ai (λg=>g hc)]at ht;refine pu.2 ⟨by grind,aH,cy (m:=e.length) (by omega) aH,_,_,?_,Rf.trans hr,ht,?_,λ_=>by simp,λt h=>?_⟩
   .grind
   all_goals grind
  simp only[aB aH,w1,qe (show nS.length-(ar e[k].1).toNat<=nS.length by omega),zT (l:=nS) (nS.length-(ar e[k].1).toNat) nS.length rfl rfl (by omega) (agB _),List.take_length,W_,aq,au,reduceCtorEq];exact⟨λh1=>⟨λh2=>bad 2 (by decide) (cond ⟨h1,h2⟩),λh2=>good λg=>g.2 h2⟩,λh1=>good λg=>g.1 h1⟩
 .obtain rfl:k=e.length:=by omega
  rw[List.drop_length,qD]at ht;rw[hT,ht];have:nS≠[]:=oV (List.length_pos_iff.2 du);obtain⟨a,l,rfl⟩:=List.exists_cons_of_ne_nil this;exact fj.2 ⟨by simp,rfl⟩
end L
namespace L
inductive Jl(D:Int->Int->Prop):Int->Int->Prop
 |one {a b:Int} (h:D a b):Jl D a b
 |step {a b c:Int} (h:Jl D a b) (g:D b c):Jl D a c
def Dp(s:ie)(a b:Int):Prop:=b∈nq s a
def wy{y:Int}:∀{l out:List Int},y∈l.foldl (λo z=>ins z o) out↔y∈l\/y∈out
 |[],_=>by simp
 |x::l,out=>by
  rw[List.foldl_cons,wy (l:=l),mU,agY]
  grind
def nU(s:ie){out:List Int}{y:Int}:y∈stepT s out↔y∈out\/∃x∈out,Dp s x y:=by
 unfold stepT
 suffices∀(l o:List Int),y∈l.foldl (λo x=>(nq s x).foldl (λo y=>ins y o) o) o↔y∈o\/∃x∈l,Dp s x y from this _ _
 intro l
 induction l with
 |nil=>intro o;simp
 |cons x l ih=>
  intro o;rw[List.foldl_cons,ih,wy];unfold Dp
  grind
def pA(s:ie)(d:Int):∀n y,y∈kT s n (nq s d)->Jl (Dp s) d y
 |0,y,h=> .one h
 |n+1,y,h=>by
  rcases(nU s).1 h with h|⟨x,hx,h⟩
  .exact pA s d n y h
  .exact .step (pA s d n x hx) h
def IB{l m:List Int}(hl:l.Pairwise (· < ·))(hm:m.Pairwise (· < ·))(h:∀y,y∈l↔y∈m):l=m:=by
 induction l generalizing m with
 |nil=>
  cases m with
  |nil=>rfl
  |cons y m=>exact absurd ((h y).2 (by simp)) (by simp)
 |cons x l ih=>
  cases m with
  |nil=>grind
  |cons y m=>
   obtain⟨h1,h2⟩:=agO.1 hl;obtain⟨g1,g2⟩:=agO.1 hm
   have e:x=y:=by
    rcases agY.1 ((h x).1 (by simp))with e|e
    .exact e
    .rcases agY.1 ((h y).2 (by simp))with e'|e'
     all_goals grind
   grind
def tB{l:List Int}:∀{m:List Int},l.Nodup->(∀y,y∈l->y∈m)->l.length<=m.length:=by
 induction l with
 |nil=>grind
 |cons x l ih=>
  intro m hn h;obtain⟨h1,h2⟩:=List.nodup_cons.1 hn;have hx:=h x (by simp)
  have:=ih (m:=m.erase x) h2 λy hy=>(List.mem_erase_of_ne (λe:y=x=>h1 (by rw[<-e];exact hy))).2 (h y (by simp[hy]))
  rw[List.length_erase_of_mem hx]at this;have:=List.length_pos_of_mem hx;simp only[List.length_cons];omega
def Gl{l m:List Int}(hl:l.Pairwise (· < ·))(_:m.Pairwise (· < ·))(h:∀y,y∈l->y∈m)(hx:∃y,y∈m/\y∉l):l.length<m.length:=by
 have nd:l.Nodup:=hl.imp λh=>by omega
 obtain⟨y,hy,hn⟩:=hx;have nd2:(y::l).Nodup:=List.nodup_cons.2 ⟨hn,nd⟩;have:(y::l).length<=m.length:=tB nd2 (by grind)
 grind
def z8(s:ie)(d:Int):(∀n,n<=s.2.2.2.1.length->(stepT s (kT s n (nq s d))=kT s n (nq s d)\/n<=(kT s n (nq s d)).length)):=by
 have srt:∀m,tn s.2.2.2.1.length (kT s m (nq s d)):=λm=>by
  induction m with
  |zero=>exact mz s d
  |succ m ih=>exact qf s ih
 intro n
 induction n with
 |zero=>grind
 |succ n ih=>
  intro hn
  rcases ih (by omega)with h|h
  .grind [kT]
  .by_cases hx:∃y,y∈stepT s (kT s n (nq s d))/\y∉kT s n (nq s d)
   .right
    have:=Gl (srt n).1 (qf s (srt n)).1 (λy hy=>(nU s).2 (.inl hy)) hx
    grind [kT]
   .left
    have:stepT s (kT s n (nq s d))=kT s n (nq s d):=IB (qf s (srt n)).1 (srt n).1 λy=>⟨(by grind),λh=>(nU s).2 (.inl h)⟩
    grind [kT]
theorem Gm(s:ie)(d y:Int):y∈Jj s d↔Jl (Dp s) d y:=by
 refine⟨λh=>pA s d _ y h,λh=>?_⟩
 have closed:∀x z,x∈Jj s d->Dp s x z->z∈Jj s d:=by
  intro x z hx hz
  rcases z8 s d s.2.2.2.1.length (agB _)with h|h
  .have:z∈stepT s (kT s s.2.2.2.1.length (nq s d)):=(nU s).2 (.inr ⟨x,hx,hz⟩);rw[h]at this;exact this
  .have hs:=NS s d;have Sp:=(mz s x).2 z hz
   refine Classical.not_not.1 λhn=>?_
   have:=Gl (l:=Jj s d) (m:=ins z (Jj s d)) hs.1 (ER hs.1) (λy hy=>mU.2 (.inr hy)) ⟨z,mU.2 (.inl rfl),hn⟩;have:=(hs.ins Sp).len
   grind [Jj]
 have start:∀z,Dp s d z->z∈Jj s d:=by
  intro z hz
  show z∈kT s s.2.2.2.1.length (nq s d)
  have:∀n,z∈kT s n (nq s d):=λn=>by
   induction n with
   |zero=>exact hz
   |succ n ih=>exact(nU s).2 (.inl ih)
  exact this _
 induction h<;>grind
def Co(d:Array Int)(y:Int):∀m,y∈Go.Lib.compactUpTo d m↔∃j,j<m/\d[j]! =y
 |0=>by simp[Go.Lib.compactUpTo]
 |m+1=>by
  rw[Go.Lib.compactUpTo_succ,agT,Co d y m];constructor
  .grind
  .rintro⟨j,hj,h⟩
   rcases Nat.lt_succ_iff_lt_or_eq.1 hj with h1|rfl
   .grind
   .by_cases hk:Go.Lib.keeps d j=af
    .grind
    .left
     unfold Go.Lib.keeps at hk
     grind
theorem Cp(l:List Int)(y:Int):y∈ahn l↔y∈l:=by
 unfold ahn;rw[Co];constructor
 .grind
 .intro h;obtain⟨j,hj,rfl⟩:=agS h;exact⟨j,hj,by simp[hj]⟩
def yA(l:List Int)(hl:l.length<=1000000):Wp ((M.dq aU l).bind λy1=>(M.cJ aU y1).bind λy2=>aa y2) λr=>r.length<=l.length/\∀y,y∈r↔y∈l:=by
 have e1:M.dq aU l=aa (qA l):=by
  unfold M.dq B5;rw[aj (by omega)]
 have hs:(qA l).length=l.length:=List.length_mergeSort ..
 have e2:M.cJ aU (qA l)=aa (ahn (qA l)):=by
  unfold M.cJ pf;rw[aj (by omega)]
 rw[e1,agv,e2];refine .some ⟨?_,λy=>?_⟩
 all_goals grind [wc,qA,Cp,List.mem_mergeSort]
def pB(l:List Int)(hl:l.length<=1000000):Wp (M.fV aU l) λr=>r.length<=l.length/\∀y,y∈r↔y∈l:=yA l hl
def Aa(l:List Int)(hl:l.length<=1000000):Wp (M.gX aU l) λr=>r.length<=l.length/\∀y,y∈r↔y∈l:=yA l hl
def IC(e:List Ty)(y:Int):Prop:=∃n∈e,(n.1:Int)=8/\(n.2:Int)=y
theorem E1(p:Int->Bool)(e:List Ty)(y:Int):y∈oy p e↔∃n∈e,p n.1=af/\(n.2:Int)=y:=by
 unfold oy
 suffices∀(e:List Ty)(l:List Int),y∈e.foldl (λl n=>if p n.1=af then ins n.2 l else l) l↔y∈l\/∃n∈e,p n.1=af/\(n.2:Int)=y by grind
 intro e
 induction e with
 |nil=>intro l;simp
 |cons n e ih=>
  grind [mU]
theorem Cq(e:List Ty)(y:Int):y∈oy tY e↔IC e y:=by
 grind [E1,IC,tY]
def qH(e:List Ty)(he:e.length<=100000):Wp (M.gF aU e) λr=>r.2.1.length<=e.length/\∀y,y∈r.2.1↔IC e y:=by
 unfold M.gF;rw[wp_bind]
 refine Wp.count (λs=>s.1) e.length (λk s=>(s.2.1.length<=k/\s.2.2.1.length<=k/\s.2.2.2.length<=k)/\∀y,y∈s.2.2.1↔∃j,∃h:j<e.length,j<k/\(e[j].1:Int)=8/\(e[j].2:Int)=y) (by omega) rfl ⟨by simp,λy=>by simp⟩ λk s hk hs hJ=>?_
 obtain⟨i,a,b,c⟩:=s;obtain⟨⟨l1,l2,l3⟩,hm⟩:=hJ;dsimp only at hs l1 l2 l3 hm;subst hs;simp only[W_,aq,au,reduceCtorEq,bo,bc];refine⟨λaH=>?_,λhge=>?_⟩
 .have aH:k<e.length:=by omega
  have nxt:∀b':List Int,(∀y,y∈b'↔y∈b\/((e[k].1:Int)=8/\(e[k].2:Int)=y))->∀y,y∈b'↔∃j,∃h:j<e.length,j<k+1/\(e[j].1:Int)=8/\(e[j].2:Int)=y:=(by grind)
  have same:(e[k].1:Int)≠8->∀y,y∈b↔∃j,∃h:j<e.length,j<k+1/\(e[j].1:Int)=8/\(e[j].2:Int)=y:=(by grind)
  simp only[aB aH,cy (m:=e.length) (by omega) aH,W_,aq,au,reduceCtorEq]
  have tW:∀(q:List Int)(v:Int)(Q:List Int->Prop),q.length<=k->Q (q++[v])->Wp (cm q [v]) Q:=λq v Q hq h=>pu.2 ⟨by simp;omega,h⟩
  grind
 .refine(pB a (by omega)).mono λ_ _=>?_
  refine(pB b (by omega)).mono λr hr=>?_
  refine(pB c (by omega)).mono λ_ _=>?_
  grind [IC,agS]
def E2(r:ig)(n:Nat)(y:Int):Prop:=(IC r.2.2.2.2.2.1 y\/IC r.2.2.2.2.2.2.1 y)/\0<=y/\y<(n:Int)
def Gn(l o:List Int)(n:Nat)(hl:l.length<=100000)(ho:o.length<=100000):Wp (Loop (S:=Int×List Int) (X:=List Int) (λs4=>
 (if(decide (s4.1<(l.length:Int)))=af then
 ((idx l s4.1).bind λx6=>
 ((if(decide ((0:Int)<=x6))=af then
 some (decide (x6<(n:Int)))
 else
 some ag):Option (Bool)).bind λj7=>
 (if j7=af then
 (cm s4.2 ([x6]:List Int)).bind λl8=>
 some l8
 else
 some s4.2):Option (List Int)).bind λj5=>
 some (Sum.inl (agw.wrap (s4.1+(1:Int)),j5))
 else
 some (Sum.inr s4.2))) aU ((0:Int),o)) λr=>r.length<=o.length+l.length/\∀y,y∈r↔y∈o\/(y∈l/\0<=y/\y<(n:Int)):=by
 refine Wp.count (λs=>s.1) l.length (λk s=>s.2.length<=o.length+k/\∀y,y∈s.2↔y∈o\/((∃j,∃h:j<l.length,j<k/\l[j]=y)/\0<=y/\y<(n:Int))) (by omega) rfl ⟨by simp,λy=>by simp⟩ λk s hk hs hJ=>?_
 obtain⟨i,q⟩:=s;obtain⟨h1,hm⟩:=hJ;dsimp only at hs h1 hm;subst hs;simp only[W_,aq,au,reduceCtorEq,bo,bc];refine⟨λaH=>?_,λhge=>?_⟩
 .have aH:k<l.length:=by omega
  simp only[aB aH,cy (m:=l.length) (by omega) aH,W_,aq,au,reduceCtorEq]
  grind [pu]
 .refine⟨by omega,λy=>?_⟩;rw[hm];refine or_congr Iff.rfl (and_congr_left λhy=>⟨(by grind),λh=>?_⟩)
  grind [agS]
def ID(r:ig)(n:Nat)(h1:r.2.2.2.2.2.1.length<=50)(h2:r.2.2.2.2.2.2.1.length<=50):Wp (M.eW aU r (n:Int)) λl=>l.length<=100/\∀y,y∈l↔E2 r n y:=by
 unfold M.eW;rw[wp_bind]
 refine(qH _ (by omega)).mono λa ha=>?_
 rw[wp_bind]
 refine(qH _ (by omega)).mono λb hb=>?_
 rw[wp_bind]
 refine(Gn a.2.1 [] n (by omega) (by simp)).mono λc hc=>?_
 have KV:=hc.1;simp only[List.length_nil]at KV
 refine(Gn b.2.1 c n (by omega) (by omega)).mono λq hq=>⟨by omega,λy=>?_⟩
 grind [E2]
theorem yB(n:Nat)(y:Int):∀(l out:List Int),y∈nT n out l↔y∈out\/(y∈l/\0<=y/\y<(n:Int))
 |[],out=>by show y∈out↔_;simp
 |x::l,out=>by
  show y∈nT n (if 0<=x/\x<(n:Int)then ins x out else out) l↔_
  rw[yB n y l]
  grind [mU]
def Lr(s:ie)(d y:Int):Dp s d y↔(0<=d/\d<(s.2.2.2.1.length:Int))/\∃r∈s.2.2.2.2,(r.2.1:Int)=d/\E2 r s.2.2.2.1.length y:=by
 unfold Dp nq;split
 .rename_i hd
  suffices∀(rs:List ig)(out:List Int),y∈rs.foldl (λout r=>if(r.2.1:Int)=d then nT s.2.2.2.1.length (nT s.2.2.2.1.length out (oy tY r.2.2.2.2.2.1)) (oy tY r.2.2.2.2.2.2.1)else out) out↔y∈out\/∃r∈rs,(r.2.1:Int)=d/\E2 r s.2.2.2.1.length y by
   grind
  intro rs
  induction rs with
  |nil=>intro out;simp
  |cons r rs ih=>
   intro out;rw[List.foldl_cons,ih]
   grind [yB,Cq,E2]
 grind
def Rm(s:ie)(L:List (List Int)):Prop:=L.length=s.2.2.2.1.length/\∀d,∀h:d<L.length,L[d].length<=6000/\∀y,y∈L[d]↔Dp s (d:Int) y
theorem r9(s:ie)(hs:pw s):Wp (M.iM aU s) (Rm s):=by
 have Iz:=hs.2.2.1;have Zf:=hs.2.2.2.1;have hru:=hs.2.2.2.2.2.2;unfold M.iM;rw[wp_bind];refine my.2 ⟨by omega,?_⟩;rw[wp_bind,agD]
 refine Wp.count (λs=>s.1) s.2.2.2.2.length (λk q=>q.2.length=s.2.2.2.1.length/\∀d,∀h:d<q.2.length,q.2[d].length<=100*k/\∀y,y∈q.2[d]↔∃j,∃h:j<s.2.2.2.2.length,j<k/\(s.2.2.2.2[j].2.1:Int)=(d:Int)/\E2 s.2.2.2.2[j] s.2.2.2.1.length y) (by omega) rfl ⟨by simp,λd h=>by simp⟩ λk q hk Dn hJ=>?_
 obtain⟨i,q⟩:=q;obtain⟨hl,hm⟩:=hJ;dsimp only at Dn hl hm;subst Dn;simp only[W_,aq,au,reduceCtorEq,bo,bc];refine⟨λaH=>?_,λhge=>?_⟩
 .have aH:k<s.2.2.2.2.length:=by omega
  have hrk:=hru _ (agA aH);simp only[aB aH,cy (m:=s.2.2.2.2.length) (by omega) aH,hl,W_,aq,au,reduceCtorEq]
  have MA:∀d,∀h:d<q.length,(¬(s.2.2.2.2[k].2.1:Int)=(d:Int))->q[d].length<=100*(k+1)/\∀y,y∈q[d]↔∃j,∃h:j<s.2.2.2.2.length,j<k+1/\(s.2.2.2.2[j].2.1:Int)=(d:Int)/\E2 s.2.2.2.2[j] s.2.2.2.1.length y:=(by grind)
  have dfo:=ID s.2.2.2.2[k] s.2.2.2.1.length hrk.2.2.1 hrk.2.2.2
  obtain⟨(v:Int),hv⟩:∃v:Int,v=s.2.2.2.2[k].2.1:=⟨_,rfl⟩
  simp only[<-hv]at MA⊢;refine⟨λh0=>⟨λh1=>?_,λh1=>⟨aH,λd h=>MA d (by omega) λe=>h1 (e▸Int.ofNat_lt.2 h)⟩⟩,λh0=>⟨aH,λd h=>MA d (by omega) (by grind)⟩⟩;obtain⟨c,rfl⟩:=agF h0
  have hc:c<q.length:=by rw[hl];exact Int.ofNat_lt.1 h1
  simp only[aB hc,W_,aq,au,reduceCtorEq]
  refine dfo.mono λl9 h9=>pu.2 ⟨by grind,?_⟩
  refine⟨aH,by rw[iC];exact hl,λd h=>?_⟩
  have hd:d<q.length:=by rw[iC]at h;exact h
  rw[uT h hd]
  by_cases e:(c:Int)=(d:Int)
  .rw[aj e]
   have e:c=d:=by omega
   subst e;refine⟨by grind,λy=>?_⟩;rw[agT,(hm c hd).2,h9.2];constructor
   .rintro(⟨j,h1,h2,h3⟩|h3)
    .grind
    grind
   grind
  .rw[ai e];exact MA d hd e
 obtain rfl:k=s.2.2.2.2.length:=by omega
 have W7:∀d,∀h:d<q.length,q[d].length<=6000/\∀y,y∈q[d]↔Dp s (d:Int) y:=λd h=>⟨by grind,λy=>by
  rw[(hm d h).2,Lr];constructor
  .grind
  grind [agS]⟩
 refine Wp.count (λs=>s.1) q.length (λk z=>z.2.length=q.length/\∀d,∀h:d<z.2.length,z.2[d].length<=6000/\∀y,y∈z.2[d]↔Dp s (d:Int) y) (by omega) rfl ⟨rfl,W7⟩ λk z hk Dn hJ=>?_
 obtain⟨i,z⟩:=z;obtain⟨zl,zm⟩:=hJ;dsimp only at Dn zl zm;subst Dn;simp only[W_,aq,au,reduceCtorEq,bo,bc];refine⟨λaH=>?_,λhge=>⟨by grind,zm⟩⟩
 have aH:k<q.length:=by omega
 have hkz:k<z.length:=by omega
 simp only[aB hkz,cy (m:=q.length) (by omega) aH,W_,aq,au,reduceCtorEq]
 refine(Aa z[k] (by grind)).mono λr hr=>⟨aH,by rw[iC];exact zl,λd h=>?_⟩
 have hd:d<z.length:=by rw[iC]at h;exact h
 rw[uT h hd]
 by_cases e:(k:Int)=(d:Int)
 .grind
 grind
def Sn(seen:List Bool)(y:Int):Prop:=0<=y/\seen[y.toNat]? =aa af
def Rn{seen:List Bool}{x:Int}(hx:0<=x/\x.toNat<seen.length)(y:Int):Sn (bm seen x af) y↔y=x\/Sn seen y:=by
 grind [Sn,bm]
structure RI(D:Int->Int->Prop)(d0:Int)(n:Nat)(ex:Int->Prop)(seen:List Bool)(q:List Int):Prop where
 len:seen.length=n
 qo:∀x∈q,0<=x/\x<(n:Int)/\(x=d0\/Sn seen x)
 snd:∀y,Sn seen y->Jl D d0 y
 clo:∀x,(x=d0\/Sn seen x)->x∈q\/ex x\/∀y,D x y->Sn seen y
 bud:q.length+seen.count ag<=n+1
def E3(s:ie)(L:List (List Int))(hL:Rm s L)(d:Nat)(hd:d<s.2.2.2.1.length)(Iz:s.2.2.2.1.length<=14):Wp (M.lZ aU L (d:Int)) λr=>r.length<=1000/\∀y,y∈r↔Jl (Dp s) (d:Int) y:=by
 obtain⟨hl,hL⟩:=hL
 have hD:∀a b,Dp s a b->0<=b/\b<(s.2.2.2.1.length:Int):=λa b h=>(mz s a).2 b h
 generalize s.2.2.2.1.length=n at*;unfold M.lZ;rw[wp_bind];refine my.2 ⟨by omega,?_⟩;rw[wp_bind,agD,hl]
 refine Wp.loop (λq=>RI (Dp s) (d:Int) n (λ_=>False) q.1 q.2) (λq=>2*q.1.count ag+q.2.length) ?_ ?_ λq hq=>?_
 .refine⟨by simp,λx hx=>?_,λy hy=>?_,λx hx=>?_,by simp;omega⟩
  .grind
  .exfalso;have:=hy.2
   grind
  .rcases hx with rfl|hx
   .grind
   .exfalso;have:=hx.2
    grind
 .grind [aU]
 obtain⟨seen,q⟩:=q;dsimp only at hq;dsimp only
 have hcn:∀l:List Bool,l.count ag<=l.length:=λl=>List.count_le_length
 refine Wp.dec (λh0=>?_) λh0=>?_
 .have SD:0<q.length:=by omega
  obtain⟨x,t,rfl⟩:=List.exists_cons_of_ne_nil (List.length_pos_iff.1 SD);have hx:=hq.qo x (by simp);obtain⟨c,rfl⟩:=agF hx.1
  have hc:c<L.length:=by omega
  have i0:idx ((c:Int)::t) (0:Int)=aa (c:Int):=rfl
  have Dw:ga ((c:Int)::t) (1:Int) (((c:Int)::t).length:Int)=aa t:=by
   apply Wp.eq;refine wp_cut.2 ⟨by simp;omega,?_⟩;rw[agD,List.take_length];rfl
  rw[i0,agv,Dw,agv,aB hc,agv]
  have OT:∀y,Dp s (c:Int) y->Jl (Dp s) (d:Int) y:=λy h=>by
   rcases hx.2.2 with e|e
   .exact .one (e▸h)
   .exact .step (hq.snd _ e) h
  have Uq:=(hL c hc).2;have PO:=(hL c hc).1;have Pk:=hq.bud;simp only[List.length_cons]at Pk;generalize L[c]=l at*
  refine Wp.count (λs=>s.1) l.length (λk z=>RI (Dp s) (d:Int) n (λy=>y=(c:Int)) z.2.1 z.2.2/\(∀j,j<k->∀h:j<l.length,Sn z.2.1 l[j])/\2*z.2.1.count ag+z.2.2.length<=2*seen.count ag+t.length) (by omega) rfl ⟨⟨hq.len,λx hx=>hq.qo x (by simp[hx]),hq.snd,λx hx=>?_,by grind⟩,λj hj=>by omega,agB _⟩ λk z hk Dn hJ=>?_
  .rcases hq.clo x hx with h|h|h
   all_goals grind
  obtain⟨i,sn,qu⟩:=z;obtain⟨hR,hP,hB⟩:=hJ;dsimp only at Dn hR hP hB;subst Dn;simp only[W_,aq,au,reduceCtorEq,bo,bc];refine⟨λaH=>?_,λhge=>?_⟩
  .have aH:k<l.length:=by omega
   have hy:Dp s (c:Int) l[k]:=(Uq _).1 (agA aH);have Zm:=hD _ _ hy;simp only[aB aH,cy (m:=l.length) (by omega) aH,W_,aq,au,reduceCtorEq]
   obtain⟨y,Vy⟩:∃y,y=l[k]:=⟨_,rfl⟩
   simp only[<-Vy]at hy Zm⊢
   have hyl:y.toNat<sn.length:=by rw[hR.len];omega
   refine fj.2 ⟨by rw[hR.len];omega,λhf=>fj.2 ⟨by grind,pu.2 ⟨?_,aH,?_⟩⟩,λht=>⟨aH,hR,eZ hP λ_=>?_,hB⟩⟩
   .grind
   .have xv:=Rn (seen:=sn) (x:=y) ⟨Zm.1,hyl⟩
    have NX:(bm sn y af).count ag+1=sn.count ag:=by
     unfold bm;rw[List.count_set hyl]
     have h1:0<sn.count ag:=(by grind)
     simp[hf];omega
    refine⟨⟨by unfold bm;simp[hR.len],λx hx=>?_,λz hz=>?_,λx hx=>?_,?_⟩,eZ (λj hj h=>?_) λh=>?_,?_⟩
    .rcases agT.1 hx with hx|hx
     .obtain⟨a1,a2,a3⟩:=hR.qo x hx
      grind
     grind
    .rcases(xv z).1 hz with rfl|hz
     .exact OT _ hy
     .exact hR.snd z hz
    .have go:x=(d:Int)\/Sn sn x->x∈qu++[y]\/x=(c:Int)\/∀z,Dp s x z->Sn (bm sn y af) z:=λg=>by
      rcases hR.clo x g with h|h|h
      all_goals grind
     grind
    .have:=hR.bud;simp;omega
    all_goals grind
   .rw[<-Vy];exact⟨Zm.1,by grind⟩
  .obtain rfl:k=l.length:=by omega
   show yu _ _ _ _ (.inl _)
   refine⟨⟨hR.len,hR.qo,hR.snd,λx hx=>?_,hR.bud⟩,?_⟩
   .rcases hR.clo x hx with h|h|h
    all_goals grind [agS]
   grind
 .have SD:q=[]:=by
   cases q with
   |nil=>rfl
   |cons x t=>simp at h0
  subst SD;refine .some ?_
  show Wp _ _
  have R6:∀y,Sn seen y↔Jl (Dp s) (d:Int) y:=λy=>⟨hq.snd y,λh=>by
   have cl:∀x,(x=(d:Int)\/Sn seen x)->∀z,Dp s x z->Sn seen z:=λx hx=>by
    rcases hq.clo x hx with h|h|h
    all_goals grind
   induction h<;>grind⟩
  have gN:=hq.len
  refine Wp.count (λs=>s.1) seen.length (λk z=>z.2.length<=k/\∀y,y∈z.2↔Sn seen y/\y<(k:Int)) (by omega) rfl ⟨by simp,λy=>⟨λh=>(by cases h),λh=>(by have:=h.1.1;grind)⟩⟩ λk z hk Dn hJ=>?_
  obtain⟨i,o⟩:=z;obtain⟨hJ1,hJ⟩:=hJ;dsimp only at Dn hJ1 hJ;subst Dn;simp only[W_,aq,au,reduceCtorEq,bo,bc];refine⟨λaH=>?_,λhge=>⟨by omega,λy=>?_⟩⟩
  .have aH:k<seen.length:=by omega
   have PK:Sn seen (k:Int)↔seen[k]=af:=by
    unfold Sn;rw[agD,agz aH];simp
   simp only[aB aH,cy (m:=seen.length) (by omega) aH,W_,aq,au,reduceCtorEq]
   grind [pu]
  .rw[hJ,<-R6];refine⟨λh=>h.1,λh=>⟨h,?_⟩⟩;have:=(agL.1 h.2).1
   grind
def Ix.all(x:ie)(hs:pw x):Ix x:=λd hd=>by
 have key:Wp (M.gG aU x (d:Int)) λtr=>tr.length<=1000/\∀y,y∈tr↔Jl (Dp x) (d:Int) y:=by
  unfold M.gG;rw[ai (by simp),agv,ai (by simp;omega),wp_bind]
  refine(r9 x hs).mono λL hL=>?_
  rw[wp_bind]
  exact(E3 x L hL d hd hs.2.2.1).mono λr hr=> .some hr
 obtain⟨tr,e,h1,h2⟩:=key
 grind [Gm]
def qg(l:Lw)(hw:WF dv l)(il:gy l):M.fB aU l=aa (ET l):=
 Cn l hw il (λ_ _=>Cm.all _) λx hx=>Ix.all x (il.2.2.2.2.2 x hx)
end L
namespace L
def fP(a b:Nat):Nat:=a ^^^(a&&& b)
theorem cT(a b i:Nat):(fP a b).testBit i=(a.testBit i&& !b.testBit i):=by
 grind [fP]
def yC{a:Nat}(h:a<9223372036854775808):(ahf 64 (a:Int)).toNat=a:=by
 grind
theorem wrap_i64{x:Nat}(h:x<9223372036854775808):agw.wrap (x:Int)=(x:Int):=we (by omega)
theorem IE{a b:Nat}(ha:a<9223372036854775808)(hb:b<9223372036854775808):aG .and .i64 (a:Int) (b:Int)=((a&&& b:Nat):Int):=by
 show agw.wrap ((ahf 64 (a:Int)&&& ahf 64 (b:Int)).toNat:Int)=_
 grind [wrap_i64,Nat.and_le_left]
def Ur{a b:Nat}(ha:a<9223372036854775808)(hb:b<9223372036854775808):aG .xor .i64 (a:Int) (b:Int)=((a ^^^ b:Nat):Int):=by
 show agw.wrap ((ahf 64 (a:Int)^^^ ahf 64 (b:Int)).toNat:Int)=_
 have h:a ^^^ b<2 ^ 63:=Nat.xor_lt_two_pow (by omega) (by omega)
 grind [wrap_i64]
def IF{a b:Nat}(ha:a<9223372036854775808)(hb:b<9223372036854775808):aG .andNot .i64 (a:Int) (b:Int)=((fP a b:Nat):Int):=by
 show agw.wrap ((ahf 64 (a:Int)&&& ~~~ahf 64 (b:Int)).toNat:Int)=_
 have h:(ahf 64 (a:Int)&&& ~~~ahf 64 (b:Int)).toNat=fP a b:=by
  apply ahC;intro i;rw[cT,BitVec.testBit_toNat,BitVec.getLsbD_and,BitVec.getLsbD_not,<-BitVec.testBit_toNat,<-BitVec.testBit_toNat,yC ha,yC hb];by_cases hi:i<64
  .simp[hi]
  .have:a.testBit i=ag:=Nat.testBit_lt_two_pow (agV ha (by have:=Nat.pow_le_pow_right (n:=2) (by omega) (show 63<=i by omega);omega));simp[hi,this]
 have hl:fP a b<=a:=by
  apply Nat.le_of_testBit;intro i;rw[cT]
  cases a.testBit i<;>simp
 rw[h,wrap_i64 (by omega)]
def E4(a b:Nat):fP a b<=a:=by
 apply Nat.le_of_testBit
 grind [cT]
noncomputable def kL(a:Int):Int:=(M.gS 0 (agy.wrap a)).getD 0
def Ab(N:Nat)(a:Int):M.cM N (agy.wrap a)=aa (kL a):=by
 unfold M.cM kL;rfl
def Ro(a b:Int):Int:=if a<b then-1 else if b<a then 1 else 0
def q9(N:Nat)(a b:Int):M.cmp_Compare_int N a b=aa (Ro a b):=by
 grind [M.cmp_Compare_int,M.cmp_isNaN_int,Ro]
def or_eq(a b c:Int):M.om aU [a,b,c]=aa (if a≠0 then a else if b≠0 then b else c):=by
 unfold M.om;refine Wp.eq ?_
 refine Wp.count (λs=>s) 3 (λk _=>(1<=k->a=0)/\(2<=k->b=0)/\(3<=k->c=0)) (by omega) rfl ⟨by omega,by omega,by omega⟩ λk s hk hs hJ=>?_
 subst hs
 match k,hk with
 |0,_=>
  refine .dec (λ_=> .bind (.idx 0 rfl (show 0<3 by omega) ?_)) (by grind);refine .kK (λh=> .some ?_) (λh=> .some ?_)
  .show a=_
   grind
  .exact⟨by omega,by decide,λ_=>h,by omega,by omega⟩
 |1,_=>
  refine .dec (λ_=> .bind (.idx 1 rfl (show 1<3 by omega) ?_)) (by grind);have h0:=hJ.1 (by omega);refine .kK (λh=> .some ?_) (λh=> .some ?_)
  .show b=_
   grind
  .exact⟨by omega,by decide,λ_=>h0,λ_=>h,by omega⟩
 |2,_=>
  refine .dec (λ_=> .bind (.idx 2 rfl (show 2<3 by omega) ?_)) (by grind);have h0:=hJ.1 (by omega);have h1:=hJ.2.1 (by omega);refine .kK (λh=> .some ?_) (λh=> .some ?_)
  .show c=_
   grind
  .exact⟨by omega,by decide,λ_=>h0,λ_=>h1,λ_=>h⟩
 |3,_=>
  have h0:=hJ.1 (by omega);have h1:=hJ.2.1 (by omega);have h2:=hJ.2.2 (by omega);refine .dec (λh=>absurd h (by simp)) (λ_=> .some ?_)
  show(0:Int)=_
  grind
def Rp(a b c d:Int)(f g:Int):Int:=if f<g then-1 else if g<f then 1 else if a<c then-1 else if c<a then 1 else if b<d then-1 else if d<b then 1 else 0
theorem cmp_eq(a b c d:Int):M.cS aU (a,b) (c,d)=aa (Rp a b c d (kL a) (kL c)):=by
 unfold M.cS;rw[Ab,agv,Ab,agv,q9,agv,q9,agv,q9,agv,or_eq,agv]
 grind [Ro,Rp]
def rz(x y:Int×Int):Prop:=kL x.1<kL y.1\/kL x.1=kL y.1/\(x.1<y.1\/x.1=y.1/\x.2<y.2)
def Ac(x y:Int×Int):ag7 (oS λa b c d=>M.cS aU (a,b) (c,d)) x y=af↔rz x y:=by
 unfold ag7 oS
 grind [cmp_eq,Rp,rz]
theorem ra(x y:Int×Int):ag7 (oS λa b c d=>M.cS aU (a,b) (c,d)) x y=ag↔¬rz x y:=by
 rw[<-Ac];simp
def Us:KW λa b c d=>M.cS aU (a,b) (c,d) where
 all a b c d:=⟨_,cmp_eq a b c d⟩
 swo:=⟨λx=>by rw[ra];unfold rz;omega,λx y z h1 h2=>by rw[Ac]at*;unfold rz at*;omega,λx y z h1 h2=>by rw[ra]at*;unfold rz at*;omega⟩
 tot x y h1 h2:=by
  grind [ra,rz]
end L
namespace L
def gz{x m b:Nat}:x&&& m=b↔∀i,(x.testBit i&&m.testBit i)=b.testBit i:=by
 constructor
 .grind
 .intro h;apply ahC;grind
theorem ij{b m:Nat}:b&&& m=b↔∀i,b.testBit i=af->m.testBit i=af:=by
 rw[gz]
 grind
def vb(j i:Nat):(2 ^ j).testBit i=decide (j=i):=Nat.testBit_two_pow
theorem Ad{m n:Nat}(h:m<2 ^ n){i:Nat}(hi:m.testBit i=af):i<n:=by
 refine Classical.byContradiction λg=>?_
 grind [Nat.testBit_lt_two_pow,agV,Nat.pow_le_pow_right]
def pC(n:Nat)(S:Nat->Prop)(m b:Nat):Prop:=m<2 ^ n/\b&&& m=b/\∀x,x<2 ^ n->x&&& m=b->S x
def pC.lt{n:Nat}{S:Nat->Prop}{m b:Nat}(h:pC n S m b):b<2 ^ n:=Nat.lt_of_le_of_lt (by rw[<-h.2.1];exact Nat.and_le_right) h.1
def pC.merge{n:Nat}{S:Nat->Prop}{m b j:Nat}(h:pC n S m b)(g:pC n S m (b ^^^ 2 ^ j))(_hj:m.testBit j=af):pC n S (fP m (2 ^ j)) (fP b (2 ^ j)):=by
 refine⟨Nat.lt_of_le_of_lt (E4 _ _) h.1,?_,λx hx hm=>?_⟩
 .rw[ij];intro i;rw[cT,cT];have:=ij.1 h.2.1 i
  grind
 .have hm:=gz.1 hm;by_cases MX:x.testBit j=b.testBit j
  .refine h.2.2 x hx (gz.2 λi=>?_)
   grind [cT]
  .refine g.2.2 x hx (gz.2 λi=>?_)
   grind [cT]
def pC.wider{n:Nat}{S:Nat->Prop}{m b j:Nat}(h:pC n S m b)(hj:m.testBit j=ag)(hn:j<n):pC n S (m|||2 ^ j) b/\pC n S (m|||2 ^ j) (b ^^^ 2 ^ j):=by
 have aH:m|||2 ^ j<2 ^ n:=Nat.or_lt_two_pow h.1 (Nat.pow_lt_pow_right (by omega) hn)
 have hb:b.testBit j=ag:=by
  cases e:b.testBit j with
  |false=>rfl
  |true=>rw[ij.1 h.2.1 j e]at hj;cases hj
 refine⟨⟨aH,?_,λx hx hm=>h.2.2 x hx (gz.2 λi=>?_)⟩,⟨aH,?_,λx hx hm=>h.2.2 x hx (gz.2 λi=>?_)⟩⟩
 .rw[ij];intro i hi;rw[Nat.testBit_or,ij.1 h.2.1 i hi];rfl
 .grind
 .rw[ij];intro i hi;rw[Nat.testBit_xor,vb]at hi;rw[Nat.testBit_or,vb];by_cases e:j=i
  .simp[e]
  .have:b.testBit i=af:=by simpa[e]using hi
   rw[ij.1 h.2.1 i this];rfl
 .have:=gz.1 hm i
  grind
def Rq{m j:Nat}(h:m.testBit j=ag):fP (m|||2 ^ j) (2 ^ j)=m:=by
 apply ahC;grind [cT]
def wz{b j:Nat}(h:b.testBit j=ag):fP b (2 ^ j)=b:=by
 apply ahC;grind [cT]
def NZ(b j:Nat):fP (b ^^^ 2 ^ j) (2 ^ j)=fP b (2 ^ j):=by
 apply ahC;grind [cT]
def N0(b j:Nat):b ^^^ 2 ^ j ^^^ 2 ^ j=b:=by grind
def E5{n:Nat}{S:Nat->Prop}{In:Nat->Nat->Prop}(h0:∀x,x<2 ^ n->S x->In (2 ^ n-1) x)
 (hc:∀m b j,j<n->m.testBit j=af->In m b->In m (b ^^^ 2 ^ j)->In (fP m (2 ^ j)) (fP b (2 ^ j))):∀k m b,2 ^ n-m=k->pC n S m b->In m b:=by
 intro k
 induction k using Nat.strongRecOn with
 |_ k ih=>
  intro m b hk h;by_cases hf:∃j,j<n/\m.testBit j=ag
  .obtain⟨j,hj,hm⟩:=hf;obtain⟨h1,h2⟩:=h.wider hm hj
   have hgt:m<m|||2 ^ j:=by
    refine Nat.lt_of_le_of_ne Nat.left_le_or λe=>?_
    have:(m|||2 ^ j).testBit j=af:=by rw[Nat.testBit_or,vb];simp
    rw[<-e,hm]at this;cases this
   have aH:=h1.1;have:=hc (m|||2 ^ j) b j hj (by grind) (ih _ (by omega) _ _ rfl h1) (ih _ (by omega) _ _ rfl h2)
   have hb:b.testBit j=ag:=by
    cases e:b.testBit j with
    |false=>rfl
    |true=>rw[ij.1 h.2.1 j e]at hm;cases hm
   rwa [Rq hm,wz hb]at this
  .have hm:m=2 ^ n-1:=by
    apply ahC;intro i;rw[Nat.testBit_two_pow_sub_one];by_cases hi:i<n
    .grind
    .cases e:m.testBit i with
     |true=>exact absurd (Ad h.1 e) hi
     |false=>simp[hi]
   subst hm;exact h0 b h.lt (h.2.2 b h.lt h.2.1)
def pC.full{n:Nat}{S:Nat->Prop}{x:Nat}(hx:x<2 ^ n)(hS:S x):pC n S (2 ^ n-1) x:=by
 have hp:0<2 ^ n:=Nat.two_pow_pos n;refine⟨by omega,?_,λy hy he=>?_⟩
 all_goals grind [ij,Ad]
end L
namespace L
abbrev PS:Type:=List (ay.den×Bool)
def In(l:PS)(p:Int×Int):Prop:=(bR ay l p).getD ag=af
def Ae(a b:Int×Int):Prop:=a.1<b.1\/a.1=b.1/\a.2<b.2
structure kM(l:PS):Prop where
 tr:∀e∈l,e.2=af
 srt:l.Pairwise λe f=>Ae e.1 f.1
def Ae.trans{a b c:Int×Int}(h:Ae a b)(g:Ae b c):Ae a c:=by unfold Ae at*;omega
theorem Ae.total{a b:Int×Int}(h:¬Ae a b)(g:b≠a):Ae b a:=by
 grind [Ae]
theorem la(a b:Int×Int):eA ay a b=af↔a=b:=by
 show decide ((a.1:Int)=b.1/\(a.2:Int)=b.2)=af↔_
 grind
theorem lF(a b:Int×Int):eA ay a b=ag↔a≠b:=by grind [la]
def yD(a b:Int×Int):Ke ay a b=af↔Ae a b:=by
 show decide ((a.1:Int)<b.1\/((a.1:Int)=b.1/\(a.2:Int)<b.2))=af↔_
 rw[aw];rfl
def kN:{l:PS}->{p:Int×Int}->(∀e∈l,e.2=af)->(In l p↔(p,af)∈l)
 |[],p,_=>by simp[In,bR]
 |q::l,p,h=>by
  have ih:=kN (l:=l) (p:=p) λe he=>h e (List.mem_cons_of_mem _ he)
  have hq:=h q List.mem_cons_self;unfold In bR;by_cases e:eA ay q.1 p=af
  .rw[aj e];have e':=(la _ _).1 e;have:q=(p,af):=Prod.ext e' hq;simp[this]
  .rw[ai e]
   have e':q.1≠p:=λg=>e ((la _ _).2 g)
   refine ih.trans ⟨λg=>List.mem_cons_of_mem _ g,λg=>?_⟩
   rcases agY.1 g with g|g
   .exact absurd (by rw[<-g]) e'
   .exact g
theorem kM.nil:kM []:=⟨λe h=>by simp at h, .nil⟩
theorem wA{l:PS}{p:Int×Int}{v:Bool}{e:(Int×Int)×Bool}:e∈Bh ay l p v↔e=(p,v)\/e∈l:=by grind [p5]
def Cr{p:Int×Int}{v:Bool}:{l:PS}->l.Pairwise (λe f=>Ae e.1 f.1)->(∀e∈l,e.1≠p)->(Bh ay l p v).Pairwise λe f=>Ae e.1 f.1
 |[],_,_=>by simp[Bh]
 |q::l,h,hn=>by
  obtain⟨h1,h2⟩:=agO.1 h;unfold Bh;by_cases hk:Ke ay p q.1=af
  .rw[aj hk];have hk:=(yD _ _).1 hk;refine agO.2 ⟨λe he=>?_,h⟩
   rcases agY.1 he with rfl|he
   .exact hk
   .exact hk.trans (h1 e he)
  .rw[ai hk]
   have hk:¬Ae p q.1:=λg=>hk ((yD _ _).2 g)
   refine agO.2 ⟨λe he=>?_,Cr h2 (by grind)⟩
   grind [wA,Ae.total]
def kM.put{l:PS}(h:kM l)(p:Int×Int):kM (qs ay l p af):=by
 refine⟨λe he=>?_,Cr (h.srt.filter _) λe he=>?_⟩
 .rcases wA.1 he with rfl|he
  .rfl
  .exact h.tr e (ahi.1 he).1
 grind [lF]
def Af{l:PS}(h:kM l){p q:Int×Int}:In (qs ay l p af) q↔q=p\/In l q:=by
 rw[kN (h.put p).tr,kN h.tr]
 grind [qs,wA,lF]
def N1{l:PS}(h:kM l){p:Int×Int}(hn:¬In l p):(qs ay l p af).length=l.length+1:=by
 unfold qs;refine(p5 (K:=ay) p af _).length_eq.trans ?_;rw[List.length_cons,ahP.2];intro e he;rw[Bool.not_eq_true',lF];intro g;refine hn ((kN h.tr).2 ?_);have:e=(p,af):=Prod.ext g (h.tr e he)
 grind
def kM.ext{l m:PS}(h:kM l)(g:kM m)(e:∀p,In l p↔In m p):l=m:=by
 have Hs:∀{l:PS},kM l->l.Nodup:=λh=>h.srt.imp λg e=>by
  subst e;unfold Ae at g;omega
 have hm:∀a:ay.den×Bool,a∈l↔a∈m:=λa=>by
  constructor
  .intro ha;have:a=(a.1,af):=Prod.ext rfl (h.tr a ha);rw[this]at ha⊢;exact(kN g.tr).1 ((e _).1 ((kN h.tr).2 ha))
  .intro ha;have:a=(a.1,af):=Prod.ext rfl (g.tr a ha);rw[this]at ha⊢;exact(kN h.tr).1 ((e _).2 ((kN g.tr).2 ha))
 refine List.Perm.eq_of_pairwise (le:=λe f:ay.den×Bool=>Ae e.1 f.1) (λa b _ _ h1 h2=>?_) h.srt g.srt (by grind);unfold Ae at h1 h2;omega
def qh{α:Type}:∀{A B:List α},A.Nodup->(∀x∈A,x∈B)->A.length<=B.length
 |[],_,_,_=>Nat.zero_le _
 |a::A,B,h,hs=>by
  obtain⟨h1,h2⟩:=List.nodup_cons.1 h;obtain⟨s,t,rfl⟩:=List.append_of_mem (hs a List.mem_cons_self);have:=qh (A:=A) (B:=s++t) h2 (by grind)
  grind
theorem kM.len{l:PS}(h:kM l)(k:Nat)(hk:∀p,In l p->∃m b:Nat,p=((m:Int),(b:Int))/\m<k/\b<k):l.length<=k*k:=by
 have:=qh (A:=l.map λe=>(e.1.1*k+e.1.2:Int)) (B:=(agG (k*k)).map λx:Nat=>(x:Int)) ?_ λx hx=>?_
 .grind
 .rw[List.Nodup,List.pairwise_map];refine List.Pairwise.imp_of_mem (λ{e f}he hf aH=>?_) h.srt
  have key:∀{e:ay.den×Bool},e∈l->In l e.1:=λ{e}he=>(kN h.tr).2 (by rw[show(e.1,af)=e from Prod.ext rfl (h.tr e he).symm];exact he)
  obtain⟨m,b,e1,h1,h2⟩:=hk _ (key he);obtain⟨m',b',e2,h3,h4⟩:=hk _ (key hf);rw[e1,e2]at aH⊢;dsimp only[Ae]at aH⊢;intro g
  have g:m*k+b=m'*k+b':=by exact_mod_cast g
  have h5:(m*k+b)/k=m:=by rw[Nat.mul_comm,Nat.mul_add_div (by omega),Nat.div_eq_of_lt h2,Nat.add_zero]
  have h6:(m'*k+b')/k=m':=by rw[Nat.mul_comm,Nat.mul_add_div (by omega),Nat.div_eq_of_lt h4,Nat.add_zero]
  grind
 .obtain⟨e,he,rfl⟩:=List.mem_map.1 hx;have:In l e.1:=(kN h.tr).2 (by rw[show(e.1,af)=e from Prod.ext rfl (h.tr e he).symm];exact he);obtain⟨m,b,e1,h1,h2⟩:=hk _ this;rw[e1];refine List.mem_map.2 ⟨m*k+b,List.mem_range.2 ?_,by simp⟩;have:=agM k (show m+1<=k by omega)
  grind
def Ct{α A R:Type}{l0:List (ay.den×α)}{fin:List (ay.den×α)×List (ay.den×α)×A->Option R}{step:List (ay.den×α)×List (ay.den×α)×A->(ay.den×α)->Option A}(I:List (ay.den×α)->A->Prop){Ut:R->Prop}(hu:∀r r',Ut r->Ut r'->r=r')
 (dJ:∀left acc x,x∈left->I left acc->Wp (step (l0,left,acc) x) (I (mj ay left x.1)))(PJ:∀acc,I [] acc->Wp (fin (l0,[],acc)) Ut):
 ∀(n N:Nat)left acc,left.length<=n->n<N->I left acc->Wp (qz (λs k2=>if s.2.1.isEmpty=af then fin s else Nd (λp=>p∈s.2.1) λx=>(step s x).bind λa=>k2 (s.1,mj ay s.2.1 x.1,a)) N (l0,left,acc)) Ut:=by
 intro n
 induction n with
 |zero=>
  intro N left acc hl hN hi;obtain⟨N,rfl⟩:=Nat.exists_eq_succ_of_ne_zero (show N≠0 by omega)
  grind [qz]
 |succ n ih=>
  intro N left acc hl hN hi;obtain⟨N,rfl⟩:=Nat.exists_eq_succ_of_ne_zero (show N≠0 by omega)
  by_cases he:left=[]
  .grind
  .have sN:¬left.isEmpty=af:=by simpa using he
   have key:∀x,x∈left->∃a r,step (l0,left,acc) x=aa a/\qz (λs k2=>if s.2.1.isEmpty=af then fin s else Nd (λp=>p∈s.2.1) λx=>(step s x).bind λa=>k2 (s.1,mj ay s.2.1 x.1,a)) N (l0,mj ay left x.1,a)=aa r/\Ut r:=λx hx=>by
    obtain⟨a,ha,kW⟩:=dJ left acc x hx hi
    have:(mj ay left x.1).length<left.length:=by
     unfold mj;refine List.length_filter_lt_length_iff_exists.2 ⟨x,hx,?_⟩;rw[(la _ _).2 rfl];simp
    obtain⟨r,hr,h⟩:=ih N (mj ay left x.1) a (by omega) (by omega) kW
    grind
   obtain⟨x0,Uu⟩:=List.exists_mem_of_ne_nil _ he;obtain⟨_,r0,_,_,h0⟩:=key x0 Uu;refine⟨r0,?_,h0⟩;unfold qz;refine(ai sN).trans (P6 ⟨x0,Uu⟩ λx hx=>?_)
   grind
end L
namespace L
def oA{j:Nat}(h:j<62):qK .i64 (1:Int) (j:Int)=aa ((2 ^ j:Nat):Int):=by
 unfold qK;rw[ai (by omega)];unfold w7
 have h1:min (j:Int).toNat agw.bits=j:=by simp[IntKind.bits];omega
 have h2:2 ^ j<2 ^ 62:=Nat.pow_lt_pow_right (by omega) h
 grind [wrap_i64]
def Ls:∀j,j<8->kL ((2 ^ j:Nat):Int)=1:=by
 intro j hj
 have h:((agG 8).all λj=>decide (kL ((2 ^ j:Nat):Int)=1))=af:=by kernel_rfl
 grind
abbrev pI(m b:Nat):Int×Int:=((m:Int),(b:Int))
def rb{m b m' b':Nat}(h:pI m b=pI m' b'):m=m'/\b=b':=by
 grind
def Ag(b j:Nat):b ^^^(b ^^^ 2 ^ j)=2 ^ j:=by grind
def rc{n:Nat}(h:n<=8):2 ^ n<=256:=Nat.pow_le_pow_right (n:=2) (by omega) h
def N2{b j:Nat}(hb:b<256)(hj:j<8):b ^^^ 2 ^ j<256:=Nat.xor_lt_two_pow (n:=8) hb (by have:=Nat.pow_lt_pow_right (a:=2) (by omega) hj;omega)
def Ah{j:Nat}(hj:j<8):2 ^ j<256:=Nat.pow_lt_pow_right (a:=2) (by omega) hj
def Lt{m b j:Nat}(hm:m<256)(hb:b<256)(hj:j<8)(MG:m.testBit j=af):M.lp aU (pI m b) (pI m (b ^^^ 2 ^ j))=aa (pI (fP m (2 ^ j)) (fP b (2 ^ j)),af):=by
 have h2:=Ah hj
 have hx:aG .xor .i64 (b:Int) ((b ^^^ 2 ^ j:Nat):Int)=((2 ^ j:Nat):Int):=by rw[Ur (by omega) (by have:=N2 hb hj;omega),Ag]
 have ha:aG .and .i64 ((2 ^ j:Nat):Int) (m:Int)≠0:=by
  rw[IE (by omega) (by omega)];intro h
  have h:2 ^ j&&& m=0:=by exact_mod_cast h
  have:=av (λx=>x.testBit j) h;simp only[Nat.testBit_and,vb,MG,Nat.zero_testBit]at this;simp at this
 have ho:M.cM aU (agy.wrap ((2 ^ j:Nat):Int))=aa 1:=by rw[Ab,Ls j hj]
 have h0:decide (aG .and .i64 ((2 ^ j:Nat):Int) (m:Int)=0)=ag:=ao ha;unfold M.lp;simp only[hx,ho,h0,agv,decide_true,Bool.not_true,agK,if_false,IF (show m<9223372036854775808 by omega) (show 2 ^ j<9223372036854775808 by omega),IF (show b<9223372036854775808 by omega) (show 2 ^ j<9223372036854775808 by omega)]
structure nV(n:Nat)(S:Nat->Prop)(l:PS):Prop where
 ok:kM l
 imp:∀p,In l p->∃m b:Nat,p=pI m b/\pC n S m b
 base:∀x,x<2 ^ n->S x->In l (pI (2 ^ n-1) x)
theorem nV.len{n:Nat}{S:Nat->Prop}{l:PS}(h:nV n S l)(hn:n<=8):l.length<=65536:=by
 have:=h.ok.len (2 ^ n) λp hp=>by
  obtain⟨m,b,e,hi⟩:=h.imp p hp;exact⟨m,b,e,hi.1,hi.lt⟩
 have h8:=rc hn;exact agW this (agW (Nat.mul_le_mul h8 h8) (by omega))
def Cl(n:Nat)(l:PS)(Uv:List (Int×Int)):Prop:=
 ∀m b j:Nat,j<n->m.testBit j=af->In l (pI m b)->In l (pI m (b ^^^ 2 ^ j))->pI m b∉Uv->pI m (b ^^^ 2 ^ j)∉Uv->In l (pI (fP m (2 ^ j)) (fP b (2 ^ j)))
def E6(n:Nat)(S:Nat->Prop)(l:PS):Prop:=kM l/\∀p,In l p↔∃m b:Nat,p=pI m b/\pC n S m b
def E6.Lu{n:Nat}{S:Nat->Prop}{l l':PS}(h:E6 n S l)(g:E6 n S l'):l=l':=h.1.ext g.1 λp=>(h.2 p).trans (g.2 p).symm
def nV.done{n:Nat}{S:Nat->Prop}{l:PS}(h:nV n S l)(hc:Cl n l []):E6 n S l:=
 ⟨h.ok,λp=>⟨h.imp p,λ⟨m,b,e,hi⟩=>by
   rw[e]
   exact E5 (In:=λm b=>In l (pI m b)) h.base (λm b j hj hm h1 h2=>hc m b j hj hm h1 h2 (by simp) (by simp)) _ m b rfl hi⟩⟩
def nV.put{n:Nat}{S:Nat->Prop}{l:PS}(h:nV n S l){m b:Nat}(hi:pC n S m b):nV n S (qs ay l (pI m b) af):=
 ⟨h.ok.put _,λp hp=>by
   rcases(Af h.ok).1 hp with rfl|hp
   .grind
   .exact h.imp p hp,λx hx hS=>(Af h.ok).2 (.inr (h.base x hx hS))⟩
structure xw(n:Nat)(S:Nat->Prop)(L0:Nat)(uA rest:List (Int×Int))(m b:Nat)(j:Nat)(l:PS)(nx:List (Int×Int)):Prop where
 good:nV n S l
 levs:∀p∈uA,In l p
 nxt:∀p∈nx,In l p
 len:l.length=L0+nx.length
 cl:Cl n l (pI m b::rest++nx)
 bits:∀i,i<j->m.testBit i=af->In l (pI m (b ^^^ 2 ^ i))->pI m (b ^^^ 2 ^ i)∉nx->In l (pI (fP m (2 ^ i)) (fP b (2 ^ i)))
def xw.same{n:Nat}{S:Nat->Prop}{L0:Nat}{uA rest:List (Int×Int)}{m b j:Nat}{l:PS}{nx:List (Int×Int)}(h:xw n S L0 uA rest m b j l nx)(hb:m.testBit j=af->In l (pI m (b ^^^ 2 ^ j))->In l (pI (fP m (2 ^ j)) (fP b (2 ^ j)))):
 xw n S L0 uA rest m b (j+1) l nx:=
 ⟨h.good,h.levs,h.nxt,h.len,h.cl,λi hi hm h1 h2=>by
   rcases Nat.lt_succ_iff_lt_or_eq.1 hi with hi|rfl
   .exact h.bits i hi hm h1 h2
   grind⟩
def xw.add{n:Nat}{S:Nat->Prop}{L0:Nat}{uA rest:List (Int×Int)}{m b j:Nat}{l:PS}{nx:List (Int×Int)}(h:xw n S L0 uA rest m b j l nx)(hi:pC n S (fP m (2 ^ j)) (fP b (2 ^ j)))(hn:¬In l (pI (fP m (2 ^ j)) (fP b (2 ^ j)))):
 xw n S L0 uA rest m b (j+1) (qs ay l (pI (fP m (2 ^ j)) (fP b (2 ^ j))) af) (nx++[pI (fP m (2 ^ j)) (fP b (2 ^ j))]):=by
 have hp:∀q,In (qs ay l (pI (fP m (2 ^ j)) (fP b (2 ^ j))) af) q↔q=pI (fP m (2 ^ j)) (fP b (2 ^ j))\/In l q:=λq=>Af h.good.ok
 refine⟨h.good.put hi,λp Dj=>(hp p).2 (.inr (h.levs p Dj)),λp Dj=>(hp p).2 ?_,by rw[N1 h.good.ok hn,h.len];simp;omega,λm' b' i kW hm h1 h2 h3 h4=>(hp _).2 ?_,λi kW hm h1 h2=>(hp _).2 ?_⟩
 .rcases agT.1 Dj with h'|h'
  .exact .inr (h.nxt p h')
  grind
 .simp only[List.cons_append,agY,agT,List.not_mem_nil,or_false,not_or]at h3 h4
  rcases(hp _).1 h1 with e|h1
  .grind
  .rcases(hp _).1 h2 with e|h2
   .grind
   .exact .inr (h.cl m' b' i kW hm h1 h2 (by simp only[List.cons_append,agY,agT,not_or];exact⟨h3.1,h3.2.1,h3.2.2.1⟩) (by grind))
 .simp only[agT,agZ,not_or]at h2
  rcases Nat.lt_succ_iff_lt_or_eq.1 kW with kW|rfl
  .rcases(hp _).1 h1 with e|h1
   .grind
   .exact .inr (h.bits i kW hm h1 h2.1)
  grind
def xw.out{n:Nat}{S:Nat->Prop}{L0:Nat}{uA rest:List (Int×Int)}{m b:Nat}{l:PS}{nx:List (Int×Int)}(h:xw n S L0 uA rest m b n l nx):Cl n l (rest++nx):=by
 intro m' b' i hi hm h1 h2 h3 h4
 have h3':=h3;have h4':=h4
 simp only[agT,not_or]at h3 h4;by_cases e1:pI m' b'=pI m b
 .obtain⟨rfl,rfl⟩:=rb e1;exact h.bits i hi hm h2 h4.2
 .by_cases e2:pI m' (b' ^^^ 2 ^ i)=pI m b
  .obtain⟨rfl,e3⟩:=rb e2
   have e4:b'=b ^^^ 2 ^ i:=by rw[<-e3,N0]
   subst e4;rw[NZ];exact h.bits i hi hm h1 h3.2
  .exact h.cl m' b' i hi hm h1 h2 (by simp only[List.cons_append,agY,not_or];exact⟨e1,h3'⟩) (by grind)
def N3{n:Nat}{S:Nat->Prop}{m b j:Nat}(h:pC n S m b)(g:pC n S m (b ^^^ 2 ^ j)):m.testBit j=af:=by
 cases hb:b.testBit j with
 |true=>exact ij.1 h.2.1 j hb
 |false=>exact ij.1 g.2.1 j (by grind)
def Zn(n:Nat)(hn:n<=8)(S:Nat->Prop)(l0:PS)(h0:kM l0)(hIn:∀p,In l0 p↔∃x,x<2 ^ n/\S x/\p=pI (2 ^ n-1) x):Wp (M.fC aU (n:Int) l0) (E6 n S):=by
 have h8:=rc hn
 have Uw:nV n S l0:=⟨h0,λp hp=>by
  obtain⟨x,hx,hS,e⟩:=(hIn p).1 hp
  exact⟨_,x,e, .full hx hS⟩,(by grind)⟩
 have hl0:=Uw.len hn;unfold M.fC;refine Ct (λleft acc=>(∀e∈left,e∈l0)/\(∀p∈acc,In l0 p)/\(∀p,In l0 p->p∈acc\/∃e∈left,e.1=p)/\acc.length+left.length<=l0.length) (λr r' h g=>h.Lu g) (λleft acc x hx hI=>?_) (λacc hI=>?_) l0.length aU l0 [] (agB _) (by unfold aU;omega) ⟨λe he=>he,λp hp=>by simp at hp,λp hp=> .inr ⟨(p,af),(kN h0.tr).1 hp,rfl⟩,by simp⟩
 .obtain⟨h1,h2,h3,h4⟩:=hI
  have hlen:(mj ay left x.1).length<left.length:=by
   unfold mj;refine List.length_filter_lt_length_iff_exists.2 ⟨x,hx,?_⟩;rw[(la _ _).2 rfl];simp
  have sU:∀e,e∈mj ay left x.1↔e∈left/\e.1≠x.1:=λe=>by
   grind [mj,lF]
  have Uu:In l0 x.1:=(kN h0.tr).2 (by rw[show(x.1,af)=x from Prod.ext rfl (h0.tr x (h1 x hx)).symm];exact h1 x hx)
  grind [Wp.tW]
 .obtain⟨-,h2,h3,h4⟩:=hI
  refine Wp.loop (λs=>nV n S s.1/\(∀p∈s.2,In s.1 p)/\Cl n s.1 s.2/\s.2.length<=s.1.length) (λs=>2*(65536-s.1.length)+(if s.2=[]then 0 else 1)) ⟨Uw,h2,λm b j _ _ hm _ hn _=>absurd ?_ hn,by simpa using h4⟩ (by grind [aU]) λs hs=>?_
  .grind
  .obtain⟨l,uA⟩:=s;obtain⟨hg,Zo,KV,hle⟩:=hs;dsimp only at hg Zo KV hle⊢;have PO:=hg.len hn;refine .dec (λdu=>?_) (λhe=> .some ?_)
   .have Hp:uA≠[]:=λe=>by grind
    refine Wp.seq (λj=>nV n S j.1/\(∀p∈j.2,In j.1 p)/\Cl n j.1 j.2/\j.1.length=l.length+j.2.length) ?_ λj hj=> .some ⟨(by grind),?_⟩
    .refine Wp.count (λs=>s.1) uA.length (λk s=>nV n S s.2.1/\(∀p∈uA,In s.2.1 p)/\(∀p∈s.2.2,In s.2.1 p)/\s.2.1.length=l.length+s.2.2.length/\Cl n s.2.1 (uA.drop k++s.2.2)) (by omega) rfl (by grind) λk s hk hs hJ=>?_
     obtain⟨i,l1,nx⟩:=s;obtain⟨g1,g2,g3,g4,g5⟩:=hJ;dsimp only at hs g1 g2 g3 g4 g5⊢;subst hs;refine .dec (λaH=>?_) (λhge=> .some ?_)
     .have aH:k<uA.length:=by omega
      refine Wp.seq (λj=>nV n S j.1/\(∀p∈uA,In j.1 p)/\(∀p∈j.2,In j.1 p)/\j.1.length=l.length+j.2.length/\Cl n j.1 (uA.drop (k+1)++j.2)) (.bind (.idx k rfl aH ?_)) λj hj=> .some ⟨aH,aP (by omega),hj⟩
      obtain⟨m,b,hp,hi⟩:=g1.imp _ (g2 uA[k] (agA aH));rw[agJ aH]at g5;rw[hp]at g5⊢;have hm:=hi.1;have hb:=hi.lt
      refine Wp.count (λs=>s.1) n (λj s=>xw n S l.length uA (uA.drop (k+1)) m b j s.2.1 s.2.2) (by omega) rfl ⟨g1,g2,g3,g4,g5,λi hi=>absurd hi (by omega)⟩ λj s hj hs hB=>?_
      obtain⟨jj,l2,ny⟩:=s;dsimp only at hs hB⊢;subst hs;refine .dec (λQm=>?_) (λhge=> .some ?_)
      .have VJ:j<8:=by omega
       have hx:aG .xor .i64 (b:Int) ((2 ^ j:Nat):Int)=((b ^^^ 2 ^ j:Nat):Int):=Ur (by omega) (by have:=Ah VJ;omega)
       refine Wp.seq (λq=>xw n S l.length uA (uA.drop (k+1)) m b (j+1) q.1 q.2) (.aX (oA (by omega)) ?_) λq hq=> .some ⟨by omega,aP (by omega),hq⟩
       rw[hx];refine .ite (λAG=> .some (hB.same λ_ h=>?_)) (λZp=>?_)
       .rw[show(bR ay l2 (pI m (b ^^^ 2 ^ j))).getD ag=af from h]at AG;cases AG
       .have cG:In l2 (pI m (b ^^^ 2 ^ j)):=by simpa[In]using Zp
        obtain⟨m',b',e,kW⟩:=hB.good.imp _ cG;obtain⟨rfl,rfl⟩:=rb e;have MG:=N3 hi kW;have him:=hi.merge kW MG;refine .aX (Lt (by omega) (by omega) VJ MG) ?_;by_cases w9:In l2 (pI (fP m (2 ^ j)) (fP b (2 ^ j)))
        .have e:(bR ay l2 (pI (fP m (2 ^ j)) (fP b (2 ^ j)))).getD ag=af:=w9;simp only[if_true,e,Bool.not_true,agv,agK,if_false];exact .some (hB.same λ_ _=>w9)
        .have e:(bR ay l2 (pI (fP m (2 ^ j)) (fP b (2 ^ j)))).getD ag=ag:=by simpa[In]using w9
         simp only[if_true,e,Bool.not_false,agv];have Ux:=hB.good.len hn;refine .bind (.tW (by have:=hB.len;simp;omega) (.some (hB.add him w9)))
      .have:j=n:=by omega
       subst this;exact⟨hB.good,hB.levs,hB.nxt,hB.len,hB.out⟩
     .have:k=uA.length:=by omega
      subst this;rw[List.drop_length]at g5;exact⟨g1,g3,g5,g4⟩
    .have h5:=hj.1.len hn;have h6:=hj.2.2.2
     show 2*(65536-j.1.length)+(if j.2=[]then 0 else 1)<2*(65536-l.length)+(if uA=[]then 0 else 1)
     rw[ai Hp]
     grind [List.length_pos_iff]
   .have:uA=[]:=(by simp_all)
    subst this;exact hg.done KV
end L
namespace L
def Dq(n:Nat)(S:Nat->Prop)(m b:Nat):Prop:=pC n S m b/\∀j,j<n->m.testBit j=af->¬pC n S (fP m (2 ^ j)) (fP b (2 ^ j))
theorem rz.irrefl(x:Int×Int):¬rz x x:=by unfold rz;omega
theorem rz.total{x y:Int×Int}(h:¬rz y x)(g:x≠y):rz x y:=by
 grind [rz]
def ua{l m:List (Int×Int)}(h:l.Pairwise rz)(g:m.Pairwise rz)(e:∀p,p∈l↔p∈m):l=m:=by
 have Hs:∀{l:List (Int×Int)},l.Pairwise rz->l.Nodup:=λh=>h.imp λg e=>by subst e;exact rz.irrefl _ g
 grind [rz,List.Perm.eq_of_pairwise]
def Lv{l:List ay.den}(hl:l.length<4611686018427387904)(hn:l.Nodup):Wp (M.bf aU l) λr=>r.Pairwise rz/\∀p,p∈r↔p∈l:=by
 unfold M.bf yt;rw[aj ⟨Us,hl⟩];refine .some ?_;generalize hg:ag7 (oS λa b c d=>M.cS aU (a,b) (c,d))=lt
 have aH:∀x y:Int×Int,lt x y=af↔rz x y:=λx y=>by rw[<-hg];exact Ac x y
 have hlf:∀x y:Int×Int,(!lt x y)=af↔¬rz x y:=λx y=>by grind
 have hp:=List.pairwise_mergeSort (le:=λx y:Int×Int=> !lt y x) (λa b c h1 h2=>by
  grind [rz]) (λa b=>by
  grind [rz]) l
 have hm:∀p,p∈l.mergeSort (λx y:Int×Int=> !lt y x)↔p∈l:=λp=>List.mem_mergeSort
 refine⟨?_,hm⟩;have GY:(l.mergeSort (λx y:Int×Int=> !lt y x)).Nodup:=(List.mergeSort_perm l _).symm.nodup hn
 exact(hp.and GY).imp λ⟨h1,h2⟩=>rz.total ((hlf _ _).1 h1) h2
def Lx(n:Nat)(S:Nat->Prop)(l:PS)(r:PS×List ay.den):Prop:=r.1=l/\r.2.Pairwise rz/\∀p,p∈r.2↔∃m b:Nat,p=pI m b/\Dq n S m b
def Lx.Lu{n:Nat}{S:Nat->Prop}{l:PS}{r r':PS×List ay.den}(h:Lx n S l r)(g:Lx n S l r'):r=r':=
 Prod.ext (h.1.trans g.1.symm) (ua h.2.1 g.2.1 λp=>(h.2.2 p).trans (g.2.2 p).symm)
def Gp{m j:Nat}(h:m.testBit j=af):fP m (2 ^ j)≠m:=λe=>by
 grind [cT]
def IG(n:Nat)(hn:n<=8)(S:Nat->Prop)(l:PS)(h:E6 n S l):Wp (M.gZ aU (n:Int) l) (Lx n S l):=by
 have h8:=rc hn
 have hlen:l.length<=65536:=by
  have:=h.1.len (2 ^ n) λp hp=>by
   obtain⟨m,b,e,hi⟩:=(h.2 p).1 hp;exact⟨m,b,e,hi.1,hi.lt⟩
  exact agW this (agW (Nat.mul_le_mul h8 h8) (by omega))
 unfold M.gZ
 refine Ct (λleft acc=>(∀e∈left,e∈l)/\acc.Nodup/\(∀p∈acc,∃m b:Nat,p=pI m b/\Dq n S m b)/\(∀m b:Nat,Dq n S m b->pI m b∈acc\/∃e∈left,e.1=pI m b)/\(∀p∈acc,∀e∈left,e.1≠p)/\acc.length+left.length<=l.length)
  (λr r' h g=>h.Lu g) (λleft acc x hx hI=>?_) (λacc hI=>?_) l.length aU l [] (agB _) (by unfold aU;omega) ⟨λe he=>he,List.nodup_nil,λp hp=>by simp at hp,λm b hp=> .inr ⟨(pI m b,af),(kN h.1.tr).1 ((h.2 _).2 ⟨m,b,rfl,hp.1⟩),rfl⟩,λp hp=>by simp at hp,by simp⟩
 .obtain⟨h1,h2,h3,h4,h5,h6⟩:=hI
  have Ux:(mj ay left x.1).length<left.length:=by
   unfold mj;refine List.length_filter_lt_length_iff_exists.2 ⟨x,hx,?_⟩;rw[(la _ _).2 rfl];simp
  have sU:∀e,e∈mj ay left x.1↔e∈left/\e.1≠x.1:=λe=>by
   unfold mj;rw[ahi,Bool.not_eq_true',lF]
  have Uu:In l x.1:=(kN h.1.tr).2 (by rw[show(x.1,af)=x from Prod.ext rfl (h.1.tr x (h1 x hx)).symm];exact h1 x hx);obtain⟨m,b,hp,hi⟩:=(h.2 _).1 Uu;have hm:=hi.1;have hb:=hi.lt
  refine Wp.seq (λj=>j=af↔Dq n S m b) ?_ λj hj=>?_
  .refine Wp.count (λs=>s.2) n (λj s=>s.1=af↔∀i,i<j->m.testBit i=af->¬pC n S (fP m (2 ^ i)) (fP b (2 ^ i))) (by omega) rfl ⟨λ_ i hi=>absurd hi (by omega),λ_=>rfl⟩ λj s hj hs hJ=>?_
   obtain⟨v,jj⟩:=s;dsimp only at hs hJ⊢;subst hs;refine .dec (λaH=>?_) (λhge=> .some ?_)
   .have VJ:j<8:=by omega
    have h2j:=Ah VJ
    refine Wp.seq (λq=>q=af↔∀i,i<j+1->m.testBit i=af->¬pC n S (fP m (2 ^ i)) (fP b (2 ^ i))) (.aX (oA (by omega)) (.aX (oA (by omega)) ?_)) λq hq=> .some ⟨by omega,aP (by omega),hq⟩
    have e1:aG .andNot .i64 x.1.1 ((2 ^ j:Nat):Int)=(fP m (2 ^ j):Nat):=by rw[hp];exact IF (by omega) (by omega)
    have e2:aG .andNot .i64 x.1.2 ((2 ^ j:Nat):Int)=(fP b (2 ^ j):Nat):=by rw[hp];exact IF (by omega) (by omega)
    rw[e1,e2,hp];have e3:(bR ay l (pI (fP m (2 ^ j)) (fP b (2 ^ j)))).getD ag=af↔pC n S (fP m (2 ^ j)) (fP b (2 ^ j)):=(h.2 _).trans ⟨λ⟨m',b',e,kW⟩=>by obtain⟨rfl,rfl⟩:=rb e;exact kW,λkW=>⟨_,_,rfl,kW⟩⟩
    have step:∀t:Bool,(t=af↔(m.testBit j=af/\pC n S (fP m (2 ^ j)) (fP b (2 ^ j))))->Wp (if t=af then aa ag else aa v) λq=>q=af↔∀i,i<j+1->m.testBit i=af->¬pC n S (fP m (2 ^ i)) (fP b (2 ^ i)):=λt ht=>by
     refine .ite (λh1=> .some ⟨λh2=>by(cases h2),λh2=>absurd (ht.1 h1).2 (h2 j (by omega) (ht.1 h1).1)⟩) (λh1=> .some (hJ.trans ⟨λh2 i kW=>?_,λh2 i kW=>h2 i (by omega)⟩))
     rcases Nat.lt_succ_iff_lt_or_eq.1 kW with kW|rfl
     .exact h2 i kW
     .exact λh3 h4=>h1 (ht.2 ⟨h3,h4⟩)
    by_cases MG:m.testBit j=af
    .have e4:lH ay (pI (fP m (2 ^ j)) (fP b (2 ^ j))) (pI m b)=ag:=nw.2 λe=>Gp MG (rb e).1
     refine Wp.seq (λt=>t=af↔(m.testBit j=af/\pC n S (fP m (2 ^ j)) (fP b (2 ^ j)))) ?_ step;rw[show lH ay (((fP m (2 ^ j):Nat):Int),((fP b (2 ^ j):Nat):Int)) (pI m b)=ag from e4];exact .some ⟨λh=>⟨MG,e3.1 h⟩,λh=>e3.2 h.2⟩
    .have Zq:m.testBit j=ag:=by simpa using MG
     have hbj:b.testBit j=ag:=by
      cases e:b.testBit j with
      |false=>rfl
      |true=>exact absurd (ij.1 hi.2.1 j e) MG
     have e4:lH ay (pI (fP m (2 ^ j)) (fP b (2 ^ j))) (pI m b)=af:=uL.2 (by rw[wz Zq,wz hbj]);refine Wp.seq (λt=>t=af↔(m.testBit j=af/\pC n S (fP m (2 ^ j)) (fP b (2 ^ j)))) ?_ step;rw[show lH ay (((fP m (2 ^ j):Nat):Int),((fP b (2 ^ j):Nat):Int)) (pI m b)=af from e4];exact .some ⟨λh=>(by cases h),λh=>absurd h.1 MG⟩
   .have:j=n:=by omega
    subst this;exact hJ.trans ⟨λh=>⟨hi,h⟩,λh=>h.2⟩
  .have hI':∀Ai:List ay.den,(∀p,p∈Ai↔p∈acc\/p=x.1/\j=af)->Ai.Nodup->Ai.length<=acc.length+1->(∀e∈mj ay left x.1,e∈l)/\Ai.Nodup/\(∀p∈Ai,∃m b:Nat,p=pI m b/\Dq n S m b)/\(∀m b:Nat,Dq n S m b->pI m b∈Ai\/∃e∈mj ay left x.1,e.1=pI m b)/\(∀p∈Ai,∀e∈mj ay left x.1,e.1≠p)/\Ai.length+(mj ay left x.1).length<=l.length:=λAi hc Hs hl=>by
    refine⟨λe he=>h1 e ((sU e).1 he).1,Hs,λp Dj=>?_,λm' b' Dj=>?_,λp Dj e he=>?_,by omega⟩
    .rcases(hc p).1 Dj with Dj|⟨rfl,Jk⟩
     .exact h3 p Dj
     .exact⟨m,b,hp,hj.1 Jk⟩
    .rcases h4 m' b' Dj with g|⟨e,he,g⟩
     .exact .inl ((hc _).2 (.inl g))
     .by_cases g2:e.1=x.1
      .refine .inl ((hc _).2 (.inr ⟨g.symm.trans g2,hj.2 ?_⟩));obtain⟨rfl,rfl⟩:=rb (g.symm.trans (g2.trans hp));exact Dj
      .exact .inr ⟨e,(sU e).2 ⟨he,g2⟩,g⟩
    .obtain⟨he1,KM⟩:=(sU e).1 he
     rcases(hc p).1 Dj with Dj|⟨rfl,_⟩
     .exact h5 p Dj e he1
     .exact KM
   refine .ite (λJk=> .bind (.tW (by simp;omega) (.some (hI' _ (λp=>by rw[agT,agZ];simp[Jk]) ?_ (by simp))))) (λUy=> .some (hI' _ (λp=>by simp[Uy]) h2 (show acc.length<=acc.length+1 by omega)));refine List.nodup_append.2 ⟨h2,by simp,λa ha c hc e=>?_⟩;rw[agZ]at hc;exact h5 a ha x hx (by rw[e,hc])
 .obtain⟨-,h2,h3,h4,-,h6⟩:=hI
  refine Wp.seq (λr=>r.Pairwise rz/\∀p,p∈r↔p∈acc) (Lv (by show acc.length<_;simp at h6;omega) h2) λr hr=> .some ⟨rfl,hr.1,λp=>(hr.2 p).trans ⟨h3 p,λ⟨m,b,e,hp⟩=>?_⟩⟩
  rcases h4 m b hp with g|⟨e',he,_⟩
  .rw[e];exact g
  .simp at he
end L
namespace L
def Gq(a:Int):Nat:=min a.toNat 8
def E7(a:Int):Gq a<=8:=Nat.min_le_right _ _
def Ly(a:Int):M.gY aU a=aa (Gq a:Int):=by
 grind [M.gY,Gq]
def IH(a:Int):M.po aU a=aa (Gq a:Int):=by
 grind [M.po,Gq]
def size_eq{n:Nat}(hn:n<=8):M.qY aU (n:Int)=aa ((2 ^ n:Nat):Int):=by
 unfold M.qY;refine Wp.eq ?_
 refine Wp.count (λs=>s.2) n (λk s=>s.1=((2 ^ k:Nat):Int)) (by omega) rfl rfl λk s hk hs hJ=>?_
 obtain⟨x,kk⟩:=s;dsimp only at hs hJ⊢;subst hs hJ;refine .dec (λh=> .some ⟨by omega,aP (by omega),?_⟩) (λh=> .some ?_)
 .have h1:2 ^ k<=2 ^ 8:=Nat.pow_le_pow_right (by omega) (by omega)
  show agw.wrap (((2 ^ k:Nat):Int)*2)=((2 ^ (k+1):Nat):Int)
  have e:((2 ^ k:Nat):Int)*2=((2 ^ (k+1):Nat):Int):=by rw[Nat.pow_succ];simp
  rw[e,wrap_i64 (by grind)]
 .have:k=n:=by omega
  subst this;rfl
def sa(l:List Int)(k:Nat):List Bool:=(agG k).map λx:Nat=>decide ((x:Int)∈l)
def N4{α:Type}{k x:Nat}{f:Nat->α}(h:x<k):idx ((agG k).map f) (x:Int)=aa (f x):=by
 rw[aB (by simpa using h)];simp
def Aj{α:Type}{k x:Nat}{f:Nat->α}{Q:α->Prop}(h:x<k)(hq:Q (f x)):Wp (idx ((agG k).map f) (x:Int)) Q:=⟨_,N4 h,hq⟩
def sc{α:Type}(k:Nat)(f:Nat->α):(((agG k).map f).length:Int)=(k:Int):=by simp
def E8{l:List Int}(hl:l.length<=1000000){n:Nat}(hn:n<=8):M.nl aU l (n:Int)=aa (sa l (2 ^ n)):=by
 have h8:=rc hn;unfold M.nl;rw[size_eq hn,agv];generalize 2 ^ n=K at*;refine Wp.eq (.bind (my.2 ⟨by omega,?_⟩))
 refine Wp.count (λs=>s.1) l.length (λk s=>s.2=sa (l.take k) K) (by omega) rfl ?_ λk s hk hs hJ=>?_
 .show agE _ _=_
  unfold sa;apply List.ext_getElem (by simp)
  grind
 .obtain⟨kk,c⟩:=s;dsimp only at hs hJ⊢;subst hs hJ;refine .dec (λh=>?_) (λh=> .some ?_)
  .have aH:k<l.length:=by omega
   have hlen:((sa (l.take k) K).length:Int)=(K:Int):=sc _ _
   have M5:∀y:Int,y∈l.take (k+1)↔y∈l.take k\/y=l[k]:=λy=>by rw[<-agP aH,agT,agZ]
   refine Wp.seq (λj=>j=sa (l.take (k+1)) K) ?_ λj hj=> .some ⟨aH,aP (by omega),hj⟩
   refine Wp.seq (λj=>j=af↔0<=l[k]/\l[k]<(K:Int)) (.bind (.idx k rfl aH (.dec (λh0=> .bind (.idx k rfl aH (.some ?_))) (λh0=> .some (by grind))))) λj hj=>?_
   .grind
   refine .ite (λJk=> .bind (.idx k rfl aH ?_)) (λUy=> .some ?_)
   .obtain⟨x,hx⟩:=agF (hj.1 Jk).1
    have GV:x<K:=by have:=(hj.1 Jk).2;omega
    rw[hx];refine .bind (Aj GV (.some ?_))
    grind [sa,bm,lr]
   .unfold sa
    refine List.map_congr_left λy hy=>decide_eq_decide.2 ?_
    grind
  .have:k=l.length:=by omega
   subst this
   show sa (l.take l.length) K=sa l K
   grind
def Lz{m:Nat}(hm:m<256):M.qZ aU (m:Int)=aa (kL (m:Int)):=by
 have h:((agG 256).all λm=>decide (M.qZ aU ((m:Nat):Int)=aa (kL ((m:Nat):Int))))=af:=by kernel_rfl
 grind
def N5:∀{m n:Nat},n<=8->m<2 ^ n->∃c:Nat,c<=n/\kL (m:Int)=(c:Int):=by
 intro m n hn hm
 have h:((agG 9).all λn=>(agG (2 ^ n)).all λm=>(agG (n+1)).any λc=>decide (kL ((m:Nat):Int)=(c:Int)))=af:=by kernel_rfl
 have h1:=List.all_eq_true.1 (List.all_eq_true.1 h n (List.mem_range.2 (by omega))) m (List.mem_range.2 hm)
 grind
def rf{m b x:Nat}(hm:m<256)(hx:x<256):M.jv aU (pI m b) (x:Int)=aa (decide (x&&& m=b)):=by
 unfold M.jv;rw[IE (by omega) (by omega)]
 congr 1
 grind
def fb(k:Nat)(mem cov:Nat->Bool)(m b:Nat):Bool:=(agG k).any λx=>decide (x&&& m=b)&&mem x&& !cov x
def LA{n:Nat}(hn:n<=8){mem cov:Nat->Bool}{m b:Nat}(hm:m<256):M.pq aU (pI m b) ((agG (2 ^ n)).map mem) ((agG (2 ^ n)).map cov)=aa (fb (2 ^ n) mem cov m b):=by
 have h8:=rc hn;unfold M.pq;refine Wp.eq ?_
 refine Wp.count (λs=>s) (2 ^ n) (λk _=>∀x,x<k->(decide (x&&& m=b)&&mem x&& !cov x)=ag) (by omega) rfl (λx hx=>absurd hx (by omega)) λk s hk hs hJ=>?_
 subst hs;rw[sc];refine .dec (λh=>?_) (λh=> .some ?_)
 .have aH:k<2 ^ n:=by omega
  refine Wp.seq (λj=>j=(decide (k&&& m=b)&&mem k&& !cov k)) (.aX (rf hm (by omega)) (.ite (λh1=> .bind (Aj aH (.ite (λh2=> .bind (Aj aH (.some ?_))) (λh2=> .some ?_)))) (λh1=> .some ?_))) λj hj=> .ite (λh1=> .some ?_) (λh1=> .some ⟨aH,aP (by omega),λx hx=>?_⟩)
  .grind
  .grind
  .simp[h1]
  .show af=fb _ _ _ _ _
   grind [fb]
  grind
 .show ag=fb _ _ _ _ _
  grind [fb]
noncomputable def LB(n:Nat)(S:Nat->Prop)(m b:Nat):Bool:= @decide (∀x,x<2 ^ n->x&&& m=b->S x) (ag1 _)
theorem tC{n:Nat}{S:Nat->Prop}{m b:Nat}:LB n S m b=af↔∀x,x<2 ^ n->x&&& m=b->S x:= @decide_eq_true_iff _ (ag1 _)
def sd{n:Nat}(hn:n<=8){l:List Int}{m b:Nat}(hm:m<256):M.jF aU (pI m b) (sa l (2 ^ n))=aa (LB n (λx=>(x:Int)∈l) m b):=by
 have h8:=rc hn;unfold M.jF;refine Wp.eq ?_
 refine Wp.count (λs=>s) (2 ^ n) (λk _=>∀x:Nat,x<k->x&&& m=b->(x:Int)∈l) (by omega) rfl (λx hx=>absurd hx (by omega)) λk s hk hs hJ=>?_
 subst hs;rw[show((sa l (2 ^ n)).length:Int)=((2 ^ n:Nat):Int)from sc _ _];refine .dec (λh=>?_) (λh=> .some ?_)
 .have aH:k<2 ^ n:=by omega
  refine Wp.seq (λj=>j=af↔k&&& m=b/\¬(k:Int)∈l) (.aX (rf hm (by omega)) (.dec (λh1=> .bind (Aj aH (.some ?_))) (λh1=> .some (by grind)))) λj hj=> .ite (λh1=> .some ?_) (λh1=> .some ⟨aH,aP (by omega),λx hx he=>?_⟩)
  .grind
  .show ag=LB _ _ _ _
   grind [tC]
  grind
 .have:k=2 ^ n:=by omega
  subst this;exact(tC.2 hJ).symm
theorem Cu{n:Nat}{S:Nat->Prop}{m b:Nat}(hm:m<2 ^ n)(hb:b&&& m=b):LB n S m b=af↔pC n S m b:=by
 rw[tC];exact⟨λh=>⟨hm,hb,h⟩,λh=>h.2.2⟩
theorem N6{m b j:Nat}(h:b&&& m=b):fP b (2 ^ j)&&& fP m (2 ^ j)=fP b (2 ^ j):=by
 grind [ij,cT]
theorem N7{m j:Nat}:m&&& 2 ^ j=0↔m.testBit j=ag:=by
 constructor
 .intro h;have:=av (λx=>x.testBit j) h
  grind
 .intro h;apply ahC;grind
def LC{n:Nat}(hn:n<=8){l:List Int}{m b:Nat}(hm:m<2 ^ n)(hb:b&&& m=b):Wp (M.pt aU (pI m b) (sa l (2 ^ n))) λr=>r=af↔Dq n (λx=>(x:Int)∈l) m b:=by
 have h8:=rc hn;have SO:b<2 ^ n:=Nat.lt_of_le_of_lt (by rw[<-hb];exact Nat.and_le_right) hm;unfold M.pt;refine .aX (sd hn (by omega)) ?_;have hi:=Cu (S:=λx=>(x:Int)∈l) hm hb
 cases hv:LB n (λx=>(x:Int)∈l) m b with
 |false=>
  refine .some ⟨λh=>(by cases h),λh=>?_⟩;rw[hv]at hi;exact absurd (hi.2 h.1) (by simp)
 |true=>
  rw[hv]at hi;have hI:=hi.1 rfl
  refine Wp.ite (λh=>absurd h (by simp)) λ_=>?_
  refine Wp.loop (λs=>∃j:Nat,j<=n/\s=((2 ^ j:Nat):Int)/\∀i,i<j->m.testBit i=af->¬pC n (λx=>(x:Int)∈l) (fP m (2 ^ i)) (fP b (2 ^ i))) (λs=>1000-s.toNat) ⟨0,Nat.zero_le _,rfl,λi hi=>absurd hi (by omega)⟩ (by unfold aU;omega) λs hs=>?_
  obtain⟨j,hj,rfl,hJ⟩:=hs;rw[show((sa l (2 ^ n)).length:Int)=((2 ^ n:Nat):Int)from sc _ _];refine .dec (λh=>?_) (λh=> .some ?_)
  .have aH:2 ^ j<2 ^ n:=by omega
   have S7:j<n:=(by grind)
   have e0:aG .and .i64 (pI m b).1 ((2 ^ j:Nat):Int)=((m&&& 2 ^ j:Nat):Int):=IE (by omega) (by omega);have e1:aG .andNot .i64 (pI m b).1 ((2 ^ j:Nat):Int)=(fP m (2 ^ j):Nat):=IF (by omega) (by omega);have e2:aG .andNot .i64 (pI m b).2 ((2 ^ j:Nat):Int)=(fP b (2 ^ j):Nat):=IF (by omega) (by omega);have PI:=E4 m (2 ^ j)
   refine Wp.seq (λq=>q=af↔m.testBit j=af/\pC n (λx=>(x:Int)∈l) (fP m (2 ^ j)) (fP b (2 ^ j))) ?_ λq hq=> .ite (λh1=> .some ⟨λh=>(by cases h),λh=>absurd (hq.1 h1).2 (h.2 j S7 (hq.1 h1).1)⟩) (λh1=> .some ?_)
   .rw[e0,e1,e2];refine .kK (λh1=> .aX (sd (m:=fP m (2 ^ j)) (b:=fP b (2 ^ j)) hn (by omega)) (.some ?_)) (λh1=> .some ⟨λh=>(by cases h),λh=>?_⟩)
    all_goals grind [N7,Cu,N6]
   .have e:((2 ^ j:Nat):Int)*2=((2 ^ (j+1):Nat):Int):=by rw[Nat.pow_succ];simp
    have PR:2 ^ (j+1)=2*2 ^ j:=by rw[Nat.pow_succ,Nat.mul_comm]
    have hp:=Nat.two_pow_pos j
    show yu _ _ _ _ (.inl (agw.wrap (((2 ^ j:Nat):Int)*2)))
    rw[e,wrap_i64 (by omega)];refine⟨⟨j+1,S7,rfl,λi kW=>?_⟩,by grind⟩
    grind
  .have hge:2 ^ n<=2 ^ j:=by omega
   have:j=n:=by
    have:=(Nat.pow_le_pow_iff_right (a:=2) (by omega)).1 hge;omega
   subst this;exact⟨λ_=>⟨hI,hJ⟩,λ_=>rfl⟩
end L
namespace L
theorem Cv(a b:Int):eA az a b=decide (a=b):=rfl
def LD(l:List (Int×Bool))(k:Int)(v:Bool)(x:Int):bR az (nF az l k v) x=if x=k then aa v else bR az l x:=by
 induction l with
 |nil=>
  show(if eA az k x=af then aa v else ae)=if x=k then aa v else ae
  grind [Cv]
 |cons p l ih=>
  grind [nF,Cv,bR]
theorem II{l:List (Int×Bool)}{x:Int}(h:∀p∈l,p.1≠x):bR az l x=ae:=by
 induction l with
 |nil=>rfl
 |cons p l ih=>
  grind [bR,Cv]
abbrev DI(l:List (Int×Bool)):Prop:=l.Pairwise λp q=>p.1≠q.1
def N8(l:List (Int×Bool))(k:Int):(oP az l k).Sublist l:=by
 induction l with
 |nil=>exact .slnil
 |cons p l ih=>
  grind [oP]
def LF{l:List (Int×Bool)}(hd:DI l)(k x:Int):bR az (oP az l k) x=if x=k then ae else bR az l x:=by
 induction l with
 |nil=>show ae=if x=k then ae else ae;split<;>rfl
 |cons p l ih=>
  obtain⟨h1,h2⟩:=agO.1 hd;unfold oP;by_cases h:p.1=k
  .rw[aj (by rw[Cv];grind)];by_cases hx:x=k
   .grind [II]
   .rw[ai hx]
    show _=if eA az p.1 x=af then aa p.2 else bR az l x
    grind [Cv]
  grind [Cv,bR]
def DI.put{l:List (Int×Bool)}(hd:DI l)(k:Int)(v:Bool):DI (nF az l k v):=by
 have hm:∀{l:List (Int×Bool)}{q:Int×Bool},q∈nF az l k v->q.1=k\/q∈l:=by
  intro l
  induction l with
  |nil=>intro q hq;exact .inl (by rw[agZ.1 hq])
  |cons p l ih=>
   grind [nF,Cv]
 induction l with
 |nil=>exact List.pairwise_singleton _ _
 |cons p l ih=>
  obtain⟨h1,h2⟩:=agO.1 hd;unfold nF;split
  .simp_all
  .rename_i e;rw[Cv,aw]at e
   grind [agO]
def Bs(m:Nat):List (Nat×Nat):=((agG (m+1)).filter λb=>decide (b&&& m=b)).map λb=>(m,b)
noncomputable def Ms(n c:Nat):List (Nat×Nat):=(agG (2 ^ n)).flatMap λm:Nat=>if kL (m:Int)=(c:Int)then Bs m else[]
noncomputable def Pt(n:Nat):List (Nat×Nat):=(agG (n+1)).flatMap (Ms n)
theorem E9{m:Nat}{p:Nat×Nat}:p∈Bs m↔p.1=m/\p.2&&& p.1=p.2:=by
 unfold Bs;rw[List.mem_map];constructor
 .grind
 grind [Nat.and_le_right]
theorem Ak{n c:Nat}{p:Nat×Nat}:p∈Ms n c↔p.1<2 ^ n/\kL (p.1:Int)=(c:Int)/\p.2&&& p.1=p.2:=by
 grind [Ms,E9]
theorem pD{n:Nat}(hn:n<=8){p:Nat×Nat}:p∈Pt n↔p.1<2 ^ n/\p.2&&& p.1=p.2:=by
 unfold Pt;rw[List.mem_flatMap];constructor
 .grind [Ak]
 .rintro⟨h1,h3⟩
  obtain⟨c,hc,h2⟩:=N5 hn h1;exact⟨c,List.mem_range.2 (by omega),Ak.2 ⟨h1,h2,h3⟩⟩
def tD(n:Nat):(Pt n).Pairwise λp q=>rz (pI p.1 p.2) (pI q.1 q.2):=by
 unfold Pt;refine List.pairwise_flatMap.2 ⟨λc _=>?_,List.pairwise_lt_range.imp λ{c d}hcd x hx y hy=>?_⟩
 .unfold Ms;refine List.pairwise_flatMap.2 ⟨λm _=>?_,List.pairwise_lt_range.imp λ{m m'}hm x hx y hy=>?_⟩
  .split
   .unfold Bs;refine List.pairwise_map.2 ((List.pairwise_lt_range.filter _).imp λ{a b}h=>?_);refine .inr ⟨rfl, .inr ⟨rfl,?_⟩⟩
    grind
   .exact .nil
  .split at hx
   .split at hy
    .rename_i h1 h2;obtain⟨e1,_⟩:=E9.1 hx;obtain⟨e2,_⟩:=E9.1 hy;subst e1 e2;refine .inr ⟨h1.trans h2.symm, .inl ?_⟩
     grind
    .simp at hy
   .simp at hx
 .obtain⟨_,h1,_⟩:=Ak.1 hx;obtain⟨_,h2,_⟩:=Ak.1 hy;refine .inl ?_
  grind
noncomputable def xx(n:Nat)(S:Nat->Prop)(p:Nat×Nat):Bool:= @decide (Dq n S p.1 p.2) (ag1 _)
theorem nW{n:Nat}{S:Nat->Prop}{p:Nat×Nat}:xx n S p=af↔Dq n S p.1 p.2:= @decide_eq_true_iff _ (ag1 _)
def fc(k:Nat)(mem:Nat->Bool):(Nat->Bool)->List (Nat×Nat)->List (Int×Int)
 |_,[]=>[]
 |cov,p::l=>if fb k mem cov p.1 p.2=af then pI p.1 p.2::fc k mem (λx=>cov x||decide (x&&& p.1=p.2)) l else fc k mem cov l
theorem jZ{k:Nat}{mem cov:Nat->Bool}{p:Nat×Nat}{l:List (Nat×Nat)}:fc k mem cov (p::l)=if fb k mem cov p.1 p.2=af then pI p.1 p.2::fc k mem (λx=>cov x||decide (x&&& p.1=p.2)) l else fc k mem cov l:=rfl
noncomputable def Cw(n:Nat)(S:Nat->Prop)(mem:Nat->Bool):List (Int×Int):=fc (2 ^ n) mem (λ_=>ag) ((Pt n).filter (xx n S))
theorem oB{k:Nat}{mem:Nat->Bool}:∀{l:List (Nat×Nat)}{cov cov':Nat->Bool},(∀x,x<k->mem x=af->cov x=cov' x)->fc k mem cov l=fc k mem cov' l
 |[],_,_,_=>rfl
 |p::l,cov,cov',h=>by
  have e:fb k mem cov p.1 p.2=fb k mem cov' p.1 p.2:=by
   unfold fb;rw[Bool.eq_iff_iff,List.any_eq_true,List.any_eq_true];constructor
   .grind
   .grind
  unfold fc;rw[e,oB (cov:=cov) (cov':=cov') h,oB (cov:=λx=>cov x||decide (x&&& p.1=p.2)) (cov':=λx=>cov' x||decide (x&&& p.1=p.2)) λx hx hm=>by rw[h x hx hm]]
end L
namespace L
def dQ(l:List Int)(x:Nat):Bool:=decide ((x:Int)∈l)
def Cx{m b x:Nat}(hm:m<256)(hx:x<256):M.fq aU (pI m b) (x:Int)=aa (decide (x&&& m=b)):=by
 unfold M.fq;rw[IE (by omega) (by omega)]
 congr 1
 grind
def LG{l:List Int}(hl:l.length<=1000000)(a:Int):M.ja aU l a=aa (Cw (Gq a) (λx=>(x:Int)∈l) (dQ l)):=by
 have hn:=E7 a;generalize Zr:Gq a=n at hn;have h8:=rc hn;have oV:=Nat.two_pow_pos n;unfold M.ja;rw[Ly,agv,Zr,oA (by omega),agv];refine Wp.eq (Wp.seq (λj=>DI j.1/\(∀x:Nat,x<2 ^ n->((bR az j.1 (x:Int)).getD ag=af↔(x:Int)∈l))/\kM j.2/\∀p,In j.2 p↔∃x:Nat,x<2 ^ n/\(x:Int)∈l/\p=pI (2 ^ n-1) x) ?_ λj hj=>?_)
 .refine Wp.count (λs=>s.1) l.length (λk s=>DI s.2.1/\(∀x:Nat,x<2 ^ n->((bR az s.2.1 (x:Int)).getD ag=af↔(x:Int)∈l.take k))/\kM s.2.2/\∀p,In s.2.2 p↔∃x:Nat,x<2 ^ n/\(x:Int)∈l.take k/\p=pI (2 ^ n-1) x) (by omega) rfl ⟨.nil,λx hx=>by simp[bR], .nil,λp=>by simp[In,bR]⟩ λk s hk hs hJ=>?_
  obtain⟨kk,mis,im⟩:=s;obtain⟨g1,g2,g3,g4⟩:=hJ;dsimp only at hs g1 g2 g3 g4⊢;subst hs;refine .dec (λh=>?_) (λh=> .some ?_)
  .have aH:k<l.length:=by omega
   have M5:∀y:Int,y∈l.take (k+1)↔y∈l.take k\/y=l[k]:=λy=>by rw[<-agP aH,agT,agZ]
   refine Wp.seq (λs=>DI s.1/\(∀x:Nat,x<2 ^ n->((bR az s.1 (x:Int)).getD ag=af↔(x:Int)∈l.take (k+1)))/\kM s.2/\∀p,In s.2 p↔∃x:Nat,x<2 ^ n/\(x:Int)∈l.take (k+1)/\p=pI (2 ^ n-1) x) (.bind (.idx k rfl aH ?_)) λj hj=> .some ⟨aH,aP (by omega),hj⟩
   refine Wp.seq (λj=>j=af↔0<=l[k]/\l[k]<((2 ^ n:Nat):Int)) (.dec (λh0=> .some ?_) (λh0=> .some (by grind))) λj hj=> .ite (λJk=> .some ?_) (λUy=> .some ?_)
   .grind
   .obtain⟨x,hx⟩:=agF (hj.1 Jk).1
    have GV:x<2 ^ n:=by have:=(hj.1 Jk).2;rw[hx]at this;exact_mod_cast this
    have hw:agw.wrap (((2 ^ n:Nat):Int)-1)=((2 ^ n-1:Nat):Int):=by
     rw[show((2 ^ n:Nat):Int)-1=((2 ^ n-1:Nat):Int) by omega,wrap_i64 (by omega)]
    rw[hw,hx];refine⟨g1.put _ _,λy hy=>?_,g3.put _,λp=>?_⟩
    .show(bR az (nF az mis (x:Int) af) (y:Int)).getD ag=af↔_
     rw[LD,M5,hx]
     grind
    .refine(Af g3 (p:=pI (2 ^ n-1) x)).trans ?_
     grind
   grind
  .have:k=l.length:=by omega
   subst this;rw[List.take_length]at g2 g4;exact⟨g1,g2,g3,g4⟩
 .obtain⟨adY,im⟩:=j;obtain⟨j1,j2,j3,j4⟩:=hj;dsimp only at j1 j2 j3 j4⊢
  refine Wp.seq (E6 n λx=>(x:Int)∈l) (Zn n hn (λx=>(x:Int)∈l) im j3 j4) λms NE=>Wp.seq (Lx n (λx=>(x:Int)∈l) ms) (IG n hn _ ms NE) λr hr=>?_
  obtain⟨ms',pr⟩:=r;obtain⟨-,VK,hr3⟩:=hr;dsimp only at VK hr3⊢
  have hpr:pr=((Pt n).filter (xx n λx=>(x:Int)∈l)).map λp=>pI p.1 p.2:=by
   refine ua VK (List.pairwise_map.2 ((tD n).filter _)) λp=>(hr3 p).trans ?_
   rw[List.mem_map];constructor
   .rintro⟨m,b,rfl,h⟩
    exact⟨(m,b),ahi.2 ⟨(pD hn).2 ⟨h.1.1,h.1.2.1⟩,nW.2 h⟩,rfl⟩
   .grind [nW]
  subst hpr;unfold Cw
  have hQ:∀p∈(Pt n).filter (xx n λx=>(x:Int)∈l),p.1<2 ^ n:=λp hp=>((pD hn).1 (ahi.1 hp).1).1
  have hQl:((Pt n).filter (xx n λx=>(x:Int)∈l)).length<=65536:=by
   have:=qh (A:=((Pt n).filter (xx n λx=>(x:Int)∈l)).map λp=>p.1*256+p.2) (B:=agG 65536) ?_ λx hx=>?_
   .grind
   .rw[List.Nodup,List.pairwise_map];refine List.Pairwise.imp_of_mem (λ{p q}hp hq aH e=>?_) ((tD n).filter _);have h1:=(pD hn).1 (ahi.1 hp).1;have h2:=(pD hn).1 (ahi.1 hq).1
    have h3:p.2<=p.1:=by rw[<-h1.2];exact Nat.and_le_right
    have h4:q.2<=q.1:=by rw[<-h2.2];exact Nat.and_le_right
    have h5:p.1=q.1/\p.2=q.2:=by omega
    grind [rz.irrefl]
   .grind [pD,Nat.and_le_right]
  generalize(Pt n).filter (xx n λx=>(x:Int)∈l)=Q at hQ hQl⊢
  refine Wp.count (λs=>s.1) Q.length (λk s=>∃cov:Nat->Bool,DI s.2.1/\(∀x:Nat,x<2 ^ n->(bR az s.2.1 (x:Int)).getD ag=(dQ l x&& !cov x))/\s.2.2++fc (2 ^ n) (dQ l) cov (Q.drop k)=fc (2 ^ n) (dQ l) (λ_=>ag) Q/\s.2.2.length<=k) (by omega) rfl ⟨λ_=>ag,j1,λx hx=>by grind [dQ],rfl,agB _⟩ λk s hk hs hJ=>?_
  obtain⟨kk,mis,res⟩:=s;obtain⟨cov,g1,g2,g3,g4⟩:=hJ;dsimp only at hs g1 g2 g3 g4⊢;subst hs;rw[List.length_map];refine .dec (λh=>?_) (λh=> .some ?_)
  .have aH:k<Q.length:=by omega
   have hm:=hQ _ (agA aH);rw[agJ aH]at g3
   refine Wp.seq (λs=>∃cov:Nat->Bool,DI s.1/\(∀x:Nat,x<2 ^ n->(bR az s.1 (x:Int)).getD ag=(dQ l x&& !cov x))/\s.2++fc (2 ^ n) (dQ l) cov (Q.drop (k+1))=fc (2 ^ n) (dQ l) (λ_=>ag) Q/\s.2.length<=k+1) ?_ λj hj=> .some ⟨aH,aP (by omega),hj⟩
   refine Wp.seq (λs=>∃cov:Nat->Bool,DI s.1/\(∀x:Nat,x<2 ^ n->(bR az s.1 (x:Int)).getD ag=(dQ l x&& !cov x))/\s.2++fc (2 ^ n) (dQ l) cov (Q.drop (k+1))=fc (2 ^ n) (dQ l) (λ_=>ag) Q/\s.2.length<=k+1) (.bind (.idx k rfl (by simpa using aH) ?_)) λj hj=> .some hj
   rw[List.getElem_map];generalize hp:Q[k]=p at hm g3
   refine Wp.seq (λs=>DI s.2/\(∀x:Nat,x<2 ^ n->(bR az s.2 (x:Int)).getD ag=(dQ l x&& !(cov x||decide (x&&& p.1=p.2))))/\s.1=fb (2 ^ n) (dQ l) cov p.1 p.2) ?_ λt ht=>?_
   .refine Wp.count (λs=>s.2.1) (2 ^ n) (λj s=>DI s.2.2/\(∀x:Nat,x<2 ^ n->(bR az s.2.2 (x:Int)).getD ag=(dQ l x&& !(cov x||(decide (x<j)&&decide (x&&& p.1=p.2)))))/\(s.1=af↔∃x,x<j/\(decide (x&&& p.1=p.2)&&dQ l x&& !cov x)=af)) (by omega) rfl (by grind) λj s hj hs hJ=>?_
    obtain⟨u,jj,mi⟩:=s;obtain⟨f1,f2,f3⟩:=hJ;dsimp only at hs f1 f2 f3⊢;subst hs;refine .dec (λh=>?_) (λh=> .some ?_)
    .have Eh:j<2 ^ n:=by omega
     have Uz:=f2 j Eh
     have hjj:decide (j<j)=ag:=by simp
     rw[hjj,Bool.false_and,Bool.or_false]at Uz
     refine Wp.seq (λs=>DI s.2/\(∀x:Nat,x<2 ^ n->(bR az s.2 (x:Int)).getD ag=(dQ l x&& !(cov x||(decide (x<j+1)&&decide (x&&& p.1=p.2)))))/\(s.1=af↔∃x,x<j+1/\(decide (x&&& p.1=p.2)&&dQ l x&& !cov x)=af)) ?_ λq hq=> .some ⟨Eh,aP (by omega),hq⟩
     refine Wp.seq (λt=>t=(decide (j&&& p.1=p.2)&&dQ l j&& !cov j)) ?_ λt ht=>?_
     .refine .ite (λh1=> .aX (Cx (by omega) (by omega)) (.some ?_)) (λh1=> .some ?_)
      all_goals grind
     .subst ht
      have hex:(∃x,x<j+1/\(decide (x&&& p.1=p.2)&&dQ l x&& !cov x)=af)↔(∃x,x<j/\(decide (x&&& p.1=p.2)&&dQ l x&& !cov x)=af)\/(decide (j&&& p.1=p.2)&&dQ l j&& !cov j)=af:=by
       constructor
       .grind
       .rintro(⟨x,h1,h2⟩|h)
        all_goals grind
      refine .ite (λht=> .some ⟨List.Pairwise.sublist (N8 _ _) f1,λx hx=>?_,⟨λ_=>hex.2 (.inr ht),λ_=>rfl⟩⟩) (λht=> .some ⟨f1,λx hx=>?_,(by simp_all)⟩)
      .show(bR az (oP az mi (j:Int)) (x:Int)).getD ag=_
       rw[LF f1];by_cases e:x=j
       .grind
       .have e1:¬(x:Int)=j:=λg=>e (by grind)
        rw[ai e1,f2 x hx];have:decide (x<j+1)=decide (x<j):=decide_eq_decide.2 (by omega);rw[this]
      .show(bR az mi (x:Int)).getD ag=_
       rw[f2 x hx];by_cases e:x=j
       .subst e
        cases h1:decide (x&&& p.1=p.2)<;>cases h2:dQ l x<;>cases h3:cov x<;>simp_all
       .have:decide (x<j+1)=decide (x<j):=decide_eq_decide.2 (by omega);rw[this]
    .have:j=2 ^ n:=by omega
     subst this;refine⟨f1,(by simp_all),?_⟩;unfold fb;rw[Bool.eq_iff_iff,f3,List.any_eq_true]
     grind
   .obtain⟨f1,f2,f3⟩:=ht;rw[jZ,<-f3]at g3;refine .ite (λh1=> .bind (.tW (by simp;omega) (.some ⟨λx=>cov x||decide (x&&& p.1=p.2),f1,f2,?_,by simp;omega⟩))) (λh1=> .some ⟨λx=>cov x||decide (x&&& p.1=p.2),f1,f2,?_,by grind⟩)
    .grind
    .rw[ai h1]at g3;rw[<-g3]
     congr 1
     grind [oB,fb]
  .have:k=Q.length:=by omega
   subst this;rw[List.drop_length]at g3
   show res=_
   rw[<-g3];simp[fc]
end L
namespace L
def Tr(n:Nat)(l:List Int)(Q:List (Nat×Nat))(s s':(Nat->Bool)×List (Int×Int)):Prop:=
 ∀R:List (Nat×Nat),s.2++fc (2 ^ n) (dQ l) s.1 ((Q++R).filter (xx n λx=>(x:Int)∈l))=s'.2++fc (2 ^ n) (dQ l) s'.1 (R.filter (xx n λx=>(x:Int)∈l))
theorem Tr.nil{n:Nat}{l:List Int}(s:(Nat->Bool)×List (Int×Int)):Tr n l [] s s:=λ_=>rfl
def Tr.trans{n:Nat}{l:List Int}{Q Q':List (Nat×Nat)}{s s' s'':(Nat->Bool)×List (Int×Int)}(h:Tr n l Q s s')(g:Tr n l Q' s' s''):Tr n l (Q++Q') s s'':=λR=>by
 rw[ahr,h,g]
theorem Tr.skip{n:Nat}{l:List Int}{p:Nat×Nat}{s:(Nat->Bool)×List (Int×Int)}(h:fb (2 ^ n) (dQ l) s.1 p.1 p.2=ag\/¬Dq n (λx=>(x:Int)∈l) p.1 p.2):Tr n l [p] s s:=λR=>by
 grind [jZ,nW]
def Tr.take{n:Nat}{l:List Int}{p:Nat×Nat}{s:(Nat->Bool)×List (Int×Int)}(h:fb (2 ^ n) (dQ l) s.1 p.1 p.2=af)(hp:Dq n (λx=>(x:Int)∈l) p.1 p.2):Tr n l [p] s (λx=>s.1 x||decide (x&&& p.1=p.2),s.2++[pI p.1 p.2]):=λR=>by
 grind [nW,jZ]
def qi{α:Type}(f:Nat->List α)(k:Nat):(agG (k+1)).flatMap f=(agG k).flatMap f++f k:=by
 rw[List.range_succ,List.flatMap_append];simp
def uB(m k:Nat):((agG (k+1)).filter λb=>decide (b&&& m=b)).map (λb=>(m,b))=((agG k).filter λb=>decide (b&&& m=b)).map (λb=>(m,b))++(if k&&& m=k then[(m,k)]else[]):=by
 grind [kJ]
def N9{l:List Int}(hl:l.length<=1000000)(a:Int):M.mw aU l a=aa (Cw (Gq a) (λx=>(x:Int)∈l) (dQ l)):=by
 have hn:=E7 a;generalize Zr:Gq a=n at hn;have h8:=rc hn;have oV:=Nat.two_pow_pos n;unfold M.mw;rw[IH,agv,Zr,E8 hl hn,agv];have hlen:((sa l (2 ^ n)).length:Int)=((2 ^ n:Nat):Int):=sc _ _;rw[hlen]
 have sP:agE (((2 ^ n:Nat):Int)).toNat ag=(agG (2 ^ n)).map λ_=>ag:=by
  rw[agD];apply List.ext_getElem (by simp);intro i h1 h2;simp
 refine Wp.eq (.bind (my.2 ⟨by grind,?_⟩));rw[sP]
 refine Wp.count (λs=>s.1) (n+1) (λc s=>∃cov:Nat->Bool,s.2.1=(agG (2 ^ n)).map cov/\Tr n l ((agG c).flatMap (Ms n)) (λ_=>ag,[]) (cov,s.2.2)/\s.2.2.length<=c*65536) (by omega) rfl ⟨λ_=>ag,rfl,Tr.nil _,Nat.zero_le _⟩ λc s hc hs hJ=>?_
 obtain⟨cc,UA,res⟩:=s;obtain⟨cov,rfl,hT,Pm⟩:=hJ;dsimp only at hs hT Pm⊢;subst hs;refine .dec (λh=>?_) (λh=> .some ?_)
 .have hcn:c<=n:=by omega
  refine Wp.seq (λj=>∃cov':Nat->Bool,j.1=(agG (2 ^ n)).map cov'/\Tr n l (Ms n c) (cov,res) (cov',j.2)/\j.2.length<=c*65536+65536) ?_ λj hj=>?_
  .refine Wp.count (λs=>s.1) (2 ^ n) (λm s=>∃cov':Nat->Bool,s.2.1=(agG (2 ^ n)).map cov'/\Tr n l ((agG m).flatMap λm:Nat=>if kL (m:Int)=(c:Int)then Bs m else[]) (cov,res) (cov',s.2.2)/\s.2.2.length<=c*65536+m*256) (by omega) rfl ⟨cov,rfl,Tr.nil _,agW Pm (by omega)⟩ λm s hm hs hJ=>?_
   obtain⟨mm,UA,rs⟩:=s;obtain⟨cv,rfl,Zs,LH⟩:=hJ;dsimp only at hs Zs LH⊢;subst hs;refine .dec (λh=>?_) (λh=> .some ?_)
   .have MD:m<2 ^ n:=by exact_mod_cast h
    refine Wp.seq (λj=>∃cov':Nat->Bool,j.1=(agG (2 ^ n)).map cov'/\Tr n l (if kL (m:Int)=(c:Int)then Bs m else[]) (cv,rs) (cov',j.2)/\j.2.length<=c*65536+m*256+256) ?_ λj hj=>?_
    .refine Wp.seq (λj=>∃cov':Nat->Bool,j.1=(agG (2 ^ n)).map cov'/\Tr n l (if kL (m:Int)=(c:Int)then Bs m else[]) (cv,rs) (cov',j.2)/\j.2.length<=c*65536+m*256+256) (.aX (Lz (by omega)) ?_) λj hj=> .some hj
     refine .kK (λh1=> .some ⟨cv,rfl,by rw[ai h1];exact Tr.nil _,agW LH (by omega)⟩) (λh1=>?_);rw[aj h1]
     refine Wp.count (λs=>s.1) (m+1) (λb s=>∃cov':Nat->Bool,s.2.1=(agG (2 ^ n)).map cov'/\Tr n l (((agG b).filter λb=>decide (b&&& m=b)).map λb=>(m,b)) (cv,rs) (cov',s.2.2)/\s.2.2.length<=c*65536+m*256+b) (by omega) rfl ⟨cv,rfl,Tr.nil _,agW LH (by omega)⟩ λb s hb hs hJ=>?_
     obtain⟨bb,UA,rt⟩:=s;obtain⟨cw,rfl,VL,UB⟩:=hJ;dsimp only at hs VL UB⊢;subst hs;refine .dec (λh=>?_) (λh=> .some ?_)
     .have Pj:b<=m:=by omega
      refine Wp.seq (λj=>∃cov':Nat->Bool,j.1=(agG (2 ^ n)).map cov'/\Tr n l (((agG (b+1)).filter λb=>decide (b&&& m=b)).map λb=>(m,b)) (cv,rs) (cov',j.2)/\j.2.length<=c*65536+m*256+(b+1)) ?_ λj hj=> .some ⟨by omega,aP (by omega),hj⟩
      refine Wp.seq (λj=>∃cov':Nat->Bool,j.1=(agG (2 ^ n)).map cov'/\Tr n l (((agG (b+1)).filter λb=>decide (b&&& m=b)).map λb=>(m,b)) (cv,rs) (cov',j.2)/\j.2.length<=c*65536+m*256+(b+1)) ?_ λj hj=> .some hj
      rw[IE (show b<9223372036854775808 by omega) (show m<9223372036854775808 by omega),uB]
      have aaN:(b&&& m=b->fb (2 ^ n) (dQ l) cw m b=ag\/¬Dq n (λx=>(x:Int)∈l) m b)->Tr n l (((agG b).filter λb=>decide (b&&& m=b)).map (λb=>(m,b))++(if b&&& m=b then[(m,b)]else[])) (cv,rs) (cw,rt):=λh=>by
       refine VL.trans ?_
       grind [Tr.skip,Tr.nil]
      refine Wp.seq (λj=>j=af↔(b&&& m=b->fb (2 ^ n) (dQ l) cw m b=ag\/¬Dq n (λx=>(x:Int)∈l) m b)) ?_ λj hj=>?_
      .refine .kK (λh2=> .some (by grind)) (λh2=> .aX (LA hn (by omega)) ?_)
       have h2:b&&& m=b:=by exact_mod_cast h2
       cases hf:fb (2 ^ n) (λx=>decide ((x:Int)∈l)) cw m b with
       |false=>exact .ite (λ_=> .some ⟨λ_ _=> .inl hf,λ_=>rfl⟩) (λh=>absurd rfl h)
       |true=>
        refine .ite (λh=>absurd h (by simp)) (λ_=>Wp.seq (λr=>r=af↔Dq n (λx=>(x:Int)∈l) m b) (LC hn MD h2) λr hr=> .some ?_)
        grind [fb,dQ]
      .refine .ite (λJk=> .some (by grind)) (λUy=>?_)
       have IA:=λh=>Uy (hj.2 h)
       have h2:b&&& m=b:=(by grind)
       have yY:fb (2 ^ n) (dQ l) cw m b=af:=by
        cases e:fb (2 ^ n) (dQ l) cw m b with
        |true=>rfl
        |false=>grind
       have Hg:Dq n (λx=>(x:Int)∈l) m b:=(by grind)
       refine Wp.seq (λj=>j=(agG (2 ^ n)).map λx=>cw x||decide (x&&& m=b)) ?_ λj hj=>?_
       .refine Wp.count (λs=>s.1) (2 ^ n) (λk s=>s.2=(agG (2 ^ n)).map λx=>cw x||(decide (x<k)&&decide (x&&& m=b))) (by omega) rfl (by simp) λk s hk hs hJ=>?_
        obtain⟨kk,cc⟩:=s;dsimp only at hs hJ⊢;subst hs hJ;refine .dec (λh=>?_) (λh=> .some ?_)
        .have MH:k<2 ^ n:=by exact_mod_cast h
         have xv:∀v:Bool,v=(cw k||decide (k&&& m=b))->bm ((agG (2 ^ n)).map λx=>cw x||(decide (x<k)&&decide (x&&& m=b))) (k:Int) v=(agG (2 ^ n)).map λx=>cw x||(decide (x<k+1)&&decide (x&&& m=b)):=λv hv=>by
          unfold bm;rw[agD,lr]
          grind
         refine Wp.seq (λj=>j=(agG (2 ^ n)).map λx=>cw x||(decide (x<k+1)&&decide (x&&& m=b))) (.bind (Aj MH ?_)) λj hj=> .some ⟨MH,aP (by omega),hj⟩
         refine .ite (λh1=> .bind (Aj MH (.some (xv _ ?_)))) (λh1=> .aX (rf (by omega) (by omega)) (.bind (Aj MH (.some (xv _ ?_)))))
         all_goals grind
        .have:k=2 ^ n:=by have:¬k<2 ^ n:=λg=>h (by grind);omega
         subst this
         refine List.map_congr_left λx hx=>?_
         grind
       .refine .bind (.tW (by grind) (.some ⟨_,hj,?_,by simp;omega⟩));refine VL.trans ?_;rw[aj h2];exact Tr.take (s:=(cw,rt)) yY Hg
     .have:b=m+1:=by omega
      subst this;exact⟨cw,rfl,VL,agW UB (by omega)⟩
    .obtain⟨cov',h1,h2,h3⟩:=hj;refine .some ⟨MD,aP (by omega),cov',h1,?_,agW h3 (by omega)⟩;rw[qi];exact Zs.trans h2
   .have:m=2 ^ n:=by have:¬m<2 ^ n:=λg=>h (by grind);omega
    subst this;have:2 ^ n*256<=256*256:=agM _ h8;exact⟨cv,rfl,Zs,agW LH (by omega)⟩
  .obtain⟨cov',h1,h2,h3⟩:=hj;refine .some ⟨by omega,aP (by omega),cov',h1,?_,agW h3 (by omega)⟩;rw[qi];exact hT.trans h2
 .have:c=n+1:=by omega
  subst this;have:=hT [];simp only[List.append_nil,List.nil_append,List.filter_nil,fc]at this
  show res=_
  rw[<-this];rfl
end L
namespace L
abbrev xy:Type:=aK.den
abbrev IJ:Type:=bA.den
def MI(x:Int)(r:xy):Bool:=decide (aG .and .i64 x r.1.1=r.1.2)
def ri(x:Int):List xy->Int×Bool
 |[]=>(0,ag)
 |r::l=>if MI x r=af then(r.2,af)else ri x l
def IK{x:Int}{r:xy}{l:List xy}:ri x (r::l)=if MI x r=af then(r.2,af)else ri x l:=rfl
def UC(r:xy)(x:Int):M.fq aU r.1 x=aa (MI x r):=rfl
def Cy(t:IJ)(x:Int)(hl:t.2.2.2.length<=9223372036854775807):M.dh aU t x=aa (ri x t.2.2.2):=by
 unfold M.dh;refine Wp.eq (Wp.count (λs=>s) t.2.2.2.length (λk _=>ri x t.2.2.2=ri x (t.2.2.2.drop k)) hl rfl rfl λk s hk hs hJ=>?_);subst hs;refine .dec (λh=>?_) (λh=> .some ?_)
 .have aH:k<t.2.2.2.length:=by omega
  rw[agJ aH]at hJ;refine .bind (.idx k rfl aH (.aX (UC _ x) (.ite (λh1=> .some ?_) (λh1=> .some ⟨aH,aP (by omega),?_⟩))))
  .show _=ri x _
   rw[hJ];unfold ri;rw[aj h1]
  grind [ri]
 .have:k=t.2.2.2.length:=by omega
  subst this
  show _=ri x _
  rw[hJ,List.drop_length];rfl
end L
namespace L
end L
end Go.Proofs.YtfeahmiobbjklaaGreatDoor
