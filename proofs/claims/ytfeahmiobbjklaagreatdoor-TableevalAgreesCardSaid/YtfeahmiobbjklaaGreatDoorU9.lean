/- Joined texts: RU RV RW TA TB TC TD TE TF TG TH TJ TT TU. -/
import Derived.Test.YtfeahmiobbjklaaGreatDoorU8
open _root_.Bool renaming false->ah,true->af,false_eq_true->aiK,not_true->ajR
open _root_.Option renaming none->ae,some->aa,bind_some->aiA,map_eq_some_iff->ajp
open _root_.Go.Lib renaming indexByte->ajH,compact->aju
open _root_.Go.IntKind renaming i64->aiB,u64->aiD
open _root_.List renaming getElem?_eq_getElem->aiE,getElem_mem->aiF,getElem_of_mem->aiV,length_take->ai5,take_append_getElem->aiU,drop_eq_getElem_cons->aiN,getElem_append_left->ajq,getElem_append_right->ajm,length_map->ajn,replicate->aiG,getElem?_eq_some_iff->aiP,mem_append->aiX,mem_cons->ai7,pairwise_cons->aiT,filter_eq_self->ajX,mem_filter->aji,range->aiM,mem_singleton->aiZ
open _root_.Nat renaming le_of_lt->ajT,le_trans->ai4,le_refl->aiH,eq_of_testBit_eq->ajJ,lt_of_lt_of_le->ai1,mul_le_mul_right->aiS
open _root_.Sum renaming inr->ajy
open _root_.Int renaming eq_ofNat_of_zero_le->aiL,tdiv->aiR,tmod->ai3,toNat_natCast->aiI
open _root_.BitVec renaming ofInt->ajk
open _root_.Go.Proofs renaming ltOf->ajd
open _root_.Classical renaming propDecidable->ai6
namespace Go.Proofs.YtfeahmiobbjklaaGreatDoor
open Go Go.RowKit
set_option maxRecDepth 100000
set_option linter.unusedSimpArgs false
set_option linter.unusedVariables false
set_option linter.defProp false
namespace L
noncomputable def w6:List ByteArray:=(M.mX aU).getD []
def PG:M.mX aU=aa w6:=by kernel_rfl
def MC:w6.length<=100:=by unfold w6;decide+kernel
def Wd(c:Int):Prop:=(97<=c/\c<=122)\/(48<=c/\c<=57)\/c=95
def IdS(s:ByteArray):Prop:=s.size<=16/\(∃h:0<s.size,97<=s[0].toNat/\s[0].toNat<=122)/\(∀k,∀h:k<s.size,Wd (s[k].toNat:Int))/\s∉w6
theorem MD(s:ByteArray):nU s=af↔IdS s:=by
 have key:Wp (M.km aU s) λr=>r=af↔IdS s:=by
  have hl:=MC;unfold M.km;simp only[C6,PB,PG,W_,au,av,reduceCtorEq];refine⟨λh=>?_,λh0=>⟨λh=>?_,λWr=>?_⟩⟩
  .exact ay id λg=>by obtain⟨_,⟨g,_⟩,_⟩:=g;omega
  .exact ay id λg=>by have:=g.1;omega
  refine sN.2 ⟨by omega,?_⟩;have e0:((0:Int).toNat)=0:=rfl;simp only[e0];refine⟨λh=>ay id λg=>?_,λWs=>?_⟩
  .obtain⟨_,⟨_,g⟩,_⟩:=g;grind
  refine Wp.count (λs=>s) s.size (λk _=>∀j,j<k->∀h:j<s.size,Wd (s[j].toNat:Int)) (by omega) rfl (λj hj=>by omega) λk c hk hs hJ=>?_
  obtain rfl:c=_:=hs;simp only[W_,au,av,reduceCtorEq,bw,bf];refine⟨λaH=>sN.2 ⟨by omega,?_⟩,λhge=>?_⟩
  .have aH:k<s.size:=by omega
   have ek:((k:Int).toNat)=k:=by omega
   simp only[ek];exact⟨λh=>ay id λg=>h (g.2.2.1 k aH),λh=>⟨aH,aQ (by omega),fB hJ λ_=>h⟩⟩
  refine Wp.count (λs=>s) w6.length (λk _=>∀j,j<k->∀h:j<w6.length,w6[j]≠s) (by omega) rfl (λj hj=>by omega) λi c hi hs hI=>?_
  obtain rfl:c=_:=hs;simp only[W_,au,av,reduceCtorEq,bw,bf];refine⟨λaH=>?_,λafN=>?_⟩
  .have aH:i<w6.length:=by omega
   simp only[aC aH,cK (m:=w6.length) (by omega) aH,W_,au,av,reduceCtorEq];exact⟨λh=>ay id λg=>g.2.2.2 (h▸aiF aH),(by grind)⟩
  .refine iff_of_true trivial ⟨by omega,⟨by omega,by omega⟩,λj h=>hJ j (by omega) h,λhm=>?_⟩
   grind [aiV]
 obtain⟨r,hr,h⟩:=key;unfold nU
 grind
def uh(s:ByteArray):List ByteArray->Option Bool
 |[]=>aa ah
 |[w]=>aa (decide (s=w))
 |w::l=>if decide (s=w)=af then aa (decide (s=w))else uh s l
theorem zo(s:ByteArray):(l:List ByteArray)->uh s l=aa (decide (s∈l))
 |[]=>by simp[uh]
 |[w]=>by simp[uh]
 |w::w'::l=>by
  unfold uh;rw[zo s (w'::l)]
  grind
def Db(s:ByteArray):M.kT aU s=aa (decide (s∈w6)):=by
 have:M.kT aU s=(uh s w6).bind λj=>if j=af then aa af else aa ah:=by kernel_rfl
 grind [zo]
def zp(c:Int):M.jK aU c=aa (decide (97<=c/\c<=122)):=by
 apply Wp.eq;unfold M.jK;simp only[W_,au,av,reduceCtorEq];omega
def JH(c:Int):M.lQ aU c=aa (decide (48<=c/\c<=57)):=by
 apply Wp.eq;unfold M.lQ;simp only[W_,au,av,reduceCtorEq];omega
def yh(s:ByteArray)(hs:s.size<=maxLen):Wp (M.jw aU s) λn=>n=(s.size:Int)↔∀k,∀h:k<s.size,Wd (s[k].toNat:Int):=by
 unfold M.jw;simp only[zp,JH]
 refine Wp.count (λs=>s) s.size (λk _=>∀j,j<k->∀h:j<s.size,Wd (s[j].toNat:Int)) hs rfl (λj hj=>by omega) λk c hk Em hJ=>?_
 obtain rfl:c=_:=Em
 rcases Nat.lt_or_ge k s.size with aH|hge
 .have hb:lr s (k:Int)=aa (s[k].toNat:Int):=by
   have:=(Q4 (x:=((s[k].toNat:Nat):Int))).1 (sN (s:=s) (i:=(k:Int)).2 ⟨by omega,by simp⟩);exact this
  simp only[FL aH,hb,cK hs aH,W_,au,av,reduceCtorEq,bw,bf];unfold Wd at*
  have ok:(97<=(s[k].toNat:Int)/\(s[k].toNat:Int)<=122)\/(48<=(s[k].toNat:Int)/\(s[k].toNat:Int)<=57)\/(s[k].toNat:Int)=95->k<s.size/\∀j,j<k+1->∀h:j<s.size,(97<=(s[j].toNat:Int)/\(s[j].toNat:Int)<=122)\/(48<=(s[j].toNat:Int)/\(s[j].toNat:Int)<=57)\/(s[j].toNat:Int)=95:=λh=>⟨aH,fB hJ λ_=>h⟩
  grind
 .obtain rfl:k=s.size:=by omega
  simp only[wV,W_,au,av,reduceCtorEq,bf]
  grind
def ui(s:ByteArray)(hs:s.size<=maxLen):M.cd aU s=aa (nU s):=by
 have key:Wp (M.cd aU s) λr=>r=af↔IdS s:=by
  unfold M.cd;simp only[zp,Db,W_,au,av,reduceCtorEq];refine⟨λh=>?_,λh=>?_⟩
  .have h0:0<s.size:=by
    rcases Nat.eq_zero_or_pos s.size with e|e
    .exact absurd (ByteArray.ext (by simp_all)) h
    .exact e
   refine sN.2 ⟨by omega,?_⟩;have e0:((0:Int).toNat)=0:=rfl;simp only[e0];refine⟨λWs=>(yh s hs).mono λn hn=>⟨λe=>⟨λWr=>?_,λWr=>ay id λg=>Wr (by have:=g.1;omega)⟩,λe=>ay id λg=>e (hn.2 g.2.2.1)⟩,λWs=>ay id λg=>?_⟩
   .exact⟨λg=>⟨by omega,⟨h0,by omega⟩,hn.1 e,g⟩,λg=>g.2.2.2⟩
   .obtain⟨_,⟨_,g⟩,_⟩:=g;grind
  .refine ay id λg=>?_
   obtain⟨_,⟨g,_⟩,_⟩:=g;subst h;cases g
 obtain⟨r,hr,h⟩:=key
 grind [MD]
theorem qb{β:Type}{l:List (ByteArray×β)}{nm:ByteArray}:0<=ff (λx=>decide (x.1=nm)) l↔jo l nm:=by
 rw[fW];unfold jo;simp
def rS(l:List En)(nm:ByteArray)(hl:l.length<=maxLen):M.jb aU l nm=aa (decide (jo l nm)):=by
 have:M.bz aU l nm=aa (ff (λx=>decide (x.1=nm)) l,nm):=by
  unfold M.bz M.kU;exact w5 hl (λk h=>by simp only[aC h,o5 h,aiA,if_true]) (by grind)
 grind [M.jb,M.bO,qb]
def uQ(l:List S9)(nm:ByteArray)(hl:l.length<=maxLen):M.jx aU l nm=aa (decide (jo l nm)):=by
 have:M.bq aU l nm=aa (ff (λx=>decide (x.1=nm)) l,nm):=by
  unfold M.bq M.kl;exact w5 hl (λk h=>by simp only[aC h,o5 h,aiA,if_true]) (by grind)
 grind [M.jx,M.bJ,qb]
def sS(l:List Fd)(f:Fd)(hl:l.length<=maxLen):M.aW aU l f=aa (decide (jo l f.1),f):=by
 have:M.br aU l f=aa (ff (λx=>decide (x.1=f.1)) l,f):=by
  unfold M.br M.jd;exact w5 hl (λk h=>by simp only[aC h,o5 h,aiA,if_true]) (by grind)
 grind [M.aW,qb]
def Dc(l:List fZ)(f:fZ)(hl:l.length<=maxLen):M.bn aU l f=aa (decide (jo l f.1),f):=by
 have:M.bA aU l f=aa (ff (λx=>decide (x.1=f.1)) l,f):=by
  unfold M.bA M.jG;exact w5 hl (λk h=>by simp only[aC h,o5 h,aiA,if_true]) (by grind)
 grind [M.bn,qb]
def AS(l:List fY)(f:fY)(hl:l.length<=maxLen):M.aX aU l f=aa (decide (jo l f.1),f):=by
 have:M.bu aU l f=aa (ff (λx=>decide (x.1=f.1)) l,f):=by
  unfold M.bu M.ji;exact w5 hl (λk h=>by simp only[aC h,o5 h,aiA,if_true]) (by grind)
 grind [M.aX,qb]
def FR(l:List ByteArray)(m:ByteArray)(hl:l.length<=maxLen):M.db aU l m=aa (decide (m∈l)):=by
 have:M.dE aU l m=aa (ff (λx=>decide (m=x)) l):=by
  unfold M.dE;exact sR hl (λk h=>by simp only[aC h,o5 h,aiA,if_true]) (by grind)
 grind [M.db,fW]
def FT(l:List Int)(m:Int)(hl:l.length<=maxLen):M.eE aU l m=aa (decide (m∈l)):=by
 have:M.fT aU l m=aa (ff (λx=>decide (m=x)) l):=by
  unfold M.fT;exact sR hl (λk h=>by simp only[aC h,o5 h,aiA,if_true]) (by grind)
 grind [M.eE,fW]
def ma{α:Type}{l:List α}{k:Nat}(h:k<=l.length):gI l (0:Int) (k:Int)=aa (l.take k):=by
 apply Wp.eq;exact wp_cut.2 ⟨by omega,by simp⟩
def AT(l:Lw)(hw:WF cT l)(k:Nat)(hk:k<l.1.length):M.lR aU l (k:Int) l.1[k]=aa ((pq l k).getD (0,0)):=by
 have hx:WF dL l.1[k]:=hw.1.2 _ (aiF hk);have w1:=hw.1.1;have hs:l.1[k].1.size<=maxLen:=hx.1;have hm:∀m∈l.1[k].2,ByteArray.size m<=maxLen:=hx.2.2;apply Wp.eq;unfold M.lR pq;rw[aiE hk];simp only[ui _ hs,ma (ajT hk),rS (l.1.take k) _ (by grind),W_,au,av,reduceCtorEq];generalize l.1[k]=x at*;refine⟨λh=>by grind,λh=>?_⟩;rw[aj (by simp[h])];refine⟨λh=>by grind,λh2=>?_⟩;rw[aj h2];refine⟨λh=>by grind,λh3=>?_⟩;rw[aj (by omega)];refine⟨λh=>by grind,λh4=>?_⟩;rw[aj (by omega)]
 refine Wp.count (λs=>s) x.2.length (λi _=>∀j,j<i->My x.2 j=ae) (by omega) rfl (λj hj=>by omega) λi c hi hs hJ=>?_
 obtain rfl:c=_:=hs;simp only[W_,au,av,reduceCtorEq,bw,bf];refine⟨λaH=>?_,λhge=>?_⟩
 .have aH:i<x.2.length:=by omega
  have hf:My x.2 i=if nU x.2[i]=ah then aa (2,100+(i:Int))else if x.2[i]∈x.2.take i then aa (7,100+(i:Int))else ae:=by
   unfold My;rw[aiE aH]
  simp only[aC aH,ui _ (hm _ (aiF aH)),ma (ajT aH),FR (x.2.take i) _ (by rw[ai5];unfold maxLen;omega),sP (k:=i) (a:=100) (by omega) (by omega),cK (m:=x.2.length) (by omega) aH,W_,au,av,reduceCtorEq];refine⟨λh=>?_,λh=>⟨λh2=>?_,λh2=>⟨aH,fB hJ ?_⟩⟩⟩
  all_goals grind [gH]
 grind [cu]
def yi(l:Lw)(hw:WF cT l):M.kV aU l=aa (if 8<l.1.length then((4:Int),((1:Int),((8:Int),(0:Int))))else match dx (λk=>(pq l k).map λe=>(k,e)) l.1.length with
 |some (k,e)=>sO 1 (k:Int) (aa e)
 |none=>C8):=by
 have w1:=hw.1.1;unfold maxLen at w1;apply Wp.eq;unfold M.kV;simp only[W_,au,av,reduceCtorEq];refine⟨λh=>by grind,λh8=>?_⟩;rw[aj (by omega)]
 refine Wp.count (λs=>s) l.1.length (λi _=>∀j,j<i->(λk=>(pq l k).map λe=>(k,e)) j=ae) w1 rfl (λj hj=>by omega) λi c hi hs hJ=>?_
 obtain rfl:c=_:=hs;simp only[W_,au,av,reduceCtorEq,bw,bf];refine⟨λaH=>?_,λhge=>?_⟩
 .have aH:i<l.1.length:=by omega
  simp only[aC aH,AT l hw i aH,cK w1 aH,W_,au,av,reduceCtorEq];refine⟨λh=>?_,λh=>⟨aH,fB hJ ?_⟩⟩
  .cases he:pq l i with
   |none=>grind
   |some e=>rw[gH (Te he) hJ aH];rfl
  .cases he:pq l i with
   |none=>rfl
   |some e=>grind [ug]
 .rw[cu.2 λj hj=>hJ j (by omega)];rfl
theorem o7(t:Ty)(E:List En):M.cm aU t E=aa (decide (lq t E.length)):=by
 obtain⟨(k:Int),(e:Int)⟩:=t;apply Wp.eq;unfold M.cm;simp only[W_,au,av,reduceCtorEq];simp only[lq];dsimp only[aA,Row.den]at*;omega
def AU(t:Ty)(E:List En):M.fS aU t E=aa (Je t E):=by
 obtain⟨(k:Int),(e:Int)⟩:=t;apply Wp.eq;unfold M.fS Je;simp only[o7,W_,au,av,reduceCtorEq];by_cases hv:lq (k,e) E.length
 .simp only[hv,not_true_eq_false,if_false,false_implies,true_implies,true_and];refine⟨λh=>by rw[al h],λh1=>⟨λh=>by rw[aj h1,al h],λh2=>⟨λh=>by rw[aj h1,aj h2,al h],λh3=>⟨λh=>by rw[aj h1,aj h2,aj h3,al h],λh4=>⟨(by grind),λh5=>?_⟩⟩⟩⟩⟩;simp only[lq]at hv;dsimp only[aA,Row.den]at*
  have hi:e.toNat<E.length:=by omega
  refine fH.2 ⟨by omega,?_⟩
  grind
 grind
def FU(r:Ty):M.eP aU r=aa (decide (VR r)):=by
 obtain⟨(k:Int),(e:Int)⟩:=r;apply Wp.eq;unfold M.eP;simp only[W_,au,av,reduceCtorEq];simp only[VR];grind
def JI(a b:Rw):M.kW aU a b=aa (decide (uO a b)):=by
 obtain⟨⟨(a1:Int),(a2:Int)⟩,(a3:Int),(a4:Int),(a5:Int)⟩:=a;obtain⟨⟨(b1:Int),(b2:Int)⟩,(b3:Int),(b4:Int),(b5:Int)⟩:=b;apply Wp.eq;unfold M.kW M.jE M.iD;simp only[FU,W_,au,av,reduceCtorEq];simp only[uO];dsimp only[aA,Row.den]at*
 by_cases h1:VR (a1,a2)<;>by_cases h2:VR (b1,b2)<;>simp only[h1,h2,W_,au,av,reduceCtorEq]<;>omega
def ME(l:List Rw)(x:Rw)(hl:l.length<=maxLen):Wp (M.cn aU l x) λr=>r.2.1=af↔∃y∈l,uO y x:=by
 unfold M.cn M.jc
 refine Wp.count (λs=>s.1) l.length (λk s=>s.2=x/\∀j,j<k->∀h:j<l.length,¬uO l[j] x) hl rfl ⟨rfl,λj hj=>by omega⟩ λk c hk hs hJ=>?_
 obtain⟨c1,c2⟩:=c;obtain⟨h1,hJ⟩:=hJ;obtain rfl:c2=x:=h1;obtain rfl:c1=_:=hs;simp only[JI,W_,au,av,reduceCtorEq,bw,bf];refine⟨λaH=>?_,λhge=>?_⟩
 .have aH:k<l.length:=by omega
  simp only[aC aH,cK hl aH,W_,au,av,reduceCtorEq]
  grind
 .refine ay id ?_
  grind [aiV]
def PH(t:S9)(E:List En):M.kX aU t E=aa (q9 t E):=by
 apply Wp.eq;unfold M.kX q9;simp only[o7,AU,FU,W_,au,av,reduceCtorEq];refine⟨λh=>by grind,λh64=>?_⟩;rw[aj (c:=64<t.2.2.2.length) (by omega)];refine⟨λh1=>by rw[al (λg=>h1 g.1)],λh1=>⟨(by grind),λh2=>?_⟩⟩;rw[aj (λg=>g ⟨h1,h2⟩)]
 refine Wp.count (λs=>s) t.2.2.2.length (λk _=>∀j,j<k->AR t E j=ae) (by omega) rfl (λj hj=>by omega) λk s hk hs hJ=>?_
 obtain rfl:s=_:=hs;simp only[W_,au,av,reduceCtorEq,bw,bf];refine⟨λaH=>?_,λhge=>?_⟩
 .have aH:k<t.2.2.2.length:=by omega
  have hf:AR t E k=if wW t.2.2.2[k] t E then aa ((k:Int),3)else if∃y∈t.2.2.2.take k,uO y t.2.2.2[k]then aa ((k:Int),11)else ae:=by
   unfold AR;rw[aiE aH]
  have bad:wW t.2.2.2[k] t E->((k:Int),(3:Int))=(dx (AR t E) t.2.2.2.length).getD (0,0):=λhw=>by
   grind [gH]
  have good:¬wW t.2.2.2[k] t E->Wp (M.cn aU (t.2.2.2.take k) t.2.2.2[k]) λy=>(y.2.1=af->((k:Int),(11:Int))=(dx (AR t E) t.2.2.2.length).getD (0,0))/\(y.2.1=ah->k<t.2.2.2.length/\∀j,j<k+1->AR t E j=ae):=λhw=>by
   rw[aj hw]at hf
   refine(ME _ _ (by rw[ai5];unfold maxLen;omega)).mono λy hy=>⟨λh=>?_,λh=>⟨aH,fB hJ ?_⟩⟩
   all_goals grind [gH]
  simp only[aC aH,ma (ajT aH),cK (m:=t.2.2.2.length) (by omega) aH,W_,au,av,reduceCtorEq];unfold wW at bad good;unfold El at bad good
  grind
 grind [cu]
def MF{t:S9}{E:List En}:(q9 t E).2≠0->((q9 t E).1= -1\/(0<=(q9 t E).1/\(q9 t E).1<=64)):=by
 unfold q9;intro h;split
 .grind
 split
 .exact .inl rfl
 rename_i h1 h2
 cases hf:dx (AR t E) t.2.2.2.length with
 |none=>grind
 |some e=>
  obtain⟨k,hk,he,_⟩:=gM hf;unfold AR at he;split at he
  .cases he
  split at he
  .grind
  split at he
  all_goals grind
def w7(l:Lw)(hw:WF cT l):M.jT aU l=aa (if 8<l.2.1.length then((4:Int),((2:Int),((8:Int),(0:Int))))else match dx (λk=>(ud l k).map λe=>(k,e)) l.2.1.length with
 |some (k,e)=>sO 2 (k:Int) (aa e)
 |none=>C8):=by
 have w1:=hw.2.1.1;have w0:=hw.1.1;have wt:∀t∈l.2.1,WF aT t:=hw.2.1.2;unfold maxLen at w1;apply Wp.eq;unfold M.jT;simp only[W_,au,av,reduceCtorEq];refine⟨λh=>by grind,λh8=>?_⟩;rw[aj (by omega)]
 refine Wp.count (λs=>s) l.2.1.length (λi _=>∀j,j<i->(λk=>(ud l k).map λe=>(k,e)) j=ae) w1 rfl (λj hj=>by omega) λi c hi hs hJ=>?_
 obtain rfl:c=_:=hs;simp only[W_,au,av,reduceCtorEq,bw,bf];refine⟨λaH=>?_,λhge=>?_⟩
 .have aH:i<l.2.1.length:=by omega
  have mh:l.2.1[i].1.size<=maxLen:=(wt _ (aiF aH)).1
  have hE:ud l i=if nU l.2.1[i].1=ah then aa (2,0)else if jo l.1 l.2.1[i].1\/jo (l.2.1.take i) l.2.1[i].1 then aa (7,0)else if(q9 l.2.1[i] l.1).2=0 then ae else aa ((q9 l.2.1[i] l.1).2,if 0<=(q9 l.2.1[i] l.1).1 then 100+(q9 l.2.1[i] l.1).1 else 0):=by
   unfold ud;rw[aiE aH]
  simp only[aC aH,PH,ui _ mh,ma (ajT aH),rS _ _ w0,uQ (l.2.1.take i) _ (by rw[ai5];unfold maxLen;omega),cK w1 aH,W_,au,av,reduceCtorEq]
  have bad:∀e,ud l i=aa e->sO 2 (i:Int) (aa e)=(match dx (λk=>(ud l k).map λe=>(k,e)) l.2.1.length with|some (k,e)=>sO 2 (k:Int) (aa e)|none=>C8):=λe he=>by
   rw[gH (Te he) hJ aH]
  have good:ud l i=ae->i<l.2.1.length/\∀j,j<i+1->(λk=>(ud l k).map λe=>(k,e)) j=ae:=(by grind)
  have Mf:=MF (t:=l.2.1[i]) (E:=l.1);generalize q9 l.2.1[i] l.1=te at*;obtain⟨(r:Int),(c:Int)⟩:=te;dsimp only at*;refine⟨λh=>?_,λh=>⟨λh2=>?_,λh2=>⟨λh3=>?_,λh3=>⟨λh4=>?_,λh4=>?_⟩⟩⟩⟩
  .exact⟨λ_=>bad (2,0) (hE.trans (al h)),λg=>absurd g (by decide)⟩
  .rw[aj (c:=nU l.2.1[i].1=ah) (by simp[h]),al (Or.inl h2)]at hE;exact⟨λ_=>bad (7,0) hE,λg=>absurd g (by decide)⟩
  .rw[aj (c:=nU l.2.1[i].1=ah) (by simp[h]),al (Or.inr h3)]at hE;exact⟨λ_=>bad (7,0) hE,λg=>absurd g (by decide)⟩
  .rw[aj (c:=nU l.2.1[i].1=ah) (by simp[h]),aj (λg=>g.elim h2 h3),aj h4]at hE;have hr:=Mf h4;refine⟨λg=>⟨λ_=>?_,λe=>absurd e h4⟩,λg=>⟨λ_=>?_,λe=>absurd e h4⟩⟩
   .rw[bH (by omega) (by omega)];exact bad (c,100+r) (hE.trans (by grind))
   .exact bad (c,0) (hE.trans (by grind))
  grind
 .rw[cu.2 λj hj=>hJ j (by omega)];rfl
noncomputable def qc(l:Lw)(f:Fd)(a b:List Fd):Int:=if nU f.1=ah then 2 else if jo a f.1\/jo b f.1 then 7 else if¬lq f.2 l.1.length then 8 else 0
def rq(l:Lw)(f:Fd)(a b:List Fd)(hf:f.1.size<=maxLen)(ha:a.length<=maxLen)(hb:b.length<=maxLen):M.je aU l f a b=aa (qc l f a b):=by
 apply Wp.eq;unfold M.je;simp only[ui _ hf,sS _ _ ha,sS _ _ hb,o7,W_,au,av,reduceCtorEq]
 grind [qc]
def AV(l:List UInt8)(c:UInt8):0<=ajH l c↔c∈l:=by
 induction l with
 |nil=>simp[ajH]
 |cons b l ih=>
  have hg:=Go.Lib.indexByte_ge l c;unfold ajH
  grind
def w8(s:ByteArray)(_:s.size<=maxLen):M.jU aU s=aa (decide (plain s)):=by
 have hc:M.strings_Contains aU s (⟨#[34]⟩:ByteArray)=aa (decide (0<=ajH s.data.toList 34)):=rfl
 have cL:0<=ajH s.data.toList 34↔∃i,∃h:i<s.size,(s[i].toNat:Int)=34:=by
  rw[AV];constructor
  .intro h;obtain⟨i,hi,e⟩:=aiV h;refine⟨i,by simpa using hi,?_⟩
   have:s[i]'(by simpa using hi)=34:=by
    have e:s.data[i]'(by simpa using hi)=34:=by simpa using e
    exact e
   rw[this];rfl
  .rintro⟨i,hi,e⟩
   have e2:s[i]=34:=by
    apply UInt8.toNat_inj.1
    show s[i].toNat=34
    omega
   have:(34:UInt8)=s.data.toList[i]'(by simpa using hi):=by rw[<-e2];simp;rfl
   grind
 apply Wp.eq;unfold M.jU;simp only[hc,W_,au,av,reduceCtorEq];refine⟨λh=>?_,λh64=>⟨λh=>?_,λJJ=>?_⟩⟩
 .grind [plain]
 .grind [plain]
 refine Wp.count (λs=>s) s.size (λi _=>∀j,j<i->∀h:j<s.size,32<=(s[j].toNat:Int)/\(s[j].toNat:Int)<=126) (by omega) rfl (λj hj=>by omega) λi c hi hs hJ=>?_
 obtain rfl:c=_:=hs
 rcases Nat.lt_or_ge i s.size with aH|hge
 .have hb:lr s (i:Int)=aa (s[i].toNat:Int):=by
   have:=(Q4 (x:=((s[i].toNat:Nat):Int))).1 (sN (s:=s) (i:=(i:Int)).2 ⟨by omega,by simp⟩);exact this
  simp only[FL aH,hb,cK (m:=s.size) (by omega) aH,W_,au,av,reduceCtorEq,bw,bf];refine⟨λh=>?_,λh=>⟨λh2=>?_,λh2=>⟨aH,fB hJ λ_=>by omega⟩⟩⟩
  all_goals grind [plain]
 .obtain rfl:i=s.size:=by omega
  simp only[wV,W_,au,av,reduceCtorEq,bf];refine(⟨λi hi=>?_,by omega⟩:plain s)
  grind
def mq(sg:sa):Prop:=∀e:List Ty,(∀n∈e,WF az n)->M.gL aU e sg=aa (JB e sg)
def mI{sg:sa}(hT:mq sg){e:List Ty}(want:Ty)(hw:∀n∈e,WF az n):M.gn aU e sg want=aa (wZ e sg want):=by
 apply Wp.eq;unfold M.gn;simp only[hT e hw,AQ,W_,au,av,reduceCtorEq]
 grind [wZ]
def AW(l:Lw)(x:fY)(hw:WF aP x)(fO:nW x)(hT:mq (gp l x))(k:Nat)(hk:k<x.2.2.2.2.length):M.jL aU x (k:Int) (gp l x)=aa (uf l x k x.2.2.2.2[k]):=by
 have zq:=hw.2.2.2.2.2 _ (aiF hk);have Tf:=fO.2.2.2.2.2.2 _ (aiF hk)
 obtain⟨r,hr⟩:∃r,r=x.2.2.2.2[k]:=⟨_,rfl⟩
 have Q7:=fO.2.2.2.1
 have PI:Wp (Loop (S:=Int×Int) (X:=Int) (λs4=>
  (if(decide (s4.2<((x.2.2.2.2.take k).length:Int)))=af then
  ((idx (x.2.2.2.2.take k) s4.2).bind λx6=>
  (if(decide ((x6.2.1:Int)=r.2.1))=af then
  some (aiB.wrap (s4.1+(1:Int)))
  else
  some s4.1):Option (Int)).bind λj5=>
  some (Sum.inl (j5,aiB.wrap (s4.2+(1:Int))))
  else
  some (ajy s4.1))) aU ((0:Int),(0:Int))) λn=>n=(JF x k r.2.1:Int):=by
  have RV:(x.2.2.2.2.take k).length=k:=by rw[ai5];omega
  refine Wp.count (λs=>s.2) k (λj s=>s.1=(((x.2.2.2.2.take j).countP λr'=>decide ((r'.2.1:Int)=r.2.1):Nat):Int)) (by omega) rfl rfl λj s hj hs XN=>?_
  obtain⟨sb,c⟩:=s;dsimp only at hs XN;subst hs;rw[RV];have Mg:(x.2.2.2.2.take j).countP (λr'=>decide ((r'.2.1:Int)=r.2.1))<=60:=ai4 List.countP_le_length (by rw[ai5];omega);simp only[W_,au,av,reduceCtorEq,bw,bf];refine⟨λXO=>?_,λXO=>?_⟩
  .have ER:j<x.2.2.2.2.length:=by omega
   have KA:j<(x.2.2.2.2.take k).length:=by omega
   simp only[aC KA,List.getElem_take,cK (m:=k) (by omega) (show j<k by omega),W_,au,av,reduceCtorEq]
   have Zl:(x.2.2.2.2.take (j+1)).countP (λr'=>decide ((r'.2.1:Int)=r.2.1))=(x.2.2.2.2.take j).countP (λr'=>decide ((r'.2.1:Int)=r.2.1))+if(x.2.2.2.2[j].2.1:Int)=r.2.1 then 1 else 0:=by
    rw[<-aiU ER,List.countP_append];simp[List.countP_cons]
   refine⟨λh'=>⟨by omega,?_⟩,λh'=>⟨by omega,?_⟩⟩
   .rw[Zl,al h',XN,bH (by omega) (by omega)];rfl
   .rw[Zl,aj h',XN];rfl
  .obtain rfl:j=k:=by omega
   exact XN
 apply Wp.eq;unfold M.jL;rw[<-hr];have mh:r.1.size<=maxLen:=(hr▸zq).1
 have abk:r.2.2.2.2.2.2.2.size<=maxLen:=by
  have:=(hr▸Tf).2.1;unfold maxLen;omega
 have Mg:JF x k r.2.1<=60:=ai4 List.countP_le_length (by rw[ai5];omega);have hg:∀n∈r.2.2.2.2.2.1,WF az n:=(hr▸zq).2.2.2.2.2.1.2;have hv:∀n∈r.2.2.2.2.2.2.1,WF az n:=(hr▸zq).2.2.2.2.2.2.1.2;have Tg:ue x k r↔(r.2.2.1:Int)≠-1/\((r.2.2.1:Int)<0\/(k:Int)<=r.2.2.1\/∃y,x.2.2.2.2[(r.2.2.1:Int).toNat]? =aa y/\(y.2.1:Int)≠r.2.1):=Iff.rfl;simp only[aC hk,<-hr,ma (ajT hk),Dc (x.2.2.2.2.take k) _ (by rw[ai5];unfold maxLen;omega),ui _ mh,w8 _ abk,W_,au,av,reduceCtorEq];simp only[ax]at PI
 refine PI.mono λn hn=>?_
 subst hn;clear PI zq Tf hr;unfold uf;refine⟨λh=>by rw[al h],λh1=>?_⟩;rw[aj (c:=nU r.1=ah) (by simp[h1])];refine⟨λh=>by rw[al h],λh2=>?_⟩;rw[aj (c:=jo (x.2.2.2.2.take k) r.1) h2];generalize JF x k r.2.1=q at*;obtain⟨nm,(d:Int),(p:Int),(pr:Int),v,g,val,src⟩:=r;obtain⟨(v1:Int),(v2:Int)⟩:=v;dsimp only[aA,Row.den]at*;refine⟨λh=>by rw[al (c:=¬(0<=d/\d<(x.2.2.2.1.length:Int))) (by omega)],λh3=>⟨λh=>by rw[al (c:=¬(0<=d/\d<(x.2.2.2.1.length:Int))) (by omega)],λh4=>?_⟩⟩;rw[aj (c:=¬(0<=d/\d<(x.2.2.2.1.length:Int))) (by omega)]
 have hd:d.toNat<x.2.2.2.1.length:=by omega
 have XP:¬VR ((v1,v2):Ty)\/v1=v2↔v1<0\/v2<=v1\/109573<v2:=by
  simp only[VR];dsimp only[aA,Row.den];omega
 refine⟨λhp=>⟨λh=>by rw[al (Tg.2 ⟨hp, .inl h⟩)],λh5=>⟨λh=>by rw[al (Tg.2 ⟨hp, .inr (.inl h)⟩)],λh6=>fH.2 ⟨⟨by omega,by omega⟩,λh7=>by rw[al (Tg.2 ⟨hp, .inr (.inr ⟨_,aiE (by omega),h7⟩)⟩)],λh7=>?_⟩⟩⟩,λhp=>?_⟩
 .have Ua:¬ue x k (nm,d,p,pr,(v1,v2),g,val,src):=λh=>by
   obtain⟨_,g1|g1|⟨y,g1,g2⟩⟩:=Tg.1 h
   .omega
   .omega
   .rw[aiE (by omega)]at g1;cases g1;exact g2 h7
  clear Tg;rw[aj Ua]
  have last:Wp (idx x.2.2.2.1 d) λx_3=>Wp (M.gn aU val (gp l x) x_3.2) λx_4=>x_4=match x.2.2.2.1[d.toNat]? with
   |some d=>wZ val (gp l x) d.2
   |none=>0:=by
   refine fH.2 ⟨by omega,?_⟩;rw[mI hT _ hv,aiE hd];exact .some rfl
  by_cases g1:pr<0\/9<pr\/¬VR ((v1,v2):Ty)\/v1=v2
  .rw[al g1];refine⟨λ_=>rfl,λa1=>⟨λ_=>rfl,λa2=>⟨λ_=>rfl,λa3=>⟨λ_=>rfl,λa4=>⟨λ_=>rfl,λa5=>?_⟩⟩⟩⟩⟩;rw[XP]at g1;omega
  rw[aj g1]
  have UI:¬(pr<0\/9<pr\/v1<0\/v2<=v1\/109573<v2):=by rw[<-XP];exact g1
  refine⟨λh=>by omega,λa1=>⟨λh=>by omega,λa2=>⟨λh=>by omega,λa3=>⟨λh=>by omega,λa4=>⟨λh=>by omega,λa5=>?_⟩⟩⟩⟩⟩;refine⟨λh=>by rw[al (by omega)],λh8=>?_⟩;rw[aj (by omega)];refine⟨λh=>by rw[al h],λh9=>?_⟩;rw[aj (λh=>h h9)];refine⟨λh=>?_,λh=>?_⟩
  .rw[mI hT _ hg];refine .some ⟨λh'=>by rw[al ⟨by omega,h'⟩],λh'=>?_⟩;rw[aj (λg=>g.2 h')];exact last
  .rw[aj (λg=>h (by omega))];exact last
 .have Ua:¬ue x k (nm,d,p,pr,(v1,v2),g,val,src):=λh=>(Tg.1 h).1 hp
  clear Tg;rw[aj Ua]
  have last:Wp (idx x.2.2.2.1 d) λx_3=>Wp (M.gn aU val (gp l x) x_3.2) λx_4=>x_4=match x.2.2.2.1[d.toNat]? with
   |some d=>wZ val (gp l x) d.2
   |none=>0:=by
   refine fH.2 ⟨by omega,?_⟩;rw[mI hT _ hv,aiE hd];exact .some rfl
  by_cases g1:pr<0\/9<pr\/¬VR ((v1,v2):Ty)\/v1=v2
  .rw[al g1];refine⟨λ_=>rfl,λa1=>⟨λ_=>rfl,λa2=>⟨λ_=>rfl,λa3=>⟨λ_=>rfl,λa4=>⟨λ_=>rfl,λa5=>?_⟩⟩⟩⟩⟩;rw[XP]at g1;omega
  rw[aj g1]
  have UI:¬(pr<0\/9<pr\/v1<0\/v2<=v1\/109573<v2):=by rw[<-XP];exact g1
  refine⟨λh=>by omega,λa1=>⟨λh=>by omega,λa2=>⟨λh=>by omega,λa3=>⟨λh=>by omega,λa4=>⟨λh=>by omega,λa5=>?_⟩⟩⟩⟩⟩;refine⟨λh=>by rw[al (by omega)],λh8=>?_⟩;rw[aj (by omega)];refine⟨λh=>by rw[al h],λh9=>?_⟩;rw[aj (λh=>h h9)];refine⟨λh=>?_,λh=>?_⟩
  .rw[mI hT _ hg];refine .some ⟨λh'=>by rw[al ⟨by omega,h'⟩],λh'=>?_⟩;rw[aj (λg=>g.2 h')];exact last
  .rw[aj (λg=>h (by omega))];exact last
def JK(x:fY):Prop:=∀d:Nat,d<x.2.2.2.1.length->∃tr,M.ie aU x (d:Int)=aa tr/\tr.length<=1000/\((d:Int)∈tr↔(d:Int)∈Kz x d)
def JL(l:Lw)(k:Nat)(hk:k<l.2.2.length)(hs:∀s∈l.2.2,s.2.2.1.length<=100000/\s.2.2.2.1.length<=100000):M.jF aU l (k:Int)=aa ((gp l l.2.2[k]).1,(gp l l.2.2[k]).2.1,(gp l l.2.2[k]).2.2.2.2.2,(gp l l.2.2[k]).2.2.1,(gp l l.2.2[k]).2.2.2.1,(gp l l.2.2[k]).2.2.2.2.1):=by
 rw[<-PE l k hk hs];unfold M.mo;rw[aj (by simp),aiA,aj (by simp;omega)];rfl
def Ti(l:Lw)(x:fY)(i:Nat)(h:i<x.2.2.1.length):Mz l x i=if qc l x.2.2.1[i] (x.2.2.1.take i) []≠0 then aa (qc l x.2.2.1[i] (x.2.2.1.take i) [],100+(i:Int))else ae:=by
 have hn:∀nm,¬jo ([]:List Fd) nm:=λnm ⟨y,hy,_⟩=>by cases hy
 grind [Mz,qc]
def Tj(l:Lw)(x:fY)(i:Nat)(h:i<x.2.2.2.1.length):MA l x i=if qc l x.2.2.2.1[i] x.2.2.1 (x.2.2.2.1.take i)≠0 then aa (qc l x.2.2.2.1[i] x.2.2.1 (x.2.2.2.1.take i),200+(i:Int))else ae:=by
 grind [MA,qc]
def yj(l:Lw)(hw:WF cT l)(fO:fI l)(k:Nat)(hk:k<l.2.2.length)(hT:mq (gp l l.2.2[k]))(hC:JK l.2.2[k]):M.kZ aU l (k:Int)=aa ((vi l k).getD (0,0)):=by
 have tg:=fO.2.2.2.2.2 _ (aiF hk);have sT:=hw.2.2.2 _ (aiF hk)
 have Wt:=JL l k hk λs hs=>⟨by have:=(fO.2.2.2.2.2 s hs).2.1;omega,by have:=(fO.2.2.2.2.2 s hs).2.2.1;omega⟩
 have hE:vi l k=if nU l.2.2[k].1=ah then aa (2,0)else if jo l.1 l.2.2[k].1\/jo l.2.1 l.2.2[k].1\/jo (l.2.2.take k) l.2.2[k].1 then aa (7,0)else if qa l k l.2.2[k]then aa (6,0)else
  if 12<l.2.2[k].2.2.1.length then aa (4,112)else if 12<l.2.2[k].2.2.2.1.length then aa (4,212)else((JE l l.2.2[k]).or (dx (FQ l l.2.2[k]) l.2.2[k].2.2.2.2.length)).or (dx (JG l.2.2[k]) l.2.2[k].2.2.2.1.length):=by
  unfold vi;rw[aiE hk]
 have h5:=fO.2.2.1
 obtain⟨x,hx⟩:∃x,x=l.2.2[k]:=⟨_,rfl⟩
 simp only[<-hx]at tg sT Wt hE hT hC;have yk:=tg.2.2.1;have Q7:=tg.2.2.2.1;have afP:=tg.2.1;have mh:x.1.size<=maxLen:=sT.1
 have RV:(l.2.2.take k).length=k:=by rw[ai5];omega
 have cL:∀f∈x.2.2.1,(f.1:ByteArray).size<=maxLen:=λf hf=>by have:=tg.2.2.2.2.1 f hf;unfold maxLen;omega
 have hdf:∀f∈x.2.2.2.1,(f.1:ByteArray).size<=maxLen:=λf hf=>by have:=tg.2.2.2.2.2.1 f hf;unfold maxLen;omega
 apply Wp.eq;unfold M.kZ;rw[aC hk,aiA,ma (ajT hk),aiA,<-hx]
 have MG:(((M.jb aU l.1 x.1).bind λy4=>
  (if y4=af then
  some (af,x)
  else
  (M.jx aU l.2.1 x.1).bind λy5=>
  (if y5=af then
  some (af,x)
  else
  (M.aX aU (l.2.2.take k) x).bind λy6=>
  some (y6.1,y6.2))):Option (Bool×aP.den)))=aa (decide (jo l.1 x.1\/jo l.2.1 x.1\/jo (l.2.2.take k) x.1),x):=by
  apply Wp.eq;simp only[rS _ _ hw.1.1,uQ _ _ hw.2.1.1,AS (l.2.2.take k) _ (by rw[RV];unfold maxLen;omega),W_,au,av,reduceCtorEq];exact⟨λh=>by rw[ao (Or.inl h)],λh1=>⟨λh=>by rw[ao (Or.inr (Or.inl h))],λh2=>aw (λb=>(b,x)) (decide_eq_decide.2 ⟨λh=> .inr (.inr h),λh=>(h.resolve_left h1).resolve_left h2⟩)⟩⟩
 rw[MG,aiA,ui _ mh,aiA,hE];by_cases h1:nU x.1=ah
 .rw[al (by simp[h1]),al h1];exact .some rfl
 rw[aj (by simpa using h1),aj h1];by_cases h2:jo l.1 x.1\/jo l.2.1 x.1\/jo (l.2.2.take k) x.1
 .rw[al (ao h2),al h2];exact .some rfl
 rw[aj (by simpa using h2),aj h2];have Q8:qa l k x↔(x.2.1:Int)≠-1/\((x.2.1:Int)<0\/(k:Int)<=x.2.1\/∃y,l.2.2[(x.2.1:Int).toNat]? =aa y/\(y.2.1:Int)≠-1):=Iff.rfl
 have MH:((if(!decide ((x.2.1:Int)=(-1:Int)))=af then
  (if(decide ((x.2.1:Int)<(0:Int)))=af then
  some af
  else
  (if(decide ((k:Int)<=x.2.1))=af then
  some af
  else
  (idx (l.2.2.take k) x.2.1).bind λx9=>
  some (!decide ((x9.2.1:Int)=(-1:Int)))))
  else
  some ah):Option (Bool))=aa (decide (qa l k x)):=by
  apply Wp.eq;simp only[W_,au,av,reduceCtorEq]
  obtain⟨(m:Int),hm⟩:∃m:Int,m=x.2.1:=⟨_,rfl⟩
  simp only[<-hm]at Q8⊢;refine⟨λhp=>⟨λh=>(Q8.2 ⟨hp, .inl h⟩),λh3=>⟨λh=>(Q8.2 ⟨hp, .inr (.inl h)⟩),λh4=>fH.2 ⟨by dsimp only[aA,Row.den]at*;omega,?_⟩⟩⟩,λhp h=>(Q8.1 h).1 hp⟩
  have hmn:m.toNat<k:=by dsimp only[aA,Row.den]at*;omega
  rw[List.getElem_take];have xO:l.2.2[m.toNat]? =aa (l.2.2[m.toNat]'(by omega)):=aiE (by omega);rw[<-decide_not];refine decide_eq_decide.2 ⟨λh g=>?_,λh=>Classical.not_not.1 λh'=>h (Q8.2 ⟨hp, .inr (.inr ⟨_,xO,h'⟩)⟩)⟩;obtain⟨_,g1|g1|⟨y,g1,g2⟩⟩:=Q8.1 g
  .exact absurd g1 h3
  .exact absurd g1 h4
  .rw[xO]at g1;cases g1;exact g2 h
 rw[MH,aiA];by_cases h3:qa l k x
 .rw[al (ao h3),al h3];exact .some rfl
 rw[aj (by simpa using h3),aj h3];clear MG MH Q8 hE;dsimp only;by_cases h4:12<x.2.2.1.length
 .rw[al (ao (by omega)),al h4];exact .some rfl
 rw[aj (by rw[ax];omega),aj h4];by_cases h5:12<x.2.2.2.1.length
 .rw[al (ao (by omega)),al h5];exact .some rfl
 rw[aj (by rw[ax];omega),aj h5,Wt];unfold JE;simp only[W_,au,av,reduceCtorEq]
 refine Wp.count (λs=>s) x.2.2.1.length (λi _=>∀j,j<i->Mz l x j=ae) (by omega) rfl (λj hj=>by omega) λi c hi hs hJ=>?_
 obtain rfl:c=_:=hs;simp only[W_,au,av,reduceCtorEq,bw,bf];refine⟨λaH=>?_,λhge=>?_⟩
 .have aH:i<x.2.2.1.length:=by omega
  have hf:=Ti l x i aH;simp only[aC aH,ma (ajT aH),rq l _ (x.2.2.1.take i) [] (cL _ (aiF aH)) (by rw[ai5];unfold maxLen;omega) (by simp),sP (k:=i) (a:=100) (by omega) (by omega),cK (m:=x.2.2.1.length) (by omega) aH,W_,au,av,reduceCtorEq];refine⟨λh=>?_,λh=>⟨aH,fB hJ (by rw[hf,aj (λg=>g h)])⟩⟩;rw[gH (hf.trans (al h)) hJ aH];rfl
 rw[cu.2 λj(hj:j<x.2.2.1.length)=>hJ j (by omega),Option.none_or];clear hJ
 refine Wp.count (λs=>s) x.2.2.2.1.length (λi _=>∀j,j<i->MA l x j=ae) (by omega) rfl (λj hj=>by omega) λi c hi hs hJ=>?_
 obtain rfl:c=_:=hs;simp only[W_,au,av,reduceCtorEq,bw,bf];refine⟨λaH=>?_,λhge=>?_⟩
 .have aH:i<x.2.2.2.1.length:=by omega
  have hf:=Tj l x i aH;simp only[aC aH,ma (ajT aH),rq l _ x.2.2.1 (x.2.2.2.1.take i) (hdf _ (aiF aH)) (by unfold maxLen;omega) (by rw[ai5];unfold maxLen;omega),sP (k:=i) (a:=200) (by omega) (by omega),cK (m:=x.2.2.2.1.length) (by omega) aH,W_,au,av,reduceCtorEq];refine⟨λh=>?_,λh=>⟨aH,fB hJ (by rw[hf,aj (λg=>g h)])⟩⟩;rw[gH (hf.trans (al h)) hJ aH];rfl
 rw[cu.2 λj(hj:j<x.2.2.2.1.length)=>hJ j (by omega),Option.none_or];clear hJ
 refine Wp.count (λs=>s) x.2.2.2.2.length (λi _=>∀j,j<i->FQ l x j=ae) (by omega) rfl (λj hj=>by omega) λi c hi hs hJ=>?_
 obtain rfl:c=_:=hs;simp only[W_,au,av,reduceCtorEq,bw,bf];refine⟨λaH=>?_,λhge=>?_⟩
 .have aH:i<x.2.2.2.2.length:=by omega
  have hf:FQ l x i=if uf l x i x.2.2.2.2[i]≠0 then aa (uf l x i x.2.2.2.2[i],300+(i:Int))else ae:=by
   unfold FQ;rw[aiE aH]
  have hr:M.jL aU x (i:Int) ((gp l x).1,((gp l x).2.1,((gp l x).2.2.1,((gp l x).2.2.2.1,((gp l x).2.2.2.2.1,(gp l x).2.2.2.2.2)))))=_:=AW l x sT tg hT i aH;simp only[hr,sP (k:=i) (a:=300) (by omega) (by omega),cK (m:=x.2.2.2.2.length) (by omega) aH,W_,au,av,reduceCtorEq];refine⟨λh=>?_,λh=>⟨aH,fB hJ (by rw[hf,aj (λg=>g h)])⟩⟩;rw[gH (hf.trans (al h)) hJ aH];rfl
 rw[cu.2 λj(hj:j<x.2.2.2.2.length)=>hJ j (by omega),Option.none_or];clear hJ
 refine Wp.count (λs=>s) x.2.2.2.1.length (λi _=>∀j,j<i->JG x j=ae) (by omega) rfl (λj hj=>by omega) λi c hi hs hJ=>?_
 obtain rfl:c=_:=hs;simp only[W_,au,av,reduceCtorEq,bw,bf];refine⟨λaH=>?_,λhge=>?_⟩
 .have aH:i<x.2.2.2.1.length:=by omega
  obtain⟨tr,e1,e2,e3⟩:=hC i aH
  have hf:JG x i=if(i:Int)∈Kz x i then aa (9,200+(i:Int))else ae:=rfl
  simp only[e1,FT tr _ (by unfold maxLen;omega),sP (k:=i) (a:=200) (by omega) (by omega),cK (m:=x.2.2.2.1.length) (by omega) aH,W_,au,av,reduceCtorEq];refine⟨λh=>?_,λh=>⟨aH,fB hJ (by rw[hf,aj (λg=>h (e3.2 g))])⟩⟩;rw[gH (hf.trans (al (e3.1 h))) hJ aH];rfl
 .rw[cu.2 λj(hj:j<x.2.2.2.1.length)=>hJ j (by omega)];rfl
theorem w9(l:Lw)(hw:WF cT l)(fO:fI l)(hT:∀x∈l.2.2,mq (gp l x))(hC:∀x∈l.2.2,JK x):M.jV aU l=aa (if 4<l.2.2.length then((4:Int),((3:Int),((4:Int),(0:Int))))else match dx (λk=>(vi l k).map λe=>(k,e)) l.2.2.length with
 |some (k,e)=>sO 3 (k:Int) (aa e)
 |none=>C8):=by
 have w1:=hw.2.2.1;unfold maxLen at w1;apply Wp.eq;unfold M.jV;simp only[W_,au,av,reduceCtorEq];refine⟨λh=>by grind,λh8=>?_⟩;rw[aj (by omega)]
 refine Wp.count (λs=>s) l.2.2.length (λi _=>∀j,j<i->(λk=>(vi l k).map λe=>(k,e)) j=ae) w1 rfl (λj hj=>by omega) λi c hi hs hJ=>?_
 obtain rfl:c=_:=hs;simp only[W_,au,av,reduceCtorEq,bw,bf];refine⟨λaH=>?_,λhge=>?_⟩
 .have aH:i<l.2.2.length:=by omega
  simp only[yj l hw fO i aH (hT _ (aiF aH)) (hC _ (aiF aH)),cK w1 aH,W_,au,av,reduceCtorEq];refine⟨λh=>?_,λh=>⟨aH,fB hJ ?_⟩⟩
  .cases he:vi l i with
   |none=>grind
   |some e=>rw[gH (Te he) hJ aH];rfl
  .cases he:vi l i with
   |none=>rfl
   |some e=>grind [Da]
 .rw[cu.2 λj hj=>hJ j (by omega)];rfl
def Dd(l:Lw)(hw:WF cT l)(fO:fI l)(hT:∀x∈l.2.2,mq (gp l x))(hC:∀x∈l.2.2,JK x):M.eZ aU l=aa (w4 l):=by
 have bad:∀(f:Nat->Option (Int×Int))(m:Nat)(sec:Int)(k:Nat)(e:Int×Int),(∀i e,f i=aa e->e.1≠0)->dx (λk=>(f k).map λe=>(k,e)) m=aa (k,e)->(!decide ((sO sec (k:Int) (aa e)).1=0))=af:=λf m sec k e hf he=>by
  obtain⟨j,_,hj,_⟩:=gM he;obtain⟨e',vA,h2⟩:=ajp.1 hj;cases h2;have:e.1≠0:=hf _ _ vA
  show(!decide (e.1=0))=af
  simp[this]
 unfold M.eZ w4;rw[yi l hw,aiA];by_cases h1:8<l.1.length
 .grind
 rw[aj h1,aj h1]
 cases hA:dx (λk=>(pq l k).map λe=>(k,e)) l.1.length with
 |some p=>
  obtain⟨k,e⟩:=p;dsimp only;rw[al (bad _ _ _ _ _ (λi e=>ug) hA)]
 |none=>
  dsimp only;rw[aj (by simp[C8]),w7 l hw,aiA];by_cases h2:8<l.2.1.length
  .grind
  rw[aj h2,aj h2]
  cases hB:dx (λk=>(ud l k).map λe=>(k,e)) l.2.1.length with
  |some p=>
   obtain⟨k,e⟩:=p;dsimp only;rw[al (bad _ _ _ _ _ (λi e=>C9) hB)]
  |none=>
   grind [C8,w9]
end L
namespace L
def MI(op:Int):M.gj aU op=aa (ar op):=by
 apply Wp.eq;unfold M.gj ar;simp only[W_,au,av,reduceCtorEq];omega
def MJ(op:Int):M.gP aU op=aa (decide ((1<=op/\op<=8)\/(14<=op/\op<=16)\/op=33\/op=34\/(36<=op/\op<=39))):=by
 apply Wp.eq;unfold M.gP;simp only[W_,au,av,reduceCtorEq];omega
def bN(k:Int):M.dC aU k=aa (decide (k=2\/k=3\/k=4)):=by
 apply Wp.eq;unfold M.dC;simp only[W_,au,av,reduceCtorEq];omega
def bh(k:Int):M.fx aU k=aa (decide (0<=k/\k<=5)):=by
 apply Wp.eq;unfold M.fx;simp only[W_,au,av,reduceCtorEq];omega
def bZ(m k:Int)(s:sa):M.cF aU m k s=aa (if El m (k,(0:Int)) s.1 then((k,(0:Int)),(0:Int))else(((0:Int),(0:Int)),(3:Int))):=by
 apply Wp.eq;unfold M.cF;simp only[AU,W_,au,av,reduceCtorEq]
 grind [El]
noncomputable def pN(n:Ty)(l:List Ty)(s:sa):Option (Ty×Int):=
 if(n.2:Int)≠0/\¬((1<=(n.1:Int)/\(n.1:Int)<=8)\/(14<=(n.1:Int)/\(n.1:Int)<=16)\/(n.1:Int)=33\/(n.1:Int)=34\/(36<=(n.1:Int)/\(n.1:Int)<=39))then aa (((0:Int),(0:Int)),2)else M.aY aU n l s
def rr(t:Ty):Prop:=1<=(t.1:Int)/\(t.1:Int)<=5->(t.2:Int)=0
theorem Tl(op m:Int)(a b:Ty)(s:sa)(h2:ar op=2)(ha:rr a)(_:rr b):pN (op,m) [a,b] s=M.bc aU (op,m) [a,b] s:=by
 have hr:=wX (op,m) s
 have hR:C7 op m s↔(14<=op/\op<=16->0<=m/\m<=5):=by
  unfold ar at h2;unfold C7;exact(by grind)
 have q7:op=11\/op=12\/op=13\/op=14\/op=15\/op=16\/op=17\/op=18\/op=19\/op=20\/op=21\/op=22\/op=23\/op=24\/op=27\/op=28\/op=29\/op=30:=by unfold ar at h2;omega
 obtain⟨(a1:Int),(a2:Int)⟩:=a;obtain⟨(b1:Int),(b2:Int)⟩:=b;simp only[rr]at ha
 rcases q7 with rfl|rfl|rfl|rfl|rfl|rfl|rfl|rfl|rfl|rfl|rfl|rfl|rfl|rfl|rfl|rfl|rfl|rfl
 all_goals
  unfold pN M.aY M.cB M.gA M.bc M.bC M.gS M.k9;simp[aO,aR,aN,bm,bN,bh,b9,hr,hR,idx,AQ]
  grind
def MK(op m:Int)(a b c:Ty)(s:sa)(h3:ar op=3):pN (op,m) [a,b,c] s=M.bc aU (op,m) [a,b,c] s:=by
 have q7:op=26:=by unfold ar at h3;omega
 subst q7;have hr:=wX ((26:Int),m) s
 have hR:C7 26 m s:=by unfold C7;omega
 obtain⟨(a1:Int),(a2:Int)⟩:=a;obtain⟨(b1:Int),(b2:Int)⟩:=b;obtain⟨(c1:Int),(c2:Int)⟩:=c;unfold pN M.aY M.cB M.bc M.bC;simp[aO,aR,aN,bm,bN,bh,b9,hr,hR,idx,AQ]
 grind
theorem Tm(op m:Int)(a:Ty)(s:sa)(hm:m<=9223372036854775807)(h1:ar op=1)(ha:rr a):pN (op,m) [a] s=M.bc aU (op,m) [a] s:=by
 have hr:=wX (op,m) s
 have hR:C7 op m s↔(op=34->0<=m/\ai3 m 8<=5):=by
  unfold ar at h1;unfold C7;exact⟨λh=>h.2.2.1,λh=>⟨λ_=>by omega,λ_=>by omega,h,λ_=>by omega⟩⟩
 have hd:0<=m->0<=aiB.wrap (aiR m 8):=λh=>Hk h hm (by omega)
 have ht:0<=m->0<=ai3 m 8:=λh=>Int.tmod_nonneg _ h
 have q7:op=10\/op=25\/op=31\/op=32\/op=33\/op=34:=by unfold ar at h1;omega
 obtain⟨(a1:Int),(a2:Int)⟩:=a;simp only[rr]at ha
 rcases q7 with rfl|rfl|rfl|rfl|rfl|rfl
 .unfold pN M.aY M.cB M.bc M.bC M.dv;simp[aO,aR,aN,bm,bN,bh,b9,hr,hR,idx,AQ]
  grind
 .unfold pN M.aY M.cB M.bc M.bC M.dv;simp[aO,aR,aN,bm,bN,bh,b9,hr,hR,idx,AQ]
  grind
 .unfold pN M.aY M.cB M.bc M.bC M.dv;simp[aO,aR,aN,bm,bN,bh,b9,hr,hR,idx,AQ]
  grind
 .unfold pN M.aY M.cB M.bc M.bC M.dv;simp[aO,aR,aN,bm,bN,bh,b9,hr,hR,idx,AQ]
  grind
 .have i0:idx [((a1,a2):Ty)] 0=aa (a1,a2):=rfl;unfold pN M.aY M.gz M.bc M.bC M.dv;by_cases h:0<=m/\m<(s.2.1.length:Int)
  .obtain⟨k,rfl⟩:=aiL h.1
   have hk:k<s.2.1.length:=by omega
   simp[aO,aR,aN,bm,b9,hr,hR,AQ,o7,bX,i0,aC hk,hk,show¬((s.2.1.length:Int)<=(k:Int)) by omega,show¬((k:Int)<0) by omega];generalize s.2.1[k]=t
   by_cases c1:lq t.2.1 s.1.length<;>by_cases c2:lq t.2.2.1 s.1.length<;>by_cases c3:((a1,a2):Ty)=t.2.1<;>simp[c1,c2,c3]
  .simp[aO,aR,aN,bm,b9,hr,hR,AQ,o7,bX,i0];by_cases OA:m<0
   .simp[OA,show¬0<=m by omega]
   .simp[OA,show 0<=m by omega,show(s.2.1.length:Int)<=m by omega,show¬m<(s.2.1.length:Int) by omega]
 .have i0:idx [((a1,a2):Ty)] 0=aa (a1,a2):=rfl;unfold pN M.aY M.gz M.bc M.bC M.dv;simp only[hr,hR];by_cases h:0<=m/\ai3 m 8<=5
  .have hd:=hd h.1;have ht:=ht h.1;generalize aiB.wrap (aiR m 8)=j at*;generalize ai3 m 8=q at*;by_cases h':j<(s.2.1.length:Int)
   .obtain⟨k,rfl⟩:=aiL hd
    have hk:k<s.2.1.length:=by omega
    simp[aO,aR,aN,bm,bh,b9,h,ht,AQ,o7,bX,i0,aC hk,hk,show¬(m<0) by omega,show¬((s.2.1.length:Int)<=(k:Int)) by omega,show¬((k:Int)<0) by omega];generalize s.2.1[k]=t;obtain⟨nm,⟨(k1:Int),(k2:Int)⟩,⟨(v1:Int),(v2:Int)⟩,rs⟩:=t;generalize s.1.length=ne;by_cases R:a1=3/\k1=3/\k2=0/\v1=4/\v2=0
    .obtain⟨rfl,rfl,rfl,rfl,rfl⟩:=R;obtain rfl:a2=0:=ha ⟨by decide,by decide⟩
     have v3:lq (((3:Int),(0:Int)):Ty) ne:=by simp[lq]
     have v4:lq (((4:Int),(0:Int)):Ty) ne:=by simp[lq]
     simp[v3,v4]
    .have hR2:(((if a1=3 then if((k1,k2):Int×Int)=(3,0)then aa (decide (((v1,v2):Int×Int)=(4,0)),a1,a2)else aa (ah,a1,a2)else aa (ah,a1,a2)):Option (Bool×Int×Int)))=aa (ah,a1,a2):=by
      by_cases q1:a1=3<;>by_cases q2:k1=3<;>by_cases q3:k2=0<;>by_cases q4:v1=4<;>by_cases q5:v2=0<;>simp[q1,q2,q3,q4,q5]<;>exact absurd ⟨q1,q2,q3,q4,q5⟩ R
     rw[hR2];by_cases c1:lq ((k1,k2):Ty) ne
     .by_cases c2:lq ((v1,v2):Ty) ne
      .by_cases e:((a1,a2):Ty)=(k1,k2)
       .injection e with e1 e2
        subst e1 e2;have XI:=c1;have U6:=c2;simp only[lq]at XI U6;dsimp only[aA,Row.den]at XI U6;by_cases f:a1=3
        .have g:¬v1=4:=λg=>R (by omega)
         subst f
         obtain rfl:a2=0:=by omega
         simp[c1,c2,g]
        .simp[c1,c2,f]
       .simp[c1,c2,e]
      .simp[c1,c2]
     .simp[c1]
   .simp[aO,aR,aN,bm,bh,b9,h,ht,AQ,o7,bX,i0,show¬(m<0) by omega,show(s.2.1.length:Int)<=j by omega,show¬j<0 by omega]
  .simp[aO,aR,aN,bm,bh,b9,AQ,o7,bX,i0];by_cases OA:m<0
   .simp[OA,show¬0<=m by omega]
   .have h5:5<ai3 m 8:=by omega
    simp[OA,h5,show¬ai3 m 8<=5 by omega]
def bp(m:Int)(ls:List Ty)(s:sa):M.dQ aU m ls s=if 0<=m/\m<(ls.length:Int)then(match ls[m.toNat]? with
 |some t=>if lq t s.1.length then aa (t,(0:Int))else aa (((0:Int),(0:Int)),(8:Int))
 |none=>ae)else aa (((0:Int),(0:Int)),(6:Int)):=by
 grind [M.dQ,aC,o7]
def zero_eq(op m:Int)(s:sa)(hm:m<=9223372036854775807)(h0:ar op=0):pN (op,m) [] s=M.bc aU (op,m) [] s:=by
 have hr:=wX (op,m) s
 have hR:C7 op m s↔(1<=op/\op<=5->El m (op,(0:Int)) s.1)/\(op=6->0<=m):=by
  unfold ar at h0;unfold C7;exact(by grind)
 have hd:0<=m->0<=aiB.wrap (aiR m 16):=λh=>Hk h hm (by omega)
 have q7:op=1\/op=2\/op=3\/op=4\/op=5\/op=6\/op=7\/op=8\/op=9\/op=35\/op=36\/op=37\/op=38\/op=39:=by unfold ar at h0;omega
 have v:∀k:Int,1<=k->k<=5->lq ((k,(0:Int)):Ty) s.1.length:=λk h1 h2=> .inl ⟨h1,h2,rfl⟩
 rcases q7 with rfl|rfl|rfl|rfl|rfl|rfl|rfl|rfl|rfl|rfl|rfl|rfl|rfl|rfl
 .unfold pN M.aY M.bB M.bR M.bc M.bC M.cq;have v:=v 1 (by decide) (by decide)
  by_cases h:El m ((1:Int),(0:Int)) s.1<;>simp[aO,aR,aN,bm,bN,bh,bZ,bp,b9,hr,hR,bX,h,v]
 .unfold pN M.aY M.bB M.bR M.bc M.bC M.cq;have v:=v 2 (by decide) (by decide)
  by_cases h:El m ((2:Int),(0:Int)) s.1<;>simp[aO,aR,aN,bm,bN,bh,bZ,bp,b9,hr,hR,bX,h,v]
 .unfold pN M.aY M.bB M.bR M.bc M.bC M.cq;have v:=v 3 (by decide) (by decide)
  by_cases h:El m ((3:Int),(0:Int)) s.1<;>simp[aO,aR,aN,bm,bN,bh,bZ,bp,b9,hr,hR,bX,h,v]
 .unfold pN M.aY M.bB M.bR M.bc M.bC M.cq;have v:=v 4 (by decide) (by decide)
  by_cases h:El m ((4:Int),(0:Int)) s.1<;>simp[aO,aR,aN,bm,bN,bh,bZ,bp,b9,hr,hR,bX,h,v]
 .unfold pN M.aY M.bB M.bR M.bc M.bC M.cq;have v:=v 5 (by decide) (by decide)
  by_cases h:El m ((5:Int),(0:Int)) s.1<;>simp[aO,aR,aN,bm,bN,bh,bZ,bp,b9,hr,hR,bX,h,v]
 .unfold pN M.aY M.bB M.bR M.bc M.bC M.cq;by_cases h:m<0
  .simp[aO,aR,aN,bm,bN,bh,bZ,bp,b9,hr,hR,bX,h]
  .have hd:=hd (by omega)
   have h':0<=m:=by omega
   generalize aiB.wrap (aiR m 16)=j at*;generalize ai3 m 16=q at*;by_cases hj:j<(s.1.length:Int)
   .obtain⟨k,rfl⟩:=aiL hd
    have hk:k<s.1.length:=by omega
    have v6:lq (((6:Int),(k:Int)):Ty) s.1.length:= .inr (by grind);by_cases hq:q<(s.1[k].2.length:Int)
    .simp[aO,aR,aN,bm,bN,bh,bZ,bp,b9,hr,hR,bX,h,h',hk,aC hk,v6,hq,show¬(s.1.length:Int)<=(k:Int) by omega,show¬(s.1[k].2.length:Int)<=q by omega]
    .simp[aO,aR,aN,bm,bN,bh,bZ,bp,b9,hr,hR,bX,h,h',hk,aC hk,v6,hq,show¬(s.1.length:Int)<=(k:Int) by omega,show(s.1[k].2.length:Int)<=q by omega]
   .simp[aO,aR,aN,bm,bN,bh,bZ,bp,b9,hr,hR,bX,h,h',hj,show(s.1.length:Int)<=j by omega]
 .unfold pN M.aY M.bB M.bR M.bc M.bC M.cq;by_cases h:0<=m/\m<(s.2.2.1.length:Int)
  .obtain⟨k,rfl⟩:=aiL h.1
   have hk:k<s.2.2.1.length:=by omega
   by_cases hv:lq s.2.2.1[k] s.1.length<;>simp[aO,aR,aN,bm,bN,bh,bZ,bp,b9,hr,hR,bX,hk,aC hk,hv]
  .by_cases h0:0<=m
   .have h1:¬m<(s.2.2.1.length:Int):=λg=>h ⟨h0,g⟩
    simp[aO,aR,aN,bm,bN,bh,bZ,bp,b9,hr,hR,bX,h0,h1]
   .simp[aO,aR,aN,bm,bN,bh,bZ,bp,b9,hr,hR,bX,h0]
 .unfold pN M.aY M.bB M.bR M.bc M.bC M.cq;by_cases h:0<=m/\m<(s.2.2.2.1.length:Int)
  .obtain⟨k,rfl⟩:=aiL h.1
   have hk:k<s.2.2.2.1.length:=by omega
   by_cases hv:lq s.2.2.2.1[k] s.1.length<;>simp[aO,aR,aN,bm,bN,bh,bZ,bp,b9,hr,hR,bX,hk,aC hk,hv]
  .by_cases h0:0<=m
   .have h1:¬m<(s.2.2.2.1.length:Int):=λg=>h ⟨h0,g⟩
    simp[aO,aR,aN,bm,bN,bh,bZ,bp,b9,hr,hR,bX,h0,h1]
   .simp[aO,aR,aN,bm,bN,bh,bZ,bp,b9,hr,hR,bX,h0]
 .unfold pN M.aY M.bB M.bR M.bc M.bC M.cq;have v:=v 5 (by decide) (by decide);by_cases h:m=0
  .subst h;simp[aO,aR,aN,bm,bN,bh,bZ,bp,b9,hr,hR,bX,v]
  grind [aO]
 .unfold pN M.aY M.bB M.bR M.bc M.bC M.cq;have v:=v 2 (by decide) (by decide);by_cases h:m=0
  .subst h;cases hs:s.2.2.2.2.2<;>simp[aO,aR,aN,bm,bN,bh,bZ,bp,b9,hr,hR,bX,v,hs]
  grind [aO]
 .unfold pN M.aY M.bB M.bR M.bc M.bC M.cq;cases hs:s.2.2.2.2.2
  .simp[aO,aR,aN,bm,bN,bh,bZ,bp,b9,hr,hR,bX,hs]
  by_cases h:0<=m/\m<(s.2.2.2.2.1.length:Int)
  .obtain⟨k,rfl⟩:=aiL h.1
   have hk:k<s.2.2.2.2.1.length:=by omega
   by_cases hv:lq s.2.2.2.2.1[k] s.1.length
   .simp[aO,aR,aN,bm,bN,bh,bZ,bp,b9,hr,hR,bX,hk,aC hk,hv,hs]
    grind
   .simp[aO,aR,aN,bm,bN,bh,bZ,bp,b9,hr,hR,bX,hk,aC hk,hv,hs]
  .by_cases h0:0<=m
   .have h1:¬m<(s.2.2.2.2.1.length:Int):=λg=>h ⟨h0,g⟩
    simp[aO,aR,aN,bm,bN,bh,bZ,bp,b9,hr,hR,bX,h0,h1,hs]
   .simp[aO,aR,aN,bm,bN,bh,bZ,bp,b9,hr,hR,bX,h0,hs]
 .unfold pN M.aY M.bB M.bR M.bc M.bC M.cq;cases hs:s.2.2.2.2.2
  .simp[aO,aR,aN,bm,bN,bh,bZ,bp,b9,hr,hR,bX,hs]
  by_cases h:0<=m/\m<(s.2.2.2.2.1.length:Int)
  .obtain⟨k,rfl⟩:=aiL h.1
   have hk:k<s.2.2.2.2.1.length:=by omega
   by_cases hv:lq s.2.2.2.2.1[k] s.1.length
   .simp[aO,aR,aN,bm,bN,bh,bZ,bp,b9,hr,hR,bX,hk,aC hk,hv,hs]
    grind
   .simp[aO,aR,aN,bm,bN,bh,bZ,bp,b9,hr,hR,bX,hk,aC hk,hv,hs]
  .by_cases h0:0<=m
   .have h1:¬m<(s.2.2.2.2.1.length:Int):=λg=>h ⟨h0,g⟩
    simp[aO,aR,aN,bm,bN,bh,bZ,bp,b9,hr,hR,bX,h0,h1,hs]
   .simp[aO,aR,aN,bm,bN,bh,bZ,bp,b9,hr,hR,bX,h0,hs]
 .unfold pN M.aY M.bB M.bR M.bc M.bC M.cq;cases hs:s.2.2.2.2.2
  .simp[aO,aR,aN,bm,bN,bh,bZ,bp,b9,hr,hR,bX,hs]
  by_cases h:0<=m/\m<(s.2.2.2.2.1.length:Int)
  .obtain⟨k,rfl⟩:=aiL h.1
   have hk:k<s.2.2.2.2.1.length:=by omega
   by_cases hv:lq s.2.2.2.2.1[k] s.1.length
   .simp[aO,aR,aN,bm,bN,bh,bZ,bp,b9,hr,hR,bX,hk,aC hk,hv,hs]
    grind
   .simp[aO,aR,aN,bm,bN,bh,bZ,bp,b9,hr,hR,bX,hk,aC hk,hv,hs]
  .by_cases h0:0<=m
   .have h1:¬m<(s.2.2.2.2.1.length:Int):=λg=>h ⟨h0,g⟩
    simp[aO,aR,aN,bm,bN,bh,bZ,bp,b9,hr,hR,bX,h0,h1,hs]
   .simp[aO,aR,aN,bm,bN,bh,bZ,bp,b9,hr,hR,bX,h0,hs]
 .unfold pN M.aY M.bB M.bR M.bc M.bC M.cq;cases hs:s.2.2.2.2.2
  .simp[aO,aR,aN,bm,bN,bh,bZ,bp,b9,hr,hR,bX,hs]
  by_cases h:0<=m/\m<(s.2.2.2.2.1.length:Int)
  .obtain⟨k,rfl⟩:=aiL h.1
   have hk:k<s.2.2.2.2.1.length:=by omega
   by_cases hv:lq s.2.2.2.2.1[k] s.1.length
   .simp[aO,aR,aN,bm,bN,bh,bZ,bp,b9,hr,hR,bX,hk,aC hk,hv,hs];generalize s.2.2.2.2.1[k]=t at*
    grind
   .simp[aO,aR,aN,bm,bN,bh,bZ,bp,b9,hr,hR,bX,hk,aC hk,hv,hs]
  .by_cases h0:0<=m
   .have h1:¬m<(s.2.2.2.2.1.length:Int):=λg=>h ⟨h0,g⟩
    simp[aO,aR,aN,bm,bN,bh,bZ,bp,b9,hr,hR,bX,h0,h1,hs]
   .simp[aO,aR,aN,bm,bN,bh,bZ,bp,b9,hr,hR,bX,h0,hs]
def Wu(n:Ty)(l:List Ty)(s:sa)(hw:WF az n)(hl:(l.length:Int)=ar n.1)(hN:∀t∈l,rr t):pN n l s=aa (Mu n l s):=by
 rw[<-Mv hw hl];obtain⟨(op:Int),(m:Int)⟩:=n;have hm:m<=9223372036854775807:=hw.2.2;have h3:=p8 op;dsimp only at hl
 match l,hl with
 |[],hl=>exact zero_eq op m s hm hl.symm
 |[a],hl=>grind [Tm]
 |[a,b],hl=>grind [Tl]
 |[a,b,c],hl=>exact MK op m a b c s hl.symm
 |a::b::c::d::l,hl=>grind
def lq.nrm{t:Ty}{n:Nat}(h:lq t n):rr t:=λh'=>by
 obtain⟨(k:Int),(e:Int)⟩:=t
 rcases h with h|h
 all_goals grind
def Pc{α:Type}(m:Option α)(Q:α->Prop):Prop:=∀r,m=aa r->Q r
theorem jA{α:Type}{x:α}{Q:α->Prop}:Pc (aa x) Q↔Q x:=⟨λh=>h x rfl,λh r e=>by grind⟩
theorem fX{α β:Type}{m:Option α}{k:α->Option β}{Q:β->Prop}:Pc (m.bind k) Q↔Pc m λx=>Pc (k x) Q:=by
 constructor
 .intro h x hx r hr;exact h r (by grind)
 .intro h r hr;obtain⟨x,hx,hr⟩:=Option.bind_eq_some_iff.1 hr;exact h x hx r hr
def mr{α:Type}{c:Prop}[Decidable c]{a b:Option α}{Q:α->Prop}:Pc (if c then a else b) Q↔(c->Pc a Q)/\(¬c->Pc b Q):=by
 grind
theorem Pc.of{α:Type}{m:Option α}{Q:α->Prop}(h:∀x,Q x):Pc m Q:=λx _=>h x
theorem rr.kind(k:Int):rr ((k,(0:Int)):Ty):=λ_=>rfl
theorem ML(n:Ty)(s:sa):Pc (M.cq aU n s) λr=>r.2=af->rr r.1:=by
 have ho:∀k,M.ij aU k=aa (decide (k=2\/k=3\/k=4\/k=5)):=aN;unfold M.cq;rw[fX]
 refine Pc.of λj=>?_
 simp only[bX,ho,aiA];by_cases hv:lq j s.1.length
 .simp only[fX,mr,jA];simp[hv.nrm]
 .simp[hv,fX,mr,jA]
theorem FV(n a:Ty)(s:sa)(ha:rr a):Pc (M.dv aU n a s) λr=>r.2=af->rr r.1:=by
 unfold M.dv;simp only[bm,aR,bX,aiA,fX,mr,jA];refine⟨λ_ _=>ha,λ_=>⟨λ_ _=>ha,λ_=>?_⟩⟩
 have h33:Pc (idx s.2.1 n.2) λx=>(decide (lq x.2.1 s.1.length)=af->(decide (lq x.2.2.1 s.1.length)=af->lA az a x.2.1=af->rr x.2.2.1)/\(¬decide (lq x.2.2.1 s.1.length)=af->ah=af->rr x.2.2.1))/\(¬decide (lq x.2.1 s.1.length)=af->ah=af->rr x.2.2.1):=Pc.of λx=>⟨λ_=>⟨λh _=>(an h:lq x.2.2.1 s.1.length).nrm,λ_ h=>(by cases h)⟩,λ_ h=>(by cases h)⟩
 have JJ:Pc (idx s.2.1 (aiB.wrap (aiR n.2 8))) λx=>(decide ((a.1:Int)=3)=af->(lA az x.2.1 ((3:Int),(0:Int))=af->lA az x.2.2.1 ((4:Int),(0:Int))=af->rr a)/\(¬lA az x.2.1 ((3:Int),(0:Int))=af->ah=af->rr a))/\(¬decide ((a.1:Int)=3)=af->ah=af->rr a):=Pc.of (by grind)
 grind [rr.kind]
theorem FW(op:Int)(a b:Ty)(ha:rr a):Pc (M.gS aU op a b) λr=>r.2=af->rr r.1:=by
 have hk:∀k:Int,rr ((k,(0:Int)):Ty):=rr.kind;unfold M.gS M.k9;simp only[bm,aR,aN,aiA,fX,mr,jA];simp[ha,hk]
def PJ(n:Ty)(l:List Ty)(s:sa)(hw:WF az n)(hl:(l.length:Int)=ar n.1)(hN:∀t∈l,rr t)(h0:(Mu n l s).2=0):rr (Mu n l s).1:=by
 have xO:∀i,Pc (idx l i) rr:=λi x hx=>by
  grind [idx]
 have key:Pc (M.bc aU n l s) λr=>r.2=0->rr r.1:=by
  unfold M.bc;rw[fX]
  refine Pc.of λj1=>?_
  rw[mr];refine⟨λ_=>jA.2 λh=>(by cases h),λ_=>?_⟩;rw[fX]
  refine Pc.of λy3=>?_
  rw[mr];refine⟨λ_=>jA.2 λh=>(by cases h),λ_=>?_⟩;rw[fX]
  refine Pc.of λy4=>?_
  rw[mr];refine⟨λ_=>jA.2 λh=>(by cases h),λ_=>?_⟩;rw[fX]
  have fin:∀{m:Option (Bool×Ty)},Pc m (λj=>j.1=af->rr j.2)->Pc m λj5=>Pc (if(!j5.1)=af then aa (((0:Int),(0:Int)),(8:Int))else aa (j5.2,(0:Int))) λr:Ty×Int=>r.2=0->rr r.1:=λ{m}h j hj=>by
   have:=h j hj;refine mr.2 ⟨λ_=>jA.2 λh=>(by cases h),λh=>jA.2 λ_=>this (by simpa using h)⟩
  refine fin ?_;rw[mr];refine⟨λ_=>?_,λ_=>?_⟩
  .grind [fX,jA,ML]
  rw[mr];refine⟨λ_=>?_,λ_=>?_⟩
  .rw[fX]
   refine λa ha=>fX.2 ?_
   grind [jA,FV]
  rw[mr];refine⟨λ_=>?_,λ_=>?_⟩
  .rw[fX]
   refine λa ha=>fX.2 λb _=>fX.2 ?_
   grind [jA,FW]
  .rw[fX]
   refine λa ha=>?_
   have ha:=xO _ a ha;simp only[fX,mr,jA]
   grind [Pc.of]
 exact key _ (Mv hw hl) h0
def AX(st:List Nat)(m:Nat)(v:Nat):bg (eX st++aiG (m+1) (0:Int)) (st.length:Int) (v:Int)=eX (st++[v])++aiG m (0:Int):=by
 grind [bg]
def uj(st:List Nat)(m:Nat)(u v:Nat):bg (eX (st++[u])++aiG m (0:Int)) (st.length:Int) (v:Int)=eX (st++[v])++aiG m (0:Int):=by
 unfold bg
 simp_all
def FX(e:List Ty):M.fm aU e=aa (q8 e):=by
 apply Wp.eq;unfold M.fm q8
 refine Wp.dec (λh=> .some ?_) λh1=>?_
 .grind
 rw[aj (show¬48<e.length by omega)]
 refine Wp.dec (λh=> .some ?_) λh2=>?_
 .grind
 rw[aj (show¬e.length=0 by omega)]
 have Pp:nu (e.length:Int) (0:Int)=aa (aiG e.length 0):=by
  unfold nu;rw[al (by omega),aiI]
 rw[Pp];simp only[aiA];refine Wp.join (Wp.loop (λs:Int×List Int×List Int=>∃st sk:List Nat,s=((st.length:Int),eX st++aiG (e.length-st.length) 0,eX sk)/\st.length<=e.length/\sk.length<=12/\kq (e.drop st.length) st.length st sk=kq e 0 [] []) (λs=>(e.length-s.1).toNat) ⟨[],[],by simp,by simp,by simp,by simp⟩ (by simp only;unfold aU;omega) ?_)
 rintro _ ⟨st,sk,rfl,iq,hsk,bD⟩
 simp only
 refine Wp.dec (λhk=>?_) λhk=> .some ?_
 case refine_2=>
  have hd:e.drop st.length=[]:=List.drop_of_length_le (by omega);rw[hd]at bD;rw[<-bD]
  have h0:e.length-st.length=0:=by omega
  rw[h0];simp only[kq,List.replicate_zero,List.append_nil]
  show Wp _ _
  refine Wp.dec (λh=> .some ?_) λh=> .some ?_
  all_goals grind
 have kG:st.length<e.length:=by omega
 have hd:e.drop st.length=e[st.length]::e.drop (st.length+1):=aiN kG
 obtain⟨m,hm⟩:∃m,e.length-st.length=m+1:=⟨e.length-st.length-1,by omega⟩
 rw[hd]at bD;rw[aC kG,hm];simp only[aiA,MI];generalize q7:(e[st.length].1:Int)=op;rw[kq]at bD;rw[q7]at bD;have Uo:=p8 op
 refine Wp.dec (λh=> .some ?_) λJM=>?_
 .rw[al h]at bD
  show _=_
  rw[<-bD]
 rw[aj JM]at bD
 refine Wp.dec (λh=> .some ?_) λhlen=>?_
 .rw[al (by simpa using h)]at bD
  show _=_
  rw[<-bD]
 have hlen:¬(sk.length:Int)<ar op:=by simpa using hlen
 rw[aj hlen]at bD
 obtain⟨a,ha⟩:∃a:Nat,ar op=a:=⟨(ar op).toNat,by omega⟩
 rw[ha]at bD JM hlen Uo⊢
 have abo:a<=sk.length:=by omega
 have e6:idx (eX st++aiG (m+1) (0:Int)) (st.length:Int)=aa 0:=by
  rw[aC (by simp)];rw[ajm (by simp)];simp
 rw[e6]
 have hw:aiB.wrap (((eX sk).length:Int)-(a:Int))=((sk.length-a:Nat):Int):=by
  rw[ajn,bH (by omega) (by omega)];omega
 have hs:p9 (a:Int) st.length sk=(if a=0 then st.length else sk.getD (sk.length-a) 0):=by
  unfold p9;by_cases h0:a=0
  .subst h0;simp
  .grind
 simp only[aiA,AX,hw];refine Wp.seq (· =eX (st++[p9 (a:Int) st.length sk])++aiG m (0:Int)) ?_ ?_
 .refine Wp.dec (λh=>?_) λh=>?_
  .have aH:sk.length-a<(eX sk).length:=by simp;omega
   rw[aC aH]
   have e9:idx (eX (st++[st.length])++aiG m (0:Int)) (st.length:Int)=aa (st.length:Int):=by
    rw[aC (by simp)];rw[ajq (by simp)];simp
   simp only[aiA,e9,List.getElem_map,uj];refine .some ?_
   grind
  .refine .some ?_
   grind
 .rintro _ rfl
  generalize p9 (a:Int) st.length sk=s at bD⊢
  have Eu:gI (eX sk) (0:Int) ((sk.length-a:Nat):Int)=aa (eX (sk.take (sk.length-a))):=by
   rw[oB (by simp)];simp
  have e11:idx (eX (st++[s])++aiG m (0:Int)) (st.length:Int)=aa (s:Int):=by
   rw[aC (by simp)];rw[ajq (by simp)];simp
  have Tn:cz (eX (sk.take (sk.length-a))) [(s:Int)]=aa (eX (sk.take (sk.length-a)++[s])):=by
   rw[eJ (by simp;omega)];simp
  rw[Eu];simp only[aiA,e11,Tn]
  have hl:(eX (sk.take (sk.length-a)++[s])).length=sk.length-a+1:=by simp
  rw[hl];rw[aiI]at bD
  refine Wp.dec (λh=> .some ?_) λh=> .some ?_
  .rw[al (by omega)]at bD
   show _=_
   rw[<-bD]
  .rw[aj (by omega)]at bD;rw[aQ (by omega)];refine⟨⟨st++[s],sk.take (sk.length-a)++[s],?_,by simp;omega,by simp;omega,?_⟩,by grind⟩
   all_goals grind
def mq.all(s:sa):mq s:=λe hw=>by
 apply Wp.eq;unfold M.gL;simp only[FX,MI,MJ,W_,au,av,reduceCtorEq];refine⟨λh=>by unfold JB;rw[al h],λh0=>?_⟩;obtain⟨h48,dA,c9,Ol,Tf⟩:=PD h0
 have hT:JB e s=match rp s e 0 []with
  | .inl (i,c)=>(((0:Int),(0:Int)),(i:Int),c)
  | .inr mg=>(mg.headD ((0:Int),(0:Int)),0,0):=by unfold JB;rw[aj (by omega)]<;>cases rp s e 0 []<;>rfl
 refine Wp.count (λs=>s.1) e.length (λk q=>∃st sk,q.2.length=sk.length/\kq e 0 [] []=kq (e.drop k) k st sk/\rp s e 0 []=rp s (e.drop k) k q.2/\q.2.length<=k/\(0<k->q.2≠[])/\∀t∈q.2,rr t) (by omega) rfl (by grind) λk q hk hs hJ=>?_
 obtain⟨i,mg⟩:=q;obtain⟨st,sk,hl,hr,ht,RV,pw,abq⟩:=hJ;dsimp only at hs hl ht RV pw abq;subst hs;simp only[W_,au,av,reduceCtorEq,bw,bf];refine⟨λaH=>?_,λhge=>?_⟩
 .have aH:k<e.length:=by omega
  rw[aiN aH,kq]at hr;rw[aiN aH,rp]at ht;rw[Tf]at hr;have ha3:=p8 e[k].1;split at hr
  .cases hr
  split at hr
  .cases hr
  split at hr
  .cases hr
  rename_i ha0 ha1 ha2
  have w1:aiB.wrap ((mg.length:Int)-ar e[k].1)=((mg.length-(ar e[k].1).toNat:Nat):Int):=by rw[bH (by omega) (by omega)];omega
  have hd:((mg.drop (mg.length-(ar e[k].1).toNat)).length:Int)=ar e[k].1:=by rw[List.length_drop];omega
  have hwk:=hw _ (aiF aH)
  have XQ:∀t∈mg.drop (mg.length-(ar e[k].1).toNat),rr t:=(by grind)
  have hp:=Wu e[k] _ s hwk hd XQ;have BG:=PJ e[k] _ s hwk hd XQ
  have bad:∀c:Int,c≠0->(Mu e[k] (mg.drop (mg.length-(ar e[k].1).toNat)) s).2=c->(((0:Int),(0:Int)),(k:Int),c)=JB e s:=(by grind)
  have rest:¬((e[k].2:Int)≠0/\¬((1<=(e[k].1:Int)/\(e[k].1:Int)<=8)\/(14<=(e[k].1:Int)/\(e[k].1:Int)<=16)\/(e[k].1:Int)=33\/(e[k].1:Int)=34\/(36<=(e[k].1:Int)/\(e[k].1:Int)<=39)))->M.aY aU e[k] (mg.drop (mg.length-(ar e[k].1).toNat)) s=aa (Mu e[k] (mg.drop (mg.length-(ar e[k].1).toNat)) s):=λh=>by
   rw[<-hp];exact(aj h).symm
  have cond:((e[k].2:Int)≠0/\¬((1<=(e[k].1:Int)/\(e[k].1:Int)<=8)\/(14<=(e[k].1:Int)/\(e[k].1:Int)<=16)\/(e[k].1:Int)=33\/(e[k].1:Int)=34\/(36<=(e[k].1:Int)/\(e[k].1:Int)<=39)))->(Mu e[k] (mg.drop (mg.length-(ar e[k].1).toNat)) s).2=2:=λh=>by
   have:aa (Mu e[k] (mg.drop (mg.length-(ar e[k].1).toNat)) s)=aa (((0:Int),(0:Int)),(2:Int)):=by
    rw[<-hp];exact al h
   grind
  have good:¬((e[k].2:Int)≠0/\¬((1<=(e[k].1:Int)/\(e[k].1:Int)<=8)\/(14<=(e[k].1:Int)/\(e[k].1:Int)<=16)\/(e[k].1:Int)=33\/(e[k].1:Int)=34\/(36<=(e[k].1:Int)/\(e[k].1:Int)<=39)))->Wp (M.aY aU e[k] (mg.drop (mg.length-(ar e[k].1).toNat)) s) λy9=>(¬(y9.2:Int)=0->(((0:Int),(0:Int)),(k:Int),y9.2)=JB e s)/\((y9.2:Int)=0->Wp (cz (mg.take (mg.length-(ar e[k].1).toNat)) [y9.1]) λx=>k<e.length/\aiB.wrap ((k:Int)+1)=((k+1:Nat):Int)/\∃st sk,x.length=sk.length/\kq e 0 [] []=kq (e.drop (k+1)) (k+1) st sk/\rp s e 0 []=rp s (e.drop (k+1)) (k+1) x/\x.length<=k+1/\(0<k+1->x≠[])/\∀t∈x,rr t):=λh=>by
   rw[rest h];refine .some ⟨λhc=>bad _ hc rfl,λhc=>?_⟩;rw[aj (λg=>g hc)]at ht;refine p7.2 ⟨by grind,aH,cK (m:=e.length) (by omega) aH,_,_,?_,Tf.trans hr,ht,?_,λ_=>by simp,λt h=>?_⟩
   .grind
   all_goals grind
  simp only[aC aH,w1,oB (show mg.length-(ar e[k].1).toNat<=mg.length by omega),vL (l:=mg) (mg.length-(ar e[k].1).toNat) mg.length rfl rfl (by omega) (aiH _),List.take_length,W_,au,av,reduceCtorEq];exact⟨λh1=>⟨λh2=>bad 2 (by decide) (cond ⟨h1,h2⟩),λh2=>good λg=>g.2 h2⟩,λh1=>good λg=>g.1 h1⟩
 .obtain rfl:k=e.length:=by omega
  rw[List.drop_length,rp]at ht;rw[hT,ht];have:mg≠[]:=pw (List.length_pos_iff.2 dA);obtain⟨a,l,rfl⟩:=List.exists_cons_of_ne_nil this;exact fH.2 ⟨by simp,rfl⟩
end L
namespace L
inductive KB(D:Int->Int->Prop):Int->Int->Prop
 |one {a b:Int} (h:D a b):KB D a b
 |step {a b c:Int} (h:KB D a b) (g:D b c):KB D a c
def Dp(s:fY)(a b:Int):Prop:=b∈nV s a
def xc{y:Int}:∀{l out:List Int},y∈l.foldl (λo z=>ins z o) out↔y∈l\/y∈out
 |[],_=>by simp
 |x::l,out=>by
  rw[List.foldl_cons,xc (l:=l),nJ,ai7]
  grind
def oD(s:fY){out:List Int}{y:Int}:y∈stepT s out↔y∈out\/∃x∈out,Dp s x y:=by
 unfold stepT
 suffices∀(l o:List Int),y∈l.foldl (λo x=>(nV s x).foldl (λo y=>ins y o) o) o↔y∈o\/∃x∈l,Dp s x y from this _ _
 intro l
 induction l with
 |nil=>intro o;simp
 |cons x l ih=>
  intro o;rw[List.foldl_cons,ih,xc];unfold Dp
  grind
def qd(s:fY)(d:Int):∀n y,y∈lu s n (nV s d)->KB (Dp s) d y
 |0,y,h=> .one h
 |n+1,y,h=>by
  rcases(oD s).1 h with h|⟨x,hx,h⟩
  .exact qd s d n y h
  .exact .step (qd s d n x hx) h
def JN{l m:List Int}(hl:l.Pairwise (· < ·))(hm:m.Pairwise (· < ·))(h:∀y,y∈l↔y∈m):l=m:=by
 induction l generalizing m with
 |nil=>
  cases m with
  |nil=>rfl
  |cons y m=>exact absurd ((h y).2 (by simp)) (by simp)
 |cons x l ih=>
  cases m with
  |nil=>grind
  |cons y m=>
   obtain⟨h1,h2⟩:=aiT.1 hl;obtain⟨g1,g2⟩:=aiT.1 hm
   have e:x=y:=by
    rcases ai7.1 ((h x).1 (by simp))with e|e
    .exact e
    .rcases ai7.1 ((h y).2 (by simp))with e'|e'
     all_goals grind
   grind
def uk{l:List Int}:∀{m:List Int},l.Nodup->(∀y,y∈l->y∈m)->l.length<=m.length:=by
 induction l with
 |nil=>grind
 |cons x l ih=>
  intro m hn h;obtain⟨h1,h2⟩:=List.nodup_cons.1 hn;have hx:=h x (by simp)
  have:=ih (m:=m.erase x) h2 λy hy=>(List.mem_erase_of_ne (λe:y=x=>h1 (by rw[<-e];exact hy))).2 (h y (by simp[hy]))
  rw[List.length_erase_of_mem hx]at this;have:=List.length_pos_of_mem hx;simp only[List.length_cons];omega
def Hl{l m:List Int}(hl:l.Pairwise (· < ·))(_:m.Pairwise (· < ·))(h:∀y,y∈l->y∈m)(hx:∃y,y∈m/\y∉l):l.length<m.length:=by
 have nd:l.Nodup:=hl.imp λh=>by omega
 obtain⟨y,hy,hn⟩:=hx;have nd2:(y::l).Nodup:=List.nodup_cons.2 ⟨hn,nd⟩;have:(y::l).length<=m.length:=uk nd2 (by grind)
 grind
def AY(s:fY)(d:Int):(∀n,n<=s.2.2.2.1.length->(stepT s (lu s n (nV s d))=lu s n (nV s d)\/n<=(lu s n (nV s d)).length)):=by
 have srt:∀m,uc s.2.2.2.1.length (lu s m (nV s d)):=λm=>by
  induction m with
  |zero=>exact nf s d
  |succ m ih=>exact qR s ih
 intro n
 induction n with
 |zero=>grind
 |succ n ih=>
  intro hn
  rcases ih (by omega)with h|h
  .grind [lu]
  .by_cases hx:∃y,y∈stepT s (lu s n (nV s d))/\y∉lu s n (nV s d)
   .right
    have:=Hl (srt n).1 (qR s (srt n)).1 (λy hy=>(oD s).2 (.inl hy)) hx
    grind [lu]
   .left
    have:stepT s (lu s n (nV s d))=lu s n (nV s d):=JN (qR s (srt n)).1 (srt n).1 λy=>⟨(by grind),λh=>(oD s).2 (.inl h)⟩
    grind [lu]
theorem Hm(s:fY)(d y:Int):y∈Kz s d↔KB (Dp s) d y:=by
 refine⟨λh=>qd s d _ y h,λh=>?_⟩
 have closed:∀x z,x∈Kz s d->Dp s x z->z∈Kz s d:=by
  intro x z hx hz
  rcases AY s d s.2.2.2.1.length (aiH _)with h|h
  .have:z∈stepT s (lu s s.2.2.2.1.length (nV s d)):=(oD s).2 (.inr ⟨x,hx,hz⟩);rw[h]at this;exact this
  .have hs:=PF s d;have UB:=(nf s x).2 z hz
   refine Classical.not_not.1 λhn=>?_
   have:=Hl (l:=Kz s d) (m:=ins z (Kz s d)) hs.1 (FP hs.1) (λy hy=>nJ.2 (.inr hy)) ⟨z,nJ.2 (.inl rfl),hn⟩;have:=(hs.ins UB).len
   grind [Kz]
 have start:∀z,Dp s d z->z∈Kz s d:=by
  intro z hz
  show z∈lu s s.2.2.2.1.length (nV s d)
  have:∀n,z∈lu s n (nV s d):=λn=>by
   induction n with
   |zero=>exact hz
   |succ n ih=>exact(oD s).2 (.inl ih)
  exact this _
 induction h<;>grind
def De(d:Array Int)(y:Int):∀m,y∈Go.Lib.compactUpTo d m↔∃j,j<m/\d[j]! =y
 |0=>by simp[Go.Lib.compactUpTo]
 |m+1=>by
  rw[Go.Lib.compactUpTo_succ,aiX,De d y m];constructor
  .grind
  .rintro⟨j,hj,h⟩
   rcases Nat.lt_succ_iff_lt_or_eq.1 hj with h1|rfl
   .grind
   .by_cases hk:Go.Lib.keeps d j=af
    .grind
    .left
     unfold Go.Lib.keeps at hk
     grind
theorem Df(l:List Int)(y:Int):y∈aju l↔y∈l:=by
 unfold aju;rw[De];constructor
 .grind
 .intro h;obtain⟨j,hj,rfl⟩:=aiV h;exact⟨j,hj,by simp[hj]⟩
def zr(l:List Int)(hl:l.length<=1000000):Wp ((M.dJ aU l).bind λy1=>(M.cW aU y1).bind λy2=>aa y2) λr=>r.length<=l.length/\∀y,y∈r↔y∈l:=by
 have e1:M.dJ aU l=aa (rm l):=by
  unfold M.dJ CY;rw[al (by omega)]
 have hs:(rm l).length=l.length:=List.length_mergeSort ..
 have e2:M.cW aU (rm l)=aa (aju (rm l)):=by
  unfold M.cW pV;rw[al (by omega)]
 rw[e1,aiA,e2];refine .some ⟨?_,λy=>?_⟩
 all_goals grind [wS,rm,Df,List.mem_mergeSort]
def qe(l:List Int)(hl:l.length<=1000000):Wp (M.gB aU l) λr=>r.length<=l.length/\∀y,y∈r↔y∈l:=zr l hl
def AZ(l:List Int)(hl:l.length<=1000000):Wp (M.iE aU l) λr=>r.length<=l.length/\∀y,y∈r↔y∈l:=zr l hl
def JO(e:List Ty)(y:Int):Prop:=∃n∈e,(n.1:Int)=8/\(n.2:Int)=y
theorem FY(p:Int->Bool)(e:List Ty)(y:Int):y∈o6 p e↔∃n∈e,p n.1=af/\(n.2:Int)=y:=by
 unfold o6
 suffices∀(e:List Ty)(l:List Int),y∈e.foldl (λl n=>if p n.1=af then ins n.2 l else l) l↔y∈l\/∃n∈e,p n.1=af/\(n.2:Int)=y by grind
 intro e
 induction e with
 |nil=>intro l;simp
 |cons n e ih=>
  grind [nJ]
theorem Dg(e:List Ty)(y:Int):y∈o6 uP e↔JO e y:=by
 grind [FY,JO,uP]
def ru(e:List Ty)(he:e.length<=100000):Wp (M.ic aU e) λr=>r.2.1.length<=e.length/\∀y,y∈r.2.1↔JO e y:=by
 unfold M.ic;rw[wp_bind]
 refine Wp.count (λs=>s.1) e.length (λk s=>(s.2.1.length<=k/\s.2.2.1.length<=k/\s.2.2.2.length<=k)/\∀y,y∈s.2.2.1↔∃j,∃h:j<e.length,j<k/\(e[j].1:Int)=8/\(e[j].2:Int)=y) (by omega) rfl ⟨by simp,λy=>by simp⟩ λk s hk hs hJ=>?_
 obtain⟨i,a,b,c⟩:=s;obtain⟨⟨l1,l2,l3⟩,hm⟩:=hJ;dsimp only at hs l1 l2 l3 hm;subst hs;simp only[W_,au,av,reduceCtorEq,bw,bf];refine⟨λaH=>?_,λhge=>?_⟩
 .have aH:k<e.length:=by omega
  have nxt:∀b':List Int,(∀y,y∈b'↔y∈b\/((e[k].1:Int)=8/\(e[k].2:Int)=y))->∀y,y∈b'↔∃j,∃h:j<e.length,j<k+1/\(e[j].1:Int)=8/\(e[j].2:Int)=y:=(by grind)
  have same:(e[k].1:Int)≠8->∀y,y∈b↔∃j,∃h:j<e.length,j<k+1/\(e[j].1:Int)=8/\(e[j].2:Int)=y:=(by grind)
  simp only[aC aH,cK (m:=e.length) (by omega) aH,W_,au,av,reduceCtorEq]
  have ub:∀(q:List Int)(v:Int)(Q:List Int->Prop),q.length<=k->Q (q++[v])->Wp (cz q [v]) Q:=λq v Q hq h=>p7.2 ⟨by simp;omega,h⟩
  grind
 .refine(qe a (by omega)).mono λ_ _=>?_
  refine(qe b (by omega)).mono λr hr=>?_
  refine(qe c (by omega)).mono λ_ _=>?_
  grind [JO,aiV]
def FZ(r:fZ)(n:Nat)(y:Int):Prop:=(JO r.2.2.2.2.2.1 y\/JO r.2.2.2.2.2.2.1 y)/\0<=y/\y<(n:Int)
def Hn(l o:List Int)(n:Nat)(hl:l.length<=100000)(ho:o.length<=100000):Wp (Loop (S:=Int×List Int) (X:=List Int) (λs4=>
 (if(decide (s4.1<(l.length:Int)))=af then
 ((idx l s4.1).bind λx6=>
 ((if(decide ((0:Int)<=x6))=af then
 some (decide (x6<(n:Int)))
 else
 some ah):Option (Bool)).bind λj7=>
 (if j7=af then
 (cz s4.2 ([x6]:List Int)).bind λl8=>
 some l8
 else
 some s4.2):Option (List Int)).bind λj5=>
 some (Sum.inl (aiB.wrap (s4.1+(1:Int)),j5))
 else
 some (ajy s4.2))) aU ((0:Int),o)) λr=>r.length<=o.length+l.length/\∀y,y∈r↔y∈o\/(y∈l/\0<=y/\y<(n:Int)):=by
 refine Wp.count (λs=>s.1) l.length (λk s=>s.2.length<=o.length+k/\∀y,y∈s.2↔y∈o\/((∃j,∃h:j<l.length,j<k/\l[j]=y)/\0<=y/\y<(n:Int))) (by omega) rfl ⟨by simp,λy=>by simp⟩ λk s hk hs hJ=>?_
 obtain⟨i,q⟩:=s;obtain⟨h1,hm⟩:=hJ;dsimp only at hs h1 hm;subst hs;simp only[W_,au,av,reduceCtorEq,bw,bf];refine⟨λaH=>?_,λhge=>?_⟩
 .have aH:k<l.length:=by omega
  simp only[aC aH,cK (m:=l.length) (by omega) aH,W_,au,av,reduceCtorEq]
  grind [p7]
 .refine⟨by omega,λy=>?_⟩;rw[hm];refine or_congr Iff.rfl (and_congr_left λhy=>⟨(by grind),λh=>?_⟩)
  grind [aiV]
def JP(r:fZ)(n:Nat)(h1:r.2.2.2.2.2.1.length<=50)(h2:r.2.2.2.2.2.2.1.length<=50):Wp (M.fy aU r (n:Int)) λl=>l.length<=100/\∀y,y∈l↔FZ r n y:=by
 unfold M.fy;rw[wp_bind]
 refine(ru _ (by omega)).mono λa ha=>?_
 rw[wp_bind]
 refine(ru _ (by omega)).mono λb hb=>?_
 rw[wp_bind]
 refine(Hn a.2.1 [] n (by omega) (by simp)).mono λc hc=>?_
 have Mg:=hc.1;simp only[List.length_nil]at Mg
 refine(Hn b.2.1 c n (by omega) (by omega)).mono λq hq=>⟨by omega,λy=>?_⟩
 grind [FZ]
theorem zt(n:Nat)(y:Int):∀(l out:List Int),y∈oC n out l↔y∈out\/(y∈l/\0<=y/\y<(n:Int))
 |[],out=>by show y∈out↔_;simp
 |x::l,out=>by
  show y∈oC n (if 0<=x/\x<(n:Int)then ins x out else out) l↔_
  rw[zt n y l]
  grind [nJ]
def MM(s:fY)(d y:Int):Dp s d y↔(0<=d/\d<(s.2.2.2.1.length:Int))/\∃r∈s.2.2.2.2,(r.2.1:Int)=d/\FZ r s.2.2.2.1.length y:=by
 unfold Dp nV;split
 .rename_i hd
  suffices∀(rs:List fZ)(out:List Int),y∈rs.foldl (λout r=>if(r.2.1:Int)=d then oC s.2.2.2.1.length (oC s.2.2.2.1.length out (o6 uP r.2.2.2.2.2.1)) (o6 uP r.2.2.2.2.2.2.1)else out) out↔y∈out\/∃r∈rs,(r.2.1:Int)=d/\FZ r s.2.2.2.1.length y by
   grind
  intro rs
  induction rs with
  |nil=>intro out;simp
  |cons r rs ih=>
   intro out;rw[List.foldl_cons,ih]
   grind [zt,Dg,FZ]
 grind
def To(s:fY)(L:List (List Int)):Prop:=L.length=s.2.2.2.1.length/\∀d,∀h:d<L.length,L[d].length<=6000/\∀y,y∈L[d]↔Dp s (d:Int) y
theorem sU(s:fY)(hs:nW s):Wp (M.jh aU s) (To s):=by
 have yk:=hs.2.2.1;have Q7:=hs.2.2.2.1;have XR:=hs.2.2.2.2.2.2;unfold M.jh;rw[wp_bind];refine nc.2 ⟨by omega,?_⟩;rw[wp_bind,aiI]
 refine Wp.count (λs=>s.1) s.2.2.2.2.length (λk q=>q.2.length=s.2.2.2.1.length/\∀d,∀h:d<q.2.length,q.2[d].length<=100*k/\∀y,y∈q.2[d]↔∃j,∃h:j<s.2.2.2.2.length,j<k/\(s.2.2.2.2[j].2.1:Int)=(d:Int)/\FZ s.2.2.2.2[j] s.2.2.2.1.length y) (by omega) rfl ⟨by simp,λd h=>by simp⟩ λk q hk Em hJ=>?_
 obtain⟨i,q⟩:=q;obtain⟨hl,hm⟩:=hJ;dsimp only at Em hl hm;subst Em;simp only[W_,au,av,reduceCtorEq,bw,bf];refine⟨λaH=>?_,λhge=>?_⟩
 .have aH:k<s.2.2.2.2.length:=by omega
  have hrk:=XR _ (aiF aH);simp only[aC aH,cK (m:=s.2.2.2.2.length) (by omega) aH,hl,W_,au,av,reduceCtorEq]
  have Io:∀d,∀h:d<q.length,(¬(s.2.2.2.2[k].2.1:Int)=(d:Int))->q[d].length<=100*(k+1)/\∀y,y∈q[d]↔∃j,∃h:j<s.2.2.2.2.length,j<k+1/\(s.2.2.2.2[j].2.1:Int)=(d:Int)/\FZ s.2.2.2.2[j] s.2.2.2.1.length y:=(by grind)
  have dfo:=JP s.2.2.2.2[k] s.2.2.2.1.length hrk.2.2.1 hrk.2.2.2
  obtain⟨(v:Int),hv⟩:∃v:Int,v=s.2.2.2.2[k].2.1:=⟨_,rfl⟩
  simp only[<-hv]at Io⊢;refine⟨λh0=>⟨λh1=>?_,λh1=>⟨aH,λd h=>Io d (by omega) λe=>h1 (e▸Int.ofNat_lt.2 h)⟩⟩,λh0=>⟨aH,λd h=>Io d (by omega) (by grind)⟩⟩;obtain⟨c,rfl⟩:=aiL h0
  have hc:c<q.length:=by rw[hl];exact Int.ofNat_lt.1 h1
  simp only[aC hc,W_,au,av,reduceCtorEq]
  refine dfo.mono λl9 h9=>p7.2 ⟨by grind,?_⟩
  refine⟨aH,by rw[iU];exact hl,λd h=>?_⟩
  have hd:d<q.length:=by rw[iU]at h;exact h
  rw[vC h hd]
  by_cases e:(c:Int)=(d:Int)
  .rw[al e]
   have e:c=d:=by omega
   subst e;refine⟨by grind,λy=>?_⟩;rw[aiX,(hm c hd).2,h9.2];constructor
   .rintro(⟨j,h1,h2,h3⟩|h3)
    .grind
    grind
   grind
  .rw[aj e];exact Io d hd e
 obtain rfl:k=s.2.2.2.2.length:=by omega
 have Zc:∀d,∀h:d<q.length,q[d].length<=6000/\∀y,y∈q[d]↔Dp s (d:Int) y:=λd h=>⟨by grind,λy=>by
  rw[(hm d h).2,MM];constructor
  .grind
  grind [aiV]⟩
 refine Wp.count (λs=>s.1) q.length (λk z=>z.2.length=q.length/\∀d,∀h:d<z.2.length,z.2[d].length<=6000/\∀y,y∈z.2[d]↔Dp s (d:Int) y) (by omega) rfl ⟨rfl,Zc⟩ λk z hk Em hJ=>?_
 obtain⟨i,z⟩:=z;obtain⟨zl,zm⟩:=hJ;dsimp only at Em zl zm;subst Em;simp only[W_,au,av,reduceCtorEq,bw,bf];refine⟨λaH=>?_,λhge=>⟨by grind,zm⟩⟩
 have aH:k<q.length:=by omega
 have hkz:k<z.length:=by omega
 simp only[aC hkz,cK (m:=q.length) (by omega) aH,W_,au,av,reduceCtorEq]
 refine(AZ z[k] (by grind)).mono λr hr=>⟨aH,by rw[iU];exact zl,λd h=>?_⟩
 have hd:d<z.length:=by rw[iU]at h;exact h
 rw[vC h hd]
 by_cases e:(k:Int)=(d:Int)
 .grind
 grind
def Sn(seen:List Bool)(y:Int):Prop:=0<=y/\seen[y.toNat]? =aa af
def Tp{seen:List Bool}{x:Int}(hx:0<=x/\x.toNat<seen.length)(y:Int):Sn (bg seen x af) y↔y=x\/Sn seen y:=by
 grind [Sn,bg]
structure RI(D:Int->Int->Prop)(d0:Int)(n:Nat)(ex:Int->Prop)(seen:List Bool)(q:List Int):Prop where
 len:seen.length=n
 qo:∀x∈q,0<=x/\x<(n:Int)/\(x=d0\/Sn seen x)
 snd:∀y,Sn seen y->KB D d0 y
 clo:∀x,(x=d0\/Sn seen x)->x∈q\/ex x\/∀y,D x y->Sn seen y
 bud:q.length+seen.count ah<=n+1
def F5(s:fY)(L:List (List Int))(hL:To s L)(d:Nat)(hd:d<s.2.2.2.1.length)(yk:s.2.2.2.1.length<=14):Wp (M.mG aU L (d:Int)) λr=>r.length<=1000/\∀y,y∈r↔KB (Dp s) (d:Int) y:=by
 obtain⟨hl,hL⟩:=hL
 have hD:∀a b,Dp s a b->0<=b/\b<(s.2.2.2.1.length:Int):=λa b h=>(nf s a).2 b h
 generalize s.2.2.2.1.length=n at*;unfold M.mG;rw[wp_bind];refine nc.2 ⟨by omega,?_⟩;rw[wp_bind,aiI,hl]
 refine Wp.loop (λq=>RI (Dp s) (d:Int) n (λ_=>False) q.1 q.2) (λq=>2*q.1.count ah+q.2.length) ?_ ?_ λq hq=>?_
 .refine⟨by simp,λx hx=>?_,λy hy=>?_,λx hx=>?_,by simp;omega⟩
  .grind
  .exfalso;have:=hy.2
   grind
  .rcases hx with rfl|hx
   .grind
   .exfalso;have:=hx.2
    grind
 .grind [aU]
 obtain⟨seen,q⟩:=q;dsimp only at hq;dsimp only
 have hcn:∀l:List Bool,l.count ah<=l.length:=λl=>List.count_le_length
 refine Wp.dec (λh0=>?_) λh0=>?_
 .have UM:0<q.length:=by omega
  obtain⟨x,t,rfl⟩:=List.exists_cons_of_ne_nil (List.length_pos_iff.1 UM);have hx:=hq.qo x (by simp);obtain⟨c,rfl⟩:=aiL hx.1
  have hc:c<L.length:=by omega
  have i0:idx ((c:Int)::t) (0:Int)=aa (c:Int):=rfl
  have Eu:gI ((c:Int)::t) (1:Int) (((c:Int)::t).length:Int)=aa t:=by
   apply Wp.eq;refine wp_cut.2 ⟨by simp;omega,?_⟩;rw[aiI,List.take_length];rfl
  rw[i0,aiA,Eu,aiA,aC hc,aiA]
  have QJ:∀y,Dp s (c:Int) y->KB (Dp s) (d:Int) y:=λy h=>by
   rcases hx.2.2 with e|e
   .exact .one (e▸h)
   .exact .step (hq.snd _ e) h
  have Wv:=(hL c hc).2;have RA:=(hL c hc).1;have Q9:=hq.bud;simp only[List.length_cons]at Q9;generalize L[c]=l at*
  refine Wp.count (λs=>s.1) l.length (λk z=>RI (Dp s) (d:Int) n (λy=>y=(c:Int)) z.2.1 z.2.2/\(∀j,j<k->∀h:j<l.length,Sn z.2.1 l[j])/\2*z.2.1.count ah+z.2.2.length<=2*seen.count ah+t.length) (by omega) rfl ⟨⟨hq.len,λx hx=>hq.qo x (by simp[hx]),hq.snd,λx hx=>?_,by grind⟩,λj hj=>by omega,aiH _⟩ λk z hk Em hJ=>?_
  .rcases hq.clo x hx with h|h|h
   all_goals grind
  obtain⟨i,sn,qu⟩:=z;obtain⟨hR,hP,hB⟩:=hJ;dsimp only at Em hR hP hB;subst Em;simp only[W_,au,av,reduceCtorEq,bw,bf];refine⟨λaH=>?_,λhge=>?_⟩
  .have aH:k<l.length:=by omega
   have hy:Dp s (c:Int) l[k]:=(Wv _).1 (aiF aH);have hyr:=hD _ _ hy;simp only[aC aH,cK (m:=l.length) (by omega) aH,W_,au,av,reduceCtorEq]
   obtain⟨y,XH⟩:∃y,y=l[k]:=⟨_,rfl⟩
   simp only[<-XH]at hy hyr⊢
   have hyl:y.toNat<sn.length:=by rw[hR.len];omega
   refine fH.2 ⟨by rw[hR.len];omega,λhf=>fH.2 ⟨by grind,p7.2 ⟨?_,aH,?_⟩⟩,λht=>⟨aH,hR,fB hP λ_=>?_,hB⟩⟩
   .grind
   .have um:=Tp (seen:=sn) (x:=y) ⟨hyr.1,hyl⟩
    have PI:(bg sn y af).count ah+1=sn.count ah:=by
     unfold bg;rw[List.count_set hyl]
     have h1:0<sn.count ah:=(by grind)
     simp[hf];omega
    refine⟨⟨by unfold bg;simp[hR.len],λx hx=>?_,λz hz=>?_,λx hx=>?_,?_⟩,fB (λj hj h=>?_) λh=>?_,?_⟩
    .rcases aiX.1 hx with hx|hx
     .obtain⟨a1,a2,a3⟩:=hR.qo x hx
      grind
     grind
    .rcases(um z).1 hz with rfl|hz
     .exact QJ _ hy
     .exact hR.snd z hz
    .have go:x=(d:Int)\/Sn sn x->x∈qu++[y]\/x=(c:Int)\/∀z,Dp s x z->Sn (bg sn y af) z:=λg=>by
      rcases hR.clo x g with h|h|h
      all_goals grind
     grind
    .have:=hR.bud;simp;omega
    all_goals grind
   .rw[<-XH];exact⟨hyr.1,by grind⟩
  .obtain rfl:k=l.length:=by omega
   show zi _ _ _ _ (.inl _)
   refine⟨⟨hR.len,hR.qo,hR.snd,λx hx=>?_,hR.bud⟩,?_⟩
   .rcases hR.clo x hx with h|h|h
    all_goals grind [aiV]
   grind
 .have UM:q=[]:=by
   cases q with
   |nil=>rfl
   |cons x t=>simp at h0
  subst UM;refine .some ?_
  show Wp _ _
  have Ud:∀y,Sn seen y↔KB (Dp s) (d:Int) y:=λy=>⟨hq.snd y,λh=>by
   have cl:∀x,(x=(d:Int)\/Sn seen x)->∀z,Dp s x z->Sn seen z:=λx hx=>by
    rcases hq.clo x hx with h|h|h
    all_goals grind
   induction h<;>grind⟩
  have gW:=hq.len
  refine Wp.count (λs=>s.1) seen.length (λk z=>z.2.length<=k/\∀y,y∈z.2↔Sn seen y/\y<(k:Int)) (by omega) rfl ⟨by simp,λy=>⟨λh=>(by cases h),λh=>(by have:=h.1.1;grind)⟩⟩ λk z hk Em hJ=>?_
  obtain⟨i,o⟩:=z;obtain⟨hJ1,hJ⟩:=hJ;dsimp only at Em hJ1 hJ;subst Em;simp only[W_,au,av,reduceCtorEq,bw,bf];refine⟨λaH=>?_,λhge=>⟨by omega,λy=>?_⟩⟩
  .have aH:k<seen.length:=by omega
   have QG:Sn seen (k:Int)↔seen[k]=af:=by
    unfold Sn;rw[aiI,aiE aH];simp
   simp only[aC aH,cK (m:=seen.length) (by omega) aH,W_,au,av,reduceCtorEq]
   grind [p7]
  .rw[hJ,<-Ud];refine⟨λh=>h.1,λh=>⟨h,?_⟩⟩;have:=(aiP.1 h.2).1
   grind
def JK.all(x:fY)(hs:nW x):JK x:=λd hd=>by
 have key:Wp (M.ie aU x (d:Int)) λtr=>tr.length<=1000/\∀y,y∈tr↔KB (Dp x) (d:Int) y:=by
  unfold M.ie;rw[aj (by simp),aiA,aj (by simp;omega),wp_bind]
  refine(sU x hs).mono λL hL=>?_
  rw[wp_bind]
  exact(F5 x L hL d hd hs.2.2.1).mono λr hr=> .some hr
 obtain⟨tr,e,h1,h2⟩:=key
 grind [Hm]
def mJ(l:Lw)(hw:WF cT l)(fO:fI l):M.eZ aU l=aa (w4 l):=
 Dd l hw fO (λ_ _=>mq.all _) λx hx=>JK.all x (fO.2.2.2.2.2 x hx)
end L
namespace L
def gr(a b:Nat):Nat:=a ^^^(a&&& b)
theorem dg(a b i:Nat):(gr a b).testBit i=(a.testBit i&& !b.testBit i):=by
 grind [gr]
def zu{a:Nat}(h:a<9223372036854775808):(ajk 64 (a:Int)).toNat=a:=by
 grind
theorem wrap_i64{x:Nat}(h:x<9223372036854775808):aiB.wrap (x:Int)=(x:Int):=wT (by omega)
theorem F6{a b:Nat}(ha:a<9223372036854775808)(hb:b<9223372036854775808):aJ .and .i64 (a:Int) (b:Int)=((a&&& b:Nat):Int):=by
 show aiB.wrap ((ajk 64 (a:Int)&&& ajk 64 (b:Int)).toNat:Int)=_
 grind [wrap_i64,Nat.and_le_left]
def Ww{a b:Nat}(ha:a<9223372036854775808)(hb:b<9223372036854775808):aJ .xor .i64 (a:Int) (b:Int)=((a ^^^ b:Nat):Int):=by
 show aiB.wrap ((ajk 64 (a:Int)^^^ ajk 64 (b:Int)).toNat:Int)=_
 have h:a ^^^ b<2 ^ 63:=Nat.xor_lt_two_pow (by omega) (by omega)
 grind [wrap_i64]
def JQ{a b:Nat}(ha:a<9223372036854775808)(hb:b<9223372036854775808):aJ .andNot .i64 (a:Int) (b:Int)=((gr a b:Nat):Int):=by
 show aiB.wrap ((ajk 64 (a:Int)&&& ~~~ajk 64 (b:Int)).toNat:Int)=_
 have h:(ajk 64 (a:Int)&&& ~~~ajk 64 (b:Int)).toNat=gr a b:=by
  apply ajJ;intro i;rw[dg,BitVec.testBit_toNat,BitVec.getLsbD_and,BitVec.getLsbD_not,<-BitVec.testBit_toNat,<-BitVec.testBit_toNat,zu ha,zu hb];by_cases hi:i<64
  .simp[hi]
  .have:a.testBit i=ah:=Nat.testBit_lt_two_pow (ai1 ha (by have:=Nat.pow_le_pow_right (n:=2) (by omega) (show 63<=i by omega);omega));simp[hi,this]
 have hl:gr a b<=a:=by
  apply Nat.le_of_testBit;intro i;rw[dg]
  cases a.testBit i<;>simp
 rw[h,wrap_i64 (by omega)]
def F7(a b:Nat):gr a b<=a:=by
 apply Nat.le_of_testBit
 grind [dg]
noncomputable def lc(a:Int):Int:=(M.iA 0 (aiD.wrap a)).getD 0
def A0(N:Nat)(a:Int):M.cZ N (aiD.wrap a)=aa (lc a):=by
 unfold M.cZ lc;rfl
def Tq(a b:Int):Int:=if a<b then-1 else if b<a then 1 else 0
def rT(N:Nat)(a b:Int):M.cmp_Compare_int N a b=aa (Tq a b):=by
 grind [M.cmp_Compare_int,M.cmp_isNaN_int,Tq]
def or_eq(a b c:Int):M.oV aU [a,b,c]=aa (if a≠0 then a else if b≠0 then b else c):=by
 unfold M.oV;refine Wp.eq ?_
 refine Wp.count (λs=>s) 3 (λk _=>(1<=k->a=0)/\(2<=k->b=0)/\(3<=k->c=0)) (by omega) rfl ⟨by omega,by omega,by omega⟩ λk s hk hs hJ=>?_
 subst hs
 match k,hk with
 |0,_=>
  refine .dec (λ_=> .bind (.idx 0 rfl (show 0<3 by omega) ?_)) (by grind);refine .iM (λh=> .some ?_) (λh=> .some ?_)
  .show a=_
   grind
  .exact⟨by omega,by decide,λ_=>h,by omega,by omega⟩
 |1,_=>
  refine .dec (λ_=> .bind (.idx 1 rfl (show 1<3 by omega) ?_)) (by grind);have h0:=hJ.1 (by omega);refine .iM (λh=> .some ?_) (λh=> .some ?_)
  .show b=_
   grind
  .exact⟨by omega,by decide,λ_=>h0,λ_=>h,by omega⟩
 |2,_=>
  refine .dec (λ_=> .bind (.idx 2 rfl (show 2<3 by omega) ?_)) (by grind);have h0:=hJ.1 (by omega);have h1:=hJ.2.1 (by omega);refine .iM (λh=> .some ?_) (λh=> .some ?_)
  .show c=_
   grind
  .exact⟨by omega,by decide,λ_=>h0,λ_=>h1,λ_=>h⟩
 |3,_=>
  have h0:=hJ.1 (by omega);have h1:=hJ.2.1 (by omega);have h2:=hJ.2.2 (by omega);refine .dec (λh=>absurd h (by simp)) (λ_=> .some ?_)
  show(0:Int)=_
  grind
def Tt(a b c d:Int)(f g:Int):Int:=if f<g then-1 else if g<f then 1 else if a<c then-1 else if c<a then 1 else if b<d then-1 else if d<b then 1 else 0
theorem cmp_eq(a b c d:Int):M.de aU (a,b) (c,d)=aa (Tt a b c d (lc a) (lc c)):=by
 unfold M.de;rw[A0,aiA,A0,aiA,rT,aiA,rT,aiA,rT,aiA,or_eq,aiA]
 grind [Tq,Tt]
def sc(x y:Int×Int):Prop:=lc x.1<lc y.1\/lc x.1=lc y.1/\(x.1<y.1\/x.1=y.1/\x.2<y.2)
def A3(x y:Int×Int):ajd (pC λa b c d=>M.de aU (a,b) (c,d)) x y=af↔sc x y:=by
 unfold ajd pC
 grind [cmp_eq,Tt,sc]
theorem rU(x y:Int×Int):ajd (pC λa b c d=>M.de aU (a,b) (c,d)) x y=ah↔¬sc x y:=by
 rw[<-A3];simp
def Wx:Mh λa b c d=>M.de aU (a,b) (c,d) where
 all a b c d:=⟨_,cmp_eq a b c d⟩
 swo:=⟨λx=>by rw[rU];unfold sc;omega,λx y z h1 h2=>by rw[A3]at*;unfold sc at*;omega,λx y z h1 h2=>by rw[rU]at*;unfold sc at*;omega⟩
 tot x y h1 h2:=by
  grind [rU,sc]
end L
namespace L
def gU{x m b:Nat}:x&&& m=b↔∀i,(x.testBit i&&m.testBit i)=b.testBit i:=by
 constructor
 .grind
 .intro h;apply ajJ;grind
theorem iI{b m:Nat}:b&&& m=b↔∀i,b.testBit i=af->m.testBit i=af:=by
 rw[gU]
 grind
def vM(j i:Nat):(2 ^ j).testBit i=decide (j=i):=Nat.testBit_two_pow
theorem A4{m n:Nat}(h:m<2 ^ n){i:Nat}(hi:m.testBit i=af):i<n:=by
 refine Classical.byContradiction λg=>?_
 grind [Nat.testBit_lt_two_pow,ai1,Nat.pow_le_pow_right]
def qf(n:Nat)(S:Nat->Prop)(m b:Nat):Prop:=m<2 ^ n/\b&&& m=b/\∀x,x<2 ^ n->x&&& m=b->S x
def qf.lt{n:Nat}{S:Nat->Prop}{m b:Nat}(h:qf n S m b):b<2 ^ n:=Nat.lt_of_le_of_lt (by rw[<-h.2.1];exact Nat.and_le_right) h.1
def qf.merge{n:Nat}{S:Nat->Prop}{m b j:Nat}(h:qf n S m b)(g:qf n S m (b ^^^ 2 ^ j))(_hj:m.testBit j=af):qf n S (gr m (2 ^ j)) (gr b (2 ^ j)):=by
 refine⟨Nat.lt_of_le_of_lt (F7 _ _) h.1,?_,λx hx hm=>?_⟩
 .rw[iI];intro i;rw[dg,dg];have:=iI.1 h.2.1 i
  grind
 .have hm:=gU.1 hm;by_cases OE:x.testBit j=b.testBit j
  .refine h.2.2 x hx (gU.2 λi=>?_)
   grind [dg]
  .refine g.2.2 x hx (gU.2 λi=>?_)
   grind [dg]
def qf.wider{n:Nat}{S:Nat->Prop}{m b j:Nat}(h:qf n S m b)(hj:m.testBit j=ah)(hn:j<n):qf n S (m|||2 ^ j) b/\qf n S (m|||2 ^ j) (b ^^^ 2 ^ j):=by
 have aH:m|||2 ^ j<2 ^ n:=Nat.or_lt_two_pow h.1 (Nat.pow_lt_pow_right (by omega) hn)
 have hb:b.testBit j=ah:=by
  cases e:b.testBit j with
  |false=>rfl
  |true=>rw[iI.1 h.2.1 j e]at hj;cases hj
 refine⟨⟨aH,?_,λx hx hm=>h.2.2 x hx (gU.2 λi=>?_)⟩,⟨aH,?_,λx hx hm=>h.2.2 x hx (gU.2 λi=>?_)⟩⟩
 .rw[iI];intro i hi;rw[Nat.testBit_or,iI.1 h.2.1 i hi];rfl
 .grind
 .rw[iI];intro i hi;rw[Nat.testBit_xor,vM]at hi;rw[Nat.testBit_or,vM];by_cases e:j=i
  .simp[e]
  .have:b.testBit i=af:=by simpa[e]using hi
   rw[iI.1 h.2.1 i this];rfl
 .have:=gU.1 hm i
  grind
def Tu{m j:Nat}(h:m.testBit j=ah):gr (m|||2 ^ j) (2 ^ j)=m:=by
 apply ajJ;grind [dg]
def xd{b j:Nat}(h:b.testBit j=ah):gr b (2 ^ j)=b:=by
 apply ajJ;grind [dg]
def PK(b j:Nat):gr (b ^^^ 2 ^ j) (2 ^ j)=gr b (2 ^ j):=by
 apply ajJ;grind [dg]
def PL(b j:Nat):b ^^^ 2 ^ j ^^^ 2 ^ j=b:=by grind
def F8{n:Nat}{S:Nat->Prop}{In:Nat->Nat->Prop}(h0:∀x,x<2 ^ n->S x->In (2 ^ n-1) x)
 (hc:∀m b j,j<n->m.testBit j=af->In m b->In m (b ^^^ 2 ^ j)->In (gr m (2 ^ j)) (gr b (2 ^ j))):∀k m b,2 ^ n-m=k->qf n S m b->In m b:=by
 intro k
 induction k using Nat.strongRecOn with
 |_ k ih=>
  intro m b hk h;by_cases hf:∃j,j<n/\m.testBit j=ah
  .obtain⟨j,hj,hm⟩:=hf;obtain⟨h1,h2⟩:=h.wider hm hj
   have hgt:m<m|||2 ^ j:=by
    refine Nat.lt_of_le_of_ne Nat.left_le_or λe=>?_
    have:(m|||2 ^ j).testBit j=af:=by rw[Nat.testBit_or,vM];simp
    rw[<-e,hm]at this;cases this
   have aH:=h1.1;have:=hc (m|||2 ^ j) b j hj (by grind) (ih _ (by omega) _ _ rfl h1) (ih _ (by omega) _ _ rfl h2)
   have hb:b.testBit j=ah:=by
    cases e:b.testBit j with
    |false=>rfl
    |true=>rw[iI.1 h.2.1 j e]at hm;cases hm
   rwa [Tu hm,xd hb]at this
  .have hm:m=2 ^ n-1:=by
    apply ajJ;intro i;rw[Nat.testBit_two_pow_sub_one];by_cases hi:i<n
    .grind
    .cases e:m.testBit i with
     |true=>exact absurd (A4 h.1 e) hi
     |false=>simp[hi]
   subst hm;exact h0 b h.lt (h.2.2 b h.lt h.2.1)
def qf.full{n:Nat}{S:Nat->Prop}{x:Nat}(hx:x<2 ^ n)(hS:S x):qf n S (2 ^ n-1) x:=by
 have hp:0<2 ^ n:=Nat.two_pow_pos n;refine⟨by omega,?_,λy hy he=>?_⟩
 all_goals grind [iI,A4]
end L
namespace L
abbrev PS:Type:=List (az.den×Bool)
def In(l:PS)(p:Int×Int):Prop:=(bV az l p).getD ah=af
def A5(a b:Int×Int):Prop:=a.1<b.1\/a.1=b.1/\a.2<b.2
structure lf(l:PS):Prop where
 tr:∀e∈l,e.2=af
 srt:l.Pairwise λe f=>A5 e.1 f.1
def A5.trans{a b c:Int×Int}(h:A5 a b)(g:A5 b c):A5 a c:=by unfold A5 at*;omega
theorem A5.total{a b:Int×Int}(h:¬A5 a b)(g:b≠a):A5 b a:=by
 grind [A5]
theorem lI(a b:Int×Int):eT az a b=af↔a=b:=by
 show decide ((a.1:Int)=b.1/\(a.2:Int)=b.2)=af↔_
 grind
theorem mb(a b:Int×Int):eT az a b=ah↔a≠b:=by grind [lI]
def zv(a b:Int×Int):Lv az a b=af↔A5 a b:=by
 show decide ((a.1:Int)<b.1\/((a.1:Int)=b.1/\(a.2:Int)<b.2))=af↔_
 rw[ax];rfl
def lg:{l:PS}->{p:Int×Int}->(∀e∈l,e.2=af)->(In l p↔(p,af)∈l)
 |[],p,_=>by simp[In,bV]
 |q::l,p,h=>by
  have ih:=lg (l:=l) (p:=p) λe he=>h e (List.mem_cons_of_mem _ he)
  have hq:=h q List.mem_cons_self;unfold In bV;by_cases e:eT az q.1 p=af
  .rw[al e];have e':=(lI _ _).1 e;have:q=(p,af):=Prod.ext e' hq;simp[this]
  .rw[aj e]
   have e':q.1≠p:=λg=>e ((lI _ _).2 g)
   refine ih.trans ⟨λg=>List.mem_cons_of_mem _ g,λg=>?_⟩
   rcases ai7.1 g with g|g
   .exact absurd (by rw[<-g]) e'
   .exact g
theorem lf.nil:lf []:=⟨λe h=>by simp at h, .nil⟩
theorem xe{l:PS}{p:Int×Int}{v:Bool}{e:(Int×Int)×Bool}:e∈B8 az l p v↔e=(p,v)\/e∈l:=by grind [qJ]
def Dh{p:Int×Int}{v:Bool}:{l:PS}->l.Pairwise (λe f=>A5 e.1 f.1)->(∀e∈l,e.1≠p)->(B8 az l p v).Pairwise λe f=>A5 e.1 f.1
 |[],_,_=>by simp[B8]
 |q::l,h,hn=>by
  obtain⟨h1,h2⟩:=aiT.1 h;unfold B8;by_cases hk:Lv az p q.1=af
  .rw[al hk];have hk:=(zv _ _).1 hk;refine aiT.2 ⟨λe he=>?_,h⟩
   rcases ai7.1 he with rfl|he
   .exact hk
   .exact hk.trans (h1 e he)
  .rw[aj hk]
   have hk:¬A5 p q.1:=λg=>hk ((zv _ _).2 g)
   refine aiT.2 ⟨λe he=>?_,Dh h2 (by grind)⟩
   grind [xe,A5.total]
def lf.put{l:PS}(h:lf l)(p:Int×Int):lf (q6 az l p af):=by
 refine⟨λe he=>?_,Dh (h.srt.filter _) λe he=>?_⟩
 .rcases xe.1 he with rfl|he
  .rfl
  .exact h.tr e (aji.1 he).1
 grind [mb]
def A6{l:PS}(h:lf l){p q:Int×Int}:In (q6 az l p af) q↔q=p\/In l q:=by
 rw[lg (h.put p).tr,lg h.tr]
 grind [q6,xe,mb]
def PM{l:PS}(h:lf l){p:Int×Int}(hn:¬In l p):(q6 az l p af).length=l.length+1:=by
 unfold q6;refine(qJ (K:=az) p af _).length_eq.trans ?_;rw[List.length_cons,ajX.2];intro e he;rw[Bool.not_eq_true',mb];intro g;refine hn ((lg h.tr).2 ?_);have:e=(p,af):=Prod.ext g (h.tr e he)
 grind
def lf.ext{l m:PS}(h:lf l)(g:lf m)(e:∀p,In l p↔In m p):l=m:=by
 have EV:∀{l:PS},lf l->l.Nodup:=λh=>h.srt.imp λg e=>by
  subst e;unfold A5 at g;omega
 have hm:∀a:az.den×Bool,a∈l↔a∈m:=λa=>by
  constructor
  .intro ha;have:a=(a.1,af):=Prod.ext rfl (h.tr a ha);rw[this]at ha⊢;exact(lg g.tr).1 ((e _).1 ((lg h.tr).2 ha))
  .intro ha;have:a=(a.1,af):=Prod.ext rfl (g.tr a ha);rw[this]at ha⊢;exact(lg h.tr).1 ((e _).2 ((lg g.tr).2 ha))
 refine List.Perm.eq_of_pairwise (le:=λe f:az.den×Bool=>A5 e.1 f.1) (λa b _ _ h1 h2=>?_) h.srt g.srt (by grind);unfold A5 at h1 h2;omega
def qT{α:Type}:∀{A B:List α},A.Nodup->(∀x∈A,x∈B)->A.length<=B.length
 |[],_,_,_=>Nat.zero_le _
 |a::A,B,h,hs=>by
  obtain⟨h1,h2⟩:=List.nodup_cons.1 h;obtain⟨s,t,rfl⟩:=List.append_of_mem (hs a List.mem_cons_self);have:=qT (A:=A) (B:=s++t) h2 (by grind)
  grind
theorem lf.len{l:PS}(h:lf l)(k:Nat)(hk:∀p,In l p->∃m b:Nat,p=((m:Int),(b:Int))/\m<k/\b<k):l.length<=k*k:=by
 have:=qT (A:=l.map λe=>(e.1.1*k+e.1.2:Int)) (B:=(aiM (k*k)).map λx:Nat=>(x:Int)) ?_ λx hx=>?_
 .grind
 .rw[List.Nodup,List.pairwise_map];refine List.Pairwise.imp_of_mem (λ{e f}he hf aH=>?_) h.srt
  have key:∀{e:az.den×Bool},e∈l->In l e.1:=λ{e}he=>(lg h.tr).2 (by rw[show(e.1,af)=e from Prod.ext rfl (h.tr e he).symm];exact he)
  obtain⟨m,b,e1,h1,h2⟩:=hk _ (key he);obtain⟨m',b',e2,h3,h4⟩:=hk _ (key hf);rw[e1,e2]at aH⊢;dsimp only[A5]at aH⊢;intro g
  have g:m*k+b=m'*k+b':=by exact_mod_cast g
  have h5:(m*k+b)/k=m:=by rw[Nat.mul_comm,Nat.mul_add_div (by omega),Nat.div_eq_of_lt h2,Nat.add_zero]
  have h6:(m'*k+b')/k=m':=by rw[Nat.mul_comm,Nat.mul_add_div (by omega),Nat.div_eq_of_lt h4,Nat.add_zero]
  grind
 .obtain⟨e,he,rfl⟩:=List.mem_map.1 hx;have:In l e.1:=(lg h.tr).2 (by rw[show(e.1,af)=e from Prod.ext rfl (h.tr e he).symm];exact he);obtain⟨m,b,e1,h1,h2⟩:=hk _ this;rw[e1];refine List.mem_map.2 ⟨m*k+b,List.mem_range.2 ?_,by simp⟩;have:=aiS k (show m+1<=k by omega)
  grind
def Di{α A R:Type}{l0:List (az.den×α)}{fin:List (az.den×α)×List (az.den×α)×A->Option R}{step:List (az.den×α)×List (az.den×α)×A->(az.den×α)->Option A}(I:List (az.den×α)->A->Prop){Wy:R->Prop}(hu:∀r r',Wy r->Wy r'->r=r')
 (dZ:∀left acc x,x∈left->I left acc->Wp (step (l0,left,acc) x) (I (mT az left x.1)))(Rv:∀acc,I [] acc->Wp (fin (l0,[],acc)) Wy):
 ∀(n N:Nat)left acc,left.length<=n->n<N->I left acc->Wp (rk (λs k2=>if s.2.1.isEmpty=af then fin s else OW (λp=>p∈s.2.1) λx=>(step s x).bind λa=>k2 (s.1,mT az s.2.1 x.1,a)) N (l0,left,acc)) Wy:=by
 intro n
 induction n with
 |zero=>
  intro N left acc hl hN hi;obtain⟨N,rfl⟩:=Nat.exists_eq_succ_of_ne_zero (show N≠0 by omega)
  grind [rk]
 |succ n ih=>
  intro N left acc hl hN hi;obtain⟨N,rfl⟩:=Nat.exists_eq_succ_of_ne_zero (show N≠0 by omega)
  by_cases he:left=[]
  .grind
  .have vA:¬left.isEmpty=af:=by simpa using he
   have key:∀x,x∈left->∃a r,step (l0,left,acc) x=aa a/\rk (λs k2=>if s.2.1.isEmpty=af then fin s else OW (λp=>p∈s.2.1) λx=>(step s x).bind λa=>k2 (s.1,mT az s.2.1 x.1,a)) N (l0,mT az left x.1,a)=aa r/\Wy r:=λx hx=>by
    obtain⟨a,ha,kF⟩:=dZ left acc x hx hi
    have:(mT az left x.1).length<left.length:=by
     unfold mT;refine List.length_filter_lt_length_iff_exists.2 ⟨x,hx,?_⟩;rw[(lI _ _).2 rfl];simp
    obtain⟨r,hr,h⟩:=ih N (mT az left x.1) a (by omega) (by omega) kF
    grind
   obtain⟨x0,Wz⟩:=List.exists_mem_of_ne_nil _ he;obtain⟨_,r0,_,_,h0⟩:=key x0 Wz;refine⟨r0,?_,h0⟩;unfold rk;refine(aj vA).trans (RW ⟨x0,Wz⟩ λx hx=>?_)
   grind
end L
namespace L
def o8{j:Nat}(h:j<62):rA .i64 (1:Int) (j:Int)=aa ((2 ^ j:Nat):Int):=by
 unfold rA;rw[aj (by omega)];unfold xR
 have h1:min (j:Int).toNat aiB.bits=j:=by simp[IntKind.bits];omega
 have h2:2 ^ j<2 ^ 62:=Nat.pow_lt_pow_right (by omega) h
 grind [wrap_i64]
def MN:∀j,j<8->lc ((2 ^ j:Nat):Int)=1:=by
 intro j hj
 have h:((aiM 8).all λj=>decide (lc ((2 ^ j:Nat):Int)=1))=af:=by kernel_rfl
 grind
abbrev pI(m b:Nat):Int×Int:=((m:Int),(b:Int))
def rV{m b m' b':Nat}(h:pI m b=pI m' b'):m=m'/\b=b':=by
 grind
def A7(b j:Nat):b ^^^(b ^^^ 2 ^ j)=2 ^ j:=by grind
def ra{n:Nat}(h:n<=8):2 ^ n<=256:=Nat.pow_le_pow_right (n:=2) (by omega) h
def PN{b j:Nat}(hb:b<256)(hj:j<8):b ^^^ 2 ^ j<256:=Nat.xor_lt_two_pow (n:=8) hb (by have:=Nat.pow_lt_pow_right (a:=2) (by omega) hj;omega)
def A8{j:Nat}(hj:j<8):2 ^ j<256:=Nat.pow_lt_pow_right (a:=2) (by omega) hj
def MO{m b j:Nat}(hm:m<256)(hb:b<256)(hj:j<8)(Om:m.testBit j=af):M.lS aU (pI m b) (pI m (b ^^^ 2 ^ j))=aa (pI (gr m (2 ^ j)) (gr b (2 ^ j)),af):=by
 have h2:=A8 hj
 have hx:aJ .xor .i64 (b:Int) ((b ^^^ 2 ^ j:Nat):Int)=((2 ^ j:Nat):Int):=by rw[Ww (by omega) (by have:=PN hb hj;omega),A7]
 have ha:aJ .and .i64 ((2 ^ j:Nat):Int) (m:Int)≠0:=by
  rw[F6 (by omega) (by omega)];intro h
  have h:2 ^ j&&& m=0:=by exact_mod_cast h
  have:=aw (λx=>x.testBit j) h;simp only[Nat.testBit_and,vM,Om,Nat.zero_testBit]at this;simp at this
 have ho:M.cZ aU (aiD.wrap ((2 ^ j:Nat):Int))=aa 1:=by rw[A0,MN j hj]
 have h0:decide (aJ .and .i64 ((2 ^ j:Nat):Int) (m:Int)=0)=ah:=aq ha;unfold M.lS;simp only[hx,ho,h0,aiA,decide_true,ajR,aiK,if_false,JQ (show m<9223372036854775808 by omega) (show 2 ^ j<9223372036854775808 by omega),JQ (show b<9223372036854775808 by omega) (show 2 ^ j<9223372036854775808 by omega)]
structure oE(n:Nat)(S:Nat->Prop)(l:PS):Prop where
 ok:lf l
 imp:∀p,In l p->∃m b:Nat,p=pI m b/\qf n S m b
 base:∀x,x<2 ^ n->S x->In l (pI (2 ^ n-1) x)
theorem oE.len{n:Nat}{S:Nat->Prop}{l:PS}(h:oE n S l)(hn:n<=8):l.length<=65536:=by
 have:=h.ok.len (2 ^ n) λp hp=>by
  obtain⟨m,b,e,hi⟩:=h.imp p hp;exact⟨m,b,e,hi.1,hi.lt⟩
 have h8:=ra hn;exact ai4 this (ai4 (Nat.mul_le_mul h8 h8) (by omega))
def Cl(n:Nat)(l:PS)(WA:List (Int×Int)):Prop:=
 ∀m b j:Nat,j<n->m.testBit j=af->In l (pI m b)->In l (pI m (b ^^^ 2 ^ j))->pI m b∉WA->pI m (b ^^^ 2 ^ j)∉WA->In l (pI (gr m (2 ^ j)) (gr b (2 ^ j)))
def F9(n:Nat)(S:Nat->Prop)(l:PS):Prop:=lf l/\∀p,In l p↔∃m b:Nat,p=pI m b/\qf n S m b
def F9.JR{n:Nat}{S:Nat->Prop}{l l':PS}(h:F9 n S l)(g:F9 n S l'):l=l':=h.1.ext g.1 λp=>(h.2 p).trans (g.2 p).symm
def oE.done{n:Nat}{S:Nat->Prop}{l:PS}(h:oE n S l)(hc:Cl n l []):F9 n S l:=
 ⟨h.ok,λp=>⟨h.imp p,λ⟨m,b,e,hi⟩=>by
   rw[e]
   exact F8 (In:=λm b=>In l (pI m b)) h.base (λm b j hj hm h1 h2=>hc m b j hj hm h1 h2 (by simp) (by simp)) _ m b rfl hi⟩⟩
def oE.put{n:Nat}{S:Nat->Prop}{l:PS}(h:oE n S l){m b:Nat}(hi:qf n S m b):oE n S (q6 az l (pI m b) af):=
 ⟨h.ok.put _,λp hp=>by
   rcases(A6 h.ok).1 hp with rfl|hp
   .grind
   .exact h.imp p hp,λx hx hS=>(A6 h.ok).2 (.inr (h.base x hx hS))⟩
structure yl(n:Nat)(S:Nat->Prop)(L0:Nat)(vj rest:List (Int×Int))(m b:Nat)(j:Nat)(l:PS)(nx:List (Int×Int)):Prop where
 good:oE n S l
 levs:∀p∈vj,In l p
 nxt:∀p∈nx,In l p
 len:l.length=L0+nx.length
 cl:Cl n l (pI m b::rest++nx)
 bits:∀i,i<j->m.testBit i=af->In l (pI m (b ^^^ 2 ^ i))->pI m (b ^^^ 2 ^ i)∉nx->In l (pI (gr m (2 ^ i)) (gr b (2 ^ i)))
def yl.same{n:Nat}{S:Nat->Prop}{L0:Nat}{vj rest:List (Int×Int)}{m b j:Nat}{l:PS}{nx:List (Int×Int)}(h:yl n S L0 vj rest m b j l nx)(hb:m.testBit j=af->In l (pI m (b ^^^ 2 ^ j))->In l (pI (gr m (2 ^ j)) (gr b (2 ^ j)))):
 yl n S L0 vj rest m b (j+1) l nx:=
 ⟨h.good,h.levs,h.nxt,h.len,h.cl,λi hi hm h1 h2=>by
   rcases Nat.lt_succ_iff_lt_or_eq.1 hi with hi|rfl
   .exact h.bits i hi hm h1 h2
   grind⟩
def yl.add{n:Nat}{S:Nat->Prop}{L0:Nat}{vj rest:List (Int×Int)}{m b j:Nat}{l:PS}{nx:List (Int×Int)}(h:yl n S L0 vj rest m b j l nx)(hi:qf n S (gr m (2 ^ j)) (gr b (2 ^ j)))(hn:¬In l (pI (gr m (2 ^ j)) (gr b (2 ^ j)))):
 yl n S L0 vj rest m b (j+1) (q6 az l (pI (gr m (2 ^ j)) (gr b (2 ^ j))) af) (nx++[pI (gr m (2 ^ j)) (gr b (2 ^ j))]):=by
 have hp:∀q,In (q6 az l (pI (gr m (2 ^ j)) (gr b (2 ^ j))) af) q↔q=pI (gr m (2 ^ j)) (gr b (2 ^ j))\/In l q:=λq=>A6 h.good.ok
 refine⟨h.good.put hi,λp Ei=>(hp p).2 (.inr (h.levs p Ei)),λp Ei=>(hp p).2 ?_,by rw[PM h.good.ok hn,h.len];simp;omega,λm' b' i kF hm h1 h2 h3 h4=>(hp _).2 ?_,λi kF hm h1 h2=>(hp _).2 ?_⟩
 .rcases aiX.1 Ei with h'|h'
  .exact .inr (h.nxt p h')
  grind
 .simp only[List.cons_append,ai7,aiX,List.not_mem_nil,or_false,not_or]at h3 h4
  rcases(hp _).1 h1 with e|h1
  .grind
  .rcases(hp _).1 h2 with e|h2
   .grind
   .exact .inr (h.cl m' b' i kF hm h1 h2 (by simp only[List.cons_append,ai7,aiX,not_or];exact⟨h3.1,h3.2.1,h3.2.2.1⟩) (by grind))
 .simp only[aiX,aiZ,not_or]at h2
  rcases Nat.lt_succ_iff_lt_or_eq.1 kF with kF|rfl
  .rcases(hp _).1 h1 with e|h1
   .grind
   .exact .inr (h.bits i kF hm h1 h2.1)
  grind
def yl.out{n:Nat}{S:Nat->Prop}{L0:Nat}{vj rest:List (Int×Int)}{m b:Nat}{l:PS}{nx:List (Int×Int)}(h:yl n S L0 vj rest m b n l nx):Cl n l (rest++nx):=by
 intro m' b' i hi hm h1 h2 h3 h4
 have h3':=h3;have h4':=h4
 simp only[aiX,not_or]at h3 h4;by_cases e1:pI m' b'=pI m b
 .obtain⟨rfl,rfl⟩:=rV e1;exact h.bits i hi hm h2 h4.2
 .by_cases e2:pI m' (b' ^^^ 2 ^ i)=pI m b
  .obtain⟨rfl,e3⟩:=rV e2
   have e4:b'=b ^^^ 2 ^ i:=by rw[<-e3,PL]
   subst e4;rw[PK];exact h.bits i hi hm h1 h3.2
  .exact h.cl m' b' i hi hm h1 h2 (by simp only[List.cons_append,ai7,not_or];exact⟨e1,h3'⟩) (by grind)
def PO{n:Nat}{S:Nat->Prop}{m b j:Nat}(h:qf n S m b)(g:qf n S m (b ^^^ 2 ^ j)):m.testBit j=af:=by
 cases hb:b.testBit j with
 |true=>exact iI.1 h.2.1 j hb
 |false=>exact iI.1 g.2.1 j (by grind)
def abt(n:Nat)(hn:n<=8)(S:Nat->Prop)(l0:PS)(h0:lf l0)(hIn:∀p,In l0 p↔∃x,x<2 ^ n/\S x/\p=pI (2 ^ n-1) x):Wp (M.fU aU (n:Int) l0) (F9 n S):=by
 have h8:=ra hn
 have WB:oE n S l0:=⟨h0,λp hp=>by
  obtain⟨x,hx,hS,e⟩:=(hIn p).1 hp
  exact⟨_,x,e, .full hx hS⟩,(by grind)⟩
 have hl0:=WB.len hn;unfold M.fU;refine Di (λleft acc=>(∀e∈left,e∈l0)/\(∀p∈acc,In l0 p)/\(∀p,In l0 p->p∈acc\/∃e∈left,e.1=p)/\acc.length+left.length<=l0.length) (λr r' h g=>h.JR g) (λleft acc x hx hI=>?_) (λacc hI=>?_) l0.length aU l0 [] (aiH _) (by unfold aU;omega) ⟨λe he=>he,λp hp=>by simp at hp,λp hp=> .inr ⟨(p,af),(lg h0.tr).1 hp,rfl⟩,by simp⟩
 .obtain⟨h1,h2,h3,h4⟩:=hI
  have hlen:(mT az left x.1).length<left.length:=by
   unfold mT;refine List.length_filter_lt_length_iff_exists.2 ⟨x,hx,?_⟩;rw[(lI _ _).2 rfl];simp
  have tJ:∀e,e∈mT az left x.1↔e∈left/\e.1≠x.1:=λe=>by
   grind [mT,mb]
  have Wz:In l0 x.1:=(lg h0.tr).2 (by rw[show(x.1,af)=x from Prod.ext rfl (h0.tr x (h1 x hx)).symm];exact h1 x hx)
  grind [Wp.ub]
 .obtain⟨-,h2,h3,h4⟩:=hI
  refine Wp.loop (λs=>oE n S s.1/\(∀p∈s.2,In s.1 p)/\Cl n s.1 s.2/\s.2.length<=s.1.length) (λs=>2*(65536-s.1.length)+(if s.2=[]then 0 else 1)) ⟨WB,h2,λm b j _ _ hm _ hn _=>absurd ?_ hn,by simpa using h4⟩ (by grind [aU]) λs hs=>?_
  .grind
  .obtain⟨l,vj⟩:=s;obtain⟨hg,abu,Mg,hle⟩:=hs;dsimp only at hg abu Mg hle⊢;have RA:=hg.len hn;refine .dec (λdA=>?_) (λhe=> .some ?_)
   .have IL:vj≠[]:=λe=>by grind
    refine Wp.seq (λj=>oE n S j.1/\(∀p∈j.2,In j.1 p)/\Cl n j.1 j.2/\j.1.length=l.length+j.2.length) ?_ λj hj=> .some ⟨(by grind),?_⟩
    .refine Wp.count (λs=>s.1) vj.length (λk s=>oE n S s.2.1/\(∀p∈vj,In s.2.1 p)/\(∀p∈s.2.2,In s.2.1 p)/\s.2.1.length=l.length+s.2.2.length/\Cl n s.2.1 (vj.drop k++s.2.2)) (by omega) rfl (by grind) λk s hk hs hJ=>?_
     obtain⟨i,l1,nx⟩:=s;obtain⟨g1,g2,g3,g4,g5⟩:=hJ;dsimp only at hs g1 g2 g3 g4 g5⊢;subst hs;refine .dec (λaH=>?_) (λhge=> .some ?_)
     .have aH:k<vj.length:=by omega
      refine Wp.seq (λj=>oE n S j.1/\(∀p∈vj,In j.1 p)/\(∀p∈j.2,In j.1 p)/\j.1.length=l.length+j.2.length/\Cl n j.1 (vj.drop (k+1)++j.2)) (.bind (.idx k rfl aH ?_)) λj hj=> .some ⟨aH,aQ (by omega),hj⟩
      obtain⟨m,b,hp,hi⟩:=g1.imp _ (g2 vj[k] (aiF aH));rw[aiN aH]at g5;rw[hp]at g5⊢;have hm:=hi.1;have hb:=hi.lt
      refine Wp.count (λs=>s.1) n (λj s=>yl n S l.length vj (vj.drop (k+1)) m b j s.2.1 s.2.2) (by omega) rfl ⟨g1,g2,g3,g4,g5,λi hi=>absurd hi (by omega)⟩ λj s hj hs hB=>?_
      obtain⟨jj,l2,ny⟩:=s;dsimp only at hs hB⊢;subst hs;refine .dec (λSa=>?_) (λhge=> .some ?_)
      .have XS:j<8:=by omega
       have hx:aJ .xor .i64 (b:Int) ((2 ^ j:Nat):Int)=((b ^^^ 2 ^ j:Nat):Int):=Ww (by omega) (by have:=A8 XS;omega)
       refine Wp.seq (λq=>yl n S l.length vj (vj.drop (k+1)) m b (j+1) q.1 q.2) (.ba (o8 (by omega)) ?_) λq hq=> .some ⟨by omega,aQ (by omega),hq⟩
       rw[hx];refine .ite (λEt=> .some (hB.same λ_ h=>?_)) (λabv=>?_)
       .rw[show(bV az l2 (pI m (b ^^^ 2 ^ j))).getD ah=af from h]at Et;cases Et
       .have cL:In l2 (pI m (b ^^^ 2 ^ j)):=by simpa[In]using abv
        obtain⟨m',b',e,kF⟩:=hB.good.imp _ cL;obtain⟨rfl,rfl⟩:=rV e;have Om:=PO hi kF;have him:=hi.merge kF Om;refine .ba (MO (by omega) (by omega) XS Om) ?_;by_cases xT:In l2 (pI (gr m (2 ^ j)) (gr b (2 ^ j)))
        .have e:(bV az l2 (pI (gr m (2 ^ j)) (gr b (2 ^ j)))).getD ah=af:=xT;simp only[if_true,e,ajR,aiA,aiK,if_false];exact .some (hB.same λ_ _=>xT)
        .have e:(bV az l2 (pI (gr m (2 ^ j)) (gr b (2 ^ j)))).getD ah=ah:=by simpa[In]using xT
         simp only[if_true,e,Bool.not_false,aiA];have WC:=hB.good.len hn;refine .bind (.ub (by have:=hB.len;simp;omega) (.some (hB.add him xT)))
      .have:j=n:=by omega
       subst this;exact⟨hB.good,hB.levs,hB.nxt,hB.len,hB.out⟩
     .have:k=vj.length:=by omega
      subst this;rw[List.drop_length]at g5;exact⟨g1,g3,g5,g4⟩
    .have h5:=hj.1.len hn;have h6:=hj.2.2.2
     show 2*(65536-j.1.length)+(if j.2=[]then 0 else 1)<2*(65536-l.length)+(if vj=[]then 0 else 1)
     rw[aj IL]
     grind [List.length_pos_iff]
   .have:vj=[]:=(by simp_all)
    subst this;exact hg.done Mg
end L
namespace L
def Eo(n:Nat)(S:Nat->Prop)(m b:Nat):Prop:=qf n S m b/\∀j,j<n->m.testBit j=af->¬qf n S (gr m (2 ^ j)) (gr b (2 ^ j))
theorem sc.irrefl(x:Int×Int):¬sc x x:=by unfold sc;omega
theorem sc.total{x y:Int×Int}(h:¬sc y x)(g:x≠y):sc x y:=by
 grind [sc]
def uR{l m:List (Int×Int)}(h:l.Pairwise sc)(g:m.Pairwise sc)(e:∀p,p∈l↔p∈m):l=m:=by
 have EV:∀{l:List (Int×Int)},l.Pairwise sc->l.Nodup:=λh=>h.imp λg e=>by subst e;exact sc.irrefl _ g
 grind [sc,List.Perm.eq_of_pairwise]
def MP{l:List az.den}(hl:l.length<4611686018427387904)(hn:l.Nodup):Wp (M.bl aU l) λr=>r.Pairwise sc/\∀p,p∈r↔p∈l:=by
 unfold M.bl zh;rw[al ⟨Wx,hl⟩];refine .some ?_;generalize hg:ajd (pC λa b c d=>M.de aU (a,b) (c,d))=lt
 have aH:∀x y:Int×Int,lt x y=af↔sc x y:=λx y=>by rw[<-hg];exact A3 x y
 have hlf:∀x y:Int×Int,(!lt x y)=af↔¬sc x y:=λx y=>by grind
 have hp:=List.pairwise_mergeSort (le:=λx y:Int×Int=> !lt y x) (λa b c h1 h2=>by
  grind [sc]) (λa b=>by
  grind [sc]) l
 have hm:∀p,p∈l.mergeSort (λx y:Int×Int=> !lt y x)↔p∈l:=λp=>List.mem_mergeSort
 refine⟨?_,hm⟩;have K8:(l.mergeSort (λx y:Int×Int=> !lt y x)).Nodup:=(List.mergeSort_perm l _).symm.nodup hn
 exact(hp.and K8).imp λ⟨h1,h2⟩=>sc.total ((hlf _ _).1 h1) h2
def MQ(n:Nat)(S:Nat->Prop)(l:PS)(r:PS×List az.den):Prop:=r.1=l/\r.2.Pairwise sc/\∀p,p∈r.2↔∃m b:Nat,p=pI m b/\Eo n S m b
def MQ.JR{n:Nat}{S:Nat->Prop}{l:PS}{r r':PS×List az.den}(h:MQ n S l r)(g:MQ n S l r'):r=r':=
 Prod.ext (h.1.trans g.1.symm) (uR h.2.1 g.2.1 λp=>(h.2.2 p).trans (g.2.2 p).symm)
def Ho{m j:Nat}(h:m.testBit j=af):gr m (2 ^ j)≠m:=λe=>by
 grind [dg]
def JT(n:Nat)(hn:n<=8)(S:Nat->Prop)(l:PS)(h:F9 n S l):Wp (M.iG aU (n:Int) l) (MQ n S l):=by
 have h8:=ra hn
 have hlen:l.length<=65536:=by
  have:=h.1.len (2 ^ n) λp hp=>by
   obtain⟨m,b,e,hi⟩:=(h.2 p).1 hp;exact⟨m,b,e,hi.1,hi.lt⟩
  exact ai4 this (ai4 (Nat.mul_le_mul h8 h8) (by omega))
 unfold M.iG
 refine Di (λleft acc=>(∀e∈left,e∈l)/\acc.Nodup/\(∀p∈acc,∃m b:Nat,p=pI m b/\Eo n S m b)/\(∀m b:Nat,Eo n S m b->pI m b∈acc\/∃e∈left,e.1=pI m b)/\(∀p∈acc,∀e∈left,e.1≠p)/\acc.length+left.length<=l.length)
  (λr r' h g=>h.JR g) (λleft acc x hx hI=>?_) (λacc hI=>?_) l.length aU l [] (aiH _) (by unfold aU;omega) ⟨λe he=>he,List.nodup_nil,λp hp=>by simp at hp,λm b hp=> .inr ⟨(pI m b,af),(lg h.1.tr).1 ((h.2 _).2 ⟨m,b,rfl,hp.1⟩),rfl⟩,λp hp=>by simp at hp,by simp⟩
 .obtain⟨h1,h2,h3,h4,h5,h6⟩:=hI
  have WC:(mT az left x.1).length<left.length:=by
   unfold mT;refine List.length_filter_lt_length_iff_exists.2 ⟨x,hx,?_⟩;rw[(lI _ _).2 rfl];simp
  have tJ:∀e,e∈mT az left x.1↔e∈left/\e.1≠x.1:=λe=>by
   unfold mT;rw[aji,Bool.not_eq_true',mb]
  have Wz:In l x.1:=(lg h.1.tr).2 (by rw[show(x.1,af)=x from Prod.ext rfl (h.1.tr x (h1 x hx)).symm];exact h1 x hx);obtain⟨m,b,hp,hi⟩:=(h.2 _).1 Wz;have hm:=hi.1;have hb:=hi.lt
  refine Wp.seq (λj=>j=af↔Eo n S m b) ?_ λj hj=>?_
  .refine Wp.count (λs=>s.2) n (λj s=>s.1=af↔∀i,i<j->m.testBit i=af->¬qf n S (gr m (2 ^ i)) (gr b (2 ^ i))) (by omega) rfl ⟨λ_ i hi=>absurd hi (by omega),λ_=>rfl⟩ λj s hj hs hJ=>?_
   obtain⟨v,jj⟩:=s;dsimp only at hs hJ⊢;subst hs;refine .dec (λaH=>?_) (λhge=> .some ?_)
   .have XS:j<8:=by omega
    have h2j:=A8 XS
    refine Wp.seq (λq=>q=af↔∀i,i<j+1->m.testBit i=af->¬qf n S (gr m (2 ^ i)) (gr b (2 ^ i))) (.ba (o8 (by omega)) (.ba (o8 (by omega)) ?_)) λq hq=> .some ⟨by omega,aQ (by omega),hq⟩
    have e1:aJ .andNot .i64 x.1.1 ((2 ^ j:Nat):Int)=(gr m (2 ^ j):Nat):=by rw[hp];exact JQ (by omega) (by omega)
    have e2:aJ .andNot .i64 x.1.2 ((2 ^ j:Nat):Int)=(gr b (2 ^ j):Nat):=by rw[hp];exact JQ (by omega) (by omega)
    rw[e1,e2,hp];have e3:(bV az l (pI (gr m (2 ^ j)) (gr b (2 ^ j)))).getD ah=af↔qf n S (gr m (2 ^ j)) (gr b (2 ^ j)):=(h.2 _).trans ⟨λ⟨m',b',e,kF⟩=>by obtain⟨rfl,rfl⟩:=rV e;exact kF,λkF=>⟨_,_,rfl,kF⟩⟩
    have step:∀t:Bool,(t=af↔(m.testBit j=af/\qf n S (gr m (2 ^ j)) (gr b (2 ^ j))))->Wp (if t=af then aa ah else aa v) λq=>q=af↔∀i,i<j+1->m.testBit i=af->¬qf n S (gr m (2 ^ i)) (gr b (2 ^ i)):=λt ht=>by
     refine .ite (λh1=> .some ⟨λh2=>by(cases h2),λh2=>absurd (ht.1 h1).2 (h2 j (by omega) (ht.1 h1).1)⟩) (λh1=> .some (hJ.trans ⟨λh2 i kF=>?_,λh2 i kF=>h2 i (by omega)⟩))
     rcases Nat.lt_succ_iff_lt_or_eq.1 kF with kF|rfl
     .exact h2 i kF
     .exact λh3 h4=>h1 (ht.2 ⟨h3,h4⟩)
    by_cases Om:m.testBit j=af
    .have e4:lA az (pI (gr m (2 ^ j)) (gr b (2 ^ j))) (pI m b)=ah:=n9.2 λe=>Ho Om (rV e).1
     refine Wp.seq (λt=>t=af↔(m.testBit j=af/\qf n S (gr m (2 ^ j)) (gr b (2 ^ j)))) ?_ step;rw[show lA az (((gr m (2 ^ j):Nat):Int),((gr b (2 ^ j):Nat):Int)) (pI m b)=ah from e4];exact .some ⟨λh=>⟨Om,e3.1 h⟩,λh=>e3.2 h.2⟩
    .have abw:m.testBit j=ah:=by simpa using Om
     have hbj:b.testBit j=ah:=by
      cases e:b.testBit j with
      |false=>rfl
      |true=>exact absurd (iI.1 hi.2.1 j e) Om
     have e4:lA az (pI (gr m (2 ^ j)) (gr b (2 ^ j))) (pI m b)=af:=vr.2 (by rw[xd abw,xd hbj]);refine Wp.seq (λt=>t=af↔(m.testBit j=af/\qf n S (gr m (2 ^ j)) (gr b (2 ^ j)))) ?_ step;rw[show lA az (((gr m (2 ^ j):Nat):Int),((gr b (2 ^ j):Nat):Int)) (pI m b)=af from e4];exact .some ⟨λh=>(by cases h),λh=>absurd h.1 Om⟩
   .have:j=n:=by omega
    subst this;exact hJ.trans ⟨λh=>⟨hi,h⟩,λh=>h.2⟩
  .have hI':∀A9:List az.den,(∀p,p∈A9↔p∈acc\/p=x.1/\j=af)->A9.Nodup->A9.length<=acc.length+1->(∀e∈mT az left x.1,e∈l)/\A9.Nodup/\(∀p∈A9,∃m b:Nat,p=pI m b/\Eo n S m b)/\(∀m b:Nat,Eo n S m b->pI m b∈A9\/∃e∈mT az left x.1,e.1=pI m b)/\(∀p∈A9,∀e∈mT az left x.1,e.1≠p)/\A9.length+(mT az left x.1).length<=l.length:=λA9 hc EV hl=>by
    refine⟨λe he=>h1 e ((tJ e).1 he).1,EV,λp Ei=>?_,λm' b' Ei=>?_,λp Ei e he=>?_,by omega⟩
    .rcases(hc p).1 Ei with Ei|⟨rfl,KA⟩
     .exact h3 p Ei
     .exact⟨m,b,hp,hj.1 KA⟩
    .rcases h4 m' b' Ei with g|⟨e,he,g⟩
     .exact .inl ((hc _).2 (.inl g))
     .by_cases g2:e.1=x.1
      .refine .inl ((hc _).2 (.inr ⟨g.symm.trans g2,hj.2 ?_⟩));obtain⟨rfl,rfl⟩:=rV (g.symm.trans (g2.trans hp));exact Ei
      .exact .inr ⟨e,(tJ e).2 ⟨he,g2⟩,g⟩
    .obtain⟨he1,L6⟩:=(tJ e).1 he
     rcases(hc p).1 Ei with Ei|⟨rfl,_⟩
     .exact h5 p Ei e he1
     .exact L6
   refine .ite (λKA=> .bind (.ub (by simp;omega) (.some (hI' _ (λp=>by rw[aiX,aiZ];simp[KA]) ?_ (by simp))))) (λWD=> .some (hI' _ (λp=>by simp[WD]) h2 (show acc.length<=acc.length+1 by omega)));refine List.nodup_append.2 ⟨h2,by simp,λa ha c hc e=>?_⟩;rw[aiZ]at hc;exact h5 a ha x hx (by rw[e,hc])
 .obtain⟨-,h2,h3,h4,-,h6⟩:=hI
  refine Wp.seq (λr=>r.Pairwise sc/\∀p,p∈r↔p∈acc) (MP (by show acc.length<_;simp at h6;omega) h2) λr hr=> .some ⟨rfl,hr.1,λp=>(hr.2 p).trans ⟨h3 p,λ⟨m,b,e,hp⟩=>?_⟩⟩
  rcases h4 m b hp with g|⟨e',he,_⟩
  .rw[e];exact g
  .simp at he
end L
namespace L
def Hp(a:Int):Nat:=min a.toNat 8
def Ga(a:Int):Hp a<=8:=Nat.min_le_right _ _
def MS(a:Int):M.iF aU a=aa (Hp a:Int):=by
 grind [M.iF,Hp]
def JU(a:Int):M.p4 aU a=aa (Hp a:Int):=by
 grind [M.p4,Hp]
def size_eq{n:Nat}(hn:n<=8):M.rO aU (n:Int)=aa ((2 ^ n:Nat):Int):=by
 unfold M.rO;refine Wp.eq ?_
 refine Wp.count (λs=>s.2) n (λk s=>s.1=((2 ^ k:Nat):Int)) (by omega) rfl rfl λk s hk hs hJ=>?_
 obtain⟨x,kk⟩:=s;dsimp only at hs hJ⊢;subst hs hJ;refine .dec (λh=> .some ⟨by omega,aQ (by omega),?_⟩) (λh=> .some ?_)
 .have h1:2 ^ k<=2 ^ 8:=Nat.pow_le_pow_right (by omega) (by omega)
  show aiB.wrap (((2 ^ k:Nat):Int)*2)=((2 ^ (k+1):Nat):Int)
  have e:((2 ^ k:Nat):Int)*2=((2 ^ (k+1):Nat):Int):=by rw[Nat.pow_succ];simp
  rw[e,wrap_i64 (by grind)]
 .have:k=n:=by omega
  subst this;rfl
def sV(l:List Int)(k:Nat):List Bool:=(aiM k).map λx:Nat=>decide ((x:Int)∈l)
def PP{α:Type}{k x:Nat}{f:Nat->α}(h:x<k):idx ((aiM k).map f) (x:Int)=aa (f x):=by
 rw[aC (by simpa using h)];simp
def Ba{α:Type}{k x:Nat}{f:Nat->α}{Q:α->Prop}(h:x<k)(hq:Q (f x)):Wp (idx ((aiM k).map f) (x:Int)) Q:=⟨_,PP h,hq⟩
def sW{α:Type}(k:Nat)(f:Nat->α):(((aiM k).map f).length:Int)=(k:Int):=by simp
def Gb{l:List Int}(hl:l.length<=1000000){n:Nat}(hn:n<=8):M.nT aU l (n:Int)=aa (sV l (2 ^ n)):=by
 have h8:=ra hn;unfold M.nT;rw[size_eq hn,aiA];generalize 2 ^ n=K at*;refine Wp.eq (.bind (nc.2 ⟨by omega,?_⟩))
 refine Wp.count (λs=>s.1) l.length (λk s=>s.2=sV (l.take k) K) (by omega) rfl ?_ λk s hk hs hJ=>?_
 .show aiG _ _=_
  unfold sV;apply List.ext_getElem (by simp)
  grind
 .obtain⟨kk,c⟩:=s;dsimp only at hs hJ⊢;subst hs hJ;refine .dec (λh=>?_) (λh=> .some ?_)
  .have aH:k<l.length:=by omega
   have hlen:((sV (l.take k) K).length:Int)=(K:Int):=sW _ _
   have OM:∀y:Int,y∈l.take (k+1)↔y∈l.take k\/y=l[k]:=λy=>by rw[<-aiU aH,aiX,aiZ]
   refine Wp.seq (λj=>j=sV (l.take (k+1)) K) ?_ λj hj=> .some ⟨aH,aQ (by omega),hj⟩
   refine Wp.seq (λj=>j=af↔0<=l[k]/\l[k]<(K:Int)) (.bind (.idx k rfl aH (.dec (λh0=> .bind (.idx k rfl aH (.some ?_))) (λh0=> .some (by grind))))) λj hj=>?_
   .grind
   refine .ite (λKA=> .bind (.idx k rfl aH ?_)) (λWD=> .some ?_)
   .obtain⟨x,hx⟩:=aiL (hj.1 KA).1
    have If:x<K:=by have:=(hj.1 KA).2;omega
    rw[hx];refine .bind (Ba If (.some ?_))
    grind [sV,bg,lU]
   .unfold sV
    refine List.map_congr_left λy hy=>decide_eq_decide.2 ?_
    grind
  .have:k=l.length:=by omega
   subst this
   show sV (l.take l.length) K=sV l K
   grind
def MT{m:Nat}(hm:m<256):M.rP aU (m:Int)=aa (lc (m:Int)):=by
 have h:((aiM 256).all λm=>decide (M.rP aU ((m:Nat):Int)=aa (lc ((m:Nat):Int))))=af:=by kernel_rfl
 grind
def PQ:∀{m n:Nat},n<=8->m<2 ^ n->∃c:Nat,c<=n/\lc (m:Int)=(c:Int):=by
 intro m n hn hm
 have h:((aiM 9).all λn=>(aiM (2 ^ n)).all λm=>(aiM (n+1)).any λc=>decide (lc ((m:Nat):Int)=(c:Int)))=af:=by kernel_rfl
 have h1:=List.all_eq_true.1 (List.all_eq_true.1 h n (List.mem_range.2 (by omega))) m (List.mem_range.2 hm)
 grind
def rW{m b x:Nat}(hm:m<256)(hx:x<256):M.jM aU (pI m b) (x:Int)=aa (decide (x&&& m=b)):=by
 unfold M.jM;rw[F6 (by omega) (by omega)]
 congr 1
 grind
def fC(k:Nat)(mem cov:Nat->Bool)(m b:Nat):Bool:=(aiM k).any λx=>decide (x&&& m=b)&&mem x&& !cov x
def MU{n:Nat}(hn:n<=8){mem cov:Nat->Bool}{m b:Nat}(hm:m<256):M.p5 aU (pI m b) ((aiM (2 ^ n)).map mem) ((aiM (2 ^ n)).map cov)=aa (fC (2 ^ n) mem cov m b):=by
 have h8:=ra hn;unfold M.p5;refine Wp.eq ?_
 refine Wp.count (λs=>s) (2 ^ n) (λk _=>∀x,x<k->(decide (x&&& m=b)&&mem x&& !cov x)=ah) (by omega) rfl (λx hx=>absurd hx (by omega)) λk s hk hs hJ=>?_
 subst hs;rw[sW];refine .dec (λh=>?_) (λh=> .some ?_)
 .have aH:k<2 ^ n:=by omega
  refine Wp.seq (λj=>j=(decide (k&&& m=b)&&mem k&& !cov k)) (.ba (rW hm (by omega)) (.ite (λh1=> .bind (Ba aH (.ite (λh2=> .bind (Ba aH (.some ?_))) (λh2=> .some ?_)))) (λh1=> .some ?_))) λj hj=> .ite (λh1=> .some ?_) (λh1=> .some ⟨aH,aQ (by omega),λx hx=>?_⟩)
  .grind
  .grind
  .simp[h1]
  .show af=fC _ _ _ _ _
   grind [fC]
  grind
 .show ah=fC _ _ _ _ _
  grind [fC]
noncomputable def MV(n:Nat)(S:Nat->Prop)(m b:Nat):Bool:= @decide (∀x,x<2 ^ n->x&&& m=b->S x) (ai6 _)
theorem uo{n:Nat}{S:Nat->Prop}{m b:Nat}:MV n S m b=af↔∀x,x<2 ^ n->x&&& m=b->S x:= @decide_eq_true_iff _ (ai6 _)
def sX{n:Nat}(hn:n<=8){l:List Int}{m b:Nat}(hm:m<256):M.jX aU (pI m b) (sV l (2 ^ n))=aa (MV n (λx=>(x:Int)∈l) m b):=by
 have h8:=ra hn;unfold M.jX;refine Wp.eq ?_
 refine Wp.count (λs=>s) (2 ^ n) (λk _=>∀x:Nat,x<k->x&&& m=b->(x:Int)∈l) (by omega) rfl (λx hx=>absurd hx (by omega)) λk s hk hs hJ=>?_
 subst hs;rw[show((sV l (2 ^ n)).length:Int)=((2 ^ n:Nat):Int)from sW _ _];refine .dec (λh=>?_) (λh=> .some ?_)
 .have aH:k<2 ^ n:=by omega
  refine Wp.seq (λj=>j=af↔k&&& m=b/\¬(k:Int)∈l) (.ba (rW hm (by omega)) (.dec (λh1=> .bind (Ba aH (.some ?_))) (λh1=> .some (by grind)))) λj hj=> .ite (λh1=> .some ?_) (λh1=> .some ⟨aH,aQ (by omega),λx hx he=>?_⟩)
  .grind
  .show ah=MV _ _ _ _
   grind [uo]
  grind
 .have:k=2 ^ n:=by omega
  subst this;exact(uo.2 hJ).symm
theorem Dj{n:Nat}{S:Nat->Prop}{m b:Nat}(hm:m<2 ^ n)(hb:b&&& m=b):MV n S m b=af↔qf n S m b:=by
 rw[uo];exact⟨λh=>⟨hm,hb,h⟩,λh=>h.2.2⟩
theorem PR{m b j:Nat}(h:b&&& m=b):gr b (2 ^ j)&&& gr m (2 ^ j)=gr b (2 ^ j):=by
 grind [iI,dg]
theorem PT{m j:Nat}:m&&& 2 ^ j=0↔m.testBit j=ah:=by
 constructor
 .intro h;have:=aw (λx=>x.testBit j) h
  grind
 .intro h;apply ajJ;grind
def MW{n:Nat}(hn:n<=8){l:List Int}{m b:Nat}(hm:m<2 ^ n)(hb:b&&& m=b):Wp (M.p6 aU (pI m b) (sV l (2 ^ n))) λr=>r=af↔Eo n (λx=>(x:Int)∈l) m b:=by
 have h8:=ra hn;have UY:b<2 ^ n:=Nat.lt_of_le_of_lt (by rw[<-hb];exact Nat.and_le_right) hm;unfold M.p6;refine .ba (sX hn (by omega)) ?_;have hi:=Dj (S:=λx=>(x:Int)∈l) hm hb
 cases hv:MV n (λx=>(x:Int)∈l) m b with
 |false=>
  refine .some ⟨λh=>(by cases h),λh=>?_⟩;rw[hv]at hi;exact absurd (hi.2 h.1) (by simp)
 |true=>
  rw[hv]at hi;have hI:=hi.1 rfl
  refine Wp.ite (λh=>absurd h (by simp)) λ_=>?_
  refine Wp.loop (λs=>∃j:Nat,j<=n/\s=((2 ^ j:Nat):Int)/\∀i,i<j->m.testBit i=af->¬qf n (λx=>(x:Int)∈l) (gr m (2 ^ i)) (gr b (2 ^ i))) (λs=>1000-s.toNat) ⟨0,Nat.zero_le _,rfl,λi hi=>absurd hi (by omega)⟩ (by unfold aU;omega) λs hs=>?_
  obtain⟨j,hj,rfl,hJ⟩:=hs;rw[show((sV l (2 ^ n)).length:Int)=((2 ^ n:Nat):Int)from sW _ _];refine .dec (λh=>?_) (λh=> .some ?_)
  .have aH:2 ^ j<2 ^ n:=by omega
   have Vc:j<n:=(by grind)
   have e0:aJ .and .i64 (pI m b).1 ((2 ^ j:Nat):Int)=((m&&& 2 ^ j:Nat):Int):=F6 (by omega) (by omega);have e1:aJ .andNot .i64 (pI m b).1 ((2 ^ j:Nat):Int)=(gr m (2 ^ j):Nat):=JQ (by omega) (by omega);have e2:aJ .andNot .i64 (pI m b).2 ((2 ^ j:Nat):Int)=(gr b (2 ^ j):Nat):=JQ (by omega) (by omega);have Ru:=F7 m (2 ^ j)
   refine Wp.seq (λq=>q=af↔m.testBit j=af/\qf n (λx=>(x:Int)∈l) (gr m (2 ^ j)) (gr b (2 ^ j))) ?_ λq hq=> .ite (λh1=> .some ⟨λh=>(by cases h),λh=>absurd (hq.1 h1).2 (h.2 j Vc (hq.1 h1).1)⟩) (λh1=> .some ?_)
   .rw[e0,e1,e2];refine .iM (λh1=> .ba (sX (m:=gr m (2 ^ j)) (b:=gr b (2 ^ j)) hn (by omega)) (.some ?_)) (λh1=> .some ⟨λh=>(by cases h),λh=>?_⟩)
    all_goals grind [PT,Dj,PR]
   .have e:((2 ^ j:Nat):Int)*2=((2 ^ (j+1):Nat):Int):=by rw[Nat.pow_succ];simp
    have RD:2 ^ (j+1)=2*2 ^ j:=by rw[Nat.pow_succ,Nat.mul_comm]
    have hp:=Nat.two_pow_pos j
    show zi _ _ _ _ (.inl (aiB.wrap (((2 ^ j:Nat):Int)*2)))
    rw[e,wrap_i64 (by omega)];refine⟨⟨j+1,Vc,rfl,λi kF=>?_⟩,by grind⟩
    grind
  .have hge:2 ^ n<=2 ^ j:=by omega
   have:j=n:=by
    have:=(Nat.pow_le_pow_iff_right (a:=2) (by omega)).1 hge;omega
   subst this;exact⟨λ_=>⟨hI,hJ⟩,λ_=>rfl⟩
end L
namespace L
theorem Dk(a b:Int):eT aA a b=decide (a=b):=rfl
def MX(l:List (Int×Bool))(k:Int)(v:Bool)(x:Int):bV aA (oj aA l k v) x=if x=k then aa v else bV aA l x:=by
 induction l with
 |nil=>
  show(if eT aA k x=af then aa v else ae)=if x=k then aa v else ae
  grind [Dk]
 |cons p l ih=>
  grind [oj,Dk,bV]
theorem JV{l:List (Int×Bool)}{x:Int}(h:∀p∈l,p.1≠x):bV aA l x=ae:=by
 induction l with
 |nil=>rfl
 |cons p l ih=>
  grind [bV,Dk]
abbrev DI(l:List (Int×Bool)):Prop:=l.Pairwise λp q=>p.1≠q.1
def PU(l:List (Int×Bool))(k:Int):(pz aA l k).Sublist l:=by
 induction l with
 |nil=>exact .slnil
 |cons p l ih=>
  grind [pz]
def MY{l:List (Int×Bool)}(hd:DI l)(k x:Int):bV aA (pz aA l k) x=if x=k then ae else bV aA l x:=by
 induction l with
 |nil=>show ae=if x=k then ae else ae;split<;>rfl
 |cons p l ih=>
  obtain⟨h1,h2⟩:=aiT.1 hd;unfold pz;by_cases h:p.1=k
  .rw[al (by rw[Dk];grind)];by_cases hx:x=k
   .grind [JV]
   .rw[aj hx]
    show _=if eT aA p.1 x=af then aa p.2 else bV aA l x
    grind [Dk]
  grind [Dk,bV]
def DI.put{l:List (Int×Bool)}(hd:DI l)(k:Int)(v:Bool):DI (oj aA l k v):=by
 have hm:∀{l:List (Int×Bool)}{q:Int×Bool},q∈oj aA l k v->q.1=k\/q∈l:=by
  intro l
  induction l with
  |nil=>intro q hq;exact .inl (by rw[aiZ.1 hq])
  |cons p l ih=>
   grind [oj,Dk]
 induction l with
 |nil=>exact List.pairwise_singleton _ _
 |cons p l ih=>
  obtain⟨h1,h2⟩:=aiT.1 hd;unfold oj;split
  .simp_all
  .rename_i e;rw[Dk,ax]at e
   grind [aiT]
def Bs(m:Nat):List (Nat×Nat):=((aiM (m+1)).filter λb=>decide (b&&& m=b)).map λb=>(m,b)
noncomputable def Ms(n c:Nat):List (Nat×Nat):=(aiM (2 ^ n)).flatMap λm:Nat=>if lc (m:Int)=(c:Int)then Bs m else[]
noncomputable def Pt(n:Nat):List (Nat×Nat):=(aiM (n+1)).flatMap (Ms n)
theorem Gc{m:Nat}{p:Nat×Nat}:p∈Bs m↔p.1=m/\p.2&&& p.1=p.2:=by
 unfold Bs;rw[List.mem_map];constructor
 .grind
 grind [Nat.and_le_right]
theorem Bb{n c:Nat}{p:Nat×Nat}:p∈Ms n c↔p.1<2 ^ n/\lc (p.1:Int)=(c:Int)/\p.2&&& p.1=p.2:=by
 grind [Ms,Gc]
theorem qg{n:Nat}(hn:n<=8){p:Nat×Nat}:p∈Pt n↔p.1<2 ^ n/\p.2&&& p.1=p.2:=by
 unfold Pt;rw[List.mem_flatMap];constructor
 .grind [Bb]
 .rintro⟨h1,h3⟩
  obtain⟨c,hc,h2⟩:=PQ hn h1;exact⟨c,List.mem_range.2 (by omega),Bb.2 ⟨h1,h2,h3⟩⟩
def uq(n:Nat):(Pt n).Pairwise λp q=>sc (pI p.1 p.2) (pI q.1 q.2):=by
 unfold Pt;refine List.pairwise_flatMap.2 ⟨λc _=>?_,List.pairwise_lt_range.imp λ{c d}hcd x hx y hy=>?_⟩
 .unfold Ms;refine List.pairwise_flatMap.2 ⟨λm _=>?_,List.pairwise_lt_range.imp λ{m m'}hm x hx y hy=>?_⟩
  .split
   .unfold Bs;refine List.pairwise_map.2 ((List.pairwise_lt_range.filter _).imp λ{a b}h=>?_);refine .inr ⟨rfl, .inr ⟨rfl,?_⟩⟩
    grind
   .exact .nil
  .split at hx
   .split at hy
    .rename_i h1 h2;obtain⟨e1,_⟩:=Gc.1 hx;obtain⟨e2,_⟩:=Gc.1 hy;subst e1 e2;refine .inr ⟨h1.trans h2.symm, .inl ?_⟩
     grind
    .simp at hy
   .simp at hx
 .obtain⟨_,h1,_⟩:=Bb.1 hx;obtain⟨_,h2,_⟩:=Bb.1 hy;refine .inl ?_
  grind
noncomputable def ym(n:Nat)(S:Nat->Prop)(p:Nat×Nat):Bool:= @decide (Eo n S p.1 p.2) (ai6 _)
theorem oF{n:Nat}{S:Nat->Prop}{p:Nat×Nat}:ym n S p=af↔Eo n S p.1 p.2:= @decide_eq_true_iff _ (ai6 _)
def fD(k:Nat)(mem:Nat->Bool):(Nat->Bool)->List (Nat×Nat)->List (Int×Int)
 |_,[]=>[]
 |cov,p::l=>if fC k mem cov p.1 p.2=af then pI p.1 p.2::fD k mem (λx=>cov x||decide (x&&& p.1=p.2)) l else fD k mem cov l
theorem kE{k:Nat}{mem cov:Nat->Bool}{p:Nat×Nat}{l:List (Nat×Nat)}:fD k mem cov (p::l)=if fC k mem cov p.1 p.2=af then pI p.1 p.2::fD k mem (λx=>cov x||decide (x&&& p.1=p.2)) l else fD k mem cov l:=rfl
noncomputable def Dl(n:Nat)(S:Nat->Prop)(mem:Nat->Bool):List (Int×Int):=fD (2 ^ n) mem (λ_=>ah) ((Pt n).filter (ym n S))
theorem o9{k:Nat}{mem:Nat->Bool}:∀{l:List (Nat×Nat)}{cov cov':Nat->Bool},(∀x,x<k->mem x=af->cov x=cov' x)->fD k mem cov l=fD k mem cov' l
 |[],_,_,_=>rfl
 |p::l,cov,cov',h=>by
  have e:fC k mem cov p.1 p.2=fC k mem cov' p.1 p.2:=by
   unfold fC;rw[Bool.eq_iff_iff,List.any_eq_true,List.any_eq_true];constructor
   .grind
   .grind
  unfold fD;rw[e,o9 (cov:=cov) (cov':=cov') h,o9 (cov:=λx=>cov x||decide (x&&& p.1=p.2)) (cov':=λx=>cov' x||decide (x&&& p.1=p.2)) λx hx hm=>by rw[h x hx hm]]
end L
namespace L
def eA(l:List Int)(x:Nat):Bool:=decide ((x:Int)∈l)
def Dm{m b x:Nat}(hm:m<256)(hx:x<256):M.fL aU (pI m b) (x:Int)=aa (decide (x&&& m=b)):=by
 unfold M.fL;rw[F6 (by omega) (by omega)]
 congr 1
 grind
def MZ{l:List Int}(hl:l.length<=1000000)(a:Int):M.jy aU l a=aa (Dl (Hp a) (λx=>(x:Int)∈l) (eA l)):=by
 have hn:=Ga a;generalize hn0:Hp a=n at hn;have h8:=ra hn;have pw:=Nat.two_pow_pos n;unfold M.jy;rw[MS,aiA,hn0,o8 (by omega),aiA];refine Wp.eq (Wp.seq (λj=>DI j.1/\(∀x:Nat,x<2 ^ n->((bV aA j.1 (x:Int)).getD ah=af↔(x:Int)∈l))/\lf j.2/\∀p,In j.2 p↔∃x:Nat,x<2 ^ n/\(x:Int)∈l/\p=pI (2 ^ n-1) x) ?_ λj hj=>?_)
 .refine Wp.count (λs=>s.1) l.length (λk s=>DI s.2.1/\(∀x:Nat,x<2 ^ n->((bV aA s.2.1 (x:Int)).getD ah=af↔(x:Int)∈l.take k))/\lf s.2.2/\∀p,In s.2.2 p↔∃x:Nat,x<2 ^ n/\(x:Int)∈l.take k/\p=pI (2 ^ n-1) x) (by omega) rfl ⟨.nil,λx hx=>by simp[bV], .nil,λp=>by simp[In,bV]⟩ λk s hk hs hJ=>?_
  obtain⟨kk,mis,im⟩:=s;obtain⟨g1,g2,g3,g4⟩:=hJ;dsimp only at hs g1 g2 g3 g4⊢;subst hs;refine .dec (λh=>?_) (λh=> .some ?_)
  .have aH:k<l.length:=by omega
   have OM:∀y:Int,y∈l.take (k+1)↔y∈l.take k\/y=l[k]:=λy=>by rw[<-aiU aH,aiX,aiZ]
   refine Wp.seq (λs=>DI s.1/\(∀x:Nat,x<2 ^ n->((bV aA s.1 (x:Int)).getD ah=af↔(x:Int)∈l.take (k+1)))/\lf s.2/\∀p,In s.2 p↔∃x:Nat,x<2 ^ n/\(x:Int)∈l.take (k+1)/\p=pI (2 ^ n-1) x) (.bind (.idx k rfl aH ?_)) λj hj=> .some ⟨aH,aQ (by omega),hj⟩
   refine Wp.seq (λj=>j=af↔0<=l[k]/\l[k]<((2 ^ n:Nat):Int)) (.dec (λh0=> .some ?_) (λh0=> .some (by grind))) λj hj=> .ite (λKA=> .some ?_) (λWD=> .some ?_)
   .grind
   .obtain⟨x,hx⟩:=aiL (hj.1 KA).1
    have If:x<2 ^ n:=by have:=(hj.1 KA).2;rw[hx]at this;exact_mod_cast this
    have hw:aiB.wrap (((2 ^ n:Nat):Int)-1)=((2 ^ n-1:Nat):Int):=by
     rw[show((2 ^ n:Nat):Int)-1=((2 ^ n-1:Nat):Int) by omega,wrap_i64 (by omega)]
    rw[hw,hx];refine⟨g1.put _ _,λy hy=>?_,g3.put _,λp=>?_⟩
    .show(bV aA (oj aA mis (x:Int) af) (y:Int)).getD ah=af↔_
     rw[MX,OM,hx]
     grind
    .refine(A6 g3 (p:=pI (2 ^ n-1) x)).trans ?_
     grind
   grind
  .have:k=l.length:=by omega
   subst this;rw[List.take_length]at g2 g4;exact⟨g1,g2,g3,g4⟩
 .obtain⟨af3,im⟩:=j;obtain⟨j1,j2,j3,j4⟩:=hj;dsimp only at j1 j2 j3 j4⊢
  refine Wp.seq (F9 n λx=>(x:Int)∈l) (abt n hn (λx=>(x:Int)∈l) im j3 j4) λms Pq=>Wp.seq (MQ n (λx=>(x:Int)∈l) ms) (JT n hn _ ms Pq) λr hr=>?_
  obtain⟨ms',pr⟩:=r;obtain⟨-,XT,hr3⟩:=hr;dsimp only at XT hr3⊢
  have hpr:pr=((Pt n).filter (ym n λx=>(x:Int)∈l)).map λp=>pI p.1 p.2:=by
   refine uR XT (List.pairwise_map.2 ((uq n).filter _)) λp=>(hr3 p).trans ?_
   rw[List.mem_map];constructor
   .rintro⟨m,b,rfl,h⟩
    exact⟨(m,b),aji.2 ⟨(qg hn).2 ⟨h.1.1,h.1.2.1⟩,oF.2 h⟩,rfl⟩
   .grind [oF]
  subst hpr;unfold Dl
  have hQ:∀p∈(Pt n).filter (ym n λx=>(x:Int)∈l),p.1<2 ^ n:=λp hp=>((qg hn).1 (aji.1 hp).1).1
  have hQl:((Pt n).filter (ym n λx=>(x:Int)∈l)).length<=65536:=by
   have:=qT (A:=((Pt n).filter (ym n λx=>(x:Int)∈l)).map λp=>p.1*256+p.2) (B:=aiM 65536) ?_ λx hx=>?_
   .grind
   .rw[List.Nodup,List.pairwise_map];refine List.Pairwise.imp_of_mem (λ{p q}hp hq aH e=>?_) ((uq n).filter _);have h1:=(qg hn).1 (aji.1 hp).1;have h2:=(qg hn).1 (aji.1 hq).1
    have h3:p.2<=p.1:=by rw[<-h1.2];exact Nat.and_le_right
    have h4:q.2<=q.1:=by rw[<-h2.2];exact Nat.and_le_right
    have h5:p.1=q.1/\p.2=q.2:=by omega
    grind [sc.irrefl]
   .grind [qg,Nat.and_le_right]
  generalize(Pt n).filter (ym n λx=>(x:Int)∈l)=Q at hQ hQl⊢
  refine Wp.count (λs=>s.1) Q.length (λk s=>∃cov:Nat->Bool,DI s.2.1/\(∀x:Nat,x<2 ^ n->(bV aA s.2.1 (x:Int)).getD ah=(eA l x&& !cov x))/\s.2.2++fD (2 ^ n) (eA l) cov (Q.drop k)=fD (2 ^ n) (eA l) (λ_=>ah) Q/\s.2.2.length<=k) (by omega) rfl ⟨λ_=>ah,j1,λx hx=>by grind [eA],rfl,aiH _⟩ λk s hk hs hJ=>?_
  obtain⟨kk,mis,res⟩:=s;obtain⟨cov,g1,g2,g3,g4⟩:=hJ;dsimp only at hs g1 g2 g3 g4⊢;subst hs;rw[ajn];refine .dec (λh=>?_) (λh=> .some ?_)
  .have aH:k<Q.length:=by omega
   have hm:=hQ _ (aiF aH);rw[aiN aH]at g3
   refine Wp.seq (λs=>∃cov:Nat->Bool,DI s.1/\(∀x:Nat,x<2 ^ n->(bV aA s.1 (x:Int)).getD ah=(eA l x&& !cov x))/\s.2++fD (2 ^ n) (eA l) cov (Q.drop (k+1))=fD (2 ^ n) (eA l) (λ_=>ah) Q/\s.2.length<=k+1) ?_ λj hj=> .some ⟨aH,aQ (by omega),hj⟩
   refine Wp.seq (λs=>∃cov:Nat->Bool,DI s.1/\(∀x:Nat,x<2 ^ n->(bV aA s.1 (x:Int)).getD ah=(eA l x&& !cov x))/\s.2++fD (2 ^ n) (eA l) cov (Q.drop (k+1))=fD (2 ^ n) (eA l) (λ_=>ah) Q/\s.2.length<=k+1) (.bind (.idx k rfl (by simpa using aH) ?_)) λj hj=> .some hj
   rw[List.getElem_map];generalize hp:Q[k]=p at hm g3
   refine Wp.seq (λs=>DI s.2/\(∀x:Nat,x<2 ^ n->(bV aA s.2 (x:Int)).getD ah=(eA l x&& !(cov x||decide (x&&& p.1=p.2))))/\s.1=fC (2 ^ n) (eA l) cov p.1 p.2) ?_ λt ht=>?_
   .refine Wp.count (λs=>s.2.1) (2 ^ n) (λj s=>DI s.2.2/\(∀x:Nat,x<2 ^ n->(bV aA s.2.2 (x:Int)).getD ah=(eA l x&& !(cov x||(decide (x<j)&&decide (x&&& p.1=p.2)))))/\(s.1=af↔∃x,x<j/\(decide (x&&& p.1=p.2)&&eA l x&& !cov x)=af)) (by omega) rfl (by grind) λj s hj hs hJ=>?_
    obtain⟨u,jj,mi⟩:=s;obtain⟨f1,f2,f3⟩:=hJ;dsimp only at hs f1 f2 f3⊢;subst hs;refine .dec (λh=>?_) (λh=> .some ?_)
    .have Fe:j<2 ^ n:=by omega
     have WE:=f2 j Fe
     have hjj:decide (j<j)=ah:=by simp
     rw[hjj,Bool.false_and,Bool.or_false]at WE
     refine Wp.seq (λs=>DI s.2/\(∀x:Nat,x<2 ^ n->(bV aA s.2 (x:Int)).getD ah=(eA l x&& !(cov x||(decide (x<j+1)&&decide (x&&& p.1=p.2)))))/\(s.1=af↔∃x,x<j+1/\(decide (x&&& p.1=p.2)&&eA l x&& !cov x)=af)) ?_ λq hq=> .some ⟨Fe,aQ (by omega),hq⟩
     refine Wp.seq (λt=>t=(decide (j&&& p.1=p.2)&&eA l j&& !cov j)) ?_ λt ht=>?_
     .refine .ite (λh1=> .ba (Dm (by omega) (by omega)) (.some ?_)) (λh1=> .some ?_)
      all_goals grind
     .subst ht
      have hex:(∃x,x<j+1/\(decide (x&&& p.1=p.2)&&eA l x&& !cov x)=af)↔(∃x,x<j/\(decide (x&&& p.1=p.2)&&eA l x&& !cov x)=af)\/(decide (j&&& p.1=p.2)&&eA l j&& !cov j)=af:=by
       constructor
       .grind
       .rintro(⟨x,h1,h2⟩|h)
        all_goals grind
      refine .ite (λht=> .some ⟨List.Pairwise.sublist (PU _ _) f1,λx hx=>?_,⟨λ_=>hex.2 (.inr ht),λ_=>rfl⟩⟩) (λht=> .some ⟨f1,λx hx=>?_,(by simp_all)⟩)
      .show(bV aA (pz aA mi (j:Int)) (x:Int)).getD ah=_
       rw[MY f1];by_cases e:x=j
       .grind
       .have e1:¬(x:Int)=j:=λg=>e (by grind)
        rw[aj e1,f2 x hx];have:decide (x<j+1)=decide (x<j):=decide_eq_decide.2 (by omega);rw[this]
      .show(bV aA mi (x:Int)).getD ah=_
       rw[f2 x hx];by_cases e:x=j
       .subst e
        cases h1:decide (x&&& p.1=p.2)<;>cases h2:eA l x<;>cases h3:cov x<;>simp_all
       .have:decide (x<j+1)=decide (x<j):=decide_eq_decide.2 (by omega);rw[this]
    .have:j=2 ^ n:=by omega
     subst this;refine⟨f1,(by simp_all),?_⟩;unfold fC;rw[Bool.eq_iff_iff,f3,List.any_eq_true]
     grind
   .obtain⟨f1,f2,f3⟩:=ht;rw[kE,<-f3]at g3;refine .ite (λh1=> .bind (.ub (by simp;omega) (.some ⟨λx=>cov x||decide (x&&& p.1=p.2),f1,f2,?_,by simp;omega⟩))) (λh1=> .some ⟨λx=>cov x||decide (x&&& p.1=p.2),f1,f2,?_,by grind⟩)
    .grind
    .rw[aj h1]at g3;rw[<-g3]
     congr 1
     grind [o9,fC]
  .have:k=Q.length:=by omega
   subst this;rw[List.drop_length]at g3
   show res=_
   rw[<-g3];simp[fD]
end L
namespace L
def Tr(n:Nat)(l:List Int)(Q:List (Nat×Nat))(s s':(Nat->Bool)×List (Int×Int)):Prop:=
 ∀R:List (Nat×Nat),s.2++fD (2 ^ n) (eA l) s.1 ((Q++R).filter (ym n λx=>(x:Int)∈l))=s'.2++fD (2 ^ n) (eA l) s'.1 (R.filter (ym n λx=>(x:Int)∈l))
theorem Tr.nil{n:Nat}{l:List Int}(s:(Nat->Bool)×List (Int×Int)):Tr n l [] s s:=λ_=>rfl
def Tr.trans{n:Nat}{l:List Int}{Q Q':List (Nat×Nat)}{s s' s'':(Nat->Bool)×List (Int×Int)}(h:Tr n l Q s s')(g:Tr n l Q' s' s''):Tr n l (Q++Q') s s'':=λR=>by
 rw[List.append_assoc,h,g]
theorem Tr.skip{n:Nat}{l:List Int}{p:Nat×Nat}{s:(Nat->Bool)×List (Int×Int)}(h:fC (2 ^ n) (eA l) s.1 p.1 p.2=ah\/¬Eo n (λx=>(x:Int)∈l) p.1 p.2):Tr n l [p] s s:=λR=>by
 grind [kE,oF]
def Tr.take{n:Nat}{l:List Int}{p:Nat×Nat}{s:(Nat->Bool)×List (Int×Int)}(h:fC (2 ^ n) (eA l) s.1 p.1 p.2=af)(hp:Eo n (λx=>(x:Int)∈l) p.1 p.2):Tr n l [p] s (λx=>s.1 x||decide (x&&& p.1=p.2),s.2++[pI p.1 p.2]):=λR=>by
 grind [oF,kE]
def qU{α:Type}(f:Nat->List α)(k:Nat):(aiM (k+1)).flatMap f=(aiM k).flatMap f++f k:=by
 rw[List.range_succ,List.flatMap_append];simp
def vl(m k:Nat):((aiM (k+1)).filter λb=>decide (b&&& m=b)).map (λb=>(m,b))=((aiM k).filter λb=>decide (b&&& m=b)).map (λb=>(m,b))++(if k&&& m=k then[(m,k)]else[]):=by
 grind [lb]
def PV{l:List Int}(hl:l.length<=1000000)(a:Int):M.na aU l a=aa (Dl (Hp a) (λx=>(x:Int)∈l) (eA l)):=by
 have hn:=Ga a;generalize hn0:Hp a=n at hn;have h8:=ra hn;have pw:=Nat.two_pow_pos n;unfold M.na;rw[JU,aiA,hn0,Gb hl hn,aiA];have hlen:((sV l (2 ^ n)).length:Int)=((2 ^ n:Nat):Int):=sW _ _;rw[hlen]
 have tE:aiG (((2 ^ n:Nat):Int)).toNat ah=(aiM (2 ^ n)).map λ_=>ah:=by
  rw[aiI];apply List.ext_getElem (by simp);intro i h1 h2;simp
 refine Wp.eq (.bind (nc.2 ⟨by grind,?_⟩));rw[tE]
 refine Wp.count (λs=>s.1) (n+1) (λc s=>∃cov:Nat->Bool,s.2.1=(aiM (2 ^ n)).map cov/\Tr n l ((aiM c).flatMap (Ms n)) (λ_=>ah,[]) (cov,s.2.2)/\s.2.2.length<=c*65536) (by omega) rfl ⟨λ_=>ah,rfl,Tr.nil _,Nat.zero_le _⟩ λc s hc hs hJ=>?_
 obtain⟨cc,WG,res⟩:=s;obtain⟨cov,rfl,hT,WH⟩:=hJ;dsimp only at hs hT WH⊢;subst hs;refine .dec (λh=>?_) (λh=> .some ?_)
 .have hcn:c<=n:=by omega
  refine Wp.seq (λj=>∃cov':Nat->Bool,j.1=(aiM (2 ^ n)).map cov'/\Tr n l (Ms n c) (cov,res) (cov',j.2)/\j.2.length<=c*65536+65536) ?_ λj hj=>?_
  .refine Wp.count (λs=>s.1) (2 ^ n) (λm s=>∃cov':Nat->Bool,s.2.1=(aiM (2 ^ n)).map cov'/\Tr n l ((aiM m).flatMap λm:Nat=>if lc (m:Int)=(c:Int)then Bs m else[]) (cov,res) (cov',s.2.2)/\s.2.2.length<=c*65536+m*256) (by omega) rfl ⟨cov,rfl,Tr.nil _,ai4 WH (by omega)⟩ λm s hm hs hJ=>?_
   obtain⟨mm,WG,rs⟩:=s;obtain⟨cv,rfl,hT2,M0⟩:=hJ;dsimp only at hs hT2 M0⊢;subst hs;refine .dec (λh=>?_) (λh=> .some ?_)
   .have Og:m<2 ^ n:=by exact_mod_cast h
    refine Wp.seq (λj=>∃cov':Nat->Bool,j.1=(aiM (2 ^ n)).map cov'/\Tr n l (if lc (m:Int)=(c:Int)then Bs m else[]) (cv,rs) (cov',j.2)/\j.2.length<=c*65536+m*256+256) ?_ λj hj=>?_
    .refine Wp.seq (λj=>∃cov':Nat->Bool,j.1=(aiM (2 ^ n)).map cov'/\Tr n l (if lc (m:Int)=(c:Int)then Bs m else[]) (cv,rs) (cov',j.2)/\j.2.length<=c*65536+m*256+256) (.ba (MT (by omega)) ?_) λj hj=> .some hj
     refine .iM (λh1=> .some ⟨cv,rfl,by rw[aj h1];exact Tr.nil _,ai4 M0 (by omega)⟩) (λh1=>?_);rw[al h1]
     refine Wp.count (λs=>s.1) (m+1) (λb s=>∃cov':Nat->Bool,s.2.1=(aiM (2 ^ n)).map cov'/\Tr n l (((aiM b).filter λb=>decide (b&&& m=b)).map λb=>(m,b)) (cv,rs) (cov',s.2.2)/\s.2.2.length<=c*65536+m*256+b) (by omega) rfl ⟨cv,rfl,Tr.nil _,ai4 M0 (by omega)⟩ λb s hb hs hJ=>?_
     obtain⟨bb,WG,rt⟩:=s;obtain⟨cw,rfl,XU,WI⟩:=hJ;dsimp only at hs XU WI⊢;subst hs;refine .dec (λh=>?_) (λh=> .some ?_)
     .have Q8:b<=m:=by omega
      refine Wp.seq (λj=>∃cov':Nat->Bool,j.1=(aiM (2 ^ n)).map cov'/\Tr n l (((aiM (b+1)).filter λb=>decide (b&&& m=b)).map λb=>(m,b)) (cv,rs) (cov',j.2)/\j.2.length<=c*65536+m*256+(b+1)) ?_ λj hj=> .some ⟨by omega,aQ (by omega),hj⟩
      refine Wp.seq (λj=>∃cov':Nat->Bool,j.1=(aiM (2 ^ n)).map cov'/\Tr n l (((aiM (b+1)).filter λb=>decide (b&&& m=b)).map λb=>(m,b)) (cv,rs) (cov',j.2)/\j.2.length<=c*65536+m*256+(b+1)) ?_ λj hj=> .some hj
      rw[F6 (show b<9223372036854775808 by omega) (show m<9223372036854775808 by omega),vl]
      have acW:(b&&& m=b->fC (2 ^ n) (eA l) cw m b=ah\/¬Eo n (λx=>(x:Int)∈l) m b)->Tr n l (((aiM b).filter λb=>decide (b&&& m=b)).map (λb=>(m,b))++(if b&&& m=b then[(m,b)]else[])) (cv,rs) (cw,rt):=λh=>by
       refine XU.trans ?_
       grind [Tr.skip,Tr.nil]
      refine Wp.seq (λj=>j=af↔(b&&& m=b->fC (2 ^ n) (eA l) cw m b=ah\/¬Eo n (λx=>(x:Int)∈l) m b)) ?_ λj hj=>?_
      .refine .iM (λh2=> .some (by grind)) (λh2=> .ba (MU hn (by omega)) ?_)
       have h2:b&&& m=b:=by exact_mod_cast h2
       cases hf:fC (2 ^ n) (λx=>decide ((x:Int)∈l)) cw m b with
       |false=>exact .ite (λ_=> .some ⟨λ_ _=> .inl hf,λ_=>rfl⟩) (λh=>absurd rfl h)
       |true=>
        refine .ite (λh=>absurd h (by simp)) (λ_=>Wp.seq (λr=>r=af↔Eo n (λx=>(x:Int)∈l) m b) (MW hn Og h2) λr hr=> .some ?_)
        grind [fC,eA]
      .refine .ite (λKA=> .some (by grind)) (λWD=>?_)
       have JM:=λh=>WD (hj.2 h)
       have h2:b&&& m=b:=(by grind)
       have zY:fC (2 ^ n) (eA l) cw m b=af:=by
        cases e:fC (2 ^ n) (eA l) cw m b with
        |true=>rfl
        |false=>grind
       have IC:Eo n (λx=>(x:Int)∈l) m b:=(by grind)
       refine Wp.seq (λj=>j=(aiM (2 ^ n)).map λx=>cw x||decide (x&&& m=b)) ?_ λj hj=>?_
       .refine Wp.count (λs=>s.1) (2 ^ n) (λk s=>s.2=(aiM (2 ^ n)).map λx=>cw x||(decide (x<k)&&decide (x&&& m=b))) (by omega) rfl (by simp) λk s hk hs hJ=>?_
        obtain⟨kk,cc⟩:=s;dsimp only at hs hJ⊢;subst hs hJ;refine .dec (λh=>?_) (λh=> .some ?_)
        .have JW:k<2 ^ n:=by exact_mod_cast h
         have um:∀v:Bool,v=(cw k||decide (k&&& m=b))->bg ((aiM (2 ^ n)).map λx=>cw x||(decide (x<k)&&decide (x&&& m=b))) (k:Int) v=(aiM (2 ^ n)).map λx=>cw x||(decide (x<k+1)&&decide (x&&& m=b)):=λv hv=>by
          unfold bg;rw[aiI,lU]
          grind
         refine Wp.seq (λj=>j=(aiM (2 ^ n)).map λx=>cw x||(decide (x<k+1)&&decide (x&&& m=b))) (.bind (Ba JW ?_)) λj hj=> .some ⟨JW,aQ (by omega),hj⟩
         refine .ite (λh1=> .bind (Ba JW (.some (um _ ?_)))) (λh1=> .ba (rW (by omega) (by omega)) (.bind (Ba JW (.some (um _ ?_)))))
         all_goals grind
        .have:k=2 ^ n:=by have:¬k<2 ^ n:=λg=>h (by grind);omega
         subst this
         refine List.map_congr_left λx hx=>?_
         grind
       .refine .bind (.ub (by grind) (.some ⟨_,hj,?_,by simp;omega⟩));refine XU.trans ?_;rw[al h2];exact Tr.take (s:=(cw,rt)) zY IC
     .have:b=m+1:=by omega
      subst this;exact⟨cw,rfl,XU,ai4 WI (by omega)⟩
    .obtain⟨cov',h1,h2,h3⟩:=hj;refine .some ⟨Og,aQ (by omega),cov',h1,?_,ai4 h3 (by omega)⟩;rw[qU];exact hT2.trans h2
   .have:m=2 ^ n:=by have:¬m<2 ^ n:=λg=>h (by grind);omega
    subst this;have:2 ^ n*256<=256*256:=aiS _ h8;exact⟨cv,rfl,hT2,ai4 M0 (by omega)⟩
  .obtain⟨cov',h1,h2,h3⟩:=hj;refine .some ⟨by omega,aQ (by omega),cov',h1,?_,ai4 h3 (by omega)⟩;rw[qU];exact hT.trans h2
 .have:c=n+1:=by omega
  subst this;have:=hT [];simp only[List.append_nil,List.nil_append,List.filter_nil,fD]at this
  show res=_
  rw[<-this];rfl
end L
namespace L
abbrev yo:Type:=aM.den
abbrev JX:Type:=bE.den
def On(x:Int)(r:yo):Bool:=decide (aJ .and .i64 x r.1.1=r.1.2)
def ur(x:Int):List yo->Int×Bool
 |[]=>(0,ah)
 |r::l=>if On x r=af then(r.2,af)else ur x l
def JY{x:Int}{r:yo}{l:List yo}:ur x (r::l)=if On x r=af then(r.2,af)else ur x l:=rfl
def WJ(r:yo)(x:Int):M.fL aU r.1 x=aa (On x r):=rfl
def M1(t:JX)(x:Int)(hl:t.2.2.2.length<=9223372036854775807):M.gE aU t x=aa (ur x t.2.2.2):=by
 unfold M.gE;refine Wp.eq (Wp.count (λs=>s) t.2.2.2.length (λk _=>ur x t.2.2.2=ur x (t.2.2.2.drop k)) hl rfl rfl λk s hk hs hJ=>?_);subst hs;refine .dec (λh=>?_) (λh=> .some ?_)
 .have aH:k<t.2.2.2.length:=by omega
  rw[aiN aH]at hJ;refine .bind (.idx k rfl aH (.ba (WJ _ x) (.ite (λh1=> .some ?_) (λh1=> .some ⟨aH,aQ (by omega),?_⟩))))
  .show _=ur x _
   rw[hJ];unfold ur;rw[al h1]
  grind [ur]
 .have:k=t.2.2.2.length:=by omega
  subst this
  show _=ur x _
  rw[hJ,List.drop_length];rfl
end L
namespace L
end L
end Go.Proofs.YtfeahmiobbjklaaGreatDoor
