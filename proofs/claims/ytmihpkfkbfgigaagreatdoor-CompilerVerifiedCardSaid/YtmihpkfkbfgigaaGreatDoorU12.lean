/- Joined texts: RU RV RW RM RN. -/
import Derived.Test.YtmihpkfkbfgigaaGreatDoorU11
section
open _root_.Bool renaming eq_iff_iff->akC,false_eq_true->ajp
open _root_.Classical renaming not_not->akp
open _root_.Go.Lib renaming indexByte->akH
open _root_.Go.IntKind renaming i64->ajj
open _root_.List renaming getElem?_eq_getElem->ajl,getElem_mem->ajs,getElem_of_mem->ajG,length_take->ajB,mem_cons->ajJ
open _root_.Nat renaming le_of_lt->akV
open _root_.Option renaming bind_some->aji,none_or->aku
namespace Go.Proofs.YtmihpkfkbfgigaaGreatDoor
open Go Go.RowKit
set_option maxRecDepth 100000
set_option linter.unusedSimpArgs false
namespace L
noncomputable def ur:List ByteArray:=(M.mB aE).getD []
theorem Ob:M.mB aE=some ur:=by kernel_rfl
theorem LO:ur.length<=100:=by unfold ur;decide+kernel
def Wd(c:Int):Prop:=(97<=c/\c<=122)\/(48<=c/\c<=57)\/c=95
def IdS(s:ByteArray):Prop:=s.size<=16/\(∃h:0<s.size,97<=s[0].toNat/\s[0].toNat<=122)/\(∀k,∀h:k<s.size,Wd (s[k].toNat:Int))/\s∉ur
theorem LP(s:ByteArray):lA s=true↔IdS s:=by
 have key:Wp (M.jB aE s) fun r=>r=true↔IdS s:=by
  have hl:=LO;unfold M.jB;simp only[Cx,N2,Ob,W_,implies_true,forall_const,reduceCtorEq];refine⟨fun h=>?_,fun h0=>⟨fun h=>?_,fun VQ=>?_⟩⟩
  .exact iff_of_false id fun g=>by obtain⟨_,⟨g,_⟩,_⟩:=g;omega
  .exact iff_of_false id fun g=>by have:=g.1;omega
  refine rK.2 ⟨by omega,?_⟩;have e0:((0:Int).toNat)=0:=rfl;simp only[e0];refine⟨fun h=>iff_of_false id fun g=>?_,fun rO=>?_⟩
  .obtain⟨_,⟨_,g⟩,_⟩:=g;exact h (by omega)
  refine Wp.count (fun s=>s) s.size (fun k _=>∀j,j<k->∀h:j<s.size,Wd (s[j].toNat:Int)) (by omega) rfl (fun j hj=>by omega) fun k c hk hs hJ=>?_
  obtain rfl:c=_:=hs;simp only[W_,implies_true,forall_const,reduceCtorEq,aY,aP];refine⟨fun ao=>rK.2 ⟨by omega,?_⟩,fun hge=>?_⟩
  .have ao:k<s.size:=by omega
   have ek:((k:Int).toNat)=k:=by omega
   simp only[ek];exact⟨fun h=>iff_of_false id fun g=>h (g.2.2.1 k ao),fun h=>⟨ao,az (by omega),cx hJ fun _=>h⟩⟩
  refine Wp.count (fun s=>s) ur.length (fun k _=>∀j,j<k->∀h:j<ur.length,ur[j]≠s) (by omega) rfl (fun j hj=>by omega) fun i c hi hs hI=>?_
  obtain rfl:c=_:=hs;simp only[W_,implies_true,forall_const,reduceCtorEq,aY,aP];refine⟨fun ao=>?_,fun ahN=>?_⟩
  .have ao:i<ur.length:=by omega
   simp only[ah ao,de (m:=ur.length) (by omega) ao,W_,implies_true,forall_const,reduceCtorEq];exact⟨fun h=>iff_of_false id fun g=>g.2.2.2 (h▸ajs ao),fun h=>⟨ao,cx hI fun _=>h⟩⟩
  .refine iff_of_true trivial ⟨by omega,⟨by omega,by omega⟩,fun j h=>hJ j (by omega) h,fun hm=>?_⟩;obtain⟨j,hj,e⟩:=ajG hm;exact hI j (by omega) hj e
 obtain⟨r,hr,h⟩:=key;unfold lA;rw[hr];exact h
def tw(s:ByteArray):List ByteArray->Option Bool
 |[]=>some false
 |[w]=>some (decide (s=w))
 |w::l=>if decide (s=w)=true then some (decide (s=w))else tw s l
theorem yx(s:ByteArray):(l:List ByteArray)->tw s l=some (decide (s∈l))
 |[]=>by simp[tw]
 |[w]=>by simp[tw]
 |w::w'::l=>by
  unfold tw;rw[yx s (w'::l)];by_cases h:s=w
  .rw[if_pos (decide_eq_true h)];simp[h]
  .rw[if_neg (by simpa using h)];simp[h]
theorem CD(s:ByteArray):M.jY aE s=some (decide (s∈ur)):=by
 have:M.jY aE s=(tw s ur).bind fun j=>if j=true then some true else some false:=by kernel_rfl
 rw[this,yx,aji];by_cases h:s∈ur
 .rw[if_pos (decide_eq_true h),decide_eq_true h]
 .rw[if_neg (by simpa using h),decide_eq_false h]
theorem yy(c:Int):M.ja aE c=some (decide (97<=c/\c<=122)):=by
 apply Wp.eq;unfold M.ja;simp only[W_,implies_true,forall_const,reduceCtorEq];omega
theorem Ix(c:Int):M.lf aE c=some (decide (48<=c/\c<=57)):=by
 apply Wp.eq;unfold M.lf;simp only[W_,implies_true,forall_const,reduceCtorEq];omega
theorem xn(s:ByteArray)(hs:s.size<=maxLen):Wp (M.iI aE s) fun n=>n=(s.size:Int)↔∀k,∀h:k<s.size,Wd (s[k].toNat:Int):=by
 unfold M.iI;simp only[yy,Ix]
 refine Wp.count (fun s=>s) s.size (fun k _=>∀j,j<k->∀h:j<s.size,Wd (s[j].toNat:Int)) hs rfl (fun j hj=>by omega) fun k c hk C4 hJ=>?_
 obtain rfl:c=_:=C4
 rcases Nat.lt_or_ge k s.size with ao|hge
 .have hb:kT s (k:Int)=some (s[k].toNat:Int):=by
   have:=(O4 (x:=((s[k].toNat:Nat):Int))).1 (rK (s:=s) (i:=(k:Int)).2 ⟨by omega,by simp⟩);exact this
  simp only[Ed ao,hb,de hs ao,W_,implies_true,forall_const,reduceCtorEq,aY,aP];unfold Wd at*
  have ok:(97<=(s[k].toNat:Int)/\(s[k].toNat:Int)<=122)\/(48<=(s[k].toNat:Int)/\(s[k].toNat:Int)<=57)\/(s[k].toNat:Int)=95->k<s.size/\∀j,j<k+1->∀h:j<s.size,(97<=(s[j].toNat:Int)/\(s[j].toNat:Int)<=122)\/(48<=(s[j].toNat:Int)/\(s[j].toNat:Int)<=57)\/(s[j].toNat:Int)=95:=fun h=>⟨ao,cx hJ fun _=>h⟩
  refine⟨fun h=>ok (.inl h),fun h1=>⟨fun h=>ok (.inr (.inl h)),fun h2=>⟨fun h=>ok (.inr (.inr h)),fun h3=>⟨fun e=>by omega,fun g=>?_⟩⟩⟩⟩
  rcases g k ao with h|h|h
  .exact absurd h h1
  .exact absurd h h2
  .exact absurd h h3
 .obtain rfl:k=s.size:=by omega
  simp only[eX,W_,implies_true,forall_const,reduceCtorEq,aP]
  exact iff_of_true trivial fun j h=>hJ j h h
theorem tx(s:ByteArray)(hs:s.size<=maxLen):M.bV aE s=some (lA s):=by
 have key:Wp (M.bV aE s) fun r=>r=true↔IdS s:=by
  unfold M.bV;simp only[yy,CD,W_,implies_true,forall_const,reduceCtorEq];refine⟨fun h=>?_,fun h=>?_⟩
  .have h0:0<s.size:=by
    rcases Nat.eq_zero_or_pos s.size with e|e
    .exact absurd (ByteArray.ext (by simpa using Array.size_eq_zero_iff.1 e)) h
    .exact e
   refine rK.2 ⟨by omega,?_⟩;have e0:((0:Int).toNat)=0:=rfl;simp only[e0];refine⟨fun rO=>(xn s hs).mono fun n hn=>⟨fun e=>⟨fun VQ=>?_,fun VQ=>iff_of_false id fun g=>VQ (by have:=g.1;omega)⟩,fun e=>iff_of_false id fun g=>e (hn.2 g.2.2.1)⟩,fun rO=>iff_of_false id fun g=>?_⟩
   .exact⟨fun g=>⟨by omega,⟨h0,by omega⟩,hn.1 e,g⟩,fun g=>g.2.2.2⟩
   .obtain⟨_,⟨_,g⟩,_⟩:=g;exact rO (by omega)
  .refine iff_of_false id fun g=>?_
   obtain⟨_,⟨g,_⟩,_⟩:=g;subst h;cases g
 obtain⟨r,hr,h⟩:=key;rw[hr];exact congrArg some (akC.2 (h.trans (LP s).symm))
theorem pk{β:Type}{l:List (ByteArray×β)}{nm:ByteArray}:0<=fb (fun x=>decide (x.1=nm)) l↔fc l nm:=by
 rw[ph];unfold fc;simp
theorem qT(l:List En)(nm:ByteArray)(hl:l.length<=maxLen):M.ig aE l nm=some (decide (fc l nm)):=by
 have:M.bj aE l nm=some (fb (fun x=>decide (x.1=nm)) l,nm):=by
  unfold M.bj M.jZ;exact wG hl (fun k h=>by simp only[ah h,jn h,aji,if_true]) (by simp only[eX,decide_false,ajp,if_false])
 unfold M.ig M.bC;simp only[this,aji];exact congrArg some (decide_eq_decide.2 pk)
theorem tX(l:List xm)(nm:ByteArray)(hl:l.length<=maxLen):M.iJ aE l nm=some (decide (fc l nm)):=by
 have:M.bf aE l nm=some (fb (fun x=>decide (x.1=nm)) l,nm):=by
  unfold M.bf M.jw;exact wG hl (fun k h=>by simp only[ah h,jn h,aji,if_true]) (by simp only[eX,decide_false,ajp,if_false])
 unfold M.iJ M.bz;simp only[this,aji];exact congrArg some (decide_eq_decide.2 pk)
theorem rX(l:List Fd)(f:Fd)(hl:l.length<=maxLen):M.aI aE l f=some (decide (fc l f.1),f):=by
 have:M.bg aE l f=some (fb (fun x=>decide (x.1=f.1)) l,f):=by
  unfold M.bg M.ik;exact wG hl (fun k h=>by simp only[ah h,jn h,aji,if_true]) (by simp only[eX,decide_false,ajp,if_false])
 unfold M.aI;simp only[this,aji];exact congrArg (fun b=>some (b,f)) (decide_eq_decide.2 pk)
theorem CE(l:List me)(f:me)(hl:l.length<=maxLen):M.ba aE l f=some (decide (fc l f.1),f):=by
 have:M.bl aE l f=some (fb (fun x=>decide (x.1=f.1)) l,f):=by
  unfold M.bl M.iV;exact wG hl (fun k h=>by simp only[ah h,jn h,aji,if_true]) (by simp only[eX,decide_false,ajp,if_false])
 unfold M.ba;simp only[this,aji];exact congrArg (fun b=>some (b,f)) (decide_eq_decide.2 pk)
theorem z6(l:List jq)(f:jq)(hl:l.length<=maxLen):M.aJ aE l f=some (decide (fc l f.1),f):=by
 have:M.bh aE l f=some (fb (fun x=>decide (x.1=f.1)) l,f):=by
  unfold M.bh M.iq;exact wG hl (fun k h=>by simp only[ah h,jn h,aji,if_true]) (by simp only[eX,decide_false,ajp,if_false])
 unfold M.aJ;simp only[this,aji];exact congrArg (fun b=>some (b,f)) (decide_eq_decide.2 pk)
theorem Ey(l:List ByteArray)(m:ByteArray)(hl:l.length<=maxLen):M.cY aE l m=some (decide (m∈l)):=by
 have:M.du aE l m=some (fb (fun x=>decide (m=x)) l):=by
  unfold M.du;exact Ge hl (fun k h=>by simp only[ah h,jn h,aji,if_true]) (by simp only[eX,decide_false,ajp,if_false])
 unfold M.cY;simp only[this,aji];refine congrArg some (decide_eq_decide.2 ?_);rw[ph];simp
theorem Ez(l:List Int)(m:Int)(hl:l.length<=maxLen):M.ec aE l m=some (decide (m∈l)):=by
 have:M.fq aE l m=some (fb (fun x=>decide (m=x)) l):=by
  unfold M.fq;exact Ge hl (fun k h=>by simp only[ah h,jn h,aji,if_true]) (by simp only[eX,decide_false,ajp,if_false])
 unfold M.ec;simp only[this,aji];refine congrArg some (decide_eq_decide.2 ?_);rw[ph];simp
theorem lC{α:Type}{l:List α}{k:Nat}(h:k<=l.length):fa l (0:Int) (k:Int)=some (l.take k):=by
 apply Wp.eq;exact wp_cut.2 ⟨by omega,by simp⟩
theorem z7(l:Lw)(hw:WF cF l)(k:Nat)(hk:k<l.1.length):M.lg aE l (k:Int) l.1[k]=some ((nQ l k).getD (0,0)):=by
 have hx:WF bp l.1[k]:=hw.1.2 _ (ajs hk);have w1:=hw.1.1;have hs:l.1[k].1.size<=maxLen:=hx.1;have hm:∀m∈l.1[k].2,ByteArray.size m<=maxLen:=hx.2.2;apply Wp.eq;unfold M.lg nQ;rw[ajl hk];simp only[tx _ hs,lC (akV hk),qT (l.1.take k) _ (by rw[ajB];omega),W_,implies_true,forall_const,reduceCtorEq];generalize l.1[k]=x at*;refine⟨fun h=>by rw[if_pos h];rfl,fun h=>?_⟩;rw[if_neg (by simp[h])];refine⟨fun h=>by rw[if_pos h];rfl,fun h2=>?_⟩;rw[if_neg h2];refine⟨fun h=>by rw[if_pos (by omega)];rfl,fun h3=>?_⟩;rw[if_neg (by omega)];refine⟨fun h=>by rw[if_pos (by omega)];rfl,fun h4=>?_⟩;rw[if_neg (by omega)]
 refine Wp.count (fun s=>s) x.2.length (fun i _=>∀j,j<i->LJ x.2 j=none) (by omega) rfl (fun j hj=>by omega) fun i c hi hs hJ=>?_
 obtain rfl:c=_:=hs;simp only[W_,implies_true,forall_const,reduceCtorEq,aY,aP];refine⟨fun ao=>?_,fun hge=>?_⟩
 .have ao:i<x.2.length:=by omega
  have hf:LJ x.2 i=if lA x.2[i]=false then some (2,100+(i:Int))else if x.2[i]∈x.2.take i then some (7,100+(i:Int))else none:=by
   unfold LJ;rw[ajl ao]
  simp only[ah ao,tx _ (hm _ (ajs ao)),lC (akV ao),Ey (x.2.take i) _ (by rw[ajB];unfold maxLen;omega),rW (k:=i) (a:=100) (by omega) (by omega),de (m:=x.2.length) (by omega) ao,W_,implies_true,forall_const,reduceCtorEq];refine⟨fun h=>?_,fun h=>⟨fun h2=>?_,fun h2=>⟨ao,cx hJ ?_⟩⟩⟩
  .rw[eK (hf.trans (if_pos h)) hJ ao];rfl
  .rw[eK (hf.trans ((if_neg (by simp[h])).trans (if_pos h2))) hJ ao];rfl
  .rw[hf,if_neg (by simp[h]),if_neg h2]
 .rw[bE.2 fun j hj=>hJ j (by omega)];rfl
theorem xo(l:Lw)(hw:WF cF l):M.kc aE l=some (if 8<l.1.length then((4:Int),((1:Int),((8:Int),(0:Int))))else match cc (fun k=>(nQ l k).map fun e=>(k,e)) l.1.length with
 |some (k,e)=>rV 1 (k:Int) (some e)
 |none=>N6):=by
 have w1:=hw.1.1;unfold maxLen at w1;apply Wp.eq;unfold M.kc;simp only[W_,implies_true,forall_const,reduceCtorEq];refine⟨fun h=>by rw[if_pos (by omega)],fun h8=>?_⟩;rw[if_neg (by omega)]
 refine Wp.count (fun s=>s) l.1.length (fun i _=>∀j,j<i->(fun k=>(nQ l k).map fun e=>(k,e)) j=none) w1 rfl (fun j hj=>by omega) fun i c hi hs hJ=>?_
 obtain rfl:c=_:=hs;simp only[W_,implies_true,forall_const,reduceCtorEq,aY,aP];refine⟨fun ao=>?_,fun hge=>?_⟩
 .have ao:i<l.1.length:=by omega
  simp only[ah ao,z7 l hw i ao,de w1 ao,W_,implies_true,forall_const,reduceCtorEq];refine⟨fun h=>?_,fun h=>⟨ao,cx hJ ?_⟩⟩
  .cases he:nQ l i with
   |none=>rw[he]at h;exact absurd rfl h
   |some e=>rw[eK (Rf he) hJ ao];rfl
  .cases he:nQ l i with
   |none=>rfl
   |some e=>rw[he]at h;exact absurd h (tq he)
 .rw[bE.2 fun j hj=>hJ j (by omega)];rfl
theorem oh(t:Ty)(E:List En):M.bY aE t E=some (decide (jo t E.length)):=by
 obtain⟨(k:Int),(e:Int)⟩:=t;apply Wp.eq;unfold M.bY;simp only[W_,implies_true,forall_const,reduceCtorEq];simp only[jo];dsimp only[ae,Row.den]at*;omega
theorem Gg(t:Ty)(E:List En):M.fo aE t E=some (HD t E):=by
 obtain⟨(k:Int),(e:Int)⟩:=t;apply Wp.eq;unfold M.fo HD;simp only[oh,W_,implies_true,forall_const,reduceCtorEq];by_cases hv:jo (k,e) E.length
 .simp only[hv,not_true_eq_false,if_false,false_implies,true_implies,true_and];refine⟨fun h=>by rw[if_pos h],fun h1=>⟨fun h=>by rw[if_neg h1,if_pos h],fun h2=>⟨fun h=>by rw[if_neg h1,if_neg h2,if_pos h],fun h3=>⟨fun h=>by rw[if_neg h1,if_neg h2,if_neg h3,if_pos h],fun h4=>⟨fun h=>by rw[if_neg h1,if_neg h2,if_neg h3,if_neg h4,if_pos h],fun h5=>?_⟩⟩⟩⟩⟩;simp only[jo]at hv;dsimp only[ae,Row.den]at*
  have hi:e.toNat<E.length:=by omega
  refine dX.2 ⟨by omega,?_⟩;rw[if_neg h1,if_neg h2,if_neg h3,if_neg h4,if_neg h5,ajl hi];rfl
 .simp only[hv,not_false_eq_true,if_true,true_implies,false_implies,and_true]
theorem EA(r:Ty):M.ef aE r=some (decide (VR r)):=by
 obtain⟨(k:Int),(e:Int)⟩:=r;apply Wp.eq;unfold M.ef;simp only[W_,implies_true,forall_const,reduceCtorEq];simp only[VR];dsimp only[ae,Row.den]at*;omega
theorem Iy(a b:Rw):M.ke aE a b=some (decide (mZ a b)):=by
 obtain⟨⟨(a1:Int),(a2:Int)⟩,(a3:Int),(a4:Int),(a5:Int)⟩:=a;obtain⟨⟨(b1:Int),(b2:Int)⟩,(b3:Int),(b4:Int),(b5:Int)⟩:=b;apply Wp.eq;unfold M.ke M.iT M.gM;simp only[EA,W_,implies_true,forall_const,reduceCtorEq];simp only[mZ];dsimp only[ae,Row.den]at*
 by_cases h1:VR (a1,a2)<;>by_cases h2:VR (b1,b2)<;>simp only[h1,h2,W_,implies_true,forall_const,reduceCtorEq]<;>omega
theorem LQ(l:List Rw)(x:Rw)(hl:l.length<=maxLen):Wp (M.bQ aE l x) fun r=>r.2.1=true↔∃y∈l,mZ y x:=by
 unfold M.bQ M.ij
 refine Wp.count (fun s=>s.1) l.length (fun k s=>s.2=x/\∀j,j<k->∀h:j<l.length,¬mZ l[j] x) hl rfl ⟨rfl,fun j hj=>by omega⟩ fun k c hk hs hJ=>?_
 obtain⟨c1,c2⟩:=c;obtain⟨h1,hJ⟩:=hJ;obtain rfl:c2=x:=h1;obtain rfl:c1=_:=hs;simp only[Iy,W_,implies_true,forall_const,reduceCtorEq,aY,aP];refine⟨fun ao=>?_,fun hge=>?_⟩
 .have ao:k<l.length:=by omega
  simp only[ah ao,de hl ao,W_,implies_true,forall_const,reduceCtorEq];exact⟨fun h=>iff_of_true trivial ⟨_,ajs ao,h⟩,fun h=>⟨ao,cx hJ fun _=>h⟩⟩
 .refine iff_of_false id ?_
  rintro⟨y,hy,h⟩
  obtain⟨j,hj,rfl⟩:=ajG hy;exact hJ j (by omega) hj h
theorem Oc(t:xm)(E:List En):M.kf aE t E=some (ni t E):=by
 apply Wp.eq;unfold M.kf ni;simp only[oh,Gg,EA,W_,implies_true,forall_const,reduceCtorEq];refine⟨fun h=>by rw[if_pos (by omega)],fun h64=>?_⟩;rw[if_neg (c:=64<t.2.2.2.length) (by omega)];refine⟨fun h1=>by rw[if_pos (fun g=>h1 g.1)],fun h1=>⟨fun h2=>by rw[if_pos (fun g=>h2 g.2)],fun h2=>?_⟩⟩;rw[if_neg (fun g=>g ⟨h1,h2⟩)]
 refine Wp.count (fun s=>s) t.2.2.2.length (fun k _=>∀j,j<k->qN t E j=none) (by omega) rfl (fun j hj=>by omega) fun k s hk hs hJ=>?_
 obtain rfl:s=_:=hs;simp only[W_,implies_true,forall_const,reduceCtorEq,aY,aP];refine⟨fun ao=>?_,fun hge=>?_⟩
 .have ao:k<t.2.2.2.length:=by omega
  have hf:qN t E k=if nO t.2.2.2[k] t E then some ((k:Int),3)else if∃y∈t.2.2.2.take k,mZ y t.2.2.2[k]then some ((k:Int),11)else none:=by
   unfold qN;rw[ajl ao]
  have bad:nO t.2.2.2[k] t E->((k:Int),(3:Int))=(cc (qN t E) t.2.2.2.length).getD (0,0):=fun hw=>by
   rw[eK (hf.trans (if_pos hw)) hJ ao];rfl
  have wB:¬nO t.2.2.2[k] t E->Wp (M.bQ aE (t.2.2.2.take k) t.2.2.2[k]) fun y=>(y.2.1=true->((k:Int),(11:Int))=(cc (qN t E) t.2.2.2.length).getD (0,0))/\(y.2.1=false->k<t.2.2.2.length/\∀j,j<k+1->qN t E j=none):=fun hw=>by
   rw[if_neg hw]at hf
   refine(LQ _ _ (by rw[ajB];unfold maxLen;omega)).mono fun y hy=>⟨fun h=>?_,fun h=>⟨ao,cx hJ ?_⟩⟩
   .rw[eK (hf.trans (if_pos (hy.1 h))) hJ ao];rfl
   .rw[hf,if_neg fun g=>by rw[hy.2 g]at h;cases h]
  simp only[ah ao,lC (akV ao),de (m:=t.2.2.2.length) (by omega) ao,W_,implies_true,forall_const,reduceCtorEq];unfold nO at bad wB;unfold C1 at bad wB;generalize M.bQ aE (t.2.2.2.take k) t.2.2.2[k]=fm at*;generalize t.2.2.2[k]=x at*;obtain⟨⟨(x1:Int),(x2:Int)⟩,(x3:Int),(x4:Int),(x5:Int)⟩:=x;dsimp only[ae,Row.den]at*;clear hf hJ;generalize HD t.2.1 E=p at*;generalize HD t.2.2.1 E=q at*;obtain⟨(p1:Int),(p2:Int)⟩:=p;obtain⟨(q1:Int),(q2:Int)⟩:=q;dsimp only at*
  refine⟨fun h=>bad (.inl h),fun h1=>⟨fun h=>bad (by omega),fun h2=>⟨fun h=>bad (by omega),fun h3=>⟨fun h=>bad (by omega),fun h4=>⟨fun h=>bad (by omega),fun h5=>⟨fun h=>bad (by omega),fun h6=>⟨fun h=>bad (by omega),fun h7=>⟨fun h=>bad (by omega),fun h8=>⟨fun h=>bad (by omega),fun h9=>wB fun hw=>by
   rcases hw with g|g
   .exact g h1
   .omega⟩⟩⟩⟩⟩⟩⟩⟩⟩
 .rw[bE.2 fun j hj=>hJ j (by omega)];rfl
theorem LR{t:xm}{E:List En}:(ni t E).2≠0->((ni t E).1= -1\/(0<=(ni t E).1/\(ni t E).1<=64)):=by
 unfold ni;intro h;split
 .exact .inr (by simp)
 split
 .exact .inl rfl
 rename_i h1 h2
 cases hf:cc (qN t E) t.2.2.2.length with
 |none=>rw[if_neg h1,if_neg h2,hf]at h;exact absurd rfl h
 |some e=>
  obtain⟨k,hk,he,_⟩:=fB hf;unfold qN at he;split at he
  .cases he
  split at he
  .cases he;exact .inr ⟨by simp,by simp;omega⟩
  split at he
  .cases he;exact .inr ⟨by simp,by simp;omega⟩
  .cases he
theorem wH(l:Lw)(hw:WF cF l):M.jh aE l=some (if 8<l.2.1.length then((4:Int),((2:Int),((8:Int),(0:Int))))else match cc (fun k=>(oA l k).map fun e=>(k,e)) l.2.1.length with
 |some (k,e)=>rV 2 (k:Int) (some e)
 |none=>N6):=by
 have w1:=hw.2.1.1;have w0:=hw.1.1;have wt:∀t∈l.2.1,WF ay t:=hw.2.1.2;unfold maxLen at w1;apply Wp.eq;unfold M.jh;simp only[W_,implies_true,forall_const,reduceCtorEq];refine⟨fun h=>by rw[if_pos (by omega)],fun h8=>?_⟩;rw[if_neg (by omega)]
 refine Wp.count (fun s=>s) l.2.1.length (fun i _=>∀j,j<i->(fun k=>(oA l k).map fun e=>(k,e)) j=none) w1 rfl (fun j hj=>by omega) fun i c hi hs hJ=>?_
 obtain rfl:c=_:=hs;simp only[W_,implies_true,forall_const,reduceCtorEq,aY,aP];refine⟨fun ao=>?_,fun hge=>?_⟩
 .have ao:i<l.2.1.length:=by omega
  have lM:l.2.1[i].1.size<=maxLen:=(wt _ (ajs ao)).1
  have hE:oA l i=if lA l.2.1[i].1=false then some (2,0)else if fc l.1 l.2.1[i].1\/fc (l.2.1.take i) l.2.1[i].1 then some (7,0)else if(ni l.2.1[i] l.1).2=0 then none else some ((ni l.2.1[i] l.1).2,if 0<=(ni l.2.1[i] l.1).1 then 100+(ni l.2.1[i] l.1).1 else 0):=by
   unfold oA;rw[ajl ao]
  simp only[ah ao,Oc,tx _ lM,lC (akV ao),qT _ _ w0,tX (l.2.1.take i) _ (by rw[ajB];unfold maxLen;omega),de w1 ao,W_,implies_true,forall_const,reduceCtorEq]
  have bad:∀e,oA l i=some e->rV 2 (i:Int) (some e)=(match cc (fun k=>(oA l k).map fun e=>(k,e)) l.2.1.length with|some (k,e)=>rV 2 (k:Int) (some e)|none=>N6):=fun e he=>by
   rw[eK (Rf he) hJ ao]
  have wB:oA l i=none->i<l.2.1.length/\∀j,j<i+1->(fun k=>(oA l k).map fun e=>(k,e)) j=none:=fun h=>⟨ao,cx hJ (N9 h)⟩
  have KN:=LR (t:=l.2.1[i]) (E:=l.1);generalize ni l.2.1[i] l.1=te at*;obtain⟨(r:Int),(c:Int)⟩:=te;dsimp only at*;refine⟨fun h=>?_,fun h=>⟨fun h2=>?_,fun h2=>⟨fun h3=>?_,fun h3=>⟨fun h4=>?_,fun h4=>?_⟩⟩⟩⟩
  .exact⟨fun _=>bad (2,0) (hE.trans (if_pos h)),fun g=>absurd g (by decide)⟩
  .rw[if_neg (c:=lA l.2.1[i].1=false) (by simp[h]),if_pos (Or.inl h2)]at hE;exact⟨fun _=>bad (7,0) hE,fun g=>absurd g (by decide)⟩
  .rw[if_neg (c:=lA l.2.1[i].1=false) (by simp[h]),if_pos (Or.inr h3)]at hE;exact⟨fun _=>bad (7,0) hE,fun g=>absurd g (by decide)⟩
  .rw[if_neg (c:=lA l.2.1[i].1=false) (by simp[h]),if_neg (fun g=>g.elim h2 h3),if_neg h4]at hE;have hr:=KN h4;refine⟨fun g=>⟨fun _=>?_,fun e=>absurd e h4⟩,fun g=>⟨fun _=>?_,fun e=>absurd e h4⟩⟩
   .rw[aM (by omega) (by omega)];exact bad (c,100+r) (hE.trans (by rw[if_pos (by omega)]))
   .exact bad (c,0) (hE.trans (by rw[if_neg (by omega)]))
  .rw[if_neg (c:=lA l.2.1[i].1=false) (by simp[h]),if_neg (fun g=>g.elim h2 h3),if_pos h4]at hE;exact wB hE
 .rw[bE.2 fun j hj=>hJ j (by omega)];rfl
noncomputable def pn(l:Lw)(f:Fd)(a b:List Fd):Int:=if lA f.1=false then 2 else if fc a f.1\/fc b f.1 then 7 else if¬jo f.2 l.1.length then 8 else 0
theorem qn(l:Lw)(f:Fd)(a b:List Fd)(hf:f.1.size<=maxLen)(ha:a.length<=maxLen)(hb:b.length<=maxLen):M.il aE l f a b=some (pn l f a b):=by
 apply Wp.eq;unfold M.il;simp only[tx _ hf,rX _ _ ha,rX _ _ hb,oh,W_,implies_true,forall_const,reduceCtorEq];unfold pn;refine⟨fun h=>by rw[if_pos h],fun h=>?_⟩;rw[if_neg (c:=lA f.1=false) (by simp[h])];refine⟨fun h1=>by rw[if_pos (.inl h1)],fun h1=>⟨fun h2=>by rw[if_pos (.inr h2)],fun h2=>?_⟩⟩;rw[if_neg (fun g=>g.elim h1 h2)];exact⟨fun h3=>by rw[if_pos h3],fun h3=>by rw[if_neg (fun g=>g h3)]⟩
theorem z8(l:List UInt8)(c:UInt8):0<=akH l c↔c∈l:=by
 induction l with
 |nil=>simp[akH]
 |cons b l ih=>
  have hg:=Go.Lib.indexByte_ge l c;unfold akH;by_cases h:b=c
  .subst h;simp
  .have h':c≠b:=fun e=>h e.symm
   simp only[beq_iff_eq,h,if_false,ajJ,h',false_or,<-ih]
   split<;>omega
theorem wI(s:ByteArray)(_:s.size<=maxLen):M.ji aE s=some (decide (plain s)):=by
 have hc:M.strings_Contains aE s (⟨#[34]⟩:ByteArray)=some (decide (0<=akH s.data.toList 34)):=rfl
 have cn:0<=akH s.data.toList 34↔∃i,∃h:i<s.size,(s[i].toNat:Int)=34:=by
  rw[z8];constructor
  .intro h;obtain⟨i,hi,e⟩:=ajG h;refine⟨i,by simpa using hi,?_⟩
   have:s[i]'(by simpa using hi)=34:=by
    have e:s.data[i]'(by simpa using hi)=34:=by simpa using e
    exact e
   rw[this];rfl
  .rintro⟨i,hi,e⟩
   have e2:s[i]=34:=by
    apply UInt8.toNat_inj.1
    show s[i].toNat=34
    omega
   have:(34:UInt8)=s.data.toList[i]'(by simpa using hi):=by rw[<-e2];simp;rfl
   rw[this];exact ajs _
 apply Wp.eq;unfold M.ji;simp only[hc,W_,implies_true,forall_const,reduceCtorEq];refine⟨fun h=>?_,fun h64=>⟨fun h=>?_,fun sd=>?_⟩⟩
 .exact fun(g:plain s)=>by have:=g.2;omega
 .obtain⟨i,hi,e⟩:=cn.1 h
  exact fun(g:plain s)=>(g.1 i hi).2.2 e
 refine Wp.count (fun s=>s) s.size (fun i _=>∀j,j<i->∀h:j<s.size,32<=(s[j].toNat:Int)/\(s[j].toNat:Int)<=126) (by omega) rfl (fun j hj=>by omega) fun i c hi hs hJ=>?_
 obtain rfl:c=_:=hs
 rcases Nat.lt_or_ge i s.size with ao|hge
 .have hb:kT s (i:Int)=some (s[i].toNat:Int):=by
   have:=(O4 (x:=((s[i].toNat:Nat):Int))).1 (rK (s:=s) (i:=(i:Int)).2 ⟨by omega,by simp⟩);exact this
  simp only[Ed ao,hb,de (m:=s.size) (by omega) ao,W_,implies_true,forall_const,reduceCtorEq,aY,aP];refine⟨fun h=>?_,fun h=>⟨fun h2=>?_,fun h2=>⟨ao,cx hJ fun _=>by omega⟩⟩⟩
  .exact fun(g:plain s)=>by have:=g.1 i ao;omega
  .exact fun(g:plain s)=>by have:=g.1 i ao;omega
 .obtain rfl:i=s.size:=by omega
  simp only[eX,W_,implies_true,forall_const,reduceCtorEq,aP];refine(⟨fun i hi=>?_,by omega⟩:plain s);have:=hJ i hi hi;exact⟨this.1,this.2,fun e=>sd (cn.2 ⟨i,hi,e⟩)⟩
def lJ(sg:nP):Prop:=∀e:List Ty,(∀n∈e,WF aa n)->M.gh aE e sg=some (C2 e sg)
theorem mf{sg:nP}(hT:lJ sg){e:List Ty}(want:Ty)(hw:∀n∈e,WF aa n):M.fE aE e sg want=some (qP e sg want):=by
 apply Wp.eq;unfold M.fE;simp only[hT e hw,zQ,W_,implies_true,forall_const,reduceCtorEq];unfold qP;refine⟨fun h=>by rw[if_pos h],fun h=>?_⟩;rw[if_neg (fun g=>g h)];exact⟨fun h=>by rw[if_pos h],fun h=>by rw[if_neg (fun g=>g h)]⟩
theorem Aa(l:Lw)(x:jq)(hw:WF aB x)(nv:mG x)(hT:lJ (eB l x))(k:Nat)(hk:k<x.2.2.2.2.length):M.jb aE x (k:Int) (eB l x)=some (tn l x k x.2.2.2.2[k]):=by
 have Mt:=hw.2.2.2.2.2 _ (ajs hk);have QT:=nv.2.2.2.2.2.2 _ (ajs hk)
 obtain⟨r,hr⟩:∃r,r=x.2.2.2.2[k]:=⟨_,rfl⟩
 have Va:=nv.2.2.2.1
 have Od:Wp (Loop (S:=Int×Int) (X:=Int) (fun s4=>
  (if(decide (s4.2<((x.2.2.2.2.take k).length:Int)))=true then
  ((idx (x.2.2.2.2.take k) s4.2).bind fun x6=>
  (if(decide ((x6.2.1:Int)=r.2.1))=true then
  some (ajj.wrap (s4.1+(1:Int)))
  else
  some s4.1):Option (Int)).bind fun j5=>
  some (Sum.inl (j5,ajj.wrap (s4.2+(1:Int))))
  else
  some (Sum.inr s4.1))) aE ((0:Int),(0:Int))) fun n=>n=(zZ x k r.2.1:Int):=by
  have NM:(x.2.2.2.2.take k).length=k:=by rw[ajB];omega
  refine Wp.count (fun s=>s.2) k (fun j s=>s.1=(((x.2.2.2.2.take j).countP fun r'=>decide ((r'.2.1:Int)=r.2.1):Nat):Int)) (by omega) rfl rfl fun j s hj hs V6=>?_
  obtain⟨sb,c⟩:=s;dsimp only at hs V6;subst hs;rw[NM];have yf:(x.2.2.2.2.take j).countP (fun r'=>decide ((r'.2.1:Int)=r.2.1))<=60:=Nat.le_trans List.countP_le_length (by rw[ajB];omega);simp only[W_,implies_true,forall_const,reduceCtorEq,aY,aP];refine⟨fun U5=>?_,fun U5=>?_⟩
  .have Ai:j<x.2.2.2.2.length:=by omega
   have Pd:j<(x.2.2.2.2.take k).length:=by omega
   simp only[ah Pd,List.getElem_take,de (m:=k) (by omega) (show j<k by omega),W_,implies_true,forall_const,reduceCtorEq]
   have RM:(x.2.2.2.2.take (j+1)).countP (fun r'=>decide ((r'.2.1:Int)=r.2.1))=(x.2.2.2.2.take j).countP (fun r'=>decide ((r'.2.1:Int)=r.2.1))+if(x.2.2.2.2[j].2.1:Int)=r.2.1 then 1 else 0:=by
    rw[<-List.take_append_getElem Ai,List.countP_append];simp[List.countP_cons]
   refine⟨fun h'=>⟨by omega,?_⟩,fun h'=>⟨by omega,?_⟩⟩
   .rw[RM,if_pos h',V6,aM (by omega) (by omega)];rfl
   .rw[RM,if_neg h',V6];rfl
  .obtain rfl:j=k:=by omega
   exact V6
 apply Wp.eq;unfold M.jb;rw[<-hr];have lM:r.1.size<=maxLen:=(hr▸Mt).1
 have abH:r.2.2.2.2.2.2.2.size<=maxLen:=by
  have:=(hr▸QT).2.1;unfold maxLen;omega
 have yf:zZ x k r.2.1<=60:=Nat.le_trans List.countP_le_length (by rw[ajB];omega);have hg:∀n∈r.2.2.2.2.2.1,WF aa n:=(hr▸Mt).2.2.2.2.2.1.2;have hv:∀n∈r.2.2.2.2.2.2.1,WF aa n:=(hr▸Mt).2.2.2.2.2.2.1.2;have Rg:pg x k r↔(r.2.2.1:Int)≠-1/\((r.2.2.1:Int)<0\/(k:Int)<=r.2.2.1\/∃y,x.2.2.2.2[(r.2.2.1:Int).toNat]? =some y/\(y.2.1:Int)≠r.2.1):=Iff.rfl;simp only[ah hk,<-hr,lC (akV hk),CE (x.2.2.2.2.take k) _ (by rw[ajB];unfold maxLen;omega),tx _ lM,wI _ abH,W_,implies_true,forall_const,reduceCtorEq];simp only[decide_eq_true_eq]at Od
 refine Od.mono fun n hn=>?_
 subst hn;clear Od Mt QT hr;unfold tn;refine⟨fun h=>by rw[if_pos h],fun h1=>?_⟩;rw[if_neg (c:=lA r.1=false) (by simp[h1])];refine⟨fun h=>by rw[if_pos h],fun h2=>?_⟩;rw[if_neg (c:=fc (x.2.2.2.2.take k) r.1) h2];generalize zZ x k r.2.1=q at*;obtain⟨nm,(d:Int),(p:Int),(pr:Int),v,g,val,src⟩:=r;obtain⟨(v1:Int),(v2:Int)⟩:=v;dsimp only[ae,Row.den]at*;refine⟨fun h=>by rw[if_pos (c:=¬(0<=d/\d<(x.2.2.2.1.length:Int))) (by omega)],fun h3=>⟨fun h=>by rw[if_pos (c:=¬(0<=d/\d<(x.2.2.2.1.length:Int))) (by omega)],fun h4=>?_⟩⟩;rw[if_neg (c:=¬(0<=d/\d<(x.2.2.2.1.length:Int))) (by omega)]
 have hd:d.toNat<x.2.2.2.1.length:=by omega
 have V7:¬VR ((v1,v2):Ty)\/v1=v2↔v1<0\/v2<=v1\/109573<v2:=by
  simp only[VR];dsimp only[ae,Row.den];omega
 refine⟨fun hp=>⟨fun h=>by rw[if_pos (Rg.2 ⟨hp, .inl h⟩)],fun h5=>⟨fun h=>by rw[if_pos (Rg.2 ⟨hp, .inr (.inl h)⟩)],fun h6=>dX.2 ⟨⟨by omega,by omega⟩,fun h7=>by rw[if_pos (Rg.2 ⟨hp, .inr (.inr ⟨_,ajl (by omega),h7⟩)⟩)],fun h7=>?_⟩⟩⟩,fun hp=>?_⟩
 .have OC:¬pg x k (nm,d,p,pr,(v1,v2),g,val,src):=fun h=>by
   obtain⟨_,g1|g1|⟨y,g1,g2⟩⟩:=Rg.1 h
   .omega
   .omega
   .rw[ajl (by omega)]at g1;cases g1;exact g2 h7
  clear Rg;rw[if_neg OC]
  have last:Wp (idx x.2.2.2.1 d) fun x_3=>Wp (M.fE aE val (eB l x) x_3.2) fun x_4=>x_4=match x.2.2.2.1[d.toNat]? with
   |some d=>qP val (eB l x) d.2
   |none=>0:=by
   refine dX.2 ⟨by omega,?_⟩;rw[mf hT _ hv,ajl hd];exact .some rfl
  by_cases g1:pr<0\/9<pr\/¬VR ((v1,v2):Ty)\/v1=v2
  .rw[if_pos g1];refine⟨fun _=>rfl,fun a1=>⟨fun _=>rfl,fun a2=>⟨fun _=>rfl,fun a3=>⟨fun _=>rfl,fun a4=>⟨fun _=>rfl,fun a5=>?_⟩⟩⟩⟩⟩;rw[V7]at g1;omega
  rw[if_neg g1]
  have Se:¬(pr<0\/9<pr\/v1<0\/v2<=v1\/109573<v2):=by rw[<-V7];exact g1
  refine⟨fun h=>by omega,fun a1=>⟨fun h=>by omega,fun a2=>⟨fun h=>by omega,fun a3=>⟨fun h=>by omega,fun a4=>⟨fun h=>by omega,fun a5=>?_⟩⟩⟩⟩⟩;refine⟨fun h=>by rw[if_pos (by omega)],fun h8=>?_⟩;rw[if_neg (by omega)];refine⟨fun h=>by rw[if_pos h],fun h9=>?_⟩;rw[if_neg (fun h=>h h9)];refine⟨fun h=>?_,fun h=>?_⟩
  .rw[mf hT _ hg];refine .some ⟨fun h'=>by rw[if_pos ⟨by omega,h'⟩],fun h'=>?_⟩;rw[if_neg (fun g=>g.2 h')];exact last
  .rw[if_neg (fun g=>h (by omega))];exact last
 .have OC:¬pg x k (nm,d,p,pr,(v1,v2),g,val,src):=fun h=>(Rg.1 h).1 hp
  clear Rg;rw[if_neg OC]
  have last:Wp (idx x.2.2.2.1 d) fun x_3=>Wp (M.fE aE val (eB l x) x_3.2) fun x_4=>x_4=match x.2.2.2.1[d.toNat]? with
   |some d=>qP val (eB l x) d.2
   |none=>0:=by
   refine dX.2 ⟨by omega,?_⟩;rw[mf hT _ hv,ajl hd];exact .some rfl
  by_cases g1:pr<0\/9<pr\/¬VR ((v1,v2):Ty)\/v1=v2
  .rw[if_pos g1];refine⟨fun _=>rfl,fun a1=>⟨fun _=>rfl,fun a2=>⟨fun _=>rfl,fun a3=>⟨fun _=>rfl,fun a4=>⟨fun _=>rfl,fun a5=>?_⟩⟩⟩⟩⟩;rw[V7]at g1;omega
  rw[if_neg g1]
  have Se:¬(pr<0\/9<pr\/v1<0\/v2<=v1\/109573<v2):=by rw[<-V7];exact g1
  refine⟨fun h=>by omega,fun a1=>⟨fun h=>by omega,fun a2=>⟨fun h=>by omega,fun a3=>⟨fun h=>by omega,fun a4=>⟨fun h=>by omega,fun a5=>?_⟩⟩⟩⟩⟩;refine⟨fun h=>by rw[if_pos (by omega)],fun h8=>?_⟩;rw[if_neg (by omega)];refine⟨fun h=>by rw[if_pos h],fun h9=>?_⟩;rw[if_neg (fun h=>h h9)];refine⟨fun h=>?_,fun h=>?_⟩
  .rw[mf hT _ hg];refine .some ⟨fun h'=>by rw[if_pos ⟨by omega,h'⟩],fun h'=>?_⟩;rw[if_neg (fun g=>g.2 h')];exact last
  .rw[if_neg (fun g=>h (by omega))];exact last
def Iz(x:jq):Prop:=∀d:Nat,d<x.2.2.2.1.length->∃tr,M.gz aE x (d:Int)=some tr/\tr.length<=1000/\((d:Int)∈tr↔(d:Int)∈IX x d)
theorem IA(l:Lw)(k:Nat)(hk:k<l.2.2.length)(hs:∀s∈l.2.2,s.2.2.1.length<=100000/\s.2.2.2.1.length<=100000):M.iU aE l (k:Int)=some ((eB l l.2.2[k]).1,(eB l l.2.2[k]).2.1,(eB l l.2.2[k]).2.2.2.2.2,(eB l l.2.2[k]).2.2.1,(eB l l.2.2[k]).2.2.2.1,(eB l l.2.2[k]).2.2.2.2.1):=by
 rw[<-N7 l k hk hs];unfold M.lI;rw[if_neg (by simp),aji,if_neg (by simp;omega)];rfl
theorem Rh(l:Lw)(x:jq)(i:Nat)(h:i<x.2.2.1.length):LK l x i=if pn l x.2.2.1[i] (x.2.2.1.take i) []≠0 then some (pn l x.2.2.1[i] (x.2.2.1.take i) [],100+(i:Int))else none:=by
 have hn:∀nm,¬fc ([]:List Fd) nm:=fun nm ⟨y,hy,_⟩=>by cases hy
 unfold LK pn;rw[ajl h];simp only[hn,or_false];by_cases h1:lA x.2.2.1[i].1=false
 .simp[h1]
 by_cases h2:fc (x.2.2.1.take i) x.2.2.1[i].1
 .simp[h1,h2]
 by_cases h3:jo x.2.2.1[i].2 l.1.length
 .simp[h1,h2,h3]
 .simp[h1,h2,h3]
theorem Ri(l:Lw)(x:jq)(i:Nat)(h:i<x.2.2.2.1.length):LL l x i=if pn l x.2.2.2.1[i] x.2.2.1 (x.2.2.2.1.take i)≠0 then some (pn l x.2.2.2.1[i] x.2.2.1 (x.2.2.2.1.take i),200+(i:Int))else none:=by
 unfold LL pn;rw[ajl h];simp only;by_cases h1:lA x.2.2.2.1[i].1=false
 .simp[h1]
 by_cases h2:fc x.2.2.1 x.2.2.2.1[i].1\/fc (x.2.2.2.1.take i) x.2.2.2.1[i].1
 .simp[h1,h2]
 by_cases h3:jo x.2.2.2.1[i].2 l.1.length
 .simp[h1,h2,h3]
 .simp[h1,h2,h3]
theorem xp(l:Lw)(hw:WF cF l)(nv:lK l)(k:Nat)(hk:k<l.2.2.length)(hT:lJ (eB l l.2.2[k]))(hC:Iz l.2.2[k]):M.kh aE l (k:Int)=some ((qR l k).getD (0,0)):=by
 have wZ:=nv.2.2.2.2.2 _ (ajs hk);have Lu:=hw.2.2.2 _ (ajs hk)
 have Vb:=IA l k hk fun s hs=>⟨by have:=(nv.2.2.2.2.2 s hs).2.1;omega,by have:=(nv.2.2.2.2.2 s hs).2.2.1;omega⟩
 have hE:qR l k=if lA l.2.2[k].1=false then some (2,0)else if fc l.1 l.2.2[k].1\/fc l.2.1 l.2.2[k].1\/fc (l.2.2.take k) l.2.2[k].1 then some (7,0)else if qQ l k l.2.2[k]then some (6,0)else
  if 12<l.2.2[k].2.2.1.length then some (4,112)else if 12<l.2.2[k].2.2.2.1.length then some (4,212)else((Iw l l.2.2[k]).or (cc (Cz l l.2.2[k]) l.2.2[k].2.2.2.2.length)).or (cc (Ev l.2.2[k]) l.2.2[k].2.2.2.1.length):=by
  unfold qR;rw[ajl hk]
 have h5:=nv.2.2.1
 obtain⟨x,hx⟩:∃x,x=l.2.2[k]:=⟨_,rfl⟩
 simp only[<-hx]at wZ Lu Vb hE hT hC;have K6:=wZ.2.2.1;have Va:=wZ.2.2.2.1;have abK:=wZ.2.1;have lM:x.1.size<=maxLen:=Lu.1
 have NM:(l.2.2.take k).length=k:=by rw[ajB];omega
 have cn:∀f∈x.2.2.1,(f.1:ByteArray).size<=maxLen:=fun f hf=>by have:=wZ.2.2.2.2.1 f hf;unfold maxLen;omega
 have hdf:∀f∈x.2.2.2.1,(f.1:ByteArray).size<=maxLen:=fun f hf=>by have:=wZ.2.2.2.2.2.1 f hf;unfold maxLen;omega
 apply Wp.eq;unfold M.kh;rw[ah hk,aji,lC (akV hk),aji,<-hx]
 have LS:(((M.ig aE l.1 x.1).bind fun y4=>
  (if y4=true then
  some (true,x)
  else
  (M.iJ aE l.2.1 x.1).bind fun y5=>
  (if y5=true then
  some (true,x)
  else
  (M.aJ aE (l.2.2.take k) x).bind fun y6=>
  some (y6.1,y6.2))):Option (Bool×aB.den)))=some (decide (fc l.1 x.1\/fc l.2.1 x.1\/fc (l.2.2.take k) x.1),x):=by
  apply Wp.eq;simp only[qT _ _ hw.1.1,tX _ _ hw.2.1.1,z6 (l.2.2.take k) _ (by rw[NM];unfold maxLen;omega),W_,implies_true,forall_const,reduceCtorEq];exact⟨fun h=>by rw[decide_eq_true (Or.inl h)],fun h1=>⟨fun h=>by rw[decide_eq_true (Or.inr (Or.inl h))],fun h2=>congrArg (fun b=>(b,x)) (decide_eq_decide.2 ⟨fun h=> .inr (.inr h),fun h=>(h.resolve_left h1).resolve_left h2⟩)⟩⟩
 rw[LS,aji,tx _ lM,aji,hE];by_cases h1:lA x.1=false
 .rw[if_pos (by simp[h1]),if_pos h1];exact .some rfl
 rw[if_neg (by simpa using h1),if_neg h1];by_cases h2:fc l.1 x.1\/fc l.2.1 x.1\/fc (l.2.2.take k) x.1
 .rw[if_pos (decide_eq_true h2),if_pos h2];exact .some rfl
 rw[if_neg (by simpa using h2),if_neg h2];have Rj:qQ l k x↔(x.2.1:Int)≠-1/\((x.2.1:Int)<0\/(k:Int)<=x.2.1\/∃y,l.2.2[(x.2.1:Int).toNat]? =some y/\(y.2.1:Int)≠-1):=Iff.rfl
 have Vc:((if(!decide ((x.2.1:Int)=(-1:Int)))=true then
  (if(decide ((x.2.1:Int)<(0:Int)))=true then
  some true
  else
  (if(decide ((k:Int)<=x.2.1))=true then
  some true
  else
  (idx (l.2.2.take k) x.2.1).bind fun x9=>
  some (!decide ((x9.2.1:Int)=(-1:Int)))))
  else
  some false):Option (Bool))=some (decide (qQ l k x)):=by
  apply Wp.eq;simp only[W_,implies_true,forall_const,reduceCtorEq]
  obtain⟨(m:Int),hm⟩:∃m:Int,m=x.2.1:=⟨_,rfl⟩
  simp only[<-hm]at Rj⊢;refine⟨fun hp=>⟨fun h=>(Rj.2 ⟨hp, .inl h⟩),fun h3=>⟨fun h=>(Rj.2 ⟨hp, .inr (.inl h)⟩),fun h4=>dX.2 ⟨by dsimp only[ae,Row.den]at*;omega,?_⟩⟩⟩,fun hp h=>(Rj.1 h).1 hp⟩
  have hmn:m.toNat<k:=by dsimp only[ae,Row.den]at*;omega
  rw[List.getElem_take];have oi:l.2.2[m.toNat]? =some (l.2.2[m.toNat]'(by omega)):=ajl (by omega);rw[<-decide_not];refine decide_eq_decide.2 ⟨fun h g=>?_,fun h=>akp.1 fun h'=>h (Rj.2 ⟨hp, .inr (.inr ⟨_,oi,h'⟩)⟩)⟩;obtain⟨_,g1|g1|⟨y,g1,g2⟩⟩:=Rj.1 g
  .exact absurd g1 h3
  .exact absurd g1 h4
  .rw[oi]at g1;cases g1;exact g2 h
 rw[Vc,aji];by_cases h3:qQ l k x
 .rw[if_pos (decide_eq_true h3),if_pos h3];exact .some rfl
 rw[if_neg (by simpa using h3),if_neg h3];clear LS Vc Rj hE;dsimp only;by_cases h4:12<x.2.2.1.length
 .rw[if_pos (decide_eq_true (by omega)),if_pos h4];exact .some rfl
 rw[if_neg (by rw[decide_eq_true_eq];omega),if_neg h4];by_cases h5:12<x.2.2.2.1.length
 .rw[if_pos (decide_eq_true (by omega)),if_pos h5];exact .some rfl
 rw[if_neg (by rw[decide_eq_true_eq];omega),if_neg h5,Vb];unfold Iw;simp only[W_,implies_true,forall_const,reduceCtorEq]
 refine Wp.count (fun s=>s) x.2.2.1.length (fun i _=>∀j,j<i->LK l x j=none) (by omega) rfl (fun j hj=>by omega) fun i c hi hs hJ=>?_
 obtain rfl:c=_:=hs;simp only[W_,implies_true,forall_const,reduceCtorEq,aY,aP];refine⟨fun ao=>?_,fun hge=>?_⟩
 .have ao:i<x.2.2.1.length:=by omega
  have hf:=Rh l x i ao;simp only[ah ao,lC (akV ao),qn l _ (x.2.2.1.take i) [] (cn _ (ajs ao)) (by rw[ajB];unfold maxLen;omega) (by simp),rW (k:=i) (a:=100) (by omega) (by omega),de (m:=x.2.2.1.length) (by omega) ao,W_,implies_true,forall_const,reduceCtorEq];refine⟨fun h=>?_,fun h=>⟨ao,cx hJ (by rw[hf,if_neg (fun g=>g h)])⟩⟩;rw[eK (hf.trans (if_pos h)) hJ ao];rfl
 rw[bE.2 fun j(hj:j<x.2.2.1.length)=>hJ j (by omega),aku];clear hJ
 refine Wp.count (fun s=>s) x.2.2.2.1.length (fun i _=>∀j,j<i->LL l x j=none) (by omega) rfl (fun j hj=>by omega) fun i c hi hs hJ=>?_
 obtain rfl:c=_:=hs;simp only[W_,implies_true,forall_const,reduceCtorEq,aY,aP];refine⟨fun ao=>?_,fun hge=>?_⟩
 .have ao:i<x.2.2.2.1.length:=by omega
  have hf:=Ri l x i ao;simp only[ah ao,lC (akV ao),qn l _ x.2.2.1 (x.2.2.2.1.take i) (hdf _ (ajs ao)) (by unfold maxLen;omega) (by rw[ajB];unfold maxLen;omega),rW (k:=i) (a:=200) (by omega) (by omega),de (m:=x.2.2.2.1.length) (by omega) ao,W_,implies_true,forall_const,reduceCtorEq];refine⟨fun h=>?_,fun h=>⟨ao,cx hJ (by rw[hf,if_neg (fun g=>g h)])⟩⟩;rw[eK (hf.trans (if_pos h)) hJ ao];rfl
 rw[bE.2 fun j(hj:j<x.2.2.2.1.length)=>hJ j (by omega),aku];clear hJ
 refine Wp.count (fun s=>s) x.2.2.2.2.length (fun i _=>∀j,j<i->Cz l x j=none) (by omega) rfl (fun j hj=>by omega) fun i c hi hs hJ=>?_
 obtain rfl:c=_:=hs;simp only[W_,implies_true,forall_const,reduceCtorEq,aY,aP];refine⟨fun ao=>?_,fun hge=>?_⟩
 .have ao:i<x.2.2.2.2.length:=by omega
  have hf:Cz l x i=if tn l x i x.2.2.2.2[i]≠0 then some (tn l x i x.2.2.2.2[i],300+(i:Int))else none:=by
   unfold Cz;rw[ajl ao]
  have hr:M.jb aE x (i:Int) ((eB l x).1,((eB l x).2.1,((eB l x).2.2.1,((eB l x).2.2.2.1,((eB l x).2.2.2.2.1,(eB l x).2.2.2.2.2)))))=_:=Aa l x Lu wZ hT i ao;simp only[hr,rW (k:=i) (a:=300) (by omega) (by omega),de (m:=x.2.2.2.2.length) (by omega) ao,W_,implies_true,forall_const,reduceCtorEq];refine⟨fun h=>?_,fun h=>⟨ao,cx hJ (by rw[hf,if_neg (fun g=>g h)])⟩⟩;rw[eK (hf.trans (if_pos h)) hJ ao];rfl
 rw[bE.2 fun j(hj:j<x.2.2.2.2.length)=>hJ j (by omega),aku];clear hJ
 refine Wp.count (fun s=>s) x.2.2.2.1.length (fun i _=>∀j,j<i->Ev x j=none) (by omega) rfl (fun j hj=>by omega) fun i c hi hs hJ=>?_
 obtain rfl:c=_:=hs;simp only[W_,implies_true,forall_const,reduceCtorEq,aY,aP];refine⟨fun ao=>?_,fun hge=>?_⟩
 .have ao:i<x.2.2.2.1.length:=by omega
  obtain⟨tr,e1,e2,e3⟩:=hC i ao
  have hf:Ev x i=if(i:Int)∈IX x i then some (9,200+(i:Int))else none:=rfl
  simp only[e1,Ez tr _ (by unfold maxLen;omega),rW (k:=i) (a:=200) (by omega) (by omega),de (m:=x.2.2.2.1.length) (by omega) ao,W_,implies_true,forall_const,reduceCtorEq];refine⟨fun h=>?_,fun h=>⟨ao,cx hJ (by rw[hf,if_neg (fun g=>h (e3.2 g))])⟩⟩;rw[eK (hf.trans (if_pos (e3.1 h))) hJ ao];rfl
 .rw[bE.2 fun j(hj:j<x.2.2.2.1.length)=>hJ j (by omega)];rfl
theorem wJ(l:Lw)(hw:WF cF l)(nv:lK l)(hT:∀x∈l.2.2,lJ (eB l x))(hC:∀x∈l.2.2,Iz x):M.jk aE l=some (if 4<l.2.2.length then((4:Int),((3:Int),((4:Int),(0:Int))))else match cc (fun k=>(qR l k).map fun e=>(k,e)) l.2.2.length with
 |some (k,e)=>rV 3 (k:Int) (some e)
 |none=>N6):=by
 have w1:=hw.2.2.1;unfold maxLen at w1;apply Wp.eq;unfold M.jk;simp only[W_,implies_true,forall_const,reduceCtorEq];refine⟨fun h=>by rw[if_pos (by omega)],fun h8=>?_⟩;rw[if_neg (by omega)]
 refine Wp.count (fun s=>s) l.2.2.length (fun i _=>∀j,j<i->(fun k=>(qR l k).map fun e=>(k,e)) j=none) w1 rfl (fun j hj=>by omega) fun i c hi hs hJ=>?_
 obtain rfl:c=_:=hs;simp only[W_,implies_true,forall_const,reduceCtorEq,aY,aP];refine⟨fun ao=>?_,fun hge=>?_⟩
 .have ao:i<l.2.2.length:=by omega
  simp only[xp l hw nv i ao (hT _ (ajs ao)) (hC _ (ajs ao)),de w1 ao,W_,implies_true,forall_const,reduceCtorEq];refine⟨fun h=>?_,fun h=>⟨ao,cx hJ ?_⟩⟩
  .cases he:qR l i with
   |none=>rw[he]at h;exact absurd rfl h
   |some e=>rw[eK (Rf he) hJ ao];rfl
  .cases he:qR l i with
   |none=>rfl
   |some e=>rw[he]at h;exact absurd h (CB he)
 .rw[bE.2 fun j hj=>hJ j (by omega)];rfl
theorem CF(l:Lw)(hw:WF cF l)(nv:lK l)(hT:∀x∈l.2.2,lJ (eB l x))(hC:∀x∈l.2.2,Iz x):M.iK aE l=some (Ew l):=by
 have bad:∀(f:Nat->Option (Int×Int))(m:Nat)(sec:Int)(k:Nat)(e:Int×Int),(∀i e,f i=some e->e.1≠0)->cc (fun k=>(f k).map fun e=>(k,e)) m=some (k,e)->(!decide ((rV sec (k:Int) (some e)).1=0))=true:=fun f m sec k e hf he=>by
  obtain⟨j,_,hj,_⟩:=fB he;obtain⟨e',he',h2⟩:=Option.map_eq_some_iff.1 hj;cases h2;have:e.1≠0:=hf _ _ he'
  show(!decide (e.1=0))=true
  simp[this]
 unfold M.iK Ew;rw[xo l hw,aji];by_cases h1:8<l.1.length
 .rw[if_pos h1,if_pos h1];rfl
 rw[if_neg h1,if_neg h1]
 cases hA:cc (fun k=>(nQ l k).map fun e=>(k,e)) l.1.length with
 |some p=>
  obtain⟨k,e⟩:=p;dsimp only;rw[if_pos (bad _ _ _ _ _ (fun i e=>tq) hA)]
 |none=>
  dsimp only;rw[if_neg (by simp[N6]),wH l hw,aji];by_cases h2:8<l.2.1.length
  .rw[if_pos h2,if_pos h2];rfl
  rw[if_neg h2,if_neg h2]
  cases hB:cc (fun k=>(oA l k).map fun e=>(k,e)) l.2.1.length with
  |some p=>
   obtain⟨k,e⟩:=p;dsimp only;rw[if_pos (bad _ _ _ _ _ (fun i e=>CA) hB)]
  |none=>
   dsimp only;rw[if_neg (by simp[N6]),wJ l hw nv hT hC,aji];rfl
end L
end Go.Proofs.YtmihpkfkbfgigaaGreatDoor
end
section
open _root_.Int renaming eq_ofNat_of_zero_le->ajC,tdiv->ajE,tmod->ajY,toNat_natCast->ajr
open _root_.Go.IntKind renaming i64->ajj
open _root_.List renaming append_nil->akd,drop_eq_getElem_cons->ajX,drop_of_length_le->aj1,getD->ajN,getElem?_eq_getElem->ajl,getElem_append_left->ajv,getElem_append_right->ajA,getElem_mem->ajs,length_append->ajm,length_cons->ajy,length_map->ajM,length_take->ajB,mem_append->ajL,mem_of_getElem?->aka,mem_singleton->ajz,replicate->ajq,replicate_succ->ako,set_append_right->aj4,take_length->ajD
open _root_.Nat renaming le_refl->ajo
open _root_.Option renaming bind_some->aji
open _root_.Option.some renaming inj->ajk
namespace Go.Proofs.YtmihpkfkbfgigaaGreatDoor
open Go Go.RowKit
set_option maxRecDepth 100000
set_option linter.unusedSimpArgs false
namespace L
theorem LU(op:Int):M.dh aE op=some (ar op):=by
 apply Wp.eq;unfold M.dh ar;simp only[W_,implies_true,forall_const,reduceCtorEq];omega
theorem LV(op:Int):M.fD aE op=some (decide ((1<=op/\op<=8)\/(14<=op/\op<=16)\/op=33\/op=34\/(36<=op/\op<=39))):=by
 apply Wp.eq;unfold M.fD;simp only[W_,implies_true,forall_const,reduceCtorEq];omega
theorem bu(k:Int):M.dt aE k=some (decide (k=2\/k=3\/k=4)):=by
 apply Wp.eq;unfold M.dt;simp only[W_,implies_true,forall_const,reduceCtorEq];omega
theorem aU(k:Int):M.eR aE k=some (decide (0<=k/\k<=5)):=by
 apply Wp.eq;unfold M.eR;simp only[W_,implies_true,forall_const,reduceCtorEq];omega
theorem bO(m k:Int)(s:nP):M.cy aE m k s=some (if C1 m (k,(0:Int)) s.1 then((k,(0:Int)),(0:Int))else(((0:Int),(0:Int)),(3:Int))):=by
 apply Wp.eq;unfold M.cy;simp only[Gg,W_,implies_true,forall_const,reduceCtorEq];have hI:C1 m (k,(0:Int)) s.1↔(HD (k,(0:Int)) s.1).1<=m/\m<=(HD (k,(0:Int)) s.1).2:=Iff.rfl;exact⟨fun h=>by rw[if_neg fun g=>by have:=hI.1 g;omega],fun h=>⟨fun h'=>by rw[if_neg fun g=>by have:=hI.1 g;omega],fun h'=>by rw[if_pos (hI.2 (by omega))]⟩⟩
noncomputable def pN(n:Ty)(l:List Ty)(s:nP):Option (Ty×Int):=
 if(n.2:Int)≠0/\¬((1<=(n.1:Int)/\(n.1:Int)<=8)\/(14<=(n.1:Int)/\(n.1:Int)<=16)\/(n.1:Int)=33\/(n.1:Int)=34\/(36<=(n.1:Int)/\(n.1:Int)<=39))then some (((0:Int),(0:Int)),2)else M.aK aE n l s
def p3(t:Ty):Prop:=1<=(t.1:Int)/\(t.1:Int)<=5->(t.2:Int)=0
theorem Rk(op m:Int)(a b:Ty)(s:nP)(h2:ar op=2)(ha:p3 a)(_:p3 b):pN (op,m) [a,b] s=M.aF aE (op,m) [a,b] s:=by
 have hr:=wE (op,m) s
 have hR:Cy op m s↔(14<=op/\op<=16->0<=m/\m<=5):=by
  unfold ar at h2;unfold Cy;exact⟨fun h=>h.2.1,fun h=>⟨fun _=>by omega,h,fun _=>by omega,fun _=>by omega⟩⟩
 have fM:op=11\/op=12\/op=13\/op=14\/op=15\/op=16\/op=17\/op=18\/op=19\/op=20\/op=21\/op=22\/op=23\/op=24\/op=27\/op=28\/op=29\/op=30:=by unfold ar at h2;omega
 obtain⟨(a1:Int),(a2:Int)⟩:=a;obtain⟨(b1:Int),(b2:Int)⟩:=b;simp only[p3]at ha
 rcases fM with rfl|rfl|rfl|rfl|rfl|rfl|rfl|rfl|rfl|rfl|rfl|rfl|rfl|rfl|rfl|rfl|rfl|rfl
 all_goals
  unfold pN M.aK M.cu M.fS M.aF M.bc M.gv M.kC;simp[ax,aA,aw,aV,bu,aU,bM,hr,hR,idx,zQ]
  grind
theorem LW(op m:Int)(a b c:Ty)(s:nP)(h3:ar op=3):pN (op,m) [a,b,c] s=M.aF aE (op,m) [a,b,c] s:=by
 have fM:op=26:=by unfold ar at h3;omega
 subst fM;have hr:=wE ((26:Int),m) s
 have hR:Cy 26 m s:=by unfold Cy;omega
 obtain⟨(a1:Int),(a2:Int)⟩:=a;obtain⟨(b1:Int),(b2:Int)⟩:=b;obtain⟨(c1:Int),(c2:Int)⟩:=c;unfold pN M.aK M.cu M.aF M.bc;simp[ax,aA,aw,aV,bu,aU,bM,hr,hR,idx,zQ]
 grind
theorem Rl(op m:Int)(a:Ty)(s:nP)(hm:m<=9223372036854775807)(h1:ar op=1)(ha:p3 a):pN (op,m) [a] s=M.aF aE (op,m) [a] s:=by
 have hr:=wE (op,m) s
 have hR:Cy op m s↔(op=34->0<=m/\ajY m 8<=5):=by
  unfold ar at h1;unfold Cy;exact⟨fun h=>h.2.2.1,fun h=>⟨fun _=>by omega,fun _=>by omega,h,fun _=>by omega⟩⟩
 have hd:0<=m->0<=ajj.wrap (ajE m 8):=fun h=>Gb h hm (by omega)
 have ht:0<=m->0<=ajY m 8:=fun h=>Int.tmod_nonneg _ h
 have fM:op=10\/op=25\/op=31\/op=32\/op=33\/op=34:=by unfold ar at h1;omega
 obtain⟨(a1:Int),(a2:Int)⟩:=a;simp only[p3]at ha
 rcases fM with rfl|rfl|rfl|rfl|rfl|rfl
 .unfold pN M.aK M.cu M.aF M.bc M.cf;simp[ax,aA,aw,aV,bu,aU,bM,hr,hR,idx,zQ]
  grind
 .unfold pN M.aK M.cu M.aF M.bc M.cf;simp[ax,aA,aw,aV,bu,aU,bM,hr,hR,idx,zQ]
  grind
 .unfold pN M.aK M.cu M.aF M.bc M.cf;simp[ax,aA,aw,aV,bu,aU,bM,hr,hR,idx,zQ]
  grind
 .unfold pN M.aK M.cu M.aF M.bc M.cf;simp[ax,aA,aw,aV,bu,aU,bM,hr,hR,idx,zQ]
  grind
 .have i0:idx [((a1,a2):Ty)] 0=some (a1,a2):=rfl;unfold pN M.aK M.fR M.aF M.bc M.cf;by_cases h:0<=m/\m<(s.2.1.length:Int)
  .obtain⟨k,rfl⟩:=ajC h.1
   have hk:k<s.2.1.length:=by omega
   simp[ax,aA,aw,aV,bM,hr,hR,zQ,oh,bN,i0,ah hk,hk,show¬((s.2.1.length:Int)<=(k:Int)) by omega,show¬((k:Int)<0) by omega];generalize s.2.1[k]=t
   by_cases c1:jo t.2.1 s.1.length<;>by_cases c2:jo t.2.2.1 s.1.length<;>by_cases c3:((a1,a2):Ty)=t.2.1<;>simp[c1,c2,c3]
  .simp[ax,aA,aw,aV,bM,hr,hR,zQ,oh,bN,i0];by_cases IJ:m<0
   .simp[IJ,show¬0<=m by omega]
   .simp[IJ,show 0<=m by omega,show(s.2.1.length:Int)<=m by omega,show¬m<(s.2.1.length:Int) by omega]
 .have i0:idx [((a1,a2):Ty)] 0=some (a1,a2):=rfl;unfold pN M.aK M.fR M.aF M.bc M.cf;simp only[hr,hR];by_cases h:0<=m/\ajY m 8<=5
  .have hd:=hd h.1;have ht:=ht h.1;generalize ajj.wrap (ajE m 8)=j at*;generalize ajY m 8=q at*;by_cases h':j<(s.2.1.length:Int)
   .obtain⟨k,rfl⟩:=ajC hd
    have hk:k<s.2.1.length:=by omega
    simp[ax,aA,aw,aV,aU,bM,h,ht,zQ,oh,bN,i0,ah hk,hk,show¬(m<0) by omega,show¬((s.2.1.length:Int)<=(k:Int)) by omega,show¬((k:Int)<0) by omega];generalize s.2.1[k]=t;obtain⟨nm,⟨(k1:Int),(k2:Int)⟩,⟨(v1:Int),(v2:Int)⟩,rs⟩:=t;generalize s.1.length=ne;by_cases R:a1=3/\k1=3/\k2=0/\v1=4/\v2=0
    .obtain⟨rfl,rfl,rfl,rfl,rfl⟩:=R;obtain rfl:a2=0:=ha ⟨by decide,by decide⟩
     have v3:jo (((3:Int),(0:Int)):Ty) ne:=by simp[jo]
     have v4:jo (((4:Int),(0:Int)):Ty) ne:=by simp[jo]
     simp[v3,v4]
    .have hR2:(((if a1=3 then if((k1,k2):Int×Int)=(3,0)then some (decide (((v1,v2):Int×Int)=(4,0)),a1,a2)else some (false,a1,a2)else some (false,a1,a2)):Option (Bool×Int×Int)))=some (false,a1,a2):=by
      by_cases q1:a1=3<;>by_cases q2:k1=3<;>by_cases q3:k2=0<;>by_cases q4:v1=4<;>by_cases q5:v2=0<;>simp[q1,q2,q3,q4,q5]<;>exact absurd ⟨q1,q2,q3,q4,q5⟩ R
     rw[hR2];by_cases c1:jo ((k1,k2):Ty) ne
     .by_cases c2:jo ((v1,v2):Ty) ne
      .by_cases e:((a1,a2):Ty)=(k1,k2)
       .injection e with e1 e2
        subst e1 e2;have Vz:=c1;have SL:=c2;simp only[jo]at Vz SL;dsimp only[ae,Row.den]at Vz SL;by_cases f:a1=3
        .have g:¬v1=4:=fun g=>R (by omega)
         subst f
         obtain rfl:a2=0:=by omega
         simp[c1,c2,g]
        .simp[c1,c2,f]
       .simp[c1,c2,e]
      .simp[c1,c2]
     .simp[c1]
   .simp[ax,aA,aw,aV,aU,bM,h,ht,zQ,oh,bN,i0,show¬(m<0) by omega,show(s.2.1.length:Int)<=j by omega,show¬j<0 by omega]
  .simp[ax,aA,aw,aV,aU,bM,zQ,oh,bN,i0];by_cases IJ:m<0
   .simp[IJ,show¬0<=m by omega]
   .have h5:5<ajY m 8:=by omega
    simp[IJ,h5,show¬ajY m 8<=5 by omega]
theorem aW(m:Int)(ls:List Ty)(s:nP):M.dC aE m ls s=if 0<=m/\m<(ls.length:Int)then(match ls[m.toNat]? with
 |some t=>if jo t s.1.length then some (t,(0:Int))else some (((0:Int),(0:Int)),(8:Int))
 |none=>none)else some (((0:Int),(0:Int)),(6:Int)):=by
 unfold M.dC;by_cases h:0<=m/\m<(ls.length:Int)
 .obtain⟨k,rfl⟩:=ajC h.1
  have hk:k<ls.length:=by omega
  rw[if_neg (by rw[decide_eq_true_eq];omega),aji,if_neg (by rw[decide_eq_true_eq];omega),ah hk,aji,oh,aji,if_pos h,ajr,ajl hk];by_cases hv:jo ls[k] s.1.length
  .rw[if_neg (by simp[hv])];simp only[if_pos hv,aji]
  .rw[if_pos (by simp[hv])];simp only[if_neg hv]
 .rw[if_neg h];by_cases h0:m<0
  .rw[if_pos (decide_eq_true h0)];rfl
  .rw[if_neg (by simpa using h0),aji,if_pos (decide_eq_true (by omega))]
theorem LX{α:Type}(ls:List α)(m:Int):idx ls m=if 0<=m then ls[m.toNat]? else none:=rfl
theorem zero_eq(op m:Int)(s:nP)(hm:m<=9223372036854775807)(h0:ar op=0):pN (op,m) [] s=M.aF aE (op,m) [] s:=by
 have hr:=wE (op,m) s
 have hR:Cy op m s↔(1<=op/\op<=5->C1 m (op,(0:Int)) s.1)/\(op=6->0<=m):=by
  unfold ar at h0;unfold Cy;exact⟨fun h=>⟨h.1,h.2.2.2⟩,fun h=>⟨h.1,fun _=>by omega,fun _=>by omega,h.2⟩⟩
 have hd:0<=m->0<=ajj.wrap (ajE m 16):=fun h=>Gb h hm (by omega)
 have fM:op=1\/op=2\/op=3\/op=4\/op=5\/op=6\/op=7\/op=8\/op=9\/op=35\/op=36\/op=37\/op=38\/op=39:=by unfold ar at h0;omega
 have v:∀k:Int,1<=k->k<=5->jo ((k,(0:Int)):Ty) s.1.length:=fun k h1 h2=> .inl ⟨h1,h2,rfl⟩
 rcases fM with rfl|rfl|rfl|rfl|rfl|rfl|rfl|rfl|rfl|rfl|rfl|rfl|rfl|rfl
 .unfold pN M.aK M.bn M.bF M.aF M.bc M.bS;have v:=v 1 (by decide) (by decide)
  by_cases h:C1 m ((1:Int),(0:Int)) s.1<;>simp[ax,aA,aw,aV,bu,aU,bO,aW,bM,hr,hR,bN,h,v]
 .unfold pN M.aK M.bn M.bF M.aF M.bc M.bS;have v:=v 2 (by decide) (by decide)
  by_cases h:C1 m ((2:Int),(0:Int)) s.1<;>simp[ax,aA,aw,aV,bu,aU,bO,aW,bM,hr,hR,bN,h,v]
 .unfold pN M.aK M.bn M.bF M.aF M.bc M.bS;have v:=v 3 (by decide) (by decide)
  by_cases h:C1 m ((3:Int),(0:Int)) s.1<;>simp[ax,aA,aw,aV,bu,aU,bO,aW,bM,hr,hR,bN,h,v]
 .unfold pN M.aK M.bn M.bF M.aF M.bc M.bS;have v:=v 4 (by decide) (by decide)
  by_cases h:C1 m ((4:Int),(0:Int)) s.1<;>simp[ax,aA,aw,aV,bu,aU,bO,aW,bM,hr,hR,bN,h,v]
 .unfold pN M.aK M.bn M.bF M.aF M.bc M.bS;have v:=v 5 (by decide) (by decide)
  by_cases h:C1 m ((5:Int),(0:Int)) s.1<;>simp[ax,aA,aw,aV,bu,aU,bO,aW,bM,hr,hR,bN,h,v]
 .unfold pN M.aK M.bn M.bF M.aF M.bc M.bS;by_cases h:m<0
  .simp[ax,aA,aw,aV,bu,aU,bO,aW,bM,hr,hR,bN,h]
  .have hd:=hd (by omega)
   have h':0<=m:=by omega
   generalize ajj.wrap (ajE m 16)=j at*;generalize ajY m 16=q at*;by_cases hj:j<(s.1.length:Int)
   .obtain⟨k,rfl⟩:=ajC hd
    have hk:k<s.1.length:=by omega
    have v6:jo (((6:Int),(k:Int)):Ty) s.1.length:= .inr ⟨rfl,by show(0:Int)<=(k:Int);omega,hj⟩;by_cases hq:q<(s.1[k].2.length:Int)
    .simp[ax,aA,aw,aV,bu,aU,bO,aW,bM,hr,hR,bN,h,h',hk,ah hk,v6,hq,show¬(s.1.length:Int)<=(k:Int) by omega,show¬(s.1[k].2.length:Int)<=q by omega]
    .simp[ax,aA,aw,aV,bu,aU,bO,aW,bM,hr,hR,bN,h,h',hk,ah hk,v6,hq,show¬(s.1.length:Int)<=(k:Int) by omega,show(s.1[k].2.length:Int)<=q by omega]
   .simp[ax,aA,aw,aV,bu,aU,bO,aW,bM,hr,hR,bN,h,h',hj,show(s.1.length:Int)<=j by omega]
 .unfold pN M.aK M.bn M.bF M.aF M.bc M.bS;by_cases h:0<=m/\m<(s.2.2.1.length:Int)
  .obtain⟨k,rfl⟩:=ajC h.1
   have hk:k<s.2.2.1.length:=by omega
   by_cases hv:jo s.2.2.1[k] s.1.length<;>simp[ax,aA,aw,aV,bu,aU,bO,aW,bM,hr,hR,bN,hk,ah hk,hv]
  .by_cases h0:0<=m
   .have h1:¬m<(s.2.2.1.length:Int):=fun g=>h ⟨h0,g⟩
    simp[ax,aA,aw,aV,bu,aU,bO,aW,bM,hr,hR,bN,h0,h1]
   .simp[ax,aA,aw,aV,bu,aU,bO,aW,bM,hr,hR,bN,h0]
 .unfold pN M.aK M.bn M.bF M.aF M.bc M.bS;by_cases h:0<=m/\m<(s.2.2.2.1.length:Int)
  .obtain⟨k,rfl⟩:=ajC h.1
   have hk:k<s.2.2.2.1.length:=by omega
   by_cases hv:jo s.2.2.2.1[k] s.1.length<;>simp[ax,aA,aw,aV,bu,aU,bO,aW,bM,hr,hR,bN,hk,ah hk,hv]
  .by_cases h0:0<=m
   .have h1:¬m<(s.2.2.2.1.length:Int):=fun g=>h ⟨h0,g⟩
    simp[ax,aA,aw,aV,bu,aU,bO,aW,bM,hr,hR,bN,h0,h1]
   .simp[ax,aA,aw,aV,bu,aU,bO,aW,bM,hr,hR,bN,h0]
 .unfold pN M.aK M.bn M.bF M.aF M.bc M.bS;have v:=v 5 (by decide) (by decide);by_cases h:m=0
  .subst h;simp[ax,aA,aw,aV,bu,aU,bO,aW,bM,hr,hR,bN,v]
  .simp[ax,aA,aw,aV,bu,aU,bO,aW,bM,hr,hR,bN,h]
 .unfold pN M.aK M.bn M.bF M.aF M.bc M.bS;have v:=v 2 (by decide) (by decide);by_cases h:m=0
  .subst h;cases hs:s.2.2.2.2.2<;>simp[ax,aA,aw,aV,bu,aU,bO,aW,bM,hr,hR,bN,v,hs]
  .simp[ax,aA,aw,aV,bu,aU,bO,aW,bM,hr,hR,bN,h]
 .unfold pN M.aK M.bn M.bF M.aF M.bc M.bS;cases hs:s.2.2.2.2.2
  .simp[ax,aA,aw,aV,bu,aU,bO,aW,bM,hr,hR,bN,hs]
  by_cases h:0<=m/\m<(s.2.2.2.2.1.length:Int)
  .obtain⟨k,rfl⟩:=ajC h.1
   have hk:k<s.2.2.2.2.1.length:=by omega
   by_cases hv:jo s.2.2.2.2.1[k] s.1.length
   .simp[ax,aA,aw,aV,bu,aU,bO,aW,bM,hr,hR,bN,hk,ah hk,hv,hs];generalize s.2.2.2.2.1[k]=t at*;obtain⟨(t1:Int),(t2:Int)⟩:=t
    by_cases q2:t1=2<;>by_cases q3:t1=3<;>simp[q2,q3]
   .simp[ax,aA,aw,aV,bu,aU,bO,aW,bM,hr,hR,bN,hk,ah hk,hv,hs]
  .by_cases h0:0<=m
   .have h1:¬m<(s.2.2.2.2.1.length:Int):=fun g=>h ⟨h0,g⟩
    simp[ax,aA,aw,aV,bu,aU,bO,aW,bM,hr,hR,bN,h0,h1,hs]
   .simp[ax,aA,aw,aV,bu,aU,bO,aW,bM,hr,hR,bN,h0,hs]
 .unfold pN M.aK M.bn M.bF M.aF M.bc M.bS;cases hs:s.2.2.2.2.2
  .simp[ax,aA,aw,aV,bu,aU,bO,aW,bM,hr,hR,bN,hs]
  by_cases h:0<=m/\m<(s.2.2.2.2.1.length:Int)
  .obtain⟨k,rfl⟩:=ajC h.1
   have hk:k<s.2.2.2.2.1.length:=by omega
   by_cases hv:jo s.2.2.2.2.1[k] s.1.length
   .simp[ax,aA,aw,aV,bu,aU,bO,aW,bM,hr,hR,bN,hk,ah hk,hv,hs];generalize s.2.2.2.2.1[k]=t at*;obtain⟨(t1:Int),(t2:Int)⟩:=t
    by_cases q:t1=1<;>simp[q]
   .simp[ax,aA,aw,aV,bu,aU,bO,aW,bM,hr,hR,bN,hk,ah hk,hv,hs]
  .by_cases h0:0<=m
   .have h1:¬m<(s.2.2.2.2.1.length:Int):=fun g=>h ⟨h0,g⟩
    simp[ax,aA,aw,aV,bu,aU,bO,aW,bM,hr,hR,bN,h0,h1,hs]
   .simp[ax,aA,aw,aV,bu,aU,bO,aW,bM,hr,hR,bN,h0,hs]
 .unfold pN M.aK M.bn M.bF M.aF M.bc M.bS;cases hs:s.2.2.2.2.2
  .simp[ax,aA,aw,aV,bu,aU,bO,aW,bM,hr,hR,bN,hs]
  by_cases h:0<=m/\m<(s.2.2.2.2.1.length:Int)
  .obtain⟨k,rfl⟩:=ajC h.1
   have hk:k<s.2.2.2.2.1.length:=by omega
   by_cases hv:jo s.2.2.2.2.1[k] s.1.length
   .simp[ax,aA,aw,aV,bu,aU,bO,aW,bM,hr,hR,bN,hk,ah hk,hv,hs];generalize s.2.2.2.2.1[k]=t at*;obtain⟨(t1:Int),(t2:Int)⟩:=t
    by_cases q:t1=1<;>simp[q]
   .simp[ax,aA,aw,aV,bu,aU,bO,aW,bM,hr,hR,bN,hk,ah hk,hv,hs]
  .by_cases h0:0<=m
   .have h1:¬m<(s.2.2.2.2.1.length:Int):=fun g=>h ⟨h0,g⟩
    simp[ax,aA,aw,aV,bu,aU,bO,aW,bM,hr,hR,bN,h0,h1,hs]
   .simp[ax,aA,aw,aV,bu,aU,bO,aW,bM,hr,hR,bN,h0,hs]
 .unfold pN M.aK M.bn M.bF M.aF M.bc M.bS;cases hs:s.2.2.2.2.2
  .simp[ax,aA,aw,aV,bu,aU,bO,aW,bM,hr,hR,bN,hs]
  by_cases h:0<=m/\m<(s.2.2.2.2.1.length:Int)
  .obtain⟨k,rfl⟩:=ajC h.1
   have hk:k<s.2.2.2.2.1.length:=by omega
   by_cases hv:jo s.2.2.2.2.1[k] s.1.length
   .simp[ax,aA,aw,aV,bu,aU,bO,aW,bM,hr,hR,bN,hk,ah hk,hv,hs];generalize s.2.2.2.2.1[k]=t at*;obtain⟨(t1:Int),(t2:Int)⟩:=t
    by_cases q2:t1=2<;>by_cases q3:t1=3<;>by_cases q4:t1=4<;>by_cases q5:t1=5<;>simp[q2,q3,q4,q5]
   .simp[ax,aA,aw,aV,bu,aU,bO,aW,bM,hr,hR,bN,hk,ah hk,hv,hs]
  .by_cases h0:0<=m
   .have h1:¬m<(s.2.2.2.2.1.length:Int):=fun g=>h ⟨h0,g⟩
    simp[ax,aA,aw,aV,bu,aU,bO,aW,bM,hr,hR,bN,h0,h1,hs]
   .simp[ax,aA,aw,aV,bu,aU,bO,aW,bM,hr,hR,bN,h0,hs]
theorem Vd(n:Ty)(l:List Ty)(s:nP)(hw:WF aa n)(hl:(l.length:Int)=ar n.1)(hN:∀t∈l,p3 t):pN n l s=some (Gc n l s):=by
 rw[<-LG hw hl];obtain⟨(op:Int),(m:Int)⟩:=n;have hm:m<=9223372036854775807:=hw.2.2;have h3:=jP op;dsimp only at hl
 match l,hl with
 |[],hl=>exact zero_eq op m s hm hl.symm
 |[a],hl=>exact Rl op m a s hm hl.symm (hN a (by simp))
 |[a,b],hl=>exact Rk op m a b s hl.symm (hN a (by simp)) (hN b (by simp))
 |[a,b,c],hl=>exact LW op m a b c s hl.symm
 |a::b::c::d::l,hl=>simp at hl;omega
theorem jo.nrm{t:Ty}{n:Nat}(h:jo t n):p3 t:=fun h'=>by
 obtain⟨(k:Int),(e:Int)⟩:=t
 rcases h with h|h
 .exact h.2.2
 .dsimp only[ae,Row.den]at*;omega
def Pc{α:Type}(m:Option α)(Q:α->Prop):Prop:=∀r,m=some r->Q r
theorem iO{α:Type}{x:α}{Q:α->Prop}:Pc (some x) Q↔Q x:=⟨fun h=>h x rfl,fun h r e=>by cases e;exact h⟩
theorem fC{α β:Type}{m:Option α}{k:α->Option β}{Q:β->Prop}:Pc (m.bind k) Q↔Pc m fun x=>Pc (k x) Q:=by
 constructor
 .intro h x hx r hr;exact h r (by rw[hx];exact hr)
 .intro h r hr;obtain⟨x,hx,hr⟩:=Option.bind_eq_some_iff.1 hr;exact h x hx r hr
theorem lL{α:Type}{c:Prop}[Decidable c]{a b:Option α}{Q:α->Prop}:Pc (if c then a else b) Q↔(c->Pc a Q)/\(¬c->Pc b Q):=by
 split<;>simp_all
theorem Pc.of{α:Type}{m:Option α}{Q:α->Prop}(h:∀x,Q x):Pc m Q:=fun x _=>h x
theorem p3.kind(k:Int):p3 ((k,(0:Int)):Ty):=fun _=>rfl
theorem LY(n:Ty)(s:nP):Pc (M.bS aE n s) fun r=>r.2=true->p3 r.1:=by
 have ho:∀k,M.gH aE k=some (decide (k=2\/k=3\/k=4\/k=5)):=aw;unfold M.bS;rw[fC]
 refine Pc.of fun j=>?_
 simp only[bN,ho,aji];by_cases hv:jo j s.1.length
 .simp only[fC,lL,iO];simp[hv.nrm]
 .simp[hv,fC,lL,iO]
theorem EB(n a:Ty)(s:nP)(ha:p3 a):Pc (M.cf aE n a s) fun r=>r.2=true->p3 r.1:=by
 unfold M.cf;simp only[aV,aA,bN,aji,fC,lL,iO];refine⟨fun _ _=>ha,fun _=>⟨fun _ _=>ha,fun _=>?_⟩⟩
 have Mm:Pc (idx s.2.1 n.2) fun x=>(decide (jo x.2.1 s.1.length)=true->(decide (jo x.2.2.1 s.1.length)=true->oD aa a x.2.1=true->p3 x.2.2.1)/\(¬decide (jo x.2.2.1 s.1.length)=true->false=true->p3 x.2.2.1))/\(¬decide (jo x.2.1 s.1.length)=true->false=true->p3 x.2.2.1):=Pc.of fun x=>⟨fun _=>⟨fun h _=>(of_decide_eq_true h:jo x.2.2.1 s.1.length).nrm,fun _ h=>(by cases h)⟩,fun _ h=>(by cases h)⟩
 have sd:Pc (idx s.2.1 (ajj.wrap (ajE n.2 8))) fun x=>(decide ((a.1:Int)=3)=true->(oD aa x.2.1 ((3:Int),(0:Int))=true->oD aa x.2.2.1 ((4:Int),(0:Int))=true->p3 a)/\(¬oD aa x.2.1 ((3:Int),(0:Int))=true->false=true->p3 a))/\(¬decide ((a.1:Int)=3)=true->false=true->p3 a):=Pc.of fun x=>⟨fun _=>⟨fun _ _=>ha,fun _ _=>ha⟩,fun _ _=>ha⟩
 exact⟨fun _=>⟨fun _ _=>p3.kind 2,fun _=>⟨fun _=>Mm,fun _=>sd⟩⟩,fun _=>⟨fun _ _=>p3.kind 2,fun _=>⟨fun _=>Mm,fun _=>sd⟩⟩⟩
theorem EC(op:Int)(a b:Ty)(ha:p3 a):Pc (M.gv aE op a b) fun r=>r.2=true->p3 r.1:=by
 have hk:∀k:Int,p3 ((k,(0:Int)):Ty):=p3.kind;unfold M.gv M.kC;simp only[aV,aA,aw,aji,fC,lL,iO];simp[ha,hk]
theorem Oe(n:Ty)(l:List Ty)(s:nP)(hw:WF aa n)(hl:(l.length:Int)=ar n.1)(hN:∀t∈l,p3 t)(h0:(Gc n l s).2=0):p3 (Gc n l s).1:=by
 have oi:∀i,Pc (idx l i) p3:=fun i x hx=>by
  unfold idx at hx;split at hx
  .exact hN _ (aka hx)
  .cases hx
 have key:Pc (M.aF aE n l s) fun r=>r.2=0->p3 r.1:=by
  unfold M.aF;rw[fC]
  refine Pc.of fun j1=>?_
  rw[lL];refine⟨fun _=>iO.2 fun h=>(by cases h),fun _=>?_⟩;rw[fC]
  refine Pc.of fun y3=>?_
  rw[lL];refine⟨fun _=>iO.2 fun h=>(by cases h),fun _=>?_⟩;rw[fC]
  refine Pc.of fun y4=>?_
  rw[lL];refine⟨fun _=>iO.2 fun h=>(by cases h),fun _=>?_⟩;rw[fC]
  have fin:∀{m:Option (Bool×Ty)},Pc m (fun j=>j.1=true->p3 j.2)->Pc m fun j5=>Pc (if(!j5.1)=true then some (((0:Int),(0:Int)),(8:Int))else some (j5.2,(0:Int))) fun r:Ty×Int=>r.2=0->p3 r.1:=fun{m}h j hj=>by
   have:=h j hj;refine lL.2 ⟨fun _=>iO.2 fun h=>(by cases h),fun h=>iO.2 fun _=>this (by simpa using h)⟩
  refine fin ?_;rw[lL];refine⟨fun _=>?_,fun _=>?_⟩
  .rw[fC]
   exact fun x hx=>iO.2 fun h=>LY n s x hx h
  rw[lL];refine⟨fun _=>?_,fun _=>?_⟩
  .rw[fC]
   refine fun a ha=>fC.2 ?_
   exact fun x hx=>iO.2 fun h=>EB n a s (oi _ a ha) x hx h
  rw[lL];refine⟨fun _=>?_,fun _=>?_⟩
  .rw[fC]
   refine fun a ha=>fC.2 fun b _=>fC.2 ?_
   exact fun x hx=>iO.2 fun h=>EC n.1 a b (oi _ a ha) x hx h
  .rw[fC]
   refine fun a ha=>?_
   have ha:=oi _ a ha;simp only[fC,lL,iO]
   refine Pc.of fun x=>⟨fun _=>Pc.of fun y=>Pc.of fun z=>fun _=>ha,fun _ _=>ha⟩
 exact key _ (LG hw hl) h0
theorem zN(st:List Nat)(m:Nat)(v:Nat):aQ (dq st++ajq (m+1) (0:Int)) (st.length:Int) (v:Int)=dq (st++[v])++ajq m (0:Int):=by
 unfold aQ;rw[ajr,aj4 _ _ (by simp),ako];simp
theorem ta(st:List Nat)(m:Nat)(u v:Nat):aQ (dq (st++[u])++ajq m (0:Int)) (st.length:Int) (v:Int)=dq (st++[v])++ajq m (0:Int):=by
 unfold aQ;rw[ajr,List.set_append_left _ _ (by simp)]
 congr 1
 simp only[dq,List.map_append];rw[aj4 _ _ (by simp)];simp
theorem ED(e:List Ty):M.eQ aE e=some (pY e):=by
 apply Wp.eq;unfold M.eQ pY
 refine Wp.dec (fun h=> .some ?_) fun h1=>?_
 .rw[if_pos (by omega)]
 rw[if_neg (show¬48<e.length by omega)]
 refine Wp.dec (fun h=> .some ?_) fun h2=>?_
 .rw[if_pos (show e.length=0 by omega)]
 rw[if_neg (show¬e.length=0 by omega)]
 have uI:mI (e.length:Int) (0:Int)=some (ajq e.length 0):=by
  unfold mI;rw[if_pos (by omega),ajr]
 rw[uI];simp only[aji];refine Wp.join (Wp.loop (fun s:Int×List Int×List Int=>∃st sk:List Nat,s=((st.length:Int),dq st++ajq (e.length-st.length) 0,dq sk)/\st.length<=e.length/\sk.length<=12/\jC (e.drop st.length) st.length st sk=jC e 0 [] []) (fun s=>(e.length-s.1).toNat) ⟨[],[],by simp,by simp,by simp,by simp⟩ (by simp only;unfold aE;omega) ?_)
 rintro _ ⟨st,sk,rfl,eM,Mp,bw⟩
 simp only
 refine Wp.dec (fun hk=>?_) fun hk=> .some ?_
 case refine_2=>
  have hd:e.drop st.length=[]:=aj1 (by omega);rw[hd]at bw;rw[<-bw]
  have h0:e.length-st.length=0:=by omega
  rw[h0];simp only[jC,List.replicate_zero,akd]
  show Wp _ _
  refine Wp.dec (fun h=> .some ?_) fun h=> .some ?_
  .rw[if_pos (by simp at h;omega)]
  .rw[if_neg (by simp at h;omega)]
 have dO:st.length<e.length:=by omega
 have hd:e.drop st.length=e[st.length]::e.drop (st.length+1):=ajX dO
 obtain⟨m,hm⟩:∃m,e.length-st.length=m+1:=⟨e.length-st.length-1,by omega⟩
 rw[hd]at bw;rw[ah dO,hm];simp only[aji,LU];generalize fM:(e[st.length].1:Int)=op;rw[jC]at bw;rw[fM]at bw;have Ie:=jP op
 refine Wp.dec (fun h=> .some ?_) fun Ef=>?_
 .rw[if_pos h]at bw
  show _=_
  rw[<-bw]
 rw[if_neg Ef]at bw
 refine Wp.dec (fun h=> .some ?_) fun hlen=>?_
 .rw[if_pos (by simpa using h)]at bw
  show _=_
  rw[<-bw]
 have hlen:¬(sk.length:Int)<ar op:=by simpa using hlen
 rw[if_neg hlen]at bw
 obtain⟨a,ha⟩:∃a:Nat,ar op=a:=⟨(ar op).toNat,by omega⟩
 rw[ha]at bw Ef hlen Ie⊢
 have abf:a<=sk.length:=by omega
 have e6:idx (dq st++ajq (m+1) (0:Int)) (st.length:Int)=some 0:=by
  rw[ah (by simp)];rw[ajA (by simp)];simp
 rw[e6]
 have hw:ajj.wrap (((dq sk).length:Int)-(a:Int))=((sk.length-a:Nat):Int):=by
  rw[ajM,aM (by omega) (by omega)];omega
 have hs:mi (a:Int) st.length sk=(if a=0 then st.length else sk.getD (sk.length-a) 0):=by
  unfold mi;by_cases h0:a=0
  .subst h0;simp
  .rw[if_neg (by omega),if_neg h0,ajr]
 simp only[aji,zN,hw];refine Wp.seq (· =dq (st++[mi (a:Int) st.length sk])++ajq m (0:Int)) ?_ ?_
 .refine Wp.dec (fun h=>?_) fun h=>?_
  .have ao:sk.length-a<(dq sk).length:=by simp;omega
   rw[ah ao]
   have e9:idx (dq (st++[st.length])++ajq m (0:Int)) (st.length:Int)=some (st.length:Int):=by
    rw[ah (by simp)];rw[ajv (by simp)];simp
   simp only[aji,e9,List.getElem_map,ta];refine .some ?_;rw[hs,if_neg (by omega),show sk.getD (sk.length-a) 0=sk[sk.length-a]'(by simpa using ao) by simp[ajN,show sk.length-a<sk.length by omega]]
  .refine .some ?_;rw[hs,if_pos (by omega)]
 .rintro _ rfl
  generalize mi (a:Int) st.length sk=s at bw⊢
  have wV:fa (dq sk) (0:Int) ((sk.length-a:Nat):Int)=some (dq (sk.take (sk.length-a))):=by
   rw[fW (by simp)];simp
  have e11:idx (dq (st++[s])++ajq m (0:Int)) (st.length:Int)=some (s:Int):=by
   rw[ah (by simp)];rw[ajv (by simp)];simp
  have QW:bZ (dq (sk.take (sk.length-a))) [(s:Int)]=some (dq (sk.take (sk.length-a)++[s])):=by
   rw[bL (by simp;omega)];simp
  rw[wV];simp only[aji,e11,QW]
  have hl:(dq (sk.take (sk.length-a)++[s])).length=sk.length-a+1:=by simp
  rw[hl];rw[ajr]at bw
  refine Wp.dec (fun h=> .some ?_) fun h=> .some ?_
  .rw[if_pos (by omega)]at bw
   show _=_
   rw[<-bw]
  .rw[if_neg (by omega)]at bw;rw[az (by omega)];refine⟨⟨st++[s],sk.take (sk.length-a)++[s],?_,by simp;omega,by simp;omega,?_⟩,by simp only;omega⟩
   .have:e.length-(st++[s]).length=m:=by simp;omega
    rw[this];simp
   .rw[ajm];exact bw
theorem lJ.all(s:nP):lJ s:=fun e hw=>by
 apply Wp.eq;unfold M.gh;simp only[ED,LU,LV,W_,implies_true,forall_const,reduceCtorEq];refine⟨fun h=>by unfold C2;rw[if_pos h],fun h0=>?_⟩;obtain⟨h48,bP,bX,K0,QT⟩:=N5 h0
 have hT:C2 e s=match m5 s e 0 []with
  | .inl (i,c)=>(((0:Int),(0:Int)),(i:Int),c)
  | .inr gB=>(gB.headD ((0:Int),(0:Int)),0,0):=by unfold C2;rw[if_neg (by omega)];cases m5 s e 0 []<;>rfl
 refine Wp.count (fun s=>s.1) e.length (fun k q=>∃st sk,q.2.length=sk.length/\jC e 0 [] []=jC (e.drop k) k st sk/\m5 s e 0 []=m5 s (e.drop k) k q.2/\q.2.length<=k/\(0<k->q.2≠[])/\∀t∈q.2,p3 t) (by omega) rfl ⟨[],[],rfl,rfl,rfl,ajo _,fun h=>by omega,fun _ h=>by cases h⟩ fun k q hk hs hJ=>?_
 obtain⟨i,gB⟩:=q;obtain⟨st,sk,hl,hr,ht,NM,nl,Rm⟩:=hJ;dsimp only at hs hl ht NM nl Rm;subst hs;simp only[W_,implies_true,forall_const,reduceCtorEq,aY,aP];refine⟨fun ao=>?_,fun hge=>?_⟩
 .have ao:k<e.length:=by omega
  rw[ajX ao,jC]at hr;rw[ajX ao,m5]at ht;rw[QT]at hr;have ha3:=jP e[k].1;split at hr
  .cases hr
  split at hr
  .cases hr
  split at hr
  .cases hr
  rename_i ha0 ha1 ha2
  have w1:ajj.wrap ((gB.length:Int)-ar e[k].1)=((gB.length-(ar e[k].1).toNat:Nat):Int):=by rw[aM (by omega) (by omega)];omega
  have hd:((gB.drop (gB.length-(ar e[k].1).toNat)).length:Int)=ar e[k].1:=by rw[List.length_drop];omega
  have hwk:=hw _ (ajs ao)
  have VL:∀t∈gB.drop (gB.length-(ar e[k].1).toNat),p3 t:=fun t h=>Rm t (List.mem_of_mem_drop h)
  have hp:=Vd e[k] _ s hwk hd VL;have uU:=Oe e[k] _ s hwk hd VL
  have bad:∀c:Int,c≠0->(Gc e[k] (gB.drop (gB.length-(ar e[k].1).toNat)) s).2=c->(((0:Int),(0:Int)),(k:Int),c)=C2 e s:=fun c h0 hc=>by
   rw[hT,ht,if_pos (by rw[hc];exact h0),hc]
  have rest:¬((e[k].2:Int)≠0/\¬((1<=(e[k].1:Int)/\(e[k].1:Int)<=8)\/(14<=(e[k].1:Int)/\(e[k].1:Int)<=16)\/(e[k].1:Int)=33\/(e[k].1:Int)=34\/(36<=(e[k].1:Int)/\(e[k].1:Int)<=39)))->M.aK aE e[k] (gB.drop (gB.length-(ar e[k].1).toNat)) s=some (Gc e[k] (gB.drop (gB.length-(ar e[k].1).toNat)) s):=fun h=>by
   rw[<-hp];exact(if_neg h).symm
  have cond:((e[k].2:Int)≠0/\¬((1<=(e[k].1:Int)/\(e[k].1:Int)<=8)\/(14<=(e[k].1:Int)/\(e[k].1:Int)<=16)\/(e[k].1:Int)=33\/(e[k].1:Int)=34\/(36<=(e[k].1:Int)/\(e[k].1:Int)<=39)))->(Gc e[k] (gB.drop (gB.length-(ar e[k].1).toNat)) s).2=2:=fun h=>by
   have:some (Gc e[k] (gB.drop (gB.length-(ar e[k].1).toNat)) s)=some (((0:Int),(0:Int)),(2:Int)):=by
    rw[<-hp];exact if_pos h
   rw[ajk this]
  have wB:¬((e[k].2:Int)≠0/\¬((1<=(e[k].1:Int)/\(e[k].1:Int)<=8)\/(14<=(e[k].1:Int)/\(e[k].1:Int)<=16)\/(e[k].1:Int)=33\/(e[k].1:Int)=34\/(36<=(e[k].1:Int)/\(e[k].1:Int)<=39)))->Wp (M.aK aE e[k] (gB.drop (gB.length-(ar e[k].1).toNat)) s) fun y9=>(¬(y9.2:Int)=0->(((0:Int),(0:Int)),(k:Int),y9.2)=C2 e s)/\((y9.2:Int)=0->Wp (bZ (gB.take (gB.length-(ar e[k].1).toNat)) [y9.1]) fun x=>k<e.length/\ajj.wrap ((k:Int)+1)=((k+1:Nat):Int)/\∃st sk,x.length=sk.length/\jC e 0 [] []=jC (e.drop (k+1)) (k+1) st sk/\m5 s e 0 []=m5 s (e.drop (k+1)) (k+1) x/\x.length<=k+1/\(0<k+1->x≠[])/\∀t∈x,p3 t):=fun h=>by
   rw[rest h];refine .some ⟨fun hc=>bad _ hc rfl,fun hc=>?_⟩;rw[if_neg (fun g=>g hc)]at ht;refine nf.2 ⟨by rw[ajB];simp;omega,ao,de (m:=e.length) (by omega) ao,_,_,?_,QT.trans hr,ht,?_,fun _=>by simp,fun t h=>?_⟩
   .simp only[ajm,ajB,ajy,List.length_nil,hl]
   .simp only[ajm,ajB,ajy,List.length_nil];omega
   .rcases ajL.1 h with h|h
    .exact Rm t (List.mem_of_mem_take h)
    .rw[ajz.1 h];exact uU hc
  simp only[ah ao,w1,fW (show gB.length-(ar e[k].1).toNat<=gB.length by omega),lm (l:=gB) (gB.length-(ar e[k].1).toNat) gB.length rfl rfl (by omega) (ajo _),ajD,W_,implies_true,forall_const,reduceCtorEq];exact⟨fun h1=>⟨fun h2=>bad 2 (by decide) (cond ⟨h1,h2⟩),fun h2=>wB fun g=>g.2 h2⟩,fun h1=>wB fun g=>g.1 h1⟩
 .obtain rfl:k=e.length:=by omega
  rw[List.drop_length,m5]at ht;rw[hT,ht];have:gB≠[]:=nl (List.length_pos_iff.2 bP);obtain⟨a,l,rfl⟩:=List.exists_cons_of_ne_nil this;exact dX.2 ⟨by simp,rfl⟩
end L
end Go.Proofs.YtmihpkfkbfgigaaGreatDoor
end
section
open _root_.Classical renaming not_not->akp
open _root_.Go.Lib renaming compact->akt
open _root_.Int renaming eq_ofNat_of_zero_le->ajC,toNat_natCast->ajr
open _root_.Go.IntKind renaming i64->ajj
open _root_.List renaming getElem?_eq_getElem->ajl,getElem?_eq_some_iff->ajn,getElem_mem->ajs,getElem_of_mem->ajG,length_append->ajm,length_cons->ajy,mem_append->ajL,mem_cons->ajJ,mem_singleton->ajz,pairwise_cons->akF,take_length->ajD
open _root_.Nat renaming le_refl->ajo,lt_succ_iff_lt_or_eq->akg,zero_le->ajI
open _root_.Option renaming bind_some->aji
namespace Go.Proofs.YtmihpkfkbfgigaaGreatDoor
open Go Go.RowKit
set_option maxRecDepth 100000
set_option linter.unusedSimpArgs false
namespace L
inductive EE(D:Int->Int->Prop):Int->Int->Prop
 |one {a b:Int} (h:D a b):EE D a b
 |step {a b c:Int} (h:EE D a b) (g:D b c):EE D a c
def Dp(s:jq)(a b:Int):Prop:=b∈lB s a
theorem wK{y:Int}:∀{l out:List Int},y∈l.foldl (fun o z=>ins z o) out↔y∈l\/y∈out
 |[],_=>by simp
 |x::l,out=>by
  rw[List.foldl_cons,wK (l:=l),m6,ajJ];exact⟨fun h=>by rcases h with h|h|h<;>simp[h],fun h=>by rcases h with(h|h)|h<;>simp[h]⟩
theorem nR(s:jq){out:List Int}{y:Int}:y∈stepT s out↔y∈out\/∃x∈out,Dp s x y:=by
 unfold stepT
 suffices∀(l o:List Int),y∈l.foldl (fun o x=>(lB s x).foldl (fun o y=>ins y o) o) o↔y∈o\/∃x∈l,Dp s x y from this _ _
 intro l
 induction l with
 |nil=>intro o;simp
 |cons x l ih=>
  intro o;rw[List.foldl_cons,ih,wK];unfold Dp;constructor
  .rintro((h|h)|⟨z,hz,h⟩)
   .exact .inr ⟨x,by simp,h⟩
   .exact .inl h
   .exact .inr ⟨z,by simp[hz],h⟩
  .rintro(h|⟨z,hz,h⟩)
   .exact .inl (.inr h)
   .rcases ajJ.1 hz with rfl|hz
    .exact .inl (.inl h)
    .exact .inr ⟨z,hz,h⟩
theorem po(s:jq)(d:Int):∀n y,y∈jR s n (lB s d)->EE (Dp s) d y
 |0,y,h=> .one h
 |n+1,y,h=>by
  rcases(nR s).1 h with h|⟨x,hx,h⟩
  .exact po s d n y h
  .exact .step (po s d n x hx) h
theorem IB{l m:List Int}(hl:l.Pairwise (· < ·))(hm:m.Pairwise (· < ·))(h:∀y,y∈l↔y∈m):l=m:=by
 induction l generalizing m with
 |nil=>
  cases m with
  |nil=>rfl
  |cons y m=>exact absurd ((h y).2 (by simp)) (by simp)
 |cons x l ih=>
  cases m with
  |nil=>exact absurd ((h x).1 (by simp)) (by simp)
  |cons y m=>
   obtain⟨h1,h2⟩:=akF.1 hl;obtain⟨g1,g2⟩:=akF.1 hm
   have e:x=y:=by
    rcases ajJ.1 ((h x).1 (by simp))with e|e
    .exact e
    .rcases ajJ.1 ((h y).2 (by simp))with e'|e'
     .exact e'.symm
     .have:=g1 x e;have:=h1 y e';omega
   subst e
   congr 1
   refine ih h2 g2 fun z=>?_
   have:=h z;rw[ajJ,ajJ]at this;constructor
   .intro hz
    rcases this.1 (.inr hz)with rfl|hz'
    .have:=h1 z hz;omega
    .exact hz'
   .intro hz
    rcases this.2 (.inr hz)with rfl|hz'
    .have:=g1 z hz;omega
    .exact hz'
theorem pU{l:List Int}:∀{m:List Int},l.Nodup->(∀y,y∈l->y∈m)->l.length<=m.length:=by
 induction l with
 |nil=>intro m _ _;simp
 |cons x l ih=>
  intro m hn h;obtain⟨h1,h2⟩:=List.nodup_cons.1 hn;have hx:=h x (by simp)
  have:=ih (m:=m.erase x) h2 fun y hy=>(List.mem_erase_of_ne (fun e:y=x=>h1 (by rw[<-e];exact hy))).2 (h y (by simp[hy]))
  rw[List.length_erase_of_mem hx]at this;have:=List.length_pos_of_mem hx;simp only[ajy];omega
theorem Gh{l m:List Int}(hl:l.Pairwise (· < ·))(_:m.Pairwise (· < ·))(h:∀y,y∈l->y∈m)(hx:∃y,y∈m/\y∉l):l.length<m.length:=by
 have nd:l.Nodup:=hl.imp fun h=>by omega
 obtain⟨y,hy,hn⟩:=hx;have nd2:(y::l).Nodup:=List.nodup_cons.2 ⟨hn,nd⟩
 have:(y::l).length<=m.length:=pU nd2 fun z hz=>by
  rcases ajJ.1 hz with rfl|hz
  .exact hy
  .exact h z hz
 simp only[ajy]at this;omega
theorem Ab(s:jq)(d:Int):(∀n,n<=s.2.2.2.1.length->(stepT s (jR s n (lB s d))=jR s n (lB s d)\/n<=(jR s n (lB s d)).length)):=by
 have V8:∀m,tW s.2.2.2.1.length (jR s m (lB s d)):=fun m=>by
  induction m with
  |zero=>exact mF s d
  |succ m ih=>exact pT s ih
 intro n
 induction n with
 |zero=>intro _;exact .inr (ajI _)
 |succ n ih=>
  intro hn
  rcases ih (by omega)with h|h
  .left
   show stepT s (stepT s (jR s n (lB s d)))=stepT s (jR s n (lB s d))
   rw[h,h]
  .by_cases hx:∃y,y∈stepT s (jR s n (lB s d))/\y∉jR s n (lB s d)
   .right
    have:=Gh (V8 n).1 (pT s (V8 n)).1 (fun y hy=>(nR s).2 (.inl hy)) hx
    show n+1<=(stepT s (jR s n (lB s d))).length
    omega
   .left
    have:stepT s (jR s n (lB s d))=jR s n (lB s d):=IB (pT s (V8 n)).1 (V8 n).1 fun y=>⟨fun h=>akp.1 fun hn=>hx ⟨y,h,hn⟩,fun h=>(nR s).2 (.inl h)⟩
    show stepT s (stepT s (jR s n (lB s d)))=stepT s (jR s n (lB s d))
    rw[this,this]
theorem uM(s:jq)(d y:Int):y∈IX s d↔EE (Dp s) d y:=by
 refine⟨fun h=>po s d _ y h,fun h=>?_⟩
 have closed:∀x z,x∈IX s d->Dp s x z->z∈IX s d:=by
  intro x z hx hz
  rcases Ab s d s.2.2.2.1.length (ajo _)with h|h
  .have:z∈stepT s (jR s s.2.2.2.1.length (lB s d)):=(nR s).2 (.inr ⟨x,hx,hz⟩);rw[h]at this;exact this
  .have hs:=N8 s d;have R4:=(mF s x).2 z hz
   refine akp.1 fun hn=>?_
   have:=Gh (l:=IX s d) (m:=ins z (IX s d)) hs.1 (Eu hs.1) (fun y hy=>m6.2 (.inr hy)) ⟨z,m6.2 (.inl rfl),hn⟩;have:=(hs.ins R4).len;have:s.2.2.2.1.length<=(IX s d).length:=h;omega
 have start:∀z,Dp s d z->z∈IX s d:=by
  intro z hz
  show z∈jR s s.2.2.2.1.length (lB s d)
  have:∀n,z∈jR s n (lB s d):=fun n=>by
   induction n with
   |zero=>exact hz
   |succ n ih=>exact(nR s).2 (.inl ih)
  exact this _
 induction h with
 |one h=>exact start _ h
 |step _ g ih=>exact closed _ _ ih g
theorem CG(d:Array Int)(y:Int):∀m,y∈Go.Lib.compactUpTo d m↔∃j,j<m/\d[j]! =y
 |0=>by simp[Go.Lib.compactUpTo]
 |m+1=>by
  rw[Go.Lib.compactUpTo_succ,ajL,CG d y m];constructor
  .rintro(⟨j,hj,h⟩|h)
   .exact⟨j,by omega,h⟩
   .split at h
    .rw[ajz]at h;exact⟨m,by omega,h.symm⟩
    .cases h
  .rintro⟨j,hj,h⟩
   rcases akg.1 hj with h1|rfl
   .exact .inl ⟨j,h1,h⟩
   .by_cases hk:Go.Lib.keeps d j=true
    .right;rw[if_pos hk,ajz];exact h.symm
    .left
     unfold Go.Lib.keeps at hk;rw[decide_eq_true_eq]at hk
     have h0:j≠0:=fun e=>hk (.inl e)
     have h1:d[j]! =d[j-1]! :=akp.1 fun e=>hk (.inr e)
     exact⟨j-1,by omega,by rw[<-h1];exact h⟩
theorem CH(l:List Int)(y:Int):y∈akt l↔y∈l:=by
 unfold akt;rw[CG];constructor
 .rintro⟨j,hj,rfl⟩
  have:l.toArray[j]! =l[j]:=by simp[hj]
  rw[this];exact ajs hj
 .intro h;obtain⟨j,hj,rfl⟩:=ajG h;exact⟨j,hj,by simp[hj]⟩
theorem yz(l:List Int)(hl:l.length<=1000000):Wp ((M.cX aE l).bind fun y1=>(M.cN aE y1).bind fun y2=>some y2) fun r=>r.length<=l.length/\∀y,y∈r↔y∈l:=by
 have e1:M.cX aE l=some (qf l):=by
  unfold M.cX BL;rw[if_pos (by omega)]
 have hs:(qf l).length=l.length:=List.length_mergeSort ..
 have e2:M.cN aE (qf l)=some (akt (qf l)):=by
  unfold M.cN oV;rw[if_pos (by omega)]
 rw[e1,aji,e2];refine .some ⟨?_,fun y=>?_⟩
 .have:=vS (qf l);omega
 .rw[CH];exact List.mem_mergeSort
theorem pq(l:List Int)(hl:l.length<=1000000):Wp (M.fT aE l) fun r=>r.length<=l.length/\∀y,y∈r↔y∈l:=yz l hl
theorem Ac(l:List Int)(hl:l.length<=1000000):Wp (M.gN aE l) fun r=>r.length<=l.length/\∀y,y∈r↔y∈l:=yz l hl
def IC(e:List Ty)(y:Int):Prop:=∃n∈e,(n.1:Int)=8/\(n.2:Int)=y
theorem EF(p:Int->Bool)(e:List Ty)(y:Int):y∈og p e↔∃n∈e,p n.1=true/\(n.2:Int)=y:=by
 unfold og
 suffices∀(e:List Ty)(l:List Int),y∈e.foldl (fun l n=>if p n.1=true then ins n.2 l else l) l↔y∈l\/∃n∈e,p n.1=true/\(n.2:Int)=y by simpa using this e []
 intro e
 induction e with
 |nil=>intro l;simp
 |cons n e ih=>
  intro l;rw[List.foldl_cons,ih];split
  .rename_i h;rw[m6];constructor
   .rintro((h1|h1)|⟨q,hq,h1⟩)
    .exact .inr ⟨n,by simp,h,h1.symm⟩
    .exact .inl h1
    .exact .inr ⟨q,by simp[hq],h1⟩
   .rintro(h1|⟨q,hq,h1,h2⟩)
    .exact .inl (.inr h1)
    .rcases ajJ.1 hq with rfl|hq
     .exact .inl (.inl h2.symm)
     .exact .inr ⟨q,hq,h1,h2⟩
  .rename_i h;constructor
   .rintro(h1|⟨q,hq,h1⟩)
    .exact .inl h1
    .exact .inr ⟨q,by simp[hq],h1⟩
   .rintro(h1|⟨q,hq,h1,h2⟩)
    .exact .inl h1
    .rcases ajJ.1 hq with rfl|hq
     .exact absurd h1 h
     .exact .inr ⟨q,hq,h1,h2⟩
theorem tY(e:List Ty)(y:Int):y∈og tV e↔IC e y:=by
 rw[EF];unfold IC tV;simp only[decide_eq_true_eq]
theorem qp(e:List Ty)(he:e.length<=100000):Wp (M.gx aE e) fun r=>r.2.1.length<=e.length/\∀y,y∈r.2.1↔IC e y:=by
 unfold M.gx;rw[wp_bind]
 refine Wp.count (fun s=>s.1) e.length (fun k s=>(s.2.1.length<=k/\s.2.2.1.length<=k/\s.2.2.2.length<=k)/\∀y,y∈s.2.2.1↔∃j,∃h:j<e.length,j<k/\(e[j].1:Int)=8/\(e[j].2:Int)=y) (by omega) rfl ⟨by simp,fun y=>by simp⟩ fun k s hk hs hJ=>?_
 obtain⟨i,a,b,c⟩:=s;obtain⟨⟨l1,l2,l3⟩,hm⟩:=hJ;dsimp only at hs l1 l2 l3 hm;subst hs;simp only[W_,implies_true,forall_const,reduceCtorEq,aY,aP];refine⟨fun ao=>?_,fun hge=>?_⟩
 .have ao:k<e.length:=by omega
  have nxt:∀b':List Int,(∀y,y∈b'↔y∈b\/((e[k].1:Int)=8/\(e[k].2:Int)=y))->∀y,y∈b'↔∃j,∃h:j<e.length,j<k+1/\(e[j].1:Int)=8/\(e[j].2:Int)=y:=fun b' hb y=>by
   rw[hb,hm];constructor
   .rintro(⟨j,h,h1,h2⟩|h)
    .exact⟨j,h,by omega,h2⟩
    .exact⟨k,ao,by omega,h⟩
   .rintro⟨j,h,h1,h2⟩
    rcases akg.1 h1 with h3|rfl
    .exact .inl ⟨j,h,h3,h2⟩
    .exact .inr h2
  have same:(e[k].1:Int)≠8->∀y,y∈b↔∃j,∃h:j<e.length,j<k+1/\(e[j].1:Int)=8/\(e[j].2:Int)=y:=fun h=>nxt b fun y=>⟨.inl,fun g=>g.resolve_right fun g=>h g.1⟩
  simp only[ah ao,de (m:=e.length) (by omega) ao,W_,implies_true,forall_const,reduceCtorEq]
  have HV:∀(q:List Int)(v:Int)(Q:List Int->Prop),q.length<=k->Q (q++[v])->Wp (bZ q [v]) Q:=fun q v Q hq h=>nf.2 ⟨by simp;omega,h⟩
  refine⟨fun h=>HV _ _ _ l1 ⟨ao,by simp;omega,same (by rw[h];decide)⟩,fun _=>⟨fun h=>HV _ _ _ l2 ⟨ao,by simp;omega,nxt _ fun y=>?_⟩,fun h8=>?_⟩⟩
  .rw[ajL,ajz];exact⟨fun g=>g.imp id fun g=>⟨h,g.symm⟩,fun g=>g.imp id fun g=>g.2.symm⟩
  .have Kk:k<e.length/\(a.length<=k+1/\b.length<=k+1/\c.length<=k+1)/\∀y,y∈b↔∃j,∃h:j<e.length,j<k+1/\(e[j].1:Int)=8/\(e[j].2:Int)=y:=⟨ao,by omega,same h8⟩
   have Cc:Wp (bZ c [(e[k].2:Int)]) fun x=>k<e.length/\(a.length<=k+1/\b.length<=k+1/\x.length<=k+1)/\∀y,y∈b↔∃j,∃h:j<e.length,j<k+1/\(e[j].1:Int)=8/\(e[j].2:Int)=y:=HV _ _ _ l3 ⟨ao,by simp;omega,same h8⟩
   exact⟨fun _=>⟨fun _=>Cc,fun _=>Kk⟩,fun _=>⟨fun _=>⟨fun _=>Cc,fun _=>Kk⟩,fun _=>⟨fun _=>⟨fun _=>Cc,fun _=>Kk⟩,fun _=>⟨fun _=>Cc,fun _=>Kk⟩⟩⟩⟩
 .refine(pq a (by omega)).mono fun _ _=>?_
  refine(pq b (by omega)).mono fun r hr=>?_
  refine(pq c (by omega)).mono fun _ _=>?_
  refine⟨by omega,fun y=>?_⟩;rw[hr.2,hm];unfold IC;constructor
  .rintro⟨j,h,_,h2⟩
   exact⟨_,ajs h,h2⟩
  .rintro⟨n,hn,h⟩
   obtain⟨j,hj,rfl⟩:=ajG hn;exact⟨j,hj,by omega,h⟩
def EG(r:me)(n:Nat)(y:Int):Prop:=(IC r.2.2.2.2.2.1 y\/IC r.2.2.2.2.2.2.1 y)/\0<=y/\y<(n:Int)
theorem Gi(l o:List Int)(n:Nat)(hl:l.length<=100000)(ho:o.length<=100000):Wp (Loop (S:=Int×List Int) (X:=List Int) (fun s4=>
 (if(decide (s4.1<(l.length:Int)))=true then
 ((idx l s4.1).bind fun x6=>
 ((if(decide ((0:Int)<=x6))=true then
 some (decide (x6<(n:Int)))
 else
 some false):Option (Bool)).bind fun j7=>
 (if j7=true then
 (bZ s4.2 ([x6]:List Int)).bind fun l8=>
 some l8
 else
 some s4.2):Option (List Int)).bind fun j5=>
 some (Sum.inl (ajj.wrap (s4.1+(1:Int)),j5))
 else
 some (Sum.inr s4.2))) aE ((0:Int),o)) fun r=>r.length<=o.length+l.length/\∀y,y∈r↔y∈o\/(y∈l/\0<=y/\y<(n:Int)):=by
 refine Wp.count (fun s=>s.1) l.length (fun k s=>s.2.length<=o.length+k/\∀y,y∈s.2↔y∈o\/((∃j,∃h:j<l.length,j<k/\l[j]=y)/\0<=y/\y<(n:Int))) (by omega) rfl ⟨by simp,fun y=>by simp⟩ fun k s hk hs hJ=>?_
 obtain⟨i,q⟩:=s;obtain⟨h1,hm⟩:=hJ;dsimp only at hs h1 hm;subst hs;simp only[W_,implies_true,forall_const,reduceCtorEq,aY,aP];refine⟨fun ao=>?_,fun hge=>?_⟩
 .have ao:k<l.length:=by omega
  simp only[ah ao,de (m:=l.length) (by omega) ao,W_,implies_true,forall_const,reduceCtorEq]
  have keep:¬(0<=l[k]/\l[k]<(n:Int))->k<l.length/\q.length<=o.length+(k+1)/\∀y,y∈q↔y∈o\/((∃j,∃h:j<l.length,j<k+1/\l[j]=y)/\0<=y/\y<(n:Int)):=fun hn=>⟨ao,by omega,fun y=>by
   rw[hm];refine or_congr Iff.rfl (and_congr_left fun hy=>⟨fun⟨j,h,h1,h2⟩=>⟨j,h,by omega,h2⟩,fun⟨j,h,h1,h2⟩=>?_⟩)
   rcases akg.1 h1 with h3|rfl
   .exact⟨j,h,h3,h2⟩
   .exact absurd (h2▸hy) hn⟩
  refine⟨fun h0=>⟨fun tD=>nf.2 ⟨by simp;omega,ao,by simp;omega,fun y=>?_⟩,fun tD=>keep fun g=>tD g.2⟩,fun h0=>keep fun g=>h0 g.1⟩;rw[ajL,ajz,hm];constructor
  .rintro((h|⟨⟨j,h,h2,h3⟩,h4⟩)|rfl)
   .exact .inl h
   .exact .inr ⟨⟨j,h,by omega,h3⟩,h4⟩
   .exact .inr ⟨⟨k,ao,by omega,rfl⟩,h0,tD⟩
  .rintro(h|⟨⟨j,h,h2,h3⟩,h4⟩)
   .exact .inl (.inl h)
   .rcases akg.1 h2 with h5|rfl
    .exact .inl (.inr ⟨⟨j,h,h5,h3⟩,h4⟩)
    .exact .inr h3.symm
 .refine⟨by omega,fun y=>?_⟩;rw[hm];refine or_congr Iff.rfl (and_congr_left fun hy=>⟨fun⟨j,h,_,h2⟩=>h2▸ajs h,fun h=>?_⟩);obtain⟨j,hj,e⟩:=ajG h;exact⟨j,hj,by omega,e⟩
theorem ID(r:me)(n:Nat)(h1:r.2.2.2.2.2.1.length<=50)(h2:r.2.2.2.2.2.2.1.length<=50):Wp (M.eT aE r (n:Int)) fun l=>l.length<=100/\∀y,y∈l↔EG r n y:=by
 unfold M.eT;rw[wp_bind]
 refine(qp _ (by omega)).mono fun a ha=>?_
 rw[wp_bind]
 refine(qp _ (by omega)).mono fun b hb=>?_
 rw[wp_bind]
 refine(Gi a.2.1 [] n (by omega) (by simp)).mono fun c hc=>?_
 have yf:=hc.1;simp only[List.length_nil]at yf
 refine(Gi b.2.1 c n (by omega) (by omega)).mono fun q hq=>⟨by omega,fun y=>?_⟩
 rw[hq.2,hc.2,ha.2,hb.2];unfold EG;constructor
 .rintro((h|h)|h)
  .cases h
  .exact⟨.inl h.1,h.2⟩
  .exact⟨.inr h.1,h.2⟩
 .rintro⟨h|h,h3⟩
  .exact .inl (.inr ⟨h,h3⟩)
  .exact .inr ⟨h,h3⟩
theorem tz(n:Nat)(y:Int):∀(l out:List Int),y∈m7 n out l↔y∈out\/(y∈l/\0<=y/\y<(n:Int))
 |[],out=>by show y∈out↔_;simp
 |x::l,out=>by
  show y∈m7 n (if 0<=x/\x<(n:Int)then ins x out else out) l↔_
  rw[tz n y l];split
  .rename_i h;rw[m6,ajJ];constructor
   .rintro((rfl|h1)|⟨h1,h2⟩)
    .exact .inr ⟨.inl rfl,h⟩
    .exact .inl h1
    .exact .inr ⟨.inr h1,h2⟩
   .rintro(h1|⟨h1|h1,h2⟩)
    .exact .inl (.inr h1)
    .exact .inl (.inl h1)
    .exact .inr ⟨h1,h2⟩
  .rename_i h;rw[ajJ];constructor
   .rintro(h1|⟨h1,h2⟩)
    .exact .inl h1
    .exact .inr ⟨.inr h1,h2⟩
   .rintro(h1|⟨h1|h1,h2⟩)
    .exact .inl h1
    .exact absurd (h1▸h2) h
    .exact .inr ⟨h1,h2⟩
theorem wL(s:jq)(d y:Int):Dp s d y↔(0<=d/\d<(s.2.2.2.1.length:Int))/\∃r∈s.2.2.2.2,(r.2.1:Int)=d/\EG r s.2.2.2.1.length y:=by
 unfold Dp lB;split
 .rename_i hd
  suffices∀(rs:List me)(out:List Int),y∈rs.foldl (fun out r=>if(r.2.1:Int)=d then m7 s.2.2.2.1.length (m7 s.2.2.2.1.length out (og tV r.2.2.2.2.2.1)) (og tV r.2.2.2.2.2.2.1)else out) out↔y∈out\/∃r∈rs,(r.2.1:Int)=d/\EG r s.2.2.2.1.length y by
   rw[this];simp[hd]
  intro rs
  induction rs with
  |nil=>intro out;simp
  |cons r rs ih=>
   intro out;rw[List.foldl_cons,ih];split
   .rename_i h;rw[tz,tz,tY,tY];unfold EG;constructor
    .rintro(((h1|h1)|h1)|⟨q,hq,h1⟩)
     .exact .inl h1
     .exact .inr ⟨r,by simp,h, .inl h1.1,h1.2⟩
     .exact .inr ⟨r,by simp,h, .inr h1.1,h1.2⟩
     .exact .inr ⟨q,by simp[hq],h1⟩
    .rintro(h1|⟨q,hq,h1,h2,h3⟩)
     .exact .inl (.inl (.inl h1))
     .rcases ajJ.1 hq with rfl|hq
      .rcases h2 with h2|h2
       .exact .inl (.inl (.inr ⟨h2,h3⟩))
       .exact .inl (.inr ⟨h2,h3⟩)
      .exact .inr ⟨q,hq,h1,h2,h3⟩
   .rename_i h;constructor
    .rintro(h1|⟨q,hq,h1⟩)
     .exact .inl h1
     .exact .inr ⟨q,by simp[hq],h1⟩
    .rintro(h1|⟨q,hq,h1,h2⟩)
     .exact .inl h1
     .rcases ajJ.1 hq with rfl|hq
      .exact absurd h1 h
      .exact .inr ⟨q,hq,h1,h2⟩
 .rename_i hd;simp[hd]
def Rn(s:jq)(L:List (List Int)):Prop:=L.length=s.2.2.2.1.length/\∀d,∀h:d<L.length,L[d].length<=6000/\∀y,y∈L[d]↔Dp s (d:Int) y
theorem rY(s:jq)(hs:mG s):Wp (M.im aE s) (Rn s):=by
 have K6:=hs.2.2.1;have Va:=hs.2.2.2.1;have hru:=hs.2.2.2.2.2.2;unfold M.im;rw[wp_bind];refine vY.2 ⟨by omega,?_⟩;rw[wp_bind,ajr]
 refine Wp.count (fun s=>s.1) s.2.2.2.2.length (fun k q=>q.2.length=s.2.2.2.1.length/\∀d,∀h:d<q.2.length,q.2[d].length<=100*k/\∀y,y∈q.2[d]↔∃j,∃h:j<s.2.2.2.2.length,j<k/\(s.2.2.2.2[j].2.1:Int)=(d:Int)/\EG s.2.2.2.2[j] s.2.2.2.1.length y) (by omega) rfl ⟨by simp,fun d h=>by simp⟩ fun k q hk C4 hJ=>?_
 obtain⟨i,q⟩:=q;obtain⟨hl,hm⟩:=hJ;dsimp only at C4 hl hm;subst C4;simp only[W_,implies_true,forall_const,reduceCtorEq,aY,aP];refine⟨fun ao=>?_,fun hge=>?_⟩
 .have ao:k<s.2.2.2.2.length:=by omega
  have hrk:=hru _ (ajs ao);simp only[ah ao,de (m:=s.2.2.2.2.length) (by omega) ao,hl,W_,implies_true,forall_const,reduceCtorEq]
  have GN:∀d,∀h:d<q.length,(¬(s.2.2.2.2[k].2.1:Int)=(d:Int))->q[d].length<=100*(k+1)/\∀y,y∈q[d]↔∃j,∃h:j<s.2.2.2.2.length,j<k+1/\(s.2.2.2.2[j].2.1:Int)=(d:Int)/\EG s.2.2.2.2[j] s.2.2.2.1.length y:=fun d h hn=>⟨by have:=(hm d h).1;omega,fun y=>by
   rw[(hm d h).2];constructor
   .rintro⟨j,h1,h2,h3⟩;exact⟨j,h1,by omega,h3⟩
   .rintro⟨j,h1,h2,h3,h4⟩
    rcases akg.1 h2 with h5|rfl
    .exact⟨j,h1,h5,h3,h4⟩
    .exact absurd h3 hn⟩
  have dfo:=ID s.2.2.2.2[k] s.2.2.2.1.length hrk.2.2.1 hrk.2.2.2
  obtain⟨(v:Int),hv⟩:∃v:Int,v=s.2.2.2.2[k].2.1:=⟨_,rfl⟩
  simp only[<-hv]at GN⊢;refine⟨fun h0=>⟨fun h1=>?_,fun h1=>⟨ao,fun d h=>GN d (by omega) fun e=>h1 (e▸Int.ofNat_lt.2 h)⟩⟩,fun h0=>⟨ao,fun d h=>GN d (by omega) fun e=>h0 (e▸Int.natCast_nonneg d)⟩⟩;obtain⟨c,rfl⟩:=ajC h0
  have hc:c<q.length:=by rw[hl];exact Int.ofNat_lt.1 h1
  simp only[ah hc,W_,implies_true,forall_const,reduceCtorEq]
  refine dfo.mono fun l9 h9=>nf.2 ⟨by have:=(hm c hc).1;omega,?_⟩
  refine⟨ao,by rw[gZ];exact hl,fun d h=>?_⟩
  have hd:d<q.length:=by rw[gZ]at h;exact h
  rw[uE h hd]
  by_cases e:(c:Int)=(d:Int)
  .rw[if_pos e]
   have e:c=d:=by omega
   subst e;refine⟨by rw[ajm];have:=(hm c hd).1;have:=h9.1;omega,fun y=>?_⟩;rw[ajL,(hm c hd).2,h9.2];constructor
   .rintro(⟨j,h1,h2,h3⟩|h3)
    .exact⟨j,h1,by omega,h3⟩
    .exact⟨k,ao,by omega,hv.symm,h3⟩
   .rintro⟨j,h1,h2,h3,h4⟩
    rcases akg.1 h2 with h5|rfl
    .exact .inl ⟨j,h1,h5,h3,h4⟩
    .exact .inr h4
  .rw[if_neg e];exact GN d hd e
 obtain rfl:k=s.2.2.2.2.length:=by omega
 have Xa:∀d,∀h:d<q.length,q[d].length<=6000/\∀y,y∈q[d]↔Dp s (d:Int) y:=fun d h=>⟨by have:=(hm d h).1;omega,fun y=>by
  rw[(hm d h).2,wL];constructor
  .rintro⟨j,h1,_,h2,h3⟩
   exact⟨by omega,_,ajs h1,h2,h3⟩
  .rintro⟨_,r,hr,h2,h3⟩
   obtain⟨j,hj,rfl⟩:=ajG hr
   exact⟨j,hj,hj,h2,h3⟩⟩
 refine Wp.count (fun s=>s.1) q.length (fun k z=>z.2.length=q.length/\∀d,∀h:d<z.2.length,z.2[d].length<=6000/\∀y,y∈z.2[d]↔Dp s (d:Int) y) (by omega) rfl ⟨rfl,Xa⟩ fun k z hk C4 hJ=>?_
 obtain⟨i,z⟩:=z;obtain⟨zl,zm⟩:=hJ;dsimp only at C4 zl zm;subst C4;simp only[W_,implies_true,forall_const,reduceCtorEq,aY,aP];refine⟨fun ao=>?_,fun hge=>⟨by rw[zl];exact hl,zm⟩⟩
 have ao:k<q.length:=by omega
 have hkz:k<z.length:=by omega
 simp only[ah hkz,de (m:=q.length) (by omega) ao,W_,implies_true,forall_const,reduceCtorEq]
 refine(Ac z[k] (by have:=(zm k hkz).1;omega)).mono fun r hr=>⟨ao,by rw[gZ];exact zl,fun d h=>?_⟩
 have hd:d<z.length:=by rw[gZ]at h;exact h
 rw[uE h hd]
 by_cases e:(k:Int)=(d:Int)
 .rw[if_pos e]
  have e:k=d:=by omega
  subst e;exact⟨by have:=(zm k hd).1;have:=hr.1;omega,fun y=>by rw[hr.2];exact(zm k hd).2 y⟩
 .rw[if_neg e];exact zm d hd
def Sn(seen:List Bool)(y:Int):Prop:=0<=y/\seen[y.toNat]? =some true
theorem Ro{seen:List Bool}{x:Int}(hx:0<=x/\x.toNat<seen.length)(y:Int):Sn (aQ seen x true) y↔y=x\/Sn seen y:=by
 unfold Sn aQ;rw[List.getElem?_set];by_cases e:x.toNat=y.toNat
 .rw[if_pos e,if_pos hx.2];constructor
  .rintro⟨h,_⟩;exact .inl (by omega)
  .rintro(rfl|⟨h,_⟩)
   .exact⟨hx.1,rfl⟩
   .exact⟨h,rfl⟩
 .rw[if_neg e];constructor
  .exact .inr
  .rintro(rfl|h)
   .exact absurd rfl e
   .exact h
structure RI(D:Int->Int->Prop)(d0:Int)(n:Nat)(ex:Int->Prop)(seen:List Bool)(q:List Int):Prop where
 len:seen.length=n
 qo:∀x∈q,0<=x/\x<(n:Int)/\(x=d0\/Sn seen x)
 snd:∀y,Sn seen y->EE D d0 y
 clo:∀x,(x=d0\/Sn seen x)->x∈q\/ex x\/∀y,D x y->Sn seen y
 bud:q.length+seen.count false<=n+1
theorem EH(s:jq)(L:List (List Int))(hL:Rn s L)(d:Nat)(hd:d<s.2.2.2.1.length)(K6:s.2.2.2.1.length<=14):Wp (M.lT aE L (d:Int)) fun r=>r.length<=1000/\∀y,y∈r↔EE (Dp s) (d:Int) y:=by
 obtain⟨hl,hL⟩:=hL
 have hD:∀a b,Dp s a b->0<=b/\b<(s.2.2.2.1.length:Int):=fun a b h=>(mF s a).2 b h
 generalize s.2.2.2.1.length=n at*;unfold M.lT;rw[wp_bind];refine vY.2 ⟨by omega,?_⟩;rw[wp_bind,ajr,hl]
 refine Wp.loop (fun q=>RI (Dp s) (d:Int) n (fun _=>False) q.1 q.2) (fun q=>2*q.1.count false+q.2.length) ?_ ?_ fun q hq=>?_
 .refine⟨by simp,fun x hx=>?_,fun y hy=>?_,fun x hx=>?_,by simp;omega⟩
  .rw[ajz.1 hx];exact⟨by omega,by omega, .inl rfl⟩
  .exfalso;have:=hy.2;rw[List.getElem?_replicate]at this
   split at this<;>cases this
  .rcases hx with rfl|hx
   .exact .inl (by simp)
   .exfalso;have:=hx.2;rw[List.getElem?_replicate]at this
    split at this<;>cases this
 .simp[List.count_replicate];unfold aE;omega
 obtain⟨seen,q⟩:=q;dsimp only at hq;dsimp only
 have hcn:∀l:List Bool,l.count false<=l.length:=fun l=>List.count_le_length
 refine Wp.dec (fun h0=>?_) fun h0=>?_
 .have MI:0<q.length:=by omega
  obtain⟨x,t,rfl⟩:=List.exists_cons_of_ne_nil (List.length_pos_iff.1 MI);have hx:=hq.qo x (by simp);obtain⟨c,rfl⟩:=ajC hx.1
  have hc:c<L.length:=by omega
  have i0:idx ((c:Int)::t) (0:Int)=some (c:Int):=rfl
  have wV:fa ((c:Int)::t) (1:Int) (((c:Int)::t).length:Int)=some t:=by
   apply Wp.eq;refine wp_cut.2 ⟨by simp;omega,?_⟩;rw[ajr,ajD];rfl
  rw[i0,aji,wV,aji,ah hc,aji]
  have OA:∀y,Dp s (c:Int) y->EE (Dp s) (d:Int) y:=fun y h=>by
   rcases hx.2.2 with e|e
   .exact .one (e▸h)
   .exact .step (hq.snd _ e) h
  have Pm:=(hL c hc).2;have Ah:=(hL c hc).1;have Pb:=hq.bud;simp only[ajy]at Pb;generalize L[c]=l at*
  refine Wp.count (fun s=>s.1) l.length (fun k z=>RI (Dp s) (d:Int) n (fun y=>y=(c:Int)) z.2.1 z.2.2/\(∀j,j<k->∀h:j<l.length,Sn z.2.1 l[j])/\2*z.2.1.count false+z.2.2.length<=2*seen.count false+t.length) (by omega) rfl ⟨⟨hq.len,fun x hx=>hq.qo x (by simp[hx]),hq.snd,fun x hx=>?_,by dsimp only;omega⟩,fun j hj=>by omega,ajo _⟩ fun k z hk C4 hJ=>?_
  .rcases hq.clo x hx with h|h|h
   .rcases ajJ.1 h with rfl|h
    .exact .inr (.inl rfl)
    .exact .inl h
   .exact h.elim
   .exact .inr (.inr h)
  obtain⟨i,sn,qu⟩:=z;obtain⟨hR,hP,hB⟩:=hJ;dsimp only at C4 hR hP hB;subst C4;simp only[W_,implies_true,forall_const,reduceCtorEq,aY,aP];refine⟨fun ao=>?_,fun hge=>?_⟩
  .have ao:k<l.length:=by omega
   have hy:Dp s (c:Int) l[k]:=(Pm _).1 (ajs ao);have Ve:=hD _ _ hy;simp only[ah ao,de (m:=l.length) (by omega) ao,W_,implies_true,forall_const,reduceCtorEq]
   obtain⟨y,SF⟩:∃y,y=l[k]:=⟨_,rfl⟩
   simp only[<-SF]at hy Ve⊢
   have N1:y.toNat<sn.length:=by rw[hR.len];omega
   refine dX.2 ⟨by rw[hR.len];omega,fun hf=>dX.2 ⟨by rw[hR.len];omega,nf.2 ⟨?_,ao,?_⟩⟩,fun ht=>⟨ao,hR,cx hP fun _=>?_,hB⟩⟩
   .have:=hR.bud;simp;omega
   .have EI:=Ro (seen:=sn) (x:=y) ⟨Ve.1,N1⟩
    have Od:(aQ sn y true).count false+1=sn.count false:=by
     unfold aQ;rw[List.count_set N1];have h1:0<sn.count false:=List.count_pos_iff.2 (hf▸ajs N1);simp[hf];omega
    refine⟨⟨by unfold aQ;simp[hR.len],fun x hx=>?_,fun z hz=>?_,fun x hx=>?_,?_⟩,cx (fun j hj h=>?_) fun h=>?_,?_⟩
    .rcases ajL.1 hx with hx|hx
     .obtain⟨a1,a2,a3⟩:=hR.qo x hx;exact⟨a1,a2,a3.imp id fun g=>(EI x).2 (.inr g)⟩
     .rw[ajz.1 hx];exact⟨Ve.1,Ve.2, .inr ((EI y).2 (.inl rfl))⟩
    .rcases(EI z).1 hz with rfl|hz
     .exact OA _ hy
     .exact hR.snd z hz
    .have go:x=(d:Int)\/Sn sn x->x∈qu++[y]\/x=(c:Int)\/∀z,Dp s x z->Sn (aQ sn y true) z:=fun g=>by
      rcases hR.clo x g with h|h|h
      .exact .inl (by simp[h])
      .exact .inr (.inl h)
      .exact .inr (.inr fun z hz=>(EI z).2 (.inr (h z hz)))
     rcases hx with hx|hx
     .exact go (.inl hx)
     .rcases(EI x).1 hx with rfl|hx
      .exact .inl (by simp)
      .exact go (.inr hx)
    .have:=hR.bud;simp;omega
    .exact(EI _).2 (.inr (hP j hj h))
    .exact(EI _).2 (.inl SF.symm)
    .simp;omega
   .rw[<-SF];exact⟨Ve.1,by rw[ajl N1,ht]⟩
  .obtain rfl:k=l.length:=by omega
   show vX _ _ _ _ (.inl _)
   refine⟨⟨hR.len,hR.qo,hR.snd,fun x hx=>?_,hR.bud⟩,?_⟩
   .rcases hR.clo x hx with h|h|h
    .exact .inl h
    .refine .inr (.inr fun y hy=>?_);rw[h]at hy;obtain⟨j,hj,e⟩:=ajG ((Pm y).2 hy);exact e▸hP j hj hj
    .exact .inr (.inr h)
   .show 2*sn.count false+qu.length<2*seen.count false+((c:Int)::t).length
    simp only[ajy];omega
 .have MI:q=[]:=by
   cases q with
   |nil=>rfl
   |cons x t=>simp at h0
  subst MI;refine .some ?_
  show Wp _ _
  have PI:∀y,Sn seen y↔EE (Dp s) (d:Int) y:=fun y=>⟨hq.snd y,fun h=>by
   have cl:∀x,(x=(d:Int)\/Sn seen x)->∀z,Dp s x z->Sn seen z:=fun x hx=>by
    rcases hq.clo x hx with h|h|h
    .cases h
    .exact h.elim
    .exact h
   induction h with
   |one h=>exact cl _ (.inl rfl) _ h
   |step _ g ih=>exact cl _ (.inr ih) _ g⟩
  have fZ:=hq.len
  refine Wp.count (fun s=>s.1) seen.length (fun k z=>z.2.length<=k/\∀y,y∈z.2↔Sn seen y/\y<(k:Int)) (by omega) rfl ⟨by simp,fun y=>⟨fun h=>(by cases h),fun h=>(by have:=h.1.1;have:=h.2;omega)⟩⟩ fun k z hk C4 hJ=>?_
  obtain⟨i,o⟩:=z;obtain⟨hJ1,hJ⟩:=hJ;dsimp only at C4 hJ1 hJ;subst C4;simp only[W_,implies_true,forall_const,reduceCtorEq,aY,aP];refine⟨fun ao=>?_,fun hge=>⟨by omega,fun y=>?_⟩⟩
  .have ao:k<seen.length:=by omega
   have xv:Sn seen (k:Int)↔seen[k]=true:=by
    unfold Sn;rw[ajr,ajl ao];simp
   simp only[ah ao,de (m:=seen.length) (by omega) ao,W_,implies_true,forall_const,reduceCtorEq];refine⟨fun h=>nf.2 ⟨by simp;omega,ao,by simp;omega,fun y=>?_⟩,fun h=>⟨ao,by omega,fun y=>?_⟩⟩
   .rw[ajL,ajz,hJ];constructor
    .rintro(⟨h1,h2⟩|rfl)
     .exact⟨h1,by omega⟩
     .exact⟨xv.2 h,by omega⟩
    .rintro⟨h1,h2⟩
     by_cases e:y=(k:Int)
     .exact .inr e
     .exact .inl ⟨h1,by omega⟩
   .rw[hJ];refine⟨fun⟨h1,h2⟩=>⟨h1,by omega⟩,fun⟨h1,h2⟩=>⟨h1,?_⟩⟩
    have:y≠(k:Int):=fun e=>by
     rw[e,xv,h]at h1;cases h1
    omega
  .rw[hJ,<-PI];refine⟨fun h=>h.1,fun h=>⟨h,?_⟩⟩;have:=(ajn.1 h.2).1;have:=h.1;omega
theorem Iz.all(x:jq)(hs:mG x):Iz x:=fun d hd=>by
 have key:Wp (M.gz aE x (d:Int)) fun tr=>tr.length<=1000/\∀y,y∈tr↔EE (Dp x) (d:Int) y:=by
  unfold M.gz;rw[if_neg (by simp),aji,if_neg (by simp;omega),wp_bind]
  refine(rY x hs).mono fun L hL=>?_
  rw[wp_bind]
  exact(EH x L hL d hd hs.2.2.1).mono fun r hr=> .some hr
 obtain⟨tr,e,h1,h2⟩:=key;exact⟨tr,e,h1,by rw[h2,uM]⟩
theorem Of(l:Lw)(hw:WF cF l)(nv:lK l):M.iK aE l=some (Ew l):=
 CF l hw nv (fun _ _=>lJ.all _) fun x hx=>Iz.all x (nv.2.2.2.2.2 x hx)
end L
end Go.Proofs.YtmihpkfkbfgigaaGreatDoor
end
section
open _root_.List renaming length_eq_zero_iff->akn
open _root_.Option renaming bind_some->aji
namespace Go.Proofs.YtmihpkfkbfgigaaGreatDoor
open Go Go.RowKit
set_option maxRecDepth 100000
set_option linter.unusedSimpArgs false
namespace L
theorem CI(l:List ByteArray)(h:l.length<=1048576):M.b7 aE l=some l:=by
 unfold M.b7;rw[bL (by simp;omega),List.nil_append,aji];split
 .rename_i h0;obtain rfl:=akn.1 (beq_true h0);exact tt
 .rfl
end L
end Go.Proofs.YtmihpkfkbfgigaaGreatDoor
end
section
open _root_.Classical renaming not_not->akp
open _root_.Int renaming eq_ofNat_of_zero_le->ajC,toNat_natCast->ajr
open _root_.List renaming getElem?_eq_getElem->ajl,getElem_of_mem->ajG
namespace Go.Proofs.YtmihpkfkbfgigaaGreatDoor
open Go Go.RowKit
set_option maxRecDepth 100000
set_option linter.unusedSimpArgs false
namespace L
theorem Ad{t:xm}{E:List En}:(ni t E).2=0↔t.2.2.2.length<=64/\(jo t.2.1 E.length/\jo t.2.2.1 E.length)/\∀k,∀h:k<t.2.2.2.length,¬nO t.2.2.2[k] t E/\¬∃y∈t.2.2.2.take k,mZ y t.2.2.2[k]:=by
 have KN:∀k e,qN t E k=some e->e.2≠0:=fun k e he=>by
  unfold qN at he;split at he
  .cases he
  split at he
  .cases he;simp
  split at he
  .cases he;simp
  .cases he
 unfold ni;by_cases h1:64<t.2.2.2.length
 .rw[if_pos h1]
  exact iff_of_false (by decide) fun g=>by omega
 rw[if_neg h1];by_cases h2:¬(jo t.2.1 E.length/\jo t.2.2.1 E.length)
 .rw[if_pos h2]
  exact iff_of_false (by decide) fun g=>h2 g.2.1
 rw[if_neg h2]
 have key:cc (qN t E) t.2.2.2.length=none↔∀k,∀h:k<t.2.2.2.length,¬nO t.2.2.2[k] t E/\¬∃y∈t.2.2.2.take k,mZ y t.2.2.2[k]:=by
  rw[bE]
  refine forall_congr' fun k=>⟨fun g h=>?_,fun g h=>?_⟩
  .have:=g h;unfold qN at this;rw[ajl h]at this;dsimp only at this;split at this
   .cases this
   split at this
   .cases this
   .exact⟨‹_›,‹_›⟩
  .unfold qN;rw[ajl h];dsimp only;rw[if_neg (g h).1,if_neg (g h).2]
 cases hf:cc (qN t E) t.2.2.2.length with
 |none=>exact iff_of_true rfl ⟨by omega,akp.1 h2,key.1 hf⟩
 |some e=>
  obtain⟨k,_,he,_⟩:=fB hf
  exact iff_of_false (KN k e he) fun g=>by rw[key.2 g.2.2]at hf;cases hf
def lD(rules:List me):Prop:=∀i,∀h:i<rules.length,(rules[i].2.2.1:Int)= -1\/∃p,∃hp:p<i,(rules[i].2.2.1:Int)=(p:Int)/\((rules[p]'(by omega)).2.1:Int)=rules[i].2.1
theorem uN{l:Lw}{x:jq}{k:Nat}{r:me}:tn l x k r=0↔lA r.1=true/\¬fc (x.2.2.2.2.take k) r.1/\(0<=(r.2.1:Int)/\(r.2.1:Int)<(x.2.2.2.1.length:Int))/\¬pg x k r/\
 ¬((r.2.2.2.1:Int)<0\/9<(r.2.2.2.1:Int)\/¬VR r.2.2.2.2.1\/(r.2.2.2.2.1.1:Int)=r.2.2.2.2.1.2)/\zZ x k r.2.1<8/\plain r.2.2.2.2.2.2.2/\
 (0<r.2.2.2.2.2.1.length->qP r.2.2.2.2.2.1 (eB l x) ((1:Int),(0:Int))=0)/\(match x.2.2.2.1[(r.2.1:Int).toNat]? with
   |some d=>qP r.2.2.2.2.2.2.1 (eB l x) d.2
   |none=>0)=0:=by
 unfold tn;by_cases h1:lA r.1=false
 .rw[if_pos h1]
  exact iff_of_false (by decide) fun g=>by rw[h1]at g;cases g.1
 rw[if_neg h1];by_cases h2:fc (x.2.2.2.2.take k) r.1
 .rw[if_pos h2]
  exact iff_of_false (by decide) fun g=>g.2.1 h2
 rw[if_neg h2];by_cases h3:0<=(r.2.1:Int)/\(r.2.1:Int)<(x.2.2.2.1.length:Int)
 case neg=>
  rw[if_pos h3]
  exact iff_of_false (by decide) fun g=>h3 g.2.2.1
 rw[if_neg (fun g=>g h3)];by_cases h4:pg x k r
 .rw[if_pos h4]
  exact iff_of_false (by decide) fun g=>g.2.2.2.1 h4
 rw[if_neg h4];by_cases h5:(r.2.2.2.1:Int)<0\/9<(r.2.2.2.1:Int)\/¬VR r.2.2.2.2.1\/(r.2.2.2.2.1.1:Int)=r.2.2.2.2.1.2
 .rw[if_pos h5]
  exact iff_of_false (by decide) fun g=>g.2.2.2.2.1 h5
 rw[if_neg h5];by_cases h6:8<=zZ x k r.2.1
 .rw[if_pos h6]
  exact iff_of_false (by decide) fun g=>by have:=g.2.2.2.2.2.1;omega
 rw[if_neg h6];by_cases h7:plain r.2.2.2.2.2.2.2
 case neg=>
  rw[if_pos h7]
  exact iff_of_false (by decide) fun g=>h7 g.2.2.2.2.2.2.1
 rw[if_neg (fun g=>g h7)];by_cases h8:0<r.2.2.2.2.2.1.length/\qP r.2.2.2.2.2.1 (eB l x) ((1:Int),(0:Int))≠0
 .rw[if_pos h8]
  exact iff_of_false h8.2 fun g=>h8.2 (g.2.2.2.2.2.2.2.1 h8.1)
 rw[if_neg h8];exact⟨fun g=>⟨by simpa using h1,h2,h3,h4,h5,by omega,h7,fun a=>akp.1 fun b=>h8 ⟨a,b⟩,g⟩,fun g=>g.2.2.2.2.2.2.2.2⟩
theorem EJ{l:Lw}{x:jq}(h:∀i,∀hi:i<x.2.2.2.2.length,tn l x i x.2.2.2.2[i]=0):lD x.2.2.2.2:=fun i hi=>by
 have hb:=(uN.1 (h i hi)).2.2.2.1;unfold pg at hb;generalize x.2.2.2.2[i]=r at*;obtain⟨nm,(df:Int),(p:Int),z⟩:=r;dsimp only[ae,Row.den]at*;by_cases h1:p= -1
 .exact .inl h1
 right
 have h2:0<=p:=akp.1 fun g=>hb ⟨h1, .inl (by omega)⟩
 have h3:p<(i:Int):=akp.1 fun g=>hb ⟨h1, .inr (.inl (by omega))⟩
 obtain⟨q,rfl⟩:=ajC h2;have hq:q<i:=Int.ofNat_lt.1 h3;refine⟨q,hq,rfl,akp.1 fun g=>hb ⟨h1, .inr (.inr ⟨_,?_,g⟩)⟩⟩;rw[ajr];exact ajl (by omega)
theorem Valid.abN{l:Lw}(h:Valid l)(nv:lK l):Oa l:=by
 obtain⟨a1,a2,a3,a4,a5,a6⟩:=h.scopes;obtain⟨b1,b2,b3,b4,b5,b6⟩:=nv;refine⟨fun e he=>?_,fun t ht=>?_,fun s hs r hr=>?_,by omega,by omega,by omega,fun s hs=>?_⟩
 .have:=(b4 e he).2.1;omega
 .obtain⟨k,hk,rfl⟩:=ajG ht;have:=a5 k hk;unfold oA at this;rw[ajl hk]at this;dsimp only at this;split at this
  .cases this
  split at this
  .cases this
  split at this
  case isFalse=>cases this
  rename_i h0;have:=(Ad.1 h0).1;omega
 .have:=(b6 s hs).2.2.2.2.2.2 r hr;omega
 .have h1:=(b6 s hs).2.1;have h2:=(b6 s hs).2.2.1;have h3:=(b6 s hs).2.2.2.1;omega
end L
end Go.Proofs.YtmihpkfkbfgigaaGreatDoor
end
