/- Joined texts: PX7 PY6 VB TP VA TK TM VC VD VF VG VQ KD KE KM KM2 KM3 KB KT KR. -/
import Derived.Test.YtfeahmiobbjklaaGreatDoorU11
import Derived.Test.YtfeahmiobbjklaaGreatDoorU9
import Derived.Lib.Mul64
import Derived.Laws.Bits64b
open _root_.Bool renaming false->ag,true->af,false_eq_true->aqT,not_true->arA,eq_iff_iff->art
open _root_.Option renaming some->aa,bind_some->aqN,bind->aqM
open _root_.Int renaming eq_ofNat_of_zero_le->aqY,toNat_natCast->aqX,natCast_mul->arC,reduceEq->ar3,tmod->aq3,tmod_eq_emod_of_nonneg->aq8,lt_or_le->asp,mul_le_mul_of_nonneg_right->asd,tdiv_eq_ediv_of_nonneg->aq7,tdiv->aq1
open _root_.List renaming getElem?_eq_getElem->aqR,getElem?_eq_some_iff->aq9,getElem_mem->aqS,getElem_of_mem->aq6,replicate->aqW,mem_cons->arx,mem_filter->arK,drop_eq_getElem_cons->aqZ
open _root_.Option.some renaming inj->aqP
open _root_.BitVec renaming ofInt->arH
open _root_.Go.IntKind renaming i64->aqO,bits->asm,u64->aqQ
open _root_.Nat renaming le_refl->aqU,zero_add->arv,add_mul->arn,div_add_mod->arW,div_lt_iff_lt_mul->arp,mod_lt->ar0,mul_comm->arm,mul_le_mul_right->aq4,div_le_self->arX,le_trans->ark,lt_of_lt_of_le->arh,pow_add->aso
open _root_.Sum renaming inr->arM
open _root_.ByteArray renaming empty->asg
namespace Go.Proofs.YtfeahmiobbjklaaGreatDoor
open Go Go.RowKit
set_option maxRecDepth 100000
set_option linter.unusedSimpArgs false
set_option linter.unusedVariables false
set_option linter.defProp false
namespace L.P
end L.P
namespace L.P
end L.P
namespace L.P
end L.P
namespace L
abbrev Vl:Type:=aB.den
def InT(vs:List Vl)(fs:List Fd):Prop:=vs.length=fs.length/\∀(k:Nat)(v:Vl)(f:Fd),vs[k]? =aa v->fs[k]? =aa f->P.Hk v f.2
def EnL(l:Lw):Prop:=l.1.length<=8/\∀e∈l.1,e.2.length<=16
def Valid.enl{l:Lw}(h:Valid l):EnL l:=by
 obtain⟨h1,_,_,h4,_⟩:=h.scopes;refine⟨h1,λe he=>?_⟩;obtain⟨k,hk,rfl⟩:=aq6 he;have:=h4 k hk;unfold pD at this;rw[aqR hk]at this;dsimp only at this;split at this
 .cases this
 split at this
 .cases this
 split at this
 .cases this
 split at this
 .cases this
 omega
def YM{l:Lw}(hE:EnL l){t:Ty}{v:Vl}(h1:(v.1:Int)=t.1)(h2:(v.2.1:Int)=t.2)(h3:¬((v.2.2:Int)<(Ju t l.1).1\/(Ju t l.1).2<(v.2.2:Int))):P.Hk v t:=by
 obtain⟨(a:Int),(b:Int),(n:Int)⟩:=v;obtain⟨(k:Int),(e:Int)⟩:=t;dsimp only[az,Row.den]at*;subst h1 h2;unfold Ju at h3;by_cases hv:qd (a,b) l.1.length
 .rw[ai (λg=>g hv)]at h3;refine⟨?_,rfl,rfl⟩;unfold P.bK;unfold qd at hv;dsimp only[az,Row.den]at*;by_cases c1:a=1
  .rw[aj c1]at h3;dsimp only at h3;omega
  rw[ai c1]at h3;by_cases c2:a=2
  .rw[aj c2]at h3;dsimp only at h3;omega
  rw[ai c2]at h3;by_cases c3:a=3
  .rw[aj c3]at h3;dsimp only at h3;omega
  rw[ai c3]at h3;by_cases c4:a=4
  .rw[aj c4]at h3;dsimp only at h3;omega
  rw[ai c4]at h3;by_cases c5:a=5
  .rw[aj c5]at h3;dsimp only at h3;omega
  rw[ai c5]at h3;dsimp only at h3;have h8:=hE.1
  have hb:(0:Int)<=b/\b<(l.1.length:Int):=by omega
  have hbl:b.toNat<l.1.length:=by omega
  have h16:=hE.2 _ (aqS hbl);rw[aqR hbl]at h3;dsimp only[Option.map_some,Option.getD_some]at h3;rw[aE (by omega) (by omega)]at h3;omega
 .rw[aj hv]at h3;dsimp only at h3;omega
def tJ{l:Lw}(hE:EnL l)(vs:List Vl)(fs:List Fd)(h1:vs.length<=100000)(h2:fs.length<=100000):Wp (M.dw aK l vs fs) λr=>r.2=0->InT vs fs:=by
 unfold M.dw
 refine Wp.dec (λ_=> .some λh=>by cases h) λc1=>?_
 refine Wp.dec (λ_=> .some λh=>by cases h) λc2=>?_
 have hl:vs.length=fs.length:=by omega
 refine Wp.count (λs=>s) vs.length (λk _=>∀(j:Nat)(v:Vl)(f:Fd),j<k->vs[j]? =aa v->fs[j]? =aa f->P.Hk v f.2) (by omega) rfl (λj v f h=>by omega) λk s hk hs hJ=>?_
 obtain rfl:s=_:=hs
 refine Wp.dec (λaF=>?_) λhge=> .some λ_=>⟨hl,λj v f hv hf=>hJ j v f ?_ hv hf⟩
 .have aF:k<vs.length:=by omega
  rw[aC aF,aqN,aC (show k<fs.length by omega),aqN]
  refine Wp.seq (λj=>j=ag->(vs[k].1:Int)=fs[k].2.1/\(vs[k].2.1:Int)=fs[k].2.2) ?_ λj hj=>?_
  .exact Wp.kq (λ_=> .some λh=>by cases h) λh=> .some λg=>⟨h,by simpa using g⟩
  refine Wp.ite (λ_=> .some λh=>by cases h) λc3=>?_
  obtain⟨g1,g2⟩:=hj (by simpa using c3);rw[zq,aqN]
  refine Wp.seq (λj=>j=ag->¬((vs[k].2.2:Int)<(Ju fs[k].2 l.1).1\/(Ju fs[k].2 l.1).2<(vs[k].2.2:Int))) ?_ λj hj=>?_
  .exact Wp.dec (λ_=> .some λh=>by cases h) λh=> .some λg=>λo=>o.elim h (by simpa using g)
  refine Wp.ite (λ_=> .some λh=>by cases h) λc4=> .some ⟨aF,bQ (m:=vs.length) (by omega) aF,λj v f TO hv hf=>?_⟩
  by_cases e:j<k
  .exact hJ j v f e hv hf
  .obtain rfl:j=k:=by omega
   rw[aqR aF]at hv;rw[aqR (show j<fs.length by omega)]at hf;obtain rfl:=aqP hv;obtain rfl:=aqP hf;exact YM hE g1 g2 (hj (by simpa using c4))
 .have:=(aq9.1 hv).1;omega
structure Hv(l:Lw)(x:jm)(c:ff.den):Prop where
 date:(0:Int)<=c.1/\(c.1:Int)<=109572
 inp:InT c.2.1 x.2.2.1
 le:c.2.2.length<=8
 mem:∀vs∈c.2.2,∃k,∃hk:k<l.2.2.length,(x.2.1:Int)=(k:Int)/\InT vs l.2.2[k].2.2.1
def Vo{l:Lw}(hE:EnL l)(gk:fZ l){k:Nat}(hk:k<l.2.2.length)(c:ff.den)(h1:c.2.1.length<=14)(h2:c.2.2.length<=10)(h3:∀vs∈c.2.2,vs.length<=14):Wp (M.cF aK l (k:Int) c) λr=>r.2.2=0->Hv l l.2.2[k] c:=by
 have sB:=gk.2.2.2.2.2 _ (aqS hk);unfold M.cF
 refine Wp.seq (λ_=>True) (Wp.dec (λ_=> .some trivial) λ_=> .some trivial) λj1 _=>?_
 refine Wp.ite (λ_=> .some λh=>by cases h) λ_=>?_
 refine Wp.seq (λj=>j=ag->(0:Int)<=c.1/\(c.1:Int)<=109572) ?_ λj2 VH=>?_
 .refine Wp.dec (λ_=> .some λh=>by cases h) λh=> .some λg=>?_
  have g:=of_decide_eq_false g;exact⟨Int.not_lt.1 h,Int.not_lt.1 g⟩
 refine Wp.ite (λ_=> .some λh=>by cases h) λc2=>?_
 have hdt:=VH (by simpa using c2);rw[aC hk,aqN]
 refine Wp.seq _ (tJ hE c.2.1 l.2.2[k].2.2.1 (by omega) (by have:=sB.2.1;omega)) λy4 hy4=>?_
 refine Wp.kq (λh=> .some λg=>absurd g h) λc4=>?_
 have dC:=hy4 c4
 have WK:Wp (M.fq aK l (k:Int)) λy=>(y.2:Int)<=8/\((y.2:Int)=0\/∃q,∃hq:q<l.2.2.length,(l.2.2[k].2.1:Int)=(q:Int)/\y.1=l.2.2[q].2.2.1)/\y.1.length<=14:=by
  unfold M.fq;rw[aC hk,aqN]
  refine Wp.seq (λj=>j=ag->(0:Int)<=l.2.2[k].2.1/\(l.2.2[k].2.1:Int)<(l.2.2.length:Int)) ?_ λj hj=>?_
  .refine Wp.dec (λ_=> .some λh=>by cases h) λh=> .some λg=>?_
   have g:=of_decide_eq_false g;exact⟨Int.not_lt.1 h,Int.not_le.1 g⟩
  refine Wp.ite (λ_=> .some ⟨by show(0:Int)<=8;omega, .inl rfl,by simp⟩) λc=>?_
  obtain⟨g1,g2⟩:=hj (by simpa using c);obtain⟨q,hq⟩:=aqY g1;have g3:(q:Int)<(l.2.2.length:Int):=hq▸g2
  have Kb:q<l.2.2.length:=by omega
  have e:idx l.2.2 l.2.2[k].2.1=aa l.2.2[q]:=by
   rw[show idx l.2.2 l.2.2[k].2.1=idx l.2.2 (q:Int)from av _ hq,aC Kb]
  rw[e,aqN];exact .some ⟨by show(8:Int)<=8;omega, .inr ⟨q,Kb,hq,rfl⟩,(gk.2.2.2.2.2 _ (aqS Kb)).2.1⟩
 refine Wp.seq _ WK λy5 hy5=>?_
 obtain⟨i1,i2,i3⟩:=hy5
 refine Wp.dec (λ_=> .some λh=>by cases h) λc5=>?_
 have h8:c.2.2.length<=8:=by omega
 refine Wp.count (λs=>s) c.2.2.length (λm _=>∀j(h:j<c.2.2.length),j<m->InT c.2.2[j] y5.1) (by omega) rfl (λj h g=>by omega) λm s hm hs hJ=>?_
 obtain rfl:s=_:=hs
 refine Wp.dec (λaF=>?_) λhge=> .some λ_=>⟨hdt,dC,h8,λvs hvs=>?_⟩
 .have aF:m<c.2.2.length:=by omega
  rw[aC aF,aqN]
  refine Wp.seq _ (tJ hE c.2.2[m] y5.1 (by have:=h3 _ (aqS aF);omega) (by omega)) λy8 hy8=>?_
  refine Wp.kq (λh=> .some λg=>absurd g h) λc8=> .some ⟨aF,bQ (m:=c.2.2.length) (by omega) aF,λj h hj=>?_⟩
  by_cases e:j<m
  .exact hJ j h e
  .obtain rfl:j=m:=by omega
   exact hy8 c8
 .obtain⟨j,hj,rfl⟩:=aq6 hvs
  rcases i2 with i2|⟨q,hq,e1,e2⟩
  .omega
  .exact⟨q,hq,e1,e2▸hJ j hj (by omega)⟩
abbrev Kk:=b8.den
def Wt{l:Lw}(hv:Valid l){k:Nat}(hk:k<l.2.2.length)(h:(0:Int)<=l.2.2[k].2.1):∃q,∃hq:q<l.2.2.length,(l.2.2[k].2.1:Int)=(q:Int)/\(l.2.2[q].2.1:Int)= -1:=by
 have hb:=(hv.scope k hk).2.2.1;unfold qW at hb;obtain⟨q,e⟩:=aqY h;have e':(l.2.2[k].2.1:Int)=(q:Int):=e;by_cases h1:(l.2.2[k].2.1:Int)= -1
 .have Is:((q:Nat):Int)= -1:=e'.symm.trans h1;omega
 .have hb:=λg=>hb ⟨h1,g⟩
  have hqk:q<k:=by
   by_cases g:(k:Int)<=l.2.2[k].2.1
   .exact absurd (.inr (.inl g)) hb
   .have g':¬(k:Int)<=(q:Int):=λz=>g (e'▸z)
    omega
  have hq:q<l.2.2.length:=by omega
  refine⟨q,hq,e',?_⟩;by_cases g:(l.2.2[q].2.1:Int)= -1
  .exact g
  .refine absurd (.inr (.inr ⟨l.2.2[q],?_,g⟩)) hb;rw[e',aqX,aqR hq]
def uz{α:Type}(n:Nat)(v:α)(h:n<=100000):qh (n:Int) v=aa (aqW n v):=by
 unfold qh;rw[aj (by omega),aqX]
end L
namespace L
end L
namespace L
def xs(b:Nat->Bool):Nat->Nat
 |0=>0
 |n+1=>xs b n+(if b n=af then 2 ^ n else 0)
def Wu(b:Nat->Bool):∀n,xs b n<2 ^ n
 |0=>by simp[xs]
 |n+1=>by
  have:=Wu b n;unfold xs;rw[Nat.pow_succ]
  split<;>omega
def orI{a b:Nat}(ha:a<9223372036854775808)(hb:b<9223372036854775808):aL .or .i64 (a:Int) (b:Int)=((a|||b:Nat):Int):=by
 show aqO.wrap ((arH 64 (a:Int)|||arH 64 (b:Int)).toNat:Int)=_
 have h:a|||b<2 ^ 63:=Nat.or_lt_two_pow (by omega) (by omega)
 grind [wrap_i64]
end L
namespace L
theorem YN{m j:Nat}(h:m.testBit j=af):iR m (2 ^ j)<m:=Nat.lt_of_le_of_ne (J2 _ _) (LI h)
theorem Ov{x m b j:Nat}(h:x&&& m=b):x&&& iR m (2 ^ j)=iR b (2 ^ j):=by
 rw[jH];intro i;rw[dT,dT,<-jH.1 h i,Bool.and_assoc]
def Hw{n:Nat}{S:Nat->Prop}{x:Nat}:∀k m b,m=k->tB n S m b->x&&& m=b->∃m' b',Iy n S m' b'/\x&&& m'=b':=by
 intro k
 induction k using Nat.strongRecOn with
 |_ k ih=>
  intro m b hk h hx;by_cases hp:∃j,j<n/\m.testBit j=af/\tB n S (iR m (2 ^ j)) (iR b (2 ^ j))
  .grind [YN,Ov]
  .exact⟨m,b,⟨h,(by grind)⟩,hx⟩
def vI{k:Nat}{mem:Nat->Bool}:∀{l:List (Nat×Nat)}{cov:Nat->Bool}{q:Int×Int},q∈gV k mem cov l->∃p∈l,q=pI p.1 p.2
 |[],_,_,h=>by simp[gV]at h
 |p::l,cov,q,h=>by
  rw[mM]at h;split at h
  .rcases arx.1 h with rfl|h
   .grind
   .obtain⟨p',hp,e⟩:=vI h
    grind
  .obtain⟨p',hp,e⟩:=vI h
   grind
def sv{k:Nat}{mem:Nat->Bool}{x:Nat}(hx:x<k)(hm:mem x=af):∀{l:List (Nat×Nat)}{cov:Nat->Bool},cov x=ag->(∃p∈l,x&&& p.1=p.2)->∃m b,pI m b∈gV k mem cov l/\x&&& m=b
 |[],_,_,h=>by grind
 |p::l,cov,hc,h=>by
  rw[mM];by_cases hf:gU k mem cov p.1 p.2=af
  .rw[aj hf];by_cases K0:x&&& p.1=p.2
   .grind
   .obtain⟨m,b,h1,h2⟩:=sv hx hm (l:=l) (cov:=λx=>cov x||decide (x&&& p.1=p.2)) (by simp[hc,K0]) (by
     grind)
    grind
  .rw[ai hf];refine sv hx hm hc ?_
   grind [gU]
def Sp{n:Nat}(h:n<=8):LJ (n:Int)=n:=by grind [LJ]
def Sq{l:List Int}{n:Nat}(hn:n<=8){q:Int×Int}(hq:q∈mn l n):∃m b:Nat,q=pI m b/\tB n (λx=>(x:Int)∈l) m b:=by
 unfold mn G4 at hq;rw[Sp hn]at hq;obtain⟨p,hp,e⟩:=vI hq;exact⟨p.1,p.2,e,(rH.1 (arK.1 hp).2).1⟩
def Sr{l:List Int}{n:Nat}(hn:n<=8){x:Nat}(hx:x<2 ^ n)(hm:(x:Int)∈l):∃m b:Nat,pI m b∈mn l n/\x&&& m=b:=by
 unfold mn G4;rw[Sp hn]
 obtain⟨m,b,hp,hxm⟩:=Hw (x:=x) _ _ _ rfl (tB.full (n:=n) (S:=λx=>(x:Int)∈l) hx hm) (by
  grind [km,EA])
 exact sv hx (by unfold fL;grind) rfl ⟨(m,b),arK.2 ⟨(tC hn).2 ⟨hp.1.1,hp.1.2.1⟩,rH.2 hp⟩,hxm⟩
end L
namespace L
theorem St{m b c:Nat}{v:Int}(hm:m<256)(hc:c<256):RP (c:Int) (pI m b,v)=decide (c&&& m=b):=by
 grind [RP,N6]
def LV{O:List Int}{v:Int}{c:Nat}:(c:Int)∈yQ O v↔O[c]? =aa v:=by
 grind [yQ,wG]
def LW{x v:Int}:∀{l:List AK},(∃r∈l,RP x r=af)->(∀r∈l,RP x r=af->r.2=v)->rI x l=(v,af)
 |[],h,_=>by grind
 |r::l,h,g=>by
  rw[Ob];by_cases hr:RP x r=af
  .grind
  .rw[ai hr];refine LW ?_ (by grind)
   grind
def YO{rules:List kr}{a d:Int}{r:AK}:r∈RR rules a d->∃v:Int,r.2=v/\r.1∈mn (yQ (OO rules a d) v) (CS rules a d).1.length:=by
 unfold RR;rw[List.mem_flatMap]
 grind [fN]
theorem Wv{rules:List kr}{a d:Int}{c:Nat}(hc:c<2 ^ (CS rules a d).1.length):(OO rules a d)[c]? =aa (oc (fM rules a d) (ed rules a d) (fE rules a d) (BB rules a d) (c:Int)):=by
 grind [OO]
def Vp{rules:List kr}{a d:Int}(h:Fit rules a d){c:Nat}(hc:c<2 ^ (CS rules a d).1.length){r:AK}(hr:r∈RR rules a d)(hm:RP (c:Int) r=af):r.2=oc (fM rules a d) (ed rules a d) (fE rules a d) (BB rules a d) (c:Int):=by
 have h8:=vB h.n8;obtain⟨v,hv,hp⟩:=YO hr;obtain⟨m,b,e,hi⟩:=Sq h.n8 hp;have aiz:=hi.1;have e2:r=(pI m b,v):=Prod.ext e hv;rw[e2,St (by omega) (by omega),aw]at hm;have:=LV.1 (hi.2.2 c hc hm)
 grind [Wv]
def Ow{rules:List kr}{a d:Int}(h:Fit rules a d){c:Nat}(hc:c<2 ^ (CS rules a d).1.length):∃r∈RR rules a d,RP (c:Int) r=af:=by
 have h8:=vB h.n8;have hO:=Wv hc;generalize oc (fM rules a d) (ed rules a d) (fE rules a d) (BB rules a d) (c:Int)=v at hO;have uP:=LV.2 hO;obtain⟨m,b,hp,hx⟩:=Sr h.n8 hc uP;obtain⟨m',b',e,hi⟩:=Sq h.n8 hp;obtain⟨rfl,rfl⟩:=vA e;have aiz:=hi.1;refine⟨(pI m b,v),?_,by grind [St]⟩;unfold RR;refine List.mem_flatMap.2 ⟨v,?_,?_⟩
 all_goals grind [R8,fN]
def YP{rules:List kr}{a d:Int}(h:Fit rules a d){c:Nat}(hc:c<2 ^ (CS rules a d).1.length):rI (c:Int) (RR rules a d)=(oc (fM rules a d) (ed rules a d) (fE rules a d) (BB rules a d) (c:Int),af):=
 LW (Ow h hc) λr hr hm=>Vp h hc hr hm
end L
namespace L
noncomputable def ev(env:Kk)(e:nV):Vl×Int:=(M.jU aK e env).getD (P.z3,0)
def EW{env:Kk}(he:P.ph env){e:nV}(hw:∀n∈e,WF aA n):M.jU aK e env=aa (ev env e):=by
 have:∃r,M.jU aK e env=aa r:=by
  rcases P.A3 e with h|⟨st,w⟩
  .exact⟨_,P.Hu h env⟩
  .exact⟨_,P.A4 w he hw⟩
 obtain⟨r,hr⟩:=this;unfold ev;rw[hr];rfl
def py(E:nV->Vl×Int)(g:nV):Int:=if(E g).2≠0 then(E g).2 else if((E g).1.1:Int)=1 then 0 else 8
def BT(E:nV->Vl×Int)(g:nV):Bool:=decide (((E g).1.2.2:Int)=1)
def jw(E:nV->Vl×Int):Nat->Nat->List nV->Int×Int×Int
 |x,_,[]=>((x:Int),((-1:Int),(0:Int)))
 |x,k,g::C=>if py E g≠0 then((0:Int),((k:Int),py E g))else jw E (x+if BT E g=af then 2 ^ k else 0) (k+1) C
def Dg{E:nV->Vl×Int}:∀{C:List nV}{x k j:Nat}(hj:j<C.length),py E C[j]≠0->(∀i(hi:i<j),py E (C[i]'(by omega))=0)->jw E x k C=((0:Int),(((k+j:Nat):Int),py E C[j]))
 |g::C,x,k,0,_,h,_=>by
  have h:py E g≠0:=h;unfold jw;rw[aj h];rfl
 |g::C,x,k,j+1,hj,h,hg=>by
  have h0:=hg 0 (by omega);unfold jw;rw[ai (λg=>g h0),Dg (j:=j) (by simpa using hj) h λi hi=>hg (i+1) (by omega)];simp only[List.getElem_cons_succ,Nat.add_assoc,Nat.add_comm 1 j]
def Hx{E:nV->Vl×Int}{C:List nV}(h:∀g∈C,py E g=0):∀n,n<=C.length->jw E 0 0 C=jw E (xs (λk=>BT E (C[k]?.getD [])) n) n (C.drop n)
 |0,_=>rfl
 |n+1,hn=>by
  have aF:n<C.length:=by omega
  rw[Hx h n (by omega),aqZ aF,jw,ai (λg=>g (h _ (aqS aF))),xs,aqR aF];rfl
def Su{E:nV->Vl×Int}{C:List nV}(h:∀g∈C,py E g=0):jw E 0 0 C=(((xs (λk=>BT E (C[k]?.getD [])) C.length:Nat):Int),((-1:Int),(0:Int))):=by
 rw[Hx h _ (aqU _),List.drop_length];rfl
def Hy(E:nV->Vl×Int)(C:List nV):
 (∃(j:Nat)(g:nV),C[j]? =aa g/\py E g≠0/\(∀(i:Nat)(g':nV),i<j->C[i]? =aa g'->py E g'=0)/\jw E 0 0 C=((0:Int),((j:Int),py E g)))\/
 ((∀g∈C,py E g=0)/\jw E 0 0 C=(((xs (λk=>BT E (C[k]?.getD [])) C.length:Nat):Int),((-1:Int),(0:Int)))):=by
 by_cases h:∀g∈C,py E g=0
 .exact .inr ⟨h,Su h⟩
 .have hx:∃g∈C,(λg=>decide (py E g≠0)) g=af:=by
   grind
  have hl:=List.findIdx_lt_length_of_exists hx;have hp:=al (List.findIdx_getElem (w:=hl))
  have hg:∀i(hi:i<C.findIdx λg=>decide (py E g≠0)),py E (C[i]'(by omega))=0:=λi hi=>by
   have:=List.not_of_lt_findIdx hi;simpa using this
  refine .inl ⟨_,_,aqR hl,hp,λi g' hi he=>?_,?_⟩
  .rw[aqR (by omega)]at he;rw[<-aqP he];exact hg i hi
  .have:=Dg (E:=E) (x:=0) (k:=0) hl hp hg;rw[arv]at this;exact this
def pick(E:nV->Vl×Int)(rules:List kr)(o:Int):Vl×Int×Int:=
 if o= -1 then(P.z3,((-1:Int),(10:Int)))else if o= -2 then(P.z3,((-1:Int),(11:Int)))else
  match rules[o.toNat]? with
  |some r=>if(E r.2.2.2.2.2.2.1).2≠0 then(P.z3,(o,(E r.2.2.2.2.2.2.1).2))else((E r.2.2.2.2.2.2.1).1,(o,(0:Int)))
  |none=>(P.z3,((-1:Int),(10:Int)))
def Ox{rules:List kr}{a d:Int}(h:rules.length<=100000)(fl:List Bool):O4 (fM rules a d) (yP (ed rules a d) (fE rules a d) fl)= -1\/O4 (fM rules a d) (yP (ed rules a d) (fE rules a d) fl)= -2\/
 ∃i:Nat,i∈TN rules a d/\∃hi:i<rules.length,O4 (fM rules a d) (yP (ed rules a d) (fE rules a d) fl)=(i:Int):=by
 have hl:(ed rules a d).length=(TN rules a d).length:=by unfold ed TN;simp
 have hT:(TN rules a d).length<=rules.length:=by
  unfold TN;rw[G8];exact qM ..
 obtain⟨_,hr⟩:=wJ (ed rules a d) (fE rules a d) fl (by omega);generalize yP (ed rules a d) (fE rules a d) fl=s at hr⊢;rw[hl]at hr;unfold O4
 rcases hr with rfl|rfl|⟨h0,h1⟩
 .exact .inl rfl
 .exact .inr (.inl rfl)
 .obtain⟨k,rfl⟩:=aqY h0
  have hk:k<(TN rules a d).length:=by omega
  rw[aj h0,si,aqX,List.getElem?_map,aqR hk];exact .inr (.inr ⟨_,aqS hk,Ke _ (aqS hk),rfl⟩)
def xR(dp:List Vl->Int->Vl×Int×Int):List Int->List Vl->List Int->(List Vl×List Int)⊕(Int×Int×Int)
 |[],D,rl=> .inl (D,rl)
 |a::o,D,rl=>if(dp D a).2.2≠0 then .inr ((dp D a).2.2,(a,(dp D a).2.1))else xR dp o (bH D a (dp D a).1) (bH rl a (dp D a).2.1)
end L
namespace L
noncomputable def pk(E:nV->Vl×Int)(rules:List kr)(d a:Int):Vl×Int×Int:=
 if(jw E 0 0 (CS rules a d).1).2.2≠0 then(P.z3,((((CS rules a d).2[(jw E 0 0 (CS rules a d).1).2.1.toNat]?).getD (-1)),(jw E 0 0 (CS rules a d).1).2.2))
 else pick E rules (oc (fM rules a d) (ed rules a d) (fE rules a d) (BB rules a d) (jw E 0 0 (CS rules a d).1).1)
end L
namespace L
def YQ{x n:Nat}(h:x<2 ^ n)(hn:n<62):aL .or .i64 (x:Int) ((2 ^ n:Nat):Int)=((x+2 ^ n:Nat):Int):=by
 have h2:2 ^ n<=2 ^ 61:=Nat.pow_le_pow_right (by omega) (by omega);rw[orI (by omega) (by omega)];have:=Nat.two_pow_add_eq_or_of_lt h 1;rw[Nat.mul_one]at this;rw[Nat.or_comm,<-this,Nat.add_comm]
def A5{E:nV->Vl×Int}{g:nV}(h:(E g).2≠0):py E g=(E g).2:=by
 unfold py;rw[aj h]
def Dh{E:nV->Vl×Int}{g:nV}(h:(E g).2=0)(h1:((E g).1.1:Int)≠1):py E g=8:=by
 unfold py;rw[ai (λk=>k h),ai h1]
def LX{E:nV->Vl×Int}{g:nV}(h:(E g).2=0)(h1:((E g).1.1:Int)=1):py E g=0:=by
 unfold py;rw[ai (λk=>k h),aj h1]
def A6{E:nV->Vl×Int}{x k:Nat}{g:nV}{C:List nV}:jw E x k (g::C)=if py E g≠0 then((0:Int),((k:Int),py E g))else jw E (x+if BT E g=af then 2 ^ k else 0) (k+1) C:=rfl
def Oy(t:EI){env:Kk}(he:P.ph env)(hw:∀g∈t.2.1,∀n∈g,WF aA n)(h8:t.2.1.length<=8):M.du aK t env=aa (jw (ev env) 0 0 t.2.1):=by
 unfold M.du;rw[ai (by simp;omega)];refine Wp.eq (Wp.count (λs=>s.2) t.2.1.length (λk s=>∃x:Nat,s.1=(x:Int)/\x<2 ^ k/\jw (ev env) 0 0 t.2.1=jw (ev env) x k (t.2.1.drop k)) (by omega) rfl ⟨0,rfl,by simp,rfl⟩ λk s hk hs hJ=>?_);obtain⟨y,c⟩:=s;obtain⟨x,e,hx,hJ⟩:=hJ;dsimp only at hs e;subst hs e;refine .dec (λh=>?_) (λh=> .some ?_)
 .have aF:k<t.2.1.length:=by dsimp only at h;omega
  have hg:=hw _ (aqS aF);have h2:2 ^ k*2=2 ^ (k+1):=(Nat.pow_succ ..).symm;rw[aqZ aF,A6]at hJ;refine .join (.bind (.idx k rfl aF (.be (EW he hg) ?_)))
  refine .kq (λh1=> .some ?_) λh1=> .kq (λh3=> .some ?_) λh3=>?_
  .rw[aj (by rw[A5 h1];exact h1),A5 h1]at hJ;exact hJ.symm
  .rw[Dh h1 h3,aj (by decide)]at hJ;exact hJ.symm
  .rw[LX h1 h3,ai (λg=>g rfl)]at hJ;refine .dec (λh4=> .be (se (by omega)) (.some (.some ⟨aF,aR (by omega),x+2 ^ k,?_,by omega,?_⟩))) (λh4=> .some (.some ⟨aF,aR (by omega),x,rfl,by omega,?_⟩))
   .exact YQ hx (by omega)
   .rw[hJ,aj (show BT (ev env) t.2.1[k]=af from an h4)]
   .rw[hJ,ai (show¬BT (ev env) t.2.1[k]=af from λg=>h4 (al g))];rfl
 .have:k=t.2.1.length:=by dsimp only at h;omega
  subst this;rw[List.drop_length]at hJ;exact hJ.symm
def Hz{rules:List kr}{a d:Int}(h:Fit rules a d):(RR rules a d).length<=100000000:=by
 have hl:(fM rules a d).length=(TN rules a d).length:=by rw[si];simp
 have ht:=h.t8
 have key:∀L:List Int,(L.flatMap (fN (OO rules a d) (CS rules a d).1.length)).length<=L.length*65536:=λL=>by
  induction L with
  |nil=>simp
  |cons v L ih=>
   grind [vF]
 have:=key ([-2,-1]++fM rules a d);unfold RR
 have h2:([(-2:Int),-1]++fM rules a d).length<=10:=by simp;omega
 grind
def Oz(t:EI)(j:Nat):M.lk aK t (j:Int)=aa ((t.2.2.1[j]?).getD (-1)):=by
 unfold M.lk;rw[ai (by simp),aqN];by_cases h:j<t.2.2.1.length
 .rw[ai (by simp;omega),aC h,aqR h];rfl
 .rw[aj (by simp;omega),List.getElem?_eq_none (by omega)];rfl
noncomputable def HA(rules:List kr)(d a:Int):EI:=(a,((CS rules a d).1,((CS rules a d).2,RR rules a d)))
def HB{rules:List kr}{d a:Int}(hf:Fit rules a d)(E:nV->Vl×Int):
 (∃(j:Nat)(c:Int),c≠0/\jw E 0 0 (CS rules a d).1=((0:Int),((j:Int),c))/\pk E rules d a=(P.z3,(((CS rules a d).2[j]?).getD (-1),c)))\/
 (∃x:Nat,jw E 0 0 (CS rules a d).1=((x:Int),((-1:Int),(0:Int)))/\rI (x:Int) (RR rules a d)=(oc (fM rules a d) (ed rules a d) (fE rules a d) (BB rules a d) (x:Int),af)/\
   pk E rules d a=pick E rules (oc (fM rules a d) (ed rules a d) (fE rules a d) (BB rules a d) (x:Int))):=by
 unfold pk
 rcases Hy E (CS rules a d).1 with⟨j,g,_,h2,_,h4⟩|⟨_,h2⟩
 .refine .inl ⟨j,_,h2,h4,?_⟩;rw[h4];dsimp only;rw[aj h2,aqX]
 .refine .inr ⟨_,h2,YP hf (Wu _ _),?_⟩;rw[h2];dsimp only;rw[ai (λg=>g rfl)]
def HC{rules:List kr}{a d:Int}(h:rules.length<=100000)(x:Int):oc (fM rules a d) (ed rules a d) (fE rules a d) (BB rules a d) x= -1\/oc (fM rules a d) (ed rules a d) (fE rules a d) (BB rules a d) x= -2\/
 ∃i:Nat,∃hi:i<rules.length,oc (fM rules a d) (ed rules a d) (fE rules a d) (BB rules a d) x=(i:Int):=by
 rcases Ox (a:=a) (d:=d) h ((BB rules a d).map (flag x))with h|h|⟨i,_,hi,h⟩
 .exact .inl h
 .exact .inr (.inl h)
 .exact .inr (.inr ⟨i,hi,h⟩)
def Di{E:nV->Vl×Int}{rules:List kr}{i:Nat}(hi:i<rules.length):pick E rules (i:Int)=if(E rules[i].2.2.2.2.2.2.1).2≠0 then(P.z3,((i:Int),(E rules[i].2.2.2.2.2.2.1).2))else((E rules[i].2.2.2.2.2.2.1).1,((i:Int),(0:Int))):=by
 unfold pick;rw[ai (by omega),ai (by omega),aqX,aqR hi]
def EX{x:jm}{d a:Int}(Fa:WF bn x)(hf:Fit x.2.2.2.2 a d){o:List Int}{Ts:List EI}{Cs:List Int}(hT:idx Ts a=aa (HA x.2.2.2.2 d a))(hC:idx Cs a=aa 0){env:Kk}(he:P.ph env):
 M.gq aK (x,(o,(Ts,Cs))) a env=aa (pk (ev env) x.2.2.2.2 d a):=by
 have JT:∀r∈x.2.2.2.2,WF dX r:=Fa.2.2.2.2.2;have Zn:=hf.len;unfold M.gq;dsimp only;generalize x.2.2.2.2=rules at*
 have hcw:∀g∈(CS rules a d).1,∀n∈g,WF aA n:=λg hg=>by
  rcases xQ rules (TN rules a d) ([],[]) g hg with h|⟨i,rfl⟩
  .cases h
  .unfold gd;split
   .rename_i r hr;exact(JT _ (List.mem_of_getElem? hr)).2.2.2.2.2.1.2
   .intro n hn;cases hn
 have e:M.du aK (HA rules d a) env=aa (jw (ev env) 0 0 (CS rules a d).1):=Oy (HA rules d a) he hcw hf.n8;refine Wp.eq (.be hC (.kq (λg=>absurd rfl g) λ_=> .be hT (.be e ?_)))
 rcases HB hf (ev env)with⟨j,c,h1,h2,h3⟩|⟨y,h1,h2,h3⟩
 .rw[h2,h3]
  exact .kq (λ_=> .be (Oz (HA rules d a) j) (.some rfl)) λg=>absurd g h1
 .rw[h1,h3];have e2:M.jb aK (HA rules d a) (y:Int)=aa (oc (fM rules a d) (ed rules a d) (fE rules a d) (BB rules a d) (y:Int),af):=(RQ (HA rules d a) _ (by have:=Hz hf;show(RR rules a d).length<=_;omega)).trans (av aa h2);have hc:=HC (rules:=rules) (a:=a) (d:=d) (by omega) (y:Int);generalize oc (fM rules a d) (ed rules a d) (fE rules a d) (BB rules a d) (y:Int)=v at hc e2⊢
  refine .kq (λg=>absurd rfl g) λ_=> .be e2 (Wp.seq (λj=>j=decide (v= -1)) (.ite (λh=>by cases h) λ_=> .some rfl) λj hj=>?_)
  subst hj
  rcases hc with rfl|rfl|⟨i,hi,rfl⟩
  .exact .ite (λ_=> .some rfl) λh=>absurd rfl h
  .exact .ite (λh=>absurd h (by decide)) λ_=> .dec (λ_=> .some rfl) λh=>absurd rfl h
  .rw[Di hi]
   refine .ite (λh=>absurd (al h) (by omega)) λ_=> .dec (λh=>absurd h (by omega)) λ_=> .be (aC hi) (.be (EW he (JT _ (aqS hi)).2.2.2.2.2.2.1.2) ?_)
   exact .kq (λh=> .some (by rw[aj h];rfl)) λh=> .some (by rw[ai (λg=>g h)])
abbrev Dt:Type:=(nV->Vl×Int)->List kr->Int->Int->Vl×Int×Int
abbrev Vq:aD.den:=((0:Int),((0:Int),((0:Int),(0:Int))))
abbrev Rst:Type:=List (List aB.den)×(List aA.den×List bj.den)
noncomputable def Bo(dt:Dt)(x:jm)(o:List Int)(d:Int)(vs:List Vl)(rs:Rst):(List Vl×List Int)⊕(Int×Int×Int):=
 xR (λD a=>dt (ev (d,(vs,(D,rs)))) x.2.2.2.2 d a) o (aqW x.2.2.2.1.length P.z3) (aqW x.2.2.2.1.length 0)
def qZ(mem:Int):(List Vl×List Int)⊕(Int×Int×Int)->aD.den×List Vl×List Int
 | .inl p=>(Vq,p.1,p.2)
 | .inr q=>((q.1,(mem,(q.2.1,q.2.2))),[],[])
def LY{dp:List Vl->Int->Vl×Int×Int}:∀{o:List Int}{D:List Vl}{rl:List Int}{q:Int×Int×Int},xR dp o D rl= .inr q->q.1≠0
 |a::o,D,rl,q,h=>by
  rw[xR]at h;split at h
  .rename_i g;cases h;exact g
  .exact LY h
structure acm(x:jm)(d:Int)(o:List Int)(p:fg.den):Prop where
 scope:p.1=x
 order:p.2.1=o
 aaJ:∀a:Nat,a<x.2.2.2.1.length->idx p.2.2.1 (a:Int)=aa (HA x.2.2.2.2 d (a:Int))
 codes:∀a:Nat,a<x.2.2.2.1.length->idx p.2.2.2 (a:Int)=aa 0
def HD{x:jm}{d:Int}{o:List Int}{p:fg.den}(hp:acm x d o p)(Fa:WF bn x)(hs:ow x)(hf:∀a,Fit x.2.2.2.2 a d)(ho:∀a∈o,(0:Int)<=a/\a<(x.2.2.2.1.length:Int))(hol:o.length<=100000){vs:List Vl}{rs:Rst}(he:∀D,P.ph (d,(vs,(D,rs))))(D0:List Vl)(mem:Int):
 M.gP aK p (d,(vs,(D0,rs))) mem=aa (qZ mem (Bo pk x o d vs rs)):=by
 obtain⟨x',o',Ts,Cs⟩:=p;obtain⟨h1,h2,h3,h4⟩:=hp;dsimp only at h1 h2 h3 h4;subst h1 h2;have Fb:=hs.2.2.1;unfold M.gP;dsimp only;rw[uz _ _ (by omega),aqN,uz _ _ (by omega),aqN];refine Wp.eq (.join (Wp.count (λs=>s.1) o'.length (λk s=>s.2.1.length=x'.2.2.2.1.length/\s.2.2.length=x'.2.2.2.1.length/\Bo pk x' o' d vs rs=xR (λD a=>pk (ev (d,(vs,(D,rs)))) x'.2.2.2.2 d a) (o'.drop k) s.2.1 s.2.2) (by omega) rfl ⟨by simp,by simp,rfl⟩ λk s hk hs hJ=>?_));obtain⟨c,D,rl⟩:=s;obtain⟨j1,j2,j3⟩:=hJ;dsimp only at hs j1 j2 j3;subst hs;refine .dec (λh=>?_) (λh=> .some ?_)
 .have aF:k<o'.length:=by dsimp only at h;omega
  obtain⟨a0,a1⟩:=ho _ (aqS aF);obtain⟨q,hq⟩:=aqY a0
  have Kb:q<x'.2.2.2.1.length:=by omega
  rw[aqZ aF,xR]at j3;refine .bind (.idx k rfl aF ?_);rw[hq]at j3⊢;refine .be (EX Fa (hf _) (h3 q Kb) (h4 q Kb) (he D)) (.kq (λh0=> .some ?_) λh0=> .bind (.idx q rfl (show q<D.length by omega) (.bind (.idx q rfl (show q<rl.length by omega) (.some ⟨aF,aR (by omega),by rw[cQ];exact j1,by rw[cQ];exact j2,?_⟩)))))
  .rw[aj h0]at j3
   show _=qZ mem _
   rw[j3];rfl
  .rw[ai (λg=>g h0)]at j3;exact j3
 .have:k=o'.length:=by dsimp only at h;omega
  subst this;rw[List.drop_length,xR]at j3;refine .some ?_;rw[j3];rfl
end L
namespace L
def Sv{l:Lw}(gk:fZ l)(hv:Valid l){k:Nat}(hk:k<l.2.2.length):∃o,M.cG aK l.2.2[k]=aa ((0:Int),o)/\rJ l.2.2[k] o/\o.length=l.2.2[k].2.2.2.1.length:=by
 have sB:=gk.2.2.2.2.2 _ (aqS hk);have hsc:=hv.scope k hk;obtain⟨r,er,o,h1,h2,hr⟩:=Sc _ sB
 have gZ:=Ol h1 h2 λd hd hc=>hsc.2.2.2.2.2.2.2 d hd ((LG _ d d).2 hc)
 rw[ai (by omega)]at hr;subst hr;exact⟨o,er,h1,gZ⟩
def HE{α:Type}{l:List α}{k i:Nat}{v:α}(hk:k<l.length):(bH l (k:Int) v)[i]? =if i=k then aa v else l[i]? :=by
 unfold bH;rw[aqX,List.getElem?_set]
 grind
def Kl{α:Type}{l:List α}{i:Nat}{v:α}(h:l[i]? =aa v):idx l (i:Int)=aa v:=by
 obtain⟨h1,rfl⟩:=aq9.1 h;exact aC h1
def LZ{l:Lw}(hw:WF cz l)(gk:fZ l)(hv:Valid l){k:Nat}(hk:k<l.2.2.length){d:Int}(h0:0<=d)(h1:d<=109572){o:List Int}(eo:M.cG aK l.2.2[k]=aa ((0:Int),o)):Wp (M.dH aK l (k:Int) d) (acm l.2.2[k] d o):=by
 have Fb:=(gk.2.2.2.2.2 _ (aqS hk)).2.2.1;have hp:=wC l hw gk;rw[hv.E9]at hp;have hx:=aC hk
 have hf:=λa=>Fit.of hv gk hk a d
 unfold M.dH;rw[hx,aqN];generalize l.2.2[k]=x at*;rw[uz _ _ (by omega),aqN,uz _ _ (by omega),aqN,eo,aqN]
 refine Wp.seq (λj=>∀a:Nat,a<x.2.2.2.1.length->j.1[a]? =aa (HA x.2.2.2.2 d (a:Int))/\j.2[a]? =aa 0) ?_ λj hj=> .some ⟨rfl,rfl,λa ha=>Kl (hj a ha).1,λa ha=>Kl (hj a ha).2⟩
 refine Wp.count (λs=>s.1) x.2.2.2.1.length (λi s=>s.2.1.length=x.2.2.2.1.length/\s.2.2.length=x.2.2.2.1.length/\∀a:Nat,a<i->s.2.1[a]? =aa (HA x.2.2.2.2 d (a:Int))/\s.2.2[a]? =aa 0) (by omega) rfl ⟨by simp,by simp,λa ha=>by omega⟩ λi s hi hs hJ=>?_
 obtain⟨c,Ts,Cs⟩:=s;obtain⟨j1,j2,j3⟩:=hJ;dsimp only at hs j1 j2 j3;subst hs;refine .dec (λh=>?_) (λh=> .some λa ha=>j3 a ?_)
 .have aF:i<x.2.2.2.1.length:=by dsimp only at h;omega
  refine .be (C9 hp (by omega) (by omega) hx (by omega) (by omega) h0 h1 (hf (i:Int))) (.bind (.idx i rfl (show i<Ts.length by omega) (.bind (.idx i rfl (show i<Cs.length by omega) (.some ⟨aF,aR (by omega),by rw[cQ];exact j1,by rw[cQ];exact j2,λa ha=>?_⟩)))));dsimp only;rw[HE (by omega),HE (by omega)];by_cases e:a=i
  .subst e;rw[aj rfl,aj rfl];exact⟨rfl,rfl⟩
  .rw[ai e,ai e];exact j3 a (by omega)
 .dsimp only at h;omega
def OA(fs:List Fd)(h:fs.length<=100000)(d:Int)(vs:List Vl)(T:List bj.den):Loop (S:=Int×Int×(List aB.den)×(List bj.den)×List aA.den) (X:=Int×(List aB.den)×(List bj.den)×List aA.den) (λs8=>
(if(decide (s8.1<(fs.length:Int)))=af then
(idx fs s8.1).bind λx9=>
(cD s8.2.2.2.2 ([x9.2]:List aA.den)).bind λl10=>
some (Sum.inl (aqO.wrap (s8.1+(1:Int)),s8.2.1,s8.2.2.1,s8.2.2.2.1,l10))
else
some (arM (s8.2.1,s8.2.2.1,s8.2.2.2.1,s8.2.2.2.2)))) aK ((0:Int),d,vs,T,([]:List aA.den))=aa (d,vs,T,fs.map (·.2)):=by
 apply Wp.eq
 refine Wp.count (λs=>s.1) fs.length (λk s=>s.2=(d,vs,T,(fs.take k).map (·.2))) (by omega) rfl rfl λk s hk hs hJ=>?_
 obtain⟨c,s⟩:=s;dsimp only at hs hJ;subst hs hJ
 refine Wp.dec (λaF=>?_) λhge=>?_
 .have aF:k<fs.length:=by dsimp only at aF;omega
  dsimp only;rw[aC aF,aqN,eZ (by simp;omega),aqN];refine .some ⟨aF,bQ (m:=fs.length) (by omega) aF,?_⟩
  show(d,vs,T,(fs.take k).map (·.2)++[fs[k].2])=(d,vs,T,(fs.take (k+1)).map (·.2))
  rw[List.take_add_one,aqR aF,List.map_append];rfl
 .have hge:k=fs.length:=by dsimp only at hge;omega
  subst hge;refine .some ?_;rw[List.take_length];rfl
def L1{l:Lw}(hw:WF cz l){d:Int}{vs D:List Vl}{ms:List (List Vl)}{uZ:List Ty}(h:ms.length<=100):P.ph (d,(vs,(D,(ms,(uZ,l.2.1))))):=by
 refine⟨h,λt ht=>?_⟩;have:=(hw.2.1.2 t ht).2.2.2.1;unfold maxLen at this;exact this
abbrev Zr:Type:=List aG.den
abbrev Rs:Type:=aD.den×List aB.den×List Int×List aG.den
def uK(f:Nat->List Vl->aD.den×List Vl×List Int):Nat->List (List Vl)->Zr->aD.den⊕Zr
 |_,[],acc=> .inr acc
 |k,vs::t,acc=>if((f k vs).1.1:Int)≠0 then .inl (f k vs).1 else uK f (k+1) t (acc++[((f k vs).2.1,(f k vs).2.2)])
def HF{f:Nat->List Vl->aD.den×List Vl×List Int}:∀{ms:List (List Vl)}{k:Nat}{acc MR:Zr},uK f k ms acc= .inr MR->MR.length=acc.length+ms.length
 |[],_,_,_,h=>by cases h;simp
 |vs::ms,k,acc,MR,h=>by
  rw[uK]at h;split at h
  .cases h
  .rw[HF h];simp;omega
noncomputable def OB(dt:Dt)(x q:jm)(o oq:List Int)(uZ:List Ty)(c:ff.den)(Vr:List bj.den):Rs:=
 match uK (λm vs=>qZ (m:Int) (Bo dt q oq c.1 vs ([],([],Vr)))) 0 c.2.2 []with
 | .inl e=>(e,[],[],[])
 | .inr MR=>if((qZ (-1) (Bo dt x o c.1 c.2.1 (MR.map (·.1),(uZ,Vr)))).1.1:Int)≠0 then((qZ (-1) (Bo dt x o c.1 c.2.1 (MR.map (·.1),(uZ,Vr)))).1,[],[],[])
   else(Vq,(qZ (-1) (Bo dt x o c.1 c.2.1 (MR.map (·.1),(uZ,Vr)))).2.1,(qZ (-1) (Bo dt x o c.1 c.2.1 (MR.map (·.1),(uZ,Vr)))).2.2,MR)
def A7(dt:Dt)(x:jm)(o:List Int)(d:Int)(vs:List Vl)(rs:Rst)(mem:Int):(qZ mem (Bo dt x o d vs rs)).1=Vq\/((qZ mem (Bo dt x o d vs rs)).1.1:Int)≠0:=by
 unfold Bo
 cases h:xR (λD a=>dt (ev (d,(vs,(D,rs)))) x.2.2.2.2 d a) o (aqW x.2.2.2.1.length P.z3) (aqW x.2.2.2.1.length 0)with
 |inl p=>exact .inl rfl
 |inr q=>exact .inr (LY h)
def HG(l:Lw)(x:jm)(c:ff.den)(q:jm)(oq:List Int)(uZ:List Ty):Prop:=
 (¬(0:Int)<=x.2.1/\uZ=[]/\c.2.2=[])\/∃j,∃hj:j<l.2.2.length,(x.2.1:Int)=(j:Int)/\q=l.2.2[j]/\M.cG aK q=aa ((0:Int),oq)/\rJ q oq/\oq.length=q.2.2.2.1.length/\uZ=q.2.2.2.1.map (λf:Fd=>f.2)
def eqE{e:aD.den}(h:e=Vq\/(e.1:Int)≠0):mD aD e Vq=decide ((e.1:Int)=0):=by
 rcases h with rfl|h
 .rw[pd];rfl
 .rw[ao h]
  refine q8.2 λg=>h ?_
  rw[g]
def aiB{l:Lw}(hw:WF cz l)(gk:fZ l)(hv:Valid l){k:Nat}(hk:k<l.2.2.length){c:ff.den}(hC:Hv l l.2.2[k] c){y:Int×Int×Int}(hy:M.cF aK l (k:Int) c=aa y)(Zs:y.2.2=0)
 {o:List Int}(eo:M.cG aK l.2.2[k]=aa ((0:Int),o))(ho:rJ l.2.2[k] o)(hol:o.length=l.2.2[k].2.2.2.1.length){q:jm}{oq:List Int}{uZ:List Ty}(hA:HG l l.2.2[k] c q oq uZ):
 M.cN aK l (k:Int) c=aa (OB pk l.2.2[k] q o oq uZ c l.2.1):=by
 have hp:=wC l hw gk;rw[hv.E9]at hp;have sB:=gk.2.2.2.2.2 _ (aqS hk);have Fa:=hw.2.2.2 _ (aqS hk);have Fb:=sB.2.2.1;have h8:=hC.le;unfold M.cN;rw[hp,aqN,ai (by rw[show E9=Vq from rfl,pd];decide)]
 have hj:((if(decide ((k:Int)<(0:Int)))=af then aa af else aa (decide ((l.2.2.length:Int)<=(k:Int)))):Option Bool)=aa ag:=by
  rw[ai (by rw[aw];omega),ao (by omega)]
 rw[hj,aqN,ai (by decide),hy,aqN,ai (by simpa using Zs)]
 obtain⟨f,hf⟩:∃f,f=λ(m:Nat)(vs:List Vl)=>qZ (m:Int) (Bo pk q oq c.1 vs ([],([],l.2.1))):=⟨_,rfl⟩
 refine Wp.eq (.join (Wp.mono (Q:=λu=>(∃e,uK f 0 c.2.2 []= .inl e/\u=arM (e,[],[],[]))\/∃MR,uK f 0 c.2.2 []= .inr MR/\MR.length<=100/\u=Sum.inl (c.1,c.2.1,l.2.1,MR,MR.map (λr:aG.den=>r.1),uZ)) ?_ λu hu=>?_))
 .rw[aC hk,aqN]
  rcases hA with⟨g1,rfl,g3⟩|⟨j,hj,g1,rfl,g3,g4,g5,rfl⟩
  .rw[ai (by simpa using g1),aqN,ai (by decide),g3];exact .some (.inr ⟨[],rfl,by simp,rfl⟩)
  .have Zt:=gk.2.2.2.2.2 _ (aqS hj);have hwq:=hw.2.2.2 _ (aqS hj);have aiD:=Zt.2.2.1
   have ei:idx l.2.2 l.2.2[k].2.1=aa l.2.2[j]:=by
    rw[show idx l.2.2 l.2.2[k].2.1=idx l.2.2 (j:Int)from av _ g1,aC hj]
   have aF:(l.2.2[k].2.1:Int)<(l.2.2.length:Int):=by
    have:((j:Nat):Int)<(l.2.2.length:Int):=by omega
    exact g1▸this
   rw[aj (an (show(0:Int)<=l.2.2[k].2.1 from g1▸Int.natCast_nonneg j)),an aF,aqN,aj rfl,ei,aqN,OA _ (by omega),aqN]
   refine .dec (λh0=>?_) λh0=>?_
   .rw[show M.dH aK l l.2.2[k].2.1 c.1=M.dH aK l (j:Int) c.1 by rw[g1]]
    refine Wp.seq _ (LZ hw gk hv hj hC.date.1 hC.date.2 g3) λp hP=>?_
    refine Wp.count (λs=>s.1) c.2.2.length (λi s=>∃MR:Zr,s.2=(c.1,c.2.1,l.2.1,l.2.2[j].2.2.2.1.map (λf:Fd=>f.2),MR,MR.map (λr:aG.den=>r.1))/\MR.length=i/\uK f 0 c.2.2 []=uK f i (c.2.2.drop i) MR) (by omega) rfl ⟨[],rfl,rfl,rfl⟩ λi s hi hs hJ=>?_
    obtain⟨ii,s⟩:=s;obtain⟨MR,rfl,j2,j3⟩:=hJ;dsimp only at hs;subst hs;refine .dec (λh=>?_) (λh=> .some (.inr ⟨MR,?_,by omega,rfl⟩))
    .have aF:i<c.2.2.length:=by dsimp only at h;omega
     rw[aqZ aF,uK]at j3
     have hr:=HD (p:=p) (mem:=(i:Int)) (D0:=[]) (vs:=c.2.2[i]) (rs:=([],([],l.2.1))) hP hwq Zt (λa=>Fit.of hv gk hj a c.1) (λa ha=>(g4.mem ha).1) (by omega) λD=>L1 hw (by simp)
     have hfi:f i c.2.2[i]=qZ (i:Int) (Bo pk l.2.2[j] oq c.1 c.2.2[i] ([],([],l.2.1))):=by rw[hf]
     have tP:=A7 pk l.2.2[j] oq c.1 c.2.2[i] ([],([],l.2.1)) (i:Int);rw[hfi]at j3;generalize qZ (i:Int) (Bo pk l.2.2[j] oq c.1 c.2.2[i] ([],([],l.2.1)))=r at hr j3 tP;refine .bind (.idx i rfl aF (.be hr ?_));dsimp only;rw[eqE tP]
     refine .kq (λhz=> .some (.inl ⟨_,?_,rfl⟩)) λhz=> .bind (.wY (by simp;omega) (.bind (.wY (by simp;omega) (.some ⟨aF,aR (by omega),MR++[(r.2.1,r.2.2)],by simp,by simp[j2],?_⟩))))
     .rw[j3,aj hz]
     .rw[j3,ai (λg=>g hz)]
    .have:i=c.2.2.length:=by dsimp only at h;omega
     rw[j3,this,List.drop_length];rfl
   .have:c.2.2=[]:=List.length_eq_zero_iff.1 (by omega);rw[this];exact .some (.inr ⟨[],rfl,by simp,rfl⟩)
 .unfold OB
  rcases hu with⟨e,he,rfl⟩|⟨MR,he,hl,rfl⟩
  .rw[hf]at he;rw[he];rfl
  .rw[hf]at he;rw[he]
   show Wp _ _
   dsimp only
   refine Wp.seq _ (LZ hw gk hv hk hC.date.1 hC.date.2 eo) λp hP=>?_
   refine .be (HD (p:=p) (mem:= -1) (D0:=[]) hP Fa sB (λa=>Fit.of hv gk hk a c.1) (λa ha=>(ho.mem ha).1) (by omega) λD=>L1 hw (by simpa using hl)) ?_;rw[eqE (A7 ..)]
   exact .kq (λhz=> .some (by rw[aj hz])) λhz=> .some (by rw[ai (λg=>g hz)])
end L
namespace L
def Km(fs:List Fd)(h:fs.length<=100000)(d:Int)(vs:List Vl)(Ms:List (List Vl))(T:List bj.den):Loop (S:=Int×Int×(List aB.den)×(List (List aB.den))×(List bj.den)×List aA.den) (X:=Int×(List aB.den)×(List (List aB.den))×(List bj.den)×List aA.den) (λs3=>
(if(decide (s3.1<(fs.length:Int)))=af then
(idx fs s3.1).bind λx4=>
(cD s3.2.2.2.2.2 ([x4.2]:List aA.den)).bind λl5=>
some (Sum.inl (aqO.wrap (s3.1+(1:Int)),s3.2.1,s3.2.2.1,s3.2.2.2.1,s3.2.2.2.2.1,l5))
else
some (arM (s3.2.1,s3.2.2.1,s3.2.2.2.1,s3.2.2.2.2.1,s3.2.2.2.2.2)))) aK ((0:Int),d,vs,Ms,T,([]:List aA.den))=aa (d,vs,Ms,T,fs.map (·.2)):=by
 apply Wp.eq
 refine Wp.count (λs=>s.1) fs.length (λk s=>s.2=(d,vs,Ms,T,(fs.take k).map (·.2))) (by omega) rfl rfl λk s hk hs hJ=>?_
 obtain⟨c,s⟩:=s;dsimp only at hs hJ;subst hs hJ
 refine Wp.dec (λaF=>?_) λhge=>?_
 .have aF:k<fs.length:=by dsimp only at aF;omega
  dsimp only;rw[aC aF,aqN,eZ (by simp;omega),aqN];refine .some ⟨aF,bQ (m:=fs.length) (by omega) aF,?_⟩
  show(d,vs,Ms,T,(fs.take k).map (·.2)++[fs[k].2])=(d,vs,Ms,T,(fs.take (k+1)).map (·.2))
  rw[List.take_add_one,aqR aF,List.map_append];rfl
 .have hge:k=fs.length:=by dsimp only at hge;omega
  subst hge;refine .some ?_;rw[List.take_length];rfl
def acn{l:Lw}(gk:fZ l)(hv:Valid l){k:Nat}(hk:k<l.2.2.length):∃ms:jm,M.kj aK l (k:Int)=aa ms/\ms.2.2.2.1.length<=14/\((¬(0:Int)<=l.2.2[k].2.1/\ms.2.2.2.1=[])\/∃q,∃hq:q<l.2.2.length,(l.2.2[k].2.1:Int)=(q:Int)/\(l.2.2[q].2.1:Int)= -1/\ms=l.2.2[q]):=by
 unfold M.kj;rw[aC hk,aqN];by_cases h:(0:Int)<=l.2.2[k].2.1
 .obtain⟨q,hq,e,e1⟩:=Wt hv hk h;have q14:=(gk.2.2.2.2.2 _ (aqS hq)).2.2.1;refine⟨l.2.2[q],?_,q14, .inr ⟨q,hq,e,e1,rfl⟩⟩
  have ei:idx l.2.2 l.2.2[k].2.1=aa l.2.2[q]:=by
   rw[show idx l.2.2 l.2.2[k].2.1=idx l.2.2 (q:Int)from av _ e,aC hq]
  have aF:¬(l.2.2.length:Int)<=l.2.2[k].2.1:=λg=>by
   have g:(l.2.2.length:Int)<=(q:Int):=e▸g;omega
  rw[ai (by rw[aw];exact Int.not_lt.2 h),ao aF,aqN,ai (by decide),ei,aqN]
 .refine⟨(asg,((0:Int),(([]:List Fd),(([]:List Fd),([]:List kr))))),?_,by simp, .inl ⟨h,rfl⟩⟩;rw[aj (an (Int.not_le.1 h)),aqN,aj rfl]
def Vs{l:Lw}(gk:fZ l)(hv:Valid l){k:Nat}(hk:k<l.2.2.length){c:ff.den}{q:jm}{oq:List Int}{uZ:List Ty}(hA:HG l l.2.2[k] c q oq uZ)(Ms:List (List Vl)):M.um aK l (k:Int) c Ms=aa (c.1,c.2.1,Ms,l.2.1,uZ):=by
 obtain⟨ms,en,m14,Nz⟩:=acn gk hv hk
 have hmt:ms.2.2.2.1.map (λf:Fd=>f.2)=uZ:=by
  rcases hA with⟨g1,rfl,_⟩|⟨j,hj,g1,rfl,_,_,_,rfl⟩
  .rcases Nz with⟨_,g⟩|⟨q,_,g,_⟩
   .rw[g];rfl
   .exact absurd (show(0:Int)<=l.2.2[k].2.1 from g▸Int.natCast_nonneg q) g1
  .rcases Nz with⟨g,_⟩|⟨q,hq,g,_,rfl⟩
   .exact absurd (show(0:Int)<=l.2.2[k].2.1 from g1▸Int.natCast_nonneg j) g
   .obtain rfl:q=j:=by
     have:((q:Nat):Int)=(j:Int):=g.symm.trans g1;omega
    rfl
 unfold M.um;rw[en,aqN,Km _ (by omega),aqN,hmt]
end L
namespace L.P
def Kn{B y1 y0 u v q r:Nat}(hy:0<y1*B+y0)(hqr:q*y1+r=u)(hge:(u*B+v)/(y1*B+y0)<=q)(aco:q*y0<=B*r+v):q=(u*B+v)/(y1*B+y0):=by
 refine Nat.le_antisymm ?_ hge;rw[Nat.le_div_iff_mul_le hy,Nat.mul_add]
 have e1:q*(y1*B)+B*r=u*B:=by rw[<-hqr,arn,Nat.mul_assoc,arm B r]
 omega
def HH{B y1 y0 u v q r:Nat}(hy:0<y1*B+y0)(hqr:q*y1+r=u)(Dz:B*r+v<q*y0):(u*B+v)/(y1*B+y0)<q:=by
 rw[arp hy,Nat.mul_add]
 have e1:q*(y1*B)+B*r=u*B:=by rw[<-hqr,arn,Nat.mul_assoc,arm B r]
 omega
def A8{B y u v:Nat}(hu:u<y)(hv:v<B):(u*B+v)/y<B:=by
 rw[arp (by omega)];have:(u+1)*B<=y*B:=aq4 B hu;rw[arn]at this;rw[arm B y];omega
def HI{B y1 y0 u v:Nat}(hy1:0<y1)(hB:0<B)(hv:v<B):(u*B+v)/(y1*B+y0)<=u/y1:=by
 have hy:0<y1*B+y0:=by have:=Nat.mul_pos hy1 hB;omega
 refine Nat.le_of_lt_succ ?_;rw[arp hy,Nat.mul_add]
 have h1:u<(u/y1+1)*y1:=by
  have:=arW u y1;have:=ar0 u hy1;rw[arn,Nat.one_mul,arm];omega
 have h2:(u+1)*B<=(u/y1+1)*y1*B:=aq4 B h1;rw[arn]at h2;have h3:(u/y1+1)*(y1*B)=(u/y1+1)*y1*B:=(Nat.mul_assoc ..).symm;have h4:0<=(u/y1+1)*y0:=Nat.zero_le _
 show u*B+v<(u/y1).succ*(y1*B)+(u/y1).succ*y0
 show u*B+v<(u/y1+1)*(y1*B)+(u/y1+1)*y0
 omega
def A9{B y1 y0 u:Nat}(hy1:0<y1)(h2:B<=2*y1)(h0:y0<B)(hu:u<y1*B+y0):u/y1<=B+1:=by
 refine Nat.le_of_lt_succ ?_;rw[arp hy1]
 show u<(B+1+1)*y1
 have:(B+1+1)*y1=y1*B+2*y1:=by rw[arn,arn,arm B y1];omega
 omega
end L.P
namespace L.P
def HJ{a:Nat}(ha:a<18446744073709551616):aL .and .u64 (a:Int) 4294967295=((a%4294967296:Nat):Int):=by
 have h:=bits_and_u64_nat a 4294967295 ha (by omega);rw[show a&&& 4294967295=a%4294967296 from Nat.and_two_pow_sub_one_eq_mod a 32]at h;exact h
def orN{a b:Nat}(ha:a<18446744073709551616)(hb:b<18446744073709551616):aL .or .u64 (a:Int) (b:Int)=((a|||b:Nat):Int):=bits_or_u64_nat a b ha hb
def acq(a:Nat){s:Nat}(hs:s<=64):cg .u64 (a:Int) (s:Int)=((a/2 ^ s:Nat):Int):=by
 unfold cg;rw[show min ((s:Int).toNat) aqQ.bits=s by simp[asm];omega]
 grind
def aiG(a:Nat){s:Nat}(hs:s<=64):w7 .u64 (a:Int) (s:Int)=((a*2 ^ s%18446744073709551616:Nat):Int):=by
 unfold w7;rw[show min ((s:Int).toNat) aqQ.bits=s by simp[asm];omega]
 grind [P.lF]
theorem sQ(a b:Nat)(h:b≠0):n9 (a:Int) (b:Int)=aa ((a/b:Nat):Int):=by
 grind [n9]
def EY(a b:Nat)(h:b≠0):sV (a:Int) (b:Int)=aa ((a%b:Nat):Int):=by
 grind [sV]
def q6{a:Nat}(h:a<18446744073709551616):aqQ.wrap (a:Int)=(a:Int):=lR (by omega) (by omega)
theorem wN(N:Nat){x y:Nat}(hx:x<18446744073709551616)(hy:y<18446744073709551616):M.ef N (x:Int) (y:Int)=aa (((x*y/18446744073709551616:Nat):Int),((x*y%18446744073709551616:Nat):Int)):=by
 obtain⟨bd,bt,bw,hhi⟩:=Lib.mul64_hi x y hx hy;have ba:=Lib.half_mul_le (a:=x/4294967296) (b:=y/4294967296) (by omega) (by omega);have bb:=Lib.half_mul_le (a:=x/4294967296) (b:=y%4294967296) (by omega) (by omega);have bc:=Lib.half_mul_le (a:=x%4294967296) (b:=y/4294967296) (by omega) (by omega)
 have ba':x/4294967296*(y/4294967296)<18446744073709551616:=by omega
 have bb':x/4294967296*(y%4294967296)<18446744073709551616:=by omega
 have bc':x%4294967296*(y/4294967296)<18446744073709551616:=by omega
 have bh1:x/4294967296*(y/4294967296)+(x/4294967296*(y%4294967296)+x%4294967296*(y%4294967296)/4294967296)/4294967296<18446744073709551616:=by omega
 have bh:x/4294967296*(y/4294967296)+(x/4294967296*(y%4294967296)+x%4294967296*(y%4294967296)/4294967296)/4294967296+((x/4294967296*(y%4294967296)+x%4294967296*(y%4294967296)/4294967296)%4294967296+x%4294967296*(y/4294967296))/4294967296<18446744073709551616:=by
  rw[hhi];rw[arp (by omega)];exact Nat.mul_lt_mul'' hx hy
 have dv:∀a:Nat,((a:Int)/4294967296)=((a/4294967296:Nat):Int):=λa=>by omega
 have ml:∀a b:Nat,((a:Int)*(b:Int))=((a*b:Nat):Int):=λa b=>(arC a b).symm
 have ad:∀a b:Nat,((a:Int)+(b:Int))=((a+b:Nat):Int):=λa b=>(Int.natCast_add a b).symm
 unfold M.ef;simp only[LS,HJ hx,HJ hy,dv,ml,ad,q6 bd,q6 bb',q6 bt,HJ bt,q6 bc',q6 bw,q6 ba',q6 bh1,q6 bh]
 grind [P.lF]
def YR{S:Type}{body:S->Option (S⊕Int)}(mk:Nat->Nat->S){B y1 y0 u v dg:Nat}(h0:y0<B)(hd:dg<B)
 (hgr:∀q r:Nat,q*y1+r=u->B*r+v<q*y0->dg<q)(aco:∀q r:Nat,q*y1+r=u->dg<=q->q*y0<=B*r+v->q=dg)
 (hb:∀q r:Nat,q<=B+1->r<B->body (mk q r)=if B<=q\/B*r+v<q*y0 then(if B<=r+y1 then aa (.inr (((q-1:Nat)):Int))else aa (.inl (mk (q-1) (r+y1))))else aa (.inr (q:Int))):
 ∀n q r N:Nat,q<=dg+n->q*y1+r=u->dg<=q->q<=B+1->r<B->n<N->Loop body N (mk q r)=aa (dg:Int):=by
 intro n
 induction n with
 |zero=>
  intro q r N g1 g2 g3 g4 g5 g6
  obtain⟨N,rfl⟩:∃k,N=k+1:=⟨N-1,by omega⟩
  grind [Loop]
 |succ n ih=>
  intro q r N g1 g2 g3 g4 g5 g6
  obtain⟨N,rfl⟩:∃k,N=k+1:=⟨N-1,by omega⟩
  unfold Loop;rw[hb q r g4 g5];by_cases c:B<=q\/B*r+v<q*y0
  .have aF:dg<q:=by
    rcases c with c|c
    .omega
    .grind
   obtain⟨p,rfl⟩:∃p,q=p+1:=⟨q-1,by omega⟩
   have e1:p*y1+(r+y1)=u:=by
    rw[arn,Nat.one_mul]at g2;omega
   rw[aj c,Nat.add_sub_cancel];by_cases e:B<=r+y1
   .rw[aj e]
    show aa (p:Int)=_
    have a1:p*y0<=B*y0:=aq4 _ (by omega);have a2:B*y0<=B*(r+y1):=Nat.mul_le_mul_left _ (by omega);rw[<-aco p (r+y1) e1 (by omega) (by omega)]
   grind
  grind
def HK{S:Type}{body:S->Option (S⊕Int)}(mk:Nat->Nat->S){B y1 y0 u v:Nat}(hB:B+1<aK)(h1:B<=2*y1)(ZQ:0<B)(h0:y0<B)(hu:u<y1*B+y0)(hv:v<B)(Is:y1<B)
 (hb:∀q r:Nat,q<=B+1->r<B->body (mk q r)=if B<=q\/B*r+v<q*y0 then(if B<=r+y1 then aa (.inr (((q-1:Nat)):Int))else aa (.inl (mk (q-1) (r+y1))))else aa (.inr (q:Int))):
 Loop body aK (mk (u/y1) (u%y1))=aa (((u*B+v)/(y1*B+y0):Nat):Int):=by
 have hp:0<y1*B:=Nat.mul_pos (by omega) ZQ
 have hy:0<y1*B+y0:=by omega
 have IL:=arW u y1;have hm:=ar0 u (show 0<y1 by omega);rw[arm]at IL;refine YR mk h0 (A8 hu hv) (λq r g c=>HH hy g c) (λq r g g' c=>Kn hy g g' c) hb (B+1) (u/y1) (u%y1) aK ?_ IL (HI (by omega) ZQ hv) (A9 (by omega) h1 h0 hu) (by omega) hB;exact ark (A9 (by omega) h1 h0 hu) (Nat.le_add_left _ _)
def Ba{hi lo y:Nat}(h1:hi<y)(hl:lo<18446744073709551616)(h2:y<18446744073709551616):
 M.dz aK (hi:Int) (lo:Int) (y:Int)=aa ((((hi*18446744073709551616+lo)/y:Nat):Int),(((hi*18446744073709551616+lo)%y:Nat):Int)):=by
 unfold M.dz;rw[ai (by simp;omega),ai (by simp;omega)];by_cases h0:hi=0
 .subst h0;rw[aj (by simp),sQ _ _ (by omega),EY _ _ (by omega)];simp only[aqN,Nat.zero_mul,arv];rw[q6 (Nat.lt_of_le_of_lt (arX _ _) hl)]
 .rw[ai (by simp;omega)];obtain⟨L,g1,g2,g3,g4⟩:=Hl (N:=aK) (m:=y) (by omega);obtain⟨g4,g5⟩:=g4 (by omega);unfold M.fG;rw[g1]
  have hL:aqQ.wrap (aqO.wrap ((64:Int)-(L:Int)))=((64-L:Nat):Int):=by
   rw[aE (by omega) (by omega),lR (by omega) (by omega)];omega
  have hL2:aqQ.wrap ((64:Int)-((64-L:Nat):Int))=(L:Int):=by rw[lR (by omega) (by omega)];omega
  simp only[aqN,hL,hL2]
  obtain⟨s,hs⟩:∃s,s=64-L:=⟨_,rfl⟩
  rw[<-hs]
  have acr:s<=64:=by omega
  have jL:∀a:Int,uF .u64 a ((s:Nat):Int)=aa (w7 .u64 a ((s:Nat):Int)):=λa=>ai (by omega)
  have Ix:∀a:Int,yG .u64 a (L:Int)=aa (cg .u64 a (L:Int)):=λa=>ai (by omega)
  have YG:∀a:Int,yG .u64 a ((s:Nat):Int)=aa (cg .u64 a ((s:Nat):Int)):=λa=>ai (by omega)
  have hP:0<2 ^ s:=Nat.two_pow_pos _
  have YS:2 ^ L*2 ^ s=18446744073709551616:=by
   rw[<-aso,show L+s=64 by omega]
  have hY1:y*2 ^ s<18446744073709551616:=by
   rw[<-YS];exact Nat.mul_lt_mul_of_pos_right g3 hP
  have hY2:9223372036854775808<=y*2 ^ s:=by
   have:2 ^ (L-1)*2 ^ s=9223372036854775808:=by rw[<-aso,show L-1+s=63 by omega]
   rw[<-this];exact aq4 _ g5
  have hhi:hi*2 ^ s+2 ^ s<=y*2 ^ s:=by
   have:=aq4 (2 ^ s) (show hi+1<=y from h1);rw[arn,Nat.one_mul]at this;exact this
  have hlo:lo/2 ^ L<2 ^ s:=by
   rw[arp (Nat.two_pow_pos _),arm,YS];exact hl
  have hx5:hi*2 ^ s%18446744073709551616=hi*2 ^ s:=Nat.mod_eq_of_lt (by omega)
  have hor:(hi*2 ^ s)|||(lo/2 ^ L)=hi*2 ^ s+lo/2 ^ L:=by
   have:=Nat.shiftLeft_add_eq_or_of_lt hlo hi;rw[Nat.shiftLeft_eq]at this;exact this.symm
  have aiJ:lo*2 ^ s=(lo/2 ^ L)*18446744073709551616+lo*2 ^ s%18446744073709551616:=by
   have e:lo*2 ^ s/18446744073709551616=lo/2 ^ L:=by rw[<-YS];exact Nat.mul_div_mul_right _ _ hP
   have:=arW (lo*2 ^ s) 18446744073709551616;rw[e]at this;omega
  have hdiv:(hi*18446744073709551616+lo)*2 ^ s/(y*2 ^ s)=(hi*18446744073709551616+lo)/y:=Nat.mul_div_mul_right _ _ hP;have HL:(hi*18446744073709551616+lo)*2 ^ s%(y*2 ^ s)=(hi*18446744073709551616+lo)%y*2 ^ s:=Nat.mul_mod_mul_right _ _ _
  have hW:(hi*18446744073709551616+lo)*2 ^ s=hi*2 ^ s*18446744073709551616+lo*2 ^ s:=by
   rw[arn];rw[Nat.mul_right_comm]
  simp only[jL,Ix,YG,aqN,LS,aiG _ acr,acq _ g2,hx5,Nat.mod_eq_of_lt hY1];rw[orN (by omega) (by omega),hor]
  obtain⟨x7,e7,hx7⟩:∃x7,x7=lo*2 ^ s%18446744073709551616/\x7<18446744073709551616:=⟨_,rfl,ar0 _ (by decide)⟩
  rw[<-e7]at aiJ⊢
  obtain⟨U,hU⟩:∃U,U=hi*2 ^ s+lo/2 ^ L:=⟨_,rfl⟩
  obtain⟨Y,hY⟩:∃Y,Y=y*2 ^ s:=⟨_,rfl⟩
  obtain⟨W,hWd⟩:∃W,W=hi*18446744073709551616+lo:=⟨_,rfl⟩
  rw[<-hWd]at hdiv HL hW⊢;rw[<-hY]at hY1 hY2 hdiv HL hhi⊢;rw[<-hU]
  have hUY:U<Y:=by omega
  have hWs:W*2 ^ s=U*18446744073709551616+x7:=by rw[hW,hU];omega
  rw[hWs]at hdiv HL
  obtain⟨y1,y0,hYe,Zs,hy1,acs⟩:∃y1 y0,Y=y1*4294967296+y0/\y0<4294967296/\2147483648<=y1/\y1<4294967296:=⟨Y/4294967296,Y%4294967296,by omega,by omega,by omega,by omega⟩
  obtain⟨v1,v0,Bt,MV,vK⟩:∃v1 v0,x7=v1*4294967296+v0/\v0<4294967296/\v1<4294967296:=⟨x7/4294967296,x7%4294967296,by omega,by omega,by omega⟩
  have eY:((Y:Int)/4294967296)=(y1:Int):=by omega
  have eV:((x7:Int)/4294967296)=(v1:Int):=by omega
  have aY:aL .and .u64 (Y:Int) 4294967295=(y0:Int):=by rw[HJ hY1];omega
  have aV:aL .and .u64 (x7:Int) 4294967295=(v0:Int):=by rw[HJ hx7];omega
  simp only[eY,eV,aY,aV,sQ _ _ (show y1≠0 by omega),aqN];have i1:aqQ.wrap ((U/y1:Nat):Int)=((U/y1:Nat):Int):=q6 (Nat.lt_of_le_of_lt (arX _ _) (by omega))
  have i2:∀a:Nat,aqQ.wrap ((a:Int)-aqQ.wrap (((a/y1:Nat):Int)*(y1:Int)))=aqQ.wrap ((a%y1:Nat):Int):=by
   intro a;have e:=arW a y1;rw[arm]at e;rw[show(((a/y1:Nat):Int)*(y1:Int))=((a/y1*y1:Nat):Int)from(arC _ _).symm,lF,lF,lF];omega
  have i3:∀a:Nat,aqQ.wrap ((a%y1:Nat):Int)=((a%y1:Nat):Int):=λa=>q6 (arh (ar0 _ (by omega)) (by omega))
  simp only[i1,i2,i3]
  have body:∀(v q r:Nat),v<4294967296->q<=4294967297->r<4294967296->((if decide ((4294967296:Int)<=(q:Int))=af then aa af else aa (decide (aqQ.wrap (aqQ.wrap (4294967296*(r:Int))+(v:Int))<aqQ.wrap ((q:Int)*(y0:Int))))):Option Bool)=aa (decide (4294967296<=q\/4294967296*r+v<q*y0)):=by
   intro v q r hv hq hr;by_cases c:4294967296<=q
   .grind
   .rw[ai (by simp;omega)];have m1:q*y0<=4294967295*4294967295:=Nat.mul_le_mul (by omega) (by omega);rw[show((q:Int)*(y0:Int))=((q*y0:Nat):Int)from(arC _ _).symm,q6 (a:=q*y0) (by omega),show(4294967296*(r:Int))=((4294967296*r:Nat):Int) by omega,q6 (a:=4294967296*r) (by omega),<-Int.natCast_add,q6 (by omega)];refine av aa ?_
    grind
  have cw:∀r:Nat,r<4294967296->aqQ.wrap ((r:Int)+(y1:Int))=((r+y1:Nat):Int):=λr hr=>by rw[<-Int.natCast_add,q6 (by omega)]
  have cq:∀q:Nat,0<q->q<=4294967297->aqQ.wrap ((q:Int)-1)=((q-1:Nat):Int):=λq h hq=>by rw[lR (by omega) (by omega)];omega
  have pos:∀v q r:Nat,4294967296<=q\/4294967296*r+v<q*y0->0<q:=by
   intro v q r c
   rcases c with c|c
   .omega
   .grind
  have sub:∀a b c r:Nat,a+b=c+r->r<18446744073709551616->aqQ.wrap (aqQ.wrap (aqQ.wrap (a:Int)+(b:Int))-aqQ.wrap (c:Int))=(r:Int):=by
   intro a b c r h hr;rw[lF,lF,lF,lF];omega
  have mB:∀a:Nat,((a:Int)*4294967296)=((a*4294967296:Nat):Int):=λa=>by omega
  have mY:∀a:Nat,((a:Int)*(Y:Int))=((a*Y:Nat):Int):=λa=>(arC _ _).symm
  apply Wp.eq;refine Wp.be (x:=(((U*4294967296+v1)/Y:Nat):Int)) ?_ ?_
  .rw[hYe];refine(av (λo=>aqM o λj=>aa j) (HK (λq r=>((q:Int),(r:Int))) (B:=4294967296) (u:=U) (v:=v1) (by unfold aK;omega) (by omega) (by decide) Zs (by omega) vK acs ?_)).trans rfl;intro q r hq hr;dsimp only;rw[body v1 q r vK hq hr,aqN,cw r hr];by_cases c:4294967296<=q\/4294967296*r+v1<q*y0
   .rw[aj (an c),aj c,cq q (pos _ _ _ c) hq];by_cases e:4294967296<=r+y1
    all_goals grind
   grind
  obtain⟨d1,yB⟩:∃d,d=(U*4294967296+v1)/Y:=⟨_,rfl⟩
  obtain⟨r1,VQ⟩:∃r,r=(U*4294967296+v1)%Y:=⟨_,rfl⟩
  have O7:=arW (U*4294967296+v1) Y;have aiK:r1<Y:=VQ▸ar0 _ (by omega);rw[<-yB,<-VQ,arm]at O7;rw[<-yB];rw[mB U,mY d1,sub (U*4294967296) v1 (d1*Y) r1 (by omega) (by omega)];simp only[sQ _ _ (show y1≠0 by omega),aqN];have i4:aqQ.wrap ((r1/y1:Nat):Int)=((r1/y1:Nat):Int):=q6 (Nat.lt_of_le_of_lt (arX _ _) (by omega));simp only[i4,i2,i3];refine Wp.be (x:=(((r1*4294967296+v0)/Y:Nat):Int)) ?_ ?_
  .rw[hYe];refine(av (λo=>aqM o λj=>aa j) (HK (λq r=>((r:Int),(q:Int))) (B:=4294967296) (u:=r1) (v:=v0) (by unfold aK;omega) (by omega) (by decide) Zs (by omega) MV acs ?_)).trans rfl;intro q r hq hr;dsimp only;rw[body v0 q r MV hq hr,aqN,cw r hr];by_cases c:4294967296<=q\/4294967296*r+v0<q*y0
   .rw[aj (an c),aj c,cq q (pos _ _ _ c) hq];by_cases e:4294967296<=r+y1
    all_goals grind
   grind
  obtain⟨d0,Zo⟩:∃d,d=(r1*4294967296+v0)/Y:=⟨_,rfl⟩
  obtain⟨r0,Y5⟩:∃r,r=(r1*4294967296+v0)%Y:=⟨_,rfl⟩
  have aiL:=arW (r1*4294967296+v0) Y;have acu:r0<Y:=Y5▸ar0 _ (by omega);rw[<-Zo,<-Y5,arm]at aiL;rw[<-Zo];rw[mB r1,mY d0,sub (r1*4294967296) v0 (d0*Y) r0 (by omega) (by omega),mB d1];have hB1:=A8 (B:=4294967296) (y:=Y) (u:=U) (v:=v1) hUY vK;have ZQ:=A8 (B:=4294967296) (y:=Y) (u:=r1) (v:=v0) aiK MV;rw[<-yB]at hB1;rw[<-Zo]at ZQ
  have My:U*18446744073709551616+x7=(d1*4294967296+d0)*Y+r0:=by
   have e1:(d1*4294967296+d0)*Y=d1*Y*4294967296+d0*Y:=by rw[arn,Nat.mul_right_comm]
   rw[e1];omega
  have hq:W/y=d1*4294967296+d0:=by
   rw[<-hdiv,My];rw[arm,Nat.mul_add_div (by omega),Nat.div_eq_of_lt acu,Nat.add_zero]
  have hr:W%y*2 ^ s=r0:=by
   rw[<-HL,My,arm,Nat.mul_add_mod,Nat.mod_eq_of_lt acu]
  rw[acq _ acr,<-hr,Nat.mul_div_cancel _ hP,hq,q6 (a:=d1*4294967296) (by omega),<-Int.natCast_add,q6 (by omega)];exact .some rfl
end L.P
namespace L.P
def Iz(m:Int)(neg:Bool)(q r d:Nat):Bool:=
 if m=0 then neg&&decide (0<r)else if m=1 then !neg&&decide (0<r)else if m=3 then decide (0<r)else if m=4 then decide (d<=r+r)else if m=5 then decide (d<r+r\/(d=r+r/\q%2=1))else ag
def sR(m:Int)(neg:Bool)(q r d:Nat):Nat:=if Iz m neg q r d=af then q+1 else q
def sg(neg:Bool)(q:Nat):Int:=if neg=af then-(q:Int)else(q:Int)
def ng(a b:Int):Bool:= !decide (decide (a<0)=decide (b<0))
def rO(m:Int):Prop:=0<=m/\m<=5
instance(m:Int):Decidable (rO m):=by unfold rO;infer_instance
theorem tK(m:Int)(neg:Bool)(q r d:Nat):q<=sR m neg q r d/\sR m neg q r d<=q+1:=by unfold sR;split<;>omega
theorem HM(m:Int)(neg:Bool)(q:Nat){d:Nat}(hd:0<d):Iz m neg q 0 d=ag:=by
 grind [P.Iz]
theorem Bb(m:Int)(neg:Bool)(q:Nat){d:Nat}(hd:0<d):sR m neg q 0 d=q:=by
 unfold sR;rw[HM m neg q hd];rfl
def pn(N:Nat)(m:Int)(neg:Bool){q r d:Nat}(hq:q<=4611686018427387904)(hr:r<d)(hd:d<=4611686018427387904):M.gx N (q:Int) (r:Int) (d:Int) neg m=aa (sg neg (sR m neg q r d)):=by
 have hw:aqO.wrap ((d:Int)-(r:Int))=(d:Int)-r:=aE (by omega) (by omega)
 have ht:aq3 (q:Int) 2=((q%2:Nat):Int):=by rw[aq8 (by omega)];omega
 have e1:((if(decide (m=(0:Int)))=af then(if neg=af then aa (decide ((0:Int)<(r:Int)))else aa ag)else(if(decide (m=(1:Int)))=af then(if(!neg)=af then aa (decide ((0:Int)<(r:Int)))else aa ag)else
  (if(decide (m=(3:Int)))=af then aa (decide ((0:Int)<(r:Int)))else(if(decide (m=(4:Int)))=af then aa (decide ((d:Int)-r<=(r:Int)))else(if(decide (m=(5:Int)))=af then(if(decide ((d:Int)-r<(r:Int)))=af then aa af else
  (if(decide ((r:Int)=(d:Int)-r))=af then aa (decide (((q%2:Nat):Int)=(1:Int)))else aa ag))else aa ag))))):Option Bool)=aa (Iz m neg q r d):=by
  unfold Iz;by_cases h0:m=0
  .subst h0;cases neg<;>simp
  by_cases h1:m=1
  .subst h1;cases neg<;>simp
  by_cases h3:m=3
  .subst h3;simp
  by_cases h4:m=4
  .subst h4;simp;omega
  by_cases h5:m=5
  .subst h5;simp only[aS,decide_true,if_true,ar3,decide_false,aqT,if_false];refine av aa ?_
   grind
  simp[h0,h1,h3,h4,h5]
 unfold M.gx;rw[hw,ht,e1];have hu:=tK m neg q r d
 have e2:((if Iz m neg q r d=af then aa (aqO.wrap ((q:Int)+(1:Int)))else aa (q:Int)):Option Int)=aa ((sR m neg q r d:Nat):Int):=by
  unfold sR;split
  .rw[aE (by omega) (by omega)];rfl
  .rfl
 grind [P.sg,aE]
def yr(N:Nat){m:Int}(neg:Bool){q r d:Nat}(hq:q<=4611686018427387904)(hr:r<d)(hd:d<=4611686018427387904):M.dm N (q:Int) (r:Int) (d:Int) neg m=aa ((sR m neg q r d:Nat):Int):=by
 unfold M.dm;by_cases hz:r=0
 .grind [P.Bb]
 rw[ai (by simpa using hz)];have hw:aqQ.wrap ((d:Int)-(r:Int))=(d:Int)-r:=lR (by omega) (by omega)
 have ht:aq3 (q:Int) 2=((q%2:Nat):Int):=by rw[aq8 (by omega)];omega
 have e1:((if(decide (m=(0:Int)))=af then aa neg else(if(decide (m=(1:Int)))=af then aa (!neg)else(if(decide (m=(3:Int)))=af then aa af else(if(decide (m=(4:Int)))=af then aa (decide ((d:Int)-r<=(r:Int)))else
  (if(decide (m=(5:Int)))=af then(if(decide ((d:Int)-r<(r:Int)))=af then aa af else(if(decide ((r:Int)=(d:Int)-r))=af then aa (decide (((q%2:Nat):Int)=(1:Int)))else aa ag))else aa ag))))):Option Bool)=aa (Iz m neg q r d):=by
  unfold Iz;by_cases h0:m=0
  .subst h0;simp;omega
  by_cases h1:m=1
  .subst h1;simp;omega
  by_cases h3:m=3
  .subst h3;simp;omega
  by_cases h4:m=4
  .subst h4;simp;omega
  by_cases h5:m=5
  .subst h5;simp only[aS,decide_true,if_true,ar3,decide_false,aqT,if_false];refine av aa ?_
   grind
  simp[h0,h1,h3,h4,h5]
 grind [P.sR,P.lR]
def HN(N:Nat){m:Int}(neg:Bool){q r d:Nat}(hr:r<d)(hd:d<=4611686018427387904):M.jT N (q:Int) (r:Int) (d:Int) neg m=aa (Iz m neg q r d):=by
 unfold M.jT;by_cases hz:r=0
 .grind [P.HM]
 rw[ai (by simpa using hz)];have hw:aqQ.wrap ((d:Int)-(r:Int))=(d:Int)-r:=lR (by omega) (by omega)
 have ht:aq3 (q:Int) 2=((q%2:Nat):Int):=by rw[aq8 (by omega)];omega
 rw[hw,ht];unfold Iz;by_cases h0:m=0
 .subst h0;simp;omega
 by_cases h1:m=1
 .subst h1;simp;omega
 by_cases h3:m=3
 .subst h3;simp;omega
 by_cases h4:m=4
 .subst h4;simp;omega
 by_cases h5:m=5
 .subst h5;simp only[aS,aqN,decide_true,if_true,ar3,decide_false,aqT,if_false];refine av aa ?_
  grind
 grind
theorem Dj(N:Nat){q:Nat}(hq:q<=4611686018427387905)(neg:Bool):M.jA N (q:Int) neg=aa (sg neg q):=by
 grind [M.jA,P.sg,aE]
def Bc(N:Nat){n:Int}(h: -4611686018427387904<=n/\n<=4611686018427387904):M.eh N n=aa ((n.natAbs:Nat):Int):=by
 grind [P.lG]
def uA(N:Nat){n:Int}(h: -4611686018427387904<=n/\n<=4611686018427387904):M.ln N n=aa ((n.natAbs:Nat):Int):=by
 grind [M.ln,aE]
def rL(N:Nat)(m:Int):M.mz N m=aa (decide (rO m)):=by
 unfold M.mz;simp only[aS,aqN,ko]
 grind [P.rO]
def wO(N:Nat)(m:Int):M.fY N m=aa (decide (rO m)):=rL N m
def Be(N:Nat)(m:Int):M.kI N m=aa (decide (rO m)):=rL N m
def jx(n l:Int):Prop:=l<n\/n< -l
instance(n l:Int):Decidable (jx n l):=by unfold jx;infer_instance
theorem qO(N:Nat)(n:Int){l:Int}(hl:0<=l/\l<=9000000000000000000):M.dI N n l=aa (decide (jx n l)):=by
 unfold M.dI;rw[aE (by omega) (by omega)];simp only[aS,aqN,mC,Int.zero_sub]
 grind [P.jx]
def EZ(N:Nat)(n:Int){l:Int}(hl:0<=l/\l<=9000000000000000000):M.eJ N n l=aa (decide (jx n l)):=qO N n hl
def L2(N:Nat)(n:Int){l:Int}(hl:0<=l/\l<=9000000000000000000):M.jr N n l=aa (decide (jx n l)):=qO N n hl
def wP(N:Nat)(n:Int){l:Int}(hl:0<=l/\l<=9000000000000000000):M.fI N n l=aa (decide (jx n l)):=by
 unfold M.fI;rw[aE (by omega) (by omega)];simp only[aS,aqN,mC,Int.zero_sub]
 grind [P.jx]
def E0(m:Int):((if(decide (m<(0:Int)))=af then aa af else aa (decide ((5:Int)<m))):Option Bool)=aa (!decide (rO m)):=by
 rw[aS]
 grind [P.rO]
def Sw(a b l:Int):((if(decide (jx a l))=af then aa af else aa (decide (jx b l))):Option Bool)=aa (decide (jx a l\/jx b l)):=by
 grind
def O8(n d m:Int):Int×Int:=
 if¬rO m then(0,1)else if d=0 then(0,12)else if jx n 4611686018427387904\/jx d 4611686018427387904 then(0,3)else
  (sg (ng n d) (sR m (ng n d) (n.natAbs/d.natAbs) (n.natAbs%d.natAbs) d.natAbs),0)
theorem L3{n d m:Int}(h:¬rO m):O8 n d m=(0,1):=aj h
theorem HO{n d m:Int}(h:rO m)(h1:d=0):O8 n d m=(0,12):=by grind [P.O8]
theorem L4{n d m:Int}(h:rO m)(h1:d≠0)(h2:jx n 4611686018427387904\/jx d 4611686018427387904):O8 n d m=(0,3):=by grind [P.O8]
theorem Bf{n d m:Int}(h:rO m)(h1:d≠0)(h2:¬(jx n 4611686018427387904\/jx d 4611686018427387904)):O8 n d m=(sg (ng n d) (sR m (ng n d) (n.natAbs/d.natAbs) (n.natAbs%d.natAbs) d.natAbs),0):=by grind [P.O8]
theorem n4{a:Nat}(h:a<=9223372036854775807):aqO.wrap (a:Int)=(a:Int):=aE (by omega) (by omega)
theorem qP(N:Nat)(n d m:Int):M.eK N n d m=aa (O8 n d m):=by
 unfold M.eK;simp only[wO,aqN,EZ N _ (l:=4611686018427387904) (by omega),Sw];by_cases hm:rO m
 .rw[ai (by simpa using hm)];by_cases hd:d=0
  .grind [P.HO]
  .rw[ai (by simpa using hd)];by_cases hb:jx n 4611686018427387904\/jx d 4611686018427387904
   .grind [P.L4]
   .rw[ai (by simpa using hb),Bf hm hd hb];unfold jx at hb
    have Ww:d.natAbs≠0:=by omega
    have h1:n.natAbs/d.natAbs<=n.natAbs:=arX _ _;have h2:n.natAbs%d.natAbs<d.natAbs:=ar0 _ (by omega);have h3:=tK m (ng n d) (n.natAbs/d.natAbs) (n.natAbs%d.natAbs) d.natAbs;rw[Bc N (n:=n) (by omega),Bc N (n:=d) (by omega),aqN,aqN,sQ _ _ Ww,EY _ _ Ww,aqN,aqN,q6 (by omega),yr N _ (by omega) h2 (by omega),aqN]
    grind [P.ng,P.Dj]
 grind [P.L3]
def wQ(N:Nat)(n d m:Int):M.nz N n d m=aa (O8 n d m):=by
 unfold M.nz;simp only[rL,aqN,qO N _ (l:=4611686018427387904) (by omega),Sw];by_cases hm:rO m
 .rw[ai (by simpa using hm)];by_cases hd:d=0
  .grind [P.HO]
  .rw[ai (by simpa using hd)];by_cases hb:jx n 4611686018427387904\/jx d 4611686018427387904
   .grind [P.L4]
   .rw[ai (by simpa using hb),Bf hm hd hb];unfold jx at hb
    have Ww:d.natAbs≠0:=by omega
    have h1:n.natAbs/d.natAbs<=n.natAbs:=arX _ _;have h2:n.natAbs%d.natAbs<d.natAbs:=ar0 _ (by omega);rw[uA N (n:=n) (by omega),uA N (n:=d) (by omega),aqN,aqN,sQ _ _ Ww,EY _ _ Ww,aqN,aqN,n4 (by omega),pn N _ _ (by omega) h2 (by omega),aqN];rfl
 grind [P.L3]
theorem HP(neg:Bool)(q:Nat):(sg neg q).natAbs=q:=by unfold sg;split<;>omega
def Ko(neg:Bool)(q:Nat):sg neg q=q\/sg neg q= -(q:Int):=by unfold sg;split<;>simp
theorem Kp(n:Int){d:Int}(hd:0<d):ng n d=decide (n<0):=by
 grind [P.ng]
def Kq(N:Nat)(c u m:Int):M.fH N c u m=M.lX N c u m:=by
 unfold M.fH M.lX;simp only[wO,rL,aqN,EZ N _ (l:=1000000000000000) (by omega),qO N _ (l:=1000000000000000) (by omega),aS,mC];by_cases hm:rO m
 case neg=>grind
 simp only[hm,decide_true,arA,aqT,if_false];by_cases hu:u<1
 .grind
 simp only[hu,decide_false,aqT,if_false]
 cases hb:(decide (jx c 1000000000000000)||decide (1000000000000000<u))
 case true=>grind
 simp only[aqT,if_false];rw[Bool.or_eq_false_iff,ay,ay]at hb;unfold jx at hb
 obtain⟨U,rfl⟩:∃U:Nat,u=(U:Int):=⟨u.toNat,by omega⟩
 have Ww:U≠0:=by omega
 have h1:c.natAbs/U<=c.natAbs:=arX _ _;have h2:c.natAbs%U<U:=ar0 _ (by omega);rw[qP,aqN,uA N (n:=c) (by omega),aqN,sQ _ _ Ww,EY _ _ Ww,aqN,aqN,n4 (by omega),pn N _ _ (by omega) h2 (by omega),aqN]
 grind [P.Bf,P.jx,P.Kp]
end L.P
namespace L.P
def Vt(c x m:Int):Int×Int:=
 if¬rO m then(0,1)else if jx c 1000000000000000\/jx x 1000000000 then(0,3)else
  if 1000000000000000<sR m (ng c x) (c.natAbs*x.natAbs/1000000) (c.natAbs*x.natAbs%1000000) 1000000 then(0,3)
  else(sg (ng c x) (sR m (ng c x) (c.natAbs*x.natAbs/1000000) (c.natAbs*x.natAbs%1000000) 1000000),0)
def L5{c x m:Int}(h:¬rO m):Vt c x m=(0,1):=aj h
def L6{c x m:Int}(h:rO m)(h2:jx c 1000000000000000\/jx x 1000000000):Vt c x m=(0,3):=by unfold Vt;rw[ai (Decidable.not_not.2 h),aj h2]
def Sz{c x m:Int}(h:rO m)(h2:¬(jx c 1000000000000000\/jx x 1000000000)){P:Nat}(hP:P=c.natAbs*x.natAbs):Vt c x m=if 1000000000000000<sR m (ng c x) (P/1000000) (P%1000000) 1000000 then(0,3)else(sg (ng c x) (sR m (ng c x) (P/1000000) (P%1000000) 1000000),0):=by subst hP;unfold Vt;rw[ai (Decidable.not_not.2 h),ai h2]
def acv(a b:Int):((if(decide (jx a 1000000000000000))=af then aa af else(if(decide (jx b 1000000000))=af then aa af else aa (decide (jx (1000000:Int) 1000000000)))):Option Bool)=aa (decide (jx a 1000000000000000\/jx b 1000000000)):=by
 rw[show decide (jx (1000000:Int) 1000000000)=ag by decide];simp only[aS,mC,Bool.decide_or,Bool.or_false]
def ng6(c x:Int):(!decide ((!decide ((decide (c<(0:Int)))=(decide (x<(0:Int)))))=(decide ((1000000:Int)<(0:Int)))))=ng c x:=by
 unfold ng;rw[show decide ((1000000:Int)<0)=ag by decide]
 cases decide (c<0)<;>cases decide (x<0)<;>rfl
theorem OC(c x m:Int):M.ol aK c x m=aa (Vt c x m):=by
 unfold M.ol M.mW;simp only[wO,aqN,EZ aK _ (l:=1000000000000000) (by omega),EZ aK _ (l:=1000000000) (by omega),acv,ng6];by_cases hm:rO m
 .rw[ai (by simpa using hm),ai (by simp)];by_cases hb:jx c 1000000000000000\/jx x 1000000000
  .rw[aj (by simpa using hb),L6 hm hb];rfl
  .obtain⟨P,hP⟩:∃P,P=c.natAbs*x.natAbs:=⟨_,rfl⟩
   rw[ai (by simpa using hb),Sz hm hb hP];unfold jx at hb;have hPb:P<=1000000000000000*1000000000:=hP▸Nat.mul_le_mul (by omega) (by omega);rw[Bc aK (n:=c) (by omega),Bc aK (n:=x) (by omega),aqN,aqN,wN aK (by omega) (by omega),aqN,Bc aK (n:=1000000) (by omega),aqN,<-hP];dsimp only;rw[show((1000000:Int).natAbs:Int)=((1000000:Nat):Int)from rfl];by_cases h1:1000000<=P/18446744073709551616
   .rw[aj (by simp;omega),aj]
    .rfl
    .have:=tK m (ng c x) (P/1000000) (P%1000000) 1000000;omega
   .rw[ai (by simp;omega),Ba (by omega) (by omega) (by omega),aqN]
    have e1:P/18446744073709551616*18446744073709551616+P%18446744073709551616=P:=by omega
    rw[e1];dsimp only;have hu:=tK m (ng c x) (P/1000000) (P%1000000) 1000000;by_cases h2:1000000000000000<P/1000000
    .rw[aj (by simp;omega),aj (by omega)];rfl
    .rw[ai (by simp;omega),yr aK _ (by omega) (by omega) (by omega),aqN];by_cases h3:1000000000000000<sR m (ng c x) (P/1000000) (P%1000000) 1000000
     .rw[aj (by simp;omega),aj h3];rfl
     .rw[ai (by simp;omega),ai h3,Dj aK (by omega)];rfl
 .rw[aj (by simpa using hm),L5 hm];rfl
theorem Kr(N:Nat)(c x m:Int):M.qz N c x m=aa (Vt c x m):=by
 unfold M.qz M.r4;simp only[rL,aqN,qO N _ (l:=1000000000000000) (by omega),qO N _ (l:=1000000000) (by omega),acv,ng6];by_cases hm:rO m
 .rw[ai (by simpa using hm),ai (by simp)];by_cases hb:jx c 1000000000000000\/jx x 1000000000
  .rw[aj (by simpa using hb),L6 hm hb];rfl
  .rw[ai (by simpa using hb),Sz hm hb rfl];unfold jx at hb;rw[uA N (n:=c) (by omega),uA N (n:=x) (by omega),uA N (n:=1000000) (by omega),aqN,aqN,aqN];rw[show((1000000:Int).natAbs:Int)=((1000000:Nat):Int)from rfl]
   obtain⟨A,hA,hAb⟩:∃A,A=c.natAbs/\A<=1000000000000000:=⟨_,rfl,by omega⟩
   obtain⟨X,hX,hXb⟩:∃X,X=x.natAbs/\X<=1000000000:=⟨_,rfl,by omega⟩
   rw[<-hA,<-hX]
   have hAX:A*X=1000000*(A/1000000*X)+A%1000000*X:=by
    have:=arW A 1000000;rw[<-Nat.mul_assoc,<-arn,this]
   have hp:A%1000000*X<=999999*1000000000:=Nat.mul_le_mul (by omega) hXb
   have hu:∀q r,q<=sR m (ng c x) q r 1000000/\sR m (ng c x) q r 1000000<=q+1:=λq r=>tK _ _ _ _ _
   have hq:A*X/1000000=A/1000000*X+A%1000000*X/1000000:=by rw[hAX];omega
   have hr:A*X%1000000=A%1000000*X%1000000:=by rw[hAX];omega
   rw[hq,hr];by_cases h0:(0:Nat)<X/\1000000000000000/X<A/1000000
   .have acw:1000000000000000<A/1000000*X:=by
     rw[arp h0.1]at h0;exact h0.2
    obtain⟨K,hK⟩:∃K,K=1000000000000000/X:=⟨_,rfl⟩
    have hKb:K<=1000000000000000:=hK▸arX _ _;rw[aj (by simp;omega),sQ _ _ (by omega),show(1000000000000000:Int)=((1000000000000000:Nat):Int)from rfl,sQ _ _ (by omega),<-hK,aqN,aqN,aqN,n4 (by omega),n4 (by omega),aj (by rw[<-hK]at h0;simp;omega),aj]
    .rfl
    .have:=(hu (A/1000000*X+A%1000000*X/1000000) (A%1000000*X%1000000)).1;omega
   .have gk:A/1000000*X<=1000000000000000:=by
     rcases Nat.eq_zero_or_pos X with e|e
     .subst e;simp
     .have h9:A/1000000<=1000000000000000/X:=by omega
      rw[Nat.le_div_iff_mul_le e]at h9;exact h9
    have c0:((if(decide ((0:Int)<(X:Int)))=af then(n9 (A:Int) ((1000000:Nat):Int)).bind λx10=>(n9 (1000000000000000:Int) (X:Int)).bind λx11=>aa (decide ((aqO.wrap x11)<(aqO.wrap x10)))else aa ag):Option Bool)=aa ag:=by
     by_cases e:X=0
     .rw[ai (by simp;omega)]
     .obtain⟨K,hK⟩:∃K,K=1000000000000000/X:=⟨_,rfl⟩
      have hKb:K<=1000000000000000:=hK▸arX _ _;rw[<-hK]at h0;rw[aj (by simp;omega),sQ _ _ (by omega),show(1000000000000000:Int)=((1000000000000000:Nat):Int)from rfl,sQ _ _ e,<-hK,aqN,aqN,n4 (by omega),n4 (by omega)];refine av aa ?_;rw[ay];omega
    rw[c0,aqN,ai (by simp),EY _ _ (by omega),aqN,sQ _ _ (by omega),aqN,<-arC,n4 (by omega),sQ _ _ (by omega),aqN,EY _ _ (by omega),aqN,n4 (a:=A/1000000) (by omega),<-arC,n4 (a:=A/1000000*X) (by omega),n4 (a:=A%1000000*X/1000000) (by omega),<-Int.natCast_add,n4 (by omega),pn N _ _ (by omega) (by omega) (by omega),aqN]
    obtain⟨Q,hQ⟩:∃Q,Q=sR m (ng c x) (A/1000000*X+A%1000000*X/1000000) (A%1000000*X%1000000) 1000000:=⟨_,rfl⟩
    rw[<-hQ];have hs:=Ko (ng c x) Q;by_cases h3:1000000000000000<Q
    .rw[aj (an (show jx _ _ by unfold jx;omega)),aj h3];rfl
    .rw[ai (by rw[aw];unfold jx;omega),ai h3];rfl
 .rw[aj (by simpa using hm),L5 hm];rfl
end L.P
namespace L.P
def RU(m F:Int)(R d:Nat):Prop:=m=1\/(m=2/\F<0)\/(m=3/\0<=F)\/(m=4/\(d<R+R\/(d=R+R/\0<=F)))\/(m=5/\(d<R+R\/(d=R+R/\F%2≠0)))
instance(m F:Int)(R d:Nat):Decidable (RU m F R d):=by unfold RU;infer_instance
def HQ(N:Nat){m:Int}(hm:rO m){F:Int}{R d:Nat}(hR:R≠0)(hRd:R<d)(yC:d<=4611686018427387904)(hF: -4500000000000000000<=F/\F<=4500000000000000000):
 M.iM N F (R:Int) (d:Int) m=aa (if RU m F R d then F+1 else F):=by
 unfold M.iM;rw[ai (by simpa using hR)];have hw:aqO.wrap ((d:Int)-(R:Int))=(d:Int)-R:=aE (by omega) (by omega);have Fi:aqO.wrap (F+1)=F+1:=aE (by omega) (by omega);rw[hw,Fi]
 have ht:aq3 F 2=0↔F%2=0:=by
  constructor
  .grind
  .grind
 generalize aq3 F 2=p at ht⊢;unfold rO at hm
 have hc:m=0\/m=1\/m=2\/m=3\/m=4\/m=5:=by omega
 have key:∀(b:Bool),(b=af↔RU m F R d)->((if b=af then aa (F+1)else aa F):Option Int)=aa (if RU m F R d then F+1 else F):=by
  intro b hb;by_cases c:RU m F R d
  .grind
  .grind
 rcases hc with rfl|rfl|rfl|rfl|rfl|rfl
 all_goals simp only[aS,aqN,ar3,decide_true,decide_false,aqT,if_true,if_false,mC,ko]at key⊢
 all_goals grind [P.RU]
def wR(N:Nat){m:Int}(hm:rO m)(neg:Bool){F:Int}{R q r d:Nat}(hd:0<d)(yC:d<=4611686018427387904)(hr:r<d)(hq:q<=4000000000000000000)
 (h:(neg=ag/\F=q/\R=r)\/(neg=af/\r=0/\R=0/\F= -(q:Int))\/(neg=af/\0<r/\R=d-r/\F= -(q:Int)-1)):
 M.iM N F (R:Int) (d:Int) m=aa (sg neg (sR m neg q r d)):=by
 by_cases hR:R=0
 .grind [M.iM,P.Bb,P.sg]
 rw[HQ N hm hR (by omega) yC (by omega)];refine av aa ?_;unfold rO at hm
 have hc:m=0\/m=1\/m=2\/m=3\/m=4\/m=5:=by omega
 rcases h with⟨rfl,rfl,rfl⟩|⟨rfl,h1,h2,h3⟩|⟨rfl,h1,h2,rfl⟩
 .have e:Iz m ag q R d=af↔RU m (q:Int) R d:=by
   unfold Iz RU
   rcases hc with rfl|rfl|rfl|rfl|rfl|rfl<;>simp<;>omega
  grind [P.sR,P.sg]
 .omega
 .have e:Iz m af q r d=af↔¬RU m (-(q:Int)-1) R d:=by
   unfold Iz RU
   rcases hc with rfl|rfl|rfl|rfl|rfl|rfl<;>simp<;>omega
  grind [P.sR,P.sg]
def yt{X F:Int}{R D:Nat}{neg:Bool}(hR:R<D)(h:F*D+R=X)(h1:0<X->neg=ag)(h2:X<0->neg=af):
 (neg=ag/\F=((X.natAbs/D:Nat):Int)/\R=X.natAbs%D)\/(neg=af/\X.natAbs%D=0/\R=0/\F= -((X.natAbs/D:Nat):Int))\/(neg=af/\0<X.natAbs%D/\R=D-X.natAbs%D/\F= -((X.natAbs/D:Nat):Int)-1):=by
 cases neg with
 |false=>
  have hX:0<=X:=by
   rcases asp X 0 with c|c
   .cases h2 c
   .exact c
  have hF:0<=F:=by
   rcases asp F 0 with c|c
   .have:=asd (show F<=-1 by omega) (show(0:Int)<=D by omega);omega
   .exact c
  obtain⟨f,rfl⟩:∃f:Nat,F=f:=⟨F.toNat,by omega⟩
  have e:X.natAbs=D*f+R:=by
   rw[<-arC,arm]at h;omega
  rw[e];refine .inl ⟨rfl,?_,?_⟩
  .rw[Nat.mul_add_div (by omega),Nat.div_eq_of_lt hR,Nat.add_zero]
  .rw[Nat.mul_add_mod,Nat.mod_eq_of_lt hR]
 |true=>
  have hX:X<=0:=by
   rcases asp 0 X with c|c
   .cases h1 c
   .exact c
  have hF:F<=0:=by
   rcases asp 0 F with c|c
   .have:=asd (show 1<=F by omega) (show(0:Int)<=D by omega);omega
   .exact c
  obtain⟨f,hf⟩:∃f:Nat,F= -(f:Int):=⟨F.natAbs,by omega⟩
  subst hf;rw[Int.neg_mul,<-arC,arm]at h;by_cases hR0:R=0
  .subst hR0
   have e:X.natAbs=D*f:=by omega
   simp_all
  .have hf1:1<=f:=by
    rcases Nat.eq_zero_or_pos f with c|c
    .subst c;omega
    .exact c
   obtain⟨g,rfl⟩:∃g,f=g+1:=⟨f-1,by omega⟩
   rw[Nat.mul_add,Nat.mul_one]at h
   have e:X.natAbs=D*g+(D-R):=by omega
   rw[e,Nat.mul_add_mod,Nat.mod_eq_of_lt (by omega),Nat.mul_add_div (by omega),Nat.div_eq_of_lt (by omega),Nat.add_zero]
   grind
def Dk(N:Nat){X:Int}{D:Nat}(hD:0<D)(hD2:D<=4000000000000000000)(hX:X.natAbs<=4000000000000000000):∃(F:Int)(R:Nat),M.o5 N X (D:Int)=aa (F,(R:Int))/\R<D/\F*D+R=X/\-(X.natAbs:Int)-1<=F/\F<=X.natAbs:=by
 unfold M.o5;have O7:=arW X.natAbs D;have hm:=ar0 X.natAbs hD;have hq:=arX X.natAbs D
 rcases asp X 0 with c|c
 .have eX:X= -(X.natAbs:Int):=by omega
  have q1:n9 X (D:Int)=aa (-((X.natAbs/D:Nat):Int)):=by
   unfold n9;rw[ai (by omega)]
   conv=>lhs;rw[eX]
   rw[Int.neg_tdiv,aq7 (by omega)];simp
  have q2:sV X (D:Int)=aa (-((X.natAbs%D:Nat):Int)):=by
   unfold sV;rw[ai (by omega)]
   conv=>lhs;rw[eX]
   rw[Int.neg_tmod,aq8 (by omega)];simp
  rw[q1,q2,aqN,aqN];generalize X.natAbs/D=Q at O7 hq⊢;generalize X.natAbs%D=R at O7 hm⊢;rw[aE (n:= -(Q:Int)) (by omega) (by omega)]
  have hQD:(Q:Int)*D=((D*Q:Nat):Int):=by rw[arm];exact(arC _ _).symm
  by_cases hz:R=0
  .subst hz;refine⟨-(Q:Int),0,?_,hD,?_,by omega,by omega⟩
   .rw[ai (by simp)];rfl
   grind
  .refine⟨-(Q:Int)-1,D-R,?_,by omega,?_,by omega,by omega⟩
   all_goals grind [aE]
 .obtain⟨x,rfl⟩:∃x:Nat,X=x:=⟨X.toNat,by omega⟩
  rw[Int.natAbs_natCast]at*;rw[sQ _ _ (by omega),EY _ _ (by omega),aqN,aqN];generalize x/D=Q at O7 hq⊢;generalize x%D=R at O7 hm⊢
  have hQD:(Q:Int)*D=((D*Q:Nat):Int):=by rw[arm];exact(arC _ _).symm
  rw[ai (by simp),n4 (by omega)]
  grind
def Vu(N:Nat)(a b m:Int):M.mX N a b m=M.rB N a b m:=by
 unfold M.mX M.rB;rw[E0];simp only[Be,aqN,L2 N _ (l:=1000000000) (by omega),wP N _ (l:=1000000000) (by omega),Sw];by_cases hm:rO m
 .simp only[hm,decide_true,arA,aqT,if_false];by_cases hb:jx a 1000000000\/jx b 1000000000
  .grind
  .simp only[hb,decide_false,aqT,if_false];unfold jx at hb
   have hX:(a*b).natAbs<=1000000000*1000000000:=by
    rw[Int.natAbs_mul];exact Nat.mul_le_mul (by omega) (by omega)
   obtain⟨X,hXe⟩:∃X,X=a*b:=⟨_,rfl⟩
   rw[<-hXe]at hX⊢;rw[aE (n:=X) (by omega) (by omega),qP,aqN];obtain⟨F,R,e,h1,h2,h3,h4⟩:=Dk N (X:=X) (D:=1000000) (by omega) (by omega) (by omega);rw[show((1000000:Nat):Int)=(1000000:Int)from rfl]at e;rw[e,aqN];dsimp only;have hr:=wR N hm (decide (X<0)) (F:=F) (R:=R) (q:=X.natAbs/1000000) (r:=X.natAbs%1000000) (d:=1000000) (by omega) (by omega) (by omega) (by omega) (by grind)
   grind [P.Bf,P.jx,P.Kp]
 grind
def SA(n d m:Int):Int×Int:=
 if¬rO m then(0,1)else if d=0 then(0,12)else if jx n 1000000000000000\/jx d 1000000000000000 then(0,3)else
  if 1000000000<sR m (ng n d) (n.natAbs*1000000/d.natAbs) (n.natAbs*1000000%d.natAbs) d.natAbs then(0,3)
  else(sg (ng n d) (sR m (ng n d) (n.natAbs*1000000/d.natAbs) (n.natAbs*1000000%d.natAbs) d.natAbs),0)
theorem L7{n d m:Int}(h:¬rO m):SA n d m=(0,1):=aj h
theorem HR{n d m:Int}(h:rO m)(h1:d=0):SA n d m=(0,12):=by grind [P.SA]
theorem L8{n d m:Int}(h:rO m)(h1:d≠0)(h2:jx n 1000000000000000\/jx d 1000000000000000):SA n d m=(0,3):=by grind [P.SA]
def SB{n d m:Int}(h:rO m)(h1:d≠0)(h2:¬(jx n 1000000000000000\/jx d 1000000000000000)){P D:Nat}(hP:P=n.natAbs*1000000)(hD:D=d.natAbs):SA n d m=if 1000000000<sR m (ng n d) (P/D) (P%D) D then(0,3)else(sg (ng n d) (sR m (ng n d) (P/D) (P%D) D),0):=by subst hP hD;grind [P.SA]
theorem Ks{a:Int}(h: -1000000000000000<=a/\a<=1000000000000000):aqQ.wrap (if a<(aqO.wrap (0-a))then(aqO.wrap (0-a))else a)=((a.natAbs:Nat):Int):=by
 grind [aE,P.lR]
theorem E1(n d m:Int):M.iY aK n d m=aa (SA n d m):=by
 unfold M.iY;simp only[Be,aqN,L2 aK _ (l:=1000000000000000) (by omega),Sw];by_cases hm:rO m
 .rw[ai (by simpa using hm)];by_cases hd:d=0
  .grind [P.HR]
  .rw[ai (by simpa using hd)];by_cases hb:jx n 1000000000000000\/jx d 1000000000000000
   .grind [P.L8]
   .obtain⟨P,hP⟩:∃P,P=n.natAbs*1000000:=⟨_,rfl⟩
    obtain⟨D,hD⟩:∃D,D=d.natAbs:=⟨_,rfl⟩
    rw[ai (by simpa using hb),SB hm hd hb hP hD];unfold jx at hb
    have hDb:D<=1000000000000000:=by omega
    rw[Ks (a:=n) (by omega),Ks (a:=d) (by omega)]
    have SC:0<D:=by omega
    have HL:=ar0 P SC;rw[show(1000000:Int)=((1000000:Nat):Int)from rfl,wN aK (by omega) (by omega),aqN,<-hP,<-hD];dsimp only;have hu:=tK m (ng n d) (P/D) (P%D) D;by_cases h1:D<=P/18446744073709551616
    .have acw:18446744073709551616<=P/D:=by
      rw[Nat.le_div_iff_mul_le SC];have:=(Nat.le_div_iff_mul_le (by omega)).1 h1;omega
     grind
    .rw[ai (by simp;omega),Ba (by omega) (by omega) (by omega),aqN]
     have e1:P/18446744073709551616*18446744073709551616+P%18446744073709551616=P:=by omega
     rw[e1];dsimp only;by_cases h2:1000000000<P/D
     .grind
     .rw[ai (by simp;omega),HN aK _ HL (by omega),aqN];rw[show(!decide (decide (n<0)=decide (d<0)))=ng n d from rfl]
      have e2:((if Iz m (ng n d) (P/D) (P%D) D=af then aa (aqO.wrap (aqO.wrap ((P/D:Nat):Int)+1))else aa (aqO.wrap ((P/D:Nat):Int))):Option Int)=aa ((sR m (ng n d) (P/D) (P%D) D:Nat):Int):=by
       rw[n4 (by omega)];unfold sR;split
       .rw[aE (by omega) (by omega)];rfl
       .rfl
      rw[e2,aqN];by_cases h3:1000000000<sR m (ng n d) (P/D) (P%D) D
      .grind
      .rw[ai (by simp;omega),ai h3,aE (by omega) (by omega)];unfold sg
       grind
 grind [P.L7]
theorem BU(N:Nat)(n d m:Int):M.mh N n d m=aa (SA n d m):=by
 unfold M.mh;rw[E0];simp only[aqN,wP N _ (l:=1000000000000000) (by omega),wP N _ (l:=1000000000) (by omega),wP N _ (l:=1001) (by omega),Sw];by_cases hm:rO m
 .rw[ai (by simpa using hm)];by_cases hd:d=0
  .grind [P.HR]
  .rw[ai (by simpa using hd)];by_cases hb:jx n 1000000000000000\/jx d 1000000000000000
   .grind [P.L8]
   .obtain⟨P,hP0⟩:∃P,P=n.natAbs*1000000:=⟨_,rfl⟩
    obtain⟨D,hD⟩:∃D,D=d.natAbs:=⟨_,rfl⟩
    rw[ai (by simpa using hb),SB hm hd hb hP0 hD];unfold jx at hb
    have hDb:D<=1000000000000000:=by omega
    have SC:0<D:=by omega
    obtain⟨X,hX1,hX2,hX3,hX4⟩:∃X:Int,((if(decide (d<(0:Int)))=af then aa (aqO.wrap ((0:Int)-n),aqO.wrap ((0:Int)-d))else aa (n,d)):Option (Int×Int))=aa (X,(D:Int))/\X.natAbs=n.natAbs/\(0<X->ng n d=ag)/\(X<0->ng n d=af):=by
     by_cases c:d<0
     .refine⟨-n,?_,by omega,λh=>?_,λh=>?_⟩
      .grind [aE]
      .unfold ng;grind
      .unfold ng;grind
     .refine⟨n,?_,rfl,λh=>?_,λh=>?_⟩
      .grind
      .unfold ng;grind
      .unfold ng;grind
    rw[hX1,aqN];obtain⟨F0,R0,e,h1,h2,h3,h4⟩:=Dk N (X:=X) (D:=D) SC (by omega) (by omega);dsimp only;rw[e,aqN];dsimp only
    have hP:P=X.natAbs*1000000:=by rw[hX2];exact hP0
    have HL:=ar0 P SC;have hu:=tK m (ng n d) (P/D) (P%D) D;by_cases OR:jx F0 1001
    .rw[aj (by simpa using OR),aj];unfold jx at OR
     have hq:1001000000<=P/D:=by
      rw[Nat.le_div_iff_mul_le SC]
      rcases OR with c|c
      .have:=asd (show 1002<=F0 by omega) (show(0:Int)<=D by omega);omega
      .have:=asd (show F0<=-1002 by omega) (show(0:Int)<=D by omega);omega
     omega
    .rw[ai (by simpa using OR)];unfold jx at OR;have k1:=arW (R0*1000) D;have k2:=ar0 (R0*1000) SC
     have k3:R0*1000/D<1000:=by rw[arp SC];omega
     obtain⟨a,ha⟩:∃a,a=R0*1000/D:=⟨_,rfl⟩
     obtain⟨r1,VQ⟩:∃r,r=R0*1000%D:=⟨_,rfl⟩
     rw[<-ha,<-VQ]at k1;rw[<-VQ]at k2;rw[<-ha]at k3;have g1:=arW (r1*1000) D;have g2:=ar0 (r1*1000) SC
     have g3:r1*1000/D<1000:=by rw[arp SC];omega
     obtain⟨b,u0⟩:∃b,b=r1*1000/D:=⟨_,rfl⟩
     obtain⟨r2,We⟩:∃r,r=r1*1000%D:=⟨_,rfl⟩
     rw[<-u0,<-We]at g1;rw[<-We]at g2;rw[<-u0]at g3
     have m1:((R0:Int)*1000)=((R0*1000:Nat):Int):=by omega
     rw[m1,n4 (a:=R0*1000) (by omega),sQ _ _ (by omega),EY _ _ (by omega),aqN,aqN,<-ha,<-VQ]
     have m2:((r1:Int)*1000)=((r1*1000:Nat):Int):=by omega
     rw[m2,n4 (a:=r1*1000) (by omega),sQ _ _ (by omega),EY _ _ (by omega),aqN,aqN,<-u0,<-We]
     have w:∀z:Int,-100000000000<=z->z<=100000000000->aqO.wrap z=z:=λz h1 h2=>aE (by omega) (by omega)
     rw[w (F0*1000000) (by omega) (by omega),w (a:Int) (by omega) (by omega),w ((a:Int)*1000) (by omega) (by omega),w (F0*1000000+(a:Int)*1000) (by omega) (by omega),w (b:Int) (by omega) (by omega),w _ (by omega) (by omega)]
     have hFX:(F0*1000000+(a:Int)*1000+(b:Int))*(D:Int)+(r2:Int)=X*1000000:=by
      have e1:(F0*1000000+(a:Int)*1000+(b:Int))*(D:Int)=F0*D*1000000+(a:Int)*D*1000+(b:Int)*D:=by
       rw[Int.add_mul,Int.add_mul,Int.mul_right_comm F0,Int.mul_right_comm (a:Int)]
      have e2:(a:Int)*D=((D*a:Nat):Int):=by rw[arm];exact(arC _ _).symm
      have e3:(b:Int)*D=((D*b:Nat):Int):=by rw[arm];exact(arC _ _).symm
      rw[e1,e2,e3];omega
     have hXn:(X*1000000).natAbs=P:=by rw[hP,Int.natAbs_mul];rfl
     have hc:=yt (neg:=ng n d) g2 hFX (λh=>hX3 (by omega)) (λh=>hX4 (by omega));rw[hXn]at hc
     have hPD:P/D<=2000000000:=by
      rcases hc with⟨_,c,_⟩|⟨_,_,_,c⟩|⟨_,_,_,c⟩<;>omega
     have hr:=wR N hm (ng n d) SC (by omega) HL (by omega) hc;rw[hr,aqN];have hs:=Ko (ng n d) (sR m (ng n d) (P/D) (P%D) D);by_cases h3:1000000000<sR m (ng n d) (P/D) (P%D) D
     .rw[aj (an (show jx _ _ by unfold jx;omega)),aj h3]
     .rw[ai (by rw[aw];unfold jx;omega),ai h3]
 grind [P.L7]
end L.P
namespace L.P
def HS{S S' X X':Type}{body:S->Option (S⊕X)}{body':S'->Option (S'⊕X')}(φ:S->S')(ψ:X->X')(h:∀s,body' (φ s)=(body s).map (Sum.map φ ψ)):∀(N:Nat)(s:S),Loop body' N (φ s)=(Loop body N s).map ψ
 |0,_=>rfl
 |N+1,s=>by
  unfold Loop;rw[h s]
  cases body s with
  |none=>rfl
  |some x=>cases x with
   |inl s'=>exact HS φ ψ h N s'
   |inr x=>rfl
def Cn(r:Ty)(d:Int):Prop:=0<=(r.1:Int)/\(r.1:Int)<=r.2/\(r.2:Int)<=109573/\(r.1:Int)<=d/\d<r.2
instance(r:Ty)(d:Int):Decidable (Cn r d):=by unfold Cn;infer_instance
def contains_eq(N:Nat)(r:aA.den)(d:Int):M.cH N r d=aa (decide (Cn r d)):=by
 unfold M.cH M.fi;obtain⟨(a:Int),(b:Int)⟩:=r;simp only[aS,aqN,ko];refine av aa ?_;rw[art,aw]
 show _↔0<=a/\a<=b/\b<=109573/\a<=d/\d<b
 grind
def sx(N:Nat)(r:aA.den)(d:Int):M.gQ N r d=aa (decide (Cn r d)):=contains_eq N r d
def HT(N:Nat)(t:bj.den)(d k:Int):M.k9 N t d k=M.nv N t d k:=by
 unfold M.k9 M.cL M.nv
 have:=HS (S:=Int) (S':=Int×Int×Int) (X:=Int×Bool) (X':=Int×Bool×Int×Int)
  (body:=λs1=>(if(decide (s1<(t.2.2.2.length:Int)))=af then(idx t.2.2.2 s1).bind λx2=>(M.oJ N x2 d k).bind λy3=>(if y3=af then aa (arM (s1,af))else aa (Sum.inl (aqO.wrap (s1+(1:Int)))))else aa (arM ((0:Int),ag))))
  (body':=λs1=>(if(decide (s1.1<(t.2.2.2.length:Int)))=af then(idx t.2.2.2 s1.1).bind λx2=>(M.gK N x2 s1.2.1 s1.2.2).bind λy3=>(if y3.1=af then aa (arM (s1.1,af,y3.2.1,y3.2.2))else aa (Sum.inl (aqO.wrap (s1.1+(1:Int)),y3.2.1,y3.2.2)))else aa (arM ((0:Int),ag,s1.2.1,s1.2.2))))
  (λs=>(s,d,k)) (λx=>(x.1,x.2,d,k)) ?_ N 0
 .rw[this]
  cases Loop _ N (0:Int)<;>grind
 .intro s;dsimp only;by_cases c:s<(t.2.2.2.length:Int)
  .rw[aj (by simpa using c),aj (by simpa using c)]
   cases idx t.2.2.2 s with
   |none=>rfl
   |some x=>
    unfold M.gK M.oJ;rw[aqN,aqN,contains_eq,sx];simp only[aS,aqN,Option.map_some]
    grind
  grind
def CT(l:Nat)(n:Int):Int×Int×Bool:=
 if 1000000000000000<l*n.natAbs/1000000 then(0,0,ag)else(sg (decide (n<0)) (l*n.natAbs/1000000),sg (decide (n<0)) (l*n.natAbs%1000000),af)
theorem yT{l:Nat}{n:Int}(hl:l<=1000000000000000)(hn: -9223372036854775808<=n/\n<=9223372036854775807):M.fy aK (l:Int) n=aa (CT l n):=by
 unfold M.fy CT
 have e1:((if(decide (n<(0:Int)))=af then aa (aqQ.wrap (0-(aqQ.wrap n)))else aa (aqQ.wrap n)):Option Int)=aa ((n.natAbs:Nat):Int):=by
  by_cases c:n<0
  .grind [P.lF]
  .grind [P.lR]
 rw[e1,aqN,q6 (a:=l) (by omega),wN aK (by omega) (by omega),aqN]
 obtain⟨P,hP⟩:∃P,P=l*n.natAbs:=⟨_,rfl⟩
 rw[<-hP];dsimp only;by_cases h1:1000000<=P/18446744073709551616
 .grind
 .rw[ai (by simp;omega),show(1000000:Int)=((1000000:Nat):Int)from rfl,Ba (by omega) (by omega) (by omega),aqN]
  have e2:P/18446744073709551616*18446744073709551616+P%18446744073709551616=P:=by omega
  rw[e2];dsimp only;by_cases h2:1000000000000000<P/1000000
  .grind
  .rw[ai (by simp;omega),ai h2,n4 (by omega),n4 (by omega),aE (by omega) (by omega),aE (by omega) (by omega)];unfold sg
   grind
theorem rM(N:Nat){l:Nat}{n:Int}(hl:l<=1000000000000000)(hn: -9223372036854775808<=n/\n<=9223372036854775807):M.jE N (l:Int) n=aa (CT l n):=by
 unfold M.jE CT
 have e1:((if(decide (n<(0:Int)))=af then aa (aqQ.wrap ((aqQ.wrap (aqO.wrap (0-(aqO.wrap (n+(1:Int))))))+(1:Int)))else aa (aqQ.wrap n)):Option Int)=aa ((n.natAbs:Nat):Int):=by
  by_cases c:n<0
  .grind [aE,P.lR]
  .grind [P.lR]
 rw[e1,aqN]
 obtain⟨m,hm,hmb⟩:∃m,m=n.natAbs/\m<=9223372036854775808:=⟨_,rfl,by omega⟩
 rw[<-hm]
 have t1:aq1 (m:Int) 1000000=((m/1000000:Nat):Int):=by rw[aq7 (by omega)];omega
 have t2:aq3 (m:Int) 1000000=((m%1000000:Nat):Int):=by rw[aq8 (by omega)];omega
 have t3:aq1 (l:Int) 1000000=((l/1000000:Nat):Int):=by rw[aq7 (by omega)];omega
 have t4:aq3 (l:Int) 1000000=((l%1000000:Nat):Int):=by rw[aq8 (by omega)];omega
 rw[t1,t2,t3,t4]
 obtain⟨A,hA,hAb⟩:∃A,A=m/1000000/\A<=10000000000000:=⟨_,rfl,by omega⟩
 obtain⟨B,hB,hBb⟩:∃B,B=m%1000000/\B<1000000:=⟨_,rfl,by omega⟩
 have hAB:m=A*1000000+B:=by omega
 rw[<-hA,<-hB,q6 (a:=A) (by omega),n4 (a:=A) (by omega),n4 (a:=B) (by omega)];have Yf:l%1000000*B<=999999*999999:=Nat.mul_le_mul (by omega) (by omega);have aoW:l/1000000*B<=1000000000*999999:=Nat.mul_le_mul (by omega) (by omega)
 have hP:l*m=1000000*(l*A+l/1000000*B)+l%1000000*B:=by
  have e:=arW l 1000000
  have e3:l*B=1000000*(l/1000000*B)+l%1000000*B:=by
   rw[<-Nat.mul_assoc,<-arn,e]
  have e4:l*(A*1000000+B)=1000000*(l*A)+l*B:=by
   rw[Nat.mul_add,<-Nat.mul_assoc,arm (l*A)]
  rw[hAB,e4,e3];omega
 have hq:l*m/1000000=l*A+l/1000000*B+l%1000000*B/1000000:=by rw[hP];omega
 have hr:l*m%1000000=l%1000000*B%1000000:=by rw[hP];omega
 rw[hq,hr];by_cases h0:0<A/\1000000000000000/A<l
 .have acw:1000000000000000<l*A:=by
   rw[arp h0.1]at h0;exact h0.2
  grind [P.sQ,P.n4]
 .have gk:l*A<=1000000000000000:=by
   rcases Nat.eq_zero_or_pos A with e|e
   .rw[e];simp
   .grind [Nat.le_div_iff_mul_le]
  have c0:((if(decide ((0:Int)<(A:Int)))=af then(n9 (1000000000000000:Int) (A:Int)).bind λx3=>aa (decide ((aqO.wrap x3)<(l:Int)))else aa ag):Option Bool)=aa ag:=by
   by_cases e:A=0
   .grind
   .obtain⟨K,hK⟩:∃K,K=1000000000000000/A:=⟨_,rfl⟩
    have hKb:K<=1000000000000000:=hK▸arX _ _
    grind [P.sQ,P.n4]
  rw[c0,aqN,ai (by simp)]
  have u1:aq1 ((l%1000000*B:Nat):Int) 1000000=((l%1000000*B/1000000:Nat):Int):=by rw[aq7 (by omega)];omega
  have u2:aq3 ((l%1000000*B:Nat):Int) 1000000=((l%1000000*B%1000000:Nat):Int):=by rw[aq8 (by omega)];omega
  rw[<-arC l A,<-arC (l%1000000) B,n4 (a:=l/1000000) (by omega),<-arC (l/1000000) B,n4 (a:=l*A) (by omega),n4 (a:=l/1000000*B) (by omega),n4 (a:=l%1000000*B) (by omega),u1,u2,n4 (a:=l%1000000*B/1000000) (by omega),<-Int.natCast_add,n4 (a:=l*A+l/1000000*B) (by omega),<-Int.natCast_add,n4 (by omega)]
  grind [aE,P.sg]
def YT(l:Nat)(n:Int):(-1000000000000000<=(CT l n).1/\(CT l n).1<=1000000000000000)/\-1000000<=(CT l n).2.1/\(CT l n).2.1<=1000000:=by
 grind [P.CT,P.HP]
def RS(X m:Int):Int:=sg (decide (X<0)) (sR m (decide (X<0)) (X.natAbs/1000000) (X.natAbs%1000000) 1000000)
def SD(X m:Int):((RS X m).natAbs=X.natAbs/1000000\/(RS X m).natAbs=X.natAbs/1000000+1):=by
 grind [P.RS,P.HP,P.tK]
def HU(m:Int)(neg:Bool)(q r d k:Nat):sR m neg (q+2*k) r d=sR m neg q r d+2*k:=by
 grind [P.Iz,P.sR]
def SE{X Z m t:Int}(h:X=Z+2*t*1000000)(hs:t=0\/(0<t/\0<=Z)\/(t<0/\Z<0)):RS X m=2*t+RS Z m:=by
 rcases hs with c|⟨c1,c2⟩|⟨c1,c2⟩
 .grind
 .unfold RS;rw[ao (show¬X<0 by omega),ao (show¬Z<0 by omega)]
  have e:X.natAbs/1000000=Z.natAbs/1000000+2*t.natAbs:=by omega
  have e':X.natAbs%1000000=Z.natAbs%1000000:=by omega
  rw[e,e',HU]
  grind [P.sg]
 .unfold RS;rw[an (show X<0 by omega),an c2]
  have e:X.natAbs/1000000=Z.natAbs/1000000+2*t.natAbs:=by omega
  have e':X.natAbs%1000000=Z.natAbs%1000000:=by omega
  rw[e,e',HU]
  grind [P.sg]
def HV{Z m:Int}(hm:rO m)(h: -4000000000000000000<=Z/\Z<=4000000000000000000):O8 Z 1000000 m=(RS Z m,0):=by
 rw[Bf hm (by omega) (by unfold jx;omega),Kp Z (by omega)];rfl
theorem OD{w r m:Int}(hm:rO m)(hw: -2000000000000000000<=w/\w<=2000000000000000000)(hr: -1000000000000<=r/\r<=1000000000000):M.oK aK w r m=aa (RS (w*1000000+r) m):=by
 apply Wp.eq;unfold M.oK
 obtain⟨X,hX⟩:∃X,X=w*1000000+r:=⟨_,rfl⟩
 rw[<-hX]
 refine Wp.seq (λs:Int×Int=>s.1*1000000+s.2=X/\(-2000000000009000000<=s.1/\s.1<=2000000000009000000)/\0<=s.2/\s.2<=1000000000000) (Wp.loop (λs:Int×Int=>s.1*1000000+s.2=X/\(-2000000000009000000<=s.1/\s.1<=2000000000009000000)/\-1000000000000<=s.2/\s.2<=1000000000000) (λs=>((1000000000000-s.2)/1000000).toNat) (by grind) (by simp only;unfold aK;omega) ?_) λs hs=>?_
 .rintro⟨a,b⟩ ⟨h1,h2,h3⟩
  simp only at h1 h2 h3⊢
  have PZ: -2000000000008000000<=a/\a<=2000000000008000000:=by omega
  refine Wp.dec (λh=> .some ?_) λh=> .some ⟨h1,h2,by omega,by grind⟩
  rw[aE (by omega) (by omega),aE (by omega) (by omega)];exact⟨⟨by simp only;omega,by simp only;omega,by simp only;omega⟩,by grind⟩
 obtain⟨a,b⟩:=s;obtain⟨h1,h2,h3⟩:=hs;simp only at h1 h2 h3⊢
 refine Wp.seq (λs:Int×Int=>s.1*1000000+s.2=X/\(-2000000000009000000<=s.1/\s.1<=2000000000020000000)/\0<=s.2/\s.2<1000000) (Wp.loop (λs:Int×Int=>s.1*1000000+s.2=X/\(-2000000000009000000<=s.1/\s.1+s.2/1000000<=2000000000020000000)/\0<=s.2/\s.2<=1000000000000) (λs=>(s.2/1000000).toNat) (by grind) (by simp only;unfold aK;omega) ?_) λs hs=>?_
 .rintro⟨a,b⟩ ⟨h1,h2,h3⟩
  simp only at h1 h2 h3⊢
  refine Wp.dec (λh=> .some ?_) λh=> .some ⟨h1,by simp only;omega,by grind⟩
  rw[aE (by omega) (by omega),aE (by omega) (by omega)];exact⟨⟨by simp only;omega,by simp only;omega,by simp only;omega⟩,by grind⟩
 obtain⟨F,R⟩:=s;obtain⟨h1,h2,h3⟩:=hs;simp only at h1 h2 h3⊢
 obtain⟨R,rfl⟩:∃n:Nat,R=n:=⟨R.toNat,by omega⟩
 have hc:=yt (X:=X) (F:=F) (R:=R) (D:=1000000) (neg:=decide (X<0)) (by omega) (by omega) (λh=>by simp;omega) (λh=>by simp;omega)
 refine Wp.dec (λh=>?_) λh=>Wp.dec (λg=> .some ?_) λg=>?_
 .have hx:¬X<0:=by omega
  obtain⟨f,rfl⟩:∃n:Nat,F=n:=⟨F.toNat,by omega⟩
  rw[show(1000000:Int)=((1000000:Nat):Int)from rfl,pn aK m ag (by omega) (by omega) (by omega),aqN];refine .some ?_
  grind [P.RS]
 .have hx:X<0:=by omega
  show _=_
  unfold RS;rw[an hx]
  rcases hc with⟨c,_⟩|⟨_,c1,c2,c3⟩|⟨_,c1,c2,c3⟩
  .rw[an hx]at c;cases c
  .rw[c1,Bb _ _ _ (by omega),c3];unfold sg;simp
  .omega
 .have hx:X<0:=by omega
  rcases hc with⟨c,_⟩|⟨_,c1,c2,c3⟩|⟨_,c1,c2,c3⟩
  .grind
  .omega
  .have hq:X.natAbs/1000000<=2000000000020000000:=by omega
   rw[aE (n:=0-F) (by omega) (by omega),aE (n:=0-F-1) (by omega) (by omega),aE (by omega) (by omega)];rw[show(0:Int)-F-1=((X.natAbs/1000000:Nat):Int) by omega,show(1000000:Int)-(R:Int)=((X.natAbs%1000000:Nat):Int) by omega,show(1000000:Int)=((1000000:Nat):Int)from rfl,pn aK m af (by omega) (by omega) (by omega),aqN];refine .some ?_
   grind [P.RS]
def RB(X m:Int):Int×Int:=if jx (RS X m) 1000000000000000 then(0,3)else(RS X m,0)
theorem HW(N:Nat){w r m:Int}(hm:rO m)(hw: -2000000000000000000<=w/\w<=2000000000000000000)(hr: -1000000000000<=r/\r<=1000000000000):M.gL N w r m=aa (RB (w*1000000+r) m):=by
 unfold M.gL
 obtain⟨Q,ρ,hQ,Uh,e1,e2,e3⟩:∃Q ρ:Int,aq1 r 1000000=Q/\aq3 r 1000000=ρ/\Q*1000000+ρ=r/\(-1000000<ρ/\ρ<1000000)/\(-1000001<Q/\Q<1000001):=by
  refine⟨_,_,rfl,rfl,?_,?_,?_⟩
  .have:=Int.mul_tdiv_add_tmod r 1000000;omega
  .rcases asp r 0 with c|c
   .have h1:=Int.neg_tmod r 1000000;have h2:=aq8 (a:= -r) (b:=1000000) (by omega);omega
   .have h2:=aq8 (a:=r) (b:=1000000) (by omega);omega
  .rcases asp r 0 with c|c
   .have h1:=Int.neg_tdiv r 1000000;have h2:=aq7 (a:= -r) (b:=1000000) (by omega);omega
   .have h2:=aq7 (a:=r) (b:=1000000) (by omega);omega
 rw[hQ,Uh,aE (n:=Q) (by omega) (by omega),aE (n:=w+Q) (by omega) (by omega)]
 obtain⟨W,hW⟩:∃W,W=w+Q:=⟨_,rfl⟩
 obtain⟨X,hX⟩:∃X,X=w*1000000+r:=⟨_,rfl⟩
 rw[<-hW,<-hX]
 have hXW:X=W*1000000+ρ:=by omega
 have hR:=SD X m;simp only[aS,aqN,mC];unfold RB;by_cases c:W< -2000000000000000\/2000000000000000<W
 .rw[aj (by simpa using c),aj (by unfold jx;omega)]
 .rw[ai (by simpa using c)]
  obtain⟨p,hp,ZI,PY⟩:∃p:Int,(if(decide ((1:Int)<W))=af then(aqO.wrap ((aq3 W (2:Int))+(2:Int)))else(if(decide (W<(-1:Int)))=af then(aqO.wrap ((aq3 W (2:Int))-(2:Int)))else(aq3 W (2:Int))))=p/\(-3<=p/\p<=3)/\∃t:Int,W=p+2*t/\(t=0\/(0<t/\1<W/\1<p)\/(t<0/\W< -1/\p< -1)):=by
   rcases asp W 0 with d|d
   .have h1:=Int.neg_tmod W 2;have h2:=aq8 (a:= -W) (b:=2) (by omega)
    have h3:aq3 W 2= -((-W)%2):=by omega
    rw[ai (by simp;omega),h3];by_cases d2:W< -1
    .rw[aj (by simpa using d2),aE (by omega) (by omega)];exact⟨_,rfl,by omega,(W+2+(-W)%2)/2,by omega,by omega⟩
    .rw[ai (by simpa using d2)];exact⟨_,rfl,by omega,0,by omega, .inl rfl⟩
   .have h3:aq3 W 2=W%2:=aq8 d;rw[h3];by_cases d2:1<W
    .rw[aj (by simpa using d2),aE (by omega) (by omega)];exact⟨_,rfl,by omega,(W-2-W%2)/2,by omega,by omega⟩
    .rw[ai (by simpa using d2),ai (by simp;omega)];exact⟨_,rfl,by omega,0,by omega, .inl rfl⟩
  obtain⟨t,ht,hs⟩:=PY;rw[hp,aE (n:=p*1000000) (by omega) (by omega),aE (n:=p*1000000+ρ) (by omega) (by omega),qP,HV hm (by omega),aqN];have hsh:=SE (X:=X) (Z:=p*1000000+ρ) (m:=m) (t:=t) (by omega) (by omega);have hRZ:=SD (p*1000000+ρ) m;rw[ai (by simp)];dsimp only;rw[aE (n:=W-p) (by omega) (by omega),aE (n:=W-p+RS (p*1000000+ρ) m) (by omega) (by omega),show W-p+RS (p*1000000+ρ) m=RS X m by omega];by_cases g:jx (RS X m) 1000000000000000
  .rw[aj (by unfold jx at g;simp;omega),aj g]
  .rw[ai (by unfold jx at g;simp;omega),ai g]
def OE{S J R:Type}{b b':S->Option (S⊕(J⊕R))}{N:Nat}{s0:S}{k k':J->Option R}(P:J->Prop)(hb:∀s,b s=b' s)(h:Wp (Loop b' N s0) λx=>match x with
 | .inl j=>P j
 | .inr _=>True)(hk:∀j,P j->k j=k' j):bS (Loop b N s0) k=bS (Loop b' N s0) k':=by
 rw[show b=b' from funext hb];obtain⟨x,e,hx⟩:=h;rw[e]
 cases x with
 |inl j=>exact hk j hx
 |inr r=>rfl
def Vv{α:Type}{l:List α}{i:Int}{x:α}(h:idx l i=aa x):x∈l:=by
 obtain⟨_,e⟩:=(fo (Q:=λy=>y=x)).1 ⟨x,h,rfl⟩
 grind
def BV{t:bj.den}(hl:t.2.2.2.length<=1000)(hw:∀r∈t.2.2.2,-9223372036854775808<=(r.2.2.2:Int)/\(r.2.2.2:Int)<=9223372036854775807)(d c m:Int):M.gM aK t d c m=M.nw aK t d c m:=by
 unfold M.gM M.nw;rw[E0,rL,aqN,aqN];by_cases hm:rO m
 case neg=>grind
 simp only[hm,decide_true,arA,aqT,if_false]
 obtain⟨j2,VH⟩:∃j,((if(!(mD aA t.2.1 ((3:Int),(0:Int))))=af then aa af else aa (!(mD aA t.2.2.1 ((4:Int),(0:Int))))):Option Bool)=aa j:=by
  split<;>exact⟨_,rfl⟩
 rw[VH,aqN,aqN]
 cases j2 with
 |true=>rfl
 |false=>
  simp only[aqT,if_false]
  have aF:((if(decide (c<(-1000000000000000:Int)))=af then aa af else aa (decide ((1000000000000000:Int)<c))):Option Bool)=aa (decide (jx c 1000000000000000)):=by
   rw[aS,mC];refine av aa ?_;rw[art,Bool.or_eq_true,aw,aw,aw];unfold jx;omega
  rw[qO aK c (by omega),aF,aqN,aqN];by_cases hc:jx c 1000000000000000
  .grind
  simp only[hc,decide_false,aqT,if_false];unfold jx at hc;refine OE (λj:Int×Int=>(-1000000000000000000<=j.1/\j.1<=1000000000000000000)/\-1000000000<=j.2/\j.2<=1000000000) ?_ ?_ ?_
  .rintro⟨a,b,i⟩
   dsimp only;by_cases h:i<(t.2.2.2.length:Int)
   .rw[aj (by simpa using h),aj (by simpa using h)];refine av (λo=>bS o _) ?_
    cases hx:idx t.2.2.2 i with
    |none=>rfl
    |some x=>
     simp only[aqN,contains_eq,sx];have hn:=hw x (Vv hx)
     obtain⟨T,hT,hTc⟩:∃T:Int,T=(if c<x.2.2.1 then c else x.2.2.1)/\T<=c:=⟨_,rfl,by split<;>omega⟩
     obtain⟨F,hF,hF0⟩:∃F:Int,F=(if x.2.1<(0:Int)then(0:Int)else x.2.1)/\0<=F:=(by grind)
     rw[<-hT,<-hF];by_cases hC:Cn x.1 d
     .by_cases hTF:T<=F
      .simp[hC,hTF]
      .simp only[hC,hTF,decide_true,decide_false,arA,aqT,if_false,aqN];rw[aE (by omega) (by omega)]
       obtain⟨l,W2⟩:∃l:Nat,T-F=l:=⟨(T-F).toNat,by omega⟩
       grind [P.yT,P.rM]
     grind
   grind
  .refine Wp.loop (λs:Int×Int×Int=>∃i:Nat,s.2.2=i/\i<=t.2.2.2.length/\(-1000000000000000*(i:Int)<=s.1/\s.1<=1000000000000000*(i:Int))/\-1000000*(i:Int)<=s.2.1/\s.2.1<=1000000*(i:Int)) (λs=>(t.2.2.2.length-s.2.2).toNat) (by grind) (by simp only;unfold aK;omega) ?_
   rintro⟨a,b,_⟩ ⟨i,rfl,hi,h1,h2⟩
   simp only at h1 h2;dsimp only
   refine Wp.dec (λh=>?_) λh=> .some ⟨by simp only;omega,by grind⟩
   have mO:i<t.2.2.2.length:=by omega
   simp only[aC mO,aqN,sx];have hn:=hw _ (aqS mO);generalize t.2.2.2[i]=x at hn⊢
   obtain⟨T,hT,hTc⟩:∃T:Int,T=(if c<x.2.2.1 then c else x.2.2.1)/\T<=c:=⟨_,rfl,by split<;>omega⟩
   obtain⟨F,hF,hF0⟩:∃F:Int,F=(if x.2.1<(0:Int)then(0:Int)else x.2.1)/\0<=F:=(by grind)
   rw[<-hT,<-hF]
   have next:∀a' b':Int,(-1000000000000000<=a'/\a'<=1000000000000000)->(-1000000<=b'/\b'<=1000000)->∃k:Nat,aqO.wrap ((i:Int)+1)=(k:Int)/\k<=t.2.2.2.length/\i<k/\(-1000000000000000*(k:Int)<=a+a'/\a+a'<=1000000000000000*(k:Int))/\-1000000*(k:Int)<=b+b'/\b+b'<=1000000*(k:Int):=by
    intro a' b' g1 g2;exact⟨i+1,aR (by omega),by omega,by omega,by omega,by omega⟩
   by_cases hg:T<=F\/¬Cn x.1 d
   .have e:((if decide (T<=F)=af then aa af else aa (!decide (Cn x.1 d))):Option Bool)=aa af:=by
     rcases hg with g|g
     .simp[g]
     .simp[g]
    rw[e,aqN];simp only[if_true];refine Wp.join (.some (.some ?_))
    obtain⟨k,q1,q2,q3,q4,q5⟩:=next 0 0 (by omega) (by omega)
    exact⟨⟨k,q1,q2,by simp only;omega,by simp only;omega⟩,by grind⟩
   .have e:((if decide (T<=F)=af then aa af else aa (!decide (Cn x.1 d))):Option Bool)=aa ag:=by
     simp only[not_or,Decidable.not_not]at hg;simp[hg.1,hg.2]
    simp only[not_or,Decidable.not_not]at hg;rw[e,aqN];simp only[aqT,if_false];rw[aE (n:=T-F) (by omega) (by omega)]
    obtain⟨l,W2⟩:∃l:Nat,T-F=l:=⟨(T-F).toNat,by omega⟩
    rw[W2,rM aK (by omega) hn,aqN];have hr:=YT l x.2.2.2;refine Wp.join ?_
    cases(CT l x.2.2.2).2.2 with
    |false=>exact .some trivial
    |true=>
     simp only[arA,aqT,if_false];refine .some (.some ?_)
     obtain⟨k,q1,q2,q3,q4,q5⟩:=next (CT l x.2.2.2).1 (CT l x.2.2.2).2.1 hr.1 hr.2
     refine⟨⟨k,q1,q2,?_,?_⟩,by grind⟩
     .simp only;rw[aE (by omega) (by omega)];exact q4
     .simp only;rw[aE (by omega) (by omega)];exact q5
  grind [P.HW,P.OD,P.qO,P.RB]
end L.P
namespace L.P
def lp(y:Int):Prop:=y%4=0/\(y%100≠0\/y%400=0)
instance(y:Int):Decidable (lp y):=by unfold lp;infer_instance
def yu(y m:Int):Int:=if m=2 then(if lp y then 29 else 28)else if m=4\/m=6\/m=9\/m=11 then 30 else if m=1\/m=3\/m=5\/m=7\/m=8\/m=10\/m=12 then 31 else 0
def To(y:Int):Int:=if lp y then 366 else 365
def ly(y:Int):Int:=y/4-y/100+y/400
def ys(y:Int):Int:=(y-1900)*365+ly (y-1)-460
def ms(y:Int):Nat->Int
 |0=>0
 |k+1=>ms y k+yu y (((k+1:Nat)):Int)
def sy(y m:Int):0<=yu y m/\yu y m<=31:=by grind [P.yu]
def Vw(y:Int){m:Int}(h:1<=m/\m<=12):28<=yu y m:=by grind [P.yu]
theorem L9(y:Int){m:Int}(h:m<1\/12<m):yu y m=0:=by grind [P.yu]
theorem wS(y:Int):ys (y+1)=ys y+To y:=by
 grind [P.To,P.lp,P.ys,P.ly]
theorem ys0:ys 1900=0:=by decide
def zt{y y':Int}(h:y<=y'):ys y<=ys y':=by
 unfold ys ly;omega
def E2(y:Int):365<=To y/\To y<=366:=by unfold To;split<;>omega
def uB(y:Int){i j:Nat}(h:i<=j):ms y i<=ms y j:=by
 induction j with
 |zero=>grind
 |succ j ih=>
  grind [P.ms,P.yu]
theorem HX(y:Int):ms y 12=To y:=by
 unfold To
 by_cases h:lp y<;>simp[ms,yu,h]
def tL(y:Int){i:Nat}(h:i<=12):0<=ms y i/\ms y i<=366:=by
 have h1:=uB y (Nat.zero_le i);have h2:=uB y h;rw[HX]at h2;have:=E2 y;have:ms y 0=0:=rfl;omega
def xS{y:Int}(h:1900<=y/\y<=2200):0<=ys y/\ys y<=109573:=by
 unfold ys ly;omega
def Ma{y d:Int}(hd:d<=109572)(h:ys y<=d):y<=2199:=by
 unfold ys ly at h;omega
def Mb(N:Nat){y:Int}(h:0<=y):M.oZ N y=aa (decide (lp y)):=by
 unfold M.oZ;rw[aq8 h,aq8 h,aq8 h];simp only[aS,aqN,mC,ko]
 grind [P.lp]
theorem HY(N:Nat){y:Int}(h:0<=y):M.pH N y=aa (decide (lp y)):=Mb N h
theorem E3(N:Nat){y:Int}(h:0<=y)(m:Int):M.dE N y m=aa (yu y m):=by
 unfold M.dE;rw[Mb N h];by_cases hm:1<=m/\m<=12
 .have:m=1\/m=2\/m=3\/m=4\/m=5\/m=6\/m=7\/m=8\/m=9\/m=10\/m=11\/m=12:=by omega
  by_cases hl:lp y
  .rcases this with rfl|rfl|rfl|rfl|rfl|rfl|rfl|rfl|rfl|rfl|rfl|rfl<;>simp[yu,hl]<;>rfl
  .rcases this with rfl|rfl|rfl|rfl|rfl|rfl|rfl|rfl|rfl|rfl|rfl|rfl<;>simp[yu,hl]<;>rfl
 .rw[L9 y (by omega)]
  grind
def zu(N:Nat){y:Int}(h:0<=y)(m:Int):M.dS N y m=aa (yu y m):=by
 unfold M.dS yu;rw[HY N h];by_cases h2:m=2
 .grind
 .rw[ai (by simpa using h2),ai h2];by_cases h4:m=4\/m=6\/m=9\/m=11
  .grind
  .rw[ai h4];simp only[not_or]at h4;by_cases h1:m=1\/m=3\/m=5\/m=7\/m=8\/m=10\/m=12
   .rw[aj h1]
    rcases h1 with rfl|rfl|rfl|rfl|rfl|rfl|rfl<;>simp
   grind
def Mc(N:Nat){y:Int}(h:0<=y):M.gC N y=aa (To y):=by
 grind [M.gC,P.To,P.HY]
def SF(N:Nat){y:Int}(h:1900<=y/\y<=2300):M.eM N y=aa (ys y):=by
 unfold M.eM M.kH;rw[aE (n:=y-1) (by omega) (by omega),aq7 (by omega),aq7 (by omega),aq7 (by omega)];simp only[aqN];refine av aa ?_
 have e:∀z:Int,-1000000000<=z->z<=1000000000->aqO.wrap z=z:=λz h1 h2=>aE (by omega) (by omega)
 rw[show aqO.wrap (aqO.wrap (aqO.wrap (aq1 1899 4)-aqO.wrap (aq1 1899 100))+aqO.wrap (aq1 1899 400))=460 by decide];rw[e ((y-1)/4) (by omega) (by omega),e ((y-1)/100) (by omega) (by omega),e ((y-1)/400) (by omega) (by omega),e (y-1900) (by omega) (by omega),e ((y-1900)*365) (by omega) (by omega),e ((y-1)/4-(y-1)/100) (by omega) (by omega),e ((y-1)/4-(y-1)/100+(y-1)/400) (by omega) (by omega),e ((y-1900)*365+((y-1)/4-(y-1)/100+(y-1)/400)) (by omega) (by omega),e _ (by omega) (by omega)];rfl
def Pa(d:Int)(r:Int×Int×Int):Prop:=(1900<=r.1/\r.1<=2199)/\∃j:Nat,r.2.1=((j+1:Nat):Int)/\j<12/\1<=r.2.2/\r.2.2<=yu r.1 ((j+1:Nat):Int)/\d=ys r.1+ms r.1 j+r.2.2-1
def Pa.year{d:Int}{r:Int×Int×Int}(h:Pa d r):ys r.1<=d/\d<ys (r.1+1):=by
 obtain⟨h1,j,h2,h3,h4,h5,h6⟩:=h;have a:=tL r.1 (i:=j) (by omega);have b:=uB r.1 (show j+1<=12 by omega)
 grind [P.HX,P.ms,P.wS]
def Pa.J5{d:Int}{r s:Int×Int×Int}(h:Pa d r)(g:Pa d s):r=s:=by
 have hy:r.1=s.1:=by
  have a:=h.year;have b:=g.year
  rcases Int.lt_trichotomy r.1 s.1 with c|c|c
  .have:=zt (show r.1+1<=s.1 by omega);omega
  .exact c
  .have:=zt (show s.1+1<=r.1 by omega);omega
 obtain⟨y,m,k⟩:=r;obtain⟨y',m',k'⟩:=s;simp only at hy;subst hy;obtain⟨h1,j,h2,h3,h4,h5,h6⟩:=h;obtain⟨g1,i,g2,g3,g4,g5,g6⟩:=g;simp only at h1 h2 h3 h4 h5 h6 g1 g2 g3 g4 g5 g6
 have hj:j=i:=by
  rcases Nat.lt_trichotomy j i with c|c|c
  .have a:ms y (j+1)=ms y j+yu y ((j+1:Nat):Int):=rfl;have b:=uB y (show j+1<=i from c);omega
  .exact c
  .have a:ms y (i+1)=ms y i+yu y ((i+1:Nat):Int):=rfl;have b:=uB y (show i+1<=j from c);omega
 grind
def dv(d:Int):((if(decide ((0:Int)<=d))=af then aa (decide (d<=(109572:Int)))else aa ag):Option Bool)=aa (decide (0<=d/\d<=109572)):=by
 grind
theorem Bg(N:Nat)(d:Int):M.jB N d=aa (decide (0<=d/\d<=109572)):=by
 unfold M.jB;rw[dv];rfl
theorem oz(N:Nat)(d:Int):M.kS N d=aa (decide (0<=d/\d<=109572)):=by
 unfold M.kS;rw[dv];rfl
def uC{d:Int}(hd:0<=d/\d<=109572):Wp (M.eN aK d) (Pa d):=by
 unfold M.eN;rw[Bg,aqN,ai (by simpa using hd),aq7 hd.1,aE (n:=d/366) (by omega) (by omega),aE (n:=1900+d/366) (by omega) (by omega)]
 refine Wp.seq (λy=>(1900<=y/\y<=2199)/\ys y<=d/\d<ys (y+1)) (Wp.loop (λy:Int=>(1900<=y/\y<=2199)/\ys y<=d) (λy=>(2199-y).toNat) ⟨by omega,by unfold ys ly;omega⟩ (by unfold aK;omega) ?_) λy hy=>?_
 .rintro y ⟨h1,h2⟩
  rw[aE (by omega) (by omega),SF aK (by omega),aqN]
  refine Wp.dec (λh=> .some ?_) λh=> .some ⟨h1,h2,by omega⟩
  have:=Ma hd.2 h;exact⟨⟨by omega,h⟩,by grind⟩
 .obtain⟨h1,h2,h3⟩:=hy;have hr:=xS (y:=y) (by omega);rw[SF aK (by omega),aqN,aE (n:=d-ys y) (by omega) (by omega)];refine Wp.loop (λs:Int×Int=>∃i:Nat,s.2=i/\i<=12/\s.1=d-ys y-ms y i/\0<=s.1) (λs=>(12-s.2).toNat) ⟨0,rfl,by omega,by show d-ys y=d-ys y-0;omega,by grind⟩ (by simp only;unfold aK;omega) ?_
  rintro⟨a,b⟩ ⟨i,hi,rN,ha,h0⟩
  simp only at hi ha h0;subst hi ha;have hm:=tL y rN;have e:=wS y
  refine Wp.dec (λh=>?_) λh=>?_
  .have hi:i<12:=by simp only at h;omega
   rw[aR (by omega),E3 aK (by omega),aqN];have O7:=sy y ((i+1:Nat):Int)
   refine Wp.dec (λg=> .some ?_) λg=> .some ?_
   .simp only at g;refine⟨h1,i,rfl,hi,?_,?_,?_⟩
    all_goals grind [aE]
   .simp only at g⊢;rw[aE (by omega) (by omega)];refine⟨⟨i+1,rfl,hi,?_,by simp only;omega⟩,by grind⟩
    grind [P.ms]
  .have:i=12:=by simp only at h;omega
   grind [P.HX]
def BW{d:Int}(hd:0<=d/\d<=109572):Wp (M.ju aK d) (Pa d):=by
 unfold M.ju;rw[oz,aqN,ai (by simpa using hd)]
 refine Wp.seq (λs:Int×Int=>(1900<=s.2/\s.2<=2199)/\s.1=d-ys s.2/\0<=s.1/\s.1<To s.2) (Wp.loop (λs:Int×Int=>(1900<=s.2/\s.2<=2199)/\s.1=d-ys s.2/\0<=s.1) (λs=>(2199-s.2).toNat) ⟨(by grind),by show d=d-ys 1900;rw[ys0];omega,hd.1⟩ (by simp only;unfold aK;omega) ?_) λs hs=>?_
 .rintro⟨t,y⟩ ⟨h1,h2,h3⟩
  simp only at h1 h2 h3⊢;subst h2;have e:=wS y;have hr:=xS (y:=y) (by omega);have hdy:=E2 y;rw[Mc aK (by omega),aqN]
  refine Wp.dec (λh=>?_) λh=> .some ⟨h1,rfl,h3,by grind⟩
  rw[aqN];refine .some ?_;rw[aE (by omega) (by omega),aE (by omega) (by omega)];have:=Ma (y:=y+1) hd.2 (by omega);exact⟨⟨by simp only;omega,by simp only;omega,by simp only;omega⟩,by grind⟩
 .obtain⟨t,y⟩:=s;obtain⟨h1,h2,h3,h4⟩:=hs;simp only at h1 h2 h3 h4⊢;subst h2;have hr:=xS (y:=y) (by omega)
  refine Wp.seq (λs:Int×Int=>∃i:Nat,s.2=((i+1:Nat):Int)/\i<12/\s.1=d-ys y-ms y i/\0<=s.1/\s.1<yu y ((i+1:Nat):Int)) (Wp.loop (λs:Int×Int=>∃i:Nat,s.2=((i+1:Nat):Int)/\i<12/\s.1=d-ys y-ms y i/\0<=s.1) (λs=>(12-s.2).toNat) ⟨0,rfl,by omega,by show d-ys y=d-ys y-0;omega,by grind⟩ (by simp only;unfold aK;omega) ?_) λs hs=>?_
  .rintro⟨a,b⟩ ⟨i,hi,rN,ha,h0⟩
   simp only at hi ha h0⊢;subst hi ha;have hm:=tL y (i:=i) (by omega);rw[zu aK (by omega),aqN];have O7:=sy y ((i+1:Nat):Int)
   refine Wp.dec (λg=>?_) λg=> .some ⟨i,rfl,rN,rfl,h0,by grind⟩
   rw[aqN];refine .some ?_;rw[aE (by omega) (by omega),aR (by omega)];have Nz:ms y (i+1)=ms y i+yu y ((i+1:Nat):Int):=rfl
   have mO:i+1<12:=by
    rcases Nat.lt_or_ge (i+1) 12 with c|c
    .exact c
    .have:i+1=12:=by omega
     rw[this,HX]at Nz
     grind
   exact⟨⟨i+1,rfl,mO,by simp only;omega,by simp only;omega⟩,by grind⟩
  .obtain⟨a,b⟩:=s;obtain⟨i,hi,rN,ha,h0,h5⟩:=hs;simp only at hi ha h0 h5⊢;subst hi ha;have hm:=tL y (i:=i) (by omega);refine .some ⟨h1,i,rfl,rN,?_,?_,?_⟩
   all_goals grind [aE]
theorem Bh(d:Int):M.eN aK d=M.ju aK d:=by
 by_cases hd:0<=d/\d<=109572
 .obtain⟨r,e,h⟩:=uC hd;obtain⟨s,f,g⟩:=BW hd;rw[e,f,h.J5 g]
 grind [M.eN,M.ju,P.Bg,P.oz]
def Bi(y m k:Int):Prop:=1900<=y/\y<=2199/\1<=m/\m<=12/\1<=k/\k<=yu y m
instance(y m k:Int):Decidable (Bi y m k):=by unfold Bi;infer_instance
def FY(y m k:Int):Int×Int:=if Bi y m k then(ys y+ms y (m-1).toNat+k-1,0)else(0,3)
theorem Kt(y m k:Int):M.lb aK y m k=aa (FY y m k):=by
 apply Wp.eq;unfold M.lb FY
 refine Wp.seq (λj=>j=decide (¬Bi y m k)) ?_ λj hj=>?_
 .unfold Bi
  refine Wp.dec (λ_=> .some (by symm;simp;omega)) λ_=>Wp.dec (λ_=> .some (by symm;simp;omega)) λ_=>Wp.dec (λ_=> .some (by symm;simp;omega)) λh1=>Wp.dec (λ_=> .some (by symm;simp;omega)) λh2=>Wp.dec (λ_=> .some (by grind)) λ_=>?_
  rw[E3 aK (by omega),aqN];refine .some ?_
  grind
 .subst hj;by_cases h:Bi y m k
  .rw[ai (by simpa using h),aj h];obtain⟨h1,h2,h3,h4,h5,h6⟩:=h;have hr:=xS (y:=y) (by omega);rw[SF aK (by omega),aqN,aE (n:=m-1) (by omega) (by omega)]
   refine Wp.seq (λz=>z=ys y+ms y (m-1).toNat) (Wp.loop (λs:Int×Int=>∃i:Nat,s.2=i/\(i:Int)<=m-1/\s.1=ys y+ms y i) (λs=>(m-s.2).toNat) ⟨0,rfl,by omega,by show ys y=ys y+0;omega⟩ (by simp only;unfold aK;omega) ?_) λz hz=>?_
   .rintro⟨a,b⟩ ⟨i,hi,rN,ha⟩
    simp only at hi ha⊢;subst hi ha
    refine Wp.dec (λg=>?_) λg=> .some ?_
    .have hm:=tL y (i:=i) (by omega);have O7:=sy y ((i+1:Nat):Int);rw[aR (by omega),E3 aK (by omega),aqN];refine .some ?_;rw[aE (by omega) (by omega)];refine⟨⟨i+1,rfl,by omega,?_⟩,by grind⟩
     grind [P.ms]
    .show _=_
     grind
   .subst hz;have hm:=tL y (i:=(m-1).toNat) (by omega);have O7:=sy y m;rw[aE (n:=ys y+ms y (m-1).toNat+k) (by omega) (by omega),aE (by omega) (by omega)];exact .some rfl
  .rw[aj (by simpa using h),ai h];exact .some rfl
def HZ(y m k:Int):M.oM aK y m k=aa (FY y m k):=by
 apply Wp.eq;unfold M.oM FY
 refine Wp.seq (λj=>j=decide (¬Bi y m k)) ?_ λj hj=>?_
 .unfold Bi
  refine Wp.dec (λ_=> .some (by symm;simp;omega)) λ_=>Wp.dec (λ_=> .some (by symm;simp;omega)) λ_=>Wp.dec (λ_=> .some (by grind)) λh1=>?_
  rw[zu aK (by omega),aqN];refine .some ?_
  grind [P.L9]
 .subst hj;by_cases h:Bi y m k
  .rw[ai (by simpa using h),aj h];obtain⟨h1,h2,h3,h4,h5,h6⟩:=h;have O7:=sy y m;have hr:=xS (y:=y) (by omega);rw[aE (n:=k-1) (by omega) (by omega)]
   refine Wp.seq (λz=>z=ys y+k-1) (Wp.loop (λs:Int×Int=>(1900<=s.2/\s.2<=y)/\s.1=ys s.2+k-1) (λs=>(y-s.2).toNat) ⟨⟨by show(1900:Int)<=1900;omega,h1⟩,by grind [P.ys0]⟩ (by simp only;unfold aK;omega) ?_) λz hz=>?_
   .rintro⟨a,b⟩ ⟨hb,ha⟩
    simp only at hb ha⊢;subst ha
    refine Wp.dec (λg=>?_) λg=> .some ?_
    .have hq:=xS (y:=b) (by omega);have hdy:=E2 b;have e:=wS b;rw[Mc aK (by omega),aqN];refine .some ?_;rw[aE (by omega) (by omega),aE (by omega) (by omega)];exact⟨⟨by simp only;omega,by simp only;omega⟩,by grind⟩
    .show _=_
     grind
   .subst hz;refine Wp.loop (λs:Int×Int=>∃i:Nat,s.2=((i+1:Nat):Int)/\(i:Int)<=m-1/\s.1=ys y+k-1+ms y i) (λs=>(m-s.2).toNat) ⟨0,rfl,by omega,by show ys y+k-1=ys y+k-1+0;omega⟩ (by simp only;unfold aK;omega) ?_
    rintro⟨a,b⟩ ⟨i,hi,rN,ha⟩
    simp only at hi ha⊢;subst hi ha
    refine Wp.dec (λg=>?_) λg=> .some ?_
    .have hm:=tL y (i:=i) (by omega);have O7:=sy y ((i+1:Nat):Int);rw[zu aK (by omega),aqN];refine .some ?_;rw[aE (by omega) (by omega),aR (by omega)];refine⟨⟨i+1,rfl,by omega,?_⟩,by grind⟩
     grind [P.ms]
    .show _=_
     grind
  .rw[aj (by simpa using h),ai h];exact .some rfl
def xT(r:Int×Int×Int)(n:Int):Int×Int:=
 if(r.1-1900)*12+r.2.1-1+n<0\/3599<(r.1-1900)*12+r.2.1-1+n then(0,3)else
  FY (1900+((r.1-1900)*12+r.2.1-1+n)/12) (((r.1-1900)*12+r.2.1-1+n)%12+1) (if yu (1900+((r.1-1900)*12+r.2.1-1+n)/12) (((r.1-1900)*12+r.2.1-1+n)%12+1)<r.2.2 then yu (1900+((r.1-1900)*12+r.2.1-1+n)/12) (((r.1-1900)*12+r.2.1-1+n)%12+1)else r.2.2)
def OF(d n:Int):Prop:=(0<=d/\d<=109572)/\-3600<=n/\n<=3600
def Ia(d n:Int):((if(!decide (0<=d/\d<=109572))=af then aa af else(if(decide (n<(-3600:Int)))=af then aa af else aa (decide ((3600:Int)<n)))):Option Bool)=aa (decide (¬((0<=d/\d<=109572)/\-3600<=n/\n<=3600))):=by
 grind
def Pa.mon{d:Int}{r:Int×Int×Int}(h:Pa d r):1<=r.2.1/\r.2.1<=12/\1<=r.2.2/\r.2.2<=31:=by
 obtain⟨h1,j,h2,h3,h4,h5,h6⟩:=h;have:=sy r.1 ((j+1:Nat):Int);omega
def wT(d n:Int):(OF d n/\∃r,Pa d r/\M.eN aK d=aa r/\M.dq aK d n=aa (xT r n))\/(¬OF d n/\M.dq aK d n=aa (0,3)):=by
 unfold M.dq;rw[Bg,aqN,Ia,aqN];by_cases h:(0<=d/\d<=109572)/\-3600<=n/\n<=3600
 .refine .inl ⟨h,?_⟩;rw[ai (by simp;omega)];obtain⟨⟨y,m,k⟩,e,hr⟩:=uC h.1;refine⟨_,hr,e,?_⟩;rw[e,aqN];have hy:=hr.1;have hm:=hr.mon;simp only at hy hm⊢
  have w:∀z:Int,-1000000000<=z->z<=1000000000->aqO.wrap z=z:=λz h1 h2=>aE (by omega) (by omega)
  rw[w (y-1900) (by omega) (by omega),w ((y-1900)*12) (by omega) (by omega),w ((y-1900)*12+m) (by omega) (by omega),w ((y-1900)*12+m-1) (by omega) (by omega),w ((y-1900)*12+m-1+n) (by omega) (by omega)];unfold xT;simp only[aS,mC,aqN]
  grind [P.E3,P.Kt]
 .exact .inr ⟨h,by grind⟩
theorem tM(d n:Int):M.dq aK d n=M.eA aK d n:=by
 have key:∀r:Int×Int×Int,Pa d r->M.eN aK d=aa r->OF d n->M.eA aK d n=aa (xT r n):=by
  rintro⟨y,m,k⟩ hr e h
  unfold M.eA;unfold OF at h;rw[oz,aqN,Ia,aqN,ai (by simp;omega),<-Bh,e,aqN];have hy:=hr.1;have hm:=hr.mon;simp only at hy hm⊢
  have w:∀z:Int,-1000000000<=z->z<=1000000000->aqO.wrap z=z:=λz h1 h2=>aE (by omega) (by omega)
  rw[w (12*y) (by omega) (by omega),w (12*y+m) (by omega) (by omega),w (12*y+m-1) (by omega) (by omega),w (12*y+m-1+n) (by omega) (by omega)]
  obtain⟨K,hK⟩:∃K,K=(y-1900)*12+m-1+n:=⟨_,rfl⟩
  have e1:12*y+m-1+n=K+22800:=by omega
  rw[e1,aq7 (by omega),aq8 (by omega),w ((K+22800)/12) (by omega) (by omega),w ((K+22800)%12+1) (by omega) (by omega),zu aK (by omega),aqN,HZ,aqN]
  have e2:(K+22800)/12=1900+K/12:=by omega
  have e3:(K+22800)%12=K%12:=by omega
  rw[e2,e3];unfold xT;simp only;rw[<-hK];by_cases c:K<0\/3599<K
  .grind [P.FY,P.Bi]
  .rw[ai c]
 rcases wT d n with⟨h,r,hr,e,f⟩|⟨h,f⟩
 all_goals grind [M.eA,P.OF,P.oz]
def uD{a:Int}{r:Int×Int×Int}(hr:Pa a r)(j:Nat):(r.1+j<=2199/\(xT r (12*j)).2=0/\ys (r.1+j)<=(xT r (12*j)).1/\(xT r (12*j)).1<ys (r.1+j+1)/\(j=0->(xT r (12*j)).1=a))\/(2199<r.1+j/\(xT r (12*j)).2=3):=by
 obtain⟨y,m,k⟩:=r;obtain⟨h1,i,h2,h3,h4,h5,h6⟩:=hr;simp only at h1 h2 h3 h4 h5 h6⊢;subst h2;unfold xT;simp only
 obtain⟨K,hK⟩:∃K,K=(y-1900)*12+((i+1:Nat):Int)-1+12*(j:Int):=⟨_,rfl⟩
 rw[<-hK];by_cases c:K<0\/3599<K
 .grind
 .rw[ai c]
  have e1:1900+K/12=y+j:=by omega
  have e2:K%12+1=((i+1:Nat):Int):=by omega
  rw[e1,e2];have p:=Vw (y+j) (m:=((i+1:Nat):Int)) (by omega)
  obtain⟨k',jn,q1,q2,q3⟩:∃k',k'=(if yu (y+j) ((i+1:Nat):Int)<k then yu (y+j) ((i+1:Nat):Int)else k)/\1<=k'/\k'<=yu (y+j) ((i+1:Nat):Int)/\(j=0->k'=k):=by
   grind
  rw[<-jn];unfold FY;rw[aj (by unfold Bi;omega)];refine .inl ⟨by omega,rfl,?_,?_,?_⟩
  .simp only;rw[show(((i+1:Nat):Int)-1).toNat=i by omega];have:=tL (y+j) (i:=i) (by omega);omega
  .simp only;rw[show(((i+1:Nat):Int)-1).toNat=i by omega];have b:=uB (y+j) (show i+1<=12 by omega)
   grind [P.HX,P.ms,P.wS]
  grind
theorem wU(a b:Int):M.eP aK a b=M.gR aK a b:=by
 unfold M.eP M.gR;rw[Bg,Bg,oz,oz];simp only[aqN];by_cases ha:0<=a/\a<=109572
 case neg=>
  grind
 by_cases hb:0<=b/\b<=109572
 case neg=>
  grind
 rw[an ha,an hb];simp only[arA,aqT,if_false,aqN];obtain⟨r,er,hr⟩:=uC ha;obtain⟨s,es,hs⟩:=uC hb;have hry:=hr.1;have hsy:=hs.1;have hra:=hr.year;have UH:=hs.year
 have am:∀j:Nat,j<=300->M.dq aK a (12*(j:Int))=aa (xT r (12*j)):=by
  intro j hj
  rcases wT a (12*j)with⟨_,r',_,e',f⟩|⟨h,_⟩
  .grind
  .grind [P.OF]
 have loop:∀n:Nat,n<=299->(∀j:Nat,1<=j->j<=n->(xT r (12*j)).2=0/\(xT r (12*j)).1<=b)->¬((xT r (12*((n+1:Nat):Int))).2=0/\(xT r (12*((n+1:Nat):Int))).1<=b)->
  (Loop (S:=Int) (X:=Int) (λs4=>(M.eA aK a (aqO.wrap ((12:Int)*(aqO.wrap (s4+(1:Int)))))).bind λy5=>((if(!decide (y5.2=(0:Int)))=af then aa af else aa (decide (b<y5.1))):Option (Bool)).bind λj6=>
    (if j6=af then aa (arM s4)else aa (Sum.inl (aqO.wrap (s4+(1:Int)))))) aK (0:Int))=aa (n:Int):=by
  intro n hn h1 h2;apply Wp.eq;refine Wp.loop (λs:Int=>∃k:Nat,s=k/\k<=n) (λs=>(n-s).toNat) ⟨0,rfl,Nat.zero_le _⟩ (by unfold aK;omega) ?_
  rintro _ ⟨k,rfl,hk⟩
  rw[aR (by omega),aE (by omega) (by omega),<-tM,am (k+1) (by omega),aqN];by_cases c:(xT r (12*((k+1:Nat):Int))).2=0/\(xT r (12*((k+1:Nat):Int))).1<=b
  .have BD:k<n:=by
    rcases Nat.lt_or_ge k n with g|g
    .exact g
    .grind
   rw[ai (by rw[an c.1];decide),aqN,ai (by rw[ao (Int.not_lt.2 c.2)];decide)];exact .some ⟨⟨k+1,rfl,BD⟩,by grind⟩
  .have BD:k=n:=by
    rcases Nat.lt_or_ge k n with g|g
    .grind
    .omega
   subst BD;by_cases c1:(xT r (12*((k+1:Nat):Int))).2=0
   .rw[ai (by rw[an c1];decide),aqN,aj (an (Int.not_le.1 λg=>c ⟨c1,g⟩))];exact .some rfl
   .rw[aj (by simpa using c1),aqN,aj rfl];exact .some rfl
 by_cases PZ:b<a
 .rw[aj (by simpa using PZ)]
  have:=loop 0 (by omega) (λj h1 h2=>by omega) (by
   rintro⟨c1,c2⟩
   rcases uD hr 1 with⟨_,_,h3,_⟩|⟨_,h3⟩
   all_goals grind)
  exact this.symm
 .rw[ai (by simpa using PZ),er,es,aqN,aqN,aE (n:=s.1-r.1) (by omega) (by omega)]
  have hle:r.1<=s.1:=by
   rcases asp s.1 r.1 with c|c
   .have:=zt (show s.1+1<=r.1 by omega);omega
   .exact c
  obtain⟨Y,hY⟩:∃Y:Nat,s.1-r.1=Y:=⟨(s.1-r.1).toNat,by omega⟩
  have hY3:Y<=299:=by omega
  rw[hY,aE (n:=12*(Y:Int)) (by omega) (by omega),am Y (by omega),aqN]
  have low:∀j:Nat,1<=j->j<Y->(xT r (12*j)).2=0/\(xT r (12*j)).1<=b:=by
   intro j h1 h2
   rcases uD hr j with⟨_,g2,_,g4,_⟩|⟨g1,_⟩
   .have:=zt (show r.1+j+1<=s.1 by omega)
    grind
   .omega
  have high:¬((xT r (12*((Y+1:Nat):Int))).2=0/\(xT r (12*((Y+1:Nat):Int))).1<=b):=by
   rintro⟨c1,c2⟩
   rcases uD hr (Y+1)with⟨_,_,g3,_⟩|⟨_,g2⟩
   .grind
   .omega
  by_cases c:(xT r (12*(Y:Int))).2=0/\(xT r (12*(Y:Int))).1<=b
  .rw[ai (by rw[an c.1];decide),aqN,ai (by rw[ao (Int.not_lt.2 c.2)];decide),aqN,ai (by omega)]
   grind
  .have qe:1<=Y:=by
    rcases Nat.eq_zero_or_pos Y with g|g
    .subst g
     rcases uD hr 0 with⟨_,g2,_,_,g5⟩|⟨g1,_⟩
     all_goals grind
    .exact g
   have fin:((if(!decide ((xT r (12*(Y:Int))).2=(0:Int)))=af then aa af else aa (decide (b<(xT r (12*(Y:Int))).1))):Option Bool)=aa af:=by
    by_cases c1:(xT r (12*(Y:Int))).2=0
    .grind
    .grind
   rw[fin,aqN,aj rfl,aqN,aE (by omega) (by omega),ai (by omega)];have:=loop (Y-1) (by omega) (λj h1 h2=>low j h1 (by omega)) (by rw[show Y-1+1=Y by omega];exact c);rw[this];refine av aa ?_;omega
end L.P
namespace L.P
theorem Bj(N:Nat)(k:Int):M.ll N k=aa (if k=1 then(0,1)else if k=2 then(-1000000000000,1000000000000)else if k=3 then(-1000000000000000,1000000000000000)else if k=4 then(-1000000000,1000000000)else if k=5 then(0,109572)else if k=6 then(0,15)else(0,-1)):=by
 unfold M.ll;simp only[aS,aw]
theorem fO(N:Nat)(v:Vl):M.cu N v=aa (decide (bK v.1 v.2.1 v.2.2)):=by
 revert v;rintro⟨(k:Int),(e:Int),(n:Int)⟩
 unfold M.cu;rw[Bj];simp only[aS,aqN,mC,ko];refine av aa ?_;by_cases h1:k=1
 .subst h1;rw[art];simp[bK];try(dsimp only[az,Row.den]at*;omega)
 by_cases h2:k=2
 .subst h2;rw[art];simp[bK];try(dsimp only[az,Row.den]at*;omega)
 by_cases h3:k=3
 .subst h3;rw[art];simp[bK];try(dsimp only[az,Row.den]at*;omega)
 by_cases h4:k=4
 .subst h4;rw[art];simp[bK];try(dsimp only[az,Row.den]at*;omega)
 by_cases h5:k=5
 .subst h5;rw[art];simp[bK];try(dsimp only[az,Row.den]at*;omega)
 by_cases h6:k=6
 .subst h6;rw[art];simp[bK];try(dsimp only[az,Row.den]at*;omega)
 simp[bK,h1,h2,h3,h4,h5,h6];try omega
def SG(N:Nat)(v:Vl)(t:Ty):M.uk N v t=aa (decide (Hk v t)):=by
 unfold M.uk;rw[fO];simp only[aS,aqN,ko];refine av aa ?_;rw[art];simp[yo]
def Ib(N:Nat)(op:Int)(t:Ty):M.oH N op t=aa (decide (Vf op t)):=by
 unfold M.oH;simp only[aS,aqN,mC,ko];refine av aa ?_;obtain⟨(k:Int),(e:Int)⟩:=t;rw[art]
 show _↔decide (yR op k e)=af
 unfold yR
 by_cases h0:e=0<;>by_cases h1:op=36<;>by_cases h2:op=39<;>simp[h0,h1,h2]<;>try(dsimp only[az,Row.den]at*;omega)
def wV(N:Nat)(k n:Int):M.cS N k n=aa (if bK k 0 n then((k,0,n),0)else((0,0,0),3)):=by
 unfold M.cS;rw[fO];simp only[aqN];by_cases h:bK k 0 n
 .simp[h]
 .simp[h]
def SH{N:Nat}{op acc n:Int}{first:Bool}(h36:op=36->-9000000000000000000<=acc+n/\acc+n<=9000000000000000000)(h37:op=37->(0<=n/\n<=1)/\0<=acc/\acc<=1)(mR:op=36\/op=37\/op=38\/op=39):M.rZ N op acc n first=aa (fold op acc n first):=by
 unfold M.rZ fold
 rcases mR with rfl|rfl|rfl|rfl
 .have:=h36 rfl;simp[aE (n:=acc+n) (by omega) (by omega)]
 .obtain⟨⟨a1,a2⟩,a3,a4⟩:=h37 rfl
  have b2':n=0\/n=1:=by omega
  have b4':acc=0\/acc=1:=by omega
  rcases b2' with rfl|rfl<;>rcases b4' with rfl|rfl<;>simp[aE]
 .simp only[aS,ar3,decide_false,decide_true,aqT,if_false,if_true]
  by_cases h:acc<n<;>simp[h]
 .simp only[aS,ar3,decide_false,decide_true,aqT,if_false,if_true,aqN,mC]
  by_cases h:first=af\/acc<n
  .rw[aj h,aj (by simpa using h)]
  .rw[ai h,ai (by simpa using h)]
def Md(op:Int)(t:Ty)(j:Nat)(ms:List (List Vl)):Vl×Int:=
 if Vf op t then(if op=39/\ms=[]then((0,0,0),6)else match nW op t j ms af (tG op)with
  | .inl a=>if bK t.1 0 a then((t.1,0,a),0)else((0,0,0),3)
  | .inr c=>((0,0,0),c))else((0,0,0),8)
def Ic{N:Nat}(hN:100001<=N){op:Int}(mR:op=36\/op=37\/op=38\/op=39){j:Nat}{env:b8.den}(hj:j<env.2.2.2.2.1.length)(hm:env.2.2.2.1.length<=100):
 M.oI N (op,(j:Int)) env=aa (Md op env.2.2.2.2.1[j] j env.2.2.2.1):=by
 obtain⟨d,ip,df,ms,ts,tb⟩:=env;simp only at hj hm⊢;apply Wp.eq;unfold M.oI;simp only;rw[aC hj];simp only[aqN,Ib];generalize ts[j]=t;unfold Md;by_cases ht:Vf op t
 case neg=>
  rw[aj (by simp[ht]),ai ht];exact .some rfl
 rw[ai (by simp[ht]),aj ht];have Y8:(t.2:Int)=0:=(show yR op t.1 t.2 from ht).1
 have e1:(if decide (op=37)=af then aa (1:Int)else aa (0:Int))=aa (tG op):=by
  unfold tG;by_cases h:op=37<;>simp[h]
 rw[e1];simp only[aqN,aS,ko,wV]
 refine Wp.join (Wp.loop (λs:Int×Int=>∃k:Nat,∃acc:Int,s=(acc,(k:Int))/\k<=ms.length/\LQ op t (decide (k=0)) acc/\nW op t j (ms.drop k) (decide (k=0)) acc=nW op t j ms af (tG op)) (λs=>(ms.length-s.2).toNat)
  ⟨0,tG op,rfl,Nat.zero_le _,LR mR ht,rfl⟩ (by simp only;omega) ?_)
 rintro _ ⟨k,acc,rfl,hk,Om,hf⟩
 simp only
 refine Wp.dec (λh=>?_) λh=> .some ?_
 case refine_2=>
  have hd:ms.drop k=[]:=List.drop_of_length_le (by omega);rw[hd]at hf
  show Wp _ _
  by_cases Tj:op=39/\ms=[]
  .rw[aj Tj];refine .some ?_;rw[aj (by simpa using Tj)]
  .rw[ai Tj,<-hf];refine .some ?_;rw[ai (by simpa using Tj)];simp only[nW]
 have jn:k<ms.length:=by omega
 have eG:¬(op=39/\ms=[]):=λh=>by rw[h.2]at jn;simp at jn
 rw[ai eG];have hd:ms.drop k=ms[k]::ms.drop (k+1):=aqZ jn;rw[hd]at hf;rw[aC jn];simp only[aqN];rw[nW]at hf;by_cases hl:j<ms[k].length
 .rw[aqR hl]at hf;simp only at hf;rw[aC hl];simp only[aqN,aS,mC,SG];generalize ms[k][j]=v at hf⊢;by_cases hv:(v.1:Int)=0
  .rw[aj hv]at hf;rw[aj (by simp[hv])];refine .some ?_
   show _=_
   rw[<-hf]
  .rw[ai hv]at hf;rw[ai (by simp[hv];omega)];by_cases hh:Hk v t
   .rw[aj hh]at hf;rw[ai (by simp[hh])]
    obtain⟨hp,Ug,VK⟩:=(show yo _ _ _ _ _ from hh)
    have Wx:(op=36->-9000000000000000000<=acc+v.2.2/\acc+v.2.2<=9000000000000000000)/\(op=37->(0<=(v.2.2:Int)/\(v.2.2:Int)<=1)/\0<=acc/\acc<=1):=by
     have h1:=(show yR op t.1 t.2 from ht).2
     have h2:op≠39->bK t.1 0 acc:=λeG=>by
      rcases Om with h|h
      .exact absurd h.1 eG
      .exact h
     rw[Ug]at hp;revert h1 h2 hp;generalize(v.2.2:Int)=n;generalize(v.2.1:Int)=ve;generalize(t.1:Int)=tk;intro h3 h1 h2;refine⟨λe=>?_,λe=>?_⟩
     .have h2:=h2 (by omega);unfold bK at h2 h3;dsimp only[az,Row.den]at*;omega
     .subst e;have h2:=h2 (by omega);unfold bK at h2 h3;simp at h1;dsimp only[az,Row.den]at*;omega
    rw[show(decide ((k:Int)=0))=decide (k=0)from by rw[decide_eq_decide];omega];rw[SH Wx.1 Wx.2 mR];simp only[aqN];by_cases uP:bK t.1 0 (fold op acc v.2.2 (decide (k=0)))
    .rw[aj uP]at hf⊢;simp only[decide_true,arA,aqT,if_false];rw[aR (by omega)];refine .some ⟨⟨k+1,_,rfl,jn, .inr uP,?_⟩,by simp only;omega⟩;rw[show decide (k+1=0)=ag by simp];exact hf
    .rw[ai uP]at hf⊢;simp only[ar3,decide_false,Bool.not_false,if_true];refine .some ?_
     show _=_
     rw[<-hf]
   .rw[ai hh]at hf;rw[aj (by simp[hh])];refine .some ?_
    show _=_
    rw[<-hf]
 .rw[List.getElem?_eq_none (by omega)]at hf;rw[aj (by simp;omega)];refine .some ?_
  show _=_
  rw[<-hf]
def Dl(N:Nat)(op:Int)(mR:35<=op/\op<=39):M.fX N op=aa 0:=by
 have:op=35\/op=36\/op=37\/op=38\/op=39:=by omega
 rcases this with rfl|rfl|rfl|rfl|rfl<;>(show(_:Option _)=_;kernel_rfl)
def BX(N:Nat)(op:Int)(mR:35<=op/\op<=39):M.gw N op=aa 0:=by
 have:op=35\/op=36\/op=37\/op=38\/op=39:=by omega
 rcases this with rfl|rfl|rfl|rfl|rfl<;>(show(_:Option _)=_;kernel_rfl)
def SI(N:Nat)(op:Int)(mR:35<=op/\op<=39):M.iI N op=aa (!decide (op=35)):=by
 have:op=35\/op=36\/op=37\/op=38\/op=39:=by omega
 rcases this with rfl|rfl|rfl|rfl|rfl<;>(show(_:Option _)=_;kernel_rfl)
def Ie(N:Nat)(op:Int)(mR:35<=op/\op<=39):M.lW N op=aa (!decide (op=35)):=by
 have:op=35\/op=36\/op=37\/op=38\/op=39:=by omega
 rcases this with rfl|rfl|rfl|rfl|rfl<;>(show(_:Option _)=_;kernel_rfl)
def Ku(N:Nat)(op n:Int)(mR:35<=op/\op<=39):M.fh N (op,n)=aa (!(decide (op=35)&& !decide (n=0))):=by
 unfold M.fh;simp only[Dl N op mR,SI N op mR]
 have:op=35\/op=36\/op=37\/op=38\/op=39:=by omega
 rcases this with rfl|rfl|rfl|rfl|rfl<;>by_cases h:n=0<;>simp[h]
def Kv(N:Nat)(op n:Int)(mR:35<=op/\op<=39):M.lm N (op,n) 0=aa (!(decide (op=35)&& !decide (n=0))):=by
 unfold M.lm;simp only[BX N op mR,Ie N op mR]
 have:op=35\/op=36\/op=37\/op=38\/op=39:=by omega
 rcases this with rfl|rfl|rfl|rfl|rfl<;>by_cases h:n=0<;>simp[h]
def Kw(N:Nat)(op n:Int)(env:b8.den)(mR:35<=op/\op<=39):M.kG N (op,n) env=aa (decide (op=35)||(decide (0<=n)&&decide (n<(env.2.2.2.2.1.length:Int)))):=by
 unfold M.kG
 have:op=35\/op=36\/op=37\/op=38\/op=39:=by omega
 rcases this with rfl|rfl|rfl|rfl|rfl<;>by_cases h:0<=n<;>simp[h]
def OG(N:Nat)(op n:Int)(env:b8.den)(mR:35<=op/\op<=39):M.o4 N (op,n) env=aa (decide (op=35)||(decide (0<=n)&&decide (n<(env.2.2.2.2.1.length:Int)))):=by
 unfold M.o4
 have:op=35\/op=36\/op=37\/op=38\/op=39:=by omega
 rcases this with rfl|rfl|rfl|rfl|rfl<;>by_cases h:0<=n<;>simp[h]
def all_nil{N:Nat}(hN:100001<=N):M.dO N ([]:List Vl)=aa af:=by
 obtain⟨N,rfl⟩:∃m,N=m+1:=⟨N-1,by omega⟩
 unfold M.dO Loop;simp
def Vx(op n:Int)(env:b8.den):Vl×Int:=
 if op=35 then(if n=0 then((2,0,(env.2.2.2.1.length:Int)),0)else((0,0,0),2))else match env.2.2.2.2.1[n.toNat]? with
  |some t=>if 0<=n then Md op t n.toNat env.2.2.2.1 else((0,0,0),6)
  |none=>((0,0,0),6)
def Dm{op:Int}{t:Ty}{j:Nat}:{ms:List (List Vl)}->{first:Bool}->{acc c:Int}->nW op t j ms first acc= .inr c->c=3\/c=6\/c=8
 |[],_,_,_,h=>by cases h
 |l::ms,first,acc,c,h=>by
  rw[nW]at h;split at h
  .cases h;exact .inr (.inl rfl)
  .split at h
   .cases h;exact .inr (.inl rfl)
   .split at h
    .split at h
     .exact Dm h
     .cases h;exact .inl rfl
    .cases h;exact .inr (.inr rfl)
def OH{N:Nat}(hN:100001<=N)(op n:Int)(env:b8.den)(mR:35<=op/\op<=39)(hm:env.2.2.2.1.length<=100):M.gN N (op,n) ([]:List Vl) env=aa (Vx op n env):=by
 unfold M.gN;simp only[Ku N op n mR,Dl N op mR,Kw N op n env mR,all_nil hN,aqN,aS,mC];unfold Vx;by_cases Lv:op=35
 .subst Lv;by_cases h0:n=0
  .subst h0
   have e1:M.bX N ((35:Int),(0:Int)) ([]:List Vl) env=aa af:=by unfold M.bX;simp
   have e2:M.cn N ((35:Int),(0:Int)) ([]:List Vl) env=aa ((2,0,(env.2.2.2.1.length:Int)),0):=by unfold M.cn;simp
   have e3:bK 2 0 (env.2.2.2.1.length:Int):=by unfold bK;omega
   simp[e1,e2,db,e3]
  .simp[h0]
 .have SJ:op=36\/op=37\/op=38\/op=39:=by omega
  have e1:M.bX N (op,n) ([]:List Vl) env=(idx env.2.2.2.2.1 n).bind λx=>M.gJ N op x:=by
   unfold M.bX
   rcases SJ with rfl|rfl|rfl|rfl<;>simp
  have e2:M.cn N (op,n) ([]:List Vl) env=M.gB N (op,n) env:=by
   unfold M.cn
   rcases SJ with rfl|rfl|rfl|rfl<;>simp<;>(cases M.gB N _ env<;>rfl)
  by_cases hn:0<=n
  .obtain⟨j,rfl⟩:∃j:Nat,n=j:=⟨n.toNat,by omega⟩
   by_cases hj:j<env.2.2.2.2.1.length
   .rw[e1,e2,aC hj];simp only[aqN,rK,aqX,aqR hj,aj hn,Md];by_cases ht:Vf op env.2.2.2.2.1[j]
    .rw[tH hN SJ hj hm ht,aj ht];unfold Sd
     by_cases Tj:op=39/\env.2.2.2.1=[]
     .obtain⟨rfl,Nz⟩:=Tj;simp[hj,ht,Nz]
     .rw[ai Tj,ai Tj]
      cases hmf:nW op env.2.2.2.2.1[j] j env.2.2.2.1 af (tG op)with
      |inr c=>
       have hc:¬c=0:=by rcases Dm hmf with rfl|rfl|rfl<;>decide
       simp[Lv,hj,ht,hc]
      |inl a=>
       by_cases hp:bK env.2.2.2.2.1[j].1 0 a
       .simp[Lv,hj,ht,db,hp]
       .simp[Lv,hj,ht,db,hp]
    .simp[Lv,hj,ht]
   .simp[Lv,hj]
  .rw[e1,e2]
   cases env.2.2.2.2.1[n.toNat]? <;>simp[Lv,hn]
def BY{N:Nat}(hN:100001<=N)(op n:Int)(env:b8.den)(mR:35<=op/\op<=39)(hm:env.2.2.2.1.length<=100):M.kT N (op,n) ([]:List Vl) env=aa (Vx op n env):=by
 obtain⟨N,rfl⟩:∃m,N=m+1:=⟨N-1,by omega⟩
 unfold M.kT;simp only[List.length_nil,Int.ofNat_zero,Kv _ op n mR,OG _ op n env mR,aqN];unfold Loop;simp only[bS,Int.lt_irrefl,decide_false,aqT,if_false,aqN,aS,ko,decide_true,if_true];unfold Vx;by_cases Lv:op=35
 .subst Lv;by_cases h0:n=0
  .subst h0
   have e2:M.cO (N+1) ((35:Int),(0:Int)) env=aa ((2,0,(env.2.2.2.1.length:Int)),0):=by
    have e3:bK 2 0 (env.2.2.2.1.length:Int):=by unfold bK;omega
    unfold M.cO;simp[wV,e3]
   simp[e2]
  .simp[h0]
 .have SJ:op=36\/op=37\/op=38\/op=39:=by omega
  by_cases hn:0<=n
  .obtain⟨j,rfl⟩:∃j:Nat,n=j:=⟨n.toNat,by omega⟩
   by_cases hj:j<env.2.2.2.2.1.length
   .rw[Ic hN SJ hj hm];simp only[aqX,aqR hj,aj hn]
    have h1:36<=op:=by omega
    simp[Lv,hj,h1,mR.2]
   .simp[Lv,hj]
  .cases env.2.2.2.2.1[n.toNat]? <;>simp[Lv,hn]
end L.P
end Go.Proofs.YtfeahmiobbjklaaGreatDoor
