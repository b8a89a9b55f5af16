/- Joined texts: TA TB TC TD TE TF TG TH TJ TT TU TV. -/
import Derived.Test.YtbladfbbhijpmaaGreatU10
section
open _root_.BitVec renaming ofInt->ZA
open _root_.Bool renaming false_eq_true->YW
open _root_.Go.Proofs renaming ltOf->Zn
open _root_.Go.IntKind renaming i64->YC,u64->YG
open _root_.Nat renaming eq_of_testBit_eq->ZT,lt_of_lt_of_le->Y8
open _root_.Option renaming bind_some->YB
namespace Go.Proofs.YtbladfbbhijpmaaGreat
open Go Go.RowKit
set_option maxRecDepth 100000
namespace L
def dR(a b:Nat):Nat:=a ^^^(a&&& b)
theorem bD(a b i:Nat):(dR a b).testBit i=(a.testBit i&& !b.testBit i):=by
 unfold dR;rw[Nat.testBit_xor,Nat.testBit_and]
 cases a.testBit i<;>cases b.testBit i<;>rfl
theorem iC{a:Nat}(h:a<9223372036854775808):(ZA 64 (a:Int)).toNat=a:=by
 rw[BitVec.ofInt_natCast,BitVec.toNat_ofNat];exact Nat.mod_eq_of_lt (by omega)
theorem wrap_i64{x:Nat}(h:x<9223372036854775808):YC.wrap (x:Int)=(x:Int):=EY (by omega)
theorem Fm{a b:Nat}(ha:a<9223372036854775808)(hb:b<9223372036854775808):al .and .i64 (a:Int) (b:Int)=((a&&& b:Nat):Int):=by
 show YC.wrap ((ZA 64 (a:Int)&&& ZA 64 (b:Int)).toNat:Int)=_
 rw[BitVec.toNat_and,iC ha,iC hb,wrap_i64 (Nat.lt_of_le_of_lt Nat.and_le_left ha)]
theorem Nc{a b:Nat}(ha:a<9223372036854775808)(hb:b<9223372036854775808):al .xor .i64 (a:Int) (b:Int)=((a ^^^ b:Nat):Int):=by
 show YC.wrap ((ZA 64 (a:Int)^^^ ZA 64 (b:Int)).toNat:Int)=_
 have h:a ^^^ b<2 ^ 63:=Nat.xor_lt_two_pow (by omega) (by omega);rw[BitVec.toNat_xor,iC ha,iC hb,wrap_i64 (by omega)]
theorem CC{a b:Nat}(ha:a<9223372036854775808)(hb:b<9223372036854775808):al .andNot .i64 (a:Int) (b:Int)=((dR a b:Nat):Int):=by
 show YC.wrap ((ZA 64 (a:Int)&&& ~~~ZA 64 (b:Int)).toNat:Int)=_
 have h:(ZA 64 (a:Int)&&& ~~~ZA 64 (b:Int)).toNat=dR a b:=by
  apply ZT;intro i;rw[bD,BitVec.testBit_toNat,BitVec.getLsbD_and,BitVec.getLsbD_not,<-BitVec.testBit_toNat,<-BitVec.testBit_toNat,iC ha,iC hb];by_cases hi:i<64
  .simp[hi]
  .have:a.testBit i=false:=Nat.testBit_lt_two_pow (Y8 ha (by have:=Nat.pow_le_pow_right (n:=2) (by omega) (show 63<=i by omega);omega));simp[hi,this]
 have hl:dR a b<=a:=by
  apply Nat.le_of_testBit;intro i;rw[bD]
  cases a.testBit i<;>simp
 rw[h,wrap_i64 (by omega)]
theorem Fo(a b:Nat):dR a b<=a:=by
 apply Nat.le_of_testBit;intro i;rw[bD]
 cases a.testBit i<;>simp
noncomputable def dN(a:Int):Int:=(M.eB 0 (YG.wrap a)).getD 0
theorem uV(N:Nat)(a:Int):M.bV N (YG.wrap a)=some (dN a):=by
 unfold M.bV dN;rfl
def Kc(a b:Int):Int:=if a<b then-1 else if b<a then 1 else 0
theorem nh(N:Nat)(a b:Int):M.cmp_Compare_int N a b=some (Kc a b):=by
 simp only[M.cmp_Compare_int,M.cmp_isNaN_int,YB,decide_true,Bool.not_true,YW,if_false,decide_eq_true_eq,Kc];split
 .rfl
 .split<;>rfl
theorem or_eq(a b c:Int):M.kB bm [a,b,c]=some (if a≠0 then a else if b≠0 then b else c):=by
 unfold M.kB;refine Wp.eq ?_
 refine Wp.count (fun s=>s) 3 (fun k _=>(1<=k->a=0)/\(2<=k->b=0)/\(3<=k->c=0)) (by omega) rfl ⟨by omega,by omega,by omega⟩ fun k s hk hs hJ=>?_
 subst hs
 match k,hk with
 |0,_=>
  refine .dec (fun _=> .bind (.idx 0 rfl (show 0<3 by omega) ?_)) (fun h=>absurd (show(0:Int)<3 by omega) h);refine .pQ (fun h=> .some ?_) (fun h=> .some ?_)
  .show a=_
   rw[if_pos (show a≠0 from h)]
  .exact⟨by omega,by decide,fun _=>h,by omega,by omega⟩
 |1,_=>
  refine .dec (fun _=> .bind (.idx 1 rfl (show 1<3 by omega) ?_)) (fun h=>absurd (show(1:Int)<3 by omega) h);have h0:=hJ.1 (by omega);refine .pQ (fun h=> .some ?_) (fun h=> .some ?_)
  .show b=_
   rw[if_neg (by simpa using h0),if_pos (show b≠0 from h)]
  .exact⟨by omega,by decide,fun _=>h0,fun _=>h,by omega⟩
 |2,_=>
  refine .dec (fun _=> .bind (.idx 2 rfl (show 2<3 by omega) ?_)) (fun h=>absurd (show(2:Int)<3 by omega) h);have h0:=hJ.1 (by omega);have h1:=hJ.2.1 (by omega);refine .pQ (fun h=> .some ?_) (fun h=> .some ?_)
  .show c=_
   rw[if_neg (by simpa using h0),if_neg (by simpa using h1)]
  .exact⟨by omega,by decide,fun _=>h0,fun _=>h1,fun _=>h⟩
 |3,_=>
  have h0:=hJ.1 (by omega);have h1:=hJ.2.1 (by omega);have h2:=hJ.2.2 (by omega);refine .dec (fun h=>absurd h (by simp)) (fun _=> .some ?_)
  show(0:Int)=_
  rw[if_neg (by simpa using h0),if_neg (by simpa using h1),h2]
def Kd(a b c d:Int)(f g:Int):Int:=if f<g then-1 else if g<f then 1 else if a<c then-1 else if c<a then 1 else if b<d then-1 else if d<b then 1 else 0
theorem cmp_eq(a b c d:Int):M.bG bm (a,b) (c,d)=some (Kd a b c d (dN a) (dN c)):=by
 unfold M.bG;rw[uV,YB,uV,YB,nh,YB,nh,YB,nh,YB,or_eq,YB];unfold Kc Kd;dsimp only
 congr 1
 generalize dN a=f;generalize dN c=g;by_cases h1:f<g
 .simp[h1]
 .by_cases h2:g<f
  .simp[h1,h2]
  .by_cases h3:a<c
   .simp[h1,h2,h3]
   .by_cases h4:c<a<;>simp[h1,h2,h3,h4]
def k0(x y:Int×Int):Prop:=dN x.1<dN y.1\/dN x.1=dN y.1/\(x.1<y.1\/x.1=y.1/\x.2<y.2)
theorem uW(x y:Int×Int):Zn (kY fun a b c d=>M.bG bm (a,b) (c,d)) x y=true↔k0 x y:=by
 unfold Zn kY
 show decide ((M.bG bm (x.1,x.2) (y.1,y.2)).getD 0<0)=true↔_
 rw[cmp_eq,Option.getD_some];unfold Kd k0;generalize dN x.1=f;generalize dN y.1=g;rw[decide_eq_true_eq]
 grind
theorem ni(x y:Int×Int):Zn (kY fun a b c d=>M.bG bm (a,b) (c,d)) x y=false↔¬k0 x y:=by
 rw[<-uW];simp
theorem Nd:EQ fun a b c d=>M.bG bm (a,b) (c,d) where
 all a b c d:=⟨_,cmp_eq a b c d⟩
 swo:=⟨fun x=>by rw[ni];unfold k0;omega,fun x y z h1 h2=>by rw[uW]at*;unfold k0 at*;omega,fun x y z h1 h2=>by rw[ni]at*;unfold k0 at*;omega⟩
 tot x y h1 h2:=by
  rw[ni]at*;unfold k0 at*
  refine Prod.ext ?_ ?_<;>omega
end L
end Go.Proofs.YtbladfbbhijpmaaGreat
end
section
open _root_.Bool renaming and_eq_true->Zr
open _root_.Nat renaming eq_of_testBit_eq->ZT,lt_of_lt_of_le->Y8,testBit_or->Z4
namespace Go.Proofs.YtbladfbbhijpmaaGreat
open Go Go.RowKit
set_option maxRecDepth 100000
namespace L
theorem eQ{x m b:Nat}:x&&& m=b↔∀i,(x.testBit i&&m.testBit i)=b.testBit i:=by
 constructor
 .rintro rfl i;rw[Nat.testBit_and]
 .intro h;apply ZT;intro i;rw[Nat.testBit_and];exact h i
theorem ec{b m:Nat}:b&&& m=b↔∀i,b.testBit i=true->m.testBit i=true:=by
 rw[eQ];constructor
 .intro h i hb;have:=h i;rw[hb]at this;simpa using this
 .intro h i
  cases hb:b.testBit i with
  |false=>rfl
  |true=>rw[h i hb];rfl
theorem dh(j i:Nat):(2 ^ j).testBit i=decide (j=i):=Nat.testBit_two_pow
theorem uX{m n:Nat}(h:m<2 ^ n){i:Nat}(hi:m.testBit i=true):i<n:=by
 refine Classical.byContradiction fun g=>?_
 rw[Nat.testBit_lt_two_pow (Y8 h (Nat.pow_le_pow_right (by omega) (by omega)))]at hi;cases hi
def nk(n:Nat)(S:Nat->Prop)(m b:Nat):Prop:=m<2 ^ n/\b&&& m=b/\∀x,x<2 ^ n->x&&& m=b->S x
theorem nk.lt{n:Nat}{S:Nat->Prop}{m b:Nat}(h:nk n S m b):b<2 ^ n:=Nat.lt_of_le_of_lt (by rw[<-h.2.1];exact Nat.and_le_right) h.1
theorem nk.merge{n:Nat}{S:Nat->Prop}{m b j:Nat}(h:nk n S m b)(g:nk n S m (b ^^^ 2 ^ j))(Tp:m.testBit j=true):nk n S (dR m (2 ^ j)) (dR b (2 ^ j)):=by
 refine⟨Nat.lt_of_le_of_lt (Fo _ _) h.1,?_,fun x hx hm=>?_⟩
 .rw[ec];intro i;rw[bD,bD];have:=ec.1 h.2.1 i;intro h2;simp only[Zr]at h2⊢;exact⟨this h2.1,h2.2⟩
 .have hm:=eQ.1 hm;by_cases F9:x.testBit j=b.testBit j
  .refine h.2.2 x hx (eQ.2 fun i=>?_);have h1:=hm i;rw[bD,bD,dh]at h1;by_cases e:j=i
   .subst e;rw[F9,Tp];simp
   .simpa[e]using h1
  .refine g.2.2 x hx (eQ.2 fun i=>?_);have h1:=hm i;rw[bD,bD,dh]at h1;rw[Nat.testBit_xor,dh];by_cases e:j=i
   .subst e;rw[Tp];cases Ym:x.testBit j<;>cases tK:b.testBit j<;>simp_all
   .simpa[e]using h1
theorem nk.wider{n:Nat}{S:Nat->Prop}{m b j:Nat}(h:nk n S m b)(hj:m.testBit j=false)(hn:j<n):nk n S (m|||2 ^ j) b/\nk n S (m|||2 ^ j) (b ^^^ 2 ^ j):=by
 have av:m|||2 ^ j<2 ^ n:=Nat.or_lt_two_pow h.1 (Nat.pow_lt_pow_right (by omega) hn)
 have hb:b.testBit j=false:=by
  cases e:b.testBit j with
  |false=>rfl
  |true=>rw[ec.1 h.2.1 j e]at hj;cases hj
 refine⟨⟨av,?_,fun x hx hm=>h.2.2 x hx (eQ.2 fun i=>?_)⟩,⟨av,?_,fun x hx hm=>h.2.2 x hx (eQ.2 fun i=>?_)⟩⟩
 .rw[ec];intro i hi;rw[Z4,ec.1 h.2.1 i hi];rfl
 .have:=eQ.1 hm i;rw[Z4,dh]at this;by_cases e:j=i
  .subst e;rw[hj,hb];simp
  .simpa[e]using this
 .rw[ec];intro i hi;rw[Nat.testBit_xor,dh]at hi;rw[Z4,dh];by_cases e:j=i
  .simp[e]
  .have:b.testBit i=true:=by simpa[e]using hi
   rw[ec.1 h.2.1 i this];rfl
 .have:=eQ.1 hm i;rw[Z4,dh,Nat.testBit_xor,dh]at this;by_cases e:j=i
  .subst e;rw[hj,hb];simp
  .simpa[e]using this
theorem Ke{m j:Nat}(h:m.testBit j=false):dR (m|||2 ^ j) (2 ^ j)=m:=by
 apply ZT;intro i;rw[bD,Z4,dh];by_cases e:j=i
 .subst e;simp[h]
 .simp[e]
theorem rp{b j:Nat}(h:b.testBit j=false):dR b (2 ^ j)=b:=by
 apply ZT;intro i;rw[bD,dh];by_cases e:j=i
 .subst e;simp[h]
 .simp[e]
theorem HB(b j:Nat):dR (b ^^^ 2 ^ j) (2 ^ j)=dR b (2 ^ j):=by
 apply ZT;intro i;rw[bD,bD,Nat.testBit_xor,dh]
 by_cases e:j=i<;>simp[e]
theorem HC(b j:Nat):b ^^^ 2 ^ j ^^^ 2 ^ j=b:=by rw[Nat.xor_assoc,Nat.xor_self,Nat.xor_zero]
theorem w9{n i:Nat}(h:i<n):(2 ^ n-1).testBit i=true:=by rw[Nat.testBit_two_pow_sub_one];simpa using h
theorem zt{n:Nat}{S:Nat->Prop}{In:Nat->Nat->Prop}(h0:∀x,x<2 ^ n->S x->In (2 ^ n-1) x)
 (hc:∀m b j,j<n->m.testBit j=true->In m b->In m (b ^^^ 2 ^ j)->In (dR m (2 ^ j)) (dR b (2 ^ j))):∀k m b,2 ^ n-m=k->nk n S m b->In m b:=by
 intro k
 induction k using Nat.strongRecOn with
 |_ k ih=>
  intro m b hk h;by_cases hf:∃j,j<n/\m.testBit j=false
  .obtain⟨j,hj,hm⟩:=hf;obtain⟨h1,h2⟩:=h.wider hm hj
   have hgt:m<m|||2 ^ j:=by
    refine Nat.lt_of_le_of_ne Nat.left_le_or fun e=>?_
    have:(m|||2 ^ j).testBit j=true:=by rw[Z4,dh];simp
    rw[<-e,hm]at this;cases this
   have av:=h1.1;have:=hc (m|||2 ^ j) b j hj (by rw[Z4,dh];simp) (ih _ (by omega) _ _ rfl h1) (ih _ (by omega) _ _ rfl h2)
   have hb:b.testBit j=false:=by
    cases e:b.testBit j with
    |false=>rfl
    |true=>rw[ec.1 h.2.1 j e]at hm;cases hm
   rwa [Ke hm,rp hb]at this
  .have hm:m=2 ^ n-1:=by
    apply ZT;intro i;rw[Nat.testBit_two_pow_sub_one];by_cases hi:i<n
    .cases e:m.testBit i with
     |true=>simp[hi]
     |false=>exact absurd ⟨i,hi,e⟩ hf
    .cases e:m.testBit i with
     |true=>exact absurd (uX h.1 e) hi
     |false=>simp[hi]
   subst hm;exact h0 b h.lt (h.2.2 b h.lt h.2.1)
theorem nk.full{n:Nat}{S:Nat->Prop}{x:Nat}(hx:x<2 ^ n)(hS:S x):nk n S (2 ^ n-1) x:=by
 have hp:0<2 ^ n:=Nat.two_pow_pos n;refine⟨by omega,?_,fun y hy he=>?_⟩
 .rw[ec];intro i hi;exact w9 (uX hx hi)
 .have:y&&&(2 ^ n-1)=y:=by rw[ec];intro i hi;exact w9 (uX hy hi)
  rw[this]at he;subst he;exact hS
end L
end Go.Proofs.YtbladfbbhijpmaaGreat
end
section
open _root_.List renaming filter_eq_self->aac,length_append->YV,length_cons->YT,mem_append->YL,mem_cons->YM,mem_cons_of_mem->Zc,mem_cons_self->Zp,mem_filter->Za,mem_range->Y5,pairwise_cons->Y7,range->YI
open _root_.Nat renaming add_mul->Zm,add_zero->ZD,mul_le_mul_right->YX
open _root_.Option renaming bind_some->YB
namespace Go.Proofs.YtbladfbbhijpmaaGreat
open Go Go.RowKit
set_option maxRecDepth 100000
namespace L
abbrev PS:Type:=List (aa.den×Bool)
def In(l:PS)(p:Int×Int):Prop:=(aX aa l p).getD false=true
def uY(a b:Int×Int):Prop:=a.1<b.1\/a.1=b.1/\a.2<b.2
structure gj(l:PS):Prop where
 tr:∀e∈l,e.2=true
 srt:l.Pairwise fun e f=>uY e.1 f.1
theorem uY.trans{a b c:Int×Int}(h:uY a b)(g:uY b c):uY a c:=by unfold uY at*;omega
theorem uY.total{a b:Int×Int}(h:¬uY a b)(g:b≠a):uY b a:=by
 have g:¬(b.1=a.1/\b.2=a.2):=fun e=>g (Prod.ext e.1 e.2)
 unfold uY at*;omega
theorem gy(a b:Int×Int):bP aa a b=true↔a=b:=by
 show decide ((a.1:Int)=b.1/\(a.2:Int)=b.2)=true↔_
 rw[decide_eq_true_eq,Prod.ext_iff]
theorem gU(a b:Int×Int):bP aa a b=false↔a≠b:=by rw[<-Bool.not_eq_true,ne_eq,gy]
theorem tA(a b:Int×Int):D3 aa a b=true↔uY a b:=by
 show decide ((a.1:Int)<b.1\/((a.1:Int)=b.1/\(a.2:Int)<b.2))=true↔_
 rw[decide_eq_true_eq];rfl
theorem gk:{l:PS}->{p:Int×Int}->(∀e∈l,e.2=true)->(In l p↔(p,true)∈l)
 |[],p,_=>by simp[In,aX]
 |q::l,p,h=>by
  have ih:=gk (l:=l) (p:=p) fun e he=>h e (Zc _ he)
  have hq:=h q Zp;unfold In aX;by_cases e:bP aa q.1 p=true
  .rw[if_pos e];have e':=(gy _ _).1 e;have:q=(p,true):=Prod.ext e' hq;simp[this]
  .rw[if_neg e]
   have e':q.1≠p:=fun g=>e ((gy _ _).2 g)
   refine ih.trans ⟨fun g=>Zc _ g,fun g=>?_⟩
   rcases YM.1 g with g|g
   .exact absurd (by rw[<-g]) e'
   .exact g
theorem gj.nil:gj []:=⟨fun e h=>by simp at h, .nil⟩
theorem rq{l:PS}{p:Int×Int}{v:Bool}{e:(Int×Int)×Bool}:e∈vP aa l p v↔e=(p,v)\/e∈l:=by rw[(ma p v l).mem_iff,YM]
theorem xc{p:Int×Int}{v:Bool}:{l:PS}->l.Pairwise (fun e f=>uY e.1 f.1)->(∀e∈l,e.1≠p)->(vP aa l p v).Pairwise fun e f=>uY e.1 f.1
 |[],_,_=>by simp[vP]
 |q::l,h,hn=>by
  obtain⟨h1,h2⟩:=Y7.1 h;unfold vP;by_cases hk:D3 aa p q.1=true
  .rw[if_pos hk];have hk:=(tA _ _).1 hk;refine Y7.2 ⟨fun e he=>?_,h⟩
   rcases YM.1 he with rfl|he
   .exact hk
   .exact hk.trans (h1 e he)
  .rw[if_neg hk]
   have hk:¬uY p q.1:=fun g=>hk ((tA _ _).2 g)
   refine Y7.2 ⟨fun e he=>?_,xc h2 fun e he=>hn e (Zc _ he)⟩
   rcases rq.1 he with rfl|he
   .exact uY.total hk (hn q Zp)
   .exact h1 e he
theorem gj.put{l:PS}(h:gj l)(p:Int×Int):gj (mu aa l p true):=by
 refine⟨fun e he=>?_,xc (h.srt.filter _) fun e he=>?_⟩
 .rcases rq.1 he with rfl|he
  .rfl
  .exact h.tr e (Za.1 he).1
 .have:=(Za.1 he).2;intro e';rw[Bool.not_eq_true',gU]at this;exact this e'
theorem uZ{l:PS}(h:gj l){p q:Int×Int}:In (mu aa l p true) q↔q=p\/In l q:=by
 rw[gk (h.put p).tr,gk h.tr];unfold mu;rw[rq,Za,Bool.not_eq_true',gU];constructor
 .rintro(e|⟨e,_⟩)
  .exact .inl (Prod.ext_iff.1 e).1
  .exact .inr e
 .rintro(rfl|e)
  .exact .inl rfl
  .by_cases g:q=p
   .exact .inl (by rw[g])
   .exact .inr ⟨e,g⟩
theorem HD{l:PS}(h:gj l){p:Int×Int}(hn:¬In l p):(mu aa l p true).length=l.length+1:=by
 unfold mu;refine(ma (K:=aa) p true _).length_eq.trans ?_;rw[YT,aac.2];intro e he;rw[Bool.not_eq_true',gU];intro g;refine hn ((gk h.tr).2 ?_);have:e=(p,true):=Prod.ext g (h.tr e he);rw[<-this];exact he
theorem gj.ext{l m:PS}(h:gj l)(g:gj m)(e:∀p,In l p↔In m p):l=m:=by
 have yh:∀{l:PS},gj l->l.Nodup:=fun h=>h.srt.imp fun g e=>by
  subst e;unfold uY at g;omega
 have hm:∀a:aa.den×Bool,a∈l↔a∈m:=fun a=>by
  constructor
  .intro ha;have:a=(a.1,true):=Prod.ext rfl (h.tr a ha);rw[this]at ha⊢;exact(gk g.tr).1 ((e _).1 ((gk h.tr).2 ha))
  .intro ha;have:a=(a.1,true):=Prod.ext rfl (g.tr a ha);rw[this]at ha⊢;exact(gk h.tr).1 ((e _).2 ((gk g.tr).2 ha))
 refine List.Perm.eq_of_pairwise (le:=fun e f:aa.den×Bool=>uY e.1 f.1) (fun a b _ _ h1 h2=>?_) h.srt g.srt ((List.perm_ext_iff_of_nodup (yh h) (yh g)).2 hm);unfold uY at h1 h2;omega
theorem mo{α:Type}:∀{A B:List α},A.Nodup->(∀x∈A,x∈B)->A.length<=B.length
 |[],_,_,_=>Nat.zero_le _
 |a::A,B,h,hs=>by
  obtain⟨h1,h2⟩:=List.nodup_cons.1 h;obtain⟨s,t,rfl⟩:=List.append_of_mem (hs a Zp)
  have:=mo (A:=A) (B:=s++t) h2 fun x hx=>by
   have:=hs x (Zc _ hx)
   have b8:x≠a:=fun e=>h1 (e▸hx)
   simp only[YL,YM]at this⊢
   rcases this with h|h|h
   .exact .inl h
   .exact absurd h b8
   .exact .inr h
  simp only[YV,YT]at this⊢;omega
theorem gj.len{l:PS}(h:gj l)(k:Nat)(hk:∀p,In l p->∃m b:Nat,p=((m:Int),(b:Int))/\m<k/\b<k):l.length<=k*k:=by
 have:=mo (A:=l.map fun e=>(e.1.1*k+e.1.2:Int)) (B:=(YI (k*k)).map fun x:Nat=>(x:Int)) ?_ fun x hx=>?_
 .simpa using this
 .rw[List.Nodup,List.pairwise_map];refine List.Pairwise.imp_of_mem (fun{e f}he hf av=>?_) h.srt
  have key:∀{e:aa.den×Bool},e∈l->In l e.1:=fun{e}he=>(gk h.tr).2 (by rw[show(e.1,true)=e from Prod.ext rfl (h.tr e he).symm];exact he)
  obtain⟨m,b,e1,h1,h2⟩:=hk _ (key he);obtain⟨m',b',e2,h3,h4⟩:=hk _ (key hf);rw[e1,e2]at av⊢;dsimp only[uY]at av⊢;intro g
  have g:m*k+b=m'*k+b':=by exact_mod_cast g
  have h5:(m*k+b)/k=m:=by rw[Nat.mul_comm,Nat.mul_add_div (by omega),Nat.div_eq_of_lt h2,ZD]
  have h6:(m'*k+b')/k=m':=by rw[Nat.mul_comm,Nat.mul_add_div (by omega),Nat.div_eq_of_lt h4,ZD]
  have:m=m':=by rw[<-h5,<-h6,g]
  subst this;omega
 .obtain⟨e,he,rfl⟩:=List.mem_map.1 hx;have:In l e.1:=(gk h.tr).2 (by rw[show(e.1,true)=e from Prod.ext rfl (h.tr e he).symm];exact he);obtain⟨m,b,e1,h1,h2⟩:=hk _ this;rw[e1];refine List.mem_map.2 ⟨m*k+b,Y5.2 ?_,by simp⟩;have:=YX k (show m+1<=k by omega);rw[Zm]at this;omega
theorem xd{α A R:Type}{l0:List (aa.den×α)}{fin:List (aa.den×α)×List (aa.den×α)×A->Option R}{step:List (aa.den×α)×List (aa.den×α)×A->(aa.den×α)->Option A}(I:List (aa.den×α)->A->Prop){Nf:R->Prop}(hu:∀r r',Nf r->Nf r'->r=r')
 (cI:∀left acc x,x∈left->I left acc->Wp (step (l0,left,acc) x) (I (iI aa left x.1)))(Du:∀acc,I [] acc->Wp (fin (l0,[],acc)) Nf):
 ∀(n N:Nat)left acc,left.length<=n->n<N->I left acc->Wp (lm (fun s k2=>if s.2.1.isEmpty=true then fin s else GN (fun p=>p∈s.2.1) fun x=>(step s x).bind fun a=>k2 (s.1,iI aa s.2.1 x.1,a)) N (l0,left,acc)) Nf:=by
 intro n
 induction n with
 |zero=>
  intro N left acc hl hN hi;obtain⟨N,rfl⟩:=Nat.exists_eq_succ_of_ne_zero (show N≠0 by omega);obtain rfl:=List.eq_nil_of_length_eq_zero (Nat.le_zero.1 hl);obtain⟨r,hr,h⟩:=Du acc hi;refine⟨r,?_,h⟩;unfold lm;exact(if_pos rfl).trans hr
 |succ n ih=>
  intro N left acc hl hN hi;obtain⟨N,rfl⟩:=Nat.exists_eq_succ_of_ne_zero (show N≠0 by omega)
  by_cases he:left=[]
  .subst he;obtain⟨r,hr,h⟩:=Du acc hi;refine⟨r,?_,h⟩;unfold lm;exact(if_pos rfl).trans hr
  .have he':¬left.isEmpty=true:=by simpa using he
   have key:∀x,x∈left->∃a r,step (l0,left,acc) x=some a/\lm (fun s k2=>if s.2.1.isEmpty=true then fin s else GN (fun p=>p∈s.2.1) fun x=>(step s x).bind fun a=>k2 (s.1,iI aa s.2.1 x.1,a)) N (l0,iI aa left x.1,a)=some r/\Nf r:=fun x hx=>by
    obtain⟨a,ha,gH⟩:=cI left acc x hx hi
    have:(iI aa left x.1).length<left.length:=by
     unfold iI;refine List.length_filter_lt_length_iff_exists.2 ⟨x,hx,?_⟩;rw[(gy _ _).2 rfl];simp
    obtain⟨r,hr,h⟩:=ih N (iI aa left x.1) a (by omega) (by omega) gH;exact⟨a,r,ha,hr,h⟩
   obtain⟨x0,KQ⟩:=List.exists_mem_of_ne_nil _ he;obtain⟨_,r0,_,_,h0⟩:=key x0 KQ;refine⟨r0,?_,h0⟩;unfold lm;refine(if_neg he').trans (I6 ⟨x0,KQ⟩ fun x hx=>?_);obtain⟨a,r,ha,hr,h⟩:=key x hx;rw[ha,YB,hu _ _ h0 h];exact hr
end L
end Go.Proofs.YtbladfbbhijpmaaGreat
end
section
open _root_.Bool renaming false_eq_true->YW
open _root_.Go.IntKind renaming i64->YC,u64->YG
open _root_.List renaming all_eq_true->Z0,cons_append->Z8,drop_eq_getElem_cons->Zd,getElem_mem->YP,mem_append->YL,mem_cons->YM,mem_filter->Za,mem_range->Y5,mem_singleton->YJ,range->YI
open _root_.Nat renaming le_refl->YD,le_trans->Y3,lt_succ_iff_lt_or_eq->YQ
open _root_.Option renaming bind_some->YB
namespace Go.Proofs.YtbladfbbhijpmaaGreat
open Go Go.RowKit
set_option maxRecDepth 100000
namespace L
theorem gF{j:Nat}(h:j<62):om .i64 (1:Int) (j:Int)=some ((2 ^ j:Nat):Int):=by
 unfold om;rw[if_neg (by omega)];unfold DD
 have h1:min (j:Int).toNat YC.bits=j:=by simp[IntKind.bits];omega
 have h2:2 ^ j<2 ^ 62:=Nat.pow_lt_pow_right (by omega) h
 have e:(1:Int)*2 ^ j=((2 ^ j:Nat):Int):=by rw[Int.one_mul];simp
 rw[h1,e,wrap_i64 (by omega)]
theorem Fp:∀j,j<8->dN ((2 ^ j:Nat):Int)=1:=by
 intro j hj
 have h:((YI 8).all fun j=>decide (dN ((2 ^ j:Nat):Int)=1))=true:=by kernel_rfl
 exact of_decide_eq_true (Z0.1 h j (Y5.2 hj))
abbrev pI(m b:Nat):Int×Int:=((m:Int),(b:Int))
theorem o5{m b m' b':Nat}(h:pI m b=pI m' b'):m=m'/\b=b':=by
 have h:=Prod.ext_iff.1 h;have h1:(m:Int)=m':=h.1;have h2:(b:Int)=b':=h.2;omega
theorem u0(b j:Nat):b ^^^(b ^^^ 2 ^ j)=2 ^ j:=by rw[<-Nat.xor_assoc,Nat.xor_self,Nat.zero_xor]
theorem nl{n:Nat}(h:n<=8):2 ^ n<=256:=Nat.pow_le_pow_right (n:=2) (by omega) h
theorem HE{b j:Nat}(hb:b<256)(hj:j<8):b ^^^ 2 ^ j<256:=Nat.xor_lt_two_pow (n:=8) hb (by have:=Nat.pow_lt_pow_right (a:=2) (by omega) hj;omega)
theorem u3{j:Nat}(hj:j<8):2 ^ j<256:=Nat.pow_lt_pow_right (a:=2) (by omega) hj
theorem Fq{m b j:Nat}(hm:m<256)(hb:b<256)(hj:j<8)(C2:m.testBit j=true):M.gB bm (pI m b) (pI m (b ^^^ 2 ^ j))=some (pI (dR m (2 ^ j)) (dR b (2 ^ j)),true):=by
 have h2:=u3 hj
 have hx:al .xor .i64 (b:Int) ((b ^^^ 2 ^ j:Nat):Int)=((2 ^ j:Nat):Int):=by rw[Nc (by omega) (by have:=HE hb hj;omega),u0]
 have ha:al .and .i64 ((2 ^ j:Nat):Int) (m:Int)≠0:=by
  rw[Fm (by omega) (by omega)];intro h
  have h:2 ^ j&&& m=0:=by exact_mod_cast h
  have:=congrArg (fun x=>x.testBit j) h;simp only[Nat.testBit_and,dh,C2,Nat.zero_testBit]at this;simp at this
 have ho:M.bV bm (YG.wrap ((2 ^ j:Nat):Int))=some 1:=by rw[uV,Fp j hj]
 have h0:decide (al .and .i64 ((2 ^ j:Nat):Int) (m:Int)=0)=false:=decide_eq_false ha;unfold M.gB;simp only[hx,ho,h0,YB,decide_true,Bool.not_true,YW,if_false,CC (show m<9223372036854775808 by omega) (show 2 ^ j<9223372036854775808 by omega),CC (show b<9223372036854775808 by omega) (show 2 ^ j<9223372036854775808 by omega)]
structure ke(n:Nat)(S:Nat->Prop)(l:PS):Prop where
 ok:gj l
 imp:∀p,In l p->∃m b:Nat,p=pI m b/\nk n S m b
 base:∀x,x<2 ^ n->S x->In l (pI (2 ^ n-1) x)
theorem ke.len{n:Nat}{S:Nat->Prop}{l:PS}(h:ke n S l)(hn:n<=8):l.length<=65536:=by
 have:=h.ok.len (2 ^ n) fun p hp=>by
  obtain⟨m,b,e,hi⟩:=h.imp p hp;exact⟨m,b,e,hi.1,hi.lt⟩
 have h8:=nl hn;exact Y3 this (Y3 (Nat.mul_le_mul h8 h8) (by omega))
def Cl(n:Nat)(l:PS)(Ng:List (Int×Int)):Prop:=
 ∀m b j:Nat,j<n->m.testBit j=true->In l (pI m b)->In l (pI m (b ^^^ 2 ^ j))->pI m b∉Ng->pI m (b ^^^ 2 ^ j)∉Ng->In l (pI (dR m (2 ^ j)) (dR b (2 ^ j)))
def zu(n:Nat)(S:Nat->Prop)(l:PS):Prop:=gj l/\∀p,In l p↔∃m b:Nat,p=pI m b/\nk n S m b
theorem zu.Kf{n:Nat}{S:Nat->Prop}{l l':PS}(h:zu n S l)(g:zu n S l'):l=l':=h.1.ext g.1 fun p=>(h.2 p).trans (g.2 p).symm
theorem ke.done{n:Nat}{S:Nat->Prop}{l:PS}(h:ke n S l)(hc:Cl n l []):zu n S l:=
 ⟨h.ok,fun p=>⟨h.imp p,fun⟨m,b,e,hi⟩=>by
   rw[e]
   exact zt (In:=fun m b=>In l (pI m b)) h.base (fun m b j hj hm h1 h2=>hc m b j hj hm h1 h2 (by simp) (by simp)) _ m b rfl hi⟩⟩
theorem ke.put{n:Nat}{S:Nat->Prop}{l:PS}(h:ke n S l){m b:Nat}(hi:nk n S m b):ke n S (mu aa l (pI m b) true):=
 ⟨h.ok.put _,fun p hp=>by
   rcases(uZ h.ok).1 hp with rfl|hp
   .exact⟨m,b,rfl,hi⟩
   .exact h.imp p hp,fun x hx hS=>(uZ h.ok).2 (.inr (h.base x hx hS))⟩
structure r8(n:Nat)(S:Nat->Prop)(L0:Nat)(pB rest:List (Int×Int))(m b:Nat)(j:Nat)(l:PS)(nx:List (Int×Int)):Prop where
 good:ke n S l
 levs:∀p∈pB,In l p
 nxt:∀p∈nx,In l p
 len:l.length=L0+nx.length
 cl:Cl n l (pI m b::rest++nx)
 bits:∀i,i<j->m.testBit i=true->In l (pI m (b ^^^ 2 ^ i))->pI m (b ^^^ 2 ^ i)∉nx->In l (pI (dR m (2 ^ i)) (dR b (2 ^ i)))
theorem r8.same{n:Nat}{S:Nat->Prop}{L0:Nat}{pB rest:List (Int×Int)}{m b j:Nat}{l:PS}{nx:List (Int×Int)}(h:r8 n S L0 pB rest m b j l nx)(hb:m.testBit j=true->In l (pI m (b ^^^ 2 ^ j))->In l (pI (dR m (2 ^ j)) (dR b (2 ^ j)))):
 r8 n S L0 pB rest m b (j+1) l nx:=
 ⟨h.good,h.levs,h.nxt,h.len,h.cl,fun i hi hm h1 h2=>by
   rcases YQ.1 hi with hi|rfl
   .exact h.bits i hi hm h1 h2
   .exact hb hm h1⟩
theorem r8.add{n:Nat}{S:Nat->Prop}{L0:Nat}{pB rest:List (Int×Int)}{m b j:Nat}{l:PS}{nx:List (Int×Int)}(h:r8 n S L0 pB rest m b j l nx)(hi:nk n S (dR m (2 ^ j)) (dR b (2 ^ j)))(hn:¬In l (pI (dR m (2 ^ j)) (dR b (2 ^ j)))):
 r8 n S L0 pB rest m b (j+1) (mu aa l (pI (dR m (2 ^ j)) (dR b (2 ^ j))) true) (nx++[pI (dR m (2 ^ j)) (dR b (2 ^ j))]):=by
 have hp:∀q,In (mu aa l (pI (dR m (2 ^ j)) (dR b (2 ^ j))) true) q↔q=pI (dR m (2 ^ j)) (dR b (2 ^ j))\/In l q:=fun q=>uZ h.good.ok
 refine⟨h.good.put hi,fun p xC=>(hp p).2 (.inr (h.levs p xC)),fun p xC=>(hp p).2 ?_,by rw[HD h.good.ok hn,h.len];simp;omega,fun m' b' i gH hm h1 h2 h3 h4=>(hp _).2 ?_,fun i gH hm h1 h2=>(hp _).2 ?_⟩
 .rcases YL.1 xC with h'|h'
  .exact .inr (h.nxt p h')
  .exact .inl (YJ.1 h')
 .simp only[Z8,YM,YL,List.not_mem_nil,or_false,not_or]at h3 h4
  rcases(hp _).1 h1 with e|h1
  .exact absurd e h3.2.2.2
  .rcases(hp _).1 h2 with e|h2
   .exact absurd e h4.2.2.2
   .exact .inr (h.cl m' b' i gH hm h1 h2 (by simp only[Z8,YM,YL,not_or];exact⟨h3.1,h3.2.1,h3.2.2.1⟩) (by simp only[Z8,YM,YL,not_or];exact⟨h4.1,h4.2.1,h4.2.2.1⟩))
 .simp only[YL,YJ,not_or]at h2
  rcases YQ.1 gH with gH|rfl
  .rcases(hp _).1 h1 with e|h1
   .exact absurd e h2.2
   .exact .inr (h.bits i gH hm h1 h2.1)
  .exact .inl rfl
theorem r8.out{n:Nat}{S:Nat->Prop}{L0:Nat}{pB rest:List (Int×Int)}{m b:Nat}{l:PS}{nx:List (Int×Int)}(h:r8 n S L0 pB rest m b n l nx):Cl n l (rest++nx):=by
 intro m' b' i hi hm h1 h2 h3 h4
 have Tq:=h3;have Pk:=h4
 simp only[YL,not_or]at h3 h4;by_cases e1:pI m' b'=pI m b
 .obtain⟨rfl,rfl⟩:=o5 e1;exact h.bits i hi hm h2 h4.2
 .by_cases e2:pI m' (b' ^^^ 2 ^ i)=pI m b
  .obtain⟨rfl,e3⟩:=o5 e2
   have e4:b'=b ^^^ 2 ^ i:=by rw[<-e3,HC]
   subst e4;rw[HB];exact h.bits i hi hm h1 h3.2
  .exact h.cl m' b' i hi hm h1 h2 (by simp only[Z8,YM,not_or];exact⟨e1,Tq⟩) (by simp only[Z8,YM,not_or];exact⟨e2,Pk⟩)
theorem HF{n:Nat}{S:Nat->Prop}{m b j:Nat}(h:nk n S m b)(g:nk n S m (b ^^^ 2 ^ j)):m.testBit j=true:=by
 cases hb:b.testBit j with
 |true=>exact ec.1 h.2.1 j hb
 |false=>exact ec.1 g.2.1 j (by rw[Nat.testBit_xor,dh,hb];simp)
theorem RZ(n:Nat)(hn:n<=8)(S:Nat->Prop)(l0:PS)(h0:gj l0)(Ts:∀p,In l0 p↔∃x,x<2 ^ n/\S x/\p=pI (2 ^ n-1) x):Wp (M.dw bm (n:Int) l0) (zu n S):=by
 have h8:=nl hn
 have Tt:ke n S l0:=⟨h0,fun p hp=>by
  obtain⟨x,hx,hS,e⟩:=(Ts p).1 hp
  exact⟨_,x,e, .full hx hS⟩,fun x hx hS=>(Ts _).2 ⟨x,hx,hS,rfl⟩⟩
 have Yn:=Tt.len hn;unfold M.dw;refine xd (fun left acc=>(∀e∈left,e∈l0)/\(∀p∈acc,In l0 p)/\(∀p,In l0 p->p∈acc\/∃e∈left,e.1=p)/\acc.length+left.length<=l0.length) (fun r r' h g=>h.Kf g) (fun left acc x hx hI=>?_) (fun acc hI=>?_) l0.length bm l0 [] (YD _) (by unfold bm;omega) ⟨fun e he=>he,fun p hp=>by simp at hp,fun p hp=> .inr ⟨(p,true),(gk h0.tr).1 hp,rfl⟩,by simp⟩
 .obtain⟨h1,h2,h3,h4⟩:=hI
  have hlen:(iI aa left x.1).length<left.length:=by
   unfold iI;refine List.length_filter_lt_length_iff_exists.2 ⟨x,hx,?_⟩;rw[(gy _ _).2 rfl];simp
  have kW:∀e,e∈iI aa left x.1↔e∈left/\e.1≠x.1:=fun e=>by
   unfold iI;rw[Za,Bool.not_eq_true',gU]
  have KQ:In l0 x.1:=(gk h0.tr).2 (by rw[show(x.1,true)=x from Prod.ext rfl (h0.tr x (h1 x hx)).symm];exact h1 x hx);refine Wp.px (by simp;omega) ⟨fun e he=>h1 e ((kW e).1 he).1,fun p hp=>?_,fun p hp=>?_,by simp;omega⟩
  .rcases YL.1 hp with hp|hp
   .exact h2 p hp
   .rw[YJ.1 hp];exact KQ
  .by_cases e:p=x.1
   .exact .inl (List.mem_append_right _ (by rw[e];exact List.mem_singleton_self _))
   .rcases h3 p hp with h|⟨f,hf,rfl⟩
    .exact .inl (List.mem_append_left _ h)
    .exact .inr ⟨f,(kW f).2 ⟨hf,e⟩,rfl⟩
 .obtain⟨-,h2,h3,h4⟩:=hI
  refine Wp.loop (fun s=>ke n S s.1/\(∀p∈s.2,In s.1 p)/\Cl n s.1 s.2/\s.2.length<=s.1.length) (fun s=>2*(65536-s.1.length)+(if s.2=[]then 0 else 1)) ⟨Tt,h2,fun m b j _ _ hm _ hn _=>absurd ?_ hn,by simpa using h4⟩ (by unfold bm;show 2*(65536-l0.length)+(if acc=[]then 0 else 1)<_;split<;>omega) fun s hs=>?_
  .rcases h3 _ hm with h|⟨e,he,_⟩
   .exact h
   .simp at he
  .obtain⟨l,pB⟩:=s;obtain⟨hg,Nh,Gh,hle⟩:=hs;dsimp only at hg Nh Gh hle⊢;have Kx:=hg.len hn;refine .dec (fun b8=>?_) (fun he=> .some ?_)
   .have BC:pB≠[]:=fun e=>by subst e;simp at b8
    refine Wp.seq (fun j=>ke n S j.1/\(∀p∈j.2,In j.1 p)/\Cl n j.1 j.2/\j.1.length=l.length+j.2.length) ?_ fun j hj=> .some ⟨⟨hj.1,hj.2.1,hj.2.2.1,by have:=hj.2.2.2;show j.2.length<=j.1.length;omega⟩,?_⟩
    .refine Wp.count (fun s=>s.1) pB.length (fun k s=>ke n S s.2.1/\(∀p∈pB,In s.2.1 p)/\(∀p∈s.2.2,In s.2.1 p)/\s.2.1.length=l.length+s.2.2.length/\Cl n s.2.1 (pB.drop k++s.2.2)) (by omega) rfl ⟨hg,Nh,fun p hp=>by simp at hp,by simp,by simpa using Gh⟩ fun k s hk hs hJ=>?_
     obtain⟨i,l1,nx⟩:=s;obtain⟨g1,g2,g3,g4,g5⟩:=hJ;dsimp only at hs g1 g2 g3 g4 g5⊢;subst hs;refine .dec (fun av=>?_) (fun hge=> .some ?_)
     .have av:k<pB.length:=by omega
      refine Wp.seq (fun j=>ke n S j.1/\(∀p∈pB,In j.1 p)/\(∀p∈j.2,In j.1 p)/\j.1.length=l.length+j.2.length/\Cl n j.1 (pB.drop (k+1)++j.2)) (.bind (.idx k rfl av ?_)) fun j hj=> .some ⟨av,aD (by omega),hj⟩
      obtain⟨m,b,hp,hi⟩:=g1.imp _ (g2 pB[k] (YP av));rw[Zd av]at g5;rw[hp]at g5⊢;have hm:=hi.1;have hb:=hi.lt
      refine Wp.count (fun s=>s.1) n (fun j s=>r8 n S l.length pB (pB.drop (k+1)) m b j s.2.1 s.2.2) (by omega) rfl ⟨g1,g2,g3,g4,g5,fun i hi=>absurd hi (by omega)⟩ fun j s hj hs hB=>?_
      obtain⟨jj,l2,ny⟩:=s;dsimp only at hs hB⊢;subst hs;refine .dec (fun Jk=>?_) (fun hge=> .some ?_)
      .have N6:j<8:=by omega
       have hx:al .xor .i64 (b:Int) ((2 ^ j:Nat):Int)=((b ^^^ 2 ^ j:Nat):Int):=Nc (by omega) (by have:=u3 N6;omega)
       refine Wp.seq (fun q=>r8 n S l.length pB (pB.drop (k+1)) m b (j+1) q.1 q.2) (.ba (gF (by omega)) ?_) fun q hq=> .some ⟨by omega,aD (by omega),hq⟩
       rw[hx];refine .ite (fun xy=> .some (hB.same fun _ h=>?_)) (fun R0=>?_)
       .rw[show(aX aa l2 (pI m (b ^^^ 2 ^ j))).getD false=true from h]at xy;cases xy
       .have bH:In l2 (pI m (b ^^^ 2 ^ j)):=by simpa[In]using R0
        obtain⟨m',b',e,gH⟩:=hB.good.imp _ bH;obtain⟨rfl,rfl⟩:=o5 e;have C2:=HF hi gH;have Xl:=hi.merge gH C2;refine .ba (Fq (by omega) (by omega) N6 C2) ?_;by_cases qx:In l2 (pI (dR m (2 ^ j)) (dR b (2 ^ j)))
        .have e:(aX aa l2 (pI (dR m (2 ^ j)) (dR b (2 ^ j)))).getD false=true:=qx;simp only[if_true,e,Bool.not_true,YB,YW,if_false];exact .some (hB.same fun _ _=>qx)
        .have e:(aX aa l2 (pI (dR m (2 ^ j)) (dR b (2 ^ j)))).getD false=false:=by simpa[In]using qx
         simp only[if_true,e,Bool.not_false,YB];have Ni:=hB.good.len hn;refine .bind (.px (by have:=hB.len;simp;omega) (.some (hB.add Xl qx)))
      .have:j=n:=by omega
       subst this;exact⟨hB.good,hB.levs,hB.nxt,hB.len,hB.out⟩
     .have:k=pB.length:=by omega
      subst this;rw[List.drop_length]at g5;exact⟨g1,g3,g5,g4⟩
    .have h5:=hj.1.len hn;have h6:=hj.2.2.2
     show 2*(65536-j.1.length)+(if j.2=[]then 0 else 1)<2*(65536-l.length)+(if pB=[]then 0 else 1)
     rw[if_neg BC];split
     .omega
     .rename_i h7;have:0<j.2.length:=List.length_pos_iff.2 h7;omega
   .have:pB=[]:=List.eq_nil_of_length_eq_zero (by have:¬(0:Int)<(pB.length:Int):=he;omega);subst this;exact hg.done Gh
end L
end Go.Proofs.YtbladfbbhijpmaaGreat
end
section
open _root_.Go.Proofs renaming ltOf->Zn
open _root_.List renaming mem_append->YL,mem_filter->Za,mem_singleton->YJ
open _root_.Nat renaming le_refl->YD,le_trans->Y3,lt_succ_iff_lt_or_eq->YQ
namespace Go.Proofs.YtbladfbbhijpmaaGreat
open Go Go.RowKit
set_option maxRecDepth 100000
namespace L
def zv(n:Nat)(S:Nat->Prop)(m b:Nat):Prop:=nk n S m b/\∀j,j<n->m.testBit j=true->¬nk n S (dR m (2 ^ j)) (dR b (2 ^ j))
theorem k0.trans{x y z:Int×Int}(h:k0 x y)(g:k0 y z):k0 x z:=by unfold k0 at*;omega
theorem k0.irrefl(x:Int×Int):¬k0 x x:=by unfold k0;omega
theorem k0.total{x y:Int×Int}(h:¬k0 y x)(g:x≠y):k0 x y:=by
 have g:¬(x.1=y.1/\x.2=y.2):=fun e=>g (Prod.ext e.1 e.2)
 have h1:x.1=y.1->dN x.1=dN y.1:=fun e=>by rw[e]
 unfold k0 at*;omega
theorem pC{l m:List (Int×Int)}(h:l.Pairwise k0)(g:m.Pairwise k0)(e:∀p,p∈l↔p∈m):l=m:=by
 have yh:∀{l:List (Int×Int)},l.Pairwise k0->l.Nodup:=fun h=>h.imp fun g e=>by subst e;exact k0.irrefl _ g
 exact List.Perm.eq_of_pairwise (le:=k0) (fun a b _ _ h1 h2=>absurd (h1.trans h2) (k0.irrefl _)) h g ((List.perm_ext_iff_of_nodup (yh h) (yh g)).2 e)
theorem Fs{l:List aa.den}(hl:l.length<4611686018427387904)(hn:l.Nodup):Wp (M.aJ bm l) fun r=>r.Pairwise k0/\∀p,p∈r↔p∈l:=by
 unfold M.aJ tj;rw[if_pos ⟨Nd,hl⟩];refine .some ?_;generalize hg:Zn (kY fun a b c d=>M.bG bm (a,b) (c,d))=lt
 have av:∀x y:Int×Int,lt x y=true↔k0 x y:=fun x y=>by rw[<-hg];exact uW x y
 have N7:∀x y:Int×Int,(!lt x y)=true↔¬k0 x y:=fun x y=>by rw[<-av];simp
 have hp:=List.pairwise_mergeSort (le:=fun x y:Int×Int=> !lt y x) (fun a b c h1 h2=>by
  rw[N7]at h1 h2⊢
  unfold k0 at*;omega) (fun a b=>by
  rw[Bool.or_eq_true,N7,N7]
  unfold k0;omega) l
 have hm:∀p,p∈l.mergeSort (fun x y:Int×Int=> !lt y x)↔p∈l:=fun p=>List.mem_mergeSort
 refine⟨?_,hm⟩;have Dx:(l.mergeSort (fun x y:Int×Int=> !lt y x)).Nodup:=(List.mergeSort_perm l _).symm.nodup hn
 exact(hp.and Dx).imp fun⟨h1,h2⟩=>k0.total ((N7 _ _).1 h1) h2
def Ft(n:Nat)(S:Nat->Prop)(l:PS)(r:PS×List aa.den):Prop:=r.1=l/\r.2.Pairwise k0/\∀p,p∈r.2↔∃m b:Nat,p=pI m b/\zv n S m b
theorem Ft.Kf{n:Nat}{S:Nat->Prop}{l:PS}{r r':PS×List aa.den}(h:Ft n S l r)(g:Ft n S l r'):r=r':=
 Prod.ext (h.1.trans g.1.symm) (pC h.2.1 g.2.1 fun p=>(h.2.2 p).trans (g.2.2 p).symm)
theorem HG{m j:Nat}(h:m.testBit j=true):dR m (2 ^ j)≠m:=fun e=>by
 have:(dR m (2 ^ j)).testBit j=false:=by rw[bD,dh];simp
 rw[e,h]at this;cases this
theorem CD(n:Nat)(hn:n<=8)(S:Nat->Prop)(l:PS)(h:zu n S l):Wp (M.eE bm (n:Int) l) (Ft n S l):=by
 have h8:=nl hn
 have hlen:l.length<=65536:=by
  have:=h.1.len (2 ^ n) fun p hp=>by
   obtain⟨m,b,e,hi⟩:=(h.2 p).1 hp;exact⟨m,b,e,hi.1,hi.lt⟩
  exact Y3 this (Y3 (Nat.mul_le_mul h8 h8) (by omega))
 unfold M.eE
 refine xd (fun left acc=>(∀e∈left,e∈l)/\acc.Nodup/\(∀p∈acc,∃m b:Nat,p=pI m b/\zv n S m b)/\(∀m b:Nat,zv n S m b->pI m b∈acc\/∃e∈left,e.1=pI m b)/\(∀p∈acc,∀e∈left,e.1≠p)/\acc.length+left.length<=l.length)
  (fun r r' h g=>h.Kf g) (fun left acc x hx hI=>?_) (fun acc hI=>?_) l.length bm l [] (YD _) (by unfold bm;omega) ⟨fun e he=>he,List.nodup_nil,fun p hp=>by simp at hp,fun m b hp=> .inr ⟨(pI m b,true),(gk h.1.tr).1 ((h.2 _).2 ⟨m,b,rfl,hp.1⟩),rfl⟩,fun p hp=>by simp at hp,by simp⟩
 .obtain⟨h1,h2,h3,h4,h5,h6⟩:=hI
  have Ni:(iI aa left x.1).length<left.length:=by
   unfold iI;refine List.length_filter_lt_length_iff_exists.2 ⟨x,hx,?_⟩;rw[(gy _ _).2 rfl];simp
  have kW:∀e,e∈iI aa left x.1↔e∈left/\e.1≠x.1:=fun e=>by
   unfold iI;rw[Za,Bool.not_eq_true',gU]
  have KQ:In l x.1:=(gk h.1.tr).2 (by rw[show(x.1,true)=x from Prod.ext rfl (h.1.tr x (h1 x hx)).symm];exact h1 x hx);obtain⟨m,b,hp,hi⟩:=(h.2 _).1 KQ;have hm:=hi.1;have hb:=hi.lt
  refine Wp.seq (fun j=>j=true↔zv n S m b) ?_ fun j hj=>?_
  .refine Wp.count (fun s=>s.2) n (fun j s=>s.1=true↔∀i,i<j->m.testBit i=true->¬nk n S (dR m (2 ^ i)) (dR b (2 ^ i))) (by omega) rfl ⟨fun _ i hi=>absurd hi (by omega),fun _=>rfl⟩ fun j s hj hs hJ=>?_
   obtain⟨v,jj⟩:=s;dsimp only at hs hJ⊢;subst hs;refine .dec (fun av=>?_) (fun hge=> .some ?_)
   .have N6:j<8:=by omega
    have Yo:=u3 N6
    refine Wp.seq (fun q=>q=true↔∀i,i<j+1->m.testBit i=true->¬nk n S (dR m (2 ^ i)) (dR b (2 ^ i))) (.ba (gF (by omega)) (.ba (gF (by omega)) ?_)) fun q hq=> .some ⟨by omega,aD (by omega),hq⟩
    have e1:al .andNot .i64 x.1.1 ((2 ^ j:Nat):Int)=(dR m (2 ^ j):Nat):=by rw[hp];exact CC (by omega) (by omega)
    have e2:al .andNot .i64 x.1.2 ((2 ^ j:Nat):Int)=(dR b (2 ^ j):Nat):=by rw[hp];exact CC (by omega) (by omega)
    rw[e1,e2,hp];have e3:(aX aa l (pI (dR m (2 ^ j)) (dR b (2 ^ j)))).getD false=true↔nk n S (dR m (2 ^ j)) (dR b (2 ^ j)):=(h.2 _).trans ⟨fun⟨m',b',e,gH⟩=>by obtain⟨rfl,rfl⟩:=o5 e;exact gH,fun gH=>⟨_,_,rfl,gH⟩⟩
    have step:∀t:Bool,(t=true↔(m.testBit j=true/\nk n S (dR m (2 ^ j)) (dR b (2 ^ j))))->Wp (if t=true then some false else some v) fun q=>q=true↔∀i,i<j+1->m.testBit i=true->¬nk n S (dR m (2 ^ i)) (dR b (2 ^ i)):=fun t ht=>by
     refine .ite (fun h1=> .some ⟨fun h2=>by(cases h2),fun h2=>absurd (ht.1 h1).2 (h2 j (by omega) (ht.1 h1).1)⟩) (fun h1=> .some (hJ.trans ⟨fun h2 i gH=>?_,fun h2 i gH=>h2 i (by omega)⟩))
     rcases YQ.1 gH with gH|rfl
     .exact h2 i gH
     .exact fun h3 h4=>h1 (ht.2 ⟨h3,h4⟩)
    by_cases C2:m.testBit j=true
    .have e4:ki aa (pI (dR m (2 ^ j)) (dR b (2 ^ j))) (pI m b)=false:=og.2 fun e=>HG C2 (o5 e).1
     refine Wp.seq (fun t=>t=true↔(m.testBit j=true/\nk n S (dR m (2 ^ j)) (dR b (2 ^ j)))) ?_ step;rw[show ki aa (((dR m (2 ^ j):Nat):Int),((dR b (2 ^ j):Nat):Int)) (pI m b)=false from e4];exact .some ⟨fun h=>⟨C2,e3.1 h⟩,fun h=>e3.2 h.2⟩
    .have R1:m.testBit j=false:=by simpa using C2
     have Xm:b.testBit j=false:=by
      cases e:b.testBit j with
      |false=>rfl
      |true=>exact absurd (ec.1 hi.2.1 j e) C2
     have e4:ki aa (pI (dR m (2 ^ j)) (dR b (2 ^ j))) (pI m b)=true:=pX.2 (by rw[rp R1,rp Xm]);refine Wp.seq (fun t=>t=true↔(m.testBit j=true/\nk n S (dR m (2 ^ j)) (dR b (2 ^ j)))) ?_ step;rw[show ki aa (((dR m (2 ^ j):Nat):Int),((dR b (2 ^ j):Nat):Int)) (pI m b)=true from e4];exact .some ⟨fun h=>(by cases h),fun h=>absurd h.1 C2⟩
   .have:j=n:=by omega
    subst this;exact hJ.trans ⟨fun h=>⟨hi,h⟩,fun h=>h.2⟩
  .have Tu:∀u4:List aa.den,(∀p,p∈u4↔p∈acc\/p=x.1/\j=true)->u4.Nodup->u4.length<=acc.length+1->(∀e∈iI aa left x.1,e∈l)/\u4.Nodup/\(∀p∈u4,∃m b:Nat,p=pI m b/\zv n S m b)/\(∀m b:Nat,zv n S m b->pI m b∈u4\/∃e∈iI aa left x.1,e.1=pI m b)/\(∀p∈u4,∀e∈iI aa left x.1,e.1≠p)/\u4.length+(iI aa left x.1).length<=l.length:=fun u4 hc yh hl=>by
    refine⟨fun e he=>h1 e ((kW e).1 he).1,yh,fun p xC=>?_,fun m' b' xC=>?_,fun p xC e he=>?_,by omega⟩
    .rcases(hc p).1 xC with xC|⟨rfl,Fu⟩
     .exact h3 p xC
     .exact⟨m,b,hp,hj.1 Fu⟩
    .rcases h4 m' b' xC with g|⟨e,he,g⟩
     .exact .inl ((hc _).2 (.inl g))
     .by_cases g2:e.1=x.1
      .refine .inl ((hc _).2 (.inr ⟨g.symm.trans g2,hj.2 ?_⟩));obtain⟨rfl,rfl⟩:=o5 (g.symm.trans (g2.trans hp));exact xC
      .exact .inr ⟨e,(kW e).2 ⟨he,g2⟩,g⟩
    .obtain⟨Xn,ED⟩:=(kW e).1 he
     rcases(hc p).1 xC with xC|⟨rfl,_⟩
     .exact h5 p xC e Xn
     .exact ED
   refine .ite (fun Fu=> .bind (.px (by simp;omega) (.some (Tu _ (fun p=>by rw[YL,YJ];simp[Fu]) ?_ (by simp))))) (fun Kg=> .some (Tu _ (fun p=>by simp[Kg]) h2 (show acc.length<=acc.length+1 by omega)));refine List.nodup_append.2 ⟨h2,by simp,fun a ha c hc e=>?_⟩;rw[YJ]at hc;exact h5 a ha x hx (by rw[e,hc])
 .obtain⟨-,h2,h3,h4,-,h6⟩:=hI
  refine Wp.seq (fun r=>r.Pairwise k0/\∀p,p∈r↔p∈acc) (Fs (by show acc.length<_;simp at h6;omega) h2) fun r hr=> .some ⟨rfl,hr.1,fun p=>(hr.2 p).trans ⟨h3 p,fun⟨m,b,e,hp⟩=>?_⟩⟩
  rcases h4 m b hp with g|⟨e',he,_⟩
  .rw[e];exact g
  .simp at he
end L
end Go.Proofs.YtbladfbbhijpmaaGreat
end
section
open _root_.Bool renaming and_eq_true->Zr
open _root_.Classical renaming propDecidable->Zj
open _root_.Int renaming eq_ofNat_of_zero_le->YN,toNat_natCast->YK
open _root_.Go.IntKind renaming i64->YC
open _root_.List renaming all_eq_true->Z0,any_eq_true->ZJ,mem_append->YL,mem_range->Y5,mem_singleton->YJ,range->YI,replicate->Y4,take_append_getElem->Y1,take_length->YS
open _root_.Nat renaming eq_of_testBit_eq->ZT,lt_succ_iff_lt_or_eq->YQ
open _root_.Option renaming bind_some->YB
namespace Go.Proofs.YtbladfbbhijpmaaGreat
open Go Go.RowKit
set_option maxRecDepth 100000
namespace L
def xG(a:Int):Nat:=min a.toNat 8
theorem rr(a:Int):xG a<=8:=Nat.min_le_right _ _
theorem xe(a:Int):M.dv bm a=some (xG a:Int):=by
 unfold M.dv xG
 congr 1
 split<;>split<;>omega
theorem tB(a:Int):M.gS bm a=some (xG a:Int):=by
 unfold M.gS xG;simp only[decide_eq_true_eq];split
 .congr 1;omega
 .split<;>(congr 1;omega)
theorem size_eq{n:Nat}(hn:n<=8):M.iS bm (n:Int)=some ((2 ^ n:Nat):Int):=by
 unfold M.iS;refine Wp.eq ?_
 refine Wp.count (fun s=>s.2) n (fun k s=>s.1=((2 ^ k:Nat):Int)) (by omega) rfl rfl fun k s hk hs hJ=>?_
 obtain⟨x,kk⟩:=s;dsimp only at hs hJ⊢;subst hs hJ;refine .dec (fun h=> .some ⟨by omega,aD (by omega),?_⟩) (fun h=> .some ?_)
 .have h1:2 ^ k<=2 ^ 8:=Nat.pow_le_pow_right (by omega) (by omega)
  show YC.wrap (((2 ^ k:Nat):Int)*2)=((2 ^ (k+1):Nat):Int)
  have e:((2 ^ k:Nat):Int)*2=((2 ^ (k+1):Nat):Int):=by rw[Nat.pow_succ];simp
  rw[e,wrap_i64 (by rw[Nat.pow_succ];omega)]
 .have:k=n:=by omega
  subst this;rfl
def nX(l:List Int)(k:Nat):List Bool:=(YI k).map fun x:Nat=>decide ((x:Int)∈l)
theorem HH{α:Type}{k x:Nat}{f:Nat->α}(h:x<k):idx ((YI k).map f) (x:Int)=some (f x):=by
 rw[aB (by simpa using h)];simp
theorem u5{α:Type}{k x:Nat}{f:Nat->α}{Q:α->Prop}(h:x<k)(hq:Q (f x)):Wp (idx ((YI k).map f) (x:Int)) Q:=⟨_,HH h,hq⟩
theorem nY{α:Type}(k:Nat)(f:Nat->α):(((YI k).map f).length:Int)=(k:Int):=by simp
theorem zw{l:List Int}(hl:l.length<=1000000){n:Nat}(hn:n<=8):M.jC bm l (n:Int)=some (nX l (2 ^ n)):=by
 have h8:=nl hn;unfold M.jC;rw[size_eq hn,YB];generalize 2 ^ n=K at*;refine Wp.eq (.bind (kH.2 ⟨by omega,?_⟩))
 refine Wp.count (fun s=>s.1) l.length (fun k s=>s.2=nX (l.take k) K) (by omega) rfl ?_ fun k s hk hs hJ=>?_
 .show Y4 _ _=_
  unfold nX;apply List.ext_getElem (by simp);intro i h1 h2;simp
 .obtain⟨kk,c⟩:=s;dsimp only at hs hJ⊢;subst hs hJ;refine .dec (fun h=>?_) (fun h=> .some ?_)
  .have av:k<l.length:=by omega
   have hlen:((nX (l.take k) K).length:Int)=(K:Int):=nY _ _
   have Br:∀y:Int,y∈l.take (k+1)↔y∈l.take k\/y=l[k]:=fun y=>by rw[<-Y1 av,YL,YJ]
   refine Wp.seq (fun j=>j=nX (l.take (k+1)) K) ?_ fun j hj=> .some ⟨av,aD (by omega),hj⟩
   refine Wp.seq (fun j=>j=true↔0<=l[k]/\l[k]<(K:Int)) (.bind (.idx k rfl av (.dec (fun h0=> .bind (.idx k rfl av (.some ?_))) (fun h0=> .some ⟨fun h=>(by cases h),fun h=>absurd h.1 h0⟩)))) fun j hj=>?_
   .rw[hlen,decide_eq_true_eq];exact⟨fun h=>⟨h0,h⟩,fun h=>h.2⟩
   refine .ite (fun Fu=> .bind (.idx k rfl av ?_)) (fun Kg=> .some ?_)
   .obtain⟨x,hx⟩:=YN (hj.1 Fu).1
    have xK:x<K:=by have:=(hj.1 Fu).2;omega
    rw[hx];refine .bind (u5 xK (.some ?_));unfold nX bg;rw[YK,gD]
    refine List.map_congr_left fun y hy=>?_
    by_cases e:y=x
    .subst e;simp[Br,hx]
    .rw[if_neg e];refine decide_eq_decide.2 ?_;rw[Br,hx];exact⟨.inl,fun h=>h.resolve_right fun h=>e (by omega)⟩
   .unfold nX
    refine List.map_congr_left fun y hy=>decide_eq_decide.2 ?_
    rw[Br];refine⟨.inl,fun h=>h.resolve_right fun h=>Kg (hj.2 ?_)⟩;have:=Y5.1 hy;omega
  .have:k=l.length:=by omega
   subst this
   show nX (l.take l.length) K=nX l K
   rw[YS]
theorem Fv{m:Nat}(hm:m<256):M.nc bm (m:Int)=some (dN (m:Int)):=by
 have h:((YI 256).all fun m=>decide (M.nc bm ((m:Nat):Int)=some (dN ((m:Nat):Int))))=true:=by kernel_rfl
 exact of_decide_eq_true (Z0.1 h m (Y5.2 hm))
theorem HI:∀{m n:Nat},n<=8->m<2 ^ n->∃c:Nat,c<=n/\dN (m:Int)=(c:Int):=by
 intro m n hn hm
 have h:((YI 9).all fun n=>(YI (2 ^ n)).all fun m=>(YI (n+1)).any fun c=>decide (dN ((m:Nat):Int)=(c:Int)))=true:=by kernel_rfl
 have h1:=Z0.1 (Z0.1 h n (Y5.2 (by omega))) m (Y5.2 hm);obtain⟨c,hc,h2⟩:=ZJ.1 h1;exact⟨c,by have:=Y5.1 hc;omega,of_decide_eq_true h2⟩
theorem np{m b x:Nat}(hm:m<256)(hx:x<256):M.cM bm (pI m b) (x:Int)=some (decide (x&&& m=b)):=by
 unfold M.cM;rw[Fm (by omega) (by omega)]
 congr 1
 exact decide_eq_decide.2 (by show((x&&& m:Nat):Int)=(b:Int)↔_;omega)
def dm(k:Nat)(mem cov:Nat->Bool)(m b:Nat):Bool:=(YI k).any fun x=>decide (x&&& m=b)&&mem x&& !cov x
theorem Fw{n:Nat}(hn:n<=8){mem cov:Nat->Bool}{m b:Nat}(hm:m<256):M.lD bm (pI m b) ((YI (2 ^ n)).map mem) ((YI (2 ^ n)).map cov)=some (dm (2 ^ n) mem cov m b):=by
 have h8:=nl hn;unfold M.lD;refine Wp.eq ?_
 refine Wp.count (fun s=>s) (2 ^ n) (fun k _=>∀x,x<k->(decide (x&&& m=b)&&mem x&& !cov x)=false) (by omega) rfl (fun x hx=>absurd hx (by omega)) fun k s hk hs hJ=>?_
 subst hs;rw[nY];refine .dec (fun h=>?_) (fun h=> .some ?_)
 .have av:k<2 ^ n:=by omega
  refine Wp.seq (fun j=>j=(decide (k&&& m=b)&&mem k&& !cov k)) (.ba (np hm (by omega)) (.ite (fun h1=> .bind (u5 av (.ite (fun h2=> .bind (u5 av (.some ?_))) (fun h2=> .some ?_)))) (fun h1=> .some ?_))) fun j hj=> .ite (fun h1=> .some ?_) (fun h1=> .some ⟨av,aD (by omega),fun x hx=>?_⟩)
  .rw[h1,h2];rfl
  .rw[h1];simp[h2]
  .simp[h1]
  .show true=dm _ _ _ _ _
   unfold dm;exact(ZJ.2 ⟨k,Y5.2 av,by rw[<-hj];exact h1⟩).symm
  .rcases YQ.1 hx with hx|rfl
   .exact hJ x hx
   .rw[<-hj];simpa using h1
 .show false=dm _ _ _ _ _
  unfold dm;refine(List.any_eq_false.2 fun x hx=>?_).symm;rw[hJ x (by have:=Y5.1 hx;omega)];simp
noncomputable def Fx(n:Nat)(S:Nat->Prop)(m b:Nat):Bool:= @decide (∀x,x<2 ^ n->x&&& m=b->S x) (Zj _)
theorem o6{n:Nat}{S:Nat->Prop}{m b:Nat}:Fx n S m b=true↔∀x,x<2 ^ n->x&&& m=b->S x:= @decide_eq_true_iff _ (Zj _)
theorem nZ{n:Nat}(hn:n<=8){l:List Int}{m b:Nat}(hm:m<256):M.fx bm (pI m b) (nX l (2 ^ n))=some (Fx n (fun x=>(x:Int)∈l) m b):=by
 have h8:=nl hn;unfold M.fx;refine Wp.eq ?_
 refine Wp.count (fun s=>s) (2 ^ n) (fun k _=>∀x:Nat,x<k->x&&& m=b->(x:Int)∈l) (by omega) rfl (fun x hx=>absurd hx (by omega)) fun k s hk hs hJ=>?_
 subst hs;rw[show((nX l (2 ^ n)).length:Int)=((2 ^ n:Nat):Int)from nY _ _];refine .dec (fun h=>?_) (fun h=> .some ?_)
 .have av:k<2 ^ n:=by omega
  refine Wp.seq (fun j=>j=true↔k&&& m=b/\¬(k:Int)∈l) (.ba (np hm (by omega)) (.dec (fun h1=> .bind (u5 av (.some ?_))) (fun h1=> .some ⟨fun h=>(by cases h),fun h=>absurd h.1 h1⟩))) fun j hj=> .ite (fun h1=> .some ?_) (fun h1=> .some ⟨av,aD (by omega),fun x hx he=>?_⟩)
  .rw[Bool.not_eq_true',decide_eq_false_iff_not];exact⟨fun h=>⟨h1,h⟩,fun h=>h.2⟩
  .show false=Fx _ _ _ _
   refine(Bool.eq_false_iff.2 fun g=>?_).symm;exact(hj.1 h1).2 (o6.1 g k av (hj.1 h1).1)
  .rcases YQ.1 hx with hx|rfl
   .exact hJ x hx he
   .exact Classical.byContradiction fun g=>h1 (hj.2 ⟨he,g⟩)
 .have:k=2 ^ n:=by omega
  subst this;exact(o6.2 hJ).symm
theorem xf{n:Nat}{S:Nat->Prop}{m b:Nat}(hm:m<2 ^ n)(hb:b&&& m=b):Fx n S m b=true↔nk n S m b:=by
 rw[o6];exact⟨fun h=>⟨hm,hb,h⟩,fun h=>h.2.2⟩
theorem HJ{m b j:Nat}(h:b&&& m=b):dR b (2 ^ j)&&& dR m (2 ^ j)=dR b (2 ^ j):=by
 rw[ec];intro i;rw[bD,bD];have:=ec.1 h i;intro h2;simp only[Zr]at h2⊢;exact⟨this h2.1,h2.2⟩
theorem AE{m j:Nat}:m&&& 2 ^ j=0↔m.testBit j=false:=by
 constructor
 .intro h;have:=congrArg (fun x=>x.testBit j) h;simpa[Nat.testBit_and,dh]using this
 .intro h;apply ZT;intro i;rw[Nat.testBit_and,dh,Nat.zero_testBit];by_cases e:j=i
  .subst e;simp[h]
  .simp[e]
theorem Fy{n:Nat}(hn:n<=8){l:List Int}{m b:Nat}(hm:m<2 ^ n)(hb:b&&& m=b):Wp (M.lE bm (pI m b) (nX l (2 ^ n))) fun r=>r=true↔zv n (fun x=>(x:Int)∈l) m b:=by
 have h8:=nl hn;have Ls:b<2 ^ n:=Nat.lt_of_le_of_lt (by rw[<-hb];exact Nat.and_le_right) hm;unfold M.lE;refine .ba (nZ hn (by omega)) ?_;have hi:=xf (S:=fun x=>(x:Int)∈l) hm hb
 cases hv:Fx n (fun x=>(x:Int)∈l) m b with
 |false=>
  refine .some ⟨fun h=>(by cases h),fun h=>?_⟩;rw[hv]at hi;exact absurd (hi.2 h.1) (by simp)
 |true=>
  rw[hv]at hi;have hI:=hi.1 rfl
  refine Wp.ite (fun h=>absurd h (by simp)) fun _=>?_
  refine Wp.loop (fun s=>∃j:Nat,j<=n/\s=((2 ^ j:Nat):Int)/\∀i,i<j->m.testBit i=true->¬nk n (fun x=>(x:Int)∈l) (dR m (2 ^ i)) (dR b (2 ^ i))) (fun s=>1000-s.toNat) ⟨0,Nat.zero_le _,rfl,fun i hi=>absurd hi (by omega)⟩ (by unfold bm;omega) fun s hs=>?_
  obtain⟨j,hj,rfl,hJ⟩:=hs;rw[show((nX l (2 ^ n)).length:Int)=((2 ^ n:Nat):Int)from nY _ _];refine .dec (fun h=>?_) (fun h=> .some ?_)
  .have av:2 ^ j<2 ^ n:=by omega
   have Pb:j<n:=(Nat.pow_lt_pow_iff_right (by omega)).1 av;have e0:al .and .i64 (pI m b).1 ((2 ^ j:Nat):Int)=((m&&& 2 ^ j:Nat):Int):=Fm (by omega) (by omega);have e1:al .andNot .i64 (pI m b).1 ((2 ^ j:Nat):Int)=(dR m (2 ^ j):Nat):=CC (by omega) (by omega);have e2:al .andNot .i64 (pI m b).2 ((2 ^ j:Nat):Int)=(dR b (2 ^ j):Nat):=CC (by omega) (by omega);have Gw:=Fo m (2 ^ j)
   refine Wp.seq (fun q=>q=true↔m.testBit j=true/\nk n (fun x=>(x:Int)∈l) (dR m (2 ^ j)) (dR b (2 ^ j))) ?_ fun q hq=> .ite (fun h1=> .some ⟨fun h=>(by cases h),fun h=>absurd (hq.1 h1).2 (h.2 j Pb (hq.1 h1).1)⟩) (fun h1=> .some ?_)
   .rw[e0,e1,e2];refine .pQ (fun h1=> .ba (nZ (m:=dR m (2 ^ j)) (b:=dR b (2 ^ j)) hn (by omega)) (.some ?_)) (fun h1=> .some ⟨fun h=>(by cases h),fun h=>?_⟩)
    .have C2:m.testBit j=true:=by
      cases e:m.testBit j with
      |true=>rfl
      |false=>exact absurd (by rw[AE.2 e];rfl) h1
     rw[xf (by omega) (HJ hb)];exact⟨fun h=>⟨C2,h⟩,fun h=>h.2⟩
    .have h1:m&&& 2 ^ j=0:=by exact_mod_cast h1
     rw[AE.1 h1]at h;cases h.1
   .have e:((2 ^ j:Nat):Int)*2=((2 ^ (j+1):Nat):Int):=by rw[Nat.pow_succ];simp
    have Kz:2 ^ (j+1)=2*2 ^ j:=by rw[Nat.pow_succ,Nat.mul_comm]
    have hp:=Nat.two_pow_pos j
    show EX _ _ _ _ (.inl (YC.wrap (((2 ^ j:Nat):Int)*2)))
    rw[e,wrap_i64 (by omega)];refine⟨⟨j+1,Pb,rfl,fun i gH=>?_⟩,by show 1000-(((2 ^ (j+1):Nat):Int)).toNat<1000-(((2 ^ j:Nat):Int)).toNat;omega⟩
    rcases YQ.1 gH with gH|rfl
    .exact hJ i gH
    .exact fun h3 h4=>h1 (hq.2 ⟨h3,h4⟩)
  .have hge:2 ^ n<=2 ^ j:=by omega
   have:j=n:=by
    have:=(Nat.pow_le_pow_iff_right (a:=2) (by omega)).1 hge;omega
   subst this;exact⟨fun _=>⟨hI,hJ⟩,fun _=>rfl⟩
end L
end Go.Proofs.YtbladfbbhijpmaaGreat
end
section
open _root_.Bool renaming and_eq_true->Zr
open _root_.Classical renaming propDecidable->Zj
open _root_.List renaming any_eq_true->ZJ,mem_cons->YM,mem_cons_of_mem->Zc,mem_cons_self->Zp,mem_filter->Za,mem_range->Y5,mem_singleton->YJ,pairwise_cons->Y7,range->YI
namespace Go.Proofs.YtbladfbbhijpmaaGreat
open Go Go.RowKit
set_option maxRecDepth 100000
namespace L
theorem pR(a b:Int):bP ae a b=decide (a=b):=rfl
theorem Fz(l:List (Int×Bool))(k:Int)(v:Bool)(x:Int):aX ae (jK ae l k v) x=if x=k then some v else aX ae l x:=by
 induction l with
 |nil=>
  show(if bP ae k x=true then some v else none)=if x=k then some v else none
  simp only[pR,decide_eq_true_eq];by_cases h:x=k
  .rw[if_pos h,if_pos h.symm]
  .rw[if_neg h,if_neg (Ne.symm h)]
 |cons p l ih=>
  unfold jK;by_cases h:p.1=k
  .rw[if_pos (by rw[pR];exact decide_eq_true h)];unfold aX;simp only[pR,decide_eq_true_eq];by_cases hx:x=k
   .rw[if_pos hx,if_pos (by rw[hx];exact h)]
   .have g:¬p.1=x:=by rw[h];exact Ne.symm hx
    rw[if_neg hx,if_neg g,if_neg g]
  .rw[if_neg (by rw[pR];simpa using h)];unfold aX;rw[ih];simp only[pR,decide_eq_true_eq];by_cases hx:x=k
   .rw[if_pos hx,if_neg (by rw[hx];exact h),if_pos hx]
   .rw[if_neg hx,if_neg hx]
theorem CE{l:List (Int×Bool)}{x:Int}(h:∀p∈l,p.1≠x):aX ae l x=none:=by
 induction l with
 |nil=>rfl
 |cons p l ih=>
  unfold aX;rw[if_neg (by rw[pR];simpa using h p Zp)]
  exact ih fun q hq=>h q (Zc _ hq)
abbrev DI(l:List (Int×Bool)):Prop:=l.Pairwise fun p q=>p.1≠q.1
theorem HK(l:List (Int×Bool))(k:Int):(kU ae l k).Sublist l:=by
 induction l with
 |nil=>exact .slnil
 |cons p l ih=>
  unfold kU;split
  .exact .cons _ (List.Sublist.refl _)
  .exact ih.cons_cons _
theorem FA{l:List (Int×Bool)}(hd:DI l)(k x:Int):aX ae (kU ae l k) x=if x=k then none else aX ae l x:=by
 induction l with
 |nil=>show none=if x=k then none else none;split<;>rfl
 |cons p l ih=>
  obtain⟨h1,h2⟩:=Y7.1 hd;unfold kU;by_cases h:p.1=k
  .rw[if_pos (by rw[pR];exact decide_eq_true h)];by_cases hx:x=k
   .rw[if_pos hx]
    exact CE fun q hq=>by rw[hx,<-h];exact(h1 q hq).symm
   .rw[if_neg hx]
    show _=if bP ae p.1 x=true then some p.2 else aX ae l x
    rw[if_neg (by rw[pR,h];simpa using Ne.symm hx)]
  .rw[if_neg (by rw[pR];simpa using h)];unfold aX;rw[ih h2];simp only[pR,decide_eq_true_eq];by_cases hx:x=k
   .rw[if_pos hx,if_neg (by rw[hx];exact h),if_pos hx]
   .rw[if_neg hx,if_neg hx]
theorem DI.put{l:List (Int×Bool)}(hd:DI l)(k:Int)(v:Bool):DI (jK ae l k v):=by
 have hm:∀{l:List (Int×Bool)}{q:Int×Bool},q∈jK ae l k v->q.1=k\/q∈l:=by
  intro l
  induction l with
  |nil=>intro q hq;exact .inl (by rw[YJ.1 hq])
  |cons p l ih=>
   intro q hq;unfold jK at hq;split at hq
   .rename_i e;rw[pR,decide_eq_true_eq]at e
    rcases YM.1 hq with rfl|hq
    .exact .inl e
    .exact .inr (Zc _ hq)
   .rcases YM.1 hq with rfl|hq
    .exact .inr Zp
    .exact(ih hq).imp id (Zc _)
 induction l with
 |nil=>exact List.pairwise_singleton _ _
 |cons p l ih=>
  obtain⟨h1,h2⟩:=Y7.1 hd;unfold jK;split
  .exact Y7.2 ⟨h1,h2⟩
  .rename_i e;rw[pR,decide_eq_true_eq]at e;refine Y7.2 ⟨fun q hq=>?_,ih h2⟩
   rcases hm hq with g|g
   .rw[g];exact e
   .exact h1 q g
def Bs(m:Nat):List (Nat×Nat):=((YI (m+1)).filter fun b=>decide (b&&& m=b)).map fun b=>(m,b)
noncomputable def Ms(n c:Nat):List (Nat×Nat):=(YI (2 ^ n)).flatMap fun m:Nat=>if dN (m:Int)=(c:Int)then Bs m else[]
noncomputable def Pt(n:Nat):List (Nat×Nat):=(YI (n+1)).flatMap (Ms n)
theorem u6{m:Nat}{p:Nat×Nat}:p∈Bs m↔p.1=m/\p.2&&& p.1=p.2:=by
 unfold Bs;rw[List.mem_map];constructor
 .rintro⟨b,hb,rfl⟩
  exact⟨rfl,of_decide_eq_true (Za.1 hb).2⟩
 .rintro⟨rfl,h⟩
  refine⟨p.2,Za.2 ⟨Y5.2 ?_,decide_eq_true h⟩,rfl⟩
  have:p.2<=p.1:=by rw[<-h];exact Nat.and_le_right
  omega
theorem u7{n c:Nat}{p:Nat×Nat}:p∈Ms n c↔p.1<2 ^ n/\dN (p.1:Int)=(c:Int)/\p.2&&& p.1=p.2:=by
 unfold Ms;rw[List.mem_flatMap];constructor
 .rintro⟨m,hm,hp⟩
  split at hp
  .obtain⟨h1,h2⟩:=u6.1 hp;subst h1;exact⟨Y5.1 hm,by assumption,h2⟩
  .simp at hp
 .rintro⟨h1,h2,h3⟩
  exact⟨p.1,Y5.2 h1,by rw[if_pos h2];exact u6.2 ⟨rfl,h3⟩⟩
theorem lK{n:Nat}(hn:n<=8){p:Nat×Nat}:p∈Pt n↔p.1<2 ^ n/\p.2&&& p.1=p.2:=by
 unfold Pt;rw[List.mem_flatMap];constructor
 .rintro⟨c,hc,hp⟩
  obtain⟨h1,_,h3⟩:=u7.1 hp;exact⟨h1,h3⟩
 .rintro⟨h1,h3⟩
  obtain⟨c,hc,h2⟩:=HI hn h1;exact⟨c,Y5.2 (by omega),u7.2 ⟨h1,h2,h3⟩⟩
theorem o7(n:Nat):(Pt n).Pairwise fun p q=>k0 (pI p.1 p.2) (pI q.1 q.2):=by
 unfold Pt;refine List.pairwise_flatMap.2 ⟨fun c _=>?_,List.pairwise_lt_range.imp fun{c d}Yp x hx y hy=>?_⟩
 .unfold Ms;refine List.pairwise_flatMap.2 ⟨fun m _=>?_,List.pairwise_lt_range.imp fun{m m'}hm x hx y hy=>?_⟩
  .split
   .unfold Bs;refine List.pairwise_map.2 ((List.pairwise_lt_range.filter _).imp fun{a b}h=>?_);refine .inr ⟨rfl, .inr ⟨rfl,?_⟩⟩
    show(a:Int)<b
    omega
   .exact .nil
  .split at hx
   .split at hy
    .rename_i h1 h2;obtain⟨e1,_⟩:=u6.1 hx;obtain⟨e2,_⟩:=u6.1 hy;subst e1 e2;refine .inr ⟨h1.trans h2.symm, .inl ?_⟩
     show(x.1:Int)<y.1
     omega
    .simp at hy
   .simp at hx
 .obtain⟨_,h1,_⟩:=u7.1 hx;obtain⟨_,h2,_⟩:=u7.1 hy;refine .inl ?_
  show dN (x.1:Int)<dN (y.1:Int)
  omega
noncomputable def r9(n:Nat)(S:Nat->Prop)(p:Nat×Nat):Bool:= @decide (zv n S p.1 p.2) (Zj _)
theorem n4{n:Nat}{S:Nat->Prop}{p:Nat×Nat}:r9 n S p=true↔zv n S p.1 p.2:= @decide_eq_true_iff _ (Zj _)
def dO(k:Nat)(mem:Nat->Bool):(Nat->Bool)->List (Nat×Nat)->List (Int×Int)
 |_,[]=>[]
 |cov,p::l=>if dm k mem cov p.1 p.2=true then pI p.1 p.2::dO k mem (fun x=>cov x||decide (x&&& p.1=p.2)) l else dO k mem cov l
theorem jt{k:Nat}{mem cov:Nat->Bool}{p:Nat×Nat}{l:List (Nat×Nat)}:dO k mem cov (p::l)=if dm k mem cov p.1 p.2=true then pI p.1 p.2::dO k mem (fun x=>cov x||decide (x&&& p.1=p.2)) l else dO k mem cov l:=rfl
noncomputable def CF(n:Nat)(S:Nat->Prop)(mem:Nat->Bool):List (Int×Int):=dO (2 ^ n) mem (fun _=>false) ((Pt n).filter (r9 n S))
theorem kK{k:Nat}{mem:Nat->Bool}:∀{l:List (Nat×Nat)}{cov cov':Nat->Bool},(∀x,x<k->mem x=true->cov x=cov' x)->dO k mem cov l=dO k mem cov' l
 |[],_,_,_=>rfl
 |p::l,cov,cov',h=>by
  have e:dm k mem cov p.1 p.2=dm k mem cov' p.1 p.2:=by
   unfold dm;rw[Bool.eq_iff_iff,ZJ,ZJ];constructor
   .rintro⟨x,hx,h2⟩
    have:mem x=true:=by simp only[Zr]at h2;exact h2.1.2
    exact⟨x,hx,by rw[<-h x (Y5.1 hx) this];exact h2⟩
   .rintro⟨x,hx,h2⟩
    have:mem x=true:=by simp only[Zr]at h2;exact h2.1.2
    exact⟨x,hx,by rw[h x (Y5.1 hx) this];exact h2⟩
  unfold dO;rw[e,kK (cov:=cov) (cov':=cov') h,kK (cov:=fun x=>cov x||decide (x&&& p.1=p.2)) (cov':=fun x=>cov' x||decide (x&&& p.1=p.2)) fun x hx hm=>by rw[h x hx hm]]
end L
end Go.Proofs.YtbladfbbhijpmaaGreat
end
section
open _root_.Bool renaming and_eq_true->Zr
open _root_.Int renaming eq_ofNat_of_zero_le->YN
open _root_.Go.IntKind renaming i64->YC
open _root_.List renaming any_eq_true->ZJ,drop_eq_getElem_cons->Zd,getElem_mem->YP,length_map->ZI,mem_append->YL,mem_filter->Za,mem_range->Y5,mem_singleton->YJ,range->YI,take_append_getElem->Y1,take_length->YS
open _root_.Nat renaming le_refl->YD,lt_succ_iff_lt_or_eq->YQ
open _root_.Option renaming bind_some->YB
namespace Go.Proofs.YtbladfbbhijpmaaGreat
open Go Go.RowKit
set_option maxRecDepth 100000
namespace L
def cP(l:List Int)(x:Nat):Bool:=decide ((x:Int)∈l)
theorem xg{m b x:Nat}(hm:m<256)(hx:x<256):M.cY bm (pI m b) (x:Int)=some (decide (x&&& m=b)):=by
 unfold M.cY;rw[Fm (by omega) (by omega)]
 congr 1
 exact decide_eq_decide.2 (by show((x&&& m:Nat):Int)=(b:Int)↔_;omega)
theorem FB{l:List Int}(hl:l.length<=1000000)(a:Int):M.eY bm l a=some (CF (xG a) (fun x=>(x:Int)∈l) (cP l)):=by
 have hn:=rr a;generalize R2:xG a=n at hn;have h8:=nl hn;have nz:=Nat.two_pow_pos n;unfold M.eY;rw[xe,YB,R2,gF (by omega),YB];refine Wp.eq (Wp.seq (fun j=>DI j.1/\(∀x:Nat,x<2 ^ n->((aX ae j.1 (x:Int)).getD false=true↔(x:Int)∈l))/\gj j.2/\∀p,In j.2 p↔∃x:Nat,x<2 ^ n/\(x:Int)∈l/\p=pI (2 ^ n-1) x) ?_ fun j hj=>?_)
 .refine Wp.count (fun s=>s.1) l.length (fun k s=>DI s.2.1/\(∀x:Nat,x<2 ^ n->((aX ae s.2.1 (x:Int)).getD false=true↔(x:Int)∈l.take k))/\gj s.2.2/\∀p,In s.2.2 p↔∃x:Nat,x<2 ^ n/\(x:Int)∈l.take k/\p=pI (2 ^ n-1) x) (by omega) rfl ⟨.nil,fun x hx=>by simp[aX], .nil,fun p=>by simp[In,aX]⟩ fun k s hk hs hJ=>?_
  obtain⟨kk,R3,im⟩:=s;obtain⟨g1,g2,g3,g4⟩:=hJ;dsimp only at hs g1 g2 g3 g4⊢;subst hs;refine .dec (fun h=>?_) (fun h=> .some ?_)
  .have av:k<l.length:=by omega
   have Br:∀y:Int,y∈l.take (k+1)↔y∈l.take k\/y=l[k]:=fun y=>by rw[<-Y1 av,YL,YJ]
   refine Wp.seq (fun s=>DI s.1/\(∀x:Nat,x<2 ^ n->((aX ae s.1 (x:Int)).getD false=true↔(x:Int)∈l.take (k+1)))/\gj s.2/\∀p,In s.2 p↔∃x:Nat,x<2 ^ n/\(x:Int)∈l.take (k+1)/\p=pI (2 ^ n-1) x) (.bind (.idx k rfl av ?_)) fun j hj=> .some ⟨av,aD (by omega),hj⟩
   refine Wp.seq (fun j=>j=true↔0<=l[k]/\l[k]<((2 ^ n:Nat):Int)) (.dec (fun h0=> .some ?_) (fun h0=> .some ⟨fun h=>(by cases h),fun h=>absurd h.1 h0⟩)) fun j hj=> .ite (fun Fu=> .some ?_) (fun Kg=> .some ?_)
   .rw[decide_eq_true_eq];exact⟨fun h=>⟨h0,h⟩,fun h=>h.2⟩
   .obtain⟨x,hx⟩:=YN (hj.1 Fu).1
    have xK:x<2 ^ n:=by have:=(hj.1 Fu).2;rw[hx]at this;exact_mod_cast this
    have hw:YC.wrap (((2 ^ n:Nat):Int)-1)=((2 ^ n-1:Nat):Int):=by
     rw[show((2 ^ n:Nat):Int)-1=((2 ^ n-1:Nat):Int) by omega,wrap_i64 (by omega)]
    rw[hw,hx];refine⟨g1.put _ _,fun y hy=>?_,g3.put _,fun p=>?_⟩
    .show(aX ae (jK ae R3 (x:Int) true) (y:Int)).getD false=true↔_
     rw[Fz,Br,hx];by_cases e:(y:Int)=x
     .rw[if_pos e];simp[e]
     .rw[if_neg e,g2 y hy];simp[e]
    .refine(uZ g3 (p:=pI (2 ^ n-1) x)).trans ?_;rw[g4];constructor
     .rintro(e|⟨y,h1,h2,h3⟩)
      .exact⟨x,xK,(Br _).2 (.inr hx.symm),e⟩
      .exact⟨y,h1,(Br _).2 (.inl h2),h3⟩
     .rintro⟨y,h1,h2,h3⟩
      rcases(Br _).1 h2 with h2|h2
      .exact .inr ⟨y,h1,h2,h3⟩
      .have:y=x:=by rw[hx]at h2;exact_mod_cast h2
       subst this;exact .inl h3
   .have Nj:∀y:Nat,y<2 ^ n->(y:Int)≠l[k]:=fun y hy e=>Kg (hj.2 ⟨by omega,by rw[<-e];exact_mod_cast hy⟩)
    refine⟨g1,fun y hy=>?_,g3,fun p=>?_⟩
    .rw[Br];exact(g2 y hy).trans ⟨.inl,fun h=>h.resolve_right (Nj y hy)⟩
    .rw[show In (R3,im).2 p↔_ from g4 p];constructor
     .rintro⟨y,h1,h2,h3⟩;exact⟨y,h1,(Br _).2 (.inl h2),h3⟩
     .rintro⟨y,h1,h2,h3⟩;exact⟨y,h1,((Br _).1 h2).resolve_right (Nj y h1),h3⟩
  .have:k=l.length:=by omega
   subst this;rw[YS]at g2 g4;exact⟨g1,g2,g3,g4⟩
 .obtain⟨Xo,im⟩:=j;obtain⟨j1,j2,j3,j4⟩:=hj;dsimp only at j1 j2 j3 j4⊢
  refine Wp.seq (zu n fun x=>(x:Int)∈l) (RZ n hn (fun x=>(x:Int)∈l) im j3 j4) fun ms Jo=>Wp.seq (Ft n (fun x=>(x:Int)∈l) ms) (CD n hn _ ms Jo) fun r hr=>?_
  obtain⟨Yq,pr⟩:=r;obtain⟨-,Tv,Tw⟩:=hr;dsimp only at Tv Tw⊢
  have Xp:pr=((Pt n).filter (r9 n fun x=>(x:Int)∈l)).map fun p=>pI p.1 p.2:=by
   refine pC Tv (List.pairwise_map.2 ((o7 n).filter _)) fun p=>(Tw p).trans ?_
   rw[List.mem_map];constructor
   .rintro⟨m,b,rfl,h⟩
    exact⟨(m,b),Za.2 ⟨(lK hn).2 ⟨h.1.1,h.1.2.1⟩,n4.2 h⟩,rfl⟩
   .rintro⟨q,hq,rfl⟩
    exact⟨q.1,q.2,rfl,n4.1 (Za.1 hq).2⟩
  subst Xp;unfold CF
  have hQ:∀p∈(Pt n).filter (r9 n fun x=>(x:Int)∈l),p.1<2 ^ n:=fun p hp=>((lK hn).1 (Za.1 hp).1).1
  have Xq:((Pt n).filter (r9 n fun x=>(x:Int)∈l)).length<=65536:=by
   have:=mo (A:=((Pt n).filter (r9 n fun x=>(x:Int)∈l)).map fun p=>p.1*256+p.2) (B:=YI 65536) ?_ fun x hx=>?_
   .simpa using this
   .rw[List.Nodup,List.pairwise_map];refine List.Pairwise.imp_of_mem (fun{p q}hp hq av e=>?_) ((o7 n).filter _);have h1:=(lK hn).1 (Za.1 hp).1;have h2:=(lK hn).1 (Za.1 hq).1
    have h3:p.2<=p.1:=by rw[<-h1.2];exact Nat.and_le_right
    have h4:q.2<=q.1:=by rw[<-h2.2];exact Nat.and_le_right
    have h5:p.1=q.1/\p.2=q.2:=by omega
    rw[h5.1,h5.2]at av;exact k0.irrefl _ av
   .obtain⟨p,hp,rfl⟩:=List.mem_map.1 hx;have h1:=(lK hn).1 (Za.1 hp).1
    have h3:p.2<=p.1:=by rw[<-h1.2];exact Nat.and_le_right
    exact Y5.2 (by omega)
  generalize(Pt n).filter (r9 n fun x=>(x:Int)∈l)=Q at hQ Xq⊢
  refine Wp.count (fun s=>s.1) Q.length (fun k s=>∃cov:Nat->Bool,DI s.2.1/\(∀x:Nat,x<2 ^ n->(aX ae s.2.1 (x:Int)).getD false=(cP l x&& !cov x))/\s.2.2++dO (2 ^ n) (cP l) cov (Q.drop k)=dO (2 ^ n) (cP l) (fun _=>false) Q/\s.2.2.length<=k) (by omega) rfl ⟨fun _=>false,j1,fun x hx=>by rw[Bool.eq_iff_iff,j2 x hx];simp[cP],rfl,YD _⟩ fun k s hk hs hJ=>?_
  obtain⟨kk,R3,KR⟩:=s;obtain⟨cov,g1,g2,g3,g4⟩:=hJ;dsimp only at hs g1 g2 g3 g4⊢;subst hs;rw[ZI];refine .dec (fun h=>?_) (fun h=> .some ?_)
  .have av:k<Q.length:=by omega
   have hm:=hQ _ (YP av);rw[Zd av]at g3
   refine Wp.seq (fun s=>∃cov:Nat->Bool,DI s.1/\(∀x:Nat,x<2 ^ n->(aX ae s.1 (x:Int)).getD false=(cP l x&& !cov x))/\s.2++dO (2 ^ n) (cP l) cov (Q.drop (k+1))=dO (2 ^ n) (cP l) (fun _=>false) Q/\s.2.length<=k+1) ?_ fun j hj=> .some ⟨av,aD (by omega),hj⟩
   refine Wp.seq (fun s=>∃cov:Nat->Bool,DI s.1/\(∀x:Nat,x<2 ^ n->(aX ae s.1 (x:Int)).getD false=(cP l x&& !cov x))/\s.2++dO (2 ^ n) (cP l) cov (Q.drop (k+1))=dO (2 ^ n) (cP l) (fun _=>false) Q/\s.2.length<=k+1) (.bind (.idx k rfl (by simpa using av) ?_)) fun j hj=> .some hj
   rw[List.getElem_map];generalize hp:Q[k]=p at hm g3
   refine Wp.seq (fun s=>DI s.2/\(∀x:Nat,x<2 ^ n->(aX ae s.2 (x:Int)).getD false=(cP l x&& !(cov x||decide (x&&& p.1=p.2))))/\s.1=dm (2 ^ n) (cP l) cov p.1 p.2) ?_ fun t ht=>?_
   .refine Wp.count (fun s=>s.2.1) (2 ^ n) (fun j s=>DI s.2.2/\(∀x:Nat,x<2 ^ n->(aX ae s.2.2 (x:Int)).getD false=(cP l x&& !(cov x||(decide (x<j)&&decide (x&&& p.1=p.2)))))/\(s.1=true↔∃x,x<j/\(decide (x&&& p.1=p.2)&&cP l x&& !cov x)=true)) (by omega) rfl ⟨g1,fun x hx=>by rw[g2 x hx];simp,by simp⟩ fun j s hj hs hJ=>?_
    obtain⟨u,jj,mi⟩:=s;obtain⟨f1,f2,f3⟩:=hJ;dsimp only at hs f1 f2 f3⊢;subst hs;refine .dec (fun h=>?_) (fun h=> .some ?_)
    .have yA:j<2 ^ n:=by omega
     have xh:=f2 j yA
     have Xr:decide (j<j)=false:=by simp
     rw[Xr,Bool.false_and,Bool.or_false]at xh
     refine Wp.seq (fun s=>DI s.2/\(∀x:Nat,x<2 ^ n->(aX ae s.2 (x:Int)).getD false=(cP l x&& !(cov x||(decide (x<j+1)&&decide (x&&& p.1=p.2)))))/\(s.1=true↔∃x,x<j+1/\(decide (x&&& p.1=p.2)&&cP l x&& !cov x)=true)) ?_ fun q hq=> .some ⟨yA,aD (by omega),hq⟩
     refine Wp.seq (fun t=>t=(decide (j&&& p.1=p.2)&&cP l j&& !cov j)) ?_ fun t ht=>?_
     .refine .ite (fun h1=> .ba (xg (by omega) (by omega)) (.some ?_)) (fun h1=> .some ?_)
      .rw[h1]at xh;rw[Bool.and_assoc,<-xh,Bool.and_true]
      .have h1:(aX ae mi (j:Int)).getD false=false:=by simpa using h1
       rw[h1]at xh;rw[Bool.and_assoc,<-xh,Bool.and_false]
     .subst ht
      have hex:(∃x,x<j+1/\(decide (x&&& p.1=p.2)&&cP l x&& !cov x)=true)↔(∃x,x<j/\(decide (x&&& p.1=p.2)&&cP l x&& !cov x)=true)\/(decide (j&&& p.1=p.2)&&cP l j&& !cov j)=true:=by
       constructor
       .rintro⟨x,h1,h2⟩
        rcases YQ.1 h1 with h1|rfl
        .exact .inl ⟨x,h1,h2⟩
        .exact .inr h2
       .rintro(⟨x,h1,h2⟩|h)
        .exact⟨x,by omega,h2⟩
        .exact⟨j,by omega,h⟩
      refine .ite (fun ht=> .some ⟨List.Pairwise.sublist (HK _ _) f1,fun x hx=>?_,⟨fun _=>hex.2 (.inr ht),fun _=>rfl⟩⟩) (fun ht=> .some ⟨f1,fun x hx=>?_,f3.trans (by rw[hex];exact⟨.inl,fun h=>h.resolve_right ht⟩)⟩)
      .show(aX ae (kU ae mi (j:Int)) (x:Int)).getD false=_
       rw[FA f1];by_cases e:x=j
       .subst e;simp only[Zr,decide_eq_true_eq]at ht;simp[ht.1.1]
       .have e1:¬(x:Int)=j:=fun g=>e (by exact_mod_cast g)
        rw[if_neg e1,f2 x hx];have:decide (x<j+1)=decide (x<j):=decide_eq_decide.2 (by omega);rw[this]
      .show(aX ae mi (x:Int)).getD false=_
       rw[f2 x hx];by_cases e:x=j
       .subst e
        cases h1:decide (x&&& p.1=p.2)<;>cases h2:cP l x<;>cases h3:cov x<;>simp_all
       .have:decide (x<j+1)=decide (x<j):=decide_eq_decide.2 (by omega);rw[this]
    .have:j=2 ^ n:=by omega
     subst this;refine⟨f1,fun x hx=>by rw[f2 x hx,decide_eq_true hx,Bool.true_and],?_⟩;unfold dm;rw[Bool.eq_iff_iff,f3,ZJ];exact⟨fun⟨x,h1,h2⟩=>⟨x,Y5.2 h1,h2⟩,fun⟨x,h1,h2⟩=>⟨x,Y5.1 h1,h2⟩⟩
   .obtain⟨f1,f2,f3⟩:=ht;rw[jt,<-f3]at g3;refine .ite (fun h1=> .bind (.px (by simp;omega) (.some ⟨fun x=>cov x||decide (x&&& p.1=p.2),f1,f2,?_,by simp;omega⟩))) (fun h1=> .some ⟨fun x=>cov x||decide (x&&& p.1=p.2),f1,f2,?_,by show KR.length<=k+1;omega⟩)
    .rw[if_pos h1]at g3;rw[<-g3];simp
    .rw[if_neg h1]at g3;rw[<-g3]
     congr 1
     refine kK fun x hx DS=>?_
     have hf:dm (2 ^ n) (cP l) cov p.1 p.2=false:=by rw[<-f3];simpa using h1
     unfold dm at hf;have:=List.any_eq_false.1 hf x (Y5.2 hx);rw[DS]at this
     cases h2:decide (x&&& p.1=p.2)<;>cases h3:cov x<;>simp_all
  .have:k=Q.length:=by omega
   subst this;rw[List.drop_length]at g3
   show KR=_
   rw[<-g3];simp[dO]
end L
end Go.Proofs.YtbladfbbhijpmaaGreat
end
section
open _root_.Int renaming toNat_natCast->YK
open _root_.List renaming append_assoc->Y2,filter_cons->aae,map_append->ZH,mem_range->Y5,range->YI,replicate->Y4
open _root_.Nat renaming le_trans->Y3,mul_le_mul_right->YX
open _root_.Option renaming bind_some->YB
namespace Go.Proofs.YtbladfbbhijpmaaGreat
open Go Go.RowKit
set_option maxRecDepth 100000
namespace L
def Tr(n:Nat)(l:List Int)(Q:List (Nat×Nat))(s s':(Nat->Bool)×List (Int×Int)):Prop:=
 ∀R:List (Nat×Nat),s.2++dO (2 ^ n) (cP l) s.1 ((Q++R).filter (r9 n fun x=>(x:Int)∈l))=s'.2++dO (2 ^ n) (cP l) s'.1 (R.filter (r9 n fun x=>(x:Int)∈l))
theorem Tr.nil{n:Nat}{l:List Int}(s:(Nat->Bool)×List (Int×Int)):Tr n l [] s s:=fun _=>rfl
theorem Tr.trans{n:Nat}{l:List Int}{Q Q':List (Nat×Nat)}{s s' Tx:(Nat->Bool)×List (Int×Int)}(h:Tr n l Q s s')(g:Tr n l Q' s' Tx):Tr n l (Q++Q') s Tx:=fun R=>by
 rw[Y2,h,g]
theorem Tr.skip{n:Nat}{l:List Int}{p:Nat×Nat}{s:(Nat->Bool)×List (Int×Int)}(h:dm (2 ^ n) (cP l) s.1 p.1 p.2=false\/¬zv n (fun x=>(x:Int)∈l) p.1 p.2):Tr n l [p] s s:=fun R=>by
 congr 1
 rw[List.singleton_append,aae];split
 .rename_i hp;rw[jt]
  rcases h with h|h
  .rw[h];rfl
  .exact absurd (n4.1 hp) h
 .rfl
theorem Tr.take{n:Nat}{l:List Int}{p:Nat×Nat}{s:(Nat->Bool)×List (Int×Int)}(h:dm (2 ^ n) (cP l) s.1 p.1 p.2=true)(hp:zv n (fun x=>(x:Int)∈l) p.1 p.2):Tr n l [p] s (fun x=>s.1 x||decide (x&&& p.1=p.2),s.2++[pI p.1 p.2]):=fun R=>by
 rw[List.singleton_append,aae,if_pos (n4.2 hp),jt,if_pos h,Y2];rfl
theorem mq{α:Type}(f:Nat->List α)(k:Nat):(YI (k+1)).flatMap f=(YI k).flatMap f++f k:=by
 rw[List.range_succ,List.flatMap_append];simp
theorem pS(m k:Nat):((YI (k+1)).filter fun b=>decide (b&&& m=b)).map (fun b=>(m,b))=((YI k).filter fun b=>decide (b&&& m=b)).map (fun b=>(m,b))++(if k&&& m=k then[(m,k)]else[]):=by
 rw[gh,ZH]
 congr 1
 by_cases h:k&&& m=k<;>simp[h]
theorem HL{l:List Int}(hl:l.length<=1000000)(a:Int):M.iT bm l a=some (CF (xG a) (fun x=>(x:Int)∈l) (cP l)):=by
 have hn:=rr a;generalize R2:xG a=n at hn;have h8:=nl hn;have nz:=Nat.two_pow_pos n;unfold M.iT;rw[tB,YB,R2,zw hl hn,YB];have hlen:((nX l (2 ^ n)).length:Int)=((2 ^ n:Nat):Int):=nY _ _;rw[hlen]
 have nI:Y4 (((2 ^ n:Nat):Int)).toNat false=(YI (2 ^ n)).map fun _=>false:=by
  rw[YK];apply List.ext_getElem (by simp);intro i h1 h2;simp
 refine Wp.eq (.bind (kH.2 ⟨by have:((2 ^ n:Nat):Int)<=256:=by exact_mod_cast h8
                               have h0:(0:Int)<=((2 ^ n:Nat):Int):=Int.natCast_nonneg _
                               omega,?_⟩))
 rw[nI]
 refine Wp.count (fun s=>s.1) (n+1) (fun c s=>∃cov:Nat->Bool,s.2.1=(YI (2 ^ n)).map cov/\Tr n l ((YI c).flatMap (Ms n)) (fun _=>false,[]) (cov,s.2.2)/\s.2.2.length<=c*65536) (by omega) rfl ⟨fun _=>false,rfl,Tr.nil _,Nat.zero_le _⟩ fun c s hc hs hJ=>?_
 obtain⟨cc,Nk,KR⟩:=s;obtain⟨cov,rfl,hT,Nl⟩:=hJ;dsimp only at hs hT Nl⊢;subst hs;refine .dec (fun h=>?_) (fun h=> .some ?_)
 .have Xi:c<=n:=by omega
  refine Wp.seq (fun j=>∃cov':Nat->Bool,j.1=(YI (2 ^ n)).map cov'/\Tr n l (Ms n c) (cov,KR) (cov',j.2)/\j.2.length<=c*65536+65536) ?_ fun j hj=>?_
  .refine Wp.count (fun s=>s.1) (2 ^ n) (fun m s=>∃cov':Nat->Bool,s.2.1=(YI (2 ^ n)).map cov'/\Tr n l ((YI m).flatMap fun m:Nat=>if dN (m:Int)=(c:Int)then Bs m else[]) (cov,KR) (cov',s.2.2)/\s.2.2.length<=c*65536+m*256) (by omega) rfl ⟨cov,rfl,Tr.nil _,Y3 Nl (by omega)⟩ fun m s hm hs hJ=>?_
   obtain⟨mm,Nk,rs⟩:=s;obtain⟨cv,rfl,R4,FC⟩:=hJ;dsimp only at hs R4 FC⊢;subst hs;refine .dec (fun h=>?_) (fun h=> .some ?_)
   .have Gc:m<2 ^ n:=by exact_mod_cast h
    refine Wp.seq (fun j=>∃cov':Nat->Bool,j.1=(YI (2 ^ n)).map cov'/\Tr n l (if dN (m:Int)=(c:Int)then Bs m else[]) (cv,rs) (cov',j.2)/\j.2.length<=c*65536+m*256+256) ?_ fun j hj=>?_
    .refine Wp.seq (fun j=>∃cov':Nat->Bool,j.1=(YI (2 ^ n)).map cov'/\Tr n l (if dN (m:Int)=(c:Int)then Bs m else[]) (cv,rs) (cov',j.2)/\j.2.length<=c*65536+m*256+256) (.ba (Fv (by omega)) ?_) fun j hj=> .some hj
     refine .pQ (fun h1=> .some ⟨cv,rfl,by rw[if_neg h1];exact Tr.nil _,Y3 FC (by omega)⟩) (fun h1=>?_);rw[if_pos h1]
     refine Wp.count (fun s=>s.1) (m+1) (fun b s=>∃cov':Nat->Bool,s.2.1=(YI (2 ^ n)).map cov'/\Tr n l (((YI b).filter fun b=>decide (b&&& m=b)).map fun b=>(m,b)) (cv,rs) (cov',s.2.2)/\s.2.2.length<=c*65536+m*256+b) (by omega) rfl ⟨cv,rfl,Tr.nil _,Y3 FC (by omega)⟩ fun b s hb hs hJ=>?_
     obtain⟨bb,Nk,rt⟩:=s;obtain⟨cw,rfl,N8,Kh⟩:=hJ;dsimp only at hs N8 Kh⊢;subst hs;refine .dec (fun h=>?_) (fun h=> .some ?_)
     .have Yr:b<=m:=by omega
      refine Wp.seq (fun j=>∃cov':Nat->Bool,j.1=(YI (2 ^ n)).map cov'/\Tr n l (((YI (b+1)).filter fun b=>decide (b&&& m=b)).map fun b=>(m,b)) (cv,rs) (cov',j.2)/\j.2.length<=c*65536+m*256+(b+1)) ?_ fun j hj=> .some ⟨by omega,aD (by omega),hj⟩
      refine Wp.seq (fun j=>∃cov':Nat->Bool,j.1=(YI (2 ^ n)).map cov'/\Tr n l (((YI (b+1)).filter fun b=>decide (b&&& m=b)).map fun b=>(m,b)) (cv,rs) (cov',j.2)/\j.2.length<=c*65536+m*256+(b+1)) ?_ fun j hj=> .some hj
      rw[Fm (show b<9223372036854775808 by omega) (show m<9223372036854775808 by omega),pS]
      have Nn:(b&&& m=b->dm (2 ^ n) (cP l) cw m b=false\/¬zv n (fun x=>(x:Int)∈l) m b)->Tr n l (((YI b).filter fun b=>decide (b&&& m=b)).map (fun b=>(m,b))++(if b&&& m=b then[(m,b)]else[])) (cv,rs) (cw,rt):=fun h=>by
       refine N8.trans ?_;split
       .rename_i e;exact Tr.skip (h e)
       .exact Tr.nil _
      refine Wp.seq (fun j=>j=true↔(b&&& m=b->dm (2 ^ n) (cP l) cw m b=false\/¬zv n (fun x=>(x:Int)∈l) m b)) ?_ fun j hj=>?_
      .refine .pQ (fun h2=> .some ⟨fun _ e=>absurd (by rw[e]) h2,fun _=>rfl⟩) (fun h2=> .ba (Fw hn (by omega)) ?_)
       have h2:b&&& m=b:=by exact_mod_cast h2
       cases hf:dm (2 ^ n) (fun x=>decide ((x:Int)∈l)) cw m b with
       |false=>exact .ite (fun _=> .some ⟨fun _ _=> .inl hf,fun _=>rfl⟩) (fun h=>absurd rfl h)
       |true=>
        refine .ite (fun h=>absurd h (by simp)) (fun _=>Wp.seq (fun r=>r=true↔zv n (fun x=>(x:Int)∈l) m b) (Fy hn Gc h2) fun r hr=> .some ?_)
        cases Tz:r with
        |true=>exact⟨fun h=>(by cases h),fun h=>by
          rcases h h2 with h|h
          .have mr:dm (2 ^ n) (cP l) cw m b=true:=hf;rw[mr]at h;cases h
          .exact absurd (hr.1 Tz) h⟩
        |false=>exact⟨fun _ _=> .inr fun h=>absurd (Tz.symm.trans (hr.2 h)) (by simp),fun _=>rfl⟩
      .refine .ite (fun Fu=> .some ⟨cw,rfl,Nn (hj.1 Fu),Y3 Kh (by omega)⟩) (fun Kg=>?_)
       have Cx:=fun h=>Kg (hj.2 h)
       have h2:b&&& m=b:=Classical.byContradiction fun g=>Cx fun e=>absurd e g
       have tR:dm (2 ^ n) (cP l) cw m b=true:=by
        cases e:dm (2 ^ n) (cP l) cw m b with
        |true=>rfl
        |false=>exact absurd (fun _=> .inl e) Cx
       have Bp:zv n (fun x=>(x:Int)∈l) m b:=Classical.byContradiction fun g=>Cx fun _=> .inr g
       refine Wp.seq (fun j=>j=(YI (2 ^ n)).map fun x=>cw x||decide (x&&& m=b)) ?_ fun j hj=>?_
       .refine Wp.count (fun s=>s.1) (2 ^ n) (fun k s=>s.2=(YI (2 ^ n)).map fun x=>cw x||(decide (x<k)&&decide (x&&& m=b))) (by omega) rfl (by simp) fun k s hk hs hJ=>?_
        obtain⟨kk,cc⟩:=s;dsimp only at hs hJ⊢;subst hs hJ;refine .dec (fun h=>?_) (fun h=> .some ?_)
        .have Gq:k<2 ^ n:=by exact_mod_cast h
         have kc:∀v:Bool,v=(cw k||decide (k&&& m=b))->bg ((YI (2 ^ n)).map fun x=>cw x||(decide (x<k)&&decide (x&&& m=b))) (k:Int) v=(YI (2 ^ n)).map fun x=>cw x||(decide (x<k+1)&&decide (x&&& m=b)):=fun v hv=>by
          unfold bg;rw[YK,gD]
          refine List.map_congr_left fun y hy=>?_
          by_cases e:y=k
          .subst e;rw[if_pos rfl,hv];simp
          .rw[if_neg e];have:decide (y<k+1)=decide (y<k):=decide_eq_decide.2 (by omega);rw[this]
         refine Wp.seq (fun j=>j=(YI (2 ^ n)).map fun x=>cw x||(decide (x<k+1)&&decide (x&&& m=b))) (.bind (u5 Gq ?_)) fun j hj=> .some ⟨Gq,aD (by omega),hj⟩
         refine .ite (fun h1=> .bind (u5 Gq (.some (kc _ ?_)))) (fun h1=> .ba (np (by omega) (by omega)) (.bind (u5 Gq (.some (kc _ ?_)))))
         .have:cw k=true:=by simpa using h1
          rw[this];rfl
         .have:cw k=false:=by simpa using h1
          rw[this];rfl
        .have:k=2 ^ n:=by have:¬k<2 ^ n:=fun g=>h (by exact_mod_cast g);omega
         subst this
         refine List.map_congr_left fun x hx=>?_
         rw[decide_eq_true (Y5.1 hx),Bool.true_and]
       .refine .bind (.px (by have No:c*65536<=8*65536:=YX _ (by omega)
                              have:m*256<=256*256:=YX _ (by omega)
                              simp;omega) (.some ⟨_,hj,?_,by simp;omega⟩))
        refine N8.trans ?_;rw[if_pos h2];exact Tr.take (s:=(cw,rt)) tR Bp
     .have:b=m+1:=by omega
      subst this;exact⟨cw,rfl,N8,Y3 Kh (by omega)⟩
    .obtain⟨cov',h1,h2,h3⟩:=hj;refine .some ⟨Gc,aD (by omega),cov',h1,?_,Y3 h3 (by omega)⟩;rw[mq];exact R4.trans h2
   .have:m=2 ^ n:=by have:¬m<2 ^ n:=fun g=>h (by exact_mod_cast g);omega
    subst this;have:2 ^ n*256<=256*256:=YX _ h8;exact⟨cv,rfl,R4,Y3 FC (by omega)⟩
  .obtain⟨cov',h1,h2,h3⟩:=hj;refine .some ⟨by omega,aD (by omega),cov',h1,?_,Y3 h3 (by omega)⟩;rw[mq];exact hT.trans h2
 .have:c=n+1:=by omega
  subst this;have:=hT [];simp only[List.append_nil,List.nil_append,List.filter_nil,dO]at this
  show KR=_
  rw[<-this];rfl
end L
end Go.Proofs.YtbladfbbhijpmaaGreat
end
section
open _root_.Bool renaming and_eq_true->Zr
open _root_.List renaming all_eq_true->Z0,any_eq_true->ZJ,cons_append->Z8,drop_eq_getElem_cons->Zd,getElem_mem->YP,mem_append->YL,mem_cons_of_mem->Zc,mem_cons_self->Zp,mem_singleton->YJ,take_append_drop->ZP,take_append_getElem->Y1,take_length->YS
open _root_.Option renaming bind_some->YB
namespace Go.Proofs.YtbladfbbhijpmaaGreat
open Go Go.RowKit
set_option maxRecDepth 100000
namespace L
abbrev o8:Type:=ai.den
abbrev xi:Type:=aH.den
def AF(x:Int)(r:o8):Bool:=decide (al .and .i64 x r.1.1=r.1.2)
def fq(x:Int):List o8->Int×Bool
 |[]=>(0,false)
 |r::l=>if AF x r=true then(r.2,true)else fq x l
theorem tC{x:Int}{r:o8}{l:List o8}:fq x (r::l)=if AF x r=true then(r.2,true)else fq x l:=rfl
theorem IB(r:o8)(x:Int):M.cY bm r.1 x=some (AF x r):=rfl
theorem IC(r:o8)(x:Int):M.cM bm r.1 x=some (AF x r):=rfl
theorem FD(t:xi)(x:Int)(hl:t.2.2.2.length<=9223372036854775807):M.db bm t x=some (fq x t.2.2.2):=by
 unfold M.db;refine Wp.eq (Wp.count (fun s=>s) t.2.2.2.length (fun k _=>fq x t.2.2.2=fq x (t.2.2.2.drop k)) hl rfl rfl fun k s hk hs hJ=>?_);subst hs;refine .dec (fun h=>?_) (fun h=> .some ?_)
 .have av:k<t.2.2.2.length:=by omega
  rw[Zd av]at hJ;refine .bind (.idx k rfl av (.ba (IB _ x) (.ite (fun h1=> .some ?_) (fun h1=> .some ⟨av,aD (by omega),?_⟩))))
  .show _=fq x _
   rw[hJ];unfold fq;rw[if_pos h1]
  .show fq x _=_
   rw[hJ];conv=>lhs;unfold fq
   rw[if_neg h1]
 .have:k=t.2.2.2.length:=by omega
  subst this
  show _=fq x _
  rw[hJ,List.drop_length];rfl
theorem AG(t:xi)(x:Int)(hl:t.2.2.2.length<=9223372036854775807):M.fm bm t x=some (fq x t.2.2.2):=by
 unfold M.fm;refine Wp.eq (Wp.count (fun s=>s) t.2.2.2.length (fun k _=>fq x t.2.2.2=fq x (t.2.2.2.drop k)) hl rfl rfl fun k s hk hs hJ=>?_);subst hs;refine .dec (fun h=>?_) (fun h=> .some ?_)
 .have av:k<t.2.2.2.length:=by omega
  rw[Zd av]at hJ;refine .bind (.idx k rfl av (.ba (IC _ x) (.ite (fun h1=> .bind (.idx k rfl av (.some ?_))) (fun h1=> .some ⟨av,aD (by omega),?_⟩))))
  .show _=fq x _
   rw[hJ];unfold fq;rw[if_pos h1]
  .show fq x _=_
   rw[hJ];conv=>lhs;unfold fq
   rw[if_neg h1]
 .have:k=t.2.2.2.length:=by omega
  subst this
  show _=fq x _
  rw[hJ,List.drop_length];rfl
def sE(x:Int)(l:List o8):Int:=if(fq x l).2=true then(if l.any (fun r=>AF x r&& !decide (r.2=(fq x l).1))=true then 11 else 0)else 10
theorem CG{x:Int}{l:List o8}(h:∀r∈l,AF x r=false):fq x l=(0,false):=by
 induction l with
 |nil=>rfl
 |cons r l ih=>
  unfold fq;rw[if_neg (by rw[h r Zp];simp)]
  exact ih fun q hq=>h q (Zc _ hq)
theorem FE{x:Int}{a l:List o8}(h:∀r∈a,AF x r=false):fq x (a++l)=fq x l:=by
 induction a with
 |nil=>rfl
 |cons r a ih=>
  rw[Z8,tC,if_neg (by rw[h r Zp];simp)]
  exact ih fun q hq=>h q (Zc _ hq)
theorem FF(l:List o8)(x:Int)(hl:l.length<=9223372036854775807):M.cE bm l x=some (sE x l):=by
 unfold M.cE;refine Wp.eq (Wp.join ?_)
 have kW:∀{k:Nat}(hk:k<l.length){P:o8->Prop},(∀r∈l.take k,P r)->P l[k]->∀r∈l.take (k+1),P r:=fun{k}hk{P}h h1 r hr=>by
  rw[<-Y1 hk,YL,YJ]at hr
  rcases hr with hr|rfl
  .exact h r hr
  .exact h1
 refine Wp.count (fun s=>s.2.2) l.length (fun k s=>(s.1=false->∀r∈l.take k,AF x r=false)/\(s.1=true->fq x l=(s.2.1,true)/\∀r∈l.take k,AF x r=true->r.2=s.2.1)) hl rfl ⟨fun _ r hr=>by simp at hr,fun h=>by cases h⟩ fun k s hk hs hJ=>?_
 obtain⟨f,o,kk⟩:=s;obtain⟨g1,g2⟩:=hJ;dsimp only at hs g1 g2⊢;subst hs;refine .dec (fun h=>?_) (fun h=> .some ?_)
 .have av:k<l.length:=by omega
  refine .join (.bind (.idx k rfl av (.ba (IB _ x) (.ite (fun h1=> .some ?_) (fun h1=>?_)))))
  .have h1:AF x l[k]=false:=by simpa using h1
   refine .some ⟨av,aD (by omega),fun hf=>kW av (g1 hf) h1,fun hf=>⟨(g2 hf).1,kW av (g2 hf).2 fun h=>by rw[h1]at h;cases h⟩⟩
  .have h1:AF x l[k]=true:=by simpa using h1
   cases f with
   |true=>
    obtain⟨h2,h3⟩:=g2 rfl;refine .bind (.some (.ite (fun h4=> .some ?_) (fun h4=> .some (.some ⟨av,aD (by omega),fun h=>(by cases h),fun _=>?_⟩))))
    .show(11:Int)=sE x l
     unfold sE;rw[h2,if_pos rfl,if_pos];refine ZJ.2 ⟨l[k],YP av,?_⟩;rw[h1,Bool.true_and];exact h4
    .have h5:(l[k].2:Int)=o:=by simpa using h4
     exact⟨by rw[h2];exact congrArg (fun z=>(z,true)) h5.symm,kW av (fun r hr hm=>(h3 r hr hm).trans h5.symm) fun _=>rfl⟩
   |false=>
    have h2:=g1 rfl;refine .bind (.some (.ite (fun h4=>(by cases h4)) (fun h4=> .some (.some ⟨av,aD (by omega),fun h=>(by cases h),fun _=>⟨?_,kW av (fun r hr hm=>by rw[h2 r hr]at hm;cases hm) fun _=>rfl⟩⟩))));have h5:fq x l=fq x (l.drop k):=(congrArg (fq x) (ZP k l).symm).trans (FE h2);rw[h5,Zd av,tC,if_pos h1]
 .have:k=l.length:=by omega
  subst this;rw[YS]at g1 g2
  show Wp _ _
  cases f with
  |true=>
   obtain⟨h2,h3⟩:=g2 rfl;refine .some ?_
   show(0:Int)=sE x l
   unfold sE;rw[h2,if_pos rfl,if_neg];intro h;obtain⟨r,hr,h4⟩:=ZJ.1 h;rw[Zr]at h4;have:=h3 r hr h4.1;simp[this]at h4
  |false=>
   refine .some ?_
   show(10:Int)=sE x l
   unfold sE;rw[CG (g1 rfl)];rfl
theorem HM(t:xi)(x:Int)(hl:t.2.2.2.length<=9223372036854775807):M.jo bm t x=some (sE x t.2.2.2):=by
 unfold M.jo;rw[AG t x hl,YB];unfold sE
 cases ho:(fq x t.2.2.2).2 with
 |false=>rfl
 |true=>
  refine Wp.eq (.ite (fun h=>absurd h (by simp)) fun _=>?_);rw[if_pos rfl]
  refine Wp.count (fun s=>s) t.2.2.2.length (fun k _=>∀r∈t.2.2.2.take k,(AF x r&& !decide (r.2=(fq x t.2.2.2).1))=false) hl rfl (fun r hr=>by simp at hr) fun k s hk hs hJ=>?_
  subst hs;refine .dec (fun h=>?_) (fun h=> .some ?_)
  .have av:k<t.2.2.2.length:=by omega
   refine Wp.seq (fun j=>j=(AF x t.2.2.2[k]&& !decide (t.2.2.2[k].2=(fq x t.2.2.2).1))) (.bind (.idx k rfl av (.ba (IC _ x) (.ite (fun h1=> .bind (.idx k rfl av (.some ?_))) (fun h1=> .some ?_))))) fun j hj=> .ite (fun h1=> .some ?_) (fun h1=> .some ⟨av,aD (by omega),fun r hr=>?_⟩)
   .rw[h1];rfl
   .have:AF x t.2.2.2[k]=false:=by simpa using h1
    rw[this];rfl
   .show(11:Int)=_
    rw[if_pos];exact ZJ.2 ⟨_,YP av,by rw[<-hj];exact h1⟩
   .rw[<-Y1 av,YL,YJ]at hr
    rcases hr with hr|rfl
    .exact hJ r hr
    .rw[<-hj];simpa using h1
  .have:k=t.2.2.2.length:=by omega
   subst this;rw[YS]at hJ
   show(0:Int)=_
   rw[if_neg];intro h;obtain⟨r,hr,h4⟩:=ZJ.1 h;rw[hJ r hr]at h4;cases h4
def Ki(n:Nat)(p:Int×Int):Bool:=decide (0<=p.1)&&(decide (p.1<((2 ^ xG n:Nat):Int))&&(decide (0<=p.2)&&decide (al .and .i64 p.2 p.1=p.2)))
theorem zx(n:Nat)(p:aa.den):M.gC bm p (n:Int)=some (Ki n p):=by
 have hs:=gF (j:=xG n) (by have:=rr n;omega);unfold M.gC Ki;rw[xe];simp only[YB,hs];generalize((2 ^ xG n:Nat):Int)=K
 by_cases h1:(0:Int)<=p.1<;>by_cases h2:(p.1:Int)<K<;>by_cases h3:(0:Int)<=p.2<;>simp[h1,h2,h3]
theorem CH(n:Nat)(p:aa.den):M.jn bm p (n:Int)=some (Ki n p):=by
 unfold M.jn Ki;rw[tB];simp only[YB,size_eq (rr n)];generalize((2 ^ xG n:Nat):Int)=K
 by_cases h1:(0:Int)<=p.1<;>by_cases h2:(p.1:Int)<K<;>by_cases h3:(0:Int)<=p.2<;>simp[h1,h2,h3]
def HN(t:xi):Int:=if 8<t.2.1.length then 4 else if t.2.2.2.all (fun r=>Ki t.2.1.length r.1)=true then((df (fun k=>if sE (k:Int) t.2.2.2=0 then none else some (sE (k:Int) t.2.2.2)) (2 ^ t.2.1.length)).getD 0)else 3
theorem CI(t:xi)(hl:t.2.2.2.length<=9223372036854775807):M.cU bm t=some (HN t):=by
 unfold M.cU HN;refine Wp.eq (.dec (fun h=> .some ?_) (fun h=>?_))
 .rw[if_pos (by omega)]
 rw[if_neg (by omega)]
 have hn:t.2.1.length<=8:=by omega
 have h8:=nl hn;refine .join (Wp.count (fun s=>s) t.2.2.2.length (fun k _=>∀r∈t.2.2.2.take k,Ki t.2.1.length r.1=true) hl rfl (fun r hr=>by simp at hr) fun k s hk hs hJ=>?_);subst hs;refine .dec (fun h=>?_) (fun h=> .some ?_)
 .have av:k<t.2.2.2.length:=by omega
  refine .bind (.idx k rfl av (.ba (zx _ _) (.ite (fun h1=> .some ?_) (fun h1=> .some ⟨av,aD (by omega),fun r hr=>?_⟩))))
  .show(3:Int)=_
   rw[if_neg];intro h;have:=Z0.1 h _ (YP av);rw[this]at h1;cases h1
  .rw[<-Y1 av,YL,YJ]at hr
   rcases hr with hr|rfl
   .exact hJ r hr
   .simpa using h1
 .have:k=t.2.2.2.length:=by omega
  subst this;rw[YS]at hJ
  show Wp _ _
  rw[if_pos (Z0.2 hJ)];refine .ba (gF (by omega)) ?_;refine Wp.first (fun s=>s) (2 ^ t.2.1.length) (fun k=>if sE (k:Int) t.2.2.2=0 then none else some (sE (k:Int) t.2.2.2)) (by omega) rfl (fun k s hk hs hJ=>?_) (fun s hs hn=>?_)
  .subst hs;refine .dec (fun _=> .ba (FF _ _ hl) (.pQ (fun h1=> .some (.inr ⟨_,_,rfl,if_neg h1,fun h=>?_⟩)) (fun h1=> .some (.inl ⟨if_pos h1,_,rfl,aD (by omega)⟩)))) (fun h=>absurd (by exact_mod_cast hk) h);rw[h];rfl
  .subst hs;refine .dec (fun h=>absurd h (by omega)) (fun _=> .some ⟨_,rfl,?_⟩);rw[hn];rfl
theorem FG(t:xi)(hl:t.2.2.2.length<=9223372036854775807):M.gf bm t=some (HN t):=by
 unfold M.gf HN;refine Wp.eq (.dec (fun h=> .some ?_) (fun h=>?_))
 .rw[if_pos (by omega)]
 rw[if_neg (by omega)]
 have hn:t.2.1.length<=8:=by omega
 have h8:=nl hn;refine .join (Wp.count (fun s=>s) t.2.2.2.length (fun k _=>∀r∈t.2.2.2.take k,Ki t.2.1.length r.1=true) hl rfl (fun r hr=>by simp at hr) fun k s hk hs hJ=>?_);subst hs;refine .dec (fun h=>?_) (fun h=> .some ?_)
 .have av:k<t.2.2.2.length:=by omega
  refine .bind (.idx k rfl av (.ba (CH _ _) (.ite (fun h1=> .some ?_) (fun h1=> .some ⟨av,aD (by omega),fun r hr=>?_⟩))))
  .show(3:Int)=_
   rw[if_neg];intro h;have:=Z0.1 h _ (YP av);rw[this]at h1;cases h1
  .rw[<-Y1 av,YL,YJ]at hr
   rcases hr with hr|rfl
   .exact hJ r hr
   .simpa using h1
 .have:k=t.2.2.2.length:=by omega
  subst this;rw[YS]at hJ
  show Wp _ _
  rw[if_pos (Z0.2 hJ)];refine Wp.first (fun s=>s) (2 ^ t.2.1.length) (fun k=>if sE (k:Int) t.2.2.2=0 then none else some (sE (k:Int) t.2.2.2)) (by omega) rfl (fun k s hk hs hJ=>?_) (fun s hs hn=>?_)
  .subst hs;refine .ba (gF (by omega)) (.dec (fun _=> .ba (HM _ _ hl) (.pQ (fun h1=> .some (.inr ⟨_,_,rfl,if_neg h1,fun h=>?_⟩)) (fun h1=> .some (.inl ⟨if_pos h1,_,rfl,aD (by omega)⟩)))) (fun h=>absurd (by exact_mod_cast hk) h));rw[h];rfl
  .subst hs;refine .ba (gF (by omega)) (.dec (fun h=>absurd h (by omega)) (fun _=> .some ⟨_,rfl,?_⟩));rw[hn];rfl
end L
end Go.Proofs.YtbladfbbhijpmaaGreat
end
section
open _root_.Option renaming bind_some->YB
namespace Go.Proofs.YtbladfbbhijpmaaGreat
open Go Go.RowKit
set_option maxRecDepth 100000
namespace L
theorem Np(hA:M.fK bm=some true)(t:xi)(x:Int):M.dE bm t x=some true:=by
 unfold M.dE;refine Wp.eq (Wp.seq (fun j=>j=false->t.2.2.2.length<=300) (.dec (fun h=> .some fun h=>(by cases h)) (fun h=> .some fun h=>?_)) fun j hj=> .ite (fun h=> .ba hA (.some rfl)) (fun h=>?_))
 .have:=of_decide_eq_false h;omega
 have hl:t.2.2.2.length<=9223372036854775807:=by have:=hj (by simpa using h);omega
 refine .ba (FD t x hl) (.ba (AG t x hl) ?_);simp only[decide_true,if_true,CI t hl,FG t hl,hA,YB];exact .some rfl
end L
end Go.Proofs.YtbladfbbhijpmaaGreat
end
section
open _root_.Bool renaming false_eq_true->YW
open _root_.Int renaming eq_ofNat_of_zero_le->YN,toNat_natCast->YK
open _root_.List renaming append_assoc->Y2,getElem?_eq_getElem->YF,getElem_mem->YP,length_filter_le->ZQ,length_map->ZI,map_append->ZH,mem_filter->Za,mem_range->Y5,range->YI,take_append_getElem->Y1,take_length->YS
open _root_.Nat renaming le_refl->YD,le_trans->Y3
open _root_.Option renaming bind_some->YB
namespace Go.Proofs.YtbladfbbhijpmaaGreat
open Go Go.RowKit
set_option maxRecDepth 100000
set_option linter.unusedSimpArgs false
set_option linter.unusedVariables false
namespace L
def ID(r:Ty)(d:Int):Prop:=VR r/\(r.1:Int)<=d/\d<(r.2:Int)
instance(r:Ty)(d:Int):Decidable (ID r d):=by unfold ID;infer_instance
theorem Kj(r:Ty)(d:Int):M.dX bm r d=some (decide (ID r d)):=by
 obtain⟨(r1:Int),(r2:Int)⟩:=r;apply Wp.eq;unfold M.dX;simp only[J7,W_,implies_true,forall_const,reduceCtorEq];unfold ID;dsimp only[ae,Row.den]
 by_cases h:VR ((r1,r2):Ty)<;>simp only[h,W_,implies_true,forall_const,reduceCtorEq]
 omega
theorem rv{α:Type}{l:List α}{i:Int}(h0:0<=i)(h1:i<(l.length:Int)):∃x,idx l i=some x/\x∈l:=by
 obtain⟨k,rfl⟩:=YN h0
 have hk:k<l.length:=by omega
 exact⟨_,aB hk,YP hk⟩
theorem bY{α:Type}(l:List α)(i:Int)(y:α):(bg l i y).length=l.length:=by unfold bg;simp
def ids(P:Nat->Bool)(k:Nat):List Int:=((YI k).filter P).map fun i:Nat=>(i:Int)
theorem iU(P:Nat->Bool)(k:Nat):ids P (k+1)=ids P k++(if P k=true then[(k:Int)]else[]):=by
 unfold ids;rw[List.range_succ,List.filter_append,ZH];by_cases h:P k=true
 .rw[if_pos h];simp[h]
 .rw[if_neg h];simp[h]
theorem n5{P:Nat->Bool}{k:Nat}{j:Int}:j∈ids P k↔∃i:Nat,i<k/\P i=true/\j=(i:Int):=by
 unfold ids;simp only[List.mem_map,Za,Y5];constructor
 .rintro⟨i,⟨h1,h2⟩,rfl⟩;exact⟨i,h1,h2,rfl⟩
 .rintro⟨i,h1,h2,rfl⟩;exact⟨i,⟨h1,h2⟩,rfl⟩
theorem kL(P:Nat->Bool)(k:Nat):(ids P k).length<=k:=by
 unfold ids;rw[ZI];exact Y3 (ZQ ..) (by simp)
def ix(l:List Int)(n:Int):Int:=r7 (fun x=>decide (x=n)) l
theorem FH{l:List Int}{n:Int}:0<=ix l n↔n∈l:=by
 unfold ix;rw[lG];constructor
 .rintro⟨x,hx,h⟩
  exact(of_decide_eq_true h)▸hx
 .exact fun h=>⟨n,h,decide_eq_true rfl⟩
theorem xj(P:Nat->Bool)(n:Nat):∀m,∃t,ids P (n+m)=ids P n++t
 |0=>⟨[],by simp⟩
 |m+1=>by
  obtain⟨t,ht⟩:=xj P n m;rw[<-Nat.add_assoc,iU,ht,Y2];exact⟨_,rfl⟩
theorem Kl{P:Nat->Bool}{n k:Nat}(hk:k<n)(h:P k=true):ix (ids P n) (k:Int)=((ids P k).length:Int):=by
 obtain⟨t,ht⟩:=xj P (k+1) (n-(k+1));rw[show k+1+(n-(k+1))=n by omega,iU,if_pos h,Y2]at ht;unfold ix
 refine uQ (k:=(ids P k).length) (by rw[ht];simp) ?_ fun j hj Gf=>?_
 .rw[decide_eq_true_eq];simp only[ht];rw[List.getElem_append_right (YD _)];simp
 .apply decide_eq_false;simp only[ht];rw[List.getElem_append_left hj];obtain⟨i,h1,_,h3⟩:=n5.1 (YP hj);rw[h3];omega
def zy(rules:List gx)(L:List Int):Nat->Nat->Int
 |0,_=> -1
 |f+1,i=>match rules[i]? with
  |none=> -1
  |some r=>if 0<=(r.2.2.1:Int)/\(r.2.2.1:Int)<(i:Int)then(if 0<=ix L r.2.2.1 then ix L r.2.2.1 else zy rules L f (r.2.2.1:Int).toNat)else-1
theorem tD(rules:List gx)(L:List Int):∀f f' i,i<f->i<f'->zy rules L f i=zy rules L f' i
 |0,_,_,h,_=>absurd h (Nat.not_lt_zero _)
 |_+1,0,_,_,h=>absurd h (Nat.not_lt_zero _)
 |f+1,f'+1,i,h,h'=>by
  unfold zy
  cases rules[i]? with
  |none=>rfl
  |some r=>
   dsimp only
   obtain⟨(p:Int),Km⟩:∃p:Int,p=r.2.2.1:=⟨_,rfl⟩
   simp only[<-Km];by_cases hp:0<=p/\p<(i:Int)
   .rw[if_pos hp,if_pos hp];by_cases h0:0<=ix L p
    .rw[if_pos h0,if_pos h0]
    .rw[if_neg h0,if_neg h0];exact tD rules L f f' _ (by omega) (by omega)
   .rw[if_neg hp,if_neg hp]
def o9(rules:List gx)(L:List Int)(i:Nat):Int:=zy rules L (i+1) i
theorem AH{rules:List gx}{L:List Int}{i:Nat}(hi:i<rules.length):o9 rules L i=if 0<=(rules[i].2.2.1:Int)/\(rules[i].2.2.1:Int)<(i:Int)then(if 0<=ix L rules[i].2.2.1 then ix L rules[i].2.2.1 else o9 rules L (rules[i].2.2.1:Int).toNat)else-1:=by
 show zy rules L (i+1) i=_
 unfold zy;rw[YF hi];dsimp only
 obtain⟨(p:Int),Km⟩:∃p:Int,p=rules[i].2.2.1:=⟨_,rfl⟩
 simp only[<-Km];by_cases hp:0<=p/\p<(i:Int)
 .rw[if_pos hp,if_pos hp];by_cases h0:0<=ix L p
  .rw[if_pos h0,if_pos h0]
  .rw[if_neg h0,if_neg h0];exact tD rules L _ _ _ (by omega) (by omega)
 .rw[if_neg hp,if_neg hp]
theorem FI(r:Ty)(d:Int):M.iP bm r d=some (decide (ID r d)):=by
 obtain⟨(r1:Int),(r2:Int)⟩:=r;apply Wp.eq;unfold M.iP;simp only[MZ,W_,implies_true,forall_const,reduceCtorEq];unfold ID;dsimp only[ae,Row.den]
 by_cases h:VR ((r1,r2):Ty)<;>simp only[h,W_,implies_true,forall_const,reduceCtorEq]
 omega
theorem zA(l:List Int)(n:Int)(hl:l.length<=100000):M.lB bm l n=some (ix l n):=by
 unfold M.lB ix;refine uR (by unfold maxLen;omega) (fun k h=>?_) ?_
 .rw[uO h,if_pos rfl,aB h,YB]
 .simp only[rk,decide_false,YW,if_false]
theorem xk(x:kf)(L:List Int)(hL:L.length<=100000)(i:Nat)(hi:i<x.2.2.2.2.length)(gH:i<=100000):M.kD bm x L (i:Int)=some (o9 x.2.2.2.2 L i):=by
 obtain⟨rules,hr⟩:∃r:List gx,r=x.2.2.2.2:=⟨_,rfl⟩
 apply Wp.eq;unfold M.kD;rw[<-hr]at hi⊢;rw[aB hi,YB];refine Wp.loop (fun s=>∃j:Nat,∃hj:j<rules.length,s=((j:Int),rules[j].2.2.1)/\o9 rules L i=o9 rules L j/\j<=i) (fun s=>s.1.toNat) ⟨i,hi,rfl,rfl,YD _⟩ (by unfold bm;dsimp only;omega) ?_
 rintro s ⟨j,hj,rfl,hp,SJ⟩
 dsimp only
 obtain⟨(p:Int),Km⟩:∃p:Int,p=rules[j].2.2.1:=⟨_,rfl⟩
 rw[hp,AH hj,<-Km]
 refine Wp.seq (fun b=>b=decide (0<=p/\p<(j:Int))) ?_ fun b hb=>?_
 .refine Wp.dec (fun h=> .some ?_) fun h=> .some ?_
  .simp only[h,true_and]
  .rw[decide_eq_false (fun g=>h g.1)]
 .subst hb
  refine Wp.dec (fun h=>?_) fun h=> .some ?_
  .rw[if_pos h,zA _ _ hL,YB]
   refine Wp.dec (fun g=> .some ?_) fun g=>?_
   .show ix L p=_
    rw[if_pos g]
   .obtain⟨q,rfl⟩:=YN h.1
    have hq:q<j:=by omega
    have Nq:q<rules.length:=by omega
    rw[aB Nq,YB];refine .some ⟨⟨q,Nq,rfl,?_,by omega⟩,by dsimp only;omega⟩;rw[if_neg g,YK]
  .show(-1:Int)=_
   rw[if_neg h]
def kp(rules:List gx)(Pr:gx->Bool)(i:Nat):Bool:=match rules[i]? with
 |some r=>Pr r
 |none=>false
theorem FJ{rules:List gx}{Pr:gx->Bool}{i:Nat}(h:i<rules.length):kp rules Pr i=Pr rules[i]:=by
 unfold kp;rw[YF h]
def u9(a d:Int)(r:gx):Bool:=decide ((r.2.1:Int)=a/\ID r.2.2.2.2.1 d)
def fi(rules:List gx)(a d:Int):List Int:=ids (kp rules (u9 a d)) rules.length
theorem Kn{r:gx}{a d:Int}{β:Type}{k:Bool->Option β}:(((if(decide (r.2.1=a))=true then(some (decide (ID r.2.2.2.2.1 d)):Option Bool)else some false):Option Bool).bind k)=k (u9 a d r):=by
 unfold u9;by_cases h:(r.2.1:Int)=a
 .rw[if_pos (by simpa using h),YB]
  congr 1
  simp[h]
 .rw[if_neg (by simpa using h),YB]
  congr 1
  simp[h]
theorem Nr(a d:Int)(r:gx):M.c8 bm r a d=some (u9 a d r,a,d):=by
 unfold M.c8;simp only[Kj,YB];exact Kn
def eR(P:Nat->Bool)(n:Nat):List Nat:=(YI n).filter P
theorem tE(P:Nat->Bool)(k:Nat):eR P (k+1)=eR P k++(if P k=true then[k]else[]):=gh k P
theorem FK(P:Nat->Bool)(k:Nat):(eR P k).length=(ids P k).length:=by unfold ids eR;simp
def fc(rules:List gx)(a d:Int):List Int:=(eR (kp rules (u9 a d)) rules.length).map (o9 rules (fi rules a d))
def gV(rules:List gx)(a d:Int):List Int:=(eR (kp rules (u9 a d)) rules.length).map fun i=>match rules[i]? with
 |some r=>r.2.2.2.1
 |none=>0
theorem FL{rules:List gx}{a d:Int}(hl:rules.length<=100000):M.c9 bm rules a d=some (a,d,fi rules a d,fc rules a d):=by
 unfold M.c9;refine Wp.eq (wp_bind.2 (kH.2 ⟨by omega,?_⟩));rw[YK]
 obtain⟨P,hP⟩:∃P,P=kp rules (u9 a d):=⟨_,rfl⟩
 obtain⟨L,hL⟩:∃L,L=fi rules a d:=⟨_,rfl⟩
 have N9:L=ids P rules.length:=by rw[hL,hP];rfl
 refine Wp.count (fun s=>s.1) rules.length (fun k s=>s.2.1=a/\s.2.2.1=d/\s.2.2.2.1.length=rules.length/\(∀i:Nat,∀h:i<s.2.2.2.1.length,i<k->s.2.2.2.1[i]=if P i=true then ix L i else o9 rules L i)/\s.2.2.2.2.1=ids P k/\s.2.2.2.2.2=(eR P k).map (o9 rules L)) (by omega) rfl ⟨rfl,rfl,by simp,fun i _ hi=>absurd hi (by omega),rfl,rfl⟩ fun k s hk hs hJ=>?_
 obtain⟨i,a',d',FM,li,pa⟩:=s;obtain⟨j1,j2,j3,j4,j5,j6⟩:=hJ;dsimp only at hs j1 j2 j3 j4 j5 j6;subst hs j1 j2 j5 j6
 refine Wp.dec (fun av=>?_) fun hge=>?_
 .have av:k<rules.length:=by dsimp only at av;omega
  have Gq:=kL P k;have G7:=FK P k;dsimp only
  refine Wp.seq (fun j=>j.1=a'/\j.2.1=d'/\j.2.2.1.length=rules.length/\(∀i:Nat,∀h:i<j.2.2.1.length,i<k+1->j.2.2.1[i]=if P i=true then ix L i else o9 rules L i)/\j.2.2.2.1=ids P (k+1)/\j.2.2.2.2=(eR P (k+1)).map (o9 rules L)) ?_ fun j hj=> .some ⟨av,kT (m:=rules.length) (by omega) av,hj⟩
  rw[aB av,YB]
  obtain⟨(p:Int),Km⟩:∃p:Int,p=rules[k].2.2.1:=⟨_,rfl⟩
  refine Wp.seq (fun v=>v=o9 rules L k) ?_ fun v hv=>?_
  .rw[AH av,<-Km]
   refine Wp.seq (fun j=>j=decide (0<=p/\p<(k:Int))) ?_ fun j hj=>?_
   .refine Wp.dec (fun h=> .some ?_) fun h=> .some ?_
    .simp only[h,true_and]
    .rw[decide_eq_false (fun g=>h g.1)]
   .subst hj
    refine Wp.dec (fun h=>?_) fun h=> .some ?_
    .obtain⟨q,rfl⟩:=YN h.1
     have hq:q<k:=by omega
     have Nq:q<FM.length:=by omega
     rw[aB Nq,YB];refine .some ?_;rw[if_pos h,j4 q Nq hq,YK];by_cases Oa:P q=true
     .rw[if_pos Oa,if_pos];rw[FH,N9];exact n5.2 ⟨q,by omega,Oa,rfl⟩
     .rw[if_neg Oa,if_neg];rw[FH,N9];intro hm;obtain⟨q',_,h2,h3⟩:=n5.1 hm
      obtain rfl:q=q':=by omega
      exact Oa h2
    .rw[if_neg h]
  .subst hv;rw[aB (show k<FM.length by omega),YB,Nr,YB,iU,tE]
   have Ob:P k=u9 a' d' rules[k]:=by rw[hP];exact FJ av
   rw[Ob];dsimp only;by_cases hp:u9 a' d' rules[k]=true
   .rw[if_pos hp,if_pos hp,if_pos hp,aB (show k<(bg FM (k:Int) (o9 rules L k)).length by rw[bY];omega),YB,e7 (by simp;omega),YB,e7 (by simp;omega),YB];refine .some ⟨rfl,rfl,by rw[bY,bY];exact j3,fun i h hi=>?_,rfl,by simp⟩
    have R5:i<FM.length:=by rw[bY,bY]at h;exact h
    simp only[bg,YK,List.getElem_set];by_cases e:k=i
    .subst e;rw[if_pos rfl,if_pos (Ob.trans hp),N9,Kl av (Ob.trans hp)]
    .rw[if_neg e,if_neg e];exact j4 i R5 (by omega)
   .rw[if_neg hp,if_neg hp,if_neg hp];refine .some ⟨rfl,rfl,by rw[bY];exact j3,fun i h hi=>?_,by simp,by simp⟩
    have R5:i<FM.length:=by rw[bY]at h;exact h
    simp only[bg,YK,List.getElem_set];by_cases e:k=i
    .subst e;rw[if_pos rfl,if_neg (fun g=>hp (Ob.symm.trans g))]
    .rw[if_neg e];exact j4 i R5 (by omega)
 .have hge:k=rules.length:=by dsimp only at hge;omega
  refine .some ?_;subst hge
  show _=_
  unfold fc;rw[<-hP,<-hL,N9]
theorem CJ(x:kf)(a d:Int)(hl:x.2.2.2.2.length<=100000):M.eX bm x a d=some (fi x.2.2.2.2 a d,fc x.2.2.2.2 a d,gV x.2.2.2.2 a d):=by
 unfold M.eX;rw[FL hl,YB]
 obtain⟨rules,hr⟩:∃r:List gx,r=x.2.2.2.2:=⟨_,rfl⟩
 rw[<-hr]at hl⊢
 obtain⟨P,hP⟩:∃P,P=kp rules (u9 a d):=⟨_,rfl⟩
 have hi:fi rules a d=(eR P rules.length).map fun i:Nat=>(i:Int):=by rw[hP];rfl
 have Xs:(eR P rules.length).length<=rules.length:=by unfold eR;exact Y3 (ZQ ..) (by simp)
 refine Wp.eq (Wp.seq (fun j=>j=gV rules a d) ?_ fun j hj=> .some (by rw[hj]));unfold gV;dsimp only;rw[hi,<-hP]
 have kW:∀i∈eR P rules.length,i<rules.length:=fun i hi=>Y5.1 (Za.1 hi).1
 refine Wp.count (fun s=>s.1) (eR P rules.length).length (fun k s=>s.2=((eR P rules.length).take k).map fun i=>match rules[i]? with
  |some r=>r.2.2.2.1
  |none=>0) (by omega) rfl rfl fun k s hk hs hJ=>?_
 obtain⟨kk,l⟩:=s;dsimp only at hs hJ⊢;subst hs hJ;rw[ZI]
 refine Wp.dec (fun av=>?_) fun hge=>?_
 .have av:k<(eR P rules.length).length:=by omega
  have hb:=kW _ (YP av);refine .bind (.idx k rfl (by simpa using av) ?_);rw[List.getElem_map,aB hb,YB];refine .bind (.px (by simp;omega) (.some ⟨av,aD (by omega),?_⟩))
  show _=((eR P rules.length).take (k+1)).map _
  rw[<-Y1 av,ZH,List.map_singleton,YF hb]
 .have:k=(eR P rules.length).length:=by omega
  subst this;refine .some ?_
  show _=_
  rw[YS]
theorem sa(x:kf)(a d:Int)(hl:x.2.2.2.2.length<=100000):M.jB bm x a d=some (fi x.2.2.2.2 a d):=by
 unfold M.jB fi
 obtain⟨rules,hr⟩:∃r:List gx,r=x.2.2.2.2:=⟨_,rfl⟩
 rw[<-hr]at hl⊢;refine Wp.eq (Wp.count (fun s=>s.1) rules.length (fun k s=>s.2=ids (kp rules (u9 a d)) k) (by omega) rfl rfl fun k s hk hs hJ=>?_);obtain⟨kk,l⟩:=s;dsimp only at hs hJ⊢;subst hs hJ
 refine Wp.dec (fun av=>?_) fun hge=> .some ?_
 .have av:k<rules.length:=by omega
  have Gq:=kL (kp rules (u9 a d)) k
  refine Wp.seq (fun j=>j=ids (kp rules (u9 a d)) (k+1)) ?_ fun j hj=> .some ⟨av,aD (by omega),hj⟩
  rw[iU,FJ av]
  refine Wp.seq (fun b=>b=u9 a d rules[k]) (.bind (.idx k rfl av ?_)) fun b hb=>?_
  .unfold u9;by_cases h:(rules[k].2.1:Int)=a
   .rw[if_pos (by simpa using h),aB av,YB,FI,YB];refine .some ?_;simp[h]
   .rw[if_neg (by simpa using h)];refine .some ?_;simp[h]
  .subst hb;refine .ite (fun h=> .bind (.px (by simp;omega) (.some ?_))) (fun h=> .some ?_)
   .rw[if_pos h]
   .rw[if_neg h,List.append_nil]
 .have:k=rules.length:=by omega
  subst this;rfl
theorem FN(x:kf)(a d:Int)(hl:x.2.2.2.2.length<=100000):M.kE bm x a d=some (fi x.2.2.2.2 a d,fc x.2.2.2.2 a d,gV x.2.2.2.2 a d):=by
 unfold M.kE;rw[sa x a d hl,YB]
 have Ns:=fun L(hL:L.length<=100000)i hi gH=>xk x L hL i hi gH
 obtain⟨rules,hr⟩:∃r:List gx,r=x.2.2.2.2:=⟨_,rfl⟩
 rw[<-hr]at hl Ns⊢
 obtain⟨P,hP⟩:∃P,P=kp rules (u9 a d):=⟨_,rfl⟩
 obtain⟨L,hL⟩:∃L,L=fi rules a d:=⟨_,rfl⟩
 have Xt:L.length<=100000:=by rw[hL];exact Y3 (kL _ _) hl
 have hi:fi rules a d=(eR P rules.length).map fun i:Nat=>(i:Int):=by rw[hP];rfl
 have Xs:(eR P rules.length).length<=rules.length:=by unfold eR;exact Y3 (ZQ ..) (by simp)
 have kW:∀i∈eR P rules.length,i<rules.length:=fun i hi=>Y5.1 (Za.1 hi).1
 refine Wp.eq (Wp.seq (fun j=>j=(fc rules a d,gV rules a d)) ?_ fun j hj=> .some (by rw[hj]));unfold fc gV;rw[<-hP,<-hL]
 have TA:L=(eR P rules.length).map fun i:Nat=>(i:Int):=hL.trans hi
 refine Wp.count (fun s=>s.1) (eR P rules.length).length (fun k s=>s.2.1=((eR P rules.length).take k).map (o9 rules L)/\s.2.2=((eR P rules.length).take k).map fun i=>match rules[i]? with
  |some r=>r.2.2.2.1
  |none=>0) (by omega) rfl ⟨rfl,rfl⟩ fun k s hk hs hJ=>?_
 obtain⟨kk,l,m⟩:=s;obtain⟨e1,e2⟩:=hJ;dsimp only at hs e1 e2⊢;subst hs e1 e2
 have hlen:L.length=(eR P rules.length).length:=by rw[TA];simp
 refine Wp.dec (fun av=>?_) fun hge=>?_
 .have av:k<(eR P rules.length).length:=by rw[<-hlen];omega
  have hb:=kW _ (YP av)
  have hx:L[k]'(by omega)=((eR P rules.length)[k]:Int):=by simp only[TA,List.getElem_map]
  refine .bind (.idx k rfl (by omega) ?_);rw[hx,Ns L Xt _ hb (by omega),YB];refine .bind (.px (by simp;omega) (.bind (.idx k rfl (by omega) ?_)));rw[hx,aB hb,YB];refine .bind (.px (by simp;omega) (.some ⟨av,aD (by omega),?_,?_⟩))
  .show _=((eR P rules.length).take (k+1)).map _
   rw[<-Y1 av,ZH,List.map_singleton]
  .show _=((eR P rules.length).take (k+1)).map _
   rw[<-Y1 av,ZH,List.map_singleton,YF hb]
 .have:k=(eR P rules.length).length:=by rw[<-hlen]at hk⊢;omega
  subst this;refine .some ?_
  show(_,_)=(_,_)
  rw[YS]
end L
end Go.Proofs.YtbladfbbhijpmaaGreat
end
