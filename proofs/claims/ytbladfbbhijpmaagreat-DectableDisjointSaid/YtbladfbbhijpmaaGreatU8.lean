/- Joined texts: Wq PD RA RB RC RD RE RF RI RU RV RW TA TB TC TD TE. -/
import Derived.Test.YtbladfbbhijpmaaGreatU7
import Derived.Test.YtbladfbbhijpmaaGreatU5
import Derived.Test.YtbladfbbhijpmaaGreatU1
open _root_.Bool renaming false->Yy,true->Yx,false_eq_true->W0,and_eq_true->Xz
open _root_.Option renaming none->Yw,bind_some->WE
open _root_.Classical renaming propDecidable->Xr,not_not->Yc
open _root_.Go.IntKind renaming i64->WG,u64->WK
open _root_.List renaming getElem?_eq_getElem->WJ,foldl_cons->XO,length_cons->WX,mem_cons->WS,mem_cons_of_mem->Xk,mem_cons_self->Xx,pairwise_cons->Xe,drop_eq_getElem_cons->Xm,drop_of_length_le->XK,getElem_mem->WW,length_append->WZ,length_map->XQ,length_take->XE,map_append->XP,mem_append->WQ,mem_singleton->WO,replicate->Xb,take_length->W3,getElem?_eq_some_iff->W2,getElem_of_mem->XV,filter_eq_self->Yi,mem_filter->Xi,mem_range->Xc,range->WM,cons_append->Ye
open _root_.Nat renaming lt_succ_iff_lt_or_eq->WU,le_refl->WH,eq_of_testBit_eq->X0,lt_of_lt_of_le->Xg,testBit_or->Ya,add_mul->Xu,add_zero->XL,mul_le_mul_right->W1,le_trans->Xa
open _root_.Int renaming tdiv->XR,tmod->Yd,eq_ofNat_of_zero_le->WR,toNat_natCast->WN
open _root_.Option.some renaming inj->WD
open _root_.Go.Lib renaming compact->XJ
open _root_.BitVec renaming ofInt->XI
open _root_.Go.Proofs renaming ltOf->Xv
section
open _root_.Bool renaming false->Yy,true->Yx,false_eq_true->W0
open _root_.Option renaming none->Yw,bind_some->WE,some->Yp
open _root_.Classical renaming not_not->Yc
open _root_.Go.IntKind renaming i64->WG
open _root_.List renaming getElem?_eq_getElem->WJ,replicate->Xb
open _root_.Nat renaming lt_succ_iff_lt_or_eq->WU
namespace Go.Proofs.YtbladfbbhijpmaaGreat
open Go Go.RowKit
def Wp{α:Type}(m:Option α)(Q:α->Prop):Prop:=∃x,m=some x/\Q x
theorem Wp.some{α:Type}{x:α}{Q:α->Prop}(h:Q x):Wp (some x) Q:=⟨x,rfl,h⟩
theorem Wp.of{α:Type}{m:Option α}{x:α}{Q:α->Prop}(e:m=Yp x)(h:Q x):Wp m Q:=⟨x,e,h⟩
theorem Wp.eq{α:Type}{m:Option α}{x:α}(h:Wp m (· =x)):m=Yp x:=by obtain⟨y,e,rfl⟩:=h;exact e
theorem Wp.mono{α:Type}{m:Option α}{Q Q':α->Prop}(h:Wp m Q)(hq:∀x,Q x->Q' x):Wp m Q':=by obtain⟨x,e,h⟩:=h;exact⟨x,e,hq x h⟩
theorem Wp.bind{α β:Type}{m:Option α}{k:α->Option β}{Q:β->Prop}(h:Wp m λx=>Wp (k x) Q):Wp (m.bind k) Q:=by
 obtain⟨x,e,h⟩:=h;rw[e];exact h
theorem Wp.ba{α β:Type}{m:Option α}{k:α->Option β}{Q:β->Prop}{x:α}(e:m=Yp x)(h:Wp (k x) Q):Wp (m.bind k) Q:=by
 rw[e];exact h
theorem Wp.seq{α β:Type}{m:Option α}{k:α->Option β}{Q:β->Prop}(A:α->Prop)(h:Wp m A)(hk:∀x,A x->Wp (k x) Q):Wp (m.bind k) Q:= .bind (h.mono hk)
theorem Wp.map{α β:Type}{m:Option α}{f:α->β}{Q:β->Prop}(h:Wp m λx=>Q (f x)):Wp (m.map f) Q:=by
 obtain⟨x,e,h⟩:=h;rw[e];exact⟨_,rfl,h⟩
theorem Wp.ite{α:Type}{c:Prop}[Decidable c]{a b:Option α}{Q:α->Prop}(ha:c->Wp a Q)(hb:¬c->Wp b Q):Wp (if c then a else b) Q:=by
 split
 .exact ha ‹_›
 .exact hb ‹_›
theorem Wp.dec{α:Type}{c:Prop}[Decidable c]{a b:Option α}{Q:α->Prop}(ha:c->Wp a Q)(hb:¬c->Wp b Q):Wp (if decide c=Yx then a else b) Q:=by
 by_cases h:c
 .rw[YB (YD h)];exact ha h
 .rw[YA (by simpa using h)];exact hb h
theorem Wp.ri{α:Type}{c:Prop}[Decidable c]{a b:Option α}{Q:α->Prop}(ha:¬c->Wp a Q)(hb:c->Wp b Q):Wp (if(!decide c)=Yx then a else b) Q:=by
 by_cases h:c
 .rw[YA (by simp[h])];exact hb h
 .rw[YB (by simp[h])];exact ha h
def w7{J R:Type}(k:J->Option R)(Q:R->Prop):J⊕R->Prop
 | .inl j=>Wp (k j) Q
 | .inr r=>Q r
theorem Wp.join{J R:Type}{m:Option (J⊕R)}{k:J->Option R}{Q:R->Prop}(h:Wp m (w7 k Q)):Wp (bG m k) Q:=by
 obtain⟨x,e,h⟩:=h;unfold bG;rw[e]
 cases x with
 |inl j=>exact h
 |inr r=>exact⟨r,rfl,h⟩
def EW{S X:Type}(I:S->Prop)(μ:S->Nat)(s:S)(Q:X->Prop):S⊕X->Prop
 | .inl s'=>I s'/\μ s'<μ s
 | .inr x=>Q x
theorem Wp.loop{S X:Type}{body:S->Option (S⊕X)}{N:Nat}{s0:S}{Q:X->Prop}(I:S->Prop)(μ:S->Nat)(h0:I s0)(hN:μ s0<N)(step:∀s,I s->Wp (body s) (EW I μ s Q)):Wp (Loop body N s0) Q:=
 oW I μ Q (λs hs=>by
  obtain⟨x,e,h⟩:=step s hs
  cases x with
  |inl s'=>exact .inl ⟨s',e,h⟩
  |inr x=>exact .inr ⟨x,e,h⟩) N s0 h0 hN
theorem Wp.idx{α:Type}{l:List α}{i:Int}{Q:α->Prop}(k:Nat)(hi:i=k)(hk:k<l.length)(h:Q l[k]):Wp (idx l i) Q:=by
 subst hi;exact⟨_,aB hk,h⟩
theorem Wp.pu{α:Type}{l m:List α}{Q:List α->Prop}(hl:l.length+m.length<=4294967296)(h:Q (l++m)):Wp (bW l m) Q:=⟨_,eY hl,h⟩
theorem qc{α:Type}{l:List α}{i j:Int}(a b:Nat)(hi:i=a)(hj:j=b)(h:a<=b)(hb:b<=l.length):dQ l i j=Yp ((l.take b).drop a):=by
 subst hi;subst hj;unfold dQ;rw[YB (by omega)];simp
theorem Wp.cut{α:Type}{l:List α}{i j:Int}{Q:List α->Prop}(a b:Nat)(hi:i=a)(hj:j=b)(h:a<=b)(hb:b<=l.length)(hq:Q ((l.take b).drop a)):Wp (dQ l i j) Q:=⟨_,qc a b hi hj h hb,hq⟩
theorem tm{α:Type}{l:List α}{b:Nat}(hb:b<=l.length):dQ l 0 (b:Int)=Yp (l.take b):=by
 have:=qc (l:=l) 0 b rfl rfl (Nat.zero_le _) hb;simpa using this
theorem aH{k:Nat}(h:k<9223372036854775807):WG.wrap ((k:Int)+1)=((k+1:Nat):Int):=by rw[eX]<;>omega
theorem EX{k:Nat}(h:k<=9223372036854775807):WG.wrap (k:Int)=(k:Int):=by rw[eX]<;>omega
end Go.Proofs.YtbladfbbhijpmaaGreat
namespace Go.Proofs.YtbladfbbhijpmaaGreat
open Go Go.RowKit
section
variable {α β:Type}
theorem gA{x:α}{Q:α->Prop}:Wp (some x) Q↔Q x:=⟨λ⟨y,e,h⟩=>by cases e;exact h,λh=>⟨x,rfl,h⟩⟩
theorem qd{Q:α->Prop}:Wp (Yw:Option α) Q↔False:=⟨λ⟨y,e,h⟩=>(by cases e),False.elim⟩
theorem wp_bind{m:Option α}{k:α->Option β}{Q:β->Prop}:Wp (m.bind k) Q↔Wp m λx=>Wp (k x) Q:=by
 cases m with
 |none=>simp only[Option.bind_none,qd]
 |some x=>simp only[WE,gA]
theorem EY{c:Prop}[Decidable c]{a b:Option α}{Q:α->Prop}:Wp (if c then a else b) Q↔(c->Wp a Q)/\(¬c->Wp b Q):=by
 split<;>simp[*]
theorem EZ{c:Prop}[Decidable c]{a b:Option α}{Q:α->Prop}:Wp (if decide c=Yx then a else b) Q↔(c->Wp a Q)/\(¬c->Wp b Q):=by
 by_cases h:c<;>simp[*]
theorem Ay{c:Prop}[Decidable c]{a b:Option α}{Q:α->Prop}:Wp (if(!decide c)=Yx then a else b) Q↔(¬c->Wp a Q)/\(c->Wp b Q):=by
 by_cases h:c<;>simp[*]
theorem E0{c:Bool}{a b:Option α}{Q:α->Prop}:Wp (if(!c)=Yx then a else b) Q↔(c=Yy->Wp a Q)/\(c=Yx->Wp b Q):=by
 cases c<;>simp
theorem Az{J R:Type}{m:Option (J⊕R)}{k:J->Option R}{Q:R->Prop}:Wp (bG m k) Q↔Wp m (w7 k Q):=by
 cases m with
 |none=>exact⟨λ⟨_,e,_⟩=>(by cases e),λ⟨_,e,_⟩=>(by cases e)⟩
 |some s=>cases s with
  |inl j=>rw[gA];exact Iff.rfl
  |inr r=>exact(gA (x:=r)).trans (gA (x:=Sum.inr r) (Q:=w7 k Q)).symm
theorem tn{J R:Type}{k:J->Option R}{Q:R->Prop}{j:J}:w7 k Q (.inl j)=Wp (k j) Q:=rfl
theorem tq{J R:Type}{k:J->Option R}{Q:R->Prop}{r:R}:w7 k Q (.inr r)=Q r:=rfl
theorem ey{l:List α}{i:Int}{Q:α->Prop}:Wp (idx l i) Q↔∃h:0<=i/\i<(l.length:Int),Q (l[i.toNat]'(by omega)):=by
 by_cases h:0<=i/\i<(l.length:Int)
 .unfold idx;rw[YB h.1,WJ (by omega),gA];exact⟨λg=>⟨h,g⟩,λg=>g.2⟩
 .refine⟨λ⟨y,e,_⟩=>?_,λg=>absurd g.1 h⟩;obtain⟨k,rfl,hk,_⟩:=dB e;omega
theorem oX{l m:List α}{Q:List α->Prop}:Wp (bW l m) Q↔l.length+m.length<=4294967296/\Q (l++m):=by
 unfold bW;split
 .rw[gA];simp[*]
 .rw[qd];simp[*]
theorem wp_cut{l:List α}{i j:Int}{Q:List α->Prop}:Wp (dQ l i j) Q↔(0<=i/\i<=j/\j<=l.length)/\Q ((l.take j.toNat).drop i.toNat):=by
 unfold dQ;split
 .rw[gA];simp[*]
 .rw[qd];simp[*]
theorem kA{m:Int}{z:α}{Q:List α->Prop}:Wp (sf m z) Q↔(0<=m/\m<=4294967296)/\Q (Xb m.toNat z):=by
 unfold sf;split
 .rw[gA];simp[*]
 .rw[qd];simp[*]
theorem Wp.and{m:Option α}{P Q:α->Prop}(h:Wp m P)(g:Wp m Q):Wp m λx=>P x/\Q x:=by
 obtain⟨x,e,h⟩:=h;obtain⟨y,e',g⟩:=g;rw[e]at e';cases e';exact⟨x,e,h,g⟩
theorem Wp.getD{m:Option α}{Q:α->Prop}(h:Wp m Q)(d:α):m=Yp (m.getD d)/\Q (m.getD d):=by
 obtain⟨x,e,h⟩:=h;rw[e];exact⟨rfl,h⟩
end
def ze{S X:Type}(tt:S->Int)(m k:Nat)(J:Nat->S->Prop)(Q:X->Prop):S⊕X->Prop
 | .inl s=>k<m/\tt s=((k+1:Nat):Int)/\J (k+1) s
 | .inr x=>Q x
theorem eL{S X:Type}{tt:S->Int}{m k:Nat}{J:Nat->S->Prop}{Q:X->Prop}{s:S}:ze tt m k J Q (.inl s)=(k<m/\tt s=((k+1:Nat):Int)/\J (k+1) s):=rfl
theorem dW{S X:Type}{tt:S->Int}{m k:Nat}{J:Nat->S->Prop}{Q:X->Prop}{x:X}:ze tt m k J Q (.inr x)=Q x:=rfl
theorem Wp.count{S X:Type}{body:S->Option (S⊕X)}{s0:S}{Q:X->Prop}(tt:S->Int)(m:Nat)(J:Nat->S->Prop)(hm:m<=9223372036854775807)(h0:tt s0=0)(hJ:J 0 s0)
 (step:∀k s,k<=m->tt s=(k:Int)->J k s->Wp (body s) (ze tt m k J Q)):Wp (Loop body br s0) Q:=by
 refine Wp.loop (λs=>∃k:Nat,tt s=k/\k<=m/\J k s) (λs=>m-(tt s).toNat) ⟨0,h0,Nat.zero_le _,hJ⟩ (by unfold br;omega) λs hs=>?_
 obtain⟨k,hi,hk,hj⟩:=hs
 refine(step k s hk hi hj).mono λr hr=>?_
 cases r with
 |inl s'=>
  obtain⟨h1,h2,h3⟩:=hr;exact⟨⟨k+1,h2,h1,h3⟩,by show m-(tt s').toNat<m-(tt s).toNat;rw[h2,hi];omega⟩
 |inr x=>exact hr
theorem kM{k:Nat}{m:Nat}(hm:m<=9223372036854775807)(h:k<m):WG.wrap ((k:Int)+1)=((k+1:Nat):Int):=aH (by omega)
theorem uM{k m:Nat}(h:k<m):decide ((k:Int)<(m:Int))=Yx:=YD (by omega)
theorem rj{m:Nat}:((m:Int)<(m:Int))=False:=eq_false (by omega)
def c7{α:Type}(f:Nat->Option α):Nat->Option α
 |0=>Yw
 |m+1=>(c7 f m).or (f m)
theorem cq{α:Type}{f:Nat->Option α}:∀{m:Nat},c7 f m=Yw↔∀k,k<m->f k=Yw
 |0=>by simp[c7]
 |m+1=>by
  rw[c7,Option.or_eq_none_iff,cq];exact⟨λh k hk=>by rcases WU.1 hk with h1|rfl<;>first|exact h.1 k h1|exact h.2,λh=>⟨λk hk=>h k (by omega),h m (by omega)⟩⟩
theorem eM{α:Type}{f:Nat->Option α}{x:α}:∀{m:Nat},c7 f m=some x->∃k,k<m/\f k=some x/\∀j,j<k->f j=Yw
 |0,h=>by cases h
 |m+1,h=>by
  rw[c7]at h
  cases e:c7 f m with
  |none=>rw[e]at h;exact⟨m,by omega,h,cq.1 e⟩
  |some y=>
   rw[e]at h;cases h;obtain⟨k,hk,h1,h2⟩:=eM e;exact⟨k,by omega,h1,h2⟩
theorem tv{α:Type}{f:Nat->Option α}{x:α}{k:Nat}(hx:f k=some x)(hn:∀j,j<k->f j=Yw):∀{m:Nat},k<m->c7 f m=some x
 |0,h=>by omega
 |m+1,h=>by
  rw[c7]
  rcases WU.1 h with h1|rfl
  .rw[tv hx hn h1];rfl
  .rw[cq.2 hn];exact hx
theorem Wp.first{S X Y:Type}{body:S->Option (S⊕X)}{s0:S}{Q:X->Prop}(tt:S->Int)(m:Nat)(f:Nat->Option Y)(hm:m<=9223372036854775807)(h0:tt s0=0)
 (h1:∀k s,k<m->tt s=(k:Int)->(∀j,j<k->f j=Yw)->Wp (body s) λr=>(f k=Yw/\∃s',r= .inl s'/\tt s'=((k+1:Nat):Int))\/∃x y,r= .inr x/\f k=Yp y/\(c7 f m=Yp y->Q x))
 (he:∀s,tt s=(m:Int)->(c7 f m=Yw)->Wp (body s) λr=>∃x,r= .inr x/\Q x):Wp (Loop body br s0) Q:=by
 refine Wp.count tt m (λk _=>∀j,j<k->f j=Yw) hm h0 (λj h=>by omega) λk s hk hs hJ=>?_
 rcases Nat.lt_or_ge k m with av|hge
 .refine(h1 k s av hs hJ).mono λr hr=>?_
  rcases hr with⟨hn,s',rfl,h2⟩|⟨x,y,rfl,h2,h3⟩
  .exact⟨av,h2,λj hj=>by rcases WU.1 hj with h|rfl<;>first|exact hJ j h|exact hn⟩
  .exact h3 (tv h2 hJ av)
 .obtain rfl:k=m:=by omega
  exact(he s hs (cq.2 hJ)).mono λr hr=>by obtain⟨x,rfl,h⟩:=hr;exact h
theorem W_:type_of% @Yc/\type_of% @gA/\type_of% @wp_bind/\type_of% @EZ/\type_of% @Ay/\type_of% @E0/\type_of% @EY/\type_of% @Az/\type_of% @tn/\type_of% @tq/\type_of% @if_true.{1}/\type_of% @if_false.{1}/\type_of% @ite_true.{1}/\type_of% @ite_false.{1}/\type_of% @W0/\type_of% @Bool.true_eq_false/\type_of% @decide_true/\type_of% @decide_false/\type_of% @decide_eq_decide/\type_of% @true_eq_decide_iff/\type_of% @false_eq_decide_iff/\type_of% @YI/\type_of% @decide_eq_false_iff_not/\type_of% @true_implies/\type_of% @false_implies/\type_of% @and_true/\type_of% @true_and/\type_of% @and_false/\type_of% @false_and/\type_of% @or_true/\type_of% @true_or/\type_of% @or_false/\type_of% @false_or/\type_of% @not_true_eq_false/\type_of% @not_false_eq_true/\type_of% @Bool.not_true/\type_of% @Bool.not_false/\type_of% @Bool.not_eq_true/\type_of% @Bool.not_eq_false/\type_of% @Bool.not_eq_eq_eq_not:=
 ⟨@Yc,@gA,@wp_bind,@EZ,@Ay,@E0,@EY,@Az,@tn,@tq,@if_true.{1},@if_false.{1},@ite_true.{1},@ite_false.{1},@W0,@Bool.true_eq_false,@decide_true,@decide_false,@decide_eq_decide,@true_eq_decide_iff,@false_eq_decide_iff,@YI,@decide_eq_false_iff_not,@true_implies,@false_implies,@and_true,@true_and,@and_false,@false_and,@or_true,@true_or,@or_false,@false_or,@not_true_eq_false,@not_false_eq_true,@Bool.not_true,@Bool.not_false,@Bool.not_eq_true,@Bool.not_eq_false,@Bool.not_eq_eq_eq_not⟩
end Go.Proofs.YtbladfbbhijpmaaGreat
end
namespace Go.Proofs.YtbladfbbhijpmaaGreat
open Go Go.RowKit
set_option maxRecDepth 100000
set_option linter.unusedSimpArgs false
set_option linter.unusedVariables false
set_option linter.defProp false
namespace L
abbrev Ty:Type:=aa.den
abbrev kB(l:List Nat):List Int:=l.map (λn:Nat=>(n:Int))
def ar(op:Int):Int:=
 if(1<=op/\op<=9)\/(35<=op/\op<=39)then 0 else if op=10\/op=25\/(31<=op/\op<=34)then 1 else if(11<=op/\op<=24)\/(27<=op/\op<=30)then 2 else if op=26 then 3 else-1
theorem AA(op:Int):ar op<=3:=by unfold ar;omega
def KD(a:Int)(i:Nat)(sk:List Nat):Nat:=if a=0 then i else sk.getD (sk.length-a.toNat) 0
def nT:List Ty->Nat->List Nat->List Nat->(Nat×Int)⊕(List Nat×List Nat)
 |[],_,st,sk=> .inr (st,sk)
 |n::e,i,st,sk=>
  if ar n.1<0 then .inl (i,2)else if(sk.length:Int)<ar n.1 then .inl (i,5)else
  if 12<sk.length-(ar n.1).toNat+1 then .inl (i,16)else nT e (i+1) (st++[KD (ar n.1) i sk]) (sk.take (sk.length-(ar n.1).toNat)++[KD (ar n.1) i sk])
def zf(e:List Ty):Int×Int×List Int:=
 if 48<e.length then(0,4,[])else if e.length=0 then(0,5,[])else match nT e 0 [] []with
  | .inl (i,c)=>(i,c,[])
  | .inr (st,sk)=>if 1<sk.length then(e.length,4,[])else(0,0,kB st)
def jw(t:Ty)(n:Nat):Prop:=(1<=(t.1:Int)/\(t.1:Int)<=5/\(t.2:Int)=0)\/((t.1:Int)=6/\0<=(t.2:Int)/\(t.2:Int)<n)
instance(t:Ty)(n:Nat):Decidable (jw t n):=by unfold jw;infer_instance
def VR(r:Ty):Prop:=0<=(r.1:Int)/\(r.1:Int)<=r.2/\(r.2:Int)<=109573
instance(r:Ty):Decidable (VR r):=by unfold VR;infer_instance
theorem E1(a b:Ty):jY aa a b=decide (a=b):=by
 unfold jY;exact decide_eq_decide.2 Iff.rfl
end L
section
namespace L
abbrev En:Type:=cO.den
abbrev ND:Type:=cK.den
abbrev Rw:Type:=gn.den
abbrev Lw:Type:=ig.den
abbrev jV:Type:=aZ.den
abbrev gr:Type:=cr.den
noncomputable def r6(s:ByteArray):Bool:=(M.mW br s).getD Yy
def nU{β:Type}(l:List (ByteArray×β))(nm:ByteArray):Prop:=∃x∈l,x.1=nm
noncomputable instance{β:Type}(l:List (ByteArray×β))(nm:ByteArray):Decidable (nU l nm):=Xr _
noncomputable instance(m:ByteArray)(l:List ByteArray):Decidable (m∈l):=Xr _
theorem rk{p:Nat->Prop}{k:Nat}(h:∀j,j<k->p j)(hk:p k):∀j,j<k+1->p j:=λj hj=>by
 rcases WU.1 hj with h1|rfl
 .exact h j h1
 .exact hk
open Classical in
theorem aW(t:Ty)(E:List En):M.dn br t E=some (decide (jw t E.length)):=by
 obtain⟨(k:Int),(e:Int)⟩:=t;apply Wp.eq;unfold M.dn;simp only[W_,YF,YG,reduceCtorEq];simp only[jw];dsimp only[ae,Row.den]at*;omega
theorem MA(r:Ty):M.lq br r=some (decide (VR r)):=by
 obtain⟨(k:Int),(e:Int)⟩:=r;apply Wp.eq;unfold M.lq;simp only[W_,YF,YG,reduceCtorEq];simp only[VR];dsimp only[ae,Row.den]at*;omega
def EF(t:Ty)(E:List En):Int×Int:=
 if¬jw t E.length then(0,-1)else if(t.1:Int)=1 then(0,1)else if(t.1:Int)=2 then(-1000000000000,1000000000000)else if(t.1:Int)=3 then(-1000000000000000,1000000000000000)else if(t.1:Int)=4 then(-1000000000,1000000000)else if(t.1:Int)=5 then(0,109572)
 else(0,WG.wrap ((((E[(t.2:Int).toNat]?).map λe=>(e.2.length:Int)).getD 0)-1))
theorem JQ(t:Ty)(E:List En):M.kq br t E=some (EF t E):=by
 obtain⟨(k:Int),(e:Int)⟩:=t;apply Wp.eq;unfold M.kq EF;simp only[aW,W_,YF,YG,reduceCtorEq];by_cases hv:jw (k,e) E.length
 .simp only[hv,not_true_eq_false,if_false,false_implies,true_implies,true_and];refine⟨λh=>by rw[YB h],λh1=>⟨λh=>by rw[YA h1,YB h],λh2=>⟨λh=>by rw[YA h1,YA h2,YB h],λh3=>⟨λh=>by rw[YA h1,YA h2,YA h3,YB h],λh4=>⟨λh=>by rw[YA h1,YA h2,YA h3,YA h4,YB h],λh5=>?_⟩⟩⟩⟩⟩;simp only[jw]at hv;dsimp only[ae,Row.den]at*
  have hi:e.toNat<E.length:=by omega
  refine ey.2 ⟨by omega,?_⟩;rw[YA h1,YA h2,YA h3,YA h4,YA h5,WJ hi];rfl
 .simp only[hv,not_false_eq_true,if_true,true_implies,false_implies,and_true]
def zg(n:Int)(t:Ty)(E:List En):Prop:=(EF t E).1<=n/\n<=(EF t E).2
instance(n:Int)(t:Ty)(E:List En):Decidable (zg n t E):=by unfold zg;infer_instance
def E2(x:Rw)(t:ND)(E:List En):Prop:=¬VR x.1\/(x.1.1:Int)=x.1.2\/(x.2.2.1:Int)<=x.2.1\/¬zg x.2.1 t.2.1 E\/¬zg (WG.wrap ((x.2.2.1:Int)-1)) t.2.1 E\/¬zg x.2.2.2 t.2.2.1 E
instance(x:Rw)(t:ND)(E:List En):Decidable (E2 x t E):=by unfold E2;infer_instance
def E3(a b:Rw):Prop:=VR a.1/\VR b.1/\((a.1.1:Int)<a.1.2/\(a.1.1:Int)<b.1.2/\(b.1.1:Int)<a.1.2/\(b.1.1:Int)<b.1.2)/\(a.2.1:Int)<a.2.2.1/\(a.2.1:Int)<b.2.2.1/\(b.2.1:Int)<a.2.2.1/\(b.2.1:Int)<b.2.2.1
instance(a b:Rw):Decidable (E3 a b):=by simp only[E3];dsimp only[ae,Row.den]at*;infer_instance
open Classical in
noncomputable def QW(t:ND)(E:List En)(k:Nat):Option (Int×Int):=match t.2.2.2[k]? with
 |none=>Yw
 |some x=>if E2 x t E then some ((k:Int),3)else if∃y∈t.2.2.2.take k,E3 y x then some ((k:Int),11)else Yw
noncomputable def Hr(t:ND)(E:List En):Int×Int:=
 if 64<t.2.2.2.length then(64,4)else if¬(jw t.2.1 E.length/\jw t.2.2.1 E.length)then(-1,8)else(c7 (QW t E) t.2.2.2.length).getD (0,0)
end L
end
namespace L
abbrev oY:Type:=aR.den
theorem ao(op:Int):M.jr br op=some (decide ((1<=op/\op<=8)\/(14<=op/\op<=16)\/op=33\/op=34\/(36<=op/\op<=39))):=by
 apply Wp.eq;unfold M.jr;simp only[W_,YF,YG,reduceCtorEq];omega
theorem aq(k:Int):M.fT br k=some (decide (k=2\/k=3\/k=4)):=by
 apply Wp.eq;unfold M.fT;simp only[W_,YF,YG,reduceCtorEq];omega
theorem an(k:Int):M.ei br k=some (decide (k=2\/k=3\/k=4\/k=5)):=by
 apply Wp.eq;unfold M.ei;simp only[aq,W_,YF,YG,reduceCtorEq];omega
theorem aE(k:Int):M.cg br k=some ((k,(0:Int)):Ty):=rfl
def w8(op m:Int)(s:oY):Prop:=(1<=op/\op<=5->zg m (op,(0:Int)) s.1)/\(14<=op/\op<=16->0<=m/\m<=5)/\(op=34->0<=m/\Yd m 8<=5)/\(op=6->0<=m)
instance(op m:Int)(s:oY):Decidable (w8 op m s):=by unfold w8;infer_instance
theorem rl(n:Ty)(s:oY):M.il br n s=some (decide (w8 n.1 n.2 s)):=by
 obtain⟨(op:Int),(m:Int)⟩:=n;apply Wp.eq;unfold M.il;simp only[aE,JQ,W_,YF,YG,reduceCtorEq];unfold w8 zg;dsimp only[ae,Row.den]at*;generalize EF (op,(0:Int)) s.1=b;omega
def Hs(op m:Int)(s:oY):Prop:=
 (op=6->WG.wrap (XR m 16)<(s.1.length:Int)/\Yd m 16<(((s.1[(WG.wrap (XR m 16)).toNat]?).map λe=>(e.2.length:Int)).getD 0))/\
 (op=7->0<=m/\m<(s.2.2.1.length:Int))/\(op=8->0<=m/\m<(s.2.2.2.1.length:Int))/\(op=33->0<=m/\m<(s.2.1.length:Int))/\(op=34->WG.wrap (XR m 8)<(s.2.1.length:Int))/\
 (35<=op/\op<=39->s.2.2.2.2.2=Yx)/\(36<=op/\op<=39->0<=m/\m<(s.2.2.2.2.1.length:Int))
instance(op m:Int)(s:oY):Decidable (Hs op m s):=by unfold Hs;infer_instance
theorem AB{m k:Int}(h0:0<=m)(h1:m<=9223372036854775807)(hk:0<k):0<=WG.wrap (XR m k):=by
 have h2:0<=XR m k:=Int.tdiv_nonneg h0 (by omega)
 have h3:XR m k<=m:=by rw[Int.tdiv_eq_ediv_of_nonneg h0];exact Int.ediv_le_self _ h0
 rw[eX (by omega) (by omega)];exact h2
theorem JR(n:Ty)(s:oY)(hm:(n.2:Int)<=9223372036854775807)(hr:w8 n.1 n.2 s):M.aJ br n s=some (decide (Hs n.1 n.2 s)):=by
 obtain⟨(op:Int),(m:Int)⟩:=n;apply Wp.eq;unfold M.aJ;simp only[W_,YF,YG,reduceCtorEq];unfold Hs;unfold w8 at hr;dsimp only[ae,Row.den]at*;refine⟨λh6=>⟨λh=>?_,λh=>?_⟩,λh6=>?_⟩
 .have h0:=AB (k:=16) (hr.2.2.2 h6) hm (by omega);refine ey.2 ⟨⟨h0,h⟩,?_⟩;rw[WJ (show(WG.wrap (XR m 16)).toNat<s.1.length by omega)];exact⟨λg=>⟨λ_=>⟨h,g⟩,by omega,by omega,by omega,by omega,λ_=>by omega,by omega⟩,λg=>(g.1 h6).2⟩
 .exact λg=>h (g.1 h6).1
 simp only[h6,W_,YF,YG,reduceCtorEq]
 cases h5:s.2.2.2.2.2<;>simp only[imp_false,W_,YF,YG,reduceCtorEq]<;>omega
theorem E4{op m:Int}{s:oY}(hf:Hs op m s):Wp (M.bi br (op,m) s) λ_=>True:=by
 unfold M.bi;simp only[aE,an,aW,W_,YF,YG,reduceCtorEq];unfold Hs at hf;dsimp only[ae,Row.den]at*
 refine λh6=>⟨λh7=>?_,λh7=>⟨λh8=>?_,λh8=>λh9 Wf=>?_⟩⟩
 .exact ey.2 ⟨hf.2.1 h7,trivial⟩
 .exact ey.2 ⟨hf.2.2.1 h8,trivial⟩
 .by_cases h:36<=op/\op<=39
  .have:Wp (idx s.2.2.2.2.1 m) λ_=>True:=ey.2 ⟨hf.2.2.2.2.2.2 h,trivial⟩
   simp only[this,W_,YF,YG,reduceCtorEq]
  .simp only[show¬op=36 by omega,show¬op=37 by omega,show¬op=38 by omega,show¬op=39 by omega,W_,YF,YG,reduceCtorEq]
theorem zh{op m:Int}{a:Ty}{s:oY}(hm:m<=9223372036854775807)(h1:ar op=1)(hr:w8 op m s)(hf:Hs op m s):Wp (M.b8 br (op,m) a s) λ_=>True:=by
 have rU:op=10\/op=25\/(31<=op/\op<=34):=by
  clear hr hf;unfold ar at h1;omega
 unfold M.b8;simp only[aE,aq,aW,W_,YF,YG,reduceCtorEq];unfold Hs at hf;unfold w8 at hr;dsimp only[ae,Row.den]at*
 have key:¬op=31->¬op=32->¬op=10->¬op=25->(op=33->Wp (idx s.2.1 m) λ_=>True)/\(¬op=33->Wp (idx s.2.1 (WG.wrap (m.tdiv 8))) λ_=>True):=by
  refine λNE R1 MB R2=>⟨λMC=>ey.2 ⟨hf.2.2.2.1 MC,trivial⟩,λMC=>?_⟩
  have MD:op=34:=by clear hr hf;omega
  exact ey.2 ⟨⟨AB (hr.2.2.1 MD).1 hm (by omega),hf.2.2.2.2.1 MD⟩,trivial⟩
 exact λMB R2=>⟨λNE g=>absurd NE g,λNE R1=>key NE R1 MB R2⟩
theorem zi(op a b:Int):Wp (M.fU br op a b) λ_=>True:=by
 unfold M.fU;simp only[aE,W_,YF,YG,reduceCtorEq]
theorem zj(op:Int)(a b:Ty):Wp (M.dV br op a b) λ_=>True:=by
 obtain⟨r,e,_⟩:=zi op a.1 b.1;unfold M.dV
 repeat' first|exact Wp.some trivial|exact⟨_,aq _,trivial⟩|exact⟨_,an _,trivial⟩|exact⟨_,aE _,trivial⟩|exact⟨_,e,trivial⟩|refine Wp.seq (λ_=>True) ?_ λ_ _=>?_|refine Wp.dec (λ_=>?_) λ_=>?_|refine Wp.ite (λ_=>?_) λ_=>?_
noncomputable def E5(n:Ty)(l:List Ty)(s:oY):Ty×Int:=(M.az br n l s).getD (((0:Int),(0:Int)),(0:Int))
theorem E6{n:Ty}{l:List Ty}{s:oY}(hw:WF aa n)(hl:(l.length:Int)=ar n.1):M.az br n l s=some (E5 n l s):=by
 refine(Wp.getD (Q:=λ_=>True) ?_ _).1;have hm:(n.2:Int)<=9223372036854775807:=hw.2.2;have h3:=AA n.1
 have key:Wp (M.il br n s) λx=>x=Yx->Wp (M.aJ br n s) λx=>x=Yx->((l.length:Int)=0->Wp (M.bi br n s) λ_=>True)/\(¬(l.length:Int)=0->((l.length:Int)=1->Wp (idx l 0) λx=>Wp (M.b8 br n x s) λ_=>True)/\
  (¬(l.length:Int)=1->((l.length:Int)=2->Wp (idx l 0) λx=>Wp (idx l 1) λU8=>Wp (M.dV br n.1 x U8) λ_=>True)/\(¬(l.length:Int)=2->Wp (idx l 1) λ_=>Wp (idx l 0) λx=>(x.1:Int)=1->Wp (idx l 1) λ_=>Wp (idx l 2) λ_=>True))):=by
  rw[rl]
  refine .some λhr=>?_
  have hr:w8 n.1 n.2 s:=YC hr;rw[JR n s hm hr]
  refine .some λhf=>?_
  have hf:Hs n.1 n.2 s:=YC hf;exact⟨λ_=>E4 hf,λh0=>⟨λh1=>ey.2 ⟨by omega,zh hm (by omega) hr hf⟩,λh1=>⟨λh2=>ey.2 ⟨by omega,ey.2 ⟨by omega,zj ..⟩⟩,λh2=>ey.2 ⟨by omega,ey.2 ⟨by omega,λ_=>ey.2 ⟨by omega,ey.2 ⟨by omega,trivial⟩⟩⟩⟩⟩⟩⟩
 unfold M.az;simp only[ao,W_,YF,YG,reduceCtorEq];exact⟨λ_ _=>key,λ_=>key⟩
noncomputable def mE(s:oY):List Ty->Nat->List Ty->(Nat×Int)⊕List Ty
 |[],_,jR=> .inr jR
 |n::e,i,jR=>
  if(E5 n (jR.drop (jR.length-(ar n.1).toNat)) s).2≠0 then .inl (i,(E5 n (jR.drop (jR.length-(ar n.1).toNat)) s).2)
  else mE s e (i+1) (jR.take (jR.length-(ar n.1).toNat)++[(E5 n (jR.drop (jR.length-(ar n.1).toNat)) s).1])
noncomputable def Ht(e:List Ty)(s:oY):Ty×Int×Int:=
 if(zf e).2.1≠0 then(((0:Int),(0:Int)),(zf e).1,(zf e).2.1)else match mE s e 0 []with
  | .inl (i,c)=>(((0:Int),(0:Int)),(i:Int),c)
  | .inr jR=>(jR.headD ((0:Int),(0:Int)),0,0)
theorem Hu{e:List Ty}(h:(zf e).2.1=0):e.length<=48/\e≠[]/\∃st sk,nT e 0 [] []= .inr (st,sk):=by
 unfold zf at h;split at h
 .cases h
 split at h
 .cases h
 rename_i h1 h2;refine⟨by omega,λe=>h2 (by rw[e];rfl),?_⟩;split at h
 .rename_i c hc;exfalso
  have:∀(e:List Ty)(i:Nat)(st sk:List Nat)(j:Nat),nT e i st sk≠ .inl (j,0):=by
   intro e
   induction e with
   |nil=>intro i st sk j h;cases h
   |cons n e ih=>
    intro i st sk j h;rw[nT]at h;split at h
    .cases h
    split at h
    .cases h
    split at h
    .cases h
    exact ih _ _ _ _ h
  have U9:c=0:=h;subst U9;exact this _ _ _ _ _ hc
 .rename_i st sk hs;exact⟨st,sk,hs⟩
end L
namespace L
def ins(n:Int):List Int->List Int
 |[]=>[n]
 |x::l=>if x<n then x::ins n l else if x=n then x::l else n::x::l
theorem E7(n x:Int)(l:List Int):ins n (x::l)=if x<n then x::ins n l else if x=n then x::l else n::x::l:=rfl
theorem jg{n y:Int}:∀{l:List Int},y∈ins n l↔y=n\/y∈l
 |[]=>by simp[ins]
 |x::l=>by
  unfold ins;split
  .rw[WS,jg,WS];exact⟨λh=>by rcases h with h|h|h<;>simp[h],λh=>by rcases h with h|h|h<;>simp[h]⟩
  split
  .rename_i h;subst h;simp
  .simp
def kC(p:Int->Bool)(e:List Ty):List Int:=e.foldl (λl n=>if p n.1=Yx then ins n.2 l else l) []
def pw(op:Int):Bool:=decide (op=8)
def px(n:Nat)(l:List Int):Prop:=l.Pairwise (· < ·)/\∀x∈l,0<=x/\x<(n:Int)
theorem px.nil{n:Nat}:px n []:=⟨.nil,λ_ h=>by cases h⟩
theorem JT{l:List Int}:∀{a b:Int},l.Pairwise (· < ·)->(∀x∈l,a<=x/\x<b)->(l.length:Int)<=max 0 (b-a):=by
 induction l with
 |nil=>intro a b _ _;simp;omega
 |cons x l ih=>
  intro a b hp hb;obtain⟨h1,h2⟩:=Xe.1 hp;have hx:=hb x (Xx ..)
  have:=ih (a:=x+1) (b:=b) h2 λy hy=>⟨h1 y hy,(hb y (Xk _ hy)).2⟩
  simp only[WX];omega
theorem px.len{n:Nat}{l:List Int}(h:px n l):l.length<=n:=by
 have:=JT h.1 h.2;omega
theorem zk{n:Int}:∀{l:List Int},l.Pairwise (· < ·)->(ins n l).Pairwise (· < ·)
 |[],_=>List.pairwise_singleton ..
 |x::l,h=>by
  obtain⟨h1,h2⟩:=Xe.1 h;rw[E7];split
  .exact Xe.2 ⟨λy hy=>by rcases jg.1 hy with rfl|hy;assumption;exact h1 y hy,zk h2⟩
  split
  .exact h
  .refine Xe.2 ⟨λy hy=>?_,h⟩
   rcases WS.1 hy with rfl|hy
   .omega
   .have:=h1 y hy;omega
theorem px.ins{n:Nat}{x:Int}{l:List Int}(h:px n l)(hx:0<=x/\x<(n:Int)):px n (ins x l):=
 ⟨zk h.1,λy hy=>by rcases jg.1 hy with rfl|hy;exact hx;exact h.2 y hy⟩
def jh(n:Nat)(out l:List Int):List Int:=l.foldl (λo x=>if 0<=x/\x<(n:Int)then ins x o else o) out
theorem px.jh{n:Nat}:∀{l out:List Int},px n out->px n (jh n out l)
 |[],_,h=>h
 |x::l,out,h=>by
  show px n (L.jh n (if 0<=x/\x<(n:Int)then L.ins x out else out) l)
  refine px.jh ?_;split
  .exact h.ins ‹_›
  .exact h
def gM(s:jV)(d:Int):List Int:=
 if 0<=d/\d<(s.2.2.2.1.length:Int)then s.2.2.2.2.foldl (λout r=>if(r.2.1:Int)=d then jh s.2.2.2.1.length (jh s.2.2.2.1.length out (kC pw r.2.2.2.2.2.1)) (kC pw r.2.2.2.2.2.2.1)else out) []else[]
theorem lB(s:jV)(d:Int):px s.2.2.2.1.length (gM s d):=by
 unfold gM;split
 .suffices∀(rs:List gr)(out:List Int),px s.2.2.2.1.length out->px s.2.2.2.1.length (rs.foldl (λout r=>if(r.2.1:Int)=d then jh s.2.2.2.1.length (jh s.2.2.2.1.length out (kC pw r.2.2.2.2.2.1)) (kC pw r.2.2.2.2.2.2.1)else out) out)from this _ _ .nil
  intro rs
  induction rs with
  |nil=>intro out h;exact h
  |cons r rs ih=>
   intro out h;rw[XO];refine ih _ ?_;split
   .exact h.jh.jh
   .exact h
 .exact .nil
def stepT(s:jV)(out:List Int):List Int:=out.foldl (λo x=>(gM s x).foldl (λo y=>ins y o) o) out
def fG(s:jV):Nat->List Int->List Int
 |0,out=>out
 |n+1,out=>stepT s (fG s n out)
def E8(s:jV)(d:Int):List Int:=fG s s.2.2.2.1.length (gM s d)
theorem px.E9{n:Nat}:∀{l out:List Int},(∀x∈l,0<=x/\x<(n:Int))->px n out->px n (l.foldl (λo y=>L.ins y o) out)
 |[],_,_,h=>h
 |x::l,out,hx,h=>px.E9 (l:=l) (out:=L.ins x out) (λy hy=>hx y (Xk _ hy)) (h.ins (hx x (Xx ..)))
theorem mg(s:jV){out:List Int}(h:px s.2.2.2.1.length out):px s.2.2.2.1.length (stepT s out):=by
 unfold stepT
 suffices∀(l o:List Int),px s.2.2.2.1.length o->px s.2.2.2.1.length (l.foldl (λo x=>(gM s x).foldl (λo y=>ins y o) o) o)from this _ _ h
 intro l
 induction l with
 |nil=>intro o h;exact h
 |cons x l ih=>intro o h;exact ih _ (h.E9 (lB s x).2)
end L
namespace L
def zn(s:jV):Prop:=s.1.size<=80/\s.2.2.1.length<=14/\s.2.2.2.1.length<=14/\s.2.2.2.2.length<=60/\(∀f∈s.2.2.1,f.1.size<=80)/\(∀f∈s.2.2.2.1,f.1.size<=80)/\∀r∈s.2.2.2.2,r.1.size<=80/\r.2.2.2.2.2.2.2.size<=80/\r.2.2.2.2.2.1.length<=50/\r.2.2.2.2.2.2.1.length<=50
def JU(l:Lw):Prop:=l.1.length<=9/\l.2.1.length<=9/\l.2.2.length<=5/\(∀e∈l.1,e.1.size<=80/\e.2.length<=20/\∀m∈e.2,m.size<=80)/\(∀t∈l.2.1,t.1.size<=80)/\∀s∈l.2.2,zn s
abbrev LE:Type:=bm.den
def NF:LE:=((0:Int),((0:Int),((0:Int),(0:Int))))
def Fa(sec:Int)(k:Int):Option (Int×Int)->LE
 |none=>NF
 |some (c,e)=>(c,(sec,(k,e)))
noncomputable def ME(ms:List ByteArray)(i:Nat):Option (Int×Int):=match ms[i]? with
 |none=>Yw
 |some m=>if r6 m=Yy then some (2,100+(i:Int))else if m∈ms.take i then some (7,100+(i:Int))else Yw
noncomputable def AD(l:Lw)(k:Nat):Option (Int×Int):=match l.1[k]? with
 |none=>Yw
 |some x=>if r6 x.1=Yy then some (2,0)else if nU (l.1.take k) x.1 then some (7,0)else if x.2.length=0 then some (5,0)else if 16<x.2.length then some (4,116)else c7 (ME x.2) x.2.length
end L
namespace L
noncomputable def Hv(l:Lw)(k:Nat):Option (Int×Int):=match l.2.1[k]? with
 |none=>Yw
 |some x=>if r6 x.1=Yy then some (2,0)else if nU l.1 x.1\/nU (l.2.1.take k) x.1 then some (7,0)else if(Hr x l.1).2=0 then Yw else some ((Hr x l.1).2,if 0<=(Hr x l.1).1 then 100+(Hr x l.1).1 else 0)
noncomputable def MF(l:Lw)(x:jV)(i:Nat):Option (Int×Int):=match x.2.2.1[i]? with
 |none=>Yw
 |some f=>if r6 f.1=Yy then some (2,100+(i:Int))else if nU (x.2.2.1.take i) f.1 then some (7,100+(i:Int))else if¬jw f.2 l.1.length then some (8,100+(i:Int))else Yw
noncomputable def MG(l:Lw)(x:jV)(i:Nat):Option (Int×Int):=match x.2.2.2.1[i]? with
 |none=>Yw
 |some f=>if r6 f.1=Yy then some (2,200+(i:Int))else if nU x.2.2.1 f.1\/nU (x.2.2.2.1.take i) f.1 then some (7,200+(i:Int))else if¬jw f.2 l.1.length then some (8,200+(i:Int))else Yw
noncomputable def Hw(l:Lw)(x:jV):Option (Int×Int):=(c7 (MF l x) x.2.2.1.length).or (c7 (MG l x) x.2.2.2.1.length)
def plain(s:ByteArray):Prop:=(∀i,∀h:i<s.size,32<=(s[i].toNat:Int)/\(s[i].toNat:Int)<=126/\(s[i].toNat:Int)≠34)/\s.size<=64
noncomputable instance(s:ByteArray):Decidable (plain s):=Xr _
def Cp(l:Lw)(x:jV):oY:=(l.1,(l.2.1,(x.2.2.1.map (·.2),(x.2.2.2.1.map (·.2),(match l.2.2[(x.2.1:Int).toNat]? with
 |some y=>if 0<=(x.2.1:Int)then y.2.2.2.1.map (·.2)else[]
 |none=>[],decide (0<=(x.2.1:Int)/\(x.2.1:Int)<(l.2.2.length:Int)))))))
end L
namespace L
noncomputable def Cq(e:List Ty)(s:oY)(want:Ty):Int:=if(Ht e s).2.2≠0 then(Ht e s).2.2 else if(Ht e s).1≠want then 8 else 0
def Hx(x:jV)(k:Nat)(d:Int):Nat:=(x.2.2.2.2.take k).countP λr=>decide ((r.2.1:Int)=d)
def uN(x:jV)(k:Nat)(r:gr):Prop:=(r.2.2.1:Int)≠-1/\((r.2.2.1:Int)<0\/(k:Int)<=r.2.2.1\/∃y,x.2.2.2.2[(r.2.2.1:Int).toNat]? =some y/\(y.2.1:Int)≠r.2.1)
noncomputable instance(x:jV)(k:Nat)(r:gr):Decidable (uN x k r):=Xr _
noncomputable def Cr(l:Lw)(x:jV)(k:Nat)(r:gr):Int:=
 if r6 r.1=Yy then 2 else if nU (x.2.2.2.2.take k) r.1 then 7 else if¬(0<=(r.2.1:Int)/\(r.2.1:Int)<(x.2.2.2.1.length:Int))then 6 else if uN x k r then 9 else
 if(r.2.2.2.1:Int)<0\/9<(r.2.2.2.1:Int)\/¬VR r.2.2.2.2.1\/(r.2.2.2.2.1.1:Int)=r.2.2.2.2.1.2 then 3 else if 8<=Hx x k r.2.1 then 4 else if¬plain r.2.2.2.2.2.2.2 then 2 else
 if 0<r.2.2.2.2.2.1.length/\Cq r.2.2.2.2.2.1 (Cp l x) ((1:Int),(0:Int))≠0 then Cq r.2.2.2.2.2.1 (Cp l x) ((1:Int),(0:Int))else
 match x.2.2.2.1[(r.2.1:Int).toNat]? with
 |some d=>Cq r.2.2.2.2.2.2.1 (Cp l x) d.2
 |none=>0
noncomputable def JV(l:Lw)(x:jV)(k:Nat):Option (Int×Int):=match x.2.2.2.2[k]? with
 |none=>Yw
 |some r=>if Cr l x k r≠0 then some (Cr l x k r,300+(k:Int))else Yw
noncomputable def JW(x:jV)(d:Nat):Option (Int×Int):=if(d:Int)∈E8 x d then some (9,200+(d:Int))else Yw
def zo(l:Lw)(k:Nat)(x:jV):Prop:=(x.2.1:Int)≠-1/\((x.2.1:Int)<0\/(k:Int)<=x.2.1\/∃y,l.2.2[(x.2.1:Int).toNat]? =some y/\(y.2.1:Int)≠-1)
noncomputable instance(l:Lw)(k:Nat)(x:jV):Decidable (zo l k x):=Xr _
noncomputable def Fb(l:Lw)(k:Nat):Option (Int×Int):=match l.2.2[k]? with
 |none=>Yw
 |some x=>
  if r6 x.1=Yy then some (2,0)else if nU l.1 x.1\/nU l.2.1 x.1\/nU (l.2.2.take k) x.1 then some (7,0)else if zo l k x then some (6,0)else
  if 12<x.2.2.1.length then some (4,112)else if 12<x.2.2.2.1.length then some (4,212)else((Hw l x).or (c7 (JV l x) x.2.2.2.2.length)).or (c7 (JW x) x.2.2.2.1.length)
theorem Fc{l:Lw}{x:jV}{e:Int×Int}(h:Hw l x=some e):e.1≠0:=by
 have key:∀(f:Nat->Option (Int×Int)),(∀i e,f i=some e->e.1≠0)->∀{m e},c7 f m=some e->e.1≠0:=λf hf m e h=>by
  obtain⟨k,_,h,_⟩:=eM h;exact hf k e h
 unfold Hw at h
 rcases Option.or_eq_some_iff.1 h with h|⟨_,h⟩
 .refine key _ (λi e h=>?_) h;unfold MF at h
  repeat' split at h
  all_goals first|cases h|skip
  all_goals simp
 .refine key _ (λi e h=>?_) h;unfold MG at h
  repeat' split at h
  all_goals first|cases h|skip
  all_goals simp
theorem Hy(x:jV)(d:Int):px x.2.2.2.1.length (E8 x d):=by
 have:∀m,px x.2.2.2.1.length (fG x m (gM x d)):=λm=>by
  induction m with
  |zero=>exact lB x d
  |succ m ih=>exact mg x ih
 exact this _
noncomputable def Hz(l:Lw):LE:=
 if 8<l.1.length then((4:Int),((1:Int),((8:Int),(0:Int))))else match c7 (λk=>(AD l k).map λe=>(k,e)) l.1.length with
 |some (k,e)=>Fa 1 (k:Int) (some e)
 |none=>if 8<l.2.1.length then((4:Int),((2:Int),((8:Int),(0:Int))))else match c7 (λk=>(Hv l k).map λe=>(k,e)) l.2.1.length with
  |some (k,e)=>Fa 2 (k:Int) (some e)
  |none=>if 4<l.2.2.length then((4:Int),((3:Int),((4:Int),(0:Int))))else match c7 (λk=>(Fb l k).map λe=>(k,e)) l.2.2.length with
   |some (k,e)=>Fa 3 (k:Int) (some e)
   |none=>NF
theorem na{f:Nat->Option (Int×Int)}(hf:∀i e,f i=some e->e.1≠0){m:Nat}{e:Int×Int}(h:c7 f m=some e):e.1≠0:=by
 obtain⟨k,_,h,_⟩:=eM h;exact hf k e h
theorem Cs{l:Lw}{k:Nat}{e:Int×Int}(h:AD l k=some e):e.1≠0:=by
 unfold AD at h
 repeat' split at h
 all_goals first|cases h|skip
 all_goals first|simp;done|skip
 refine na (λi e h=>?_) h;unfold ME at h
 repeat' split at h
 all_goals first|cases h|skip
 all_goals simp
theorem Fe{l:Lw}{k:Nat}{e:Int×Int}(h:Hv l k=some e):e.1≠0:=by
 unfold Hv at h
 repeat' split at h
 all_goals first|cases h|skip
 all_goals first|simp;done|assumption
theorem Ff{l:Lw}{k:Nat}{e:Int×Int}(h:Fb l k=some e):e.1≠0:=by
 unfold Fb at h
 repeat' split at h
 all_goals first|cases h|skip
 all_goals first|simp;done|skip
 rcases Option.or_eq_some_iff.1 h with h|⟨_,h⟩
 .rcases Option.or_eq_some_iff.1 h with h|⟨_,h⟩
  .exact Fc h
  .refine na (λi e h=>?_) h;unfold JV at h
   repeat' split at h
   all_goals first|cases h|skip
   assumption
 .refine na (λi e h=>?_) h;unfold JW at h
  repeat' split at h
  all_goals first|cases h|skip
  simp
def Valid(l:Lw):Prop:=(Hz l).1=0
noncomputable instance(l:Lw):Decidable (Valid l):=Xr _
theorem Valid.scopes{l:Lw}(h:Valid l):l.1.length<=8/\l.2.1.length<=8/\l.2.2.length<=4/\(∀k,k<l.1.length->AD l k=Yw)/\(∀k,k<l.2.1.length->Hv l k=Yw)/\∀k,k<l.2.2.length->Fb l k=Yw:=by
 unfold Valid Hz at h;split at h
 .cases h
 split at h
 .rename_i k e hf;obtain⟨j,_,hj,_⟩:=eM hf;obtain⟨e',he',h2⟩:=Option.map_eq_some_iff.1 hj;cases h2;exact absurd h (Cs he')
 rename_i hA;split at h
 .cases h
 split at h
 .rename_i k e hf;obtain⟨j,_,hj,_⟩:=eM hf;obtain⟨e',he',h2⟩:=Option.map_eq_some_iff.1 hj;cases h2;exact absurd h (Fe he')
 rename_i hB;split at h
 .cases h
 split at h
 .rename_i k e hf;obtain⟨j,_,hj,_⟩:=eM hf;obtain⟨e',he',h2⟩:=Option.map_eq_some_iff.1 hj;cases h2;exact absurd h (Ff he')
 rename_i hC;exact⟨by omega,by omega,by omega,λk hk=>by simpa using cq.1 hA k hk,λk hk=>by simpa using cq.1 hB k hk,λk hk=>by simpa using cq.1 hC k hk⟩
theorem Valid.scope{l:Lw}(h:Valid l)(k:Nat)(hk:k<l.2.2.length):r6 l.2.2[k].1=Yx/\¬nU (l.2.2.take k) l.2.2[k].1/\¬zo l k l.2.2[k]/\l.2.2[k].2.2.1.length<=12/\l.2.2[k].2.2.2.1.length<=12/\Hw l l.2.2[k]=Yw/\
 (∀i,∀hi:i<l.2.2[k].2.2.2.2.length,Cr l l.2.2[k] i l.2.2[k].2.2.2.2[i]=0)/\∀d:Nat,d<l.2.2[k].2.2.2.1.length->¬(d:Int)∈E8 l.2.2[k] d:=by
 have h:=h.scopes.2.2.2.2.2 k hk;unfold Fb at h;rw[WJ hk]at h;dsimp only at h;split at h
 .cases h
 split at h
 .cases h
 split at h
 .cases h
 split at h
 .cases h
 split at h
 .cases h
 rename_i h1 h2 h3 h4 h5;rw[Option.or_eq_none_iff,Option.or_eq_none_iff]at h;refine⟨by simpa using h1,λg=>h2 (.inr (.inr g)),h3,by omega,by omega,h.1.1,λi hi=>?_,λd hd g=>?_⟩
 .have:=cq.1 h.1.2 i hi;unfold JV at this;rw[WJ hi]at this;dsimp only at this;split at this
  .cases this
  .exact Yc.1 ‹_›
 .have:=cq.1 h.2 d hd;unfold JW at this;rw[YB g]at this;cases this
end L
namespace L
def r7{α:Type}(p:α->Bool)(l:List α):Int:=if l.findIdx p<l.length then((l.findIdx p:Nat):Int)else-1
theorem uO{α:Type}{p:α->Bool}{l:List α}{k:Nat}(hk:k<l.length)(hp:p l[k]=Yx)(hn:∀j,j<k->∀h:j<l.length,p l[j]=Yy):r7 p l=(k:Int):=by
 have h1:l.findIdx p=k:=by
  rcases Nat.lt_trichotomy (l.findIdx p) k with h|h|h
  .have:=hn _ h (by omega);have h2:=List.findIdx_getElem (xs:=l) (p:=p) (w:=by omega);rw[this]at h2;cases h2
  .exact h
  .have:=List.not_of_lt_findIdx h;rw[hp]at this;cases this
 unfold r7;rw[YB (by omega),h1]
theorem Ct{α:Type}{p:α->Bool}{l:List α}(hn:∀j,∀h:j<l.length,p l[j]=Yy):r7 p l= -1:=by
 unfold r7;rw[YA λh=>?_];have h2:=List.findIdx_getElem (xs:=l) (p:=p) (w:=h);rw[hn _ h]at h2;cases h2
theorem lC{α:Type}{p:α->Bool}{l:List α}:0<=r7 p l↔∃x∈l,p x=Yx:=by
 unfold r7;rw[<-List.findIdx_lt_length]
 split<;>simp_all
theorem uP{α:Type}{l:List α}{p:α->Bool}{body:Int->Option (Int⊕Int)}(hl:l.length<=maxLen)
 (hb:∀k,∀h:k<l.length,body (k:Int)=if p l[k]=Yx then some (.inr (k:Int))else some (.inl (WG.wrap ((k:Int)+1))))
 (he:body (l.length:Int)=some (.inr (-1:Int))):Loop body br (0:Int)=some (r7 p l):=by
 apply Wp.eq
 refine Wp.count (λs=>s) l.length (λk _=>∀j,j<k->∀h:j<l.length,p l[j]=Yy) hl rfl (λj hj=>by omega) λk c hk hs hJ=>?_
 obtain rfl:c=_:=hs
 rcases Nat.lt_or_ge k l.length with av|hge
 .rw[hb k av];simp only[W_,YF,YG,reduceCtorEq,eL,dW,kM hl av];exact⟨λh=>by rw[uO av h hJ],λh=>⟨av,rk hJ λ_=>by simpa using h⟩⟩
 .obtain rfl:k=l.length:=by omega
  rw[he];simp only[W_,YF,YG,reduceCtorEq,dW];rw[Ct λj h=>hJ j h h]
theorem lD{e:Row}{l:List e.den}{x:e.den}(h:x∈l):b7 e x<=b7 (.slice e) l:=by
 show b7 e x<=(l.map (b7 e)).sum+1
 induction l with
 |nil=>cases h
 |cons y l ih=>
  rw[List.map_cons,List.sum_cons]
  rcases WS.1 h with rfl|h
  .omega
  .have:=ih h;omega
theorem fi{e:Row}(l:List e.den):l.length<=b7 (.slice e) l:=by
 show l.length<=(l.map (b7 e)).sum+1
 induction l with
 |nil=>simp
 |cons y l ih=>
  rw[List.map_cons,List.sum_cons,WX];have:=vp e y;omega
structure MH(l:Lw):Prop where
 en:∀e∈l.1,e.2.length<=1048576
 tb:∀t∈l.2.1,t.2.2.2.length<=1048576
 ru:∀s∈l.2.2,∀r∈s.2.2.2.2,r.2.2.2.2.2.1.length<=1048576/\r.2.2.2.2.2.2.1.length<=1048576
 en':l.1.length<=1048576
 tb':l.2.1.length<=1048576
 sc':l.2.2.length<=1048576
 sc:∀s∈l.2.2,s.2.2.1.length<=1048576/\s.2.2.2.1.length<=1048576/\s.2.2.2.2.length<=1048576
theorem MH.of{l:Lw}(h:b7 ig l<=1048576):MH l:=by
 have e1:b7 ig l=b7 (.slice cO) l.1+(b7 (.slice cK) l.2.1+b7 (.slice aZ) l.2.2):=rfl;rw[e1]at h;refine⟨λe he=>?_,λt ht=>?_,λs hs r hr=>?_,?_,?_,?_,λs hs=>?_⟩
 .have h1:=lD he;have h2:=fi (e:= .str) e.2;have h3:b7 cO e=b7 .str e.1+b7 (.slice .str) e.2:=rfl;omega
 .have h1:=lD ht;have h2:=fi (e:=gn) t.2.2.2;have h3:b7 cK t=b7 .str t.1+(b7 aa t.2.1+(b7 aa t.2.2.1+b7 (.slice gn) t.2.2.2)):=rfl;omega
 .have h1:=lD hs;have h3:b7 aZ s=b7 .str s.1+(b7 ae s.2.1+(b7 (.slice aY) s.2.2.1+(b7 (.slice aY) s.2.2.2.1+b7 (.slice cr) s.2.2.2.2))):=rfl;have h4:=lD hr;have h5:=fi (e:=aa) r.2.2.2.2.2.1;have h6:=fi (e:=aa) r.2.2.2.2.2.2.1;have h7:b7 cr r=b7 .str r.1+(b7 ae r.2.1+(b7 ae r.2.2.1+(b7 ae r.2.2.2.1+(b7 aa r.2.2.2.2.1+(b7 (.slice aa) r.2.2.2.2.2.1+(b7 (.slice aa) r.2.2.2.2.2.2.1+b7 .str r.2.2.2.2.2.2.2)))))):=rfl;omega
 .have:=fi (e:=cO) l.1;omega
 .have:=fi (e:=cK) l.2.1;omega
 .have:=fi (e:=aZ) l.2.2;omega
 .have h1:=lD hs;have h3:b7 aZ s=b7 .str s.1+(b7 ae s.2.1+(b7 (.slice aY) s.2.2.1+(b7 (.slice aY) s.2.2.2.1+b7 (.slice cr) s.2.2.2.2))):=rfl;have h5:=fi (e:=aY) s.2.2.1;have h6:=fi (e:=aY) s.2.2.2.1;have h7:=fi (e:=cr) s.2.2.2.2;omega
end L
namespace L
theorem nc(t:Ty)(E:List En):M.bL br t E=some (decide (jw t E.length)):=by
 obtain⟨(k:Int),(e:Int)⟩:=t;apply Wp.eq;unfold M.bL;simp only[W_,YF,YG,reduceCtorEq];simp only[jw];dsimp only[ae,Row.den]at*;omega
theorem HA(t:Ty)(E:List En):M.eU br t E=some (EF t E):=by
 obtain⟨(k:Int),(e:Int)⟩:=t;apply Wp.eq;unfold M.eU EF;simp only[nc,W_,YF,YG,reduceCtorEq];by_cases hv:jw (k,e) E.length
 .simp only[hv,not_true_eq_false,if_false,false_implies,true_implies,true_and];refine⟨λh=>by rw[YB h],λh1=>⟨λh=>by rw[YA h1,YB h],λh2=>⟨λh=>by rw[YA h1,YA h2,YB h],λh3=>⟨λh=>by rw[YA h1,YA h2,YA h3,YB h],λh4=>⟨λh=>by rw[YA h1,YA h2,YA h3,YA h4,YB h],λh5=>?_⟩⟩⟩⟩⟩;simp only[jw]at hv;dsimp only[ae,Row.den]at*
  have hi:e.toNat<E.length:=by omega
  refine ey.2 ⟨by omega,?_⟩;rw[YA h1,YA h2,YA h3,YA h4,YA h5,WJ hi];rfl
 .simp only[hv,not_false_eq_true,if_true,true_implies,false_implies,and_true]
theorem JX(r:Ty):M.dl br r=some (decide (VR r)):=by
 obtain⟨(k:Int),(e:Int)⟩:=r;apply Wp.eq;unfold M.dl;simp only[W_,YF,YG,reduceCtorEq];simp only[VR];dsimp only[ae,Row.den]at*;omega
def MI(sg:oY):Prop:=∀e:List Ty,(∀n∈e,WF aa n)->M.jf br e sg=some (Ht e sg)
def MJ(x:jV):Prop:=∀d:Nat,d<x.2.2.2.1.length->∃tr,M.ef br x (d:Int)=some tr/\tr.length<=1000/\((d:Int)∈tr↔(d:Int)∈E8 x d)
end L
namespace L
theorem Fg(op:Int):M.iJ br op=some (ar op):=by
 apply Wp.eq;unfold M.iJ ar;simp only[W_,YF,YG,reduceCtorEq];omega
theorem Fh(op:Int):M.km br op=some (decide ((1<=op/\op<=8)\/(14<=op/\op<=16)\/op=33\/op=34\/(36<=op/\op<=39))):=by
 apply Wp.eq;unfold M.km;simp only[W_,YF,YG,reduceCtorEq];omega
theorem aL(k:Int):M.c8 br k=some (decide (k=2\/k=3\/k=4)):=by
 apply Wp.eq;unfold M.c8;simp only[W_,YF,YG,reduceCtorEq];omega
theorem aD(k:Int):M.eJ br k=some (decide (0<=k/\k<=5)):=by
 apply Wp.eq;unfold M.eJ;simp only[W_,YF,YG,reduceCtorEq];omega
theorem aX(m k:Int)(s:oY):M.cn br m k s=some (if zg m (k,(0:Int)) s.1 then((k,(0:Int)),(0:Int))else(((0:Int),(0:Int)),(3:Int))):=by
 apply Wp.eq;unfold M.cn;simp only[HA,W_,YF,YG,reduceCtorEq];have hI:zg m (k,(0:Int)) s.1↔(EF (k,(0:Int)) s.1).1<=m/\m<=(EF (k,(0:Int)) s.1).2:=Iff.rfl;exact⟨λh=>by rw[YA λg=>by have:=hI.1 g;omega],λh=>⟨λh'=>by rw[YA λg=>by have:=hI.1 g;omega],λh'=>by rw[YB (hI.2 (by omega))]⟩⟩
noncomputable def pN(n:Ty)(l:List Ty)(s:oY):Option (Ty×Int):=
 if(n.2:Int)≠0/\¬((1<=(n.1:Int)/\(n.1:Int)<=8)\/(14<=(n.1:Int)/\(n.1:Int)<=16)\/(n.1:Int)=33\/(n.1:Int)=34\/(36<=(n.1:Int)/\(n.1:Int)<=39))then some (((0:Int),(0:Int)),2)else M.aC br n l s
def mq(t:Ty):Prop:=1<=(t.1:Int)/\(t.1:Int)<=5->(t.2:Int)=0
theorem JY(op m:Int)(a b:Ty)(s:oY)(h2:ar op=2)(ha:mq a)(_:mq b):pN (op,m) [a,b] s=M.az br (op,m) [a,b] s:=by
 have hr:=rl (op,m) s
 have hR:w8 op m s↔(14<=op/\op<=16->0<=m/\m<=5):=by
  unfold ar at h2;unfold w8;exact⟨λh=>h.2.1,λh=>⟨λ_=>by omega,h,λ_=>by omega,λ_=>by omega⟩⟩
 have rU:op=11\/op=12\/op=13\/op=14\/op=15\/op=16\/op=17\/op=18\/op=19\/op=20\/op=21\/op=22\/op=23\/op=24\/op=27\/op=28\/op=29\/op=30:=by unfold ar at h2;omega
 obtain⟨(a1:Int),(a2:Int)⟩:=a;obtain⟨(b1:Int),(b2:Int)⟩:=b;simp only[mq]at ha
 rcases rU with rfl|rfl|rfl|rfl|rfl|rfl|rfl|rfl|rfl|rfl|rfl|rfl|rfl|rfl|rfl|rfl|rfl|rfl
 all_goals
  unfold pN M.aC M.cx M.gp M.az M.aJ M.dV M.fU;simp[ao,aq,an,aE,aL,aD,bG,hr,hR,idx,E1]
  grind
theorem Fi(op m:Int)(a b c:Ty)(s:oY)(h3:ar op=3):pN (op,m) [a,b,c] s=M.az br (op,m) [a,b,c] s:=by
 have rU:op=26:=by unfold ar at h3;omega
 subst rU;have hr:=rl ((26:Int),m) s
 have hR:w8 26 m s:=by unfold w8;omega
 obtain⟨(a1:Int),(a2:Int)⟩:=a;obtain⟨(b1:Int),(b2:Int)⟩:=b;obtain⟨(c1:Int),(c2:Int)⟩:=c;unfold pN M.aC M.cx M.az M.aJ;simp[ao,aq,an,aE,aL,aD,bG,hr,hR,idx,E1]
 grind
theorem JZ(op m:Int)(a:Ty)(s:oY)(hm:m<=9223372036854775807)(h1:ar op=1)(ha:mq a):pN (op,m) [a] s=M.az br (op,m) [a] s:=by
 have hr:=rl (op,m) s
 have hR:w8 op m s↔(op=34->0<=m/\Yd m 8<=5):=by
  unfold ar at h1;unfold w8;exact⟨λh=>h.2.2.1,λh=>⟨λ_=>by omega,λ_=>by omega,h,λ_=>by omega⟩⟩
 have hd:0<=m->0<=WG.wrap (XR m 8):=λh=>AB h hm (by omega)
 have ht:0<=m->0<=Yd m 8:=λh=>Int.tmod_nonneg _ h
 have rU:op=10\/op=25\/op=31\/op=32\/op=33\/op=34:=by unfold ar at h1;omega
 obtain⟨(a1:Int),(a2:Int)⟩:=a;simp only[mq]at ha
 rcases rU with rfl|rfl|rfl|rfl|rfl|rfl
 .unfold pN M.aC M.cx M.az M.aJ M.b8;simp[ao,aq,an,aE,aL,aD,bG,hr,hR,idx,E1]
  grind
 .unfold pN M.aC M.cx M.az M.aJ M.b8;simp[ao,aq,an,aE,aL,aD,bG,hr,hR,idx,E1]
  grind
 .unfold pN M.aC M.cx M.az M.aJ M.b8;simp[ao,aq,an,aE,aL,aD,bG,hr,hR,idx,E1]
  grind
 .unfold pN M.aC M.cx M.az M.aJ M.b8;simp[ao,aq,an,aE,aL,aD,bG,hr,hR,idx,E1]
  grind
 .have i0:idx [((a1,a2):Ty)] 0=some (a1,a2):=rfl;unfold pN M.aC M.fQ M.az M.aJ M.b8;by_cases h:0<=m/\m<(s.2.1.length:Int)
  .obtain⟨k,rfl⟩:=WR h.1
   have hk:k<s.2.1.length:=by omega
   simp[ao,aq,an,aE,bG,hr,hR,E1,nc,aW,i0,aB hk,hk,show¬((s.2.1.length:Int)<=(k:Int)) by omega,show¬((k:Int)<0) by omega];generalize s.2.1[k]=t
   by_cases c1:jw t.2.1 s.1.length<;>by_cases c2:jw t.2.2.1 s.1.length<;>by_cases c3:((a1,a2):Ty)=t.2.1<;>simp[c1,c2,c3]
  .simp[ao,aq,an,aE,bG,hr,hR,E1,nc,aW,i0];by_cases IN:m<0
   .simp[IN,show¬0<=m by omega]
   .simp[IN,show 0<=m by omega,show(s.2.1.length:Int)<=m by omega,show¬m<(s.2.1.length:Int) by omega]
 .have i0:idx [((a1,a2):Ty)] 0=some (a1,a2):=rfl;unfold pN M.aC M.fQ M.az M.aJ M.b8;simp only[hr,hR];by_cases h:0<=m/\Yd m 8<=5
  .have hd:=hd h.1;have ht:=ht h.1;generalize WG.wrap (XR m 8)=j at*;generalize Yd m 8=q at*;by_cases h':j<(s.2.1.length:Int)
   .obtain⟨k,rfl⟩:=WR hd
    have hk:k<s.2.1.length:=by omega
    simp[ao,aq,an,aE,aD,bG,h,ht,E1,nc,aW,i0,aB hk,hk,show¬(m<0) by omega,show¬((s.2.1.length:Int)<=(k:Int)) by omega,show¬((k:Int)<0) by omega];generalize s.2.1[k]=t;obtain⟨nm,⟨(k1:Int),(k2:Int)⟩,⟨(v1:Int),(v2:Int)⟩,rs⟩:=t;generalize s.1.length=ne;by_cases R:a1=3/\k1=3/\k2=0/\v1=4/\v2=0
    .obtain⟨rfl,rfl,rfl,rfl,rfl⟩:=R;obtain rfl:a2=0:=ha ⟨by decide,by decide⟩
     have v3:jw (((3:Int),(0:Int)):Ty) ne:=by simp[jw]
     have v4:jw (((4:Int),(0:Int)):Ty) ne:=by simp[jw]
     simp[v3,v4]
    .have Va:(((if a1=3 then if((k1,k2):Int×Int)=(3,0)then some (decide (((v1,v2):Int×Int)=(4,0)),a1,a2)else some (Yy,a1,a2)else some (Yy,a1,a2)):Option (Bool×Int×Int)))=some (Yy,a1,a2):=by
      by_cases q1:a1=3<;>by_cases q2:k1=3<;>by_cases q3:k2=0<;>by_cases q4:v1=4<;>by_cases q5:v2=0<;>simp[q1,q2,q3,q4,q5]<;>exact absurd ⟨q1,q2,q3,q4,q5⟩ R
     rw[Va];by_cases c1:jw ((k1,k2):Ty) ne
     .by_cases c2:jw ((v1,v2):Ty) ne
      .by_cases e:((a1,a2):Ty)=(k1,k2)
       .injection e with e1 e2
        subst e1 e2;have Nu:=c1;have Ls:=c2;simp only[jw]at Nu Ls;dsimp only[ae,Row.den]at Nu Ls;by_cases f:a1=3
        .have g:¬v1=4:=λg=>R (by omega)
         subst f
         obtain rfl:a2=0:=by omega
         simp[c1,c2,g]
        .simp[c1,c2,f]
       .simp[c1,c2,e]
      .simp[c1,c2]
     .simp[c1]
   .simp[ao,aq,an,aE,aD,bG,h,ht,E1,nc,aW,i0,show¬(m<0) by omega,show(s.2.1.length:Int)<=j by omega,show¬j<0 by omega]
  .simp[ao,aq,an,aE,aD,bG,E1,nc,aW,i0];by_cases IN:m<0
   .simp[IN,show¬0<=m by omega]
   .have h5:5<Yd m 8:=by omega
    simp[IN,h5,show¬Yd m 8<=5 by omega]
theorem aI(m:Int)(ls:List Ty)(s:oY):M.dm br m ls s=if 0<=m/\m<(ls.length:Int)then(match ls[m.toNat]? with
 |some t=>if jw t s.1.length then some (t,(0:Int))else some (((0:Int),(0:Int)),(8:Int))
 |none=>Yw)else some (((0:Int),(0:Int)),(6:Int)):=by
 unfold M.dm;by_cases h:0<=m/\m<(ls.length:Int)
 .obtain⟨k,rfl⟩:=WR h.1
  have hk:k<ls.length:=by omega
  rw[YA (by rw[YI];omega),WE,YA (by rw[YI];omega),aB hk,WE,nc,WE,YB h,WN,WJ hk];by_cases hv:jw ls[k] s.1.length
  .rw[YA (by simp[hv])];simp only[YB hv,WE]
  .rw[YB (by simp[hv])];simp only[YA hv]
 .rw[YA h];by_cases h0:m<0
  .rw[YB (YD h0)];rfl
  .rw[YA (by simpa using h0),WE,YB (YD (by omega))]
theorem zero_eq(op m:Int)(s:oY)(hm:m<=9223372036854775807)(h0:ar op=0):pN (op,m) [] s=M.az br (op,m) [] s:=by
 have hr:=rl (op,m) s
 have hR:w8 op m s↔(1<=op/\op<=5->zg m (op,(0:Int)) s.1)/\(op=6->0<=m):=by
  unfold ar at h0;unfold w8;exact⟨λh=>⟨h.1,h.2.2.2⟩,λh=>⟨h.1,λ_=>by omega,λ_=>by omega,h.2⟩⟩
 have hd:0<=m->0<=WG.wrap (XR m 16):=λh=>AB h hm (by omega)
 have rU:op=1\/op=2\/op=3\/op=4\/op=5\/op=6\/op=7\/op=8\/op=9\/op=35\/op=36\/op=37\/op=38\/op=39:=by unfold ar at h0;omega
 have v:∀k:Int,1<=k->k<=5->jw ((k,(0:Int)):Ty) s.1.length:=λk h1 h2=> .inl ⟨h1,h2,rfl⟩
 rcases rU with rfl|rfl|rfl|rfl|rfl|rfl|rfl|rfl|rfl|rfl|rfl|rfl|rfl|rfl
 .unfold pN M.aC M.aO M.bc M.az M.aJ M.bi;have v:=v 1 (by decide) (by decide)
  by_cases h:zg m ((1:Int),(0:Int)) s.1<;>simp[ao,aq,an,aE,aL,aD,aX,aI,bG,hr,hR,aW,h,v]
 .unfold pN M.aC M.aO M.bc M.az M.aJ M.bi;have v:=v 2 (by decide) (by decide)
  by_cases h:zg m ((2:Int),(0:Int)) s.1<;>simp[ao,aq,an,aE,aL,aD,aX,aI,bG,hr,hR,aW,h,v]
 .unfold pN M.aC M.aO M.bc M.az M.aJ M.bi;have v:=v 3 (by decide) (by decide)
  by_cases h:zg m ((3:Int),(0:Int)) s.1<;>simp[ao,aq,an,aE,aL,aD,aX,aI,bG,hr,hR,aW,h,v]
 .unfold pN M.aC M.aO M.bc M.az M.aJ M.bi;have v:=v 4 (by decide) (by decide)
  by_cases h:zg m ((4:Int),(0:Int)) s.1<;>simp[ao,aq,an,aE,aL,aD,aX,aI,bG,hr,hR,aW,h,v]
 .unfold pN M.aC M.aO M.bc M.az M.aJ M.bi;have v:=v 5 (by decide) (by decide)
  by_cases h:zg m ((5:Int),(0:Int)) s.1<;>simp[ao,aq,an,aE,aL,aD,aX,aI,bG,hr,hR,aW,h,v]
 .unfold pN M.aC M.aO M.bc M.az M.aJ M.bi;by_cases h:m<0
  .simp[ao,aq,an,aE,aL,aD,aX,aI,bG,hr,hR,aW,h]
  .have hd:=hd (by omega)
   have h':0<=m:=by omega
   generalize WG.wrap (XR m 16)=j at*;generalize Yd m 16=q at*;by_cases hj:j<(s.1.length:Int)
   .obtain⟨k,rfl⟩:=WR hd
    have hk:k<s.1.length:=by omega
    have v6:jw (((6:Int),(k:Int)):Ty) s.1.length:= .inr ⟨rfl,by show(0:Int)<=(k:Int);omega,hj⟩;by_cases hq:q<(s.1[k].2.length:Int)
    .simp[ao,aq,an,aE,aL,aD,aX,aI,bG,hr,hR,aW,h,h',hk,aB hk,v6,hq,show¬(s.1.length:Int)<=(k:Int) by omega,show¬(s.1[k].2.length:Int)<=q by omega]
    .simp[ao,aq,an,aE,aL,aD,aX,aI,bG,hr,hR,aW,h,h',hk,aB hk,v6,hq,show¬(s.1.length:Int)<=(k:Int) by omega,show(s.1[k].2.length:Int)<=q by omega]
   .simp[ao,aq,an,aE,aL,aD,aX,aI,bG,hr,hR,aW,h,h',hj,show(s.1.length:Int)<=j by omega]
 .unfold pN M.aC M.aO M.bc M.az M.aJ M.bi;by_cases h:0<=m/\m<(s.2.2.1.length:Int)
  .obtain⟨k,rfl⟩:=WR h.1
   have hk:k<s.2.2.1.length:=by omega
   by_cases hv:jw s.2.2.1[k] s.1.length<;>simp[ao,aq,an,aE,aL,aD,aX,aI,bG,hr,hR,aW,hk,aB hk,hv]
  .by_cases h0:0<=m
   .have h1:¬m<(s.2.2.1.length:Int):=λg=>h ⟨h0,g⟩
    simp[ao,aq,an,aE,aL,aD,aX,aI,bG,hr,hR,aW,h0,h1]
   .simp[ao,aq,an,aE,aL,aD,aX,aI,bG,hr,hR,aW,h0]
 .unfold pN M.aC M.aO M.bc M.az M.aJ M.bi;by_cases h:0<=m/\m<(s.2.2.2.1.length:Int)
  .obtain⟨k,rfl⟩:=WR h.1
   have hk:k<s.2.2.2.1.length:=by omega
   by_cases hv:jw s.2.2.2.1[k] s.1.length<;>simp[ao,aq,an,aE,aL,aD,aX,aI,bG,hr,hR,aW,hk,aB hk,hv]
  .by_cases h0:0<=m
   .have h1:¬m<(s.2.2.2.1.length:Int):=λg=>h ⟨h0,g⟩
    simp[ao,aq,an,aE,aL,aD,aX,aI,bG,hr,hR,aW,h0,h1]
   .simp[ao,aq,an,aE,aL,aD,aX,aI,bG,hr,hR,aW,h0]
 .unfold pN M.aC M.aO M.bc M.az M.aJ M.bi;have v:=v 5 (by decide) (by decide);by_cases h:m=0
  .subst h;simp[ao,aq,an,aE,aL,aD,aX,aI,bG,hr,hR,aW,v]
  .simp[ao,aq,an,aE,aL,aD,aX,aI,bG,hr,hR,aW,h]
 .unfold pN M.aC M.aO M.bc M.az M.aJ M.bi;have v:=v 2 (by decide) (by decide);by_cases h:m=0
  .subst h;cases hs:s.2.2.2.2.2<;>simp[ao,aq,an,aE,aL,aD,aX,aI,bG,hr,hR,aW,v,hs]
  .simp[ao,aq,an,aE,aL,aD,aX,aI,bG,hr,hR,aW,h]
 .unfold pN M.aC M.aO M.bc M.az M.aJ M.bi;cases hs:s.2.2.2.2.2
  .simp[ao,aq,an,aE,aL,aD,aX,aI,bG,hr,hR,aW,hs]
  by_cases h:0<=m/\m<(s.2.2.2.2.1.length:Int)
  .obtain⟨k,rfl⟩:=WR h.1
   have hk:k<s.2.2.2.2.1.length:=by omega
   by_cases hv:jw s.2.2.2.2.1[k] s.1.length
   .simp[ao,aq,an,aE,aL,aD,aX,aI,bG,hr,hR,aW,hk,aB hk,hv,hs];generalize s.2.2.2.2.1[k]=t at*;obtain⟨(t1:Int),(t2:Int)⟩:=t
    by_cases q2:t1=2<;>by_cases q3:t1=3<;>simp[q2,q3]
   .simp[ao,aq,an,aE,aL,aD,aX,aI,bG,hr,hR,aW,hk,aB hk,hv,hs]
  .by_cases h0:0<=m
   .have h1:¬m<(s.2.2.2.2.1.length:Int):=λg=>h ⟨h0,g⟩
    simp[ao,aq,an,aE,aL,aD,aX,aI,bG,hr,hR,aW,h0,h1,hs]
   .simp[ao,aq,an,aE,aL,aD,aX,aI,bG,hr,hR,aW,h0,hs]
 .unfold pN M.aC M.aO M.bc M.az M.aJ M.bi;cases hs:s.2.2.2.2.2
  .simp[ao,aq,an,aE,aL,aD,aX,aI,bG,hr,hR,aW,hs]
  by_cases h:0<=m/\m<(s.2.2.2.2.1.length:Int)
  .obtain⟨k,rfl⟩:=WR h.1
   have hk:k<s.2.2.2.2.1.length:=by omega
   by_cases hv:jw s.2.2.2.2.1[k] s.1.length
   .simp[ao,aq,an,aE,aL,aD,aX,aI,bG,hr,hR,aW,hk,aB hk,hv,hs];generalize s.2.2.2.2.1[k]=t at*;obtain⟨(t1:Int),(t2:Int)⟩:=t
    by_cases q:t1=1<;>simp[q]
   .simp[ao,aq,an,aE,aL,aD,aX,aI,bG,hr,hR,aW,hk,aB hk,hv,hs]
  .by_cases h0:0<=m
   .have h1:¬m<(s.2.2.2.2.1.length:Int):=λg=>h ⟨h0,g⟩
    simp[ao,aq,an,aE,aL,aD,aX,aI,bG,hr,hR,aW,h0,h1,hs]
   .simp[ao,aq,an,aE,aL,aD,aX,aI,bG,hr,hR,aW,h0,hs]
 .unfold pN M.aC M.aO M.bc M.az M.aJ M.bi;cases hs:s.2.2.2.2.2
  .simp[ao,aq,an,aE,aL,aD,aX,aI,bG,hr,hR,aW,hs]
  by_cases h:0<=m/\m<(s.2.2.2.2.1.length:Int)
  .obtain⟨k,rfl⟩:=WR h.1
   have hk:k<s.2.2.2.2.1.length:=by omega
   by_cases hv:jw s.2.2.2.2.1[k] s.1.length
   .simp[ao,aq,an,aE,aL,aD,aX,aI,bG,hr,hR,aW,hk,aB hk,hv,hs];generalize s.2.2.2.2.1[k]=t at*;obtain⟨(t1:Int),(t2:Int)⟩:=t
    by_cases q:t1=1<;>simp[q]
   .simp[ao,aq,an,aE,aL,aD,aX,aI,bG,hr,hR,aW,hk,aB hk,hv,hs]
  .by_cases h0:0<=m
   .have h1:¬m<(s.2.2.2.2.1.length:Int):=λg=>h ⟨h0,g⟩
    simp[ao,aq,an,aE,aL,aD,aX,aI,bG,hr,hR,aW,h0,h1,hs]
   .simp[ao,aq,an,aE,aL,aD,aX,aI,bG,hr,hR,aW,h0,hs]
 .unfold pN M.aC M.aO M.bc M.az M.aJ M.bi;cases hs:s.2.2.2.2.2
  .simp[ao,aq,an,aE,aL,aD,aX,aI,bG,hr,hR,aW,hs]
  by_cases h:0<=m/\m<(s.2.2.2.2.1.length:Int)
  .obtain⟨k,rfl⟩:=WR h.1
   have hk:k<s.2.2.2.2.1.length:=by omega
   by_cases hv:jw s.2.2.2.2.1[k] s.1.length
   .simp[ao,aq,an,aE,aL,aD,aX,aI,bG,hr,hR,aW,hk,aB hk,hv,hs];generalize s.2.2.2.2.1[k]=t at*;obtain⟨(t1:Int),(t2:Int)⟩:=t
    by_cases q2:t1=2<;>by_cases q3:t1=3<;>by_cases q4:t1=4<;>by_cases q5:t1=5<;>simp[q2,q3,q4,q5]
   .simp[ao,aq,an,aE,aL,aD,aX,aI,bG,hr,hR,aW,hk,aB hk,hv,hs]
  .by_cases h0:0<=m
   .have h1:¬m<(s.2.2.2.2.1.length:Int):=λg=>h ⟨h0,g⟩
    simp[ao,aq,an,aE,aL,aD,aX,aI,bG,hr,hR,aW,h0,h1,hs]
   .simp[ao,aq,an,aE,aL,aD,aX,aI,bG,hr,hR,aW,h0,hs]
theorem MK(n:Ty)(l:List Ty)(s:oY)(hw:WF aa n)(hl:(l.length:Int)=ar n.1)(hN:∀t∈l,mq t):pN n l s=some (E5 n l s):=by
 rw[<-E6 hw hl];obtain⟨(op:Int),(m:Int)⟩:=n;have hm:m<=9223372036854775807:=hw.2.2;have h3:=AA op;dsimp only at hl
 match l,hl with
 |[],hl=>exact zero_eq op m s hm hl.symm
 |[a],hl=>exact JZ op m a s hm hl.symm (hN a (by simp))
 |[a,b],hl=>exact JY op m a b s hl.symm (hN a (by simp)) (hN b (by simp))
 |[a,b,c],hl=>exact Fi op m a b c s hl.symm
 |a::b::c::d::l,hl=>simp at hl;omega
theorem jw.R3{t:Ty}{n:Nat}(h:jw t n):mq t:=λh'=>by
 obtain⟨(k:Int),(e:Int)⟩:=t
 rcases h with h|h
 .exact h.2.2
 .dsimp only[ae,Row.den]at*;omega
def Pc{α:Type}(m:Option α)(Q:α->Prop):Prop:=∀r,m=some r->Q r
theorem eZ{α:Type}{x:α}{Q:α->Prop}:Pc (some x) Q↔Q x:=⟨λh=>h x rfl,λh r e=>by cases e;exact h⟩
theorem du{α β:Type}{m:Option α}{k:α->Option β}{Q:β->Prop}:Pc (m.bind k) Q↔Pc m λx=>Pc (k x) Q:=by
 constructor
 .intro h x hx r hr;exact h r (by rw[hx];exact hr)
 .intro h r hr;obtain⟨x,hx,hr⟩:=Option.bind_eq_some_iff.1 hr;exact h x hx r hr
theorem gU{α:Type}{c:Prop}[Decidable c]{a b:Option α}{Q:α->Prop}:Pc (if c then a else b) Q↔(c->Pc a Q)/\(¬c->Pc b Q):=by
 split<;>simp_all
theorem Pc.of{α:Type}{m:Option α}{Q:α->Prop}(h:∀x,Q x):Pc m Q:=λx _=>h x
theorem mq.kind(k:Int):mq ((k,(0:Int)):Ty):=λ_=>rfl
theorem Fj(n:Ty)(s:oY):Pc (M.bi br n s) λr=>r.2=Yx->mq r.1:=by
 have ho:∀k,M.ei br k=some (decide (k=2\/k=3\/k=4\/k=5)):=an;unfold M.bi;rw[du]
 refine Pc.of λj=>?_
 simp only[aW,ho,WE];by_cases hv:jw j s.1.length
 .simp only[du,gU,eZ];simp[hv.R3]
 .simp[hv,du,gU,eZ]
theorem zp(n a:Ty)(s:oY)(ha:mq a):Pc (M.b8 br n a s) λr=>r.2=Yx->mq r.1:=by
 unfold M.b8;simp only[aE,aq,aW,WE,du,gU,eZ];refine⟨λ_ _=>ha,λ_=>⟨λ_ _=>ha,λ_=>?_⟩⟩
 have MC:Pc (idx s.2.1 n.2) λx=>(decide (jw x.2.1 s.1.length)=Yx->(decide (jw x.2.2.1 s.1.length)=Yx->jY aa a x.2.1=Yx->mq x.2.2.1)/\(¬decide (jw x.2.2.1 s.1.length)=Yx->Yy=Yx->mq x.2.2.1))/\(¬decide (jw x.2.1 s.1.length)=Yx->Yy=Yx->mq x.2.2.1):=Pc.of λx=>⟨λ_=>⟨λh _=>(YC h:jw x.2.2.1 s.1.length).R3,λ_ h=>(by cases h)⟩,λ_ h=>(by cases h)⟩
 have MD:Pc (idx s.2.1 (WG.wrap (XR n.2 8))) λx=>(decide ((a.1:Int)=3)=Yx->(jY aa x.2.1 ((3:Int),(0:Int))=Yx->jY aa x.2.2.1 ((4:Int),(0:Int))=Yx->mq a)/\(¬jY aa x.2.1 ((3:Int),(0:Int))=Yx->Yy=Yx->mq a))/\(¬decide ((a.1:Int)=3)=Yx->Yy=Yx->mq a):=Pc.of λx=>⟨λ_=>⟨λ_ _=>ha,λ_ _=>ha⟩,λ_ _=>ha⟩
 exact⟨λ_=>⟨λ_ _=>mq.kind 2,λ_=>⟨λ_=>MC,λ_=>MD⟩⟩,λ_=>⟨λ_ _=>mq.kind 2,λ_=>⟨λ_=>MC,λ_=>MD⟩⟩⟩
theorem zq(op:Int)(a b:Ty)(ha:mq a):Pc (M.dV br op a b) λr=>r.2=Yx->mq r.1:=by
 have hk:∀k:Int,mq ((k,(0:Int)):Ty):=mq.kind;unfold M.dV M.fU;simp only[aE,aq,an,WE,du,gU,eZ];simp[ha,hk]
theorem HB(n:Ty)(l:List Ty)(s:oY)(hw:WF aa n)(hl:(l.length:Int)=ar n.1)(hN:∀t∈l,mq t)(h0:(E5 n l s).2=0):mq (E5 n l s).1:=by
 have pT:∀i,Pc (idx l i) mq:=λi x hx=>by
  unfold idx at hx;split at hx
  .exact hN _ (List.mem_of_getElem? hx)
  .cases hx
 have key:Pc (M.az br n l s) λr=>r.2=0->mq r.1:=by
  unfold M.az;rw[du]
  refine Pc.of λj1=>?_
  rw[gU];refine⟨λ_=>eZ.2 λh=>(by cases h),λ_=>?_⟩;rw[du]
  refine Pc.of λy3=>?_
  rw[gU];refine⟨λ_=>eZ.2 λh=>(by cases h),λ_=>?_⟩;rw[du]
  refine Pc.of λy4=>?_
  rw[gU];refine⟨λ_=>eZ.2 λh=>(by cases h),λ_=>?_⟩;rw[du]
  have fin:∀{m:Option (Bool×Ty)},Pc m (λj=>j.1=Yx->mq j.2)->Pc m λj5=>Pc (if(!j5.1)=Yx then some (((0:Int),(0:Int)),(8:Int))else some (j5.2,(0:Int))) λr:Ty×Int=>r.2=0->mq r.1:=λ{m}h j hj=>by
   have:=h j hj;refine gU.2 ⟨λ_=>eZ.2 λh=>(by cases h),λh=>eZ.2 λ_=>this (by simpa using h)⟩
  refine fin ?_;rw[gU];refine⟨λ_=>?_,λ_=>?_⟩
  .rw[du]
   exact λx hx=>eZ.2 λh=>Fj n s x hx h
  rw[gU];refine⟨λ_=>?_,λ_=>?_⟩
  .rw[du]
   refine λa ha=>du.2 ?_
   exact λx hx=>eZ.2 λh=>zp n a s (pT _ a ha) x hx h
  rw[gU];refine⟨λ_=>?_,λ_=>?_⟩
  .rw[du]
   refine λa ha=>du.2 λb _=>du.2 ?_
   exact λx hx=>eZ.2 λh=>zq n.1 a b (pT _ a ha) x hx h
  .rw[du]
   refine λa ha=>?_
   have ha:=pT _ a ha;simp only[du,gU,eZ]
   refine Pc.of λx=>⟨λ_=>Pc.of λy=>Pc.of λz=>λ_=>ha,λ_ _=>ha⟩
 exact key _ (E6 hw hl) h0
theorem HC(st:List Nat)(m:Nat)(v:Nat):be (kB st++Xb (m+1) (0:Int)) (st.length:Int) (v:Int)=kB (st++[v])++Xb m (0:Int):=by
 unfold be;rw[WN,List.set_append_right _ _ (by simp),List.replicate_succ];simp
theorem Cu(st:List Nat)(m:Nat)(u v:Nat):be (kB (st++[u])++Xb m (0:Int)) (st.length:Int) (v:Int)=kB (st++[v])++Xb m (0:Int):=by
 unfold be;rw[WN,List.set_append_left _ _ (by simp)]
 congr 1
 simp only[kB,XP];rw[List.set_append_right _ _ (by simp)];simp
theorem zr(e:List Ty):M.fP br e=some (zf e):=by
 apply Wp.eq;unfold M.fP zf
 refine Wp.dec (λh=> .some ?_) λh1=>?_
 .rw[YB (by omega)]
 rw[YA (show¬48<e.length by omega)]
 refine Wp.dec (λh=> .some ?_) λh2=>?_
 .rw[YB (show e.length=0 by omega)]
 rw[YA (show¬e.length=0 by omega)]
 have LI:sf (e.length:Int) (0:Int)=some (Xb e.length 0):=by
  unfold sf;rw[YB (by omega),WN]
 rw[LI];simp only[WE];refine Wp.join (Wp.loop (λs:Int×List Int×List Int=>∃st sk:List Nat,s=((st.length:Int),kB st++Xb (e.length-st.length) 0,kB sk)/\st.length<=e.length/\sk.length<=12/\nT (e.drop st.length) st.length st sk=nT e 0 [] []) (λs=>(e.length-s.1).toNat) ⟨[],[],by simp,by simp,by simp,by simp⟩ (by simp only;unfold br;omega) ?_)
 rintro _ ⟨st,sk,rfl,dz,Wg,aV⟩
 simp only
 refine Wp.dec (λhk=>?_) λhk=> .some ?_
 case refine_2=>
  have hd:e.drop st.length=[]:=XK (by omega);rw[hd]at aV;rw[<-aV]
  have h0:e.length-st.length=0:=by omega
  rw[h0];simp only[nT,List.replicate_zero,List.append_nil]
  show Wp _ _
  refine Wp.dec (λh=> .some ?_) λh=> .some ?_
  .rw[YB (by simp at h;omega)]
  .rw[YA (by simp at h;omega)]
 have gX:st.length<e.length:=by omega
 have hd:e.drop st.length=e[st.length]::e.drop (st.length+1):=Xm gX
 obtain⟨m,hm⟩:∃m,e.length-st.length=m+1:=⟨e.length-st.length-1,by omega⟩
 rw[hd]at aV;rw[aB gX,hm];simp only[WE,Fg];generalize rU:(e[st.length].1:Int)=op;rw[nT]at aV;rw[rU]at aV;have Vb:=AA op
 refine Wp.dec (λh=> .some ?_) λCv=>?_
 .rw[YB h]at aV
  show _=_
  rw[<-aV]
 rw[YA Cv]at aV
 refine Wp.dec (λh=> .some ?_) λhlen=>?_
 .rw[YB (by simpa using h)]at aV
  show _=_
  rw[<-aV]
 have hlen:¬(sk.length:Int)<ar op:=by simpa using hlen
 rw[YA hlen]at aV
 obtain⟨a,ha⟩:∃a:Nat,ar op=a:=⟨(ar op).toNat,by omega⟩
 rw[ha]at aV Cv hlen Vb⊢
 have Vc:a<=sk.length:=by omega
 have e6:idx (kB st++Xb (m+1) (0:Int)) (st.length:Int)=some 0:=by
  rw[aB (by simp)];rw[List.getElem_append_right (by simp)];simp
 rw[e6]
 have hw:WG.wrap (((kB sk).length:Int)-(a:Int))=((sk.length-a:Nat):Int):=by
  rw[XQ,eX (by omega) (by omega)];omega
 have hs:KD (a:Int) st.length sk=(if a=0 then st.length else sk.getD (sk.length-a) 0):=by
  unfold KD;by_cases h0:a=0
  .subst h0;simp
  .rw[YA (by omega),YA h0,WN]
 simp only[WE,HC,hw];refine Wp.seq (· =kB (st++[KD (a:Int) st.length sk])++Xb m (0:Int)) ?_ ?_
 .refine Wp.dec (λh=>?_) λh=>?_
  .have av:sk.length-a<(kB sk).length:=by simp;omega
   rw[aB av]
   have e9:idx (kB (st++[st.length])++Xb m (0:Int)) (st.length:Int)=some (st.length:Int):=by
    rw[aB (by simp)];rw[List.getElem_append_left (by simp)];simp
   simp only[WE,e9,List.getElem_map,Cu];refine .some ?_;rw[hs,YA (by omega),show sk.getD (sk.length-a) 0=sk[sk.length-a]'(by simpa using av) by simp[List.getD,show sk.length-a<sk.length by omega]]
  .refine .some ?_;rw[hs,YB (by omega)]
 .rintro _ rfl
  generalize KD (a:Int) st.length sk=s at aV⊢
  have xM:dQ (kB sk) (0:Int) ((sk.length-a:Nat):Int)=some (kB (sk.take (sk.length-a))):=by
   rw[tm (by simp)];simp
  have Vd:idx (kB (st++[s])++Xb m (0:Int)) (st.length:Int)=some (s:Int):=by
   rw[aB (by simp)];rw[List.getElem_append_left (by simp)];simp
  have QX:bW (kB (sk.take (sk.length-a))) [(s:Int)]=some (kB (sk.take (sk.length-a)++[s])):=by
   rw[eY (by simp;omega)];simp
  rw[xM];simp only[WE,Vd,QX]
  have hl:(kB (sk.take (sk.length-a)++[s])).length=sk.length-a+1:=by simp
  rw[hl];rw[WN]at aV
  refine Wp.dec (λh=> .some ?_) λh=> .some ?_
  .rw[YB (by omega)]at aV
   show _=_
   rw[<-aV]
  .rw[YA (by omega)]at aV;rw[aH (by omega)];refine⟨⟨st++[s],sk.take (sk.length-a)++[s],?_,by simp;omega,by simp;omega,?_⟩,by simp only;omega⟩
   .have:e.length-(st++[s]).length=m:=by simp;omega
    rw[this];simp
   .rw[WZ];exact aV
theorem MI.all(s:oY):MI s:=λe hw=>by
 apply Wp.eq;unfold M.jf;simp only[zr,Fg,Fh,W_,YF,YG,reduceCtorEq];refine⟨λh=>by unfold Ht;rw[YB h],λh0=>?_⟩;obtain⟨Wh,bY,b9,Wi,R4⟩:=Hu h0
 have hT:Ht e s=match mE s e 0 []with
  | .inl (i,c)=>(((0:Int),(0:Int)),(i:Int),c)
  | .inr jR=>(jR.headD ((0:Int),(0:Int)),0,0):=by unfold Ht;rw[YA (by omega)]<;>cases mE s e 0 []<;>rfl
 refine Wp.count (λs=>s.1) e.length (λk q=>∃st sk,q.2.length=sk.length/\nT e 0 [] []=nT (e.drop k) k st sk/\mE s e 0 []=mE s (e.drop k) k q.2/\q.2.length<=k/\(0<k->q.2≠[])/\∀t∈q.2,mq t) (by omega) rfl ⟨[],[],rfl,rfl,rfl,WH _,λh=>by omega,λ_ h=>by cases h⟩ λk q hk hs hJ=>?_
 obtain⟨i,jR⟩:=q;obtain⟨st,sk,hl,hr,ht,Oq,nv,J0⟩:=hJ;dsimp only at hs hl ht Oq nv J0;subst hs;simp only[W_,YF,YG,reduceCtorEq,eL,dW];refine⟨λav=>?_,λhge=>?_⟩
 .have av:k<e.length:=by omega
  rw[Xm av,nT]at hr;rw[Xm av,mE]at ht;rw[R4]at hr;have Wj:=AA e[k].1;split at hr
  .cases hr
  split at hr
  .cases hr
  split at hr
  .cases hr
  rename_i Wk Wl Wm
  have w1:WG.wrap ((jR.length:Int)-ar e[k].1)=((jR.length-(ar e[k].1).toNat:Nat):Int):=by rw[eX (by omega) (by omega)];omega
  have hd:((jR.drop (jR.length-(ar e[k].1).toNat)).length:Int)=ar e[k].1:=by rw[List.length_drop];omega
  have R5:=hw _ (WW av)
  have R6:∀t∈jR.drop (jR.length-(ar e[k].1).toNat),mq t:=λt h=>J0 t (List.mem_of_mem_drop h)
  have hp:=MK e[k] _ s R5 hd R6;have tO:=HB e[k] _ s R5 hd R6
  have bad:∀c:Int,c≠0->(E5 e[k] (jR.drop (jR.length-(ar e[k].1).toNat)) s).2=c->(((0:Int),(0:Int)),(k:Int),c)=Ht e s:=λc h0 hc=>by
   rw[hT,ht,YB (by rw[hc];exact h0),hc]
  have rest:¬((e[k].2:Int)≠0/\¬((1<=(e[k].1:Int)/\(e[k].1:Int)<=8)\/(14<=(e[k].1:Int)/\(e[k].1:Int)<=16)\/(e[k].1:Int)=33\/(e[k].1:Int)=34\/(36<=(e[k].1:Int)/\(e[k].1:Int)<=39)))->M.aC br e[k] (jR.drop (jR.length-(ar e[k].1).toNat)) s=some (E5 e[k] (jR.drop (jR.length-(ar e[k].1).toNat)) s):=λh=>by
   rw[<-hp];exact(YA h).symm
  have cond:((e[k].2:Int)≠0/\¬((1<=(e[k].1:Int)/\(e[k].1:Int)<=8)\/(14<=(e[k].1:Int)/\(e[k].1:Int)<=16)\/(e[k].1:Int)=33\/(e[k].1:Int)=34\/(36<=(e[k].1:Int)/\(e[k].1:Int)<=39)))->(E5 e[k] (jR.drop (jR.length-(ar e[k].1).toNat)) s).2=2:=λh=>by
   have:some (E5 e[k] (jR.drop (jR.length-(ar e[k].1).toNat)) s)=some (((0:Int),(0:Int)),(2:Int)):=by
    rw[<-hp];exact YB h
   rw[WD this]
  have good:¬((e[k].2:Int)≠0/\¬((1<=(e[k].1:Int)/\(e[k].1:Int)<=8)\/(14<=(e[k].1:Int)/\(e[k].1:Int)<=16)\/(e[k].1:Int)=33\/(e[k].1:Int)=34\/(36<=(e[k].1:Int)/\(e[k].1:Int)<=39)))->Wp (M.aC br e[k] (jR.drop (jR.length-(ar e[k].1).toNat)) s) λy9=>(¬(y9.2:Int)=0->(((0:Int),(0:Int)),(k:Int),y9.2)=Ht e s)/\((y9.2:Int)=0->Wp (bW (jR.take (jR.length-(ar e[k].1).toNat)) [y9.1]) λx=>k<e.length/\WG.wrap ((k:Int)+1)=((k+1:Nat):Int)/\∃st sk,x.length=sk.length/\nT e 0 [] []=nT (e.drop (k+1)) (k+1) st sk/\mE s e 0 []=mE s (e.drop (k+1)) (k+1) x/\x.length<=k+1/\(0<k+1->x≠[])/\∀t∈x,mq t):=λh=>by
   rw[rest h];refine .some ⟨λhc=>bad _ hc rfl,λhc=>?_⟩;rw[YA (λg=>g hc)]at ht;refine oX.2 ⟨by rw[XE];simp;omega,av,kM (m:=e.length) (by omega) av,_,_,?_,R4.trans hr,ht,?_,λ_=>by simp,λt h=>?_⟩
   .simp only[WZ,XE,WX,List.length_nil,hl]
   .simp only[WZ,XE,WX,List.length_nil];omega
   .rcases WQ.1 h with h|h
    .exact J0 t (List.mem_of_mem_take h)
    .rw[WO.1 h];exact tO hc
  simp only[aB av,w1,tm (show jR.length-(ar e[k].1).toNat<=jR.length by omega),qc (l:=jR) (jR.length-(ar e[k].1).toNat) jR.length rfl rfl (by omega) (WH _),W3,W_,YF,YG,reduceCtorEq];exact⟨λh1=>⟨λh2=>bad 2 (by decide) (cond ⟨h1,h2⟩),λh2=>good λg=>g.2 h2⟩,λh1=>good λg=>g.1 h1⟩
 .obtain rfl:k=e.length:=by omega
  rw[List.drop_length,mE]at ht;rw[hT,ht];have:jR≠[]:=nv (List.length_pos_iff.2 bY);obtain⟨a,l,rfl⟩:=List.exists_cons_of_ne_nil this;exact ey.2 ⟨by simp,rfl⟩
end L
namespace L
inductive Gq(D:Int->Int->Prop):Int->Int->Prop
 |one {a b:Int} (h:D a b):Gq D a b
 |step {a b c:Int} (h:Gq D a b) (g:D b c):Gq D a c
def Dp(s:jV)(a b:Int):Prop:=b∈gM s a
theorem rm{y:Int}:∀{l out:List Int},y∈l.foldl (λo z=>ins z o) out↔y∈l\/y∈out
 |[],_=>by simp
 |x::l,out=>by
  rw[XO,rm (l:=l),jg,WS];exact⟨λh=>by rcases h with h|h|h<;>simp[h],λh=>by rcases h with(h|h)|h<;>simp[h]⟩
theorem jS(s:jV){out:List Int}{y:Int}:y∈stepT s out↔y∈out\/∃x∈out,Dp s x y:=by
 unfold stepT
 suffices∀(l o:List Int),y∈l.foldl (λo x=>(gM s x).foldl (λo y=>ins y o) o) o↔y∈o\/∃x∈l,Dp s x y from this _ _
 intro l
 induction l with
 |nil=>intro o;simp
 |cons x l ih=>
  intro o;rw[XO,ih,rm];unfold Dp;constructor
  .rintro((h|h)|⟨z,hz,h⟩)
   .exact .inr ⟨x,by simp,h⟩
   .exact .inl h
   .exact .inr ⟨z,by simp[hz],h⟩
  .rintro(h|⟨z,hz,h⟩)
   .exact .inl (.inr h)
   .rcases WS.1 hz with rfl|hz
    .exact .inl (.inl h)
    .exact .inr ⟨z,hz,h⟩
theorem lE(s:jV)(d:Int):∀n y,y∈fG s n (gM s d)->Gq (Dp s) d y
 |0,y,h=> .one h
 |n+1,y,h=>by
  rcases(jS s).1 h with h|⟨x,hx,h⟩
  .exact lE s d n y h
  .exact .step (lE s d n x hx) h
theorem Cw{l m:List Int}(hl:l.Pairwise (· < ·))(hm:m.Pairwise (· < ·))(h:∀y,y∈l↔y∈m):l=m:=by
 induction l generalizing m with
 |nil=>
  cases m with
  |nil=>rfl
  |cons y m=>exact absurd ((h y).2 (by simp)) (by simp)
 |cons x l ih=>
  cases m with
  |nil=>exact absurd ((h x).1 (by simp)) (by simp)
  |cons y m=>
   obtain⟨h1,h2⟩:=Xe.1 hl;obtain⟨g1,g2⟩:=Xe.1 hm
   have e:x=y:=by
    rcases WS.1 ((h x).1 (by simp))with e|e
    .exact e
    .rcases WS.1 ((h y).2 (by simp))with e'|e'
     .exact e'.symm
     .have:=g1 x e;have:=h1 y e';omega
   subst e
   congr 1
   refine ih h2 g2 λz=>?_
   have:=h z;rw[WS,WS]at this;constructor
   .intro hz
    rcases this.1 (.inr hz)with rfl|hz'
    .have:=h1 z hz;omega
    .exact hz'
   .intro hz
    rcases this.2 (.inr hz)with rfl|hz'
    .have:=g1 z hz;omega
    .exact hz'
theorem Cx{l:List Int}:∀{m:List Int},l.Nodup->(∀y,y∈l->y∈m)->l.length<=m.length:=by
 induction l with
 |nil=>intro m _ _;simp
 |cons x l ih=>
  intro m hn h;obtain⟨h1,h2⟩:=List.nodup_cons.1 hn;have hx:=h x (by simp)
  have:=ih (m:=m.erase x) h2 λy hy=>(List.mem_erase_of_ne (λe:y=x=>h1 (by rw[<-e];exact hy))).2 (h y (by simp[hy]))
  rw[List.length_erase_of_mem hx]at this;have:=List.length_pos_of_mem hx;simp only[WX];omega
theorem AE{l m:List Int}(hl:l.Pairwise (· < ·))(_:m.Pairwise (· < ·))(h:∀y,y∈l->y∈m)(hx:∃y,y∈m/\y∉l):l.length<m.length:=by
 have nd:l.Nodup:=hl.imp λh=>by omega
 obtain⟨y,hy,hn⟩:=hx;have Ve:(y::l).Nodup:=List.nodup_cons.2 ⟨hn,nd⟩
 have:(y::l).length<=m.length:=Cx Ve λz hz=>by
  rcases WS.1 hz with rfl|hz
  .exact hy
  .exact h z hz
 simp only[WX]at this;omega
theorem uQ(s:jV)(d:Int):(∀n,n<=s.2.2.2.1.length->(stepT s (fG s n (gM s d))=fG s n (gM s d)\/n<=(fG s n (gM s d)).length)):=by
 have srt:∀m,px s.2.2.2.1.length (fG s m (gM s d)):=λm=>by
  induction m with
  |zero=>exact lB s d
  |succ m ih=>exact mg s ih
 intro n
 induction n with
 |zero=>intro _;exact .inr (Nat.zero_le _)
 |succ n ih=>
  intro hn
  rcases ih (by omega)with h|h
  .left
   show stepT s (stepT s (fG s n (gM s d)))=stepT s (fG s n (gM s d))
   rw[h,h]
  .by_cases hx:∃y,y∈stepT s (fG s n (gM s d))/\y∉fG s n (gM s d)
   .right
    have:=AE (srt n).1 (mg s (srt n)).1 (λy hy=>(jS s).2 (.inl hy)) hx
    show n+1<=(stepT s (fG s n (gM s d))).length
    omega
   .left
    have:stepT s (fG s n (gM s d))=fG s n (gM s d):=Cw (mg s (srt n)).1 (srt n).1 λy=>⟨λh=>Yc.1 λhn=>hx ⟨y,h,hn⟩,λh=>(jS s).2 (.inl h)⟩
    show stepT s (stepT s (fG s n (gM s d)))=stepT s (fG s n (gM s d))
    rw[this,this]
theorem HD(s:jV)(d y:Int):y∈E8 s d↔Gq (Dp s) d y:=by
 refine⟨λh=>lE s d _ y h,λh=>?_⟩
 have closed:∀x z,x∈E8 s d->Dp s x z->z∈E8 s d:=by
  intro x z hx hz
  rcases uQ s d s.2.2.2.1.length (WH _)with h|h
  .have:z∈stepT s (fG s s.2.2.2.1.length (gM s d)):=(jS s).2 (.inr ⟨x,hx,hz⟩);rw[h]at this;exact this
  .have hs:=Hy s d;have KM:=(lB s x).2 z hz
   refine Yc.1 λhn=>?_
   have:=AE (l:=E8 s d) (m:=ins z (E8 s d)) hs.1 (zk hs.1) (λy hy=>jg.2 (.inr hy)) ⟨z,jg.2 (.inl rfl),hn⟩;have:=(hs.ins KM).len;have:s.2.2.2.1.length<=(E8 s d).length:=h;omega
 have start:∀z,Dp s d z->z∈E8 s d:=by
  intro z hz
  show z∈fG s s.2.2.2.1.length (gM s d)
  have:∀n,z∈fG s n (gM s d):=λn=>by
   induction n with
   |zero=>exact hz
   |succ n ih=>exact(jS s).2 (.inl ih)
  exact this _
 induction h with
 |one h=>exact start _ h
 |step _ g ih=>exact closed _ _ ih g
theorem w9(d:Array Int)(y:Int):∀m,y∈Go.Lib.compactUpTo d m↔∃j,j<m/\d[j]! =y
 |0=>by simp[Go.Lib.compactUpTo]
 |m+1=>by
  rw[Go.Lib.compactUpTo_succ,WQ,w9 d y m];constructor
  .rintro(⟨j,hj,h⟩|h)
   .exact⟨j,by omega,h⟩
   .split at h
    .rw[WO]at h;exact⟨m,by omega,h.symm⟩
    .cases h
  .rintro⟨j,hj,h⟩
   rcases WU.1 hj with h1|rfl
   .exact .inl ⟨j,h1,h⟩
   .by_cases hk:Go.Lib.keeps d j=Yx
    .right;rw[YB hk,WO];exact h.symm
    .left
     unfold Go.Lib.keeps at hk;rw[YI]at hk
     have h0:j≠0:=λe=>hk (.inl e)
     have h1:d[j]! =d[j-1]! :=Yc.1 λe=>hk (.inr e)
     exact⟨j-1,by omega,by rw[<-h1];exact h⟩
theorem xc(l:List Int)(y:Int):y∈XJ l↔y∈l:=by
 unfold XJ;rw[w9];constructor
 .rintro⟨j,hj,rfl⟩
  have:l.toArray[j]! =l[j]:=by simp[hj]
  rw[this];exact WW hj
 .intro h;obtain⟨j,hj,rfl⟩:=XV h;exact⟨j,hj,by simp[hj]⟩
theorem tw(l:List Int)(hl:l.length<=1000000):Wp ((M.cu br l).bind λy1=>(M.bQ br y1).bind λy2=>some y2) λr=>r.length<=l.length/\∀y,y∈r↔y∈l:=by
 have e1:M.cu br l=some (mA l):=by
  unfold M.cu wV;rw[YB (by omega)]
 have hs:(mA l).length=l.length:=List.length_mergeSort ..
 have e2:M.bQ br (mA l)=some (XJ (mA l)):=by
  unfold M.bQ lg;rw[YB (by omega)]
 rw[e1,WE,e2];refine .some ⟨?_,λy=>?_⟩
 .have:=rb (mA l);omega
 .rw[xc];exact List.mem_mergeSort
theorem lF(l:List Int)(hl:l.length<=1000000):Wp (M.dH br l) λr=>r.length<=l.length/\∀y,y∈r↔y∈l:=tw l hl
theorem uR(l:List Int)(hl:l.length<=1000000):Wp (M.fR br l) λr=>r.length<=l.length/\∀y,y∈r↔y∈l:=tw l hl
def Cy(e:List Ty)(y:Int):Prop:=∃n∈e,(n.1:Int)=8/\(n.2:Int)=y
theorem zt(p:Int->Bool)(e:List Ty)(y:Int):y∈kC p e↔∃n∈e,p n.1=Yx/\(n.2:Int)=y:=by
 unfold kC
 suffices∀(e:List Ty)(l:List Int),y∈e.foldl (λl n=>if p n.1=Yx then ins n.2 l else l) l↔y∈l\/∃n∈e,p n.1=Yx/\(n.2:Int)=y by simpa using this e []
 intro e
 induction e with
 |nil=>intro l;simp
 |cons n e ih=>
  intro l;rw[XO,ih];split
  .rename_i h;rw[jg];constructor
   .rintro((h1|h1)|⟨q,hq,h1⟩)
    .exact .inr ⟨n,by simp,h,h1.symm⟩
    .exact .inl h1
    .exact .inr ⟨q,by simp[hq],h1⟩
   .rintro(h1|⟨q,hq,h1,h2⟩)
    .exact .inl (.inr h1)
    .rcases WS.1 hq with rfl|hq
     .exact .inl (.inl h2.symm)
     .exact .inr ⟨q,hq,h1,h2⟩
  .rename_i h;constructor
   .rintro(h1|⟨q,hq,h1⟩)
    .exact .inl h1
    .exact .inr ⟨q,by simp[hq],h1⟩
   .rintro(h1|⟨q,hq,h1,h2⟩)
    .exact .inl h1
    .rcases WS.1 hq with rfl|hq
     .exact absurd h1 h
     .exact .inr ⟨q,hq,h1,h2⟩
theorem py(e:List Ty)(y:Int):y∈kC pw e↔Cy e y:=by
 rw[zt];unfold Cy pw;simp only[YI]
theorem mF(e:List Ty)(he:e.length<=100000):Wp (M.ee br e) λr=>r.2.1.length<=e.length/\∀y,y∈r.2.1↔Cy e y:=by
 unfold M.ee;rw[wp_bind]
 refine Wp.count (λs=>s.1) e.length (λk s=>(s.2.1.length<=k/\s.2.2.1.length<=k/\s.2.2.2.length<=k)/\∀y,y∈s.2.2.1↔∃j,∃h:j<e.length,j<k/\(e[j].1:Int)=8/\(e[j].2:Int)=y) (by omega) rfl ⟨by simp,λy=>by simp⟩ λk s hk hs hJ=>?_
 obtain⟨i,a,b,c⟩:=s;obtain⟨⟨l1,l2,l3⟩,hm⟩:=hJ;dsimp only at hs l1 l2 l3 hm;subst hs;simp only[W_,YF,YG,reduceCtorEq,eL,dW];refine⟨λav=>?_,λhge=>?_⟩
 .have av:k<e.length:=by omega
  have nxt:∀b':List Int,(∀y,y∈b'↔y∈b\/((e[k].1:Int)=8/\(e[k].2:Int)=y))->∀y,y∈b'↔∃j,∃h:j<e.length,j<k+1/\(e[j].1:Int)=8/\(e[j].2:Int)=y:=λb' hb y=>by
   rw[hb,hm];constructor
   .rintro(⟨j,h,h1,h2⟩|h)
    .exact⟨j,h,by omega,h2⟩
    .exact⟨k,av,by omega,h⟩
   .rintro⟨j,h,h1,h2⟩
    rcases WU.1 h1 with h3|rfl
    .exact .inl ⟨j,h,h3,h2⟩
    .exact .inr h2
  have same:(e[k].1:Int)≠8->∀y,y∈b↔∃j,∃h:j<e.length,j<k+1/\(e[j].1:Int)=8/\(e[j].2:Int)=y:=λh=>nxt b λy=>⟨.inl,λg=>g.resolve_right λg=>h g.1⟩
  simp only[aB av,kM (m:=e.length) (by omega) av,W_,YF,YG,reduceCtorEq]
  have pu:∀(q:List Int)(v:Int)(Q:List Int->Prop),q.length<=k->Q (q++[v])->Wp (bW q [v]) Q:=λq v Q hq h=>oX.2 ⟨by simp;omega,h⟩
  refine⟨λh=>pu _ _ _ l1 ⟨av,by simp;omega,same (by rw[h];decide)⟩,λ_=>⟨λh=>pu _ _ _ l2 ⟨av,by simp;omega,nxt _ λy=>?_⟩,λh8=>?_⟩⟩
  .rw[WQ,WO];exact⟨λg=>g.imp id λg=>⟨h,g.symm⟩,λg=>g.imp id λg=>g.2.symm⟩
  .have Kk:k<e.length/\(a.length<=k+1/\b.length<=k+1/\c.length<=k+1)/\∀y,y∈b↔∃j,∃h:j<e.length,j<k+1/\(e[j].1:Int)=8/\(e[j].2:Int)=y:=⟨av,by omega,same h8⟩
   have Cc:Wp (bW c [(e[k].2:Int)]) λx=>k<e.length/\(a.length<=k+1/\b.length<=k+1/\x.length<=k+1)/\∀y,y∈b↔∃j,∃h:j<e.length,j<k+1/\(e[j].1:Int)=8/\(e[j].2:Int)=y:=pu _ _ _ l3 ⟨av,by simp;omega,same h8⟩
   exact⟨λ_=>⟨λ_=>Cc,λ_=>Kk⟩,λ_=>⟨λ_=>⟨λ_=>Cc,λ_=>Kk⟩,λ_=>⟨λ_=>⟨λ_=>Cc,λ_=>Kk⟩,λ_=>⟨λ_=>Cc,λ_=>Kk⟩⟩⟩⟩
 .refine(lF a (by omega)).mono λ_ _=>?_
  refine(lF b (by omega)).mono λr hr=>?_
  refine(lF c (by omega)).mono λ_ _=>?_
  refine⟨by omega,λy=>?_⟩;rw[hr.2,hm];unfold Cy;constructor
  .rintro⟨j,h,_,h2⟩
   exact⟨_,WW h,h2⟩
  .rintro⟨n,hn,h⟩
   obtain⟨j,hj,rfl⟩:=XV hn;exact⟨j,hj,by omega,h⟩
def zu(r:gr)(n:Nat)(y:Int):Prop:=(Cy r.2.2.2.2.2.1 y\/Cy r.2.2.2.2.2.2.1 y)/\0<=y/\y<(n:Int)
theorem AF(l o:List Int)(n:Nat)(hl:l.length<=100000)(ho:o.length<=100000):Wp (Loop (S:=Int×List Int) (X:=List Int) (λs4=>
 (if(decide (s4.1<(l.length:Int)))=Yx then
 ((idx l s4.1).bind λx6=>
 ((if(decide ((0:Int)<=x6))=Yx then
 some (decide (x6<(n:Int)))
 else
 some Yy):Option (Bool)).bind λj7=>
 (if j7=Yx then
 (bW s4.2 ([x6]:List Int)).bind λl8=>
 some l8
 else
 some s4.2):Option (List Int)).bind λj5=>
 some (Sum.inl (WG.wrap (s4.1+(1:Int)),j5))
 else
 some (Sum.inr s4.2))) br ((0:Int),o)) λr=>r.length<=o.length+l.length/\∀y,y∈r↔y∈o\/(y∈l/\0<=y/\y<(n:Int)):=by
 refine Wp.count (λs=>s.1) l.length (λk s=>s.2.length<=o.length+k/\∀y,y∈s.2↔y∈o\/((∃j,∃h:j<l.length,j<k/\l[j]=y)/\0<=y/\y<(n:Int))) (by omega) rfl ⟨by simp,λy=>by simp⟩ λk s hk hs hJ=>?_
 obtain⟨i,q⟩:=s;obtain⟨h1,hm⟩:=hJ;dsimp only at hs h1 hm;subst hs;simp only[W_,YF,YG,reduceCtorEq,eL,dW];refine⟨λav=>?_,λhge=>?_⟩
 .have av:k<l.length:=by omega
  simp only[aB av,kM (m:=l.length) (by omega) av,W_,YF,YG,reduceCtorEq]
  have keep:¬(0<=l[k]/\l[k]<(n:Int))->k<l.length/\q.length<=o.length+(k+1)/\∀y,y∈q↔y∈o\/((∃j,∃h:j<l.length,j<k+1/\l[j]=y)/\0<=y/\y<(n:Int)):=λhn=>⟨av,by omega,λy=>by
   rw[hm];refine or_congr Iff.rfl (and_congr_left λhy=>⟨λ⟨j,h,h1,h2⟩=>⟨j,h,by omega,h2⟩,λ⟨j,h,h1,h2⟩=>?_⟩)
   rcases WU.1 h1 with h3|rfl
   .exact⟨j,h,h3,h2⟩
   .exact absurd (h2▸hy) hn⟩
  refine⟨λh0=>⟨λqm=>oX.2 ⟨by simp;omega,av,by simp;omega,λy=>?_⟩,λqm=>keep λg=>qm g.2⟩,λh0=>keep λg=>h0 g.1⟩;rw[WQ,WO,hm];constructor
  .rintro((h|⟨⟨j,h,h2,h3⟩,h4⟩)|rfl)
   .exact .inl h
   .exact .inr ⟨⟨j,h,by omega,h3⟩,h4⟩
   .exact .inr ⟨⟨k,av,by omega,rfl⟩,h0,qm⟩
  .rintro(h|⟨⟨j,h,h2,h3⟩,h4⟩)
   .exact .inl (.inl h)
   .rcases WU.1 h2 with h5|rfl
    .exact .inl (.inr ⟨⟨j,h,h5,h3⟩,h4⟩)
    .exact .inr h3.symm
 .refine⟨by omega,λy=>?_⟩;rw[hm];refine or_congr Iff.rfl (and_congr_left λhy=>⟨λ⟨j,h,_,h2⟩=>h2▸WW h,λh=>?_⟩);obtain⟨j,hj,e⟩:=XV h;exact⟨j,hj,by omega,e⟩
theorem Cz(r:gr)(n:Nat)(h1:r.2.2.2.2.2.1.length<=50)(h2:r.2.2.2.2.2.2.1.length<=50):Wp (M.dT br r (n:Int)) λl=>l.length<=100/\∀y,y∈l↔zu r n y:=by
 unfold M.dT;rw[wp_bind]
 refine(mF _ (by omega)).mono λa ha=>?_
 rw[wp_bind]
 refine(mF _ (by omega)).mono λb hb=>?_
 rw[wp_bind]
 refine(AF a.2.1 [] n (by omega) (by simp)).mono λc hc=>?_
 have Gj:=hc.1;simp only[List.length_nil]at Gj
 refine(AF b.2.1 c n (by omega) (by omega)).mono λq hq=>⟨by omega,λy=>?_⟩
 rw[hq.2,hc.2,ha.2,hb.2];unfold zu;constructor
 .rintro((h|h)|h)
  .cases h
  .exact⟨.inl h.1,h.2⟩
  .exact⟨.inr h.1,h.2⟩
 .rintro⟨h|h,h3⟩
  .exact .inl (.inr ⟨h,h3⟩)
  .exact .inr ⟨h,h3⟩
theorem oZ(n:Nat)(y:Int):∀(l out:List Int),y∈jh n out l↔y∈out\/(y∈l/\0<=y/\y<(n:Int))
 |[],out=>by show y∈out↔_;simp
 |x::l,out=>by
  show y∈jh n (if 0<=x/\x<(n:Int)then ins x out else out) l↔_
  rw[oZ n y l];split
  .rename_i h;rw[jg,WS];constructor
   .rintro((rfl|h1)|⟨h1,h2⟩)
    .exact .inr ⟨.inl rfl,h⟩
    .exact .inl h1
    .exact .inr ⟨.inr h1,h2⟩
   .rintro(h1|⟨h1|h1,h2⟩)
    .exact .inl (.inr h1)
    .exact .inl (.inl h1)
    .exact .inr ⟨h1,h2⟩
  .rename_i h;rw[WS];constructor
   .rintro(h1|⟨h1,h2⟩)
    .exact .inl h1
    .exact .inr ⟨.inr h1,h2⟩
   .rintro(h1|⟨h1|h1,h2⟩)
    .exact .inl h1
    .exact absurd (h1▸h2) h
    .exact .inr ⟨h1,h2⟩
theorem Fk(s:jV)(d y:Int):Dp s d y↔(0<=d/\d<(s.2.2.2.1.length:Int))/\∃r∈s.2.2.2.2,(r.2.1:Int)=d/\zu r s.2.2.2.1.length y:=by
 unfold Dp gM;split
 .rename_i hd
  suffices∀(rs:List gr)(out:List Int),y∈rs.foldl (λout r=>if(r.2.1:Int)=d then jh s.2.2.2.1.length (jh s.2.2.2.1.length out (kC pw r.2.2.2.2.2.1)) (kC pw r.2.2.2.2.2.2.1)else out) out↔y∈out\/∃r∈rs,(r.2.1:Int)=d/\zu r s.2.2.2.1.length y by
   rw[this];simp[hd]
  intro rs
  induction rs with
  |nil=>intro out;simp
  |cons r rs ih=>
   intro out;rw[XO,ih];split
   .rename_i h;rw[oZ,oZ,py,py];unfold zu;constructor
    .rintro(((h1|h1)|h1)|⟨q,hq,h1⟩)
     .exact .inl h1
     .exact .inr ⟨r,by simp,h, .inl h1.1,h1.2⟩
     .exact .inr ⟨r,by simp,h, .inr h1.1,h1.2⟩
     .exact .inr ⟨q,by simp[hq],h1⟩
    .rintro(h1|⟨q,hq,h1,h2,h3⟩)
     .exact .inl (.inl (.inl h1))
     .rcases WS.1 hq with rfl|hq
      .rcases h2 with h2|h2
       .exact .inl (.inl (.inr ⟨h2,h3⟩))
       .exact .inl (.inr ⟨h2,h3⟩)
      .exact .inr ⟨q,hq,h1,h2,h3⟩
   .rename_i h;constructor
    .rintro(h1|⟨q,hq,h1⟩)
     .exact .inl h1
     .exact .inr ⟨q,by simp[hq],h1⟩
    .rintro(h1|⟨q,hq,h1,h2⟩)
     .exact .inl h1
     .rcases WS.1 hq with rfl|hq
      .exact absurd h1 h
      .exact .inr ⟨q,hq,h1,h2⟩
 .rename_i hd;simp[hd]
def ML(s:jV)(L:List (List Int)):Prop:=L.length=s.2.2.2.1.length/\∀d,∀h:d<L.length,L[d].length<=6000/\∀y,y∈L[d]↔Dp s (d:Int) y
theorem uS(s:jV)(hs:zn s):Wp (M.fS br s) (ML s):=by
 have Vf:=hs.2.2.1;have Wn:=hs.2.2.2.1;have Vg:=hs.2.2.2.2.2.2;unfold M.fS;rw[wp_bind];refine kA.2 ⟨by omega,?_⟩;rw[wp_bind,WN]
 refine Wp.count (λs=>s.1) s.2.2.2.2.length (λk q=>q.2.length=s.2.2.2.1.length/\∀d,∀h:d<q.2.length,q.2[d].length<=100*k/\∀y,y∈q.2[d]↔∃j,∃h:j<s.2.2.2.2.length,j<k/\(s.2.2.2.2[j].2.1:Int)=(d:Int)/\zu s.2.2.2.2[j] s.2.2.2.1.length y) (by omega) rfl ⟨by simp,λd h=>by simp⟩ λk q hk AG hJ=>?_
 obtain⟨i,q⟩:=q;obtain⟨hl,hm⟩:=hJ;dsimp only at AG hl hm;subst AG;simp only[W_,YF,YG,reduceCtorEq,eL,dW];refine⟨λav=>?_,λhge=>?_⟩
 .have av:k<s.2.2.2.2.length:=by omega
  have R7:=Vg _ (WW av);simp only[aB av,kM (m:=s.2.2.2.2.length) (by omega) av,hl,W_,YF,YG,reduceCtorEq]
  have Ga:∀d,∀h:d<q.length,(¬(s.2.2.2.2[k].2.1:Int)=(d:Int))->q[d].length<=100*(k+1)/\∀y,y∈q[d]↔∃j,∃h:j<s.2.2.2.2.length,j<k+1/\(s.2.2.2.2[j].2.1:Int)=(d:Int)/\zu s.2.2.2.2[j] s.2.2.2.1.length y:=λd h hn=>⟨by have:=(hm d h).1;omega,λy=>by
   rw[(hm d h).2];constructor
   .rintro⟨j,h1,h2,h3⟩;exact⟨j,h1,by omega,h3⟩
   .rintro⟨j,h1,h2,h3,h4⟩
    rcases WU.1 h2 with h5|rfl
    .exact⟨j,h1,h5,h3,h4⟩
    .exact absurd h3 hn⟩
  have Vh:=Cz s.2.2.2.2[k] s.2.2.2.1.length R7.2.2.1 R7.2.2.2
  obtain⟨(v:Int),hv⟩:∃v:Int,v=s.2.2.2.2[k].2.1:=⟨_,rfl⟩
  simp only[<-hv]at Ga⊢;refine⟨λh0=>⟨λh1=>?_,λh1=>⟨av,λd h=>Ga d (by omega) λe=>h1 (e▸Int.ofNat_lt.2 h)⟩⟩,λh0=>⟨av,λd h=>Ga d (by omega) λe=>h0 (e▸Int.natCast_nonneg d)⟩⟩;obtain⟨c,rfl⟩:=WR h0
  have hc:c<q.length:=by rw[hl];exact Int.ofNat_lt.1 h1
  simp only[aB hc,W_,YF,YG,reduceCtorEq]
  refine Vh.mono λl9 h9=>oX.2 ⟨by have:=(hm c hc).1;omega,?_⟩
  refine⟨av,by rw[gE];exact hl,λd h=>?_⟩
  have hd:d<q.length:=by rw[gE]at h;exact h
  rw[tZ h hd]
  by_cases e:(c:Int)=(d:Int)
  .rw[YB e]
   have e:c=d:=by omega
   subst e;refine⟨by rw[WZ];have:=(hm c hd).1;have:=h9.1;omega,λy=>?_⟩;rw[WQ,(hm c hd).2,h9.2];constructor
   .rintro(⟨j,h1,h2,h3⟩|h3)
    .exact⟨j,h1,by omega,h3⟩
    .exact⟨k,av,by omega,hv.symm,h3⟩
   .rintro⟨j,h1,h2,h3,h4⟩
    rcases WU.1 h2 with h5|rfl
    .exact .inl ⟨j,h1,h5,h3,h4⟩
    .exact .inr h4
  .rw[YA e];exact Ga d hd e
 obtain rfl:k=s.2.2.2.2.length:=by omega
 have O7:∀d,∀h:d<q.length,q[d].length<=6000/\∀y,y∈q[d]↔Dp s (d:Int) y:=λd h=>⟨by have:=(hm d h).1;omega,λy=>by
  rw[(hm d h).2,Fk];constructor
  .rintro⟨j,h1,_,h2,h3⟩
   exact⟨by omega,_,WW h1,h2,h3⟩
  .rintro⟨_,r,hr,h2,h3⟩
   obtain⟨j,hj,rfl⟩:=XV hr
   exact⟨j,hj,hj,h2,h3⟩⟩
 refine Wp.count (λs=>s.1) q.length (λk z=>z.2.length=q.length/\∀d,∀h:d<z.2.length,z.2[d].length<=6000/\∀y,y∈z.2[d]↔Dp s (d:Int) y) (by omega) rfl ⟨rfl,O7⟩ λk z hk AG hJ=>?_
 obtain⟨i,z⟩:=z;obtain⟨zl,zm⟩:=hJ;dsimp only at AG zl zm;subst AG;simp only[W_,YF,YG,reduceCtorEq,eL,dW];refine⟨λav=>?_,λhge=>⟨by rw[zl];exact hl,zm⟩⟩
 have av:k<q.length:=by omega
 have R8:k<z.length:=by omega
 simp only[aB R8,kM (m:=q.length) (by omega) av,W_,YF,YG,reduceCtorEq]
 refine(uR z[k] (by have:=(zm k R8).1;omega)).mono λr hr=>⟨av,by rw[gE];exact zl,λd h=>?_⟩
 have hd:d<z.length:=by rw[gE]at h;exact h
 rw[tZ h hd]
 by_cases e:(k:Int)=(d:Int)
 .rw[YB e]
  have e:k=d:=by omega
  subst e;exact⟨by have:=(zm k hd).1;have:=hr.1;omega,λy=>by rw[hr.2];exact(zm k hd).2 y⟩
 .rw[YA e];exact zm d hd
def Sn(seen:List Bool)(y:Int):Prop:=0<=y/\seen[y.toNat]? =some Yx
theorem J1{seen:List Bool}{x:Int}(hx:0<=x/\x.toNat<seen.length)(y:Int):Sn (be seen x Yx) y↔y=x\/Sn seen y:=by
 unfold Sn be;rw[List.getElem?_set];by_cases e:x.toNat=y.toNat
 .rw[YB e,YB hx.2];constructor
  .rintro⟨h,_⟩;exact .inl (by omega)
  .rintro(rfl|⟨h,_⟩)
   .exact⟨hx.1,rfl⟩
   .exact⟨h,rfl⟩
 .rw[YA e];constructor
  .exact .inr
  .rintro(rfl|h)
   .exact absurd rfl e
   .exact h
structure RI(D:Int->Int->Prop)(d0:Int)(n:Nat)(ex:Int->Prop)(seen:List Bool)(q:List Int):Prop where
 len:seen.length=n
 qo:∀x∈q,0<=x/\x<(n:Int)/\(x=d0\/Sn seen x)
 snd:∀y,Sn seen y->Gq D d0 y
 clo:∀x,(x=d0\/Sn seen x)->x∈q\/ex x\/∀y,D x y->Sn seen y
 bud:q.length+seen.count Yy<=n+1
theorem zv(s:jV)(L:List (List Int))(hL:ML s L)(d:Nat)(hd:d<s.2.2.2.1.length)(Vf:s.2.2.2.1.length<=14):Wp (M.ij br L (d:Int)) λr=>r.length<=1000/\∀y,y∈r↔Gq (Dp s) (d:Int) y:=by
 obtain⟨hl,hL⟩:=hL
 have hD:∀a b,Dp s a b->0<=b/\b<(s.2.2.2.1.length:Int):=λa b h=>(lB s a).2 b h
 generalize s.2.2.2.1.length=n at*;unfold M.ij;rw[wp_bind];refine kA.2 ⟨by omega,?_⟩;rw[wp_bind,WN,hl]
 refine Wp.loop (λq=>RI (Dp s) (d:Int) n (λ_=>False) q.1 q.2) (λq=>2*q.1.count Yy+q.2.length) ?_ ?_ λq hq=>?_
 .refine⟨by simp,λx hx=>?_,λy hy=>?_,λx hx=>?_,by simp;omega⟩
  .rw[WO.1 hx];exact⟨by omega,by omega, .inl rfl⟩
  .exfalso;have:=hy.2;rw[List.getElem?_replicate]at this
   split at this<;>cases this
  .rcases hx with rfl|hx
   .exact .inl (by simp)
   .exfalso;have:=hx.2;rw[List.getElem?_replicate]at this
    split at this<;>cases this
 .simp[List.count_replicate];unfold br;omega
 obtain⟨seen,q⟩:=q;dsimp only at hq;dsimp only
 have Vi:∀l:List Bool,l.count Yy<=l.length:=λl=>List.count_le_length
 refine Wp.dec (λh0=>?_) λh0=>?_
 .have K6:0<q.length:=by omega
  obtain⟨x,t,rfl⟩:=List.exists_cons_of_ne_nil (List.length_pos_iff.1 K6);have hx:=hq.qo x (by simp);obtain⟨c,rfl⟩:=WR hx.1
  have hc:c<L.length:=by omega
  have i0:idx ((c:Int)::t) (0:Int)=some (c:Int):=rfl
  have xM:dQ ((c:Int)::t) (1:Int) (((c:Int)::t).length:Int)=some t:=by
   apply Wp.eq;refine wp_cut.2 ⟨by simp;omega,?_⟩;rw[WN,W3];rfl
  rw[i0,WE,xM,WE,aB hc,WE]
  have KT:∀y,Dp s (c:Int) y->Gq (Dp s) (d:Int) y:=λy h=>by
   rcases hx.2.2 with e|e
   .exact .one (e▸h)
   .exact .step (hq.snd _ e) h
  have IC:=(hL c hc).2;have Km:=(hL c hc).1;have R9:=hq.bud;simp only[WX]at R9;generalize L[c]=l at*
  refine Wp.count (λs=>s.1) l.length (λk z=>RI (Dp s) (d:Int) n (λy=>y=(c:Int)) z.2.1 z.2.2/\(∀j,j<k->∀h:j<l.length,Sn z.2.1 l[j])/\2*z.2.1.count Yy+z.2.2.length<=2*seen.count Yy+t.length) (by omega) rfl ⟨⟨hq.len,λx hx=>hq.qo x (by simp[hx]),hq.snd,λx hx=>?_,by dsimp only;omega⟩,λj hj=>by omega,WH _⟩ λk z hk AG hJ=>?_
  .rcases hq.clo x hx with h|h|h
   .rcases WS.1 h with rfl|h
    .exact .inr (.inl rfl)
    .exact .inl h
   .exact h.elim
   .exact .inr (.inr h)
  obtain⟨i,sn,qu⟩:=z;obtain⟨hR,hP,hB⟩:=hJ;dsimp only at AG hR hP hB;subst AG;simp only[W_,YF,YG,reduceCtorEq,eL,dW];refine⟨λav=>?_,λhge=>?_⟩
  .have av:k<l.length:=by omega
   have hy:Dp s (c:Int) l[k]:=(IC _).1 (WW av);have MM:=hD _ _ hy;simp only[aB av,kM (m:=l.length) (by omega) av,W_,YF,YG,reduceCtorEq]
   obtain⟨y,Ll⟩:∃y,y=l[k]:=⟨_,rfl⟩
   simp only[<-Ll]at hy MM⊢
   have NG:y.toNat<sn.length:=by rw[hR.len];omega
   refine ey.2 ⟨by rw[hR.len];omega,λhf=>ey.2 ⟨by rw[hR.len];omega,oX.2 ⟨?_,av,?_⟩⟩,λht=>⟨av,hR,rk hP λ_=>?_,hB⟩⟩
   .have:=hR.bud;simp;omega
   .have jT:=J1 (seen:=sn) (x:=y) ⟨MM.1,NG⟩
    have Vj:(be sn y Yx).count Yy+1=sn.count Yy:=by
     unfold be;rw[List.count_set NG];have h1:0<sn.count Yy:=List.count_pos_iff.2 (hf▸WW NG);simp[hf];omega
    refine⟨⟨by unfold be;simp[hR.len],λx hx=>?_,λz hz=>?_,λx hx=>?_,?_⟩,rk (λj hj h=>?_) λh=>?_,?_⟩
    .rcases WQ.1 hx with hx|hx
     .obtain⟨a1,a2,a3⟩:=hR.qo x hx;exact⟨a1,a2,a3.imp id λg=>(jT x).2 (.inr g)⟩
     .rw[WO.1 hx];exact⟨MM.1,MM.2, .inr ((jT y).2 (.inl rfl))⟩
    .rcases(jT z).1 hz with rfl|hz
     .exact KT _ hy
     .exact hR.snd z hz
    .have go:x=(d:Int)\/Sn sn x->x∈qu++[y]\/x=(c:Int)\/∀z,Dp s x z->Sn (be sn y Yx) z:=λg=>by
      rcases hR.clo x g with h|h|h
      .exact .inl (by simp[h])
      .exact .inr (.inl h)
      .exact .inr (.inr λz hz=>(jT z).2 (.inr (h z hz)))
     rcases hx with hx|hx
     .exact go (.inl hx)
     .rcases(jT x).1 hx with rfl|hx
      .exact .inl (by simp)
      .exact go (.inr hx)
    .have:=hR.bud;simp;omega
    .exact(jT _).2 (.inr (hP j hj h))
    .exact(jT _).2 (.inl Ll.symm)
    .simp;omega
   .rw[<-Ll];exact⟨MM.1,by rw[WJ NG,ht]⟩
  .obtain rfl:k=l.length:=by omega
   show EW _ _ _ _ (.inl _)
   refine⟨⟨hR.len,hR.qo,hR.snd,λx hx=>?_,hR.bud⟩,?_⟩
   .rcases hR.clo x hx with h|h|h
    .exact .inl h
    .refine .inr (.inr λy hy=>?_);rw[h]at hy;obtain⟨j,hj,e⟩:=XV ((IC y).2 hy);exact e▸hP j hj hj
    .exact .inr (.inr h)
   .show 2*sn.count Yy+qu.length<2*seen.count Yy+((c:Int)::t).length
    simp only[WX];omega
 .have K6:q=[]:=by
   cases q with
   |nil=>rfl
   |cons x t=>simp at h0
  subst K6;refine .some ?_
  show Wp _ _
  have I0:∀y,Sn seen y↔Gq (Dp s) (d:Int) y:=λy=>⟨hq.snd y,λh=>by
   have cl:∀x,(x=(d:Int)\/Sn seen x)->∀z,Dp s x z->Sn seen z:=λx hx=>by
    rcases hq.clo x hx with h|h|h
    .cases h
    .exact h.elim
    .exact h
   induction h with
   |one h=>exact cl _ (.inl rfl) _ h
   |step _ g ih=>exact cl _ (.inr ih) _ g⟩
  have eA:=hq.len
  refine Wp.count (λs=>s.1) seen.length (λk z=>z.2.length<=k/\∀y,y∈z.2↔Sn seen y/\y<(k:Int)) (by omega) rfl ⟨by simp,λy=>⟨λh=>(by cases h),λh=>(by have:=h.1.1;have:=h.2;omega)⟩⟩ λk z hk AG hJ=>?_
  obtain⟨i,o⟩:=z;obtain⟨Vk,hJ⟩:=hJ;dsimp only at AG Vk hJ;subst AG;simp only[W_,YF,YG,reduceCtorEq,eL,dW];refine⟨λav=>?_,λhge=>⟨by omega,λy=>?_⟩⟩
  .have av:k<seen.length:=by omega
   have Kl:Sn seen (k:Int)↔seen[k]=Yx:=by
    unfold Sn;rw[WN,WJ av];simp
   simp only[aB av,kM (m:=seen.length) (by omega) av,W_,YF,YG,reduceCtorEq];refine⟨λh=>oX.2 ⟨by simp;omega,av,by simp;omega,λy=>?_⟩,λh=>⟨av,by omega,λy=>?_⟩⟩
   .rw[WQ,WO,hJ];constructor
    .rintro(⟨h1,h2⟩|rfl)
     .exact⟨h1,by omega⟩
     .exact⟨Kl.2 h,by omega⟩
    .rintro⟨h1,h2⟩
     by_cases e:y=(k:Int)
     .exact .inr e
     .exact .inl ⟨h1,by omega⟩
   .rw[hJ];refine⟨λ⟨h1,h2⟩=>⟨h1,by omega⟩,λ⟨h1,h2⟩=>⟨h1,?_⟩⟩
    have:y≠(k:Int):=λe=>by
     rw[e,Kl,h]at h1;cases h1
    omega
  .rw[hJ,<-I0];refine⟨λh=>h.1,λh=>⟨h,?_⟩⟩;have:=(W2.1 h.2).1;have:=h.1;omega
theorem MJ.all(x:jV)(hs:zn x):MJ x:=λd hd=>by
 have key:Wp (M.ef br x (d:Int)) λtr=>tr.length<=1000/\∀y,y∈tr↔Gq (Dp x) (d:Int) y:=by
  unfold M.ef;rw[YA (by simp),WE,YA (by simp;omega),wp_bind]
  refine(uS x hs).mono λL hL=>?_
  rw[wp_bind]
  exact(zv x L hL d hd hs.2.2.1).mono λr hr=> .some hr
 obtain⟨tr,e,h1,h2⟩:=key;exact⟨tr,e,h1,by rw[h2,HD]⟩
end L
namespace L
def dO(a b:Nat):Nat:=a ^^^(a&&& b)
theorem bB(a b i:Nat):(dO a b).testBit i=(a.testBit i&& !b.testBit i):=by
 unfold dO;rw[Nat.testBit_xor,Nat.testBit_and]
 cases a.testBit i<;>cases b.testBit i<;>rfl
theorem iw{a:Nat}(h:a<9223372036854775808):(XI 64 (a:Int)).toNat=a:=by
 rw[BitVec.ofInt_natCast,BitVec.toNat_ofNat];exact Nat.mod_eq_of_lt (by omega)
theorem wrap_i64{x:Nat}(h:x<9223372036854775808):WG.wrap (x:Int)=(x:Int):=EX (by omega)
theorem Fl{a b:Nat}(ha:a<9223372036854775808)(hb:b<9223372036854775808):al .and .i64 (a:Int) (b:Int)=((a&&& b:Nat):Int):=by
 show WG.wrap ((XI 64 (a:Int)&&& XI 64 (b:Int)).toNat:Int)=_
 rw[BitVec.toNat_and,iw ha,iw hb,wrap_i64 (Nat.lt_of_le_of_lt Nat.and_le_left ha)]
theorem MN{a b:Nat}(ha:a<9223372036854775808)(hb:b<9223372036854775808):al .xor .i64 (a:Int) (b:Int)=((a ^^^ b:Nat):Int):=by
 show WG.wrap ((XI 64 (a:Int)^^^ XI 64 (b:Int)).toNat:Int)=_
 have h:a ^^^ b<2 ^ 63:=Nat.xor_lt_two_pow (by omega) (by omega);rw[BitVec.toNat_xor,iw ha,iw hb,wrap_i64 (by omega)]
theorem CA{a b:Nat}(ha:a<9223372036854775808)(hb:b<9223372036854775808):al .andNot .i64 (a:Int) (b:Int)=((dO a b:Nat):Int):=by
 show WG.wrap ((XI 64 (a:Int)&&& ~~~XI 64 (b:Int)).toNat:Int)=_
 have h:(XI 64 (a:Int)&&& ~~~XI 64 (b:Int)).toNat=dO a b:=by
  apply X0;intro i;rw[bB,BitVec.testBit_toNat,BitVec.getLsbD_and,BitVec.getLsbD_not,<-BitVec.testBit_toNat,<-BitVec.testBit_toNat,iw ha,iw hb];by_cases hi:i<64
  .simp[hi]
  .have:a.testBit i=Yy:=Nat.testBit_lt_two_pow (Xg ha (by have:=Nat.pow_le_pow_right (n:=2) (by omega) (show 63<=i by omega);omega));simp[hi,this]
 have hl:dO a b<=a:=by
  apply Nat.le_of_testBit;intro i;rw[bB]
  cases a.testBit i<;>simp
 rw[h,wrap_i64 (by omega)]
theorem Fm(a b:Nat):dO a b<=a:=by
 apply Nat.le_of_testBit;intro i;rw[bB]
 cases a.testBit i<;>simp
noncomputable def dK(a:Int):Int:=(M.ew 0 (WK.wrap a)).getD 0
theorem uT(N:Nat)(a:Int):M.bS N (WK.wrap a)=some (dK a):=by
 unfold M.bS dK;rfl
def J2(a b:Int):Int:=if a<b then-1 else if b<a then 1 else 0
theorem nf(N:Nat)(a b:Int):M.cmp_Compare_int N a b=some (J2 a b):=by
 simp only[M.cmp_Compare_int,M.cmp_isNaN_int,WE,decide_true,Bool.not_true,W0,if_false,YI,J2];split
 .rfl
 .split<;>rfl
theorem or_eq(a b c:Int):M.ko br [a,b,c]=some (if a≠0 then a else if b≠0 then b else c):=by
 unfold M.ko;refine Wp.eq ?_
 refine Wp.count (λs=>s) 3 (λk _=>(1<=k->a=0)/\(2<=k->b=0)/\(3<=k->c=0)) (by omega) rfl ⟨by omega,by omega,by omega⟩ λk s hk hs hJ=>?_
 subst hs
 match k,hk with
 |0,_=>
  refine .dec (λ_=> .bind (.idx 0 rfl (show 0<3 by omega) ?_)) (λh=>absurd (show(0:Int)<3 by omega) h);refine .ri (λh=> .some ?_) (λh=> .some ?_)
  .show a=_
   rw[YB (show a≠0 from h)]
  .exact⟨by omega,by decide,λ_=>h,by omega,by omega⟩
 |1,_=>
  refine .dec (λ_=> .bind (.idx 1 rfl (show 1<3 by omega) ?_)) (λh=>absurd (show(1:Int)<3 by omega) h);have h0:=hJ.1 (by omega);refine .ri (λh=> .some ?_) (λh=> .some ?_)
  .show b=_
   rw[YA (by simpa using h0),YB (show b≠0 from h)]
  .exact⟨by omega,by decide,λ_=>h0,λ_=>h,by omega⟩
 |2,_=>
  refine .dec (λ_=> .bind (.idx 2 rfl (show 2<3 by omega) ?_)) (λh=>absurd (show(2:Int)<3 by omega) h);have h0:=hJ.1 (by omega);have h1:=hJ.2.1 (by omega);refine .ri (λh=> .some ?_) (λh=> .some ?_)
  .show c=_
   rw[YA (by simpa using h0),YA (by simpa using h1)]
  .exact⟨by omega,by decide,λ_=>h0,λ_=>h1,λ_=>h⟩
 |3,_=>
  have h0:=hJ.1 (by omega);have h1:=hJ.2.1 (by omega);have h2:=hJ.2.2 (by omega);refine .dec (λh=>absurd h (by simp)) (λ_=> .some ?_)
  show(0:Int)=_
  rw[YA (by simpa using h0),YA (by simpa using h1),h2]
def J3(a b c d:Int)(f g:Int):Int:=if f<g then-1 else if g<f then 1 else if a<c then-1 else if c<a then 1 else if b<d then-1 else if d<b then 1 else 0
theorem cmp_eq(a b c d:Int):M.bE br (a,b) (c,d)=some (J3 a b c d (dK a) (dK c)):=by
 unfold M.bE;rw[uT,WE,uT,WE,nf,WE,nf,WE,nf,WE,or_eq,WE];unfold J2 J3;dsimp only
 congr 1
 generalize dK a=f;generalize dK c=g;by_cases h1:f<g
 .simp[h1]
 .by_cases h2:g<f
  .simp[h1,h2]
  .by_cases h3:a<c
   .simp[h1,h2,h3]
   .by_cases h4:c<a<;>simp[h1,h2,h3,h4]
def kU(x y:Int×Int):Prop:=dK x.1<dK y.1\/dK x.1=dK y.1/\(x.1<y.1\/x.1=y.1/\x.2<y.2)
theorem uU(x y:Int×Int):Xv (kR λa b c d=>M.bE br (a,b) (c,d)) x y=Yx↔kU x y:=by
 unfold Xv kR
 show decide ((M.bE br (x.1,x.2) (y.1,y.2)).getD 0<0)=Yx↔_
 rw[cmp_eq,Option.getD_some];unfold J3 kU;generalize dK x.1=f;generalize dK y.1=g;rw[YI]
 grind
theorem ng(x y:Int×Int):Xv (kR λa b c d=>M.bE br (a,b) (c,d)) x y=Yy↔¬kU x y:=by
 rw[<-uU];simp
theorem MO:EP λa b c d=>M.bE br (a,b) (c,d) where
 all a b c d:=⟨_,cmp_eq a b c d⟩
 swo:=⟨λx=>by rw[ng];unfold kU;omega,λx y z h1 h2=>by rw[uU]at*;unfold kU at*;omega,λx y z h1 h2=>by rw[ng]at*;unfold kU at*;omega⟩
 tot x y h1 h2:=by
  rw[ng]at*;unfold kU at*
  refine Prod.ext ?_ ?_<;>omega
end L
namespace L
theorem eN{x m b:Nat}:x&&& m=b↔∀i,(x.testBit i&&m.testBit i)=b.testBit i:=by
 constructor
 .rintro rfl i;rw[Nat.testBit_and]
 .intro h;apply X0;intro i;rw[Nat.testBit_and];exact h i
theorem dX{b m:Nat}:b&&& m=b↔∀i,b.testBit i=Yx->m.testBit i=Yx:=by
 rw[eN];constructor
 .intro h i hb;have:=h i;rw[hb]at this;simpa using this
 .intro h i
  cases hb:b.testBit i with
  |false=>rfl
  |true=>rw[h i hb];rfl
theorem de(j i:Nat):(2 ^ j).testBit i=decide (j=i):=Nat.testBit_two_pow
theorem uV{m n:Nat}(h:m<2 ^ n){i:Nat}(hi:m.testBit i=Yx):i<n:=by
 refine Classical.byContradiction λg=>?_
 rw[Nat.testBit_lt_two_pow (Xg h (Nat.pow_le_pow_right (by omega) (by omega)))]at hi;cases hi
def nh(n:Nat)(S:Nat->Prop)(m b:Nat):Prop:=m<2 ^ n/\b&&& m=b/\∀x,x<2 ^ n->x&&& m=b->S x
theorem nh.lt{n:Nat}{S:Nat->Prop}{m b:Nat}(h:nh n S m b):b<2 ^ n:=Nat.lt_of_le_of_lt (by rw[<-h.2.1];exact Nat.and_le_right) h.1
theorem nh.merge{n:Nat}{S:Nat->Prop}{m b j:Nat}(h:nh n S m b)(g:nh n S m (b ^^^ 2 ^ j))(Sa:m.testBit j=Yx):nh n S (dO m (2 ^ j)) (dO b (2 ^ j)):=by
 refine⟨Nat.lt_of_le_of_lt (Fm _ _) h.1,?_,λx hx hm=>?_⟩
 .rw[dX];intro i;rw[bB,bB];have:=dX.1 h.2.1 i;intro h2;simp only[Xz]at h2⊢;exact⟨this h2.1,h2.2⟩
 .have hm:=eN.1 hm;by_cases Gb:x.testBit j=b.testBit j
  .refine h.2.2 x hx (eN.2 λi=>?_);have h1:=hm i;rw[bB,bB,de]at h1;by_cases e:j=i
   .subst e;rw[Gb,Sa];simp
   .simpa[e]using h1
  .refine g.2.2 x hx (eN.2 λi=>?_);have h1:=hm i;rw[bB,bB,de]at h1;rw[Nat.testBit_xor,de];by_cases e:j=i
   .subst e;rw[Sa];cases Wo:x.testBit j<;>cases tI:b.testBit j<;>simp_all
   .simpa[e]using h1
theorem nh.wider{n:Nat}{S:Nat->Prop}{m b j:Nat}(h:nh n S m b)(hj:m.testBit j=Yy)(hn:j<n):nh n S (m|||2 ^ j) b/\nh n S (m|||2 ^ j) (b ^^^ 2 ^ j):=by
 have av:m|||2 ^ j<2 ^ n:=Nat.or_lt_two_pow h.1 (Nat.pow_lt_pow_right (by omega) hn)
 have hb:b.testBit j=Yy:=by
  cases e:b.testBit j with
  |false=>rfl
  |true=>rw[dX.1 h.2.1 j e]at hj;cases hj
 refine⟨⟨av,?_,λx hx hm=>h.2.2 x hx (eN.2 λi=>?_)⟩,⟨av,?_,λx hx hm=>h.2.2 x hx (eN.2 λi=>?_)⟩⟩
 .rw[dX];intro i hi;rw[Ya,dX.1 h.2.1 i hi];rfl
 .have:=eN.1 hm i;rw[Ya,de]at this;by_cases e:j=i
  .subst e;rw[hj,hb];simp
  .simpa[e]using this
 .rw[dX];intro i hi;rw[Nat.testBit_xor,de]at hi;rw[Ya,de];by_cases e:j=i
  .simp[e]
  .have:b.testBit i=Yx:=by simpa[e]using hi
   rw[dX.1 h.2.1 i this];rfl
 .have:=eN.1 hm i;rw[Ya,de,Nat.testBit_xor,de]at this;by_cases e:j=i
  .subst e;rw[hj,hb];simp
  .simpa[e]using this
theorem J4{m j:Nat}(h:m.testBit j=Yy):dO (m|||2 ^ j) (2 ^ j)=m:=by
 apply X0;intro i;rw[bB,Ya,de];by_cases e:j=i
 .subst e;simp[h]
 .simp[e]
theorem rn{b j:Nat}(h:b.testBit j=Yy):dO b (2 ^ j)=b:=by
 apply X0;intro i;rw[bB,de];by_cases e:j=i
 .subst e;simp[h]
 .simp[e]
theorem HE(b j:Nat):dO (b ^^^ 2 ^ j) (2 ^ j)=dO b (2 ^ j):=by
 apply X0;intro i;rw[bB,bB,Nat.testBit_xor,de]
 by_cases e:j=i<;>simp[e]
theorem HF(b j:Nat):b ^^^ 2 ^ j ^^^ 2 ^ j=b:=by rw[Nat.xor_assoc,Nat.xor_self,Nat.xor_zero]
theorem xd{n i:Nat}(h:i<n):(2 ^ n-1).testBit i=Yx:=by rw[Nat.testBit_two_pow_sub_one];simpa using h
theorem zw{n:Nat}{S:Nat->Prop}{In:Nat->Nat->Prop}(h0:∀x,x<2 ^ n->S x->In (2 ^ n-1) x)
 (hc:∀m b j,j<n->m.testBit j=Yx->In m b->In m (b ^^^ 2 ^ j)->In (dO m (2 ^ j)) (dO b (2 ^ j))):∀k m b,2 ^ n-m=k->nh n S m b->In m b:=by
 intro k
 induction k using Nat.strongRecOn with
 |_ k ih=>
  intro m b hk h;by_cases hf:∃j,j<n/\m.testBit j=Yy
  .obtain⟨j,hj,hm⟩:=hf;obtain⟨h1,h2⟩:=h.wider hm hj
   have hgt:m<m|||2 ^ j:=by
    refine Nat.lt_of_le_of_ne Nat.left_le_or λe=>?_
    have:(m|||2 ^ j).testBit j=Yx:=by rw[Ya,de];simp
    rw[<-e,hm]at this;cases this
   have av:=h1.1;have:=hc (m|||2 ^ j) b j hj (by rw[Ya,de];simp) (ih _ (by omega) _ _ rfl h1) (ih _ (by omega) _ _ rfl h2)
   have hb:b.testBit j=Yy:=by
    cases e:b.testBit j with
    |false=>rfl
    |true=>rw[dX.1 h.2.1 j e]at hm;cases hm
   rwa [J4 hm,rn hb]at this
  .have hm:m=2 ^ n-1:=by
    apply X0;intro i;rw[Nat.testBit_two_pow_sub_one];by_cases hi:i<n
    .cases e:m.testBit i with
     |true=>simp[hi]
     |false=>exact absurd ⟨i,hi,e⟩ hf
    .cases e:m.testBit i with
     |true=>exact absurd (uV h.1 e) hi
     |false=>simp[hi]
   subst hm;exact h0 b h.lt (h.2.2 b h.lt h.2.1)
theorem nh.full{n:Nat}{S:Nat->Prop}{x:Nat}(hx:x<2 ^ n)(hS:S x):nh n S (2 ^ n-1) x:=by
 have hp:0<2 ^ n:=Nat.two_pow_pos n;refine⟨by omega,?_,λy hy he=>?_⟩
 .rw[dX];intro i hi;exact xd (uV hx hi)
 .have:y&&&(2 ^ n-1)=y:=by rw[dX];intro i hi;exact xd (uV hy hi)
  rw[this]at he;subst he;exact hS
end L
namespace L
abbrev PS:Type:=List (aa.den×Bool)
def In(l:PS)(p:Int×Int):Prop:=(aT aa l p).getD Yy=Yx
def uW(a b:Int×Int):Prop:=a.1<b.1\/a.1=b.1/\a.2<b.2
structure fX(l:PS):Prop where
 tr:∀e∈l,e.2=Yx
 srt:l.Pairwise λe f=>uW e.1 f.1
theorem uW.trans{a b c:Int×Int}(h:uW a b)(g:uW b c):uW a c:=by unfold uW at*;omega
theorem uW.total{a b:Int×Int}(h:¬uW a b)(g:b≠a):uW b a:=by
 have g:¬(b.1=a.1/\b.2=a.2):=λe=>g (Prod.ext e.1 e.2)
 unfold uW at*;omega
theorem gu(a b:Int×Int):bN aa a b=Yx↔a=b:=by
 show decide ((a.1:Int)=b.1/\(a.2:Int)=b.2)=Yx↔_
 rw[YI,Prod.ext_iff]
theorem gN(a b:Int×Int):bN aa a b=Yy↔a≠b:=by rw[<-Bool.not_eq_true,ne_eq,gu]
theorem tx(a b:Int×Int):D2 aa a b=Yx↔uW a b:=by
 show decide ((a.1:Int)<b.1\/((a.1:Int)=b.1/\(a.2:Int)<b.2))=Yx↔_
 rw[YI];rfl
theorem fY:{l:PS}->{p:Int×Int}->(∀e∈l,e.2=Yx)->(In l p↔(p,Yx)∈l)
 |[],p,_=>by simp[In,aT]
 |q::l,p,h=>by
  have ih:=fY (l:=l) (p:=p) λe he=>h e (Xk _ he)
  have hq:=h q Xx;unfold In aT;by_cases e:bN aa q.1 p=Yx
  .rw[YB e];have e':=(gu _ _).1 e;have:q=(p,Yx):=Prod.ext e' hq;simp[this]
  .rw[YA e]
   have e':q.1≠p:=λg=>e ((gu _ _).2 g)
   refine ih.trans ⟨λg=>Xk _ g,λg=>?_⟩
   rcases WS.1 g with g|g
   .exact absurd (by rw[<-g]) e'
   .exact g
theorem fX.nil:fX []:=⟨λe h=>by simp at h, .nil⟩
theorem rp{l:PS}{p:Int×Int}{v:Bool}{e:(Int×Int)×Bool}:e∈vR aa l p v↔e=(p,v)\/e∈l:=by rw[(lW p v l).mem_iff,WS]
theorem xe{p:Int×Int}{v:Bool}:{l:PS}->l.Pairwise (λe f=>uW e.1 f.1)->(∀e∈l,e.1≠p)->(vR aa l p v).Pairwise λe f=>uW e.1 f.1
 |[],_,_=>by simp[vR]
 |q::l,h,hn=>by
  obtain⟨h1,h2⟩:=Xe.1 h;unfold vR;by_cases hk:D2 aa p q.1=Yx
  .rw[YB hk];have hk:=(tx _ _).1 hk;refine Xe.2 ⟨λe he=>?_,h⟩
   rcases WS.1 he with rfl|he
   .exact hk
   .exact hk.trans (h1 e he)
  .rw[YA hk]
   have hk:¬uW p q.1:=λg=>hk ((tx _ _).2 g)
   refine Xe.2 ⟨λe he=>?_,xe h2 λe he=>hn e (Xk _ he)⟩
   rcases rp.1 he with rfl|he
   .exact uW.total hk (hn q Xx)
   .exact h1 e he
theorem fX.put{l:PS}(h:fX l)(p:Int×Int):fX (mo aa l p Yx):=by
 refine⟨λe he=>?_,xe (h.srt.filter _) λe he=>?_⟩
 .rcases rp.1 he with rfl|he
  .rfl
  .exact h.tr e (Xi.1 he).1
 .have:=(Xi.1 he).2;intro e';rw[Bool.not_eq_true',gN]at this;exact this e'
theorem uX{l:PS}(h:fX l){p q:Int×Int}:In (mo aa l p Yx) q↔q=p\/In l q:=by
 rw[fY (h.put p).tr,fY h.tr];unfold mo;rw[rp,Xi,Bool.not_eq_true',gN];constructor
 .rintro(e|⟨e,_⟩)
  .exact .inl (Prod.ext_iff.1 e).1
  .exact .inr e
 .rintro(rfl|e)
  .exact .inl rfl
  .by_cases g:q=p
   .exact .inl (by rw[g])
   .exact .inr ⟨e,g⟩
theorem HG{l:PS}(h:fX l){p:Int×Int}(hn:¬In l p):(mo aa l p Yx).length=l.length+1:=by
 unfold mo;refine(lW (K:=aa) p Yx _).length_eq.trans ?_;rw[WX,Yi.2];intro e he;rw[Bool.not_eq_true',gN];intro g;refine hn ((fY h.tr).2 ?_);have:e=(p,Yx):=Prod.ext g (h.tr e he);rw[<-this];exact he
theorem fX.ext{l m:PS}(h:fX l)(g:fX m)(e:∀p,In l p↔In m p):l=m:=by
 have yi:∀{l:PS},fX l->l.Nodup:=λh=>h.srt.imp λg e=>by
  subst e;unfold uW at g;omega
 have hm:∀a:aa.den×Bool,a∈l↔a∈m:=λa=>by
  constructor
  .intro ha;have:a=(a.1,Yx):=Prod.ext rfl (h.tr a ha);rw[this]at ha⊢;exact(fY g.tr).1 ((e _).1 ((fY h.tr).2 ha))
  .intro ha;have:a=(a.1,Yx):=Prod.ext rfl (g.tr a ha);rw[this]at ha⊢;exact(fY h.tr).1 ((e _).2 ((fY g.tr).2 ha))
 refine List.Perm.eq_of_pairwise (le:=λe f:aa.den×Bool=>uW e.1 f.1) (λa b _ _ h1 h2=>?_) h.srt g.srt ((List.perm_ext_iff_of_nodup (yi h) (yi g)).2 hm);unfold uW at h1 h2;omega
theorem mh{α:Type}:∀{A B:List α},A.Nodup->(∀x∈A,x∈B)->A.length<=B.length
 |[],_,_,_=>Nat.zero_le _
 |a::A,B,h,hs=>by
  obtain⟨h1,h2⟩:=List.nodup_cons.1 h;obtain⟨s,t,rfl⟩:=List.append_of_mem (hs a Xx)
  have:=mh (A:=A) (B:=s++t) h2 λx hx=>by
   have:=hs x (Xk _ hx)
   have bY:x≠a:=λe=>h1 (e▸hx)
   simp only[WQ,WS]at this⊢
   rcases this with h|h|h
   .exact .inl h
   .exact absurd h bY
   .exact .inr h
  simp only[WZ,WX]at this⊢;omega
theorem fX.len{l:PS}(h:fX l)(k:Nat)(hk:∀p,In l p->∃m b:Nat,p=((m:Int),(b:Int))/\m<k/\b<k):l.length<=k*k:=by
 have:=mh (A:=l.map λe=>(e.1.1*k+e.1.2:Int)) (B:=(WM (k*k)).map λx:Nat=>(x:Int)) ?_ λx hx=>?_
 .simpa using this
 .rw[List.Nodup,List.pairwise_map];refine List.Pairwise.imp_of_mem (λ{e f}he hf av=>?_) h.srt
  have key:∀{e:aa.den×Bool},e∈l->In l e.1:=λ{e}he=>(fY h.tr).2 (by rw[show(e.1,Yx)=e from Prod.ext rfl (h.tr e he).symm];exact he)
  obtain⟨m,b,e1,h1,h2⟩:=hk _ (key he);obtain⟨m',b',e2,h3,h4⟩:=hk _ (key hf);rw[e1,e2]at av⊢;dsimp only[uW]at av⊢;intro g
  have g:m*k+b=m'*k+b':=by exact_mod_cast g
  have h5:(m*k+b)/k=m:=by rw[Nat.mul_comm,Nat.mul_add_div (by omega),Nat.div_eq_of_lt h2,XL]
  have h6:(m'*k+b')/k=m':=by rw[Nat.mul_comm,Nat.mul_add_div (by omega),Nat.div_eq_of_lt h4,XL]
  have:m=m':=by rw[<-h5,<-h6,g]
  subst this;omega
 .obtain⟨e,he,rfl⟩:=List.mem_map.1 hx;have:In l e.1:=(fY h.tr).2 (by rw[show(e.1,Yx)=e from Prod.ext rfl (h.tr e he).symm];exact he);obtain⟨m,b,e1,h1,h2⟩:=hk _ this;rw[e1];refine List.mem_map.2 ⟨m*k+b,Xc.2 ?_,by simp⟩;have:=W1 k (show m+1<=k by omega);rw[Xu]at this;omega
theorem xf{α A R:Type}{l0:List (aa.den×α)}{fin:List (aa.den×α)×List (aa.den×α)×A->Option R}{step:List (aa.den×α)×List (aa.den×α)×A->(aa.den×α)->Option A}(I:List (aa.den×α)->A->Prop){MP:R->Prop}(hu:∀r r',MP r->MP r'->r=r')
 (cF:∀left acc x,x∈left->I left acc->Wp (step (l0,left,acc) x) (I (iD aa left x.1)))(Dt:∀acc,I [] acc->Wp (fin (l0,[],acc)) MP):
 ∀(n N:Nat)left acc,left.length<=n->n<N->I left acc->Wp (lc (λs k2=>if s.2.1.isEmpty=Yx then fin s else GQ (λp=>p∈s.2.1) λx=>(step s x).bind λa=>k2 (s.1,iD aa s.2.1 x.1,a)) N (l0,left,acc)) MP:=by
 intro n
 induction n with
 |zero=>
  intro N left acc hl hN hi;obtain⟨N,rfl⟩:=Nat.exists_eq_succ_of_ne_zero (show N≠0 by omega);obtain rfl:=List.eq_nil_of_length_eq_zero (Nat.le_zero.1 hl);obtain⟨r,hr,h⟩:=Dt acc hi;refine⟨r,?_,h⟩;unfold lc;exact(YB rfl).trans hr
 |succ n ih=>
  intro N left acc hl hN hi;obtain⟨N,rfl⟩:=Nat.exists_eq_succ_of_ne_zero (show N≠0 by omega)
  by_cases he:left=[]
  .subst he;obtain⟨r,hr,h⟩:=Dt acc hi;refine⟨r,?_,h⟩;unfold lc;exact(YB rfl).trans hr
  .have he':¬left.isEmpty=Yx:=by simpa using he
   have key:∀x,x∈left->∃a r,step (l0,left,acc) x=some a/\lc (λs k2=>if s.2.1.isEmpty=Yx then fin s else GQ (λp=>p∈s.2.1) λx=>(step s x).bind λa=>k2 (s.1,iD aa s.2.1 x.1,a)) N (l0,iD aa left x.1,a)=some r/\MP r:=λx hx=>by
    obtain⟨a,ha,gC⟩:=cF left acc x hx hi
    have:(iD aa left x.1).length<left.length:=by
     unfold iD;refine List.length_filter_lt_length_iff_exists.2 ⟨x,hx,?_⟩;rw[(gu _ _).2 rfl];simp
    obtain⟨r,hr,h⟩:=ih N (iD aa left x.1) a (by omega) (by omega) gC;exact⟨a,r,ha,hr,h⟩
   obtain⟨x0,KE⟩:=List.exists_mem_of_ne_nil _ he;obtain⟨_,r0,_,_,h0⟩:=key x0 KE;refine⟨r0,?_,h0⟩;unfold lc;refine(YA he').trans (I6 ⟨x0,KE⟩ λx hx=>?_);obtain⟨a,r,ha,hr,h⟩:=key x hx;rw[ha,WE,hu _ _ h0 h];exact hr
end L
namespace L
theorem iq{j:Nat}(h:j<62):oj .i64 (1:Int) (j:Int)=some ((2 ^ j:Nat):Int):=by
 unfold oj;rw[YA (by omega)];unfold DC
 have h1:min (j:Int).toNat WG.bits=j:=by simp[IntKind.bits];omega
 have h2:2 ^ j<2 ^ 62:=Nat.pow_lt_pow_right (by omega) h
 have e:(1:Int)*2 ^ j=((2 ^ j:Nat):Int):=by rw[Int.one_mul];simp
 rw[h1,e,wrap_i64 (by omega)]
theorem Fp:∀j,j<8->dK ((2 ^ j:Nat):Int)=1:=by
 intro j hj
 have h:((WM 8).all λj=>decide (dK ((2 ^ j:Nat):Int)=1))=Yx:=by kernel_rfl
 exact YC (List.all_eq_true.1 h j (Xc.2 hj))
abbrev pI(m b:Nat):Int×Int:=((m:Int),(b:Int))
theorem o3{m b m' b':Nat}(h:pI m b=pI m' b'):m=m'/\b=b':=by
 have h:=Prod.ext_iff.1 h;have h1:(m:Int)=m':=h.1;have h2:(b:Int)=b':=h.2;omega
theorem uY(b j:Nat):b ^^^(b ^^^ 2 ^ j)=2 ^ j:=by rw[<-Nat.xor_assoc,Nat.xor_self,Nat.zero_xor]
theorem ni{n:Nat}(h:n<=8):2 ^ n<=256:=Nat.pow_le_pow_right (n:=2) (by omega) h
theorem HH{b j:Nat}(hb:b<256)(hj:j<8):b ^^^ 2 ^ j<256:=Nat.xor_lt_two_pow (n:=8) hb (by have:=Nat.pow_lt_pow_right (a:=2) (by omega) hj;omega)
theorem uZ{j:Nat}(hj:j<8):2 ^ j<256:=Nat.pow_lt_pow_right (a:=2) (by omega) hj
theorem Fq{m b j:Nat}(hm:m<256)(hb:b<256)(hj:j<8)(C1:m.testBit j=Yx):M.gx br (pI m b) (pI m (b ^^^ 2 ^ j))=some (pI (dO m (2 ^ j)) (dO b (2 ^ j)),Yx):=by
 have h2:=uZ hj
 have hx:al .xor .i64 (b:Int) ((b ^^^ 2 ^ j:Nat):Int)=((2 ^ j:Nat):Int):=by rw[MN (by omega) (by have:=HH hb hj;omega),uY]
 have ha:al .and .i64 ((2 ^ j:Nat):Int) (m:Int)≠0:=by
  rw[Fl (by omega) (by omega)];intro h
  have h:2 ^ j&&& m=0:=by exact_mod_cast h
  have:=YH (λx=>x.testBit j) h;simp only[Nat.testBit_and,de,C1,Nat.zero_testBit]at this;simp at this
 have ho:M.bS br (WK.wrap ((2 ^ j:Nat):Int))=some 1:=by rw[uT,Fp j hj]
 have h0:decide (al .and .i64 ((2 ^ j:Nat):Int) (m:Int)=0)=Yy:=YE ha;unfold M.gx;simp only[hx,ho,h0,WE,decide_true,Bool.not_true,W0,if_false,CA (show m<9223372036854775808 by omega) (show 2 ^ j<9223372036854775808 by omega),CA (show b<9223372036854775808 by omega) (show 2 ^ j<9223372036854775808 by omega)]
structure jU(n:Nat)(S:Nat->Prop)(l:PS):Prop where
 ok:fX l
 imp:∀p,In l p->∃m b:Nat,p=pI m b/\nh n S m b
 base:∀x,x<2 ^ n->S x->In l (pI (2 ^ n-1) x)
theorem jU.len{n:Nat}{S:Nat->Prop}{l:PS}(h:jU n S l)(hn:n<=8):l.length<=65536:=by
 have:=h.ok.len (2 ^ n) λp hp=>by
  obtain⟨m,b,e,hi⟩:=h.imp p hp;exact⟨m,b,e,hi.1,hi.lt⟩
 have h8:=ni hn;exact Xa this (Xa (Nat.mul_le_mul h8 h8) (by omega))
def Cl(n:Nat)(l:PS)(MQ:List (Int×Int)):Prop:=
 ∀m b j:Nat,j<n->m.testBit j=Yx->In l (pI m b)->In l (pI m (b ^^^ 2 ^ j))->pI m b∉MQ->pI m (b ^^^ 2 ^ j)∉MQ->In l (pI (dO m (2 ^ j)) (dO b (2 ^ j)))
def zx(n:Nat)(S:Nat->Prop)(l:PS):Prop:=fX l/\∀p,In l p↔∃m b:Nat,p=pI m b/\nh n S m b
theorem zx.J5{n:Nat}{S:Nat->Prop}{l l':PS}(h:zx n S l)(g:zx n S l'):l=l':=h.1.ext g.1 λp=>(h.2 p).trans (g.2 p).symm
theorem jU.done{n:Nat}{S:Nat->Prop}{l:PS}(h:jU n S l)(hc:Cl n l []):zx n S l:=
 ⟨h.ok,λp=>⟨h.imp p,λ⟨m,b,e,hi⟩=>by
   rw[e]
   exact zw (In:=λm b=>In l (pI m b)) h.base (λm b j hj hm h1 h2=>hc m b j hj hm h1 h2 (by simp) (by simp)) _ m b rfl hi⟩⟩
theorem jU.put{n:Nat}{S:Nat->Prop}{l:PS}(h:jU n S l){m b:Nat}(hi:nh n S m b):jU n S (mo aa l (pI m b) Yx):=
 ⟨h.ok.put _,λp hp=>by
   rcases(uX h.ok).1 hp with rfl|hp
   .exact⟨m,b,rfl,hi⟩
   .exact h.imp p hp,λx hx hS=>(uX h.ok).2 (.inr (h.base x hx hS))⟩
structure r8(n:Nat)(S:Nat->Prop)(L0:Nat)(pz rest:List (Int×Int))(m b:Nat)(j:Nat)(l:PS)(nx:List (Int×Int)):Prop where
 good:jU n S l
 levs:∀p∈pz,In l p
 nxt:∀p∈nx,In l p
 len:l.length=L0+nx.length
 cl:Cl n l (pI m b::rest++nx)
 bits:∀i,i<j->m.testBit i=Yx->In l (pI m (b ^^^ 2 ^ i))->pI m (b ^^^ 2 ^ i)∉nx->In l (pI (dO m (2 ^ i)) (dO b (2 ^ i)))
theorem r8.same{n:Nat}{S:Nat->Prop}{L0:Nat}{pz rest:List (Int×Int)}{m b j:Nat}{l:PS}{nx:List (Int×Int)}(h:r8 n S L0 pz rest m b j l nx)(hb:m.testBit j=Yx->In l (pI m (b ^^^ 2 ^ j))->In l (pI (dO m (2 ^ j)) (dO b (2 ^ j)))):
 r8 n S L0 pz rest m b (j+1) l nx:=
 ⟨h.good,h.levs,h.nxt,h.len,h.cl,λi hi hm h1 h2=>by
   rcases WU.1 hi with hi|rfl
   .exact h.bits i hi hm h1 h2
   .exact hb hm h1⟩
theorem r8.add{n:Nat}{S:Nat->Prop}{L0:Nat}{pz rest:List (Int×Int)}{m b j:Nat}{l:PS}{nx:List (Int×Int)}(h:r8 n S L0 pz rest m b j l nx)(hi:nh n S (dO m (2 ^ j)) (dO b (2 ^ j)))(hn:¬In l (pI (dO m (2 ^ j)) (dO b (2 ^ j)))):
 r8 n S L0 pz rest m b (j+1) (mo aa l (pI (dO m (2 ^ j)) (dO b (2 ^ j))) Yx) (nx++[pI (dO m (2 ^ j)) (dO b (2 ^ j))]):=by
 have hp:∀q,In (mo aa l (pI (dO m (2 ^ j)) (dO b (2 ^ j))) Yx) q↔q=pI (dO m (2 ^ j)) (dO b (2 ^ j))\/In l q:=λq=>uX h.good.ok
 refine⟨h.good.put hi,λp xD=>(hp p).2 (.inr (h.levs p xD)),λp xD=>(hp p).2 ?_,by rw[HG h.good.ok hn,h.len];simp;omega,λm' b' i gC hm h1 h2 h3 h4=>(hp _).2 ?_,λi gC hm h1 h2=>(hp _).2 ?_⟩
 .rcases WQ.1 xD with h'|h'
  .exact .inr (h.nxt p h')
  .exact .inl (WO.1 h')
 .simp only[Ye,WS,WQ,List.not_mem_nil,or_false,not_or]at h3 h4
  rcases(hp _).1 h1 with e|h1
  .exact absurd e h3.2.2.2
  .rcases(hp _).1 h2 with e|h2
   .exact absurd e h4.2.2.2
   .exact .inr (h.cl m' b' i gC hm h1 h2 (by simp only[Ye,WS,WQ,not_or];exact⟨h3.1,h3.2.1,h3.2.2.1⟩) (by simp only[Ye,WS,WQ,not_or];exact⟨h4.1,h4.2.1,h4.2.2.1⟩))
 .simp only[WQ,WO,not_or]at h2
  rcases WU.1 gC with gC|rfl
  .rcases(hp _).1 h1 with e|h1
   .exact absurd e h2.2
   .exact .inr (h.bits i gC hm h1 h2.1)
  .exact .inl rfl
theorem r8.out{n:Nat}{S:Nat->Prop}{L0:Nat}{pz rest:List (Int×Int)}{m b:Nat}{l:PS}{nx:List (Int×Int)}(h:r8 n S L0 pz rest m b n l nx):Cl n l (rest++nx):=by
 intro m' b' i hi hm h1 h2 h3 h4
 have Sb:=h3;have OT:=h4
 simp only[WQ,not_or]at h3 h4;by_cases e1:pI m' b'=pI m b
 .obtain⟨rfl,rfl⟩:=o3 e1;exact h.bits i hi hm h2 h4.2
 .by_cases e2:pI m' (b' ^^^ 2 ^ i)=pI m b
  .obtain⟨rfl,e3⟩:=o3 e2
   have e4:b'=b ^^^ 2 ^ i:=by rw[<-e3,HF]
   subst e4;rw[HE];exact h.bits i hi hm h1 h3.2
  .exact h.cl m' b' i hi hm h1 h2 (by simp only[Ye,WS,not_or];exact⟨e1,Sb⟩) (by simp only[Ye,WS,not_or];exact⟨e2,OT⟩)
theorem HI{n:Nat}{S:Nat->Prop}{m b j:Nat}(h:nh n S m b)(g:nh n S m (b ^^^ 2 ^ j)):m.testBit j=Yx:=by
 cases hb:b.testBit j with
 |true=>exact dX.1 h.2.1 j hb
 |false=>exact dX.1 g.2.1 j (by rw[Nat.testBit_xor,de,hb];simp)
theorem QY(n:Nat)(hn:n<=8)(S:Nat->Prop)(l0:PS)(h0:fX l0)(Sc:∀p,In l0 p↔∃x,x<2 ^ n/\S x/\p=pI (2 ^ n-1) x):Wp (M.dt br (n:Int) l0) (zx n S):=by
 have h8:=ni hn
 have Sd:jU n S l0:=⟨h0,λp hp=>by
  obtain⟨x,hx,hS,e⟩:=(Sc p).1 hp
  exact⟨_,x,e, .full hx hS⟩,λx hx hS=>(Sc _).2 ⟨x,hx,hS,rfl⟩⟩
 have Wq:=Sd.len hn;unfold M.dt;refine xf (λleft acc=>(∀e∈left,e∈l0)/\(∀p∈acc,In l0 p)/\(∀p,In l0 p->p∈acc\/∃e∈left,e.1=p)/\acc.length+left.length<=l0.length) (λr r' h g=>h.J5 g) (λleft acc x hx hI=>?_) (λacc hI=>?_) l0.length br l0 [] (WH _) (by unfold br;omega) ⟨λe he=>he,λp hp=>by simp at hp,λp hp=> .inr ⟨(p,Yx),(fY h0.tr).1 hp,rfl⟩,by simp⟩
 .obtain⟨h1,h2,h3,h4⟩:=hI
  have hlen:(iD aa left x.1).length<left.length:=by
   unfold iD;refine List.length_filter_lt_length_iff_exists.2 ⟨x,hx,?_⟩;rw[(gu _ _).2 rfl];simp
  have kP:∀e,e∈iD aa left x.1↔e∈left/\e.1≠x.1:=λe=>by
   unfold iD;rw[Xi,Bool.not_eq_true',gN]
  have KE:In l0 x.1:=(fY h0.tr).2 (by rw[show(x.1,Yx)=x from Prod.ext rfl (h0.tr x (h1 x hx)).symm];exact h1 x hx);refine Wp.pu (by simp;omega) ⟨λe he=>h1 e ((kP e).1 he).1,λp hp=>?_,λp hp=>?_,by simp;omega⟩
  .rcases WQ.1 hp with hp|hp
   .exact h2 p hp
   .rw[WO.1 hp];exact KE
  .by_cases e:p=x.1
   .exact .inl (List.mem_append_right _ (by rw[e];exact List.mem_singleton_self _))
   .rcases h3 p hp with h|⟨f,hf,rfl⟩
    .exact .inl (List.mem_append_left _ h)
    .exact .inr ⟨f,(kP f).2 ⟨hf,e⟩,rfl⟩
 .obtain⟨-,h2,h3,h4⟩:=hI
  refine Wp.loop (λs=>jU n S s.1/\(∀p∈s.2,In s.1 p)/\Cl n s.1 s.2/\s.2.length<=s.1.length) (λs=>2*(65536-s.1.length)+(if s.2=[]then 0 else 1)) ⟨Sd,h2,λm b j _ _ hm _ hn _=>absurd ?_ hn,by simpa using h4⟩ (by unfold br;show 2*(65536-l0.length)+(if acc=[]then 0 else 1)<_;split<;>omega) λs hs=>?_
  .rcases h3 _ hm with h|⟨e,he,_⟩
   .exact h
   .simp at he
  .obtain⟨l,pz⟩:=s;obtain⟨hg,MR,Gj,hle⟩:=hs;dsimp only at hg MR Gj hle⊢;have Km:=hg.len hn;refine .dec (λbY=>?_) (λhe=> .some ?_)
   .have BC:pz≠[]:=λe=>by subst e;simp at bY
    refine Wp.seq (λj=>jU n S j.1/\(∀p∈j.2,In j.1 p)/\Cl n j.1 j.2/\j.1.length=l.length+j.2.length) ?_ λj hj=> .some ⟨⟨hj.1,hj.2.1,hj.2.2.1,by have:=hj.2.2.2;show j.2.length<=j.1.length;omega⟩,?_⟩
    .refine Wp.count (λs=>s.1) pz.length (λk s=>jU n S s.2.1/\(∀p∈pz,In s.2.1 p)/\(∀p∈s.2.2,In s.2.1 p)/\s.2.1.length=l.length+s.2.2.length/\Cl n s.2.1 (pz.drop k++s.2.2)) (by omega) rfl ⟨hg,MR,λp hp=>by simp at hp,by simp,by simpa using Gj⟩ λk s hk hs hJ=>?_
     obtain⟨i,l1,nx⟩:=s;obtain⟨g1,g2,g3,g4,g5⟩:=hJ;dsimp only at hs g1 g2 g3 g4 g5⊢;subst hs;refine .dec (λav=>?_) (λhge=> .some ?_)
     .have av:k<pz.length:=by omega
      refine Wp.seq (λj=>jU n S j.1/\(∀p∈pz,In j.1 p)/\(∀p∈j.2,In j.1 p)/\j.1.length=l.length+j.2.length/\Cl n j.1 (pz.drop (k+1)++j.2)) (.bind (.idx k rfl av ?_)) λj hj=> .some ⟨av,aH (by omega),hj⟩
      obtain⟨m,b,hp,hi⟩:=g1.imp _ (g2 pz[k] (WW av));rw[Xm av]at g5;rw[hp]at g5⊢;have hm:=hi.1;have hb:=hi.lt
      refine Wp.count (λs=>s.1) n (λj s=>r8 n S l.length pz (pz.drop (k+1)) m b j s.2.1 s.2.2) (by omega) rfl ⟨g1,g2,g3,g4,g5,λi hi=>absurd hi (by omega)⟩ λj s hj hs hB=>?_
      obtain⟨jj,l2,ny⟩:=s;dsimp only at hs hB⊢;subst hs;refine .dec (λJk=>?_) (λhge=> .some ?_)
      .have NH:j<8:=by omega
       have hx:al .xor .i64 (b:Int) ((2 ^ j:Nat):Int)=((b ^^^ 2 ^ j:Nat):Int):=MN (by omega) (by have:=uZ NH;omega)
       refine Wp.seq (λq=>r8 n S l.length pz (pz.drop (k+1)) m b (j+1) q.1 q.2) (.ba (iq (by omega)) ?_) λq hq=> .some ⟨by omega,aH (by omega),hq⟩
       rw[hx];refine .ite (λxz=> .some (hB.same λ_ h=>?_)) (λQZ=>?_)
       .rw[show(aT aa l2 (pI m (b ^^^ 2 ^ j))).getD Yy=Yx from h]at xz;cases xz
       .have bF:In l2 (pI m (b ^^^ 2 ^ j)):=by simpa[In]using QZ
        obtain⟨m',b',e,gC⟩:=hB.good.imp _ bF;obtain⟨rfl,rfl⟩:=o3 e;have C1:=HI hi gC;have Vl:=hi.merge gC C1;refine .ba (Fq (by omega) (by omega) NH C1) ?_;by_cases qv:In l2 (pI (dO m (2 ^ j)) (dO b (2 ^ j)))
        .have e:(aT aa l2 (pI (dO m (2 ^ j)) (dO b (2 ^ j)))).getD Yy=Yx:=qv;simp only[if_true,e,Bool.not_true,WE,W0,if_false];exact .some (hB.same λ_ _=>qv)
        .have e:(aT aa l2 (pI (dO m (2 ^ j)) (dO b (2 ^ j)))).getD Yy=Yy:=by simpa[In]using qv
         simp only[if_true,e,Bool.not_false,WE];have MS:=hB.good.len hn;refine .bind (.pu (by have:=hB.len;simp;omega) (.some (hB.add Vl qv)))
      .have:j=n:=by omega
       subst this;exact⟨hB.good,hB.levs,hB.nxt,hB.len,hB.out⟩
     .have:k=pz.length:=by omega
      subst this;rw[List.drop_length]at g5;exact⟨g1,g3,g5,g4⟩
    .have h5:=hj.1.len hn;have h6:=hj.2.2.2
     show 2*(65536-j.1.length)+(if j.2=[]then 0 else 1)<2*(65536-l.length)+(if pz=[]then 0 else 1)
     rw[YA BC];split
     .omega
     .rename_i h7;have:0<j.2.length:=List.length_pos_iff.2 h7;omega
   .have:pz=[]:=List.eq_nil_of_length_eq_zero (by have:¬(0:Int)<(pz.length:Int):=he;omega);subst this;exact hg.done Gj
end L
namespace L
def zy(n:Nat)(S:Nat->Prop)(m b:Nat):Prop:=nh n S m b/\∀j,j<n->m.testBit j=Yx->¬nh n S (dO m (2 ^ j)) (dO b (2 ^ j))
theorem kU.trans{x y z:Int×Int}(h:kU x y)(g:kU y z):kU x z:=by unfold kU at*;omega
theorem kU.irrefl(x:Int×Int):¬kU x x:=by unfold kU;omega
theorem kU.total{x y:Int×Int}(h:¬kU y x)(g:x≠y):kU x y:=by
 have g:¬(x.1=y.1/\x.2=y.2):=λe=>g (Prod.ext e.1 e.2)
 have h1:x.1=y.1->dK x.1=dK y.1:=λe=>by rw[e]
 unfold kU at*;omega
theorem pA{l m:List (Int×Int)}(h:l.Pairwise kU)(g:m.Pairwise kU)(e:∀p,p∈l↔p∈m):l=m:=by
 have yi:∀{l:List (Int×Int)},l.Pairwise kU->l.Nodup:=λh=>h.imp λg e=>by subst e;exact kU.irrefl _ g
 exact List.Perm.eq_of_pairwise (le:=kU) (λa b _ _ h1 h2=>absurd (h1.trans h2) (kU.irrefl _)) h g ((List.perm_ext_iff_of_nodup (yi h) (yi g)).2 e)
theorem Fs{l:List aa.den}(hl:l.length<4611686018427387904)(hn:l.Nodup):Wp (M.aG br l) λr=>r.Pairwise kU/\∀p,p∈r↔p∈l:=by
 unfold M.aG th;rw[YB ⟨MO,hl⟩];refine .some ?_;generalize hg:Xv (kR λa b c d=>M.bE br (a,b) (c,d))=lt
 have av:∀x y:Int×Int,lt x y=Yx↔kU x y:=λx y=>by rw[<-hg];exact uU x y
 have NI:∀x y:Int×Int,(!lt x y)=Yx↔¬kU x y:=λx y=>by rw[<-av];simp
 have hp:=List.pairwise_mergeSort (le:=λx y:Int×Int=> !lt y x) (λa b c h1 h2=>by
  rw[NI]at h1 h2⊢
  unfold kU at*;omega) (λa b=>by
  rw[Bool.or_eq_true,NI,NI]
  unfold kU;omega) l
 have hm:∀p,p∈l.mergeSort (λx y:Int×Int=> !lt y x)↔p∈l:=λp=>List.mem_mergeSort
 refine⟨?_,hm⟩;have Dw:(l.mergeSort (λx y:Int×Int=> !lt y x)).Nodup:=(List.mergeSort_perm l _).symm.nodup hn
 exact(hp.and Dw).imp λ⟨h1,h2⟩=>kU.total ((NI _ _).1 h1) h2
def Ft(n:Nat)(S:Nat->Prop)(l:PS)(r:PS×List aa.den):Prop:=r.1=l/\r.2.Pairwise kU/\∀p,p∈r.2↔∃m b:Nat,p=pI m b/\zy n S m b
theorem Ft.J5{n:Nat}{S:Nat->Prop}{l:PS}{r r':PS×List aa.den}(h:Ft n S l r)(g:Ft n S l r'):r=r':=
 Prod.ext (h.1.trans g.1.symm) (pA h.2.1 g.2.1 λp=>(h.2.2 p).trans (g.2.2 p).symm)
theorem HJ{m j:Nat}(h:m.testBit j=Yx):dO m (2 ^ j)≠m:=λe=>by
 have:(dO m (2 ^ j)).testBit j=Yy:=by rw[bB,de];simp
 rw[e,h]at this;cases this
theorem CB(n:Nat)(hn:n<=8)(S:Nat->Prop)(l:PS)(h:zx n S l):Wp (M.eB br (n:Int) l) (Ft n S l):=by
 have h8:=ni hn
 have hlen:l.length<=65536:=by
  have:=h.1.len (2 ^ n) λp hp=>by
   obtain⟨m,b,e,hi⟩:=(h.2 p).1 hp;exact⟨m,b,e,hi.1,hi.lt⟩
  exact Xa this (Xa (Nat.mul_le_mul h8 h8) (by omega))
 unfold M.eB
 refine xf (λleft acc=>(∀e∈left,e∈l)/\acc.Nodup/\(∀p∈acc,∃m b:Nat,p=pI m b/\zy n S m b)/\(∀m b:Nat,zy n S m b->pI m b∈acc\/∃e∈left,e.1=pI m b)/\(∀p∈acc,∀e∈left,e.1≠p)/\acc.length+left.length<=l.length)
  (λr r' h g=>h.J5 g) (λleft acc x hx hI=>?_) (λacc hI=>?_) l.length br l [] (WH _) (by unfold br;omega) ⟨λe he=>he,List.nodup_nil,λp hp=>by simp at hp,λm b hp=> .inr ⟨(pI m b,Yx),(fY h.1.tr).1 ((h.2 _).2 ⟨m,b,rfl,hp.1⟩),rfl⟩,λp hp=>by simp at hp,by simp⟩
 .obtain⟨h1,h2,h3,h4,h5,h6⟩:=hI
  have MS:(iD aa left x.1).length<left.length:=by
   unfold iD;refine List.length_filter_lt_length_iff_exists.2 ⟨x,hx,?_⟩;rw[(gu _ _).2 rfl];simp
  have kP:∀e,e∈iD aa left x.1↔e∈left/\e.1≠x.1:=λe=>by
   unfold iD;rw[Xi,Bool.not_eq_true',gN]
  have KE:In l x.1:=(fY h.1.tr).2 (by rw[show(x.1,Yx)=x from Prod.ext rfl (h.1.tr x (h1 x hx)).symm];exact h1 x hx);obtain⟨m,b,hp,hi⟩:=(h.2 _).1 KE;have hm:=hi.1;have hb:=hi.lt
  refine Wp.seq (λj=>j=Yx↔zy n S m b) ?_ λj hj=>?_
  .refine Wp.count (λs=>s.2) n (λj s=>s.1=Yx↔∀i,i<j->m.testBit i=Yx->¬nh n S (dO m (2 ^ i)) (dO b (2 ^ i))) (by omega) rfl ⟨λ_ i hi=>absurd hi (by omega),λ_=>rfl⟩ λj s hj hs hJ=>?_
   obtain⟨v,jj⟩:=s;dsimp only at hs hJ⊢;subst hs;refine .dec (λav=>?_) (λhge=> .some ?_)
   .have NH:j<8:=by omega
    have Wr:=uZ NH
    refine Wp.seq (λq=>q=Yx↔∀i,i<j+1->m.testBit i=Yx->¬nh n S (dO m (2 ^ i)) (dO b (2 ^ i))) (.ba (iq (by omega)) (.ba (iq (by omega)) ?_)) λq hq=> .some ⟨by omega,aH (by omega),hq⟩
    have e1:al .andNot .i64 x.1.1 ((2 ^ j:Nat):Int)=(dO m (2 ^ j):Nat):=by rw[hp];exact CA (by omega) (by omega)
    have e2:al .andNot .i64 x.1.2 ((2 ^ j:Nat):Int)=(dO b (2 ^ j):Nat):=by rw[hp];exact CA (by omega) (by omega)
    rw[e1,e2,hp];have e3:(aT aa l (pI (dO m (2 ^ j)) (dO b (2 ^ j)))).getD Yy=Yx↔nh n S (dO m (2 ^ j)) (dO b (2 ^ j)):=(h.2 _).trans ⟨λ⟨m',b',e,gC⟩=>by obtain⟨rfl,rfl⟩:=o3 e;exact gC,λgC=>⟨_,_,rfl,gC⟩⟩
    have step:∀t:Bool,(t=Yx↔(m.testBit j=Yx/\nh n S (dO m (2 ^ j)) (dO b (2 ^ j))))->Wp (if t=Yx then some Yy else some v) λq=>q=Yx↔∀i,i<j+1->m.testBit i=Yx->¬nh n S (dO m (2 ^ i)) (dO b (2 ^ i)):=λt ht=>by
     refine .ite (λh1=> .some ⟨λh2=>by(cases h2),λh2=>absurd (ht.1 h1).2 (h2 j (by omega) (ht.1 h1).1)⟩) (λh1=> .some (hJ.trans ⟨λh2 i gC=>?_,λh2 i gC=>h2 i (by omega)⟩))
     rcases WU.1 gC with gC|rfl
     .exact h2 i gC
     .exact λh3 h4=>h1 (ht.2 ⟨h3,h4⟩)
    by_cases C1:m.testBit j=Yx
    .have e4:jY aa (pI (dO m (2 ^ j)) (dO b (2 ^ j))) (pI m b)=Yy:=od.2 λe=>HJ C1 (o3 e).1
     refine Wp.seq (λt=>t=Yx↔(m.testBit j=Yx/\nh n S (dO m (2 ^ j)) (dO b (2 ^ j)))) ?_ step;rw[show jY aa (((dO m (2 ^ j):Nat):Int),((dO b (2 ^ j):Nat):Int)) (pI m b)=Yy from e4];exact .some ⟨λh=>⟨C1,e3.1 h⟩,λh=>e3.2 h.2⟩
    .have Q0:m.testBit j=Yy:=by simpa using C1
     have Vm:b.testBit j=Yy:=by
      cases e:b.testBit j with
      |false=>rfl
      |true=>exact absurd (dX.1 hi.2.1 j e) C1
     have e4:jY aa (pI (dO m (2 ^ j)) (dO b (2 ^ j))) (pI m b)=Yx:=pV.2 (by rw[rn Q0,rn Vm]);refine Wp.seq (λt=>t=Yx↔(m.testBit j=Yx/\nh n S (dO m (2 ^ j)) (dO b (2 ^ j)))) ?_ step;rw[show jY aa (((dO m (2 ^ j):Nat):Int),((dO b (2 ^ j):Nat):Int)) (pI m b)=Yx from e4];exact .some ⟨λh=>(by cases h),λh=>absurd h.1 C1⟩
   .have:j=n:=by omega
    subst this;exact hJ.trans ⟨λh=>⟨hi,h⟩,λh=>h.2⟩
  .have Se:∀u0:List aa.den,(∀p,p∈u0↔p∈acc\/p=x.1/\j=Yx)->u0.Nodup->u0.length<=acc.length+1->(∀e∈iD aa left x.1,e∈l)/\u0.Nodup/\(∀p∈u0,∃m b:Nat,p=pI m b/\zy n S m b)/\(∀m b:Nat,zy n S m b->pI m b∈u0\/∃e∈iD aa left x.1,e.1=pI m b)/\(∀p∈u0,∀e∈iD aa left x.1,e.1≠p)/\u0.length+(iD aa left x.1).length<=l.length:=λu0 hc yi hl=>by
    refine⟨λe he=>h1 e ((kP e).1 he).1,yi,λp xD=>?_,λm' b' xD=>?_,λp xD e he=>?_,by omega⟩
    .rcases(hc p).1 xD with xD|⟨rfl,Fu⟩
     .exact h3 p xD
     .exact⟨m,b,hp,hj.1 Fu⟩
    .rcases h4 m' b' xD with g|⟨e,he,g⟩
     .exact .inl ((hc _).2 (.inl g))
     .by_cases g2:e.1=x.1
      .refine .inl ((hc _).2 (.inr ⟨g.symm.trans g2,hj.2 ?_⟩));obtain⟨rfl,rfl⟩:=o3 (g.symm.trans (g2.trans hp));exact xD
      .exact .inr ⟨e,(kP e).2 ⟨he,g2⟩,g⟩
    .obtain⟨Vn,EC⟩:=(kP e).1 he
     rcases(hc p).1 xD with xD|⟨rfl,_⟩
     .exact h5 p xD e Vn
     .exact EC
   refine .ite (λFu=> .bind (.pu (by simp;omega) (.some (Se _ (λp=>by rw[WQ,WO];simp[Fu]) ?_ (by simp))))) (λJ6=> .some (Se _ (λp=>by simp[J6]) h2 (show acc.length<=acc.length+1 by omega)));refine List.nodup_append.2 ⟨h2,by simp,λa ha c hc e=>?_⟩;rw[WO]at hc;exact h5 a ha x hx (by rw[e,hc])
 .obtain⟨-,h2,h3,h4,-,h6⟩:=hI
  refine Wp.seq (λr=>r.Pairwise kU/\∀p,p∈r↔p∈acc) (Fs (by show acc.length<_;simp at h6;omega) h2) λr hr=> .some ⟨rfl,hr.1,λp=>(hr.2 p).trans ⟨h3 p,λ⟨m,b,e,hp⟩=>?_⟩⟩
  rcases h4 m b hp with g|⟨e',he,_⟩
  .rw[e];exact g
  .simp at he
end L
end Go.Proofs.YtbladfbbhijpmaaGreat
