/- Joined texts: Wq PV PT KD KE PT2 KM KM2 KM3 KB KT PT3. -/
import Derived.Test.YtfjgcenlllgonaaGreatDoorU7
import Derived.Test.YtfjgcenlllgonaaGreatDoorU4
import Derived.Test.YtfjgcenlllgonaaGreatDoorU1
import Derived.Lib.Mul64
import Derived.Laws.Bits64b
set_option linter.defProp false
open _root_.Bool renaming false->ah,true->af,eq_iff_iff->arB,false_eq_true->aqM,not_true->ari,and_eq_true->arV
open _root_.Option renaming some->aa,bind_some->aqI,bind->aqH,some->asp
open _root_.Int renaming reduceEq->arZ,tdiv->aqW,natCast_mul->arx,tdiv_eq_ediv_of_nonneg->aq0,tmod->aqY,tmod_eq_emod_of_nonneg->aq3,lt_or_le->asi,mul_le_mul_of_nonneg_right->ar6,le_refl->arO
open _root_.Go.IntKind renaming i64->aqJ,bits->ase,u64->aqP
open _root_.List renaming drop_eq_getElem_cons->aq6,getElem?_eq_getElem->aqK,range->arK,getElem_mem->aqN
open _root_.Nat renaming zero_le->aq2,beq->aqU,div_div_eq_div_mul->asn,div_lt_iff_lt_mul->arq,mul_comm->aru,mul_le_mul_right->aq4,pow_add->ash,add_mul->aro,div_add_mod->arT,mod_lt->arW,div_le_self->arU,lt_of_lt_of_le->ars,zero_add->arl
open _root_.Sum renaming inl->arj,inr->arc
open _root_.Option.some renaming inj->aqL
section
open _root_.Bool renaming false->ah,true->af,false_eq_true->aqM,not_true->ari
open _root_.Option renaming none->ae,some->aa,bind_none->asc,bind_some->aqI,some->asp
open _root_.Classical renaming not_not->arX
open _root_.Go.IntKind renaming i64->aqJ
open _root_.List renaming replicate->aqO,take_length->ara
open _root_.Nat renaming zero_le->aq2
open _root_.Sum renaming inr->arc
namespace Go.Proofs.YtfjgcenlllgonaaGreatDoor
open Go Go.RowKit
def Wp{α:Type}(m:Option α)(Q:α->Prop):Prop:=∃x,m=aa x/\Q x
def Wp.some{α:Type}{x:α}{Q:α->Prop}(h:Q x):Wp (aa x) Q:=⟨x,rfl,h⟩
theorem Wp.of{α:Type}{m:Option α}{x:α}{Q:α->Prop}(e:m=asp x)(h:Q x):Wp m Q:=⟨x,e,h⟩
def Wp.eq{α:Type}{m:Option α}{x:α}(h:Wp m (· =x)):m=asp x:=by obtain⟨y,e,rfl⟩:=h;exact e
def Wp.mono{α:Type}{m:Option α}{Q Q':α->Prop}(h:Wp m Q)(hq:∀x,Q x->Q' x):Wp m Q':=by obtain⟨x,e,h⟩:=h;exact⟨x,e,hq x h⟩
def Wp.bind{α β:Type}{m:Option α}{k:α->Option β}{Q:β->Prop}(h:Wp m λx=>Wp (k x) Q):Wp (m.bind k) Q:=by
 obtain⟨x,e,h⟩:=h;rw[e];exact h
def Wp.Qz{α β:Type}{m:Option α}{k:α->Option β}{Q:β->Prop}{x:α}(e:m=asp x)(h:Wp (k x) Q):Wp (m.bind k) Q:=by
 rw[e];exact h
def Wp.seq{α β:Type}{m:Option α}{k:α->Option β}{Q:β->Prop}(A:α->Prop)(h:Wp m A)(hk:∀x,A x->Wp (k x) Q):Wp (m.bind k) Q:= .bind (h.mono hk)
def Wp.ite{α:Type}{c:Prop}[Decidable c]{a b:Option α}{Q:α->Prop}(ha:c->Wp a Q)(hb:¬c->Wp b Q):Wp (if c then a else b) Q:=by
 grind
def Wp.dec{α:Type}{c:Prop}[Decidable c]{a b:Option α}{Q:α->Prop}(ha:c->Wp a Q)(hb:¬c->Wp b Q):Wp (if decide c=af then a else b) Q:=by
 grind
def Wp.mO{α:Type}{c:Prop}[Decidable c]{a b:Option α}{Q:α->Prop}(ha:¬c->Wp a Q)(hb:c->Wp b Q):Wp (if(!decide c)=af then a else b) Q:=by
 grind
def vZ{J R:Type}(k:J->Option R)(Q:R->Prop):J⊕R->Prop
 | .inl j=>Wp (k j) Q
 | .inr r=>Q r
def Wp.join{J R:Type}{m:Option (J⊕R)}{k:J->Option R}{Q:R->Prop}(h:Wp m (vZ k Q)):Wp (bK m k) Q:=by
 obtain⟨x,e,h⟩:=h;unfold bK;rw[e]
 cases x with
 |inl j=>exact h
 |inr r=>exact⟨r,rfl,h⟩
def Cy{S X:Type}(I:S->Prop)(μ:S->Nat)(s:S)(Q:X->Prop):S⊕X->Prop
 | .inl s'=>I s'/\μ s'<μ s
 | .inr x=>Q x
def Wp.loop{S X:Type}{body:S->Option (S⊕X)}{N:Nat}{s0:S}{Q:X->Prop}(I:S->Prop)(μ:S->Nat)(h0:I s0)(hN:μ s0<N)(step:∀s,I s->Wp (body s) (Cy I μ s Q)):Wp (Loop body N s0) Q:=
 xy I μ Q (λs hs=>by
  obtain⟨x,e,h⟩:=step s hs
  cases x with
  |inl s'=>exact .inl ⟨s',e,h⟩
  |inr x=>exact .inr ⟨x,e,h⟩) N s0 h0 hN
theorem Wp.idx{α:Type}{l:List α}{i:Int}{Q:α->Prop}(k:Nat)(hi:i=k)(hk:k<l.length)(h:Q l[k]):Wp (idx l i) Q:=by
 subst hi;exact⟨_,aF hk,h⟩
def Wp.KT{α:Type}{l m:List α}{Q:List α->Prop}(hl:l.length+m.length<=4294967296)(h:Q (l++m)):Wp (cf l m) Q:=⟨_,br hl,h⟩
def pA{α:Type}{l:List α}{i j:Int}(a b:Nat)(hi:i=a)(hj:j=b)(h:a<=b)(hb:b<=l.length):gD l i j=asp ((l.take b).drop a):=by
 grind [gD]
def jC{α:Type}{l:List α}{b:Nat}(hb:b<=l.length):gD l 0 (b:Int)=asp (l.take b):=by
 have:=pA (l:=l) 0 b rfl rfl (aq2 _) hb
 grind
def aU{k:Nat}(h:k<9223372036854775807):aqJ.wrap ((k:Int)+1)=((k+1:Nat):Int):=by rw[aH]<;>omega
def Gi{k:Nat}(h:k<=9223372036854775807):aqJ.wrap (k:Int)=(k:Int):=by rw[aH]<;>omega
end Go.Proofs.YtfjgcenlllgonaaGreatDoor
namespace Go.Proofs.YtfjgcenlllgonaaGreatDoor
open Go Go.RowKit
section
variable {α β:Type}
theorem mG{x:α}{Q:α->Prop}:Wp (aa x) Q↔Q x:=⟨λ⟨y,e,h⟩=>by grind,λh=>⟨x,rfl,h⟩⟩
theorem v7{Q:α->Prop}:Wp (ae:Option α) Q↔False:=⟨λ⟨y,e,h⟩=>(by cases e),False.elim⟩
def wp_bind{m:Option α}{k:α->Option β}{Q:β->Prop}:Wp (m.bind k) Q↔Wp m λx=>Wp (k x) Q:=by
 cases m with
 |none=>simp only[asc,v7]
 |some x=>simp only[aqI,mG]
def QA{c:Prop}[Decidable c]{a b:Option α}{Q:α->Prop}:Wp (if c then a else b) Q↔(c->Wp a Q)/\(¬c->Wp b Q):=by
 grind
def QB{c:Prop}[Decidable c]{a b:Option α}{Q:α->Prop}:Wp (if decide c=af then a else b) Q↔(c->Wp a Q)/\(¬c->Wp b Q):=by
 grind
def KU{c:Prop}[Decidable c]{a b:Option α}{Q:α->Prop}:Wp (if(!decide c)=af then a else b) Q↔(¬c->Wp a Q)/\(c->Wp b Q):=by
 grind
def QC{c:Bool}{a b:Option α}{Q:α->Prop}:Wp (if(!c)=af then a else b) Q↔(c=ah->Wp a Q)/\(c=af->Wp b Q):=by
 grind
def wp_map{m:Option α}{f:α->β}{Q:β->Prop}:Wp (m.map f) Q↔Wp m λx=>Q (f x):=by
 cases m with
 |none=>simp only[Option.map_none,v7]
 |some x=>simp only[Option.map_some,mG]
def za{J R:Type}{m:Option (J⊕R)}{k:J->Option R}{Q:R->Prop}:Wp (bK m k) Q↔Wp m (vZ k Q):=by
 cases m with
 |none=>exact⟨λ⟨_,e,_⟩=>(by cases e),λ⟨_,e,_⟩=>(by cases e)⟩
 |some s=>cases s with
  |inl j=>rw[mG];exact Iff.rfl
  |inr r=>exact(mG (x:=r)).trans (mG (x:=arc r) (Q:=vZ k Q)).symm
def Cz{J R:Type}{k:J->Option R}{Q:R->Prop}{j:J}:vZ k Q (.inl j)=Wp (k j) Q:=rfl
def CA{J R:Type}{k:J->Option R}{Q:R->Prop}{r:R}:vZ k Q (.inr r)=Q r:=rfl
theorem eZ{l:List α}{i:Int}{Q:α->Prop}:Wp (idx l i) Q↔∃h:0<=i/\i<(l.length:Int),Q (l[i.toNat]'(by omega)):=by
 by_cases h:0<=i/\i<(l.length:Int)
 .grind [idx,mG]
 .refine⟨λ⟨y,e,_⟩=>?_,λg=>absurd g.1 h⟩
  grind [jX]
def qv{s:ByteArray}{i:Int}{Q:Int->Prop}:Wp (lP s i) Q↔∃h:0<=i/\i<(s.size:Int),Q ((s[i.toNat]'(by omega)).toNat:Int):=by
 unfold lP;rw[wp_map];by_cases h:0<=i/\i<(s.size:Int)
 .grind [mG]
 .refine⟨λ⟨y,e,_⟩=>?_,λg=>absurd g.1 h⟩
  grind
theorem lZ{l m:List α}{Q:List α->Prop}:Wp (cf l m) Q↔l.length+m.length<=4294967296/\Q (l++m):=by
 grind [cf,mG,v7]
def wp_cut{l:List α}{i j:Int}{Q:List α->Prop}:Wp (gD l i j) Q↔(0<=i/\i<=j/\j<=l.length)/\Q ((l.take j.toNat).drop i.toNat):=by
 grind [gD,mG,v7]
def sY{m:Int}{z:α}{Q:List α->Prop}:Wp (ol m z) Q↔(0<=m/\m<=4294967296)/\Q (aqO m.toNat z):=by
 grind [ol,mG,v7]
def QD{m:Option α}{x:α}:Wp m (· =x)↔m=aa x:=⟨λ⟨_,e,h⟩=>h▸e,λe=>⟨x,e,rfl⟩⟩
def Wp.getD{m:Option α}{Q:α->Prop}(h:Wp m Q)(d:α):m=asp (m.getD d)/\Q (m.getD d):=by
 obtain⟨x,e,h⟩:=h
 grind
end
def Jl{S X:Type}(Af:S->Int)(m k:Nat)(J:Nat->S->Prop)(Q:X->Prop):S⊕X->Prop
 | .inl s=>k<m/\Af s=((k+1:Nat):Int)/\J (k+1) s
 | .inr x=>Q x
def aS{S X:Type}{Af:S->Int}{m k:Nat}{J:Nat->S->Prop}{Q:X->Prop}{s:S}:Jl Af m k J Q (.inl s)=(k<m/\Af s=((k+1:Nat):Int)/\J (k+1) s):=rfl
def aR{S X:Type}{Af:S->Int}{m k:Nat}{J:Nat->S->Prop}{Q:X->Prop}{x:X}:Jl Af m k J Q (.inr x)=Q x:=rfl
def Wp.count{S X:Type}{body:S->Option (S⊕X)}{s0:S}{Q:X->Prop}(Af:S->Int)(m:Nat)(J:Nat->S->Prop)(hm:m<=9223372036854775807)(h0:Af s0=0)(hJ:J 0 s0)
 (step:∀k s,k<=m->Af s=(k:Int)->J k s->Wp (body s) (Jl Af m k J Q)):Wp (Loop body aJ s0) Q:=by
 refine Wp.loop (λs=>∃k:Nat,Af s=k/\k<=m/\J k s) (λs=>m-(Af s).toNat) ⟨0,h0,aq2 _,hJ⟩ (by unfold aJ;omega) λs hs=>?_
 obtain⟨k,hi,hk,hj⟩:=hs
 refine(step k s hk hi hj).mono λr hr=>?_
 cases r with
 |inl s'=>
  obtain⟨h1,h2,h3⟩:=hr;exact⟨⟨k+1,h2,h1,h3⟩,by grind⟩
 |inr x=>exact hr
def bF{k:Nat}{m:Nat}(hm:m<=9223372036854775807)(h:k<m):aqJ.wrap ((k:Int)+1)=((k+1:Nat):Int):=aU (by omega)
def jm{k m:Nat}(h:k<m):decide ((k:Int)<(m:Int))=af:=au (by omega)
def sZ{k m:Nat}(h:k<m):((k:Int)<(m:Int))=True:=eq_true (by omega)
def jD{m:Nat}:((m:Int)<(m:Int))=False:=eq_false (by omega)
def dp{α:Type}(f:Nat->Option α):Nat->Option α
 |0=>ae
 |m+1=>(dp f m).or (f m)
theorem bZ{α:Type}{f:Nat->Option α}:∀{m:Nat},dp f m=ae↔∀k,k<m->f k=ae
 |0=>by simp[dp]
 |m+1=>by
  rw[dp,Option.or_eq_none_iff,bZ]
  grind
theorem gS{α:Type}{f:Nat->Option α}{x:α}:∀{m:Nat},dp f m=aa x->∃k,k<m/\f k=aa x/\∀j,j<k->f j=ae
 |0,h=>by cases h
 |m+1,h=>by
  rw[dp]at h
  cases e:dp f m with
  |none=>grind [bZ]
  |some y=>
   rw[e]at h;cases h;obtain⟨k,hk,h1,h2⟩:=gS e
   grind
theorem dh{α:Type}{f:Nat->Option α}{x:α}{k:Nat}(hx:f k=aa x)(hn:∀j,j<k->f j=ae):∀{m:Nat},k<m->dp f m=aa x
 |0,h=>by omega
 |m+1,h=>by
  rw[dp]
  rcases Nat.lt_succ_iff_lt_or_eq.1 h with h1|rfl
  .rw[dh hx hn h1];rfl
  .rw[bZ.2 hn];exact hx
def Wg{S X C:Type}(Af:S->Int)(acc:S->C)(k:Nat)(c:C)(I:Nat->C->Prop):S⊕X->Prop
 | .inl s=>Af s=((k+1:Nat):Int)/\acc s=c/\I (k+1) c
 | .inr _=>False
def Wh{S X:Type}(Q:X->Prop):S⊕X->Prop
 | .inl _=>False
 | .inr x=>Q x
def n9{S X C:Type}{Af:S->Int}{acc:S->C}{k:Nat}{c:C}{I:Nat->C->Prop}{s:S}:Wg (X:=X) Af acc k c I (.inl s)=(Af s=((k+1:Nat):Int)/\acc s=c/\I (k+1) c):=rfl
def oa{S X:Type}{Q:X->Prop}{x:X}:Wh (S:=S) Q (.inr x)=Q x:=rfl
def Wp.fold{S X C α:Type}{body:S->Option (S⊕X)}{s0:S}{Q:X->Prop}(Af:S->Int)(acc:S->C)(l:List α)(F:C->α->C)(c0:C)(I:Nat->C->Prop)(hm:l.length<=9223372036854775807)(h0:Af s0=0)(hc:acc s0=c0)(hI:I 0 c0)
 (step:∀k s(h:k<l.length),Af s=(k:Int)->I k (acc s)->Wp (body s) (Wg Af acc k (F (acc s) l[k]) I))
 (fin:∀s,Af s=(l.length:Int)->acc s=l.foldl F c0->I l.length (acc s)->Wp (body s) (Wh Q)):Wp (Loop body aJ s0) Q:=by
 refine Wp.count Af l.length (λk s=>acc s=(l.take k).foldl F c0/\I k (acc s)) hm h0 ⟨by rw[hc];rfl,hc▸hI⟩ λk s hk hs hJ=>?_
 rcases Nat.lt_or_ge k l.length with aI|hge
 .refine(step k s aI hs hJ.2).mono λr hr=>?_
  cases r with
  |inl s'=>
   obtain⟨h1,h2,h3⟩:=hr;refine⟨aI,h1,?_,h2▸h3⟩
   grind [List.take_append_getElem]
  |inr x=>exact hr.elim
 .obtain rfl:k=l.length:=by omega
  rw[ara]at hJ
  refine(fin s hs hJ.1 hJ.2).mono λr hr=>?_
  cases r with
  |inl s'=>exact hr.elim
  |inr x=>exact hr
def W_:type_of% @arX/\type_of% @mG/\type_of% @wp_bind/\type_of% @QB/\type_of% @KU/\type_of% @QC/\type_of% @QA/\type_of% @za/\type_of% @Cz/\type_of% @CA/\type_of% @if_true.{1}/\type_of% @if_false.{1}/\type_of% @ite_true.{1}/\type_of% @ite_false.{1}/\type_of% @aqM/\type_of% @Bool.true_eq_false/\type_of% @decide_true/\type_of% @decide_false/\type_of% @decide_eq_decide/\type_of% @true_eq_decide_iff/\type_of% @false_eq_decide_iff/\type_of% @az/\type_of% @aB/\type_of% @true_implies/\type_of% @false_implies/\type_of% @and_true/\type_of% @true_and/\type_of% @and_false/\type_of% @false_and/\type_of% @or_true/\type_of% @true_or/\type_of% @or_false/\type_of% @false_or/\type_of% @not_true_eq_false/\type_of% @not_false_eq_true/\type_of% @ari/\type_of% @Bool.not_false/\type_of% @Bool.not_eq_true/\type_of% @Bool.not_eq_false/\type_of% @Bool.not_eq_eq_eq_not:=
 ⟨@arX,@mG,@wp_bind,@QB,@KU,@QC,@QA,@za,@Cz,@CA,@if_true.{1},@if_false.{1},@ite_true.{1},@ite_false.{1},@aqM,@Bool.true_eq_false,@decide_true,@decide_false,@decide_eq_decide,@true_eq_decide_iff,@false_eq_decide_iff,@az,@aB,@true_implies,@false_implies,@and_true,@true_and,@and_false,@false_and,@or_true,@true_or,@or_false,@false_or,@not_true_eq_false,@not_false_eq_true,@ari,@Bool.not_false,@Bool.not_eq_true,@Bool.not_eq_false,@Bool.not_eq_eq_eq_not⟩
end Go.Proofs.YtfjgcenlllgonaaGreatDoor
end
namespace Go.Proofs.YtfjgcenlllgonaaGreatDoor
open Go Go.RowKit
set_option maxRecDepth 100000
set_option linter.unusedSimpArgs false
set_option linter.unusedVariables false
set_option linter.defProp false
namespace L.P
abbrev Vl:Type:=aE.den
abbrev Ty:Type:=aD.den
def aQ{α:Type}{c:Prop}[Decidable c]{a b:α}:(if c then aa a else aa b)=aa (if c then a else b):=by split<;>rfl
def l4(a b:Bool):(if a=af then af else b)=(a||b):=by cases a<;>rfl
def kj(a b:Bool):(if a=af then b else ah)=(a&&b):=by cases a<;>rfl
def bD(k e n:Int):Prop:=
 (k=1/\e=0/\0<=n/\n<=1)\/(k=2/\e=0/\-1000000000000<=n/\n<=1000000000000)\/(k=3/\e=0/\-1000000000000000<=n/\n<=1000000000000000)\/
 (k=4/\e=0/\-1000000000<=n/\n<=1000000000)\/(k=5/\e=0/\0<=n/\n<=109572)\/(k=6/\0<=e/\e<=7/\0<=n/\n<=15)
instance(k e n:Int):Decidable (bD k e n):=by unfold bD;infer_instance
theorem cH(N:Nat)(v:Vl):M.du N v=aa (decide (bD v.1 v.2.1 v.2.2)):=by
 revert v;rintro⟨(k:Int),(e:Int),(n:Int)⟩
 unfold M.du;simp only[aQ,aqI,l4,kj];refine ay aa ?_;by_cases h1:k=1
 .subst h1;rw[arB];simp[bD];grind
 by_cases h2:k=2
 .grind [P.bD]
 by_cases h3:k=3
 .grind [P.bD]
 by_cases h4:k=4
 .grind [P.bD]
 by_cases h5:k=5
 .grind [P.bD]
 by_cases h6:k=6
 .subst h6;rw[arB];simp[bD];grind
 simp[bD,h1,h2,h3,h4,h5,h6]
def ye(k e n a b:Int):Prop:=bD k e n/\k=a/\e=b
instance(k e n a b:Int):Decidable (ye k e n a b):=by unfold ye;infer_instance
abbrev ma(v:Vl)(t:Ty):Prop:=ye v.1 v.2.1 v.2.2 t.1 t.2
theorem rT(N:Nat)(v:Vl)(t:Ty):M.nq N v t=aa (decide (ma v t)):=by
 unfold M.nq;rw[cH];simp only[aQ,aqI,kj]
 grind [P.ye]
def yF(op k e:Int):Prop:=e=0/\(if op=36 then k=2\/k=3 else if op=39 then 2<=k/\k<=5 else k=1)
instance(op k e:Int):Decidable (yF op k e):=by unfold yF;infer_instance
abbrev SZ(op:Int)(t:Ty):Prop:=yF op t.1 t.2
theorem fH(N:Nat)(k:Int):M.iZ N k=aa (decide (2<=k/\k<=4)):=by
 unfold M.iZ;simp only[aQ,aqI,l4];refine ay aa ?_
 grind
def oc(N:Nat)(op:Int)(t:Ty):M.il N op t=aa (decide (SZ op t)):=by
 unfold M.il;rw[fH];simp only[aQ,aqI,l4,kj];refine ay aa ?_;obtain⟨(k:Int),(e:Int)⟩:=t;rw[arB]
 show _↔decide (yF op k e)=af
 unfold yF
 grind
def fold(op acc n:Int)(first:Bool):Int:=
 if op=36 then acc+n else if op=37 then acc*n else if op=38 then(if acc<n then n else acc)else(if first=af\/acc<n then n else acc)
def mu(op:Int)(t:Ty)(j:Nat):List (List Vl)->Bool->Int->Int⊕Int
 |[],_,acc=> .inl acc
 |l::ms,first,acc=>match l[j]? with
  |none=> .inr 6
  |some v=>if(v.1:Int)=0 then .inr 6 else if ma v t then
    (if bD t.1 0 (fold op acc v.2.2 first)then mu op t j ms ah (fold op acc v.2.2 first)else .inr 3)else .inr 8
def ta(op:Int):Int:=if op=37 then 1 else 0
def Jm(op:Int)(t:Ty)(j:Nat)(ms:List (List Vl)):Vl×Int:=
 if op=39/\ms=[]then((0,0,0),6)else match mu op t j ms af (ta op)with
  | .inl a=>((t.1,0,a),0)
  | .inr c=>((0,0,0),c)
def KV(op:Int)(t:Ty)(first:Bool)(acc:Int):Prop:=(op=39/\first=af/\acc=0)\/bD t.1 0 acc
def KW{op:Int}{t:Ty}(fJ:op=36\/op=37\/op=38\/op=39)(ht:SZ op t):KV op t af (ta op):=by
 obtain⟨(k:Int),(e:Int)⟩:=t
 obtain⟨h0,h1⟩:=(show yF op k e from ht)
 show(op=39/\af=af/\ta op=0)\/bD k 0 (ta op)
 grind [P.bD,P.ta]
def pW{N:Nat}(hN:100001<=N){op:Int}(fJ:op=36\/op=37\/op=38\/op=39){j:Nat}{env:bR.den}(hj:j<env.2.2.2.2.1.length)(hm:env.2.2.2.1.length<=100)(ht:SZ op env.2.2.2.2.1[j]):
 M.gU N (op,(j:Int)) env=aa (Jm op env.2.2.2.2.1[j] j env.2.2.2.1):=by
 obtain⟨d,ip,df,ms,ts,tb⟩:=env;simp only at hj hm ht⊢;apply Wp.eq;unfold M.gU;simp only;rw[aF hj];simp only[aqI];generalize ts[j]=t at ht⊢;have Y5:(t.2:Int)=0:=(show yF op t.1 t.2 from ht).1
 have e1:(if decide (op=37)=af then aa (t.1,t.2,(1:Int))else aa (t.1,t.2,(0:Int)):Option Vl)=aa (t.1,t.2,ta op):=by
  unfold ta;by_cases h:op=37<;>simp[h]
 rw[e1];simp only[aqI,aQ,kj];unfold Jm
 refine Wp.ite (λh=>?_) λh=>?_
 .have:op=39/\ms=[]:=by simpa using h
  rw[al this];exact .some rfl
 .have S0:¬(op=39/\ms=[]):=by simpa using h
  rw[aj S0]
  refine Wp.join (Wp.loop (λs:Int×Vl=>∃k:Nat,∃acc:Int,s=((k:Int),(t.1,t.2,acc))/\k<=ms.length/\KV op t (decide (k=0)) acc/\mu op t j (ms.drop k) (decide (k=0)) acc=mu op t j ms af (ta op)) (λs=>(ms.length-s.1).toNat)
   ⟨0,ta op,rfl,aq2 _,KW fJ ht,rfl⟩ (by grind) ?_)
  rintro _ ⟨k,acc,rfl,hk,Nq,hf⟩
  simp only
  refine Wp.dec (λh=>?_) λh=> .some (.some ?_)
  case refine_2=>
   grind [P.mu]
  have jh:k<ms.length:=by omega
  have hd:ms.drop k=ms[k]::ms.drop (k+1):=aq6 jh;rw[hd]at hf;rw[aF jh];simp only[aqI];rw[mu]at hf;by_cases hl:j<ms[k].length
  .rw[aqK hl]at hf;simp only at hf;rw[aF hl];simp only[aqI,aQ,l4,rT,cH];generalize ms[k][j]=v at hf⊢;by_cases hv:(v.1:Int)=0
   .rw[al hv]at hf;rw[al (by simp[hv])];refine .some ?_
    show _=_
    rw[<-hf]
   .rw[aj hv]at hf;rw[aj (by grind)];by_cases hh:ma v t
    .rw[al hh]at hf;rw[aj (by simp[hh])]
     obtain⟨hp,MX,Pj⟩:=(show ye _ _ _ _ _ from hh)
     refine Wp.join ?_
     have key:∀a,fold op acc v.2.2 (decide (k=0))=a->bD t.1 0 a->Cy (λs:Int×Vl=>∃k:Nat,∃acc:Int,s=((k:Int),(t.1,t.2,acc))/\k<=ms.length/\KV op t (decide (k=0)) acc/\mu op t j (ms.drop k) (decide (k=0)) acc=mu op t j ms af (ta op)) (λs=>(ms.length-s.1).toNat) ((k:Int),(t.1,t.2,acc)) (vZ (λj4=>aa (j4,(0:Int))) λx=>x=match mu op t j ms af (ta op)with
      | .inl a=>((t.1,0,a),0)
      | .inr c=>((0,0,0),c)) (.inl (aqJ.wrap ((k:Int)+1),(t.1,t.2,a))):=by
      intro a ha hpa;subst ha;rw[al hpa]at hf;rw[aU (by omega)];refine⟨⟨k+1,_,rfl,jh, .inr hpa,?_⟩,by grind⟩;rw[show decide (k+1=0)=ah by simp];exact hf
     rcases fJ with rfl|rfl|rfl|rfl
     all_goals simp only[decide_true,decide_false,if_true,if_false,arZ,aqM,ari,Bool.not_false]
     .have abq:bD t.1 0 acc:=by
       rcases Nq with h|h
       .grind
       .exact h
      have S3:fold 36 acc v.2.2 (decide (k=0))=acc+v.2.2:=by simp[fold]
      have hw:aqJ.wrap (acc+v.2.2)=acc+v.2.2:=by
       revert abq hp;generalize(v.2.2:Int)=n;generalize(v.1:Int)=vk;generalize(v.2.1:Int)=ve;generalize(t.1:Int)=tk;intro h1 h2;unfold bD at h1 h2;dsimp only[aC,Row.den]at*;exact aH (by omega) (by omega)
      rw[hw];rw[S3]at hf;by_cases rF:bD t.1 0 (acc+v.2.2)
      .rw[aj (by grind)];exact .some (.some (key _ S3 rF))
      .rw[al (by grind)];rw[aj rF]at hf;refine .some ?_
       show _=_
       rw[<-hf]
     .have hb:(0<=(v.2.2:Int)/\(v.2.2:Int)<=1)/\0<=acc/\acc<=1/\(t.1:Int)=1:=by
       have h1:=(show yF 37 t.1 t.2 from ht).2
       have h2:bD t.1 0 acc:=by
        rcases Nq with h|h
        .grind
        .exact h
       rw[MX]at hp;revert h1 h2 hp;generalize(v.2.2:Int)=n;generalize(v.2.1:Int)=ve;generalize(t.1:Int)=tk;intro h3 h1 h2;unfold bD at h2 h3;simp at h1;dsimp only[aC,Row.den]at*;omega
      obtain⟨⟨b1,b2⟩,b3,b4,b5⟩:=hb
      have S3:fold 37 acc v.2.2 (decide (k=0))=(if v.2.2<acc then v.2.2 else acc:Int):=by
       have b2':(v.2.2:Int)=0\/(v.2.2:Int)=1:=by revert b1 b2;generalize(v.2.2:Int)=n;intro b1 b2;dsimp only[aC,Row.den]at*;omega
       have b4':acc=0\/acc=1:=by omega
       rcases b2' with e1|e1<;>rcases b4' with e2|e2<;>simp[fold,e1,e2]
      refine .some (.some (key _ S3 ?_));refine .inl ⟨b5,rfl,?_⟩
      grind
     .have S3:fold 38 acc v.2.2 (decide (k=0))=(if acc<v.2.2 then v.2.2 else acc:Int):=by simp[fold]
      have h2:bD t.1 0 acc:=by
       rcases Nq with h|h
       .grind
       .exact h
      refine .some (.some (key _ S3 ?_))
      grind
     .have h3:bD t.1 0 v.2.2:=by rw[MX,Pj,Y5]at hp;exact hp
      by_cases hc:((k:Int)=0)\/acc<v.2.2
      .have S3:fold 39 acc v.2.2 (decide (k=0))=v.2.2:=by
        have:k=0\/acc<v.2.2:=hc.imp (λh=>by omega) id;simp[fold,this]
       rw[al (by simpa using hc)]
       have hv3:v=(t.1,t.2,v.2.2):=by rw[<-MX,<-Pj]
       rw[hv3];exact .some (.some (key _ S3 h3))
      .have S3:fold 39 acc v.2.2 (decide (k=0))=acc:=by
        have:¬(k=0\/acc<v.2.2):=(by grind)
        simp[fold,this]
       rw[aj (by simpa using hc)];refine .some (.some (key _ S3 ?_))
       rcases Nq with h|h
       all_goals grind
    .rw[aj hh]at hf;rw[al (by simp[hh])];refine .some ?_
     show _=_
     rw[<-hf]
  .rw[List.getElem?_eq_none (by omega)]at hf;rw[al (by simp;omega)];refine .some ?_
   show _=_
   rw[<-hf]
end L.P
namespace L.P
theorem mb{n:Int}(h0:0<=n)(h1:n<18446744073709551616):aqP.wrap n=n:=by
 simp[IntKind.wrap,ase,IntKind.signed];omega
theorem lL(n:Int):aqP.wrap n=n%18446744073709551616:=by
 simp[IntKind.wrap,ase,IntKind.signed]
def oD(n:Int):0<=aqP.wrap n/\aqP.wrap n<18446744073709551616:=by rw[lL];omega
def KX(a:Int):iF .u64 a 32=a/4294967296:=by
 unfold iF;rw[show min (32:Int).toNat aqP.bits=32 from rfl];exact Int.fdiv_eq_ediv_of_nonneg _ (by decide)
def abr(a:Int):iF .u64 a 16=a/65536:=by
 unfold iF;rw[show min (16:Int).toNat aqP.bits=16 from rfl];exact Int.fdiv_eq_ediv_of_nonneg _ (by decide)
def ahW(a:Int):iF .u64 a 8=a/256:=by
 unfold iF;rw[show min (8:Int).toNat aqP.bits=8 from rfl];exact Int.fdiv_eq_ediv_of_nonneg _ (by decide)
def DP:ByteArray:=(⟨#[0,1,2,2,3,3,3,3,4,4,4,4,4,4,4,4,5,5,5,5,5,5,5,5,5,5,5,5,5,5,5,5,6,6,6,6,6,6,6,6,6,6,6,6,6,6,6,6,6,6,6,6,6,6,6,6,6,6,6,6,6,6,6,6,7,7,7,7,7,7,7,7,7,7,7,7,7,7,7,7,7,7,7,7,7,7,7,7,7,7,7,7,7,7,7,7,7,7,7,7,7,7,7,7,7,7,7,7,7,7,7,7,7,7,7,7,7,7,7,7,7,7,7,7,7,7,7,7,8,8,8,8,8,8,8,8,8,8,8,8,8,8,8,8,8,8,8,8,8,8,8,8,8,8,8,8,8,8,8,8,8,8,8,8,8,8,8,8,8,8,8,8,8,8,8,8,8,8,8,8,8,8,8,8,8,8,8,8,8,8,8,8,8,8,8,8,8,8,8,8,8,8,8,8,8,8,8,8,8,8,8,8,8,8,8,8,8,8,8,8,8,8,8,8,8,8,8,8,8,8,8,8,8,8,8,8,8,8,8,8,8,8,8,8,8,8,8,8,8,8,8,8,8,8,8,8]⟩:ByteArray)
def Wi(n:Nat):Bool:=match lP DP n with
 |some k=>decide (0<=k)&&decide (k<=8)&&decide (n<2 ^ k.toNat)&&(aqU n 0||(decide (1<=k)&&decide (2 ^ (k.toNat-1)<=n)))
 |none=>ah
def Uv:(arK 256).all Wi=af:=by kernel_rfl
def DN{n:Nat}(h:n<256):∃k:Nat,lP DP n=aa (k:Int)/\k<=8/\n<2 ^ k/\(n≠0->1<=k/\2 ^ (k-1)<=n):=by
 have:=List.all_eq_true.1 Uv n (List.mem_range.2 h);unfold Wi at this;split at this
 case h_2=>cases this
 rename_i k hk;simp only[arV,Bool.or_eq_true,az,Nat.beq_eq]at this;obtain⟨⟨⟨h1,h2⟩,h3⟩,h4⟩:=this;refine⟨k.toNat,by rw[hk,Int.toNat_of_nonneg h1],by omega,h3,λhn=>?_⟩
 rcases h4 with h4|h4
 .exact absurd h4 hn
 .exact⟨by omega,h4.2⟩
def X5{m b k:Nat}(h:m/2 ^ b<2 ^ k):m<2 ^ (b+k):=by
 rw[arq (Nat.two_pow_pos b)]at h;rw[ash,aru];exact h
def X6{m b k:Nat}(hk:1<=k)(h:2 ^ (k-1)<=m/2 ^ b):2 ^ (b+k-1)<=m:=by
 rw[Nat.le_div_iff_mul_le (Nat.two_pow_pos b)]at h;rw[show b+k-1=k-1+b by omega,ash];exact h
def Gj{N m:Nat}(hm:m<18446744073709551616):∃L:Nat,M.mD N m=aa (L:Int)/\L<=64/\m<2 ^ L/\(m≠0->1<=L/\2 ^ (L-1)<=m):=by
 have fin:∀(b q:Nat)(w:Int),q=m/2 ^ b->w=b->b<=56->q<256->(m≠0->q≠0)->∃L:Nat,((lP DP (IntKind.u8.wrap (q:Int))).bind λx4=>aa (aqJ.wrap (w+aqJ.wrap x4)))=aa (L:Int)/\L<=64/\m<2 ^ L/\(m≠0->1<=L/\2 ^ (L-1)<=m):=by
  intro b q w hq hw hb h1 h2;subst hq;subst hw;obtain⟨k,g1,g2,g3,g4⟩:=DN h1
  have hu:IntKind.u8.wrap ((m/2 ^ b:Nat):Int)=((m/2 ^ b:Nat):Int):=by
   simp only[IntKind.wrap,ase,IntKind.signed];generalize m/2 ^ b=q at h1⊢;simp;omega
  refine⟨b+k,?_,by omega,X5 g3,λdG=>?_⟩
  .rw[hu,g1,aqI,Gi (by omega),<-Int.natCast_add,Gi (by omega)]
  .obtain⟨g5,g6⟩:=g4 (h2 dG);exact⟨by omega,X6 g5 g6⟩
 have e32:((m:Int)/4294967296)=((m/2 ^ 32:Nat):Int):=by rw[show(2 ^ 32:Nat)=4294967296 from rfl];omega
 have d48:m/2 ^ 32/2 ^ 16=m/2 ^ 48:=by rw[asn,<-ash]
 have d40:m/2 ^ 32/2 ^ 8=m/2 ^ 40:=by rw[asn,<-ash]
 have d56:m/2 ^ 48/2 ^ 8=m/2 ^ 56:=by rw[asn,<-ash]
 have d24:m/2 ^ 16/2 ^ 8=m/2 ^ 24:=by rw[asn,<-ash]
 have c16:∀q:Nat,((q:Int)/65536)=((q/2 ^ 16:Nat):Int):=λq=>by rw[show(2 ^ 16:Nat)=65536 from rfl];omega
 have c8:∀q:Nat,((q:Int)/256)=((q/2 ^ 8:Nat):Int):=λq=>by rw[show(2 ^ 8:Nat)=256 from rfl];omega
 unfold M.mD;rw[show(⟨#[0,1,2,2,3,3,3,3,4,4,4,4,4,4,4,4,5,5,5,5,5,5,5,5,5,5,5,5,5,5,5,5,6,6,6,6,6,6,6,6,6,6,6,6,6,6,6,6,6,6,6,6,6,6,6,6,6,6,6,6,6,6,6,6,7,7,7,7,7,7,7,7,7,7,7,7,7,7,7,7,7,7,7,7,7,7,7,7,7,7,7,7,7,7,7,7,7,7,7,7,7,7,7,7,7,7,7,7,7,7,7,7,7,7,7,7,7,7,7,7,7,7,7,7,7,7,7,7,8,8,8,8,8,8,8,8,8,8,8,8,8,8,8,8,8,8,8,8,8,8,8,8,8,8,8,8,8,8,8,8,8,8,8,8,8,8,8,8,8,8,8,8,8,8,8,8,8,8,8,8,8,8,8,8,8,8,8,8,8,8,8,8,8,8,8,8,8,8,8,8,8,8,8,8,8,8,8,8,8,8,8,8,8,8,8,8,8,8,8,8,8,8,8,8,8,8,8,8,8,8,8,8,8,8,8,8,8,8,8,8,8,8,8,8,8,8,8,8,8,8,8,8,8,8,8,8]⟩:ByteArray)=DP from rfl];simp only[KX,abr,ahW,e32,c16,c8];by_cases h1:4294967296<=m
 .have a1:decide ((4294967296:Int)<=(m:Int))=af:=by simp;omega
  simp only[a1,if_true,aqI,c16,d48];by_cases h2:65536<=m/2 ^ 32
  .have a2:decide ((65536:Int)<=((m/2 ^ 32:Nat):Int))=af:=by simp;omega
   simp only[a2,if_true,aqI,c8,d56];by_cases h3:256<=m/2 ^ 48
   .have a3:decide ((256:Int)<=((m/2 ^ 48:Nat):Int))=af:=by simp;omega
    simp only[a3,if_true,aqI];exact fin 56 _ _ rfl (by kernel_rfl) (by omega) (by omega) (by omega)
   .have a3:decide ((256:Int)<=((m/2 ^ 48:Nat):Int))=ah:=by simp;omega
    simp only[a3,aqM,if_false,aqI];exact fin 48 _ _ rfl (by kernel_rfl) (by omega) (by omega) (by omega)
  .have a2:decide ((65536:Int)<=((m/2 ^ 32:Nat):Int))=ah:=by simp;omega
   simp only[a2,aqM,if_false,aqI,c8,d40];by_cases h3:256<=m/2 ^ 32
   .have a3:decide ((256:Int)<=((m/2 ^ 32:Nat):Int))=af:=by simp;omega
    simp only[a3,if_true,aqI];exact fin 40 _ _ rfl (by kernel_rfl) (by omega) (by omega) (by omega)
   .have a3:decide ((256:Int)<=((m/2 ^ 32:Nat):Int))=ah:=by simp;omega
    simp only[a3,aqM,if_false,aqI];exact fin 32 _ _ rfl (by kernel_rfl) (by omega) (by omega) (by omega)
 .have a1:decide ((4294967296:Int)<=(m:Int))=ah:=by simp;omega
  simp only[a1,aqM,if_false,aqI,c16];by_cases h2:65536<=m
  .have a2:decide ((65536:Int)<=(m:Int))=af:=by simp;omega
   simp only[a2,if_true,aqI,c8,d24];by_cases h3:256<=m/2 ^ 16
   .have a3:decide ((256:Int)<=((m/2 ^ 16:Nat):Int))=af:=by simp;omega
    simp only[a3,if_true,aqI];exact fin 24 _ _ rfl (by kernel_rfl) (by omega) (by omega) (by omega)
   .have a3:decide ((256:Int)<=((m/2 ^ 16:Nat):Int))=ah:=by simp;omega
    simp only[a3,aqM,if_false,aqI];exact fin 16 _ _ rfl (by kernel_rfl) (by omega) (by omega) (by omega)
  .have a2:decide ((65536:Int)<=(m:Int))=ah:=by simp;omega
   simp only[a2,aqM,if_false,aqI,c8];by_cases h3:256<=m
   .have a3:decide ((256:Int)<=(m:Int))=af:=by simp;omega
    simp only[a3,if_true,aqI];exact fin 8 _ _ rfl (by kernel_rfl) (by omega) (by omega) (by omega)
   .have a3:decide ((256:Int)<=(m:Int))=ah:=by simp;omega
    simp only[a3,aqM,if_false,aqI];exact fin 0 m _ (by simp) (by kernel_rfl) (by omega) (by omega) (λh=>h)
def abt(rh:Int)(h:0<=rh):(if rh<4294967296 then(4294967296-rh).toNat else 4294967297)<aJ:=by
 unfold aJ
 split<;>omega
def Nr{hi lo y:Int}(h0:0<=hi)(h1:hi<y)(h2:y<18446744073709551616):∃r,M.dQ aJ hi lo y=aa r:=by
 have key:Wp (M.dQ aJ hi lo y) λ_=>True:=by
  unfold M.dQ;rw[aj (by simp;omega),aj (by simp;omega)]
  refine Wp.dec (λ_=>?_) λdG=>?_
  .unfold nU sJ;rw[aj (by omega),aj (by omega)];exact .some trivial
  .obtain⟨m,rfl⟩:∃m:Nat,y=m:=⟨y.toNat,by omega⟩
   obtain⟨L,g1,g2,g3,g4⟩:=Gj (N:=aJ) (m:=m) (by omega);obtain⟨g4,g5⟩:=g4 (by omega);unfold M.fU;rw[g1]
   have hL:aqP.wrap (aqJ.wrap ((64:Int)-(L:Int)))=((64-L:Nat):Int):=by
    rw[aH (by omega) (by omega),mb (by omega) (by omega)];omega
   have hL2:aqP.wrap ((64:Int)-((64-L:Nat):Int))=(L:Int):=by rw[mb (by omega) (by omega)];omega
   simp only[aqI,hL,hL2]
   have jq:∀a:Int,Iq .u64 a ((64-L:Nat):Int)=aa (yz .u64 a ((64-L:Nat):Int)):=λa=>aj (by omega)
   have HY:∀a:Int,EX .u64 a (L:Int)=aa (iF .u64 a (L:Int)):=λa=>aj (by omega)
   have X7:∀a:Int,EX .u64 a ((64-L:Nat):Int)=aa (iF .u64 a ((64-L:Nat):Int)):=λa=>aj (by omega)
   simp only[jq,HY,X7,aqI,KX]
   have hy:9223372036854775808<=yz .u64 (m:Int) ((64-L:Nat):Int)/\yz .u64 (m:Int) ((64-L:Nat):Int)<18446744073709551616:=by
    unfold yz;rw[show min (((64-L:Nat):Int).toNat) aqP.bits=64-L by simp[ase]]
    have e1:m*2 ^ (64-L)<2 ^ 64:=by
     calc m*2 ^ (64-L)<2 ^ L*2 ^ (64-L):=Nat.mul_lt_mul_of_pos_right g3 (Nat.two_pow_pos _)
      _=2 ^ 64:=by rw[<-ash];congr 1;omega
    have e2:2 ^ 63<=m*2 ^ (64-L):=by
     calc 2 ^ 63=2 ^ (L-1)*2 ^ (64-L):=by rw[<-ash];congr 1;omega
      _<=m*2 ^ (64-L):=aq4 _ g5
    have e3:((m:Int)*2 ^ (64-L))=((m*2 ^ (64-L):Nat):Int):=by simp
    rw[e3,mb (by omega) (by omega)];omega
   generalize yz .u64 (m:Int) ((64-L:Nat):Int)=x4 at hy⊢
   have hyn:0<x4/4294967296/\x4/4294967296<4294967296:=by omega
   generalize x4/4294967296=yn at hyn⊢
   have quo:∀a:Int,nU a yn=aa (aqW a yn):=λa=>aj (by omega)
   simp only[quo,aqI]
   have inv:∀rh:Int,0<=rh->rh<18446744073709551616->¬4294967296<=aqP.wrap (rh+yn)->(if aqP.wrap (rh+yn)<4294967296 then(4294967296-aqP.wrap (rh+yn)).toNat else 4294967297)<(if rh<4294967296 then(4294967296-rh).toNat else 4294967297):=by
    intro rh i1 i2 hc;rw[al (by omega)];by_cases hr:rh<4294967296
    .rw[al hr];have:aqP.wrap (rh+yn)=rh+yn:=mb (by omega) (by omega);rw[this]at hc⊢;omega
    .rw[aj hr];have:=oD (rh+yn);omega
   simp only[aQ,l4,aqI]
   refine Wp.seq (λ_=>True) (Wp.seq (λ_=>True) (Wp.loop (λs:Int×Int=>0<=s.2/\s.2<18446744073709551616) (λs=>if s.2<4294967296 then(4294967296-s.2).toNat else 4294967297) (oD _) (abt _ (oD _).1) ?_) λ_ _=> .some trivial) λj9 _=>?_
   .rintro⟨q,rh⟩ ⟨i1,i2⟩
    refine .some ?_;split
    .split
     .trivial
     .rename_i hc;exact⟨oD _,inv rh i1 i2 (by simpa using hc)⟩
    .trivial
   refine Wp.seq (λ_=>True) (Wp.seq (λ_=>True) (Wp.loop (λs:Int×Int=>0<=s.1/\s.1<18446744073709551616) (λs=>if s.1<4294967296 then(4294967296-s.1).toNat else 4294967297) (oD _) (abt _ (oD _).1) ?_) λ_ _=> .some trivial) λj14 _=> .some trivial
   .rintro⟨rh,q⟩ ⟨i1,i2⟩
    refine .some ?_;split
    .split
     .trivial
     .rename_i hc;exact⟨oD _,inv rh i1 i2 (by simpa using hc)⟩
    .trivial
 obtain⟨x,hx,_⟩:=key;exact⟨x,hx⟩
def pB(N:Nat)(m:Int):M.gB N m=aa (decide (0<=m)&&decide (m<=5)):=by
 unfold M.gB;simp only[aQ,aqI,kj]
def uh(N:Nat)(n l:Int):M.fm N n l=aa (decide (l<n)||decide (n<aqJ.wrap (0-l))):=by
 unfold M.fm;simp only[aQ,aqI,l4]
theorem lM(N:Nat){n:Int}(h: -4611686018427387904<=n/\n<=4611686018427387904):M.eN N n=aa (if n<0 then-n else n):=by
 unfold M.eN;simp only[aQ];refine ay aa ?_;by_cases hn:n<0
 .rw[al (by simpa using hn),al hn,lL n,lL];omega
 .rw[aj (by simpa using hn),aj hn,mb (by omega) (by omega)]
end L.P
namespace L.P
def Jn{B y1 y0 u v q r:Nat}(hy:0<y1*B+y0)(hqr:q*y1+r=u)(hge:(u*B+v)/(y1*B+y0)<=q)(Uw:q*y0<=B*r+v):q=(u*B+v)/(y1*B+y0):=by
 refine Nat.le_antisymm ?_ hge;rw[Nat.le_div_iff_mul_le hy,Nat.mul_add]
 have e1:q*(y1*B)+B*r=u*B:=by rw[<-hqr,aro,Nat.mul_assoc,aru B r]
 omega
def Gk{B y1 y0 u v q r:Nat}(hy:0<y1*B+y0)(hqr:q*y1+r=u)(BQ:B*r+v<q*y0):(u*B+v)/(y1*B+y0)<q:=by
 rw[arq hy,Nat.mul_add]
 have e1:q*(y1*B)+B*r=u*B:=by rw[<-hqr,aro,Nat.mul_assoc,aru B r]
 omega
def Ag{B y u v:Nat}(hu:u<y)(hv:v<B):(u*B+v)/y<B:=by
 rw[arq (by omega)];have:(u+1)*B<=y*B:=aq4 B hu;rw[aro]at this;rw[aru B y];omega
def Gl{B y1 y0 u v:Nat}(hy1:0<y1)(hB:0<B)(hv:v<B):(u*B+v)/(y1*B+y0)<=u/y1:=by
 have hy:0<y1*B+y0:=by have:=Nat.mul_pos hy1 hB;omega
 refine Nat.le_of_lt_succ ?_;rw[arq hy,Nat.mul_add]
 have h1:u<(u/y1+1)*y1:=by
  have:=arT u y1;have:=arW u hy1;rw[aro,Nat.one_mul,aru];omega
 have h2:(u+1)*B<=(u/y1+1)*y1*B:=aq4 B h1;rw[aro]at h2;have h3:(u/y1+1)*(y1*B)=(u/y1+1)*y1*B:=(Nat.mul_assoc ..).symm;have h4:0<=(u/y1+1)*y0:=aq2 _
 show u*B+v<(u/y1).succ*(y1*B)+(u/y1).succ*y0
 show u*B+v<(u/y1+1)*(y1*B)+(u/y1+1)*y0
 omega
def Ah{B y1 y0 u:Nat}(hy1:0<y1)(h2:B<=2*y1)(h0:y0<B)(hu:u<y1*B+y0):u/y1<=B+1:=by
 refine Nat.le_of_lt_succ ?_;rw[arq hy1]
 show u<(B+1+1)*y1
 have:(B+1+1)*y1=y1*B+2*y1:=by rw[aro,aro,aru B y1];omega
 omega
end L.P
namespace L.P
def Gm{a:Nat}(ha:a<18446744073709551616):gE .and .u64 (a:Int) 4294967295=((a%4294967296:Nat):Int):=by
 have h:=bits_and_u64_nat a 4294967295 ha (by omega);rw[show a&&& 4294967295=a%4294967296 from Nat.and_two_pow_sub_one_eq_mod a 32]at h;exact h
def orN{a b:Nat}(ha:a<18446744073709551616)(hb:b<18446744073709551616):gE .or .u64 (a:Int) (b:Int)=((a|||b:Nat):Int):=bits_or_u64_nat a b ha hb
def abv(a:Nat){s:Nat}(hs:s<=64):iF .u64 (a:Int) (s:Int)=((a/2 ^ s:Nat):Int):=by
 unfold iF;rw[show min ((s:Int).toNat) aqP.bits=s by simp[ase];omega]
 grind
def ah0(a:Nat){s:Nat}(hs:s<=64):yz .u64 (a:Int) (s:Int)=((a*2 ^ s%18446744073709551616:Nat):Int):=by
 unfold yz;rw[show min ((s:Int).toNat) aqP.bits=s by simp[ase];omega]
 grind [P.lL]
theorem sy(a b:Nat)(h:b≠0):nU (a:Int) (b:Int)=aa ((a/b:Nat):Int):=by
 grind [nU]
def DQ(a b:Nat)(h:b≠0):sJ (a:Int) (b:Int)=aa ((a%b:Nat):Int):=by
 grind [sJ]
def qJ{a:Nat}(h:a<18446744073709551616):aqP.wrap (a:Int)=(a:Int):=mb (by omega) (by omega)
theorem v8(N:Nat){x y:Nat}(hx:x<18446744073709551616)(hy:y<18446744073709551616):M.eM N (x:Int) (y:Int)=aa (((x*y/18446744073709551616:Nat):Int),((x*y%18446744073709551616:Nat):Int)):=by
 obtain⟨bd,bt,bw,hhi⟩:=Lib.mul64_hi x y hx hy;have ba:=Lib.half_mul_le (a:=x/4294967296) (b:=y/4294967296) (by omega) (by omega);have bb:=Lib.half_mul_le (a:=x/4294967296) (b:=y%4294967296) (by omega) (by omega);have bc:=Lib.half_mul_le (a:=x%4294967296) (b:=y/4294967296) (by omega) (by omega)
 have ba':x/4294967296*(y/4294967296)<18446744073709551616:=by omega
 have bb':x/4294967296*(y%4294967296)<18446744073709551616:=by omega
 have bc':x%4294967296*(y/4294967296)<18446744073709551616:=by omega
 have bh1:x/4294967296*(y/4294967296)+(x/4294967296*(y%4294967296)+x%4294967296*(y%4294967296)/4294967296)/4294967296<18446744073709551616:=by omega
 have bh:x/4294967296*(y/4294967296)+(x/4294967296*(y%4294967296)+x%4294967296*(y%4294967296)/4294967296)/4294967296+((x/4294967296*(y%4294967296)+x%4294967296*(y%4294967296)/4294967296)%4294967296+x%4294967296*(y/4294967296))/4294967296<18446744073709551616:=by
  rw[hhi];rw[arq (by omega)];exact Nat.mul_lt_mul'' hx hy
 have dv:∀a:Nat,((a:Int)/4294967296)=((a/4294967296:Nat):Int):=λa=>by omega
 have ml:∀a b:Nat,((a:Int)*(b:Int))=((a*b:Nat):Int):=λa b=>(arx a b).symm
 have ad:∀a b:Nat,((a:Int)+(b:Int))=((a+b:Nat):Int):=λa b=>(Int.natCast_add a b).symm
 unfold M.eM;simp only[KX,Gm hx,Gm hy,dv,ml,ad,qJ bd,qJ bb',qJ bt,Gm bt,qJ bc',qJ bw,qJ ba',qJ bh1,qJ bh]
 grind [P.lL]
def X8{S:Type}{body:S->Option (S⊕Int)}(mk:Nat->Nat->S){B y1 y0 u v dg:Nat}(h0:y0<B)(hd:dg<B)
 (hgr:∀q r:Nat,q*y1+r=u->B*r+v<q*y0->dg<q)(Uw:∀q r:Nat,q*y1+r=u->dg<=q->q*y0<=B*r+v->q=dg)
 (hb:∀q r:Nat,q<=B+1->r<B->body (mk q r)=if B<=q\/B*r+v<q*y0 then(if B<=r+y1 then aa (.inr (((q-1:Nat)):Int))else aa (.inl (mk (q-1) (r+y1))))else aa (.inr (q:Int))):
 ∀n q r N:Nat,q<=dg+n->q*y1+r=u->dg<=q->q<=B+1->r<B->n<N->Loop body N (mk q r)=aa (dg:Int):=by
 intro n
 induction n with
 |zero=>
  intro q r N g1 g2 g3 g4 g5 g6
  obtain⟨N,rfl⟩:∃k,N=k+1:=⟨N-1,by omega⟩
  grind [Loop]
 |succ n ih=>
  intro q r N g1 g2 g3 g4 g5 g6
  obtain⟨N,rfl⟩:∃k,N=k+1:=⟨N-1,by omega⟩
  unfold Loop;rw[hb q r g4 g5];by_cases c:B<=q\/B*r+v<q*y0
  .have aI:dg<q:=by
    rcases c with c|c
    .omega
    .grind
   obtain⟨p,rfl⟩:∃p,q=p+1:=⟨q-1,by omega⟩
   have e1:p*y1+(r+y1)=u:=by
    rw[aro,Nat.one_mul]at g2;omega
   rw[al c,Nat.add_sub_cancel];by_cases e:B<=r+y1
   .rw[al e]
    show aa (p:Int)=_
    have a1:p*y0<=B*y0:=aq4 _ (by omega);have a2:B*y0<=B*(r+y1):=Nat.mul_le_mul_left _ (by omega);rw[<-Uw p (r+y1) e1 (by omega) (by omega)]
   grind
  grind
def Gn{S:Type}{body:S->Option (S⊕Int)}(mk:Nat->Nat->S){B y1 y0 u v:Nat}(hB:B+1<aJ)(h1:B<=2*y1)(ZP:0<B)(h0:y0<B)(hu:u<y1*B+y0)(hv:v<B)(Da:y1<B)
 (hb:∀q r:Nat,q<=B+1->r<B->body (mk q r)=if B<=q\/B*r+v<q*y0 then(if B<=r+y1 then aa (.inr (((q-1:Nat)):Int))else aa (.inl (mk (q-1) (r+y1))))else aa (.inr (q:Int))):
 Loop body aJ (mk (u/y1) (u%y1))=aa (((u*B+v)/(y1*B+y0):Nat):Int):=by
 have hp:0<y1*B:=Nat.mul_pos (by omega) ZP
 have hy:0<y1*B+y0:=by omega
 have It:=arT u y1;have hm:=arW u (show 0<y1 by omega);rw[aru]at It;refine X8 mk h0 (Ag hu hv) (λq r g c=>Gk hy g c) (λq r g g' c=>Jn hy g g' c) hb (B+1) (u/y1) (u%y1) aJ ?_ It (Gl (by omega) ZP hv) (Ah (by omega) h1 h0 hu) (by omega) hB;exact Nat.le_trans (Ah (by omega) h1 h0 hu) (Nat.le_add_left _ _)
def Ai{hi lo y:Nat}(h1:hi<y)(hl:lo<18446744073709551616)(h2:y<18446744073709551616):
 M.dQ aJ (hi:Int) (lo:Int) (y:Int)=aa ((((hi*18446744073709551616+lo)/y:Nat):Int),(((hi*18446744073709551616+lo)%y:Nat):Int)):=by
 unfold M.dQ;rw[aj (by simp;omega),aj (by simp;omega)];by_cases h0:hi=0
 .subst h0;rw[al (by simp),sy _ _ (by omega),DQ _ _ (by omega)];simp only[aqI,Nat.zero_mul,arl];rw[qJ (Nat.lt_of_le_of_lt (arU _ _) hl)]
 .rw[aj (by simp;omega)];obtain⟨L,g1,g2,g3,g4⟩:=Gj (N:=aJ) (m:=y) (by omega);obtain⟨g4,g5⟩:=g4 (by omega);unfold M.fU;rw[g1]
  have hL:aqP.wrap (aqJ.wrap ((64:Int)-(L:Int)))=((64-L:Nat):Int):=by
   rw[aH (by omega) (by omega),mb (by omega) (by omega)];omega
  have hL2:aqP.wrap ((64:Int)-((64-L:Nat):Int))=(L:Int):=by rw[mb (by omega) (by omega)];omega
  simp only[aqI,hL,hL2]
  obtain⟨s,hs⟩:∃s,s=64-L:=⟨_,rfl⟩
  rw[<-hs]
  have abw:s<=64:=by omega
  have jq:∀a:Int,Iq .u64 a ((s:Nat):Int)=aa (yz .u64 a ((s:Nat):Int)):=λa=>aj (by omega)
  have HY:∀a:Int,EX .u64 a (L:Int)=aa (iF .u64 a (L:Int)):=λa=>aj (by omega)
  have X7:∀a:Int,EX .u64 a ((s:Nat):Int)=aa (iF .u64 a ((s:Nat):Int)):=λa=>aj (by omega)
  have hP:0<2 ^ s:=Nat.two_pow_pos _
  have X9:2 ^ L*2 ^ s=18446744073709551616:=by
   rw[<-ash,show L+s=64 by omega]
  have hY1:y*2 ^ s<18446744073709551616:=by
   rw[<-X9];exact Nat.mul_lt_mul_of_pos_right g3 hP
  have hY2:9223372036854775808<=y*2 ^ s:=by
   have:2 ^ (L-1)*2 ^ s=9223372036854775808:=by rw[<-ash,show L-1+s=63 by omega]
   rw[<-this];exact aq4 _ g5
  have hhi:hi*2 ^ s+2 ^ s<=y*2 ^ s:=by
   have:=aq4 (2 ^ s) (show hi+1<=y from h1);rw[aro,Nat.one_mul]at this;exact this
  have ZL:lo/2 ^ L<2 ^ s:=by
   rw[arq (Nat.two_pow_pos _),aru,X9];exact hl
  have hx5:hi*2 ^ s%18446744073709551616=hi*2 ^ s:=Nat.mod_eq_of_lt (by omega)
  have hor:(hi*2 ^ s)|||(lo/2 ^ L)=hi*2 ^ s+lo/2 ^ L:=by
   have:=Nat.shiftLeft_add_eq_or_of_lt ZL hi;rw[Nat.shiftLeft_eq]at this;exact this.symm
  have ah3:lo*2 ^ s=(lo/2 ^ L)*18446744073709551616+lo*2 ^ s%18446744073709551616:=by
   have e:lo*2 ^ s/18446744073709551616=lo/2 ^ L:=by rw[<-X9];exact Nat.mul_div_mul_right _ _ hP
   have:=arT (lo*2 ^ s) 18446744073709551616;rw[e]at this;omega
  have hdiv:(hi*18446744073709551616+lo)*2 ^ s/(y*2 ^ s)=(hi*18446744073709551616+lo)/y:=Nat.mul_div_mul_right _ _ hP;have Gp:(hi*18446744073709551616+lo)*2 ^ s%(y*2 ^ s)=(hi*18446744073709551616+lo)%y*2 ^ s:=Nat.mul_mod_mul_right _ _ _
  have hW:(hi*18446744073709551616+lo)*2 ^ s=hi*2 ^ s*18446744073709551616+lo*2 ^ s:=by
   rw[aro];rw[Nat.mul_right_comm]
  simp only[jq,HY,X7,aqI,KX,ah0 _ abw,abv _ g2,hx5,Nat.mod_eq_of_lt hY1];rw[orN (by omega) (by omega),hor]
  obtain⟨x7,e7,hx7⟩:∃x7,x7=lo*2 ^ s%18446744073709551616/\x7<18446744073709551616:=⟨_,rfl,arW _ (by decide)⟩
  rw[<-e7]at ah3⊢
  obtain⟨U,hU⟩:∃U,U=hi*2 ^ s+lo/2 ^ L:=⟨_,rfl⟩
  obtain⟨Y,hY⟩:∃Y,Y=y*2 ^ s:=⟨_,rfl⟩
  obtain⟨W,hWd⟩:∃W,W=hi*18446744073709551616+lo:=⟨_,rfl⟩
  rw[<-hWd]at hdiv Gp hW⊢;rw[<-hY]at hY1 hY2 hdiv Gp hhi⊢;rw[<-hU]
  have hUY:U<Y:=by omega
  have hWs:W*2 ^ s=U*18446744073709551616+x7:=by rw[hW,hU];omega
  rw[hWs]at hdiv Gp
  obtain⟨y1,y0,hYe,hy0,hy1,abx⟩:∃y1 y0,Y=y1*4294967296+y0/\y0<4294967296/\2147483648<=y1/\y1<4294967296:=⟨Y/4294967296,Y%4294967296,by omega,by omega,by omega,by omega⟩
  obtain⟨v1,v0,Bj,Iy,wY⟩:∃v1 v0,x7=v1*4294967296+v0/\v0<4294967296/\v1<4294967296:=⟨x7/4294967296,x7%4294967296,by omega,by omega,by omega⟩
  have eY:((Y:Int)/4294967296)=(y1:Int):=by omega
  have eV:((x7:Int)/4294967296)=(v1:Int):=by omega
  have aY:gE .and .u64 (Y:Int) 4294967295=(y0:Int):=by rw[Gm hY1];omega
  have aV:gE .and .u64 (x7:Int) 4294967295=(v0:Int):=by rw[Gm hx7];omega
  simp only[eY,eV,aY,aV,sy _ _ (show y1≠0 by omega),aqI];have i1:aqP.wrap ((U/y1:Nat):Int)=((U/y1:Nat):Int):=qJ (Nat.lt_of_le_of_lt (arU _ _) (by omega))
  have i2:∀a:Nat,aqP.wrap ((a:Int)-aqP.wrap (((a/y1:Nat):Int)*(y1:Int)))=aqP.wrap ((a%y1:Nat):Int):=by
   intro a;have e:=arT a y1;rw[aru]at e;rw[show(((a/y1:Nat):Int)*(y1:Int))=((a/y1*y1:Nat):Int)from(arx _ _).symm,lL,lL,lL];omega
  have i3:∀a:Nat,aqP.wrap ((a%y1:Nat):Int)=((a%y1:Nat):Int):=λa=>qJ (ars (arW _ (by omega)) (by omega))
  simp only[i1,i2,i3]
  have body:∀(v q r:Nat),v<4294967296->q<=4294967297->r<4294967296->((if decide ((4294967296:Int)<=(q:Int))=af then aa af else aa (decide (aqP.wrap (aqP.wrap (4294967296*(r:Int))+(v:Int))<aqP.wrap ((q:Int)*(y0:Int))))):Option Bool)=aa (decide (4294967296<=q\/4294967296*r+v<q*y0)):=by
   intro v q r hv hq hr;by_cases c:4294967296<=q
   .grind
   .rw[aj (by simp;omega)];have m1:q*y0<=4294967295*4294967295:=Nat.mul_le_mul (by omega) (by omega);rw[show((q:Int)*(y0:Int))=((q*y0:Nat):Int)from(arx _ _).symm,qJ (a:=q*y0) (by omega),show(4294967296*(r:Int))=((4294967296*r:Nat):Int) by omega,qJ (a:=4294967296*r) (by omega),<-Int.natCast_add,qJ (by omega)];refine ay aa ?_
    grind
  have cw:∀r:Nat,r<4294967296->aqP.wrap ((r:Int)+(y1:Int))=((r+y1:Nat):Int):=λr hr=>by rw[<-Int.natCast_add,qJ (by omega)]
  have cq:∀q:Nat,0<q->q<=4294967297->aqP.wrap ((q:Int)-1)=((q-1:Nat):Int):=λq h hq=>by rw[mb (by omega) (by omega)];omega
  have pos:∀v q r:Nat,4294967296<=q\/4294967296*r+v<q*y0->0<q:=by
   intro v q r c
   rcases c with c|c
   .omega
   .grind
  have sub:∀a b c r:Nat,a+b=c+r->r<18446744073709551616->aqP.wrap (aqP.wrap (aqP.wrap (a:Int)+(b:Int))-aqP.wrap (c:Int))=(r:Int):=by
   intro a b c r h hr;rw[lL,lL,lL,lL];omega
  have mB:∀a:Nat,((a:Int)*4294967296)=((a*4294967296:Nat):Int):=λa=>by omega
  have mY:∀a:Nat,((a:Int)*(Y:Int))=((a*Y:Nat):Int):=λa=>(arx _ _).symm
  apply Wp.eq;refine Wp.Qz (x:=(((U*4294967296+v1)/Y:Nat):Int)) ?_ ?_
  .rw[hYe];refine(ay (λo=>aqH o λj=>aa j) (Gn (λq r=>((q:Int),(r:Int))) (B:=4294967296) (u:=U) (v:=v1) (by unfold aJ;omega) (by omega) (by decide) hy0 (by omega) wY abx ?_)).trans rfl;intro q r hq hr;dsimp only;rw[body v1 q r wY hq hr,aqI,cw r hr];by_cases c:4294967296<=q\/4294967296*r+v1<q*y0
   .rw[al (au c),al c,cq q (pos _ _ _ c) hq];by_cases e:4294967296<=r+y1
    all_goals grind
   grind
  obtain⟨d1,xS⟩:∃d,d=(U*4294967296+v1)/Y:=⟨_,rfl⟩
  obtain⟨r1,VT⟩:∃r,r=(U*4294967296+v1)%Y:=⟨_,rfl⟩
  have OD:=arT (U*4294967296+v1) Y;have ah4:r1<Y:=VT▸arW _ (by omega);rw[<-xS,<-VT,aru]at OD;rw[<-xS];rw[mB U,mY d1,sub (U*4294967296) v1 (d1*Y) r1 (by omega) (by omega)];simp only[sy _ _ (show y1≠0 by omega),aqI];have i4:aqP.wrap ((r1/y1:Nat):Int)=((r1/y1:Nat):Int):=qJ (Nat.lt_of_le_of_lt (arU _ _) (by omega));simp only[i4,i2,i3];refine Wp.Qz (x:=(((r1*4294967296+v0)/Y:Nat):Int)) ?_ ?_
  .rw[hYe];refine(ay (λo=>aqH o λj=>aa j) (Gn (λq r=>((r:Int),(q:Int))) (B:=4294967296) (u:=r1) (v:=v0) (by unfold aJ;omega) (by omega) (by decide) hy0 (by omega) Iy abx ?_)).trans rfl;intro q r hq hr;dsimp only;rw[body v0 q r Iy hq hr,aqI,cw r hr];by_cases c:4294967296<=q\/4294967296*r+v0<q*y0
   .rw[al (au c),al c,cq q (pos _ _ _ c) hq];by_cases e:4294967296<=r+y1
    all_goals grind
   grind
  obtain⟨d0,Wj⟩:∃d,d=(r1*4294967296+v0)/Y:=⟨_,rfl⟩
  obtain⟨r0,Y4⟩:∃r,r=(r1*4294967296+v0)%Y:=⟨_,rfl⟩
  have ah5:=arT (r1*4294967296+v0) Y;have aby:r0<Y:=Y4▸arW _ (by omega);rw[<-Wj,<-Y4,aru]at ah5;rw[<-Wj];rw[mB r1,mY d0,sub (r1*4294967296) v0 (d0*Y) r0 (by omega) (by omega),mB d1];have hB1:=Ag (B:=4294967296) (y:=Y) (u:=U) (v:=v1) hUY wY;have ZP:=Ag (B:=4294967296) (y:=Y) (u:=r1) (v:=v0) ah4 Iy;rw[<-xS]at hB1;rw[<-Wj]at ZP
  have Pg:U*18446744073709551616+x7=(d1*4294967296+d0)*Y+r0:=by
   have e1:(d1*4294967296+d0)*Y=d1*Y*4294967296+d0*Y:=by rw[aro,Nat.mul_right_comm]
   rw[e1];omega
  have hq:W/y=d1*4294967296+d0:=by
   rw[<-hdiv,Pg];rw[aru,Nat.mul_add_div (by omega),Nat.div_eq_of_lt aby,Nat.add_zero]
  have hr:W%y*2 ^ s=r0:=by
   rw[<-Gp,Pg,aru,Nat.mul_add_mod,Nat.mod_eq_of_lt aby]
  rw[abv _ abw,<-hr,Nat.mul_div_cancel _ hP,hq,qJ (a:=d1*4294967296) (by omega),<-Int.natCast_add,qJ (by omega)];exact .some rfl
end L.P
namespace L.P
def Cd(c:Int):Prop:=c=0\/c=3\/c=12
def DS{c:Prop}[Decidable c]{x y:Int×Int}(hx:Cd x.2)(hy:Cd y.2):Cd (if c then x else y).2:=by
 split
 .exact hx
 .exact hy
def CB(x:Int):Cd (x,(0:Int)).2:= .inl rfl
def Cd3(x:Int):Cd (x,(3:Int)).2:= .inr (.inl rfl)
def nN{n l:Int}(hl:0<=l/\l<=9000000000000000000)(h:¬(decide (l<n)||decide (n<aqJ.wrap (0-l)))=af): -l<=n/\n<=l:=by
 rw[aH (by omega) (by omega)]at h;simp at h;omega
def Wk(N:Nat)(a b c:Int)(d:Bool)(e:Int):Wp (M.dO N a b c d e) λ_=>True:=by
 unfold M.dO;simp only[aQ,aqI];exact .some trivial
def CC(N:Nat)(a:Int)(b:Bool):Wp (M.jO N a b) λ_=>True:=by
 unfold M.jO;simp only[aQ];exact .some trivial
def oS(N:Nat){a b m:Int}(hm:0<=m/\m<=5):Wp (M.fo N a b m) λr=>Cd r.2:=by
 unfold M.fo;rw[pB];simp only[aqI,uh];rw[aj (by simp;omega)]
 refine Wp.dec (λ_=> .some (by simp[Cd])) λhb=>?_
 simp only[aQ,aqI,l4]
 refine Wp.ite (λ_=> .some (by simp[Cd])) λhc=>?_
 rw[Bool.or_eq_true,not_or]at hc;have ha:=nN (by omega) hc.1;have sE:=nN (by omega) hc.2;rw[lM N ha,lM N sE];simp only[aqI]
 have dG:(if b<0 then-b else b)≠0:=by split<;>omega
 rw[show∀x,nU x (if b<0 then-b else b)=aa (aqW x (if b<0 then-b else b))from λx=>aj dG,show∀x,sJ x (if b<0 then-b else b)=aa (aqY x (if b<0 then-b else b))from λx=>aj dG];simp only[aqI]
 exact Wp.seq _ (Wk ..) λx _=>Wp.seq _ (CC ..) λy _=> .some (by simp[Cd])
def wa(N:Nat)(a b:Int):Wp (M.eM N a b) λr=>(0<=r.1/\r.1<18446744073709551616)/\0<=r.2/\r.2<18446744073709551616:=by
 unfold M.eM;exact .some ⟨oD _,oD _⟩
def Aj{hi lo y:Int}(h0:0<=hi)(h1:hi<y)(h2:y<18446744073709551616):Wp (M.dQ aJ hi lo y) λ_=>True:=by
 obtain⟨r,hr⟩:=Nr (lo:=lo) h0 h1 h2;exact⟨r,hr,trivial⟩
def Ns{a b c m:Int}(hm:0<=m/\m<=5):Wp (M.nu aJ a b c m) λr=>Cd r.2:=by
 unfold M.nu;rw[pB];simp only[aqI,uh];rw[aj (by simp;omega)]
 refine Wp.dec (λ_=> .some (by simp[Cd])) λhb=>?_
 simp only[aQ,aqI,l4]
 refine Wp.ite (λ_=> .some (by simp[Cd])) λhc=>?_
 simp only[Bool.or_eq_true,not_or]at hc;have ha:=nN (n:=a) (l:=1000000000000000) (by omega) (by simpa using hc.1);have sE:=nN (n:=b) (l:=1000000000) (by omega) (by simpa using hc.2.1);have hc':=nN (n:=c) (l:=1000000000) (by omega) (by simpa using hc.2.2);rw[lM _ (n:=a) (by omega),lM _ (n:=b) (by omega)];simp only[aqI]
 refine Wp.seq _ (wa ..) λr hr=>?_
 rw[lM _ (n:=c) (by omega)];simp only[aqI]
 refine Wp.dec (λ_=> .some (by simp[Cd])) λhd=>?_
 have aI:(if c<0 then-c else c)<18446744073709551616:=by split<;>omega
 refine Wp.seq _ (Aj hr.1.1 (by omega) aI) λq _=>?_
 refine Wp.dec (λ_=> .some (by simp[Cd])) λ_=>?_
 refine Wp.seq _ (Wk ..) λx _=>?_
 refine Wp.dec (λ_=> .some (by simp[Cd])) λ_=>?_
 exact Wp.seq _ (CC ..) λy _=> .some (by simp[Cd])
def vh{a b m:Int}(hm:0<=m/\m<=5):Wp (M.fV aJ a b m) λr=>Cd r.2:=by
 unfold M.fV;rw[pB];simp only[aqI,uh];rw[aj (by simp;omega)]
 refine Wp.dec (λ_=> .some (by simp[Cd])) λhb=>?_
 simp only[aQ,aqI,l4]
 refine Wp.ite (λ_=> .some (by simp[Cd])) λhc=>?_
 refine Wp.seq _ (oS _ hm) λr hr=>?_
 refine .some ?_;split
 .exact hr
 .split<;>simp[Cd]
def CD(N:Nat)(m:Int):M.k8 N m=aa (decide (0<=m)&&decide (m<=5)):=pB N m
def Ak(N:Nat)(n l:Int):M.jH N n l=aa (decide (l<n)||decide (n<aqJ.wrap (0-l))):=uh N n l
def DT{a b m:Int}(hm:0<=m/\m<=5):Wp (M.nv aJ a b m) λr=>Cd r.2:=by
 unfold M.nv;rw[CD];simp only[aqI,Ak];rw[aj (by simp;omega)];simp only[aQ,aqI,l4]
 refine Wp.ite (λ_=> .some (by simp[Cd])) λhc=>?_
 refine Wp.seq _ (oS _ hm) λr hr=>?_
 refine .some ?_;split
 .exact hr
 .split<;>simp[Cd]
def CE{a b m:Int}(hm:0<=m/\m<=5):Wp (M.n5 aJ a b m) λr=>Cd r.2:=by
 unfold M.n5
 exact Wp.seq _ (Ns hm) λr hr=> .some hr
def Gq(N:Nat)(a b c:Int)(d:Bool)(e:Int):Wp (M.kq N a b c d e) λ_=>True:=by
 unfold M.kq;simp only[aQ,aqI];exact .some trivial
def wb{a b m:Int}(hm:0<=m/\m<=5):Wp (M.jx aJ a b m) λr=>Cd r.2:=by
 unfold M.jx;rw[CD];simp only[aqI,Ak];rw[aj (by simp;omega)]
 refine Wp.dec (λ_=> .some (by simp[Cd])) λhb=>?_
 simp only[aQ,aqI,l4]
 refine Wp.ite (λ_=> .some (by simp[Cd])) λhc=>?_
 refine Wp.seq _ (wa ..) λr hr=>?_
 refine Wp.dec (λ_=> .some (by simp[Cd])) λhd=>?_
 refine Wp.seq _ (Aj hr.1.1 (by omega) (oD _).2) λq _=>?_
 refine Wp.dec (λ_=> .some (by simp[Cd])) λ_=>?_
 refine Wp.seq _ (Wp.bind (Wp.mono (Gq ..) λx _=>?_)) λj7(_:True)=>?_
 .exact .some trivial
 .exact .some (by split<;>simp[Cd])
def yf(N:Nat)(r:aD.den)(d:Int):Wp (M.bL N r d) λ_=>True:=by
 unfold M.bL M.fE;simp only[aQ,aqI];exact .some trivial
def yG(a b:Int):Wp (M.fO aJ a b) λ_=>True:=by
 unfold M.fO;simp only[aQ,aqI]
 refine Wp.seq _ (wa ..) λr hr=>?_
 refine Wp.dec (λ_=> .some trivial) λhd=>?_
 refine Wp.seq _ (Aj hr.1.1 (by omega) (by omega)) λq _=>?_
 exact .some trivial
def Gr(N:Nat){a b m:Int}(hm:0<=m/\m<=5):Wp (M.iq N a b m) λr=>Cd r.2:=by
 unfold M.iq;simp only[aQ,aqI]
 refine Wp.ite (λ_=> .some (by simp[Cd])) λhc=>?_
 refine Wp.seq _ (oS _ hm) λr hr=>?_
 exact .some (DS hr (DS (Cd3 _) (CB _)))
def tc{t:aP.den}{d k m:Int}(hm:0<=m/\m<=5)(hk:t.2.1=((3,0):Int×Int))(hv:t.2.2.1=((4,0):Int×Int))(hl:t.2.2.2.length<=9223372036854775807):Wp (M.gi aJ t d k m) λr=>Cd r.2:=by
 unfold M.gi;simp only[aQ,aqI,l4];rw[aj (by simp;omega),aj (by rw[hk,hv];simp[o6])]
 refine Wp.ite (λ_=> .some (by simp[Cd])) λhc=>?_
 refine Wp.join (Wp.loop (λs:Int×Int×Int=>∃i:Nat,s.2.2=i/\i<=t.2.2.2.length) (λs=>(t.2.2.2.length-s.2.2).toNat) ⟨0,rfl,aq2 _⟩ (by simp only;unfold aJ;omega) ?_)
 rintro⟨s1,s2,s3⟩ ⟨i,hi,BA⟩
 simp only at hi;subst hi
 refine Wp.dec (λh=>?_) λh=> .some ?_
 .have jn:i<t.2.2.2.length:=by simp only at h;omega
  refine Wp.join ?_;simp only;rw[aF jn];simp only[aqI]
  refine Wp.seq (λ_=>True) ?_ λj8 _=>?_
  .refine Wp.seq _ (yf ..) λy _=>?_
   exact .some trivial
  have nxt:∀a b:Int,vZ (λj6:Int×Int=>aa (arj (j6.1,j6.2,aqJ.wrap ((i:Int)+1)))) (Cy (λs:Int×Int×Int=>∃i:Nat,s.2.2=i/\i<=t.2.2.2.length) (λs=>(t.2.2.2.length-s.2.2).toNat) (s1,s2,(i:Int)) (vZ (λj4:Int×Int=>(M.iq aJ j4.1 j4.2 m).bind λy11=>aa (y11.1,y11.2)) λr:Int×Int=>Cd r.2)) (.inl (a,b)):=by
   intro a b;refine .some ?_;rw[aU (by omega)];exact⟨⟨i+1,rfl,jn⟩,by simp only;omega⟩
  refine Wp.ite (λ_=> .some (nxt _ _)) λ_=>?_
  refine Wp.seq _ (yG ..) λy _=>?_
  refine .some ?_;split
  .show Cd _
   simp[Cd]
  .exact nxt _ _
 .show Wp _ _
  exact Wp.seq _ (Gr _ hm) λr hr=> .some hr
def QE(l:List fT.den)(a b:Int)(hl:l.length<=9223372036854775807):Wp (M.db aJ l a b) λr=>r.2.1=af->0<=r.1/\r.1<l.length:=by
 unfold M.db;refine Wp.loop (λs:Int×Int×Int=>∃i:Nat,s.1=i/\i<=l.length) (λs=>(l.length-s.1).toNat) ⟨0,rfl,aq2 _⟩ (by simp only;unfold aJ;omega) ?_
 rintro⟨s1,s2,s3⟩ ⟨i,hi,BA⟩
 simp only at hi;subst hi
 refine Wp.dec (λh=>?_) λh=> .some λh=>by cases h
 have jn:i<l.length:=by simp only at h;omega
 simp only;rw[aF jn];simp only[aqI]
 refine Wp.seq (λ_=>True) ?_ λy _=>?_
 .unfold M.im
  refine Wp.seq (λ_=>True) (Wp.seq _ (yf ..) λy _=>?_) λj _=> .some trivial
  simp only[aQ];exact .some trivial
 .refine Wp.ite (λ_=> .some λ_=>⟨by simp only;omega,by simp only;omega⟩) λ_=> .some ?_
  rw[aU (by omega)];exact⟨⟨i+1,rfl,jn⟩,by simp only;omega⟩
def xz(t:aP.den)(a b:Int)(hl:t.2.2.2.length<=9223372036854775807):Wp (M.jN aJ t a b) λr=>r.2=af->0<=r.1/\r.1<t.2.2.2.length:=by
 unfold M.jN
 exact Wp.seq _ (QE _ a b hl) λr hr=> .some hr
def ui(N:Nat)(d:Int):M.jP N d=aa (decide (0<=d)&&decide (d<=109572)):=by
 unfold M.jP;simp only[aQ,aqI,kj]
def nO(N:Nat)(y m:Int):Wp (M.dV N y m) λr=>0<=r/\r<=31:=by
 unfold M.dV M.oL;simp only[aQ,aqI,l4,kj]
 refine Wp.ite (λ_=> .some (by omega)) λhc=>?_
 refine Wp.ite (λ_=> .some (by omega)) λ_=>?_
 have hm:1<=m/\m<=12:=by simp at hc;omega
 rw[aH (by omega) (by omega)]
 have:m=1\/m=2\/m=3\/m=4\/m=5\/m=6\/m=7\/m=8\/m=9\/m=10\/m=11\/m=12:=by omega
 rcases this with rfl|rfl|rfl|rfl|rfl|rfl|rfl|rfl|rfl|rfl|rfl|rfl<;>exact⟨_,rfl,by decide⟩
def rU(N:Nat)(y:Int):Wp (M.fq N y) λ_=>True:=by
 unfold M.fq M.k7;simp only[aqI];exact .some trivial
def rk(d:Int):Wp (M.fu aJ d) λ_=>True:=by
 unfold M.fu;rw[ui];simp only[aqI]
 refine Wp.ite (λ_=> .some trivial) λhv=>?_
 have hd:0<=d/\d<=109572:=by simpa using hv
 have h0:aqW d 366=d/366:=aq0 hd.1;have hw:aqJ.wrap (d/366)=d/366:=aH (by omega) (by omega);have hw2:aqJ.wrap (1900+d/366)=1900+d/366:=aH (by omega) (by omega);rw[h0,hw,hw2]
 refine Wp.seq (λ_=>True) (Wp.loop (λy:Int=>1900<=y/\y<=2199) (λy=>(2199-y).toNat) (by omega) (by unfold aJ;omega) ?_) λy _=>?_
 .rintro y ⟨h1,h2⟩
  by_cases hy:y=2199
  .subst hy
   have e:M.fq aJ (aqJ.wrap ((2199:Int)+1))=aa 109573:=by show(_:Option Int)=_;kernel_rfl
   rw[e];simp only[aqI];rw[aj (by simp;omega)];exact .some trivial
  .refine Wp.seq _ (rU ..) λz _=>?_
   refine Wp.dec (λ_=> .some ?_) λ_=> .some trivial
   rw[aH (by omega) (by omega)];exact⟨by omega,by simp only;omega⟩
 .refine Wp.seq _ (rU ..) λz _=>?_
  refine Wp.loop (λs:Int×Int=>∃i:Nat,s.2=i/\i<=12) (λs=>(12-s.2).toNat) ⟨0,rfl,by omega⟩ (by simp only;unfold aJ;omega) ?_
  rintro⟨a,b⟩ ⟨i,hi,BA⟩
  simp only at hi;subst hi
  refine Wp.dec (λh=>?_) λ_=> .some trivial
  refine Wp.seq _ (nO ..) λw _=>?_
  refine Wp.dec (λ_=> .some trivial) λ_=> .some ?_
  simp only at h⊢;rw[aU (by omega)];exact⟨⟨i+1,rfl,by omega⟩,by simp only;omega⟩
def Jo(y m d:Int):Wp (M.lu aJ y m d) λr=>Cd r.2:=by
 unfold M.lu
 refine Wp.seq (λj=>j=ah->1<=m/\m<=12) ?_ λj hj=>?_
 .refine Wp.dec (λ_=> .some (λh=>by cases h)) λ_=>Wp.dec (λ_=> .some (λh=>by cases h)) λ_=>Wp.dec (λ_=> .some (λh=>by cases h)) λh1=>Wp.dec (λ_=> .some (λh=>by cases h)) λh2=>Wp.dec (λ_=> .some (λh=>by cases h)) λ_=>?_
  exact Wp.seq _ (nO ..) λw _=> .some λ_=>⟨by omega,by omega⟩
 .refine Wp.ite (λ_=> .some (by simp[Cd])) λhc=>?_
  have hm:=hj (by simpa using hc)
  refine Wp.seq _ (rU ..) λz _=>?_
  refine Wp.seq (λ_=>True) (Wp.loop (λs:Int×Int=>∃i:Nat,s.2=i/\i<=12) (λs=>(13-s.2).toNat) ⟨0,rfl,by omega⟩ (by simp only;unfold aJ;omega) ?_) λw _=> .some (by simp[Cd])
  rintro⟨a,b⟩ ⟨i,hi,BA⟩
  simp only at hi;subst hi
  refine Wp.dec (λh=>?_) λ_=> .some trivial
  refine Wp.seq _ (nO ..) λw _=> .some ?_
  simp only at h⊢;rw[aH (n:=m-1) (by omega) (by omega)]at h;rw[aU (by omega)];exact⟨⟨i+1,rfl,by omega⟩,by simp only;omega⟩
def pC(d n:Int):Wp (M.dP aJ d n) λr=>Cd r.2:=by
 unfold M.dP;rw[ui];simp only[aQ,aqI,l4]
 refine Wp.ite (λ_=> .some (by simp[Cd])) λhc=>?_
 refine Wp.seq _ (rk ..) λy _=>?_
 refine Wp.ite (λ_=> .some (by simp[Cd])) λ_=>?_
 refine Wp.seq _ (nO ..) λw _=>?_
 exact Wp.seq _ (Jo ..) λr hr=> .some hr
def pf(a b:Int):Wp (M.fx aJ a b) λ_=>True:=by
 unfold M.fx;rw[ui,ui];simp only[aQ,aqI,l4]
 refine Wp.ite (λ_=> .some trivial) λ_=>?_
 refine Wp.seq _ (rk ..) λy _=>Wp.seq _ (rk ..) λz _=>?_
 refine Wp.seq (λ_=>True) (Wp.seq _ (pC ..) λr _=>?_) λj _=> .some trivial
 exact .some trivial
end L.P
namespace L.P
def HZ(m:Int)(neg:Bool)(q r d:Nat):Bool:=
 if m=0 then neg&&decide (0<r)else if m=1 then !neg&&decide (0<r)else if m=3 then decide (0<r)else if m=4 then decide (d<=r+r)else if m=5 then decide (d<r+r\/(d=r+r/\q%2=1))else ah
def sD(m:Int)(neg:Bool)(q r d:Nat):Nat:=if HZ m neg q r d=af then q+1 else q
def sg(neg:Bool)(q:Nat):Int:=if neg=af then-(q:Int)else(q:Int)
def ng(a b:Int):Bool:= !decide (decide (a<0)=decide (b<0))
def ry(m:Int):Prop:=0<=m/\m<=5
instance(m:Int):Decidable (ry m):=by unfold ry;infer_instance
theorem td(m:Int)(neg:Bool)(q r d:Nat):q<=sD m neg q r d/\sD m neg q r d<=q+1:=by unfold sD;split<;>omega
theorem Gs(m:Int)(neg:Bool)(q:Nat){d:Nat}(hd:0<d):HZ m neg q 0 d=ah:=by
 grind [P.HZ]
theorem Al(m:Int)(neg:Bool)(q:Nat){d:Nat}(hd:0<d):sD m neg q 0 d=q:=by
 unfold sD;rw[Gs m neg q hd];rfl
def oT(N:Nat)(m:Int)(neg:Bool){q r d:Nat}(hq:q<=4611686018427387904)(hr:r<d)(hd:d<=4611686018427387904):M.gR N (q:Int) (r:Int) (d:Int) neg m=aa (sg neg (sD m neg q r d)):=by
 have hw:aqJ.wrap ((d:Int)-(r:Int))=(d:Int)-r:=aH (by omega) (by omega)
 have ht:aqY (q:Int) 2=((q%2:Nat):Int):=by rw[aq3 (by omega)];omega
 have e1:((if(decide (m=(0:Int)))=af then(if neg=af then aa (decide ((0:Int)<(r:Int)))else aa ah)else(if(decide (m=(1:Int)))=af then(if(!neg)=af then aa (decide ((0:Int)<(r:Int)))else aa ah)else
  (if(decide (m=(3:Int)))=af then aa (decide ((0:Int)<(r:Int)))else(if(decide (m=(4:Int)))=af then aa (decide ((d:Int)-r<=(r:Int)))else(if(decide (m=(5:Int)))=af then(if(decide ((d:Int)-r<(r:Int)))=af then aa af else
  (if(decide ((r:Int)=(d:Int)-r))=af then aa (decide (((q%2:Nat):Int)=(1:Int)))else aa ah))else aa ah))))):Option Bool)=aa (HZ m neg q r d):=by
  unfold HZ;by_cases h0:m=0
  .subst h0;cases neg<;>simp
  by_cases h1:m=1
  .subst h1;cases neg<;>simp
  by_cases h3:m=3
  .subst h3;simp
  by_cases h4:m=4
  .subst h4;simp;omega
  by_cases h5:m=5
  .subst h5;simp only[aQ,decide_true,if_true,arZ,decide_false,aqM,if_false];refine ay aa ?_
   grind
  simp[h0,h1,h3,h4,h5]
 unfold M.gR;rw[hw,ht,e1];have hu:=td m neg q r d
 have e2:((if HZ m neg q r d=af then aa (aqJ.wrap ((q:Int)+(1:Int)))else aa (q:Int)):Option Int)=aa ((sD m neg q r d:Nat):Int):=by
  unfold sD;split
  .rw[aH (by omega) (by omega)];rfl
  .rfl
 grind [P.sg,aH]
def yg(N:Nat){m:Int}(neg:Bool){q r d:Nat}(hq:q<=4611686018427387904)(hr:r<d)(hd:d<=4611686018427387904):M.dO N (q:Int) (r:Int) (d:Int) neg m=aa ((sD m neg q r d:Nat):Int):=by
 unfold M.dO;by_cases hz:r=0
 .grind [P.Al]
 rw[aj (by simpa using hz)];have hw:aqP.wrap ((d:Int)-(r:Int))=(d:Int)-r:=mb (by omega) (by omega)
 have ht:aqY (q:Int) 2=((q%2:Nat):Int):=by rw[aq3 (by omega)];omega
 have e1:((if(decide (m=(0:Int)))=af then aa neg else(if(decide (m=(1:Int)))=af then aa (!neg)else(if(decide (m=(3:Int)))=af then aa af else(if(decide (m=(4:Int)))=af then aa (decide ((d:Int)-r<=(r:Int)))else
  (if(decide (m=(5:Int)))=af then(if(decide ((d:Int)-r<(r:Int)))=af then aa af else(if(decide ((r:Int)=(d:Int)-r))=af then aa (decide (((q%2:Nat):Int)=(1:Int)))else aa ah))else aa ah))))):Option Bool)=aa (HZ m neg q r d):=by
  unfold HZ;by_cases h0:m=0
  .subst h0;simp;omega
  by_cases h1:m=1
  .subst h1;simp;omega
  by_cases h3:m=3
  .subst h3;simp;omega
  by_cases h4:m=4
  .subst h4;simp;omega
  by_cases h5:m=5
  .subst h5;simp only[aQ,decide_true,if_true,arZ,decide_false,aqM,if_false];refine ay aa ?_
   grind
  simp[h0,h1,h3,h4,h5]
 grind [P.sD,P.mb]
def Gt(N:Nat){m:Int}(neg:Bool){q r d:Nat}(hr:r<d)(hd:d<=4611686018427387904):M.kq N (q:Int) (r:Int) (d:Int) neg m=aa (HZ m neg q r d):=by
 unfold M.kq;by_cases hz:r=0
 .grind [P.Gs]
 rw[aj (by simpa using hz)];have hw:aqP.wrap ((d:Int)-(r:Int))=(d:Int)-r:=mb (by omega) (by omega)
 have ht:aqY (q:Int) 2=((q%2:Nat):Int):=by rw[aq3 (by omega)];omega
 rw[hw,ht];unfold HZ;by_cases h0:m=0
 .subst h0;simp;omega
 by_cases h1:m=1
 .subst h1;simp;omega
 by_cases h3:m=3
 .subst h3;simp;omega
 by_cases h4:m=4
 .subst h4;simp;omega
 by_cases h5:m=5
 .subst h5;simp only[aQ,aqI,decide_true,if_true,arZ,decide_false,aqM,if_false];refine ay aa ?_
  grind
 grind
theorem CF(N:Nat){q:Nat}(hq:q<=4611686018427387905)(neg:Bool):M.jO N (q:Int) neg=aa (sg neg q):=by
 grind [M.jO,P.sg,aH]
def Am(N:Nat){n:Int}(h: -4611686018427387904<=n/\n<=4611686018427387904):M.eN N n=aa ((n.natAbs:Nat):Int):=by
 grind [P.lM]
def uj(N:Nat){n:Int}(h: -4611686018427387904<=n/\n<=4611686018427387904):M.lJ N n=aa ((n.natAbs:Nat):Int):=by
 grind [M.lJ,aH]
def rm(N:Nat)(m:Int):M.mM N m=aa (decide (ry m)):=by
 unfold M.mM;simp only[aQ,aqI,kj]
 grind [P.ry]
def wc(N:Nat)(m:Int):M.gB N m=aa (decide (ry m)):=rm N m
def An(N:Nat)(m:Int):M.k8 N m=aa (decide (ry m)):=rm N m
def jK(n l:Int):Prop:=l<n\/n< -l
instance(n l:Int):Decidable (jK n l):=by unfold jK;infer_instance
theorem qw(N:Nat)(n:Int){l:Int}(hl:0<=l/\l<=9000000000000000000):M.dY N n l=aa (decide (jK n l)):=by
 unfold M.dY;rw[aH (by omega) (by omega)];simp only[aQ,aqI,l4,Int.zero_sub]
 grind [P.jK]
def DU(N:Nat)(n:Int){l:Int}(hl:0<=l/\l<=9000000000000000000):M.fm N n l=aa (decide (jK n l)):=qw N n hl
def KY(N:Nat)(n:Int){l:Int}(hl:0<=l/\l<=9000000000000000000):M.jH N n l=aa (decide (jK n l)):=qw N n hl
def we(N:Nat)(n:Int){l:Int}(hl:0<=l/\l<=9000000000000000000):M.fX N n l=aa (decide (jK n l)):=by
 unfold M.fX;rw[aH (by omega) (by omega)];simp only[aQ,aqI,l4,Int.zero_sub]
 grind [P.jK]
def DV(m:Int):((if(decide (m<(0:Int)))=af then aa af else aa (decide ((5:Int)<m))):Option Bool)=aa (!decide (ry m)):=by
 rw[aQ]
 grind [P.ry]
def QF(a b l:Int):((if(decide (jK a l))=af then aa af else aa (decide (jK b l))):Option Bool)=aa (decide (jK a l\/jK b l)):=by
 grind
def OE(n d m:Int):Int×Int:=
 if¬ry m then(0,1)else if d=0 then(0,12)else if jK n 4611686018427387904\/jK d 4611686018427387904 then(0,3)else
  (sg (ng n d) (sD m (ng n d) (n.natAbs/d.natAbs) (n.natAbs%d.natAbs) d.natAbs),0)
theorem KZ{n d m:Int}(h:¬ry m):OE n d m=(0,1):=al h
theorem Gu{n d m:Int}(h:ry m)(h1:d=0):OE n d m=(0,12):=by grind [P.OE]
theorem K0{n d m:Int}(h:ry m)(h1:d≠0)(h2:jK n 4611686018427387904\/jK d 4611686018427387904):OE n d m=(0,3):=by grind [P.OE]
theorem Ao{n d m:Int}(h:ry m)(h1:d≠0)(h2:¬(jK n 4611686018427387904\/jK d 4611686018427387904)):OE n d m=(sg (ng n d) (sD m (ng n d) (n.natAbs/d.natAbs) (n.natAbs%d.natAbs) d.natAbs),0):=by grind [P.OE]
theorem nP{a:Nat}(h:a<=9223372036854775807):aqJ.wrap (a:Int)=(a:Int):=aH (by omega) (by omega)
theorem qx(N:Nat)(n d m:Int):M.fo N n d m=aa (OE n d m):=by
 unfold M.fo;simp only[wc,aqI,DU N _ (l:=4611686018427387904) (by omega),QF];by_cases hm:ry m
 .rw[aj (by simpa using hm)];by_cases hd:d=0
  .grind [P.Gu]
  .rw[aj (by simpa using hd)];by_cases hb:jK n 4611686018427387904\/jK d 4611686018427387904
   .grind [P.K0]
   .rw[aj (by simpa using hb),Ao hm hd hb];unfold jK at hb
    have QG:d.natAbs≠0:=by omega
    have h1:n.natAbs/d.natAbs<=n.natAbs:=arU _ _;have h2:n.natAbs%d.natAbs<d.natAbs:=arW _ (by omega);have h3:=td m (ng n d) (n.natAbs/d.natAbs) (n.natAbs%d.natAbs) d.natAbs;rw[Am N (n:=n) (by omega),Am N (n:=d) (by omega),aqI,aqI,sy _ _ QG,DQ _ _ QG,aqI,aqI,qJ (by omega),yg N _ (by omega) h2 (by omega),aqI]
    grind [P.ng,P.CF]
 grind [P.KZ]
def wh(N:Nat)(n d m:Int):M.nI N n d m=aa (OE n d m):=by
 unfold M.nI;simp only[rm,aqI,qw N _ (l:=4611686018427387904) (by omega),QF];by_cases hm:ry m
 .rw[aj (by simpa using hm)];by_cases hd:d=0
  .grind [P.Gu]
  .rw[aj (by simpa using hd)];by_cases hb:jK n 4611686018427387904\/jK d 4611686018427387904
   .grind [P.K0]
   .rw[aj (by simpa using hb),Ao hm hd hb];unfold jK at hb
    have QG:d.natAbs≠0:=by omega
    have h1:n.natAbs/d.natAbs<=n.natAbs:=arU _ _;have h2:n.natAbs%d.natAbs<d.natAbs:=arW _ (by omega);rw[uj N (n:=n) (by omega),uj N (n:=d) (by omega),aqI,aqI,sy _ _ QG,DQ _ _ QG,aqI,aqI,nP (by omega),oT N _ _ (by omega) h2 (by omega),aqI];rfl
 grind [P.KZ]
theorem Gv(neg:Bool)(q:Nat):(sg neg q).natAbs=q:=by unfold sg;split<;>omega
def Jp(neg:Bool)(q:Nat):sg neg q=q\/sg neg q= -(q:Int):=by unfold sg;split<;>simp
theorem Jq(n:Int){d:Int}(hd:0<d):ng n d=decide (n<0):=by
 grind [P.ng]
def Jr(N:Nat)(c u m:Int):M.fV N c u m=M.mr N c u m:=by
 unfold M.fV M.mr;simp only[wc,rm,aqI,DU N _ (l:=1000000000000000) (by omega),qw N _ (l:=1000000000000000) (by omega),aQ,l4];by_cases hm:ry m
 case neg=>grind
 simp only[hm,decide_true,ari,aqM,if_false];by_cases hu:u<1
 .grind
 simp only[hu,decide_false,aqM,if_false]
 cases hb:(decide (jK c 1000000000000000)||decide (1000000000000000<u))
 case true=>grind
 simp only[aqM,if_false];rw[Bool.or_eq_false_iff,aB,aB]at hb;unfold jK at hb
 obtain⟨U,rfl⟩:∃U:Nat,u=(U:Int):=⟨u.toNat,by omega⟩
 have QG:U≠0:=by omega
 have h1:c.natAbs/U<=c.natAbs:=arU _ _;have h2:c.natAbs%U<U:=arW _ (by omega);rw[qx,aqI,uj N (n:=c) (by omega),aqI,sy _ _ QG,DQ _ _ QG,aqI,aqI,nP (by omega),oT N _ _ (by omega) h2 (by omega),aqI]
 grind [P.Ao,P.jK,P.Jq]
end L.P
namespace L.P
def Ux(c x m:Int):Int×Int:=
 if¬ry m then(0,1)else if jK c 1000000000000000\/jK x 1000000000 then(0,3)else
  if 1000000000000000<sD m (ng c x) (c.natAbs*x.natAbs/1000000) (c.natAbs*x.natAbs%1000000) 1000000 then(0,3)
  else(sg (ng c x) (sD m (ng c x) (c.natAbs*x.natAbs/1000000) (c.natAbs*x.natAbs%1000000) 1000000),0)
def K1{c x m:Int}(h:¬ry m):Ux c x m=(0,1):=al h
def K2{c x m:Int}(h:ry m)(h2:jK c 1000000000000000\/jK x 1000000000):Ux c x m=(0,3):=by unfold Ux;rw[aj (Decidable.not_not.2 h),al h2]
def QH{c x m:Int}(h:ry m)(h2:¬(jK c 1000000000000000\/jK x 1000000000)){P:Nat}(hP:P=c.natAbs*x.natAbs):Ux c x m=if 1000000000000000<sD m (ng c x) (P/1000000) (P%1000000) 1000000 then(0,3)else(sg (ng c x) (sD m (ng c x) (P/1000000) (P%1000000) 1000000),0):=by subst hP;unfold Ux;rw[aj (Decidable.not_not.2 h),aj h2]
def abA(a b:Int):((if(decide (jK a 1000000000000000))=af then aa af else(if(decide (jK b 1000000000))=af then aa af else aa (decide (jK (1000000:Int) 1000000000)))):Option Bool)=aa (decide (jK a 1000000000000000\/jK b 1000000000)):=by
 rw[show decide (jK (1000000:Int) 1000000000)=ah by decide];simp only[aQ,l4,Bool.decide_or,Bool.or_false]
def ng6(c x:Int):(!decide ((!decide ((decide (c<(0:Int)))=(decide (x<(0:Int)))))=(decide ((1000000:Int)<(0:Int)))))=ng c x:=by
 unfold ng;rw[show decide ((1000000:Int)<0)=ah by decide]
 cases decide (c<0)<;>cases decide (x<0)<;>rfl
theorem Nt(c x m:Int):M.n5 aJ c x m=aa (Ux c x m):=by
 unfold M.n5 M.nu;simp only[wc,aqI,DU aJ _ (l:=1000000000000000) (by omega),DU aJ _ (l:=1000000000) (by omega),abA,ng6];by_cases hm:ry m
 .rw[aj (by simpa using hm),aj (by simp)];by_cases hb:jK c 1000000000000000\/jK x 1000000000
  .rw[al (by simpa using hb),K2 hm hb];rfl
  .obtain⟨P,hP⟩:∃P,P=c.natAbs*x.natAbs:=⟨_,rfl⟩
   rw[aj (by simpa using hb),QH hm hb hP];unfold jK at hb;have hPb:P<=1000000000000000*1000000000:=hP▸Nat.mul_le_mul (by omega) (by omega);rw[Am aJ (n:=c) (by omega),Am aJ (n:=x) (by omega),aqI,aqI,v8 aJ (by omega) (by omega),aqI,Am aJ (n:=1000000) (by omega),aqI,<-hP];dsimp only;rw[show((1000000:Int).natAbs:Int)=((1000000:Nat):Int)from rfl];by_cases h1:1000000<=P/18446744073709551616
   .rw[al (by simp;omega),al]
    .rfl
    .have:=td m (ng c x) (P/1000000) (P%1000000) 1000000;omega
   .rw[aj (by simp;omega),Ai (by omega) (by omega) (by omega),aqI]
    have e1:P/18446744073709551616*18446744073709551616+P%18446744073709551616=P:=by omega
    rw[e1];dsimp only;have hu:=td m (ng c x) (P/1000000) (P%1000000) 1000000;by_cases h2:1000000000000000<P/1000000
    .rw[al (by simp;omega),al (by omega)];rfl
    .rw[aj (by simp;omega),yg aJ _ (by omega) (by omega) (by omega),aqI];by_cases h3:1000000000000000<sD m (ng c x) (P/1000000) (P%1000000) 1000000
     .rw[al (by simp;omega),al h3];rfl
     .rw[aj (by simp;omega),aj h3,CF aJ (by omega)];rfl
 .rw[al (by simpa using hm),K1 hm];rfl
theorem Js(N:Nat)(c x m:Int):M.qn N c x m=aa (Ux c x m):=by
 unfold M.qn M.rQ;simp only[rm,aqI,qw N _ (l:=1000000000000000) (by omega),qw N _ (l:=1000000000) (by omega),abA,ng6];by_cases hm:ry m
 .rw[aj (by simpa using hm),aj (by simp)];by_cases hb:jK c 1000000000000000\/jK x 1000000000
  .rw[al (by simpa using hb),K2 hm hb];rfl
  .rw[aj (by simpa using hb),QH hm hb rfl];unfold jK at hb;rw[uj N (n:=c) (by omega),uj N (n:=x) (by omega),uj N (n:=1000000) (by omega),aqI,aqI,aqI];rw[show((1000000:Int).natAbs:Int)=((1000000:Nat):Int)from rfl]
   obtain⟨A,hA,hAb⟩:∃A,A=c.natAbs/\A<=1000000000000000:=⟨_,rfl,by omega⟩
   obtain⟨X,hX,hXb⟩:∃X,X=x.natAbs/\X<=1000000000:=⟨_,rfl,by omega⟩
   rw[<-hA,<-hX]
   have hAX:A*X=1000000*(A/1000000*X)+A%1000000*X:=by
    have:=arT A 1000000;rw[<-Nat.mul_assoc,<-aro,this]
   have hp:A%1000000*X<=999999*1000000000:=Nat.mul_le_mul (by omega) hXb
   have hu:∀q r,q<=sD m (ng c x) q r 1000000/\sD m (ng c x) q r 1000000<=q+1:=λq r=>td _ _ _ _ _
   have hq:A*X/1000000=A/1000000*X+A%1000000*X/1000000:=by rw[hAX];omega
   have hr:A*X%1000000=A%1000000*X%1000000:=by rw[hAX];omega
   rw[hq,hr];by_cases h0:(0:Nat)<X/\1000000000000000/X<A/1000000
   .have Gw:1000000000000000<A/1000000*X:=by
     rw[arq h0.1]at h0;exact h0.2
    obtain⟨K,hK⟩:∃K,K=1000000000000000/X:=⟨_,rfl⟩
    have hKb:K<=1000000000000000:=hK▸arU _ _;rw[al (by simp;omega),sy _ _ (by omega),show(1000000000000000:Int)=((1000000000000000:Nat):Int)from rfl,sy _ _ (by omega),<-hK,aqI,aqI,aqI,nP (by omega),nP (by omega),al (by rw[<-hK]at h0;simp;omega),al]
    .rfl
    .have:=(hu (A/1000000*X+A%1000000*X/1000000) (A%1000000*X%1000000)).1;omega
   .have lU:A/1000000*X<=1000000000000000:=by
     rcases Nat.eq_zero_or_pos X with e|e
     .subst e;simp
     .have h9:A/1000000<=1000000000000000/X:=by omega
      rw[Nat.le_div_iff_mul_le e]at h9;exact h9
    have c0:((if(decide ((0:Int)<(X:Int)))=af then(nU (A:Int) ((1000000:Nat):Int)).bind λWl=>(nU (1000000000000000:Int) (X:Int)).bind λUy=>aa (decide ((aqJ.wrap Uy)<(aqJ.wrap Wl)))else aa ah):Option Bool)=aa ah:=by
     by_cases e:X=0
     .rw[aj (by simp;omega)]
     .obtain⟨K,hK⟩:∃K,K=1000000000000000/X:=⟨_,rfl⟩
      have hKb:K<=1000000000000000:=hK▸arU _ _;rw[<-hK]at h0;rw[al (by simp;omega),sy _ _ (by omega),show(1000000000000000:Int)=((1000000000000000:Nat):Int)from rfl,sy _ _ e,<-hK,aqI,aqI,nP (by omega),nP (by omega)];refine ay aa ?_;rw[aB];omega
    rw[c0,aqI,aj (by simp),DQ _ _ (by omega),aqI,sy _ _ (by omega),aqI,<-arx,nP (by omega),sy _ _ (by omega),aqI,DQ _ _ (by omega),aqI,nP (a:=A/1000000) (by omega),<-arx,nP (a:=A/1000000*X) (by omega),nP (a:=A%1000000*X/1000000) (by omega),<-Int.natCast_add,nP (by omega),oT N _ _ (by omega) (by omega) (by omega),aqI]
    obtain⟨Q,hQ⟩:∃Q,Q=sD m (ng c x) (A/1000000*X+A%1000000*X/1000000) (A%1000000*X%1000000) 1000000:=⟨_,rfl⟩
    rw[<-hQ];have hs:=Jp (ng c x) Q;by_cases h3:1000000000000000<Q
    .rw[al (au (show jK _ _ by unfold jK;omega)),al h3];rfl
    .rw[aj (by rw[az];unfold jK;omega),aj h3];rfl
 .rw[al (by simpa using hm),K1 hm];rfl
end L.P
namespace L.P
def RU(m F:Int)(R d:Nat):Prop:=m=1\/(m=2/\F<0)\/(m=3/\0<=F)\/(m=4/\(d<R+R\/(d=R+R/\0<=F)))\/(m=5/\(d<R+R\/(d=R+R/\F%2≠0)))
instance(m F:Int)(R d:Nat):Decidable (RU m F R d):=by unfold RU;infer_instance
def Gx(N:Nat){m:Int}(hm:ry m){F:Int}{R d:Nat}(hR:R≠0)(hRd:R<d)(zk:d<=4611686018427387904)(hF: -4500000000000000000<=F/\F<=4500000000000000000):
 M.jc N F (R:Int) (d:Int) m=aa (if RU m F R d then F+1 else F):=by
 unfold M.jc;rw[aj (by simpa using hR)];have hw:aqJ.wrap ((d:Int)-(R:Int))=(d:Int)-R:=aH (by omega) (by omega);have ET:aqJ.wrap (F+1)=F+1:=aH (by omega) (by omega);rw[hw,ET]
 have ht:aqY F 2=0↔F%2=0:=by
  constructor
  .grind
  .grind
 generalize aqY F 2=p at ht⊢;unfold ry at hm
 have hc:m=0\/m=1\/m=2\/m=3\/m=4\/m=5:=by omega
 have key:∀(b:Bool),(b=af↔RU m F R d)->((if b=af then aa (F+1)else aa F):Option Int)=aa (if RU m F R d then F+1 else F):=by
  intro b hb;by_cases c:RU m F R d
  .grind
  .grind
 rcases hc with rfl|rfl|rfl|rfl|rfl|rfl
 all_goals simp only[aQ,aqI,arZ,decide_true,decide_false,aqM,if_true,if_false,l4,kj]at key⊢
 all_goals grind [P.RU]
def wi(N:Nat){m:Int}(hm:ry m)(neg:Bool){F:Int}{R q r d:Nat}(hd:0<d)(zk:d<=4611686018427387904)(hr:r<d)(hq:q<=4000000000000000000)
 (h:(neg=ah/\F=q/\R=r)\/(neg=af/\r=0/\R=0/\F= -(q:Int))\/(neg=af/\0<r/\R=d-r/\F= -(q:Int)-1)):
 M.jc N F (R:Int) (d:Int) m=aa (sg neg (sD m neg q r d)):=by
 by_cases hR:R=0
 .grind [M.jc,P.Al,P.sg]
 rw[Gx N hm hR (by omega) zk (by omega)];refine ay aa ?_;unfold ry at hm
 have hc:m=0\/m=1\/m=2\/m=3\/m=4\/m=5:=by omega
 rcases h with⟨rfl,rfl,rfl⟩|⟨rfl,h1,h2,h3⟩|⟨rfl,h1,h2,rfl⟩
 .have e:HZ m ah q R d=af↔RU m (q:Int) R d:=by
   unfold HZ RU
   rcases hc with rfl|rfl|rfl|rfl|rfl|rfl<;>simp<;>omega
  grind [P.sD,P.sg]
 .omega
 .have e:HZ m af q r d=af↔¬RU m (-(q:Int)-1) R d:=by
   unfold HZ RU
   rcases hc with rfl|rfl|rfl|rfl|rfl|rfl<;>simp<;>omega
  grind [P.sD,P.sg]
def yh{X F:Int}{R D:Nat}{neg:Bool}(hR:R<D)(h:F*D+R=X)(h1:0<X->neg=ah)(h2:X<0->neg=af):
 (neg=ah/\F=((X.natAbs/D:Nat):Int)/\R=X.natAbs%D)\/(neg=af/\X.natAbs%D=0/\R=0/\F= -((X.natAbs/D:Nat):Int))\/(neg=af/\0<X.natAbs%D/\R=D-X.natAbs%D/\F= -((X.natAbs/D:Nat):Int)-1):=by
 cases neg with
 |false=>
  have hX:0<=X:=by
   rcases asi X 0 with c|c
   .cases h2 c
   .exact c
  have hF:0<=F:=by
   rcases asi F 0 with c|c
   .have:=ar6 (show F<=-1 by omega) (show(0:Int)<=D by omega);omega
   .exact c
  obtain⟨f,rfl⟩:∃f:Nat,F=f:=⟨F.toNat,by omega⟩
  have e:X.natAbs=D*f+R:=by
   rw[<-arx,aru]at h;omega
  rw[e];refine .inl ⟨rfl,?_,?_⟩
  .rw[Nat.mul_add_div (by omega),Nat.div_eq_of_lt hR,Nat.add_zero]
  .rw[Nat.mul_add_mod,Nat.mod_eq_of_lt hR]
 |true=>
  have hX:X<=0:=by
   rcases asi 0 X with c|c
   .cases h1 c
   .exact c
  have hF:F<=0:=by
   rcases asi 0 F with c|c
   .have:=ar6 (show 1<=F by omega) (show(0:Int)<=D by omega);omega
   .exact c
  obtain⟨f,hf⟩:∃f:Nat,F= -(f:Int):=⟨F.natAbs,by omega⟩
  subst hf;rw[Int.neg_mul,<-arx,aru]at h;by_cases hR0:R=0
  .subst hR0
   have e:X.natAbs=D*f:=by omega
   simp_all
  .have hf1:1<=f:=by
    rcases Nat.eq_zero_or_pos f with c|c
    .subst c;omega
    .exact c
   obtain⟨g,rfl⟩:∃g,f=g+1:=⟨f-1,by omega⟩
   rw[Nat.mul_add,Nat.mul_one]at h
   have e:X.natAbs=D*g+(D-R):=by omega
   rw[e,Nat.mul_add_mod,Nat.mod_eq_of_lt (by omega),Nat.mul_add_div (by omega),Nat.div_eq_of_lt (by omega),Nat.add_zero]
   grind
def CG(N:Nat){X:Int}{D:Nat}(hD:0<D)(hD2:D<=4000000000000000000)(hX:X.natAbs<=4000000000000000000):∃(F:Int)(R:Nat),M.oP N X (D:Int)=aa (F,(R:Int))/\R<D/\F*D+R=X/\-(X.natAbs:Int)-1<=F/\F<=X.natAbs:=by
 unfold M.oP;have OD:=arT X.natAbs D;have hm:=arW X.natAbs hD;have hq:=arU X.natAbs D
 rcases asi X 0 with c|c
 .have eX:X= -(X.natAbs:Int):=by omega
  have q1:nU X (D:Int)=aa (-((X.natAbs/D:Nat):Int)):=by
   unfold nU;rw[aj (by omega)]
   conv=>lhs;rw[eX]
   rw[Int.neg_tdiv,aq0 (by omega)];simp
  have q2:sJ X (D:Int)=aa (-((X.natAbs%D:Nat):Int)):=by
   unfold sJ;rw[aj (by omega)]
   conv=>lhs;rw[eX]
   rw[Int.neg_tmod,aq3 (by omega)];simp
  rw[q1,q2,aqI,aqI];generalize X.natAbs/D=Q at OD hq⊢;generalize X.natAbs%D=R at OD hm⊢;rw[aH (n:= -(Q:Int)) (by omega) (by omega)]
  have hQD:(Q:Int)*D=((D*Q:Nat):Int):=by rw[aru];exact(arx _ _).symm
  by_cases hz:R=0
  .subst hz;refine⟨-(Q:Int),0,?_,hD,?_,by omega,by omega⟩
   .rw[aj (by simp)];rfl
   grind
  .refine⟨-(Q:Int)-1,D-R,?_,by omega,?_,by omega,by omega⟩
   all_goals grind [aH]
 .obtain⟨x,rfl⟩:∃x:Nat,X=x:=⟨X.toNat,by omega⟩
  rw[Int.natAbs_natCast]at*;rw[sy _ _ (by omega),DQ _ _ (by omega),aqI,aqI];generalize x/D=Q at OD hq⊢;generalize x%D=R at OD hm⊢
  have hQD:(Q:Int)*D=((D*Q:Nat):Int):=by rw[aru];exact(arx _ _).symm
  rw[aj (by simp),nP (by omega)]
  grind
def Uz(N:Nat)(a b m:Int):M.nv N a b m=M.rf N a b m:=by
 unfold M.nv M.rf;rw[DV];simp only[An,aqI,KY N _ (l:=1000000000) (by omega),we N _ (l:=1000000000) (by omega),QF];by_cases hm:ry m
 .simp only[hm,decide_true,ari,aqM,if_false];by_cases hb:jK a 1000000000\/jK b 1000000000
  .grind
  .simp only[hb,decide_false,aqM,if_false];unfold jK at hb
   have hX:(a*b).natAbs<=1000000000*1000000000:=by
    rw[Int.natAbs_mul];exact Nat.mul_le_mul (by omega) (by omega)
   obtain⟨X,hXe⟩:∃X,X=a*b:=⟨_,rfl⟩
   rw[<-hXe]at hX⊢;rw[aH (n:=X) (by omega) (by omega),qx,aqI];obtain⟨F,R,e,h1,h2,h3,h4⟩:=CG N (X:=X) (D:=1000000) (by omega) (by omega) (by omega);rw[show((1000000:Nat):Int)=(1000000:Int)from rfl]at e;rw[e,aqI];dsimp only;have hr:=wi N hm (decide (X<0)) (F:=F) (R:=R) (q:=X.natAbs/1000000) (r:=X.natAbs%1000000) (d:=1000000) (by omega) (by omega) (by omega) (by omega) (by grind)
   grind [P.Ao,P.jK,P.Jq]
 grind
def QI(n d m:Int):Int×Int:=
 if¬ry m then(0,1)else if d=0 then(0,12)else if jK n 1000000000000000\/jK d 1000000000000000 then(0,3)else
  if 1000000000<sD m (ng n d) (n.natAbs*1000000/d.natAbs) (n.natAbs*1000000%d.natAbs) d.natAbs then(0,3)
  else(sg (ng n d) (sD m (ng n d) (n.natAbs*1000000/d.natAbs) (n.natAbs*1000000%d.natAbs) d.natAbs),0)
theorem K3{n d m:Int}(h:¬ry m):QI n d m=(0,1):=al h
theorem Gy{n d m:Int}(h:ry m)(h1:d=0):QI n d m=(0,12):=by grind [P.QI]
theorem K4{n d m:Int}(h:ry m)(h1:d≠0)(h2:jK n 1000000000000000\/jK d 1000000000000000):QI n d m=(0,3):=by grind [P.QI]
def QJ{n d m:Int}(h:ry m)(h1:d≠0)(h2:¬(jK n 1000000000000000\/jK d 1000000000000000)){P D:Nat}(hP:P=n.natAbs*1000000)(hD:D=d.natAbs):QI n d m=if 1000000000<sD m (ng n d) (P/D) (P%D) D then(0,3)else(sg (ng n d) (sD m (ng n d) (P/D) (P%D) D),0):=by subst hP hD;grind [P.QI]
theorem Jt{a:Int}(h: -1000000000000000<=a/\a<=1000000000000000):aqP.wrap (if a<(aqJ.wrap (0-a))then(aqJ.wrap (0-a))else a)=((a.natAbs:Nat):Int):=by
 grind [aH,P.mb]
theorem DW(n d m:Int):M.jx aJ n d m=aa (QI n d m):=by
 unfold M.jx;simp only[An,aqI,KY aJ _ (l:=1000000000000000) (by omega),QF];by_cases hm:ry m
 .rw[aj (by simpa using hm)];by_cases hd:d=0
  .grind [P.Gy]
  .rw[aj (by simpa using hd)];by_cases hb:jK n 1000000000000000\/jK d 1000000000000000
   .grind [P.K4]
   .obtain⟨P,hP⟩:∃P,P=n.natAbs*1000000:=⟨_,rfl⟩
    obtain⟨D,hD⟩:∃D,D=d.natAbs:=⟨_,rfl⟩
    rw[aj (by simpa using hb),QJ hm hd hb hP hD];unfold jK at hb
    have hDb:D<=1000000000000000:=by omega
    rw[Jt (a:=n) (by omega),Jt (a:=d) (by omega)]
    have QK:0<D:=by omega
    have Gp:=arW P QK;rw[show(1000000:Int)=((1000000:Nat):Int)from rfl,v8 aJ (by omega) (by omega),aqI,<-hP,<-hD];dsimp only;have hu:=td m (ng n d) (P/D) (P%D) D;by_cases h1:D<=P/18446744073709551616
    .have Gw:18446744073709551616<=P/D:=by
      rw[Nat.le_div_iff_mul_le QK];have:=(Nat.le_div_iff_mul_le (by omega)).1 h1;omega
     grind
    .rw[aj (by simp;omega),Ai (by omega) (by omega) (by omega),aqI]
     have e1:P/18446744073709551616*18446744073709551616+P%18446744073709551616=P:=by omega
     rw[e1];dsimp only;by_cases h2:1000000000<P/D
     .grind
     .rw[aj (by simp;omega),Gt aJ _ Gp (by omega),aqI];rw[show(!decide (decide (n<0)=decide (d<0)))=ng n d from rfl]
      have e2:((if HZ m (ng n d) (P/D) (P%D) D=af then aa (aqJ.wrap (aqJ.wrap ((P/D:Nat):Int)+1))else aa (aqJ.wrap ((P/D:Nat):Int))):Option Int)=aa ((sD m (ng n d) (P/D) (P%D) D:Nat):Int):=by
       rw[nP (by omega)];unfold sD;split
       .rw[aH (by omega) (by omega)];rfl
       .rfl
      rw[e2,aqI];by_cases h3:1000000000<sD m (ng n d) (P/D) (P%D) D
      .grind
      .rw[aj (by simp;omega),aj h3,aH (by omega) (by omega)];unfold sg
       grind
 grind [P.K3]
theorem BB(N:Nat)(n d m:Int):M.mF N n d m=aa (QI n d m):=by
 unfold M.mF;rw[DV];simp only[aqI,we N _ (l:=1000000000000000) (by omega),we N _ (l:=1000000000) (by omega),we N _ (l:=1001) (by omega),QF];by_cases hm:ry m
 .rw[aj (by simpa using hm)];by_cases hd:d=0
  .grind [P.Gy]
  .rw[aj (by simpa using hd)];by_cases hb:jK n 1000000000000000\/jK d 1000000000000000
   .grind [P.K4]
   .obtain⟨P,hP0⟩:∃P,P=n.natAbs*1000000:=⟨_,rfl⟩
    obtain⟨D,hD⟩:∃D,D=d.natAbs:=⟨_,rfl⟩
    rw[aj (by simpa using hb),QJ hm hd hb hP0 hD];unfold jK at hb
    have hDb:D<=1000000000000000:=by omega
    have QK:0<D:=by omega
    obtain⟨X,hX1,hX2,hX3,hX4⟩:∃X:Int,((if(decide (d<(0:Int)))=af then aa (aqJ.wrap ((0:Int)-n),aqJ.wrap ((0:Int)-d))else aa (n,d)):Option (Int×Int))=aa (X,(D:Int))/\X.natAbs=n.natAbs/\(0<X->ng n d=ah)/\(X<0->ng n d=af):=by
     by_cases c:d<0
     .refine⟨-n,?_,by omega,λh=>?_,λh=>?_⟩
      .grind [aH]
      .unfold ng;grind
      .unfold ng;grind
     .refine⟨n,?_,rfl,λh=>?_,λh=>?_⟩
      .grind
      .unfold ng;grind
      .unfold ng;grind
    rw[hX1,aqI];obtain⟨F0,R0,e,h1,h2,h3,h4⟩:=CG N (X:=X) (D:=D) QK (by omega) (by omega);dsimp only;rw[e,aqI];dsimp only
    have hP:P=X.natAbs*1000000:=by rw[hX2];exact hP0
    have Gp:=arW P QK;have hu:=td m (ng n d) (P/D) (P%D) D;by_cases Ot:jK F0 1001
    .rw[al (by simpa using Ot),al];unfold jK at Ot
     have hq:1001000000<=P/D:=by
      rw[Nat.le_div_iff_mul_le QK]
      rcases Ot with c|c
      .have:=ar6 (show 1002<=F0 by omega) (show(0:Int)<=D by omega);omega
      .have:=ar6 (show F0<=-1002 by omega) (show(0:Int)<=D by omega);omega
     omega
    .rw[aj (by simpa using Ot)];unfold jK at Ot;have k1:=arT (R0*1000) D;have k2:=arW (R0*1000) QK
     have k3:R0*1000/D<1000:=by rw[arq QK];omega
     obtain⟨a,ha⟩:∃a,a=R0*1000/D:=⟨_,rfl⟩
     obtain⟨r1,VT⟩:∃r,r=R0*1000%D:=⟨_,rfl⟩
     rw[<-ha,<-VT]at k1;rw[<-VT]at k2;rw[<-ha]at k3;have g1:=arT (r1*1000) D;have g2:=arW (r1*1000) QK
     have g3:r1*1000/D<1000:=by rw[arq QK];omega
     obtain⟨b,sE⟩:∃b,b=r1*1000/D:=⟨_,rfl⟩
     obtain⟨r2,Ya⟩:∃r,r=r1*1000%D:=⟨_,rfl⟩
     rw[<-sE,<-Ya]at g1;rw[<-Ya]at g2;rw[<-sE]at g3
     have m1:((R0:Int)*1000)=((R0*1000:Nat):Int):=by omega
     rw[m1,nP (a:=R0*1000) (by omega),sy _ _ (by omega),DQ _ _ (by omega),aqI,aqI,<-ha,<-VT]
     have m2:((r1:Int)*1000)=((r1*1000:Nat):Int):=by omega
     rw[m2,nP (a:=r1*1000) (by omega),sy _ _ (by omega),DQ _ _ (by omega),aqI,aqI,<-sE,<-Ya]
     have w:∀z:Int,-100000000000<=z->z<=100000000000->aqJ.wrap z=z:=λz h1 h2=>aH (by omega) (by omega)
     rw[w (F0*1000000) (by omega) (by omega),w (a:Int) (by omega) (by omega),w ((a:Int)*1000) (by omega) (by omega),w (F0*1000000+(a:Int)*1000) (by omega) (by omega),w (b:Int) (by omega) (by omega),w _ (by omega) (by omega)]
     have hFX:(F0*1000000+(a:Int)*1000+(b:Int))*(D:Int)+(r2:Int)=X*1000000:=by
      have e1:(F0*1000000+(a:Int)*1000+(b:Int))*(D:Int)=F0*D*1000000+(a:Int)*D*1000+(b:Int)*D:=by
       rw[Int.add_mul,Int.add_mul,Int.mul_right_comm F0,Int.mul_right_comm (a:Int)]
      have e2:(a:Int)*D=((D*a:Nat):Int):=by rw[aru];exact(arx _ _).symm
      have e3:(b:Int)*D=((D*b:Nat):Int):=by rw[aru];exact(arx _ _).symm
      rw[e1,e2,e3];omega
     have hXn:(X*1000000).natAbs=P:=by rw[hP,Int.natAbs_mul];rfl
     have hc:=yh (neg:=ng n d) g2 hFX (λh=>hX3 (by omega)) (λh=>hX4 (by omega));rw[hXn]at hc
     have hPD:P/D<=2000000000:=by
      rcases hc with⟨_,c,_⟩|⟨_,_,_,c⟩|⟨_,_,_,c⟩<;>omega
     have hr:=wi N hm (ng n d) QK (by omega) Gp (by omega) hc;rw[hr,aqI];have hs:=Jp (ng n d) (sD m (ng n d) (P/D) (P%D) D);by_cases h3:1000000000<sD m (ng n d) (P/D) (P%D) D
     .rw[al (au (show jK _ _ by unfold jK;omega)),al h3]
     .rw[aj (by rw[az];unfold jK;omega),aj h3]
 grind [P.K3]
end L.P
namespace L.P
def Gz{S S' X X':Type}{body:S->Option (S⊕X)}{body':S'->Option (S'⊕X')}(φ:S->S')(ψ:X->X')(h:∀s,body' (φ s)=(body s).map (Sum.map φ ψ)):∀(N:Nat)(s:S),Loop body' N (φ s)=(Loop body N s).map ψ
 |0,_=>rfl
 |N+1,s=>by
  unfold Loop;rw[h s]
  cases body s with
  |none=>rfl
  |some x=>cases x with
   |inl s'=>exact Gz φ ψ h N s'
   |inr x=>rfl
def Cn(r:Ty)(d:Int):Prop:=0<=(r.1:Int)/\(r.1:Int)<=r.2/\(r.2:Int)<=109573/\(r.1:Int)<=d/\d<r.2
instance(r:Ty)(d:Int):Decidable (Cn r d):=by unfold Cn;infer_instance
def contains_eq(N:Nat)(r:aD.den)(d:Int):M.bL N r d=aa (decide (Cn r d)):=by
 unfold M.bL M.fE;obtain⟨(a:Int),(b:Int)⟩:=r;simp only[aQ,aqI,kj];refine ay aa ?_;rw[arB,az]
 show _↔0<=a/\a<=b/\b<=109573/\a<=d/\d<b
 grind
def rV(N:Nat)(r:aD.den)(d:Int):M.ir N r d=aa (decide (Cn r d)):=contains_eq N r d
def GA(N:Nat)(t:aP.den)(d k:Int):M.jN N t d k=M.nF N t d k:=by
 unfold M.jN M.db M.nF
 have:=Gz (S:=Int) (S':=Int×Int×Int) (X:=Int×Bool) (X':=Int×Bool×Int×Int)
  (body:=λs1=>(if(decide (s1<(t.2.2.2.length:Int)))=af then(idx t.2.2.2 s1).bind λx2=>(M.oy N x2 d k).bind λy3=>(if y3=af then aa (arc (s1,af))else aa (arj (aqJ.wrap (s1+(1:Int)))))else aa (arc ((0:Int),ah))))
  (body':=λs1=>(if(decide (s1.1<(t.2.2.2.length:Int)))=af then(idx t.2.2.2 s1.1).bind λx2=>(M.im N x2 s1.2.1 s1.2.2).bind λy3=>(if y3.1=af then aa (arc (s1.1,af,y3.2.1,y3.2.2))else aa (arj (aqJ.wrap (s1.1+(1:Int)),y3.2.1,y3.2.2)))else aa (arc ((0:Int),ah,s1.2.1,s1.2.2))))
  (λs=>(s,d,k)) (λx=>(x.1,x.2,d,k)) ?_ N 0
 .rw[this]
  cases Loop _ N (0:Int)<;>grind
 .intro s;dsimp only;by_cases c:s<(t.2.2.2.length:Int)
  .rw[al (by simpa using c),al (by simpa using c)]
   cases idx t.2.2.2 s with
   |none=>rfl
   |some x=>
    unfold M.im M.oy;rw[aqI,aqI,contains_eq,rV];simp only[aQ,aqI,Option.map_some]
    grind
  grind
def CT(l:Nat)(n:Int):Int×Int×Bool:=
 if 1000000000000000<l*n.natAbs/1000000 then(0,0,ah)else(sg (decide (n<0)) (l*n.natAbs/1000000),sg (decide (n<0)) (l*n.natAbs%1000000),af)
theorem yH{l:Nat}{n:Int}(hl:l<=1000000000000000)(hn: -9223372036854775808<=n/\n<=9223372036854775807):M.fO aJ (l:Int) n=aa (CT l n):=by
 unfold M.fO CT
 have e1:((if(decide (n<(0:Int)))=af then aa (aqP.wrap (0-(aqP.wrap n)))else aa (aqP.wrap n)):Option Int)=aa ((n.natAbs:Nat):Int):=by
  by_cases c:n<0
  .grind [P.lL]
  .grind [P.mb]
 rw[e1,aqI,qJ (a:=l) (by omega),v8 aJ (by omega) (by omega),aqI]
 obtain⟨P,hP⟩:∃P,P=l*n.natAbs:=⟨_,rfl⟩
 rw[<-hP];dsimp only;by_cases h1:1000000<=P/18446744073709551616
 .grind
 .rw[aj (by simp;omega),show(1000000:Int)=((1000000:Nat):Int)from rfl,Ai (by omega) (by omega) (by omega),aqI]
  have e2:P/18446744073709551616*18446744073709551616+P%18446744073709551616=P:=by omega
  rw[e2];dsimp only;by_cases h2:1000000000000000<P/1000000
  .grind
  .rw[aj (by simp;omega),aj h2,nP (by omega),nP (by omega),aH (by omega) (by omega),aH (by omega) (by omega)];unfold sg
   grind
theorem rn(N:Nat){l:Nat}{n:Int}(hl:l<=1000000000000000)(hn: -9223372036854775808<=n/\n<=9223372036854775807):M.jR N (l:Int) n=aa (CT l n):=by
 unfold M.jR CT
 have e1:((if(decide (n<(0:Int)))=af then aa (aqP.wrap ((aqP.wrap (aqJ.wrap (0-(aqJ.wrap (n+(1:Int))))))+(1:Int)))else aa (aqP.wrap n)):Option Int)=aa ((n.natAbs:Nat):Int):=by
  by_cases c:n<0
  .grind [aH,P.mb]
  .grind [P.mb]
 rw[e1,aqI]
 obtain⟨m,hm,hmb⟩:∃m,m=n.natAbs/\m<=9223372036854775808:=⟨_,rfl,by omega⟩
 rw[<-hm]
 have t1:aqW (m:Int) 1000000=((m/1000000:Nat):Int):=by rw[aq0 (by omega)];omega
 have t2:aqY (m:Int) 1000000=((m%1000000:Nat):Int):=by rw[aq3 (by omega)];omega
 have t3:aqW (l:Int) 1000000=((l/1000000:Nat):Int):=by rw[aq0 (by omega)];omega
 have t4:aqY (l:Int) 1000000=((l%1000000:Nat):Int):=by rw[aq3 (by omega)];omega
 rw[t1,t2,t3,t4]
 obtain⟨A,hA,hAb⟩:∃A,A=m/1000000/\A<=10000000000000:=⟨_,rfl,by omega⟩
 obtain⟨B,hB,hBb⟩:∃B,B=m%1000000/\B<1000000:=⟨_,rfl,by omega⟩
 have hAB:m=A*1000000+B:=by omega
 rw[<-hA,<-hB,qJ (a:=A) (by omega),nP (a:=A) (by omega),nP (a:=B) (by omega)];have Ap:l%1000000*B<=999999*999999:=Nat.mul_le_mul (by omega) (by omega);have anD:l/1000000*B<=1000000000*999999:=Nat.mul_le_mul (by omega) (by omega)
 have hP:l*m=1000000*(l*A+l/1000000*B)+l%1000000*B:=by
  have e:=arT l 1000000
  have e3:l*B=1000000*(l/1000000*B)+l%1000000*B:=by
   rw[<-Nat.mul_assoc,<-aro,e]
  have e4:l*(A*1000000+B)=1000000*(l*A)+l*B:=by
   rw[Nat.mul_add,<-Nat.mul_assoc,aru (l*A)]
  rw[hAB,e4,e3];omega
 have hq:l*m/1000000=l*A+l/1000000*B+l%1000000*B/1000000:=by rw[hP];omega
 have hr:l*m%1000000=l%1000000*B%1000000:=by rw[hP];omega
 rw[hq,hr];by_cases h0:0<A/\1000000000000000/A<l
 .have Gw:1000000000000000<l*A:=by
   rw[arq h0.1]at h0;exact h0.2
  grind [P.sy,P.nP]
 .have lU:l*A<=1000000000000000:=by
   rcases Nat.eq_zero_or_pos A with e|e
   .rw[e];simp
   .grind [Nat.le_div_iff_mul_le]
  have c0:((if(decide ((0:Int)<(A:Int)))=af then(nU (1000000000000000:Int) (A:Int)).bind λx3=>aa (decide ((aqJ.wrap x3)<(l:Int)))else aa ah):Option Bool)=aa ah:=by
   by_cases e:A=0
   .grind
   .obtain⟨K,hK⟩:∃K,K=1000000000000000/A:=⟨_,rfl⟩
    have hKb:K<=1000000000000000:=hK▸arU _ _
    grind [P.sy,P.nP]
  rw[c0,aqI,aj (by simp)]
  have u1:aqW ((l%1000000*B:Nat):Int) 1000000=((l%1000000*B/1000000:Nat):Int):=by rw[aq0 (by omega)];omega
  have u2:aqY ((l%1000000*B:Nat):Int) 1000000=((l%1000000*B%1000000:Nat):Int):=by rw[aq3 (by omega)];omega
  rw[<-arx l A,<-arx (l%1000000) B,nP (a:=l/1000000) (by omega),<-arx (l/1000000) B,nP (a:=l*A) (by omega),nP (a:=l/1000000*B) (by omega),nP (a:=l%1000000*B) (by omega),u1,u2,nP (a:=l%1000000*B/1000000) (by omega),<-Int.natCast_add,nP (a:=l*A+l/1000000*B) (by omega),<-Int.natCast_add,nP (by omega)]
  grind [aH,P.sg]
def Yb(l:Nat)(n:Int):(-1000000000000000<=(CT l n).1/\(CT l n).1<=1000000000000000)/\-1000000<=(CT l n).2.1/\(CT l n).2.1<=1000000:=by
 grind [P.CT,P.Gv]
def RS(X m:Int):Int:=sg (decide (X<0)) (sD m (decide (X<0)) (X.natAbs/1000000) (X.natAbs%1000000) 1000000)
def QL(X m:Int):((RS X m).natAbs=X.natAbs/1000000\/(RS X m).natAbs=X.natAbs/1000000+1):=by
 grind [P.RS,P.Gv,P.td]
def GB(m:Int)(neg:Bool)(q r d k:Nat):sD m neg (q+2*k) r d=sD m neg q r d+2*k:=by
 grind [P.HZ,P.sD]
def QM{X Z m t:Int}(h:X=Z+2*t*1000000)(hs:t=0\/(0<t/\0<=Z)\/(t<0/\Z<0)):RS X m=2*t+RS Z m:=by
 rcases hs with c|⟨c1,c2⟩|⟨c1,c2⟩
 .grind
 .unfold RS;rw[av (show¬X<0 by omega),av (show¬Z<0 by omega)]
  have e:X.natAbs/1000000=Z.natAbs/1000000+2*t.natAbs:=by omega
  have e':X.natAbs%1000000=Z.natAbs%1000000:=by omega
  rw[e,e',GB]
  grind [P.sg]
 .unfold RS;rw[au (show X<0 by omega),au c2]
  have e:X.natAbs/1000000=Z.natAbs/1000000+2*t.natAbs:=by omega
  have e':X.natAbs%1000000=Z.natAbs%1000000:=by omega
  rw[e,e',GB]
  grind [P.sg]
def GC{Z m:Int}(hm:ry m)(h: -4000000000000000000<=Z/\Z<=4000000000000000000):OE Z 1000000 m=(RS Z m,0):=by
 rw[Ao hm (by omega) (by unfold jK;omega),Jq Z (by omega)];rfl
theorem Nu{w r m:Int}(hm:ry m)(hw: -2000000000000000000<=w/\w<=2000000000000000000)(hr: -1000000000000<=r/\r<=1000000000000):M.oz aJ w r m=aa (RS (w*1000000+r) m):=by
 apply Wp.eq;unfold M.oz
 obtain⟨X,hX⟩:∃X,X=w*1000000+r:=⟨_,rfl⟩
 rw[<-hX]
 refine Wp.seq (λs:Int×Int=>s.1*1000000+s.2=X/\(-2000000000009000000<=s.1/\s.1<=2000000000009000000)/\0<=s.2/\s.2<=1000000000000) (Wp.loop (λs:Int×Int=>s.1*1000000+s.2=X/\(-2000000000009000000<=s.1/\s.1<=2000000000009000000)/\-1000000000000<=s.2/\s.2<=1000000000000) (λs=>((1000000000000-s.2)/1000000).toNat) (by grind) (by simp only;unfold aJ;omega) ?_) λs hs=>?_
 .rintro⟨a,b⟩ ⟨h1,h2,h3⟩
  simp only at h1 h2 h3⊢
  have yB: -2000000000008000000<=a/\a<=2000000000008000000:=by omega
  refine Wp.dec (λh=> .some ?_) λh=> .some ⟨h1,h2,by omega,by grind⟩
  rw[aH (by omega) (by omega),aH (by omega) (by omega)];exact⟨⟨by simp only;omega,by simp only;omega,by simp only;omega⟩,by grind⟩
 obtain⟨a,b⟩:=s;obtain⟨h1,h2,h3⟩:=hs;simp only at h1 h2 h3⊢
 refine Wp.seq (λs:Int×Int=>s.1*1000000+s.2=X/\(-2000000000009000000<=s.1/\s.1<=2000000000020000000)/\0<=s.2/\s.2<1000000) (Wp.loop (λs:Int×Int=>s.1*1000000+s.2=X/\(-2000000000009000000<=s.1/\s.1+s.2/1000000<=2000000000020000000)/\0<=s.2/\s.2<=1000000000000) (λs=>(s.2/1000000).toNat) (by grind) (by simp only;unfold aJ;omega) ?_) λs hs=>?_
 .rintro⟨a,b⟩ ⟨h1,h2,h3⟩
  simp only at h1 h2 h3⊢
  refine Wp.dec (λh=> .some ?_) λh=> .some ⟨h1,by simp only;omega,by grind⟩
  rw[aH (by omega) (by omega),aH (by omega) (by omega)];exact⟨⟨by simp only;omega,by simp only;omega,by simp only;omega⟩,by grind⟩
 obtain⟨F,R⟩:=s;obtain⟨h1,h2,h3⟩:=hs;simp only at h1 h2 h3⊢
 obtain⟨R,rfl⟩:∃n:Nat,R=n:=⟨R.toNat,by omega⟩
 have hc:=yh (X:=X) (F:=F) (R:=R) (D:=1000000) (neg:=decide (X<0)) (by omega) (by omega) (λh=>by simp;omega) (λh=>by simp;omega)
 refine Wp.dec (λh=>?_) λh=>Wp.dec (λg=> .some ?_) λg=>?_
 .have hx:¬X<0:=by omega
  obtain⟨f,rfl⟩:∃n:Nat,F=n:=⟨F.toNat,by omega⟩
  rw[show(1000000:Int)=((1000000:Nat):Int)from rfl,oT aJ m ah (by omega) (by omega) (by omega),aqI];refine .some ?_
  grind [P.RS]
 .have hx:X<0:=by omega
  show _=_
  unfold RS;rw[au hx]
  rcases hc with⟨c,_⟩|⟨_,c1,c2,c3⟩|⟨_,c1,c2,c3⟩
  .rw[au hx]at c;cases c
  .rw[c1,Al _ _ _ (by omega),c3];unfold sg;simp
  .omega
 .have hx:X<0:=by omega
  rcases hc with⟨c,_⟩|⟨_,c1,c2,c3⟩|⟨_,c1,c2,c3⟩
  .grind
  .omega
  .have hq:X.natAbs/1000000<=2000000000020000000:=by omega
   rw[aH (n:=0-F) (by omega) (by omega),aH (n:=0-F-1) (by omega) (by omega),aH (by omega) (by omega)];rw[show(0:Int)-F-1=((X.natAbs/1000000:Nat):Int) by omega,show(1000000:Int)-(R:Int)=((X.natAbs%1000000:Nat):Int) by omega,show(1000000:Int)=((1000000:Nat):Int)from rfl,oT aJ m af (by omega) (by omega) (by omega),aqI];refine .some ?_
   grind [P.RS]
def RB(X m:Int):Int×Int:=if jK (RS X m) 1000000000000000 then(0,3)else(RS X m,0)
theorem GD(N:Nat){w r m:Int}(hm:ry m)(hw: -2000000000000000000<=w/\w<=2000000000000000000)(hr: -1000000000000<=r/\r<=1000000000000):M.iq N w r m=aa (RB (w*1000000+r) m):=by
 unfold M.iq
 obtain⟨Q,ρ,hQ,T8,e1,e2,e3⟩:∃Q ρ:Int,aqW r 1000000=Q/\aqY r 1000000=ρ/\Q*1000000+ρ=r/\(-1000000<ρ/\ρ<1000000)/\(-1000001<Q/\Q<1000001):=by
  refine⟨_,_,rfl,rfl,?_,?_,?_⟩
  .have:=Int.mul_tdiv_add_tmod r 1000000;omega
  .rcases asi r 0 with c|c
   .have h1:=Int.neg_tmod r 1000000;have h2:=aq3 (a:= -r) (b:=1000000) (by omega);omega
   .have h2:=aq3 (a:=r) (b:=1000000) (by omega);omega
  .rcases asi r 0 with c|c
   .have h1:=Int.neg_tdiv r 1000000;have h2:=aq0 (a:= -r) (b:=1000000) (by omega);omega
   .have h2:=aq0 (a:=r) (b:=1000000) (by omega);omega
 rw[hQ,T8,aH (n:=Q) (by omega) (by omega),aH (n:=w+Q) (by omega) (by omega)]
 obtain⟨W,hW⟩:∃W,W=w+Q:=⟨_,rfl⟩
 obtain⟨X,hX⟩:∃X,X=w*1000000+r:=⟨_,rfl⟩
 rw[<-hW,<-hX]
 have hXW:X=W*1000000+ρ:=by omega
 have hR:=QL X m;simp only[aQ,aqI,l4];unfold RB;by_cases c:W< -2000000000000000\/2000000000000000<W
 .rw[al (by simpa using c),al (by unfold jK;omega)]
 .rw[aj (by simpa using c)]
  obtain⟨p,hp,Kn,Tz⟩:∃p:Int,(if(decide ((1:Int)<W))=af then(aqJ.wrap ((aqY W (2:Int))+(2:Int)))else(if(decide (W<(-1:Int)))=af then(aqJ.wrap ((aqY W (2:Int))-(2:Int)))else(aqY W (2:Int))))=p/\(-3<=p/\p<=3)/\∃t:Int,W=p+2*t/\(t=0\/(0<t/\1<W/\1<p)\/(t<0/\W< -1/\p< -1)):=by
   rcases asi W 0 with d|d
   .have h1:=Int.neg_tmod W 2;have h2:=aq3 (a:= -W) (b:=2) (by omega)
    have h3:aqY W 2= -((-W)%2):=by omega
    rw[aj (by simp;omega),h3];by_cases d2:W< -1
    .rw[al (by simpa using d2),aH (by omega) (by omega)];exact⟨_,rfl,by omega,(W+2+(-W)%2)/2,by omega,by omega⟩
    .rw[aj (by simpa using d2)];exact⟨_,rfl,by omega,0,by omega, .inl rfl⟩
   .have h3:aqY W 2=W%2:=aq3 d;rw[h3];by_cases d2:1<W
    .rw[al (by simpa using d2),aH (by omega) (by omega)];exact⟨_,rfl,by omega,(W-2-W%2)/2,by omega,by omega⟩
    .rw[aj (by simpa using d2),aj (by simp;omega)];exact⟨_,rfl,by omega,0,by omega, .inl rfl⟩
  obtain⟨t,ht,hs⟩:=Tz;rw[hp,aH (n:=p*1000000) (by omega) (by omega),aH (n:=p*1000000+ρ) (by omega) (by omega),qx,GC hm (by omega),aqI];have hsh:=QM (X:=X) (Z:=p*1000000+ρ) (m:=m) (t:=t) (by omega) (by omega);have hRZ:=QL (p*1000000+ρ) m;rw[aj (by simp)];dsimp only;rw[aH (n:=W-p) (by omega) (by omega),aH (n:=W-p+RS (p*1000000+ρ) m) (by omega) (by omega),show W-p+RS (p*1000000+ρ) m=RS X m by omega];by_cases g:jK (RS X m) 1000000000000000
  .rw[al (by unfold jK at g;simp;omega),al g]
  .rw[aj (by unfold jK at g;simp;omega),aj g]
def Nv{S J R:Type}{b b':S->Option (S⊕(J⊕R))}{N:Nat}{s0:S}{k k':J->Option R}(P:J->Prop)(hb:∀s,b s=b' s)(h:Wp (Loop b' N s0) λx=>match x with
 | .inl j=>P j
 | .inr _=>True)(hk:∀j,P j->k j=k' j):bK (Loop b N s0) k=bK (Loop b' N s0) k':=by
 rw[show b=b' from funext hb];obtain⟨x,e,hx⟩:=h;rw[e]
 cases x with
 |inl j=>exact hk j hx
 |inr r=>rfl
def UA{α:Type}{l:List α}{i:Int}{x:α}(h:idx l i=aa x):x∈l:=by
 obtain⟨_,e⟩:=(eZ (Q:=λy=>y=x)).1 ⟨x,h,rfl⟩
 grind
def BC{t:aP.den}(hl:t.2.2.2.length<=1000)(hw:∀r∈t.2.2.2,-9223372036854775808<=(r.2.2.2:Int)/\(r.2.2.2:Int)<=9223372036854775807)(d c m:Int):M.gi aJ t d c m=M.nG aJ t d c m:=by
 unfold M.gi M.nG;rw[DV,rm,aqI,aqI];by_cases hm:ry m
 case neg=>grind
 simp only[hm,decide_true,ari,aqM,if_false]
 obtain⟨j2,SO⟩:∃j,((if(!(o6 aD t.2.1 ((3:Int),(0:Int))))=af then aa af else aa (!(o6 aD t.2.2.1 ((4:Int),(0:Int))))):Option Bool)=aa j:=by
  split<;>exact⟨_,rfl⟩
 rw[SO,aqI,aqI]
 cases j2 with
 |true=>rfl
 |false=>
  simp only[aqM,if_false]
  have aI:((if(decide (c<(-1000000000000000:Int)))=af then aa af else aa (decide ((1000000000000000:Int)<c))):Option Bool)=aa (decide (jK c 1000000000000000)):=by
   rw[aQ,l4];refine ay aa ?_;rw[arB,Bool.or_eq_true,az,az,az];unfold jK;omega
  rw[qw aJ c (by omega),aI,aqI,aqI];by_cases hc:jK c 1000000000000000
  .grind
  simp only[hc,decide_false,aqM,if_false];unfold jK at hc;refine Nv (λj:Int×Int=>(-1000000000000000000<=j.1/\j.1<=1000000000000000000)/\-1000000000<=j.2/\j.2<=1000000000) ?_ ?_ ?_
  .rintro⟨a,b,i⟩
   dsimp only;by_cases h:i<(t.2.2.2.length:Int)
   .rw[al (by simpa using h),al (by simpa using h)];refine ay (λo=>bK o _) ?_
    cases hx:idx t.2.2.2 i with
    |none=>rfl
    |some x=>
     simp only[aqI,contains_eq,rV];have hn:=hw x (UA hx)
     obtain⟨T,hT,hTc⟩:∃T:Int,T=(if c<x.2.2.1 then c else x.2.2.1)/\T<=c:=⟨_,rfl,by split<;>omega⟩
     obtain⟨F,hF,hF0⟩:∃F:Int,F=(if x.2.1<(0:Int)then(0:Int)else x.2.1)/\0<=F:=(by grind)
     rw[<-hT,<-hF];by_cases hC:Cn x.1 d
     .by_cases hTF:T<=F
      .simp[hC,hTF]
      .simp only[hC,hTF,decide_true,decide_false,ari,aqM,if_false,aqI];rw[aH (by omega) (by omega)]
       obtain⟨l,hl2⟩:∃l:Nat,T-F=l:=⟨(T-F).toNat,by omega⟩
       grind [P.yH,P.rn]
     grind
   grind
  .refine Wp.loop (λs:Int×Int×Int=>∃i:Nat,s.2.2=i/\i<=t.2.2.2.length/\(-1000000000000000*(i:Int)<=s.1/\s.1<=1000000000000000*(i:Int))/\-1000000*(i:Int)<=s.2.1/\s.2.1<=1000000*(i:Int)) (λs=>(t.2.2.2.length-s.2.2).toNat) (by grind) (by simp only;unfold aJ;omega) ?_
   rintro⟨a,b,_⟩ ⟨i,rfl,hi,h1,h2⟩
   simp only at h1 h2;dsimp only
   refine Wp.dec (λh=>?_) λh=> .some ⟨by simp only;omega,by grind⟩
   have jn:i<t.2.2.2.length:=by omega
   simp only[aF jn,aqI,rV];have hn:=hw _ (aqN jn);generalize t.2.2.2[i]=x at hn⊢
   obtain⟨T,hT,hTc⟩:∃T:Int,T=(if c<x.2.2.1 then c else x.2.2.1)/\T<=c:=⟨_,rfl,by split<;>omega⟩
   obtain⟨F,hF,hF0⟩:∃F:Int,F=(if x.2.1<(0:Int)then(0:Int)else x.2.1)/\0<=F:=(by grind)
   rw[<-hT,<-hF]
   have next:∀a' b':Int,(-1000000000000000<=a'/\a'<=1000000000000000)->(-1000000<=b'/\b'<=1000000)->∃k:Nat,aqJ.wrap ((i:Int)+1)=(k:Int)/\k<=t.2.2.2.length/\i<k/\(-1000000000000000*(k:Int)<=a+a'/\a+a'<=1000000000000000*(k:Int))/\-1000000*(k:Int)<=b+b'/\b+b'<=1000000*(k:Int):=by
    intro a' b' g1 g2;exact⟨i+1,aU (by omega),by omega,by omega,by omega,by omega⟩
   by_cases hg:T<=F\/¬Cn x.1 d
   .have e:((if decide (T<=F)=af then aa af else aa (!decide (Cn x.1 d))):Option Bool)=aa af:=by
     rcases hg with g|g
     .simp[g]
     .simp[g]
    rw[e,aqI];simp only[if_true];refine Wp.join (.some (.some ?_))
    obtain⟨k,q1,q2,q3,q4,q5⟩:=next 0 0 (by omega) (by omega)
    exact⟨⟨k,q1,q2,by simp only;omega,by simp only;omega⟩,by grind⟩
   .have e:((if decide (T<=F)=af then aa af else aa (!decide (Cn x.1 d))):Option Bool)=aa ah:=by
     simp only[not_or,Decidable.not_not]at hg;simp[hg.1,hg.2]
    simp only[not_or,Decidable.not_not]at hg;rw[e,aqI];simp only[aqM,if_false];rw[aH (n:=T-F) (by omega) (by omega)]
    obtain⟨l,hl2⟩:∃l:Nat,T-F=l:=⟨(T-F).toNat,by omega⟩
    rw[hl2,rn aJ (by omega) hn,aqI];have hr:=Yb l x.2.2.2;refine Wp.join ?_
    cases(CT l x.2.2.2).2.2 with
    |false=>exact .some trivial
    |true=>
     simp only[ari,aqM,if_false];refine .some (.some ?_)
     obtain⟨k,q1,q2,q3,q4,q5⟩:=next (CT l x.2.2.2).1 (CT l x.2.2.2).2.1 hr.1 hr.2
     refine⟨⟨k,q1,q2,?_,?_⟩,by grind⟩
     .simp only;rw[aH (by omega) (by omega)];exact q4
     .simp only;rw[aH (by omega) (by omega)];exact q5
  grind [P.GD,P.Nu,P.qw,P.RB]
end L.P
namespace L.P
def lp(y:Int):Prop:=y%4=0/\(y%100≠0\/y%400=0)
instance(y:Int):Decidable (lp y):=by unfold lp;infer_instance
def yi(y m:Int):Int:=if m=2 then(if lp y then 29 else 28)else if m=4\/m=6\/m=9\/m=11 then 30 else if m=1\/m=3\/m=5\/m=7\/m=8\/m=10\/m=12 then 31 else 0
def S4(y:Int):Int:=if lp y then 366 else 365
def ly(y:Int):Int:=y/4-y/100+y/400
def ys(y:Int):Int:=(y-1900)*365+ly (y-1)-460
def ms(y:Int):Nat->Int
 |0=>0
 |k+1=>ms y k+yi y (((k+1:Nat)):Int)
def rW(y m:Int):0<=yi y m/\yi y m<=31:=by grind [P.yi]
def UB(y:Int){m:Int}(h:1<=m/\m<=12):28<=yi y m:=by grind [P.yi]
theorem K5(y:Int){m:Int}(h:m<1\/12<m):yi y m=0:=by grind [P.yi]
theorem wj(y:Int):ys (y+1)=ys y+S4 y:=by
 grind [P.S4,P.lp,P.ys,P.ly]
theorem ys0:ys 1900=0:=by decide
def zc{y y':Int}(h:y<=y'):ys y<=ys y':=by
 unfold ys ly;omega
def DX(y:Int):365<=S4 y/\S4 y<=366:=by unfold S4;split<;>omega
def uk(y:Int){i j:Nat}(h:i<=j):ms y i<=ms y j:=by
 induction j with
 |zero=>grind
 |succ j ih=>
  grind [P.ms,P.yi]
theorem GF(y:Int):ms y 12=S4 y:=by
 unfold S4
 by_cases h:lp y<;>simp[ms,yi,h]
def tf(y:Int){i:Nat}(h:i<=12):0<=ms y i/\ms y i<=366:=by
 have h1:=uk y (aq2 i);have h2:=uk y h;rw[GF]at h2;have:=DX y;have:ms y 0=0:=rfl;omega
def xA{y:Int}(h:1900<=y/\y<=2200):0<=ys y/\ys y<=109573:=by
 unfold ys ly;omega
def K6{y d:Int}(hd:d<=109572)(h:ys y<=d):y<=2199:=by
 unfold ys ly at h;omega
def K7(N:Nat){y:Int}(h:0<=y):M.oL N y=aa (decide (lp y)):=by
 unfold M.oL;rw[aq3 h,aq3 h,aq3 h];simp only[aQ,aqI,l4,kj]
 grind [P.lp]
theorem GG(N:Nat){y:Int}(h:0<=y):M.pw N y=aa (decide (lp y)):=K7 N h
theorem DY(N:Nat){y:Int}(h:0<=y)(m:Int):M.dV N y m=aa (yi y m):=by
 unfold M.dV;rw[K7 N h];by_cases hm:1<=m/\m<=12
 .have:m=1\/m=2\/m=3\/m=4\/m=5\/m=6\/m=7\/m=8\/m=9\/m=10\/m=11\/m=12:=by omega
  by_cases hl:lp y
  .rcases this with rfl|rfl|rfl|rfl|rfl|rfl|rfl|rfl|rfl|rfl|rfl|rfl<;>simp[yi,hl]<;>rfl
  .rcases this with rfl|rfl|rfl|rfl|rfl|rfl|rfl|rfl|rfl|rfl|rfl|rfl<;>simp[yi,hl]<;>rfl
 .rw[K5 y (by omega)]
  grind
def zd(N:Nat){y:Int}(h:0<=y)(m:Int):M.eC N y m=aa (yi y m):=by
 unfold M.eC yi;rw[GG N h];by_cases h2:m=2
 .grind
 .rw[aj (by simpa using h2),aj h2];by_cases h4:m=4\/m=6\/m=9\/m=11
  .grind
  .rw[aj h4];simp only[not_or]at h4;by_cases h1:m=1\/m=3\/m=5\/m=7\/m=8\/m=10\/m=12
   .rw[al h1]
    rcases h1 with rfl|rfl|rfl|rfl|rfl|rfl|rfl<;>simp
   grind
def K8(N:Nat){y:Int}(h:0<=y):M.gW N y=aa (S4 y):=by
 grind [M.gW,P.S4,P.GG]
def QN(N:Nat){y:Int}(h:1900<=y/\y<=2300):M.fq N y=aa (ys y):=by
 unfold M.fq M.k7;rw[aH (n:=y-1) (by omega) (by omega),aq0 (by omega),aq0 (by omega),aq0 (by omega)];simp only[aqI];refine ay aa ?_
 have e:∀z:Int,-1000000000<=z->z<=1000000000->aqJ.wrap z=z:=λz h1 h2=>aH (by omega) (by omega)
 rw[show aqJ.wrap (aqJ.wrap (aqJ.wrap (aqW 1899 4)-aqJ.wrap (aqW 1899 100))+aqJ.wrap (aqW 1899 400))=460 by decide];rw[e ((y-1)/4) (by omega) (by omega),e ((y-1)/100) (by omega) (by omega),e ((y-1)/400) (by omega) (by omega),e (y-1900) (by omega) (by omega),e ((y-1900)*365) (by omega) (by omega),e ((y-1)/4-(y-1)/100) (by omega) (by omega),e ((y-1)/4-(y-1)/100+(y-1)/400) (by omega) (by omega),e ((y-1900)*365+((y-1)/4-(y-1)/100+(y-1)/400)) (by omega) (by omega),e _ (by omega) (by omega)];rfl
def OF(d:Int)(r:Int×Int×Int):Prop:=(1900<=r.1/\r.1<=2199)/\∃j:Nat,r.2.1=((j+1:Nat):Int)/\j<12/\1<=r.2.2/\r.2.2<=yi r.1 ((j+1:Nat):Int)/\d=ys r.1+ms r.1 j+r.2.2-1
def OF.year{d:Int}{r:Int×Int×Int}(h:OF d r):ys r.1<=d/\d<ys (r.1+1):=by
 obtain⟨h1,j,h2,h3,h4,h5,h6⟩:=h;have a:=tf r.1 (i:=j) (by omega);have b:=uk r.1 (show j+1<=12 by omega)
 grind [P.GF,P.ms,P.wj]
def OF.Nw{d:Int}{r s:Int×Int×Int}(h:OF d r)(g:OF d s):r=s:=by
 have hy:r.1=s.1:=by
  have a:=h.year;have b:=g.year
  rcases Int.lt_trichotomy r.1 s.1 with c|c|c
  .have:=zc (show r.1+1<=s.1 by omega);omega
  .exact c
  .have:=zc (show s.1+1<=r.1 by omega);omega
 obtain⟨y,m,k⟩:=r;obtain⟨y',m',k'⟩:=s;simp only at hy;subst hy;obtain⟨h1,j,h2,h3,h4,h5,h6⟩:=h;obtain⟨g1,i,g2,g3,g4,g5,g6⟩:=g;simp only at h1 h2 h3 h4 h5 h6 g1 g2 g3 g4 g5 g6
 have hj:j=i:=by
  rcases Nat.lt_trichotomy j i with c|c|c
  .have a:ms y (j+1)=ms y j+yi y ((j+1:Nat):Int):=rfl;have b:=uk y (show j+1<=i from c);omega
  .exact c
  .have a:ms y (i+1)=ms y i+yi y ((i+1:Nat):Int):=rfl;have b:=uk y (show i+1<=j from c);omega
 grind
def dv(d:Int):((if(decide ((0:Int)<=d))=af then aa (decide (d<=(109572:Int)))else aa ah):Option Bool)=aa (decide (0<=d/\d<=109572)):=by
 grind
theorem Aq(N:Nat)(d:Int):M.jP N d=aa (decide (0<=d/\d<=109572)):=by
 unfold M.jP;rw[dv];rfl
theorem od(N:Nat)(d:Int):M.k9 N d=aa (decide (0<=d/\d<=109572)):=by
 unfold M.k9;rw[dv];rfl
def um{d:Int}(hd:0<=d/\d<=109572):Wp (M.fu aJ d) (OF d):=by
 unfold M.fu;rw[Aq,aqI,aj (by simpa using hd),aq0 hd.1,aH (n:=d/366) (by omega) (by omega),aH (n:=1900+d/366) (by omega) (by omega)]
 refine Wp.seq (λy=>(1900<=y/\y<=2199)/\ys y<=d/\d<ys (y+1)) (Wp.loop (λy:Int=>(1900<=y/\y<=2199)/\ys y<=d) (λy=>(2199-y).toNat) ⟨by omega,by unfold ys ly;omega⟩ (by unfold aJ;omega) ?_) λy hy=>?_
 .rintro y ⟨h1,h2⟩
  rw[aH (by omega) (by omega),QN aJ (by omega),aqI]
  refine Wp.dec (λh=> .some ?_) λh=> .some ⟨h1,h2,by omega⟩
  have:=K6 hd.2 h;exact⟨⟨by omega,h⟩,by grind⟩
 .obtain⟨h1,h2,h3⟩:=hy;have hr:=xA (y:=y) (by omega);rw[QN aJ (by omega),aqI,aH (n:=d-ys y) (by omega) (by omega)];refine Wp.loop (λs:Int×Int=>∃i:Nat,s.2=i/\i<=12/\s.1=d-ys y-ms y i/\0<=s.1) (λs=>(12-s.2).toNat) ⟨0,rfl,by omega,by show d-ys y=d-ys y-0;omega,by grind⟩ (by simp only;unfold aJ;omega) ?_
  rintro⟨a,b⟩ ⟨i,hi,BA,ha,h0⟩
  simp only at hi ha h0;subst hi ha;have hm:=tf y BA;have e:=wj y
  refine Wp.dec (λh=>?_) λh=>?_
  .have hi:i<12:=by simp only at h;omega
   rw[aU (by omega),DY aJ (by omega),aqI];have OD:=rW y ((i+1:Nat):Int)
   refine Wp.dec (λg=> .some ?_) λg=> .some ?_
   .simp only at g;refine⟨h1,i,rfl,hi,?_,?_,?_⟩
    all_goals grind [aH]
   .simp only at g⊢;rw[aH (by omega) (by omega)];refine⟨⟨i+1,rfl,hi,?_,by simp only;omega⟩,by grind⟩
    grind [P.ms]
  .have:i=12:=by simp only at h;omega
   grind [P.GF]
def BD{d:Int}(hd:0<=d/\d<=109572):Wp (M.jJ aJ d) (OF d):=by
 unfold M.jJ;rw[od,aqI,aj (by simpa using hd)]
 refine Wp.seq (λs:Int×Int=>(1900<=s.2/\s.2<=2199)/\s.1=d-ys s.2/\0<=s.1/\s.1<S4 s.2) (Wp.loop (λs:Int×Int=>(1900<=s.2/\s.2<=2199)/\s.1=d-ys s.2/\0<=s.1) (λs=>(2199-s.2).toNat) ⟨(by grind),by show d=d-ys 1900;rw[ys0];omega,hd.1⟩ (by simp only;unfold aJ;omega) ?_) λs hs=>?_
 .rintro⟨t,y⟩ ⟨h1,h2,h3⟩
  simp only at h1 h2 h3⊢;subst h2;have e:=wj y;have hr:=xA (y:=y) (by omega);have hdy:=DX y;rw[K8 aJ (by omega),aqI]
  refine Wp.dec (λh=>?_) λh=> .some ⟨h1,rfl,h3,by grind⟩
  rw[aqI];refine .some ?_;rw[aH (by omega) (by omega),aH (by omega) (by omega)];have:=K6 (y:=y+1) hd.2 (by omega);exact⟨⟨by simp only;omega,by simp only;omega,by simp only;omega⟩,by grind⟩
 .obtain⟨t,y⟩:=s;obtain⟨h1,h2,h3,h4⟩:=hs;simp only at h1 h2 h3 h4⊢;subst h2;have hr:=xA (y:=y) (by omega)
  refine Wp.seq (λs:Int×Int=>∃i:Nat,s.2=((i+1:Nat):Int)/\i<12/\s.1=d-ys y-ms y i/\0<=s.1/\s.1<yi y ((i+1:Nat):Int)) (Wp.loop (λs:Int×Int=>∃i:Nat,s.2=((i+1:Nat):Int)/\i<12/\s.1=d-ys y-ms y i/\0<=s.1) (λs=>(12-s.2).toNat) ⟨0,rfl,by omega,by show d-ys y=d-ys y-0;omega,by grind⟩ (by simp only;unfold aJ;omega) ?_) λs hs=>?_
  .rintro⟨a,b⟩ ⟨i,hi,BA,ha,h0⟩
   simp only at hi ha h0⊢;subst hi ha;have hm:=tf y (i:=i) (by omega);rw[zd aJ (by omega),aqI];have OD:=rW y ((i+1:Nat):Int)
   refine Wp.dec (λg=>?_) λg=> .some ⟨i,rfl,BA,rfl,h0,by grind⟩
   rw[aqI];refine .some ?_;rw[aH (by omega) (by omega),aU (by omega)];have M9:ms y (i+1)=ms y i+yi y ((i+1:Nat):Int):=rfl
   have jn:i+1<12:=by
    rcases Nat.lt_or_ge (i+1) 12 with c|c
    .exact c
    .have:i+1=12:=by omega
     rw[this,GF]at M9
     grind
   exact⟨⟨i+1,rfl,jn,by simp only;omega,by simp only;omega⟩,by grind⟩
  .obtain⟨a,b⟩:=s;obtain⟨i,hi,BA,ha,h0,h5⟩:=hs;simp only at hi ha h0 h5⊢;subst hi ha;have hm:=tf y (i:=i) (by omega);refine .some ⟨h1,i,rfl,BA,?_,?_,?_⟩
   all_goals grind [aH]
theorem Ar(d:Int):M.fu aJ d=M.jJ aJ d:=by
 by_cases hd:0<=d/\d<=109572
 .obtain⟨r,e,h⟩:=um hd;obtain⟨s,f,g⟩:=BD hd;rw[e,f,h.Nw g]
 grind [M.fu,M.jJ,P.Aq,P.od]
def As(y m k:Int):Prop:=1900<=y/\y<=2199/\1<=m/\m<=12/\1<=k/\k<=yi y m
instance(y m k:Int):Decidable (As y m k):=by unfold As;infer_instance
def FY(y m k:Int):Int×Int:=if As y m k then(ys y+ms y (m-1).toNat+k-1,0)else(0,3)
theorem Ju(y m k:Int):M.lu aJ y m k=aa (FY y m k):=by
 apply Wp.eq;unfold M.lu FY
 refine Wp.seq (λj=>j=decide (¬As y m k)) ?_ λj hj=>?_
 .unfold As
  refine Wp.dec (λ_=> .some (by symm;simp;omega)) λ_=>Wp.dec (λ_=> .some (by symm;simp;omega)) λ_=>Wp.dec (λ_=> .some (by symm;simp;omega)) λh1=>Wp.dec (λ_=> .some (by symm;simp;omega)) λh2=>Wp.dec (λ_=> .some (by grind)) λ_=>?_
  rw[DY aJ (by omega),aqI];refine .some ?_
  grind
 .subst hj;by_cases h:As y m k
  .rw[aj (by simpa using h),al h];obtain⟨h1,h2,h3,h4,h5,h6⟩:=h;have hr:=xA (y:=y) (by omega);rw[QN aJ (by omega),aqI,aH (n:=m-1) (by omega) (by omega)]
   refine Wp.seq (λz=>z=ys y+ms y (m-1).toNat) (Wp.loop (λs:Int×Int=>∃i:Nat,s.2=i/\(i:Int)<=m-1/\s.1=ys y+ms y i) (λs=>(m-s.2).toNat) ⟨0,rfl,by omega,by show ys y=ys y+0;omega⟩ (by simp only;unfold aJ;omega) ?_) λz hz=>?_
   .rintro⟨a,b⟩ ⟨i,hi,BA,ha⟩
    simp only at hi ha⊢;subst hi ha
    refine Wp.dec (λg=>?_) λg=> .some ?_
    .have hm:=tf y (i:=i) (by omega);have OD:=rW y ((i+1:Nat):Int);rw[aU (by omega),DY aJ (by omega),aqI];refine .some ?_;rw[aH (by omega) (by omega)];refine⟨⟨i+1,rfl,by omega,?_⟩,by grind⟩
     grind [P.ms]
    .show _=_
     grind
   .subst hz;have hm:=tf y (i:=(m-1).toNat) (by omega);have OD:=rW y m;rw[aH (n:=ys y+ms y (m-1).toNat+k) (by omega) (by omega),aH (by omega) (by omega)];exact .some rfl
  .rw[al (by simpa using h),aj h];exact .some rfl
def GH(y m k:Int):M.oB aJ y m k=aa (FY y m k):=by
 apply Wp.eq;unfold M.oB FY
 refine Wp.seq (λj=>j=decide (¬As y m k)) ?_ λj hj=>?_
 .unfold As
  refine Wp.dec (λ_=> .some (by symm;simp;omega)) λ_=>Wp.dec (λ_=> .some (by symm;simp;omega)) λ_=>Wp.dec (λ_=> .some (by grind)) λh1=>?_
  rw[zd aJ (by omega),aqI];refine .some ?_
  grind [P.K5]
 .subst hj;by_cases h:As y m k
  .rw[aj (by simpa using h),al h];obtain⟨h1,h2,h3,h4,h5,h6⟩:=h;have OD:=rW y m;have hr:=xA (y:=y) (by omega);rw[aH (n:=k-1) (by omega) (by omega)]
   refine Wp.seq (λz=>z=ys y+k-1) (Wp.loop (λs:Int×Int=>(1900<=s.2/\s.2<=y)/\s.1=ys s.2+k-1) (λs=>(y-s.2).toNat) ⟨⟨by show(1900:Int)<=1900;omega,h1⟩,by grind [P.ys0]⟩ (by simp only;unfold aJ;omega) ?_) λz hz=>?_
   .rintro⟨a,b⟩ ⟨hb,ha⟩
    simp only at hb ha⊢;subst ha
    refine Wp.dec (λg=>?_) λg=> .some ?_
    .have hq:=xA (y:=b) (by omega);have hdy:=DX b;have e:=wj b;rw[K8 aJ (by omega),aqI];refine .some ?_;rw[aH (by omega) (by omega),aH (by omega) (by omega)];exact⟨⟨by simp only;omega,by simp only;omega⟩,by grind⟩
    .show _=_
     grind
   .subst hz;refine Wp.loop (λs:Int×Int=>∃i:Nat,s.2=((i+1:Nat):Int)/\(i:Int)<=m-1/\s.1=ys y+k-1+ms y i) (λs=>(m-s.2).toNat) ⟨0,rfl,by omega,by show ys y+k-1=ys y+k-1+0;omega⟩ (by simp only;unfold aJ;omega) ?_
    rintro⟨a,b⟩ ⟨i,hi,BA,ha⟩
    simp only at hi ha⊢;subst hi ha
    refine Wp.dec (λg=>?_) λg=> .some ?_
    .have hm:=tf y (i:=i) (by omega);have OD:=rW y ((i+1:Nat):Int);rw[zd aJ (by omega),aqI];refine .some ?_;rw[aH (by omega) (by omega),aU (by omega)];refine⟨⟨i+1,rfl,by omega,?_⟩,by grind⟩
     grind [P.ms]
    .show _=_
     grind
  .rw[al (by simpa using h),aj h];exact .some rfl
def xB(r:Int×Int×Int)(n:Int):Int×Int:=
 if(r.1-1900)*12+r.2.1-1+n<0\/3599<(r.1-1900)*12+r.2.1-1+n then(0,3)else
  FY (1900+((r.1-1900)*12+r.2.1-1+n)/12) (((r.1-1900)*12+r.2.1-1+n)%12+1) (if yi (1900+((r.1-1900)*12+r.2.1-1+n)/12) (((r.1-1900)*12+r.2.1-1+n)%12+1)<r.2.2 then yi (1900+((r.1-1900)*12+r.2.1-1+n)/12) (((r.1-1900)*12+r.2.1-1+n)%12+1)else r.2.2)
def Nx(d n:Int):Prop:=(0<=d/\d<=109572)/\-3600<=n/\n<=3600
def GI(d n:Int):((if(!decide (0<=d/\d<=109572))=af then aa af else(if(decide (n<(-3600:Int)))=af then aa af else aa (decide ((3600:Int)<n)))):Option Bool)=aa (decide (¬((0<=d/\d<=109572)/\-3600<=n/\n<=3600))):=by
 grind
def OF.mon{d:Int}{r:Int×Int×Int}(h:OF d r):1<=r.2.1/\r.2.1<=12/\1<=r.2.2/\r.2.2<=31:=by
 obtain⟨h1,j,h2,h3,h4,h5,h6⟩:=h;have:=rW r.1 ((j+1:Nat):Int);omega
def wk(d n:Int):(Nx d n/\∃r,OF d r/\M.fu aJ d=aa r/\M.dP aJ d n=aa (xB r n))\/(¬Nx d n/\M.dP aJ d n=aa (0,3)):=by
 unfold M.dP;rw[Aq,aqI,GI,aqI];by_cases h:(0<=d/\d<=109572)/\-3600<=n/\n<=3600
 .refine .inl ⟨h,?_⟩;rw[aj (by simp;omega)];obtain⟨⟨y,m,k⟩,e,hr⟩:=um h.1;refine⟨_,hr,e,?_⟩;rw[e,aqI];have hy:=hr.1;have hm:=hr.mon;simp only at hy hm⊢
  have w:∀z:Int,-1000000000<=z->z<=1000000000->aqJ.wrap z=z:=λz h1 h2=>aH (by omega) (by omega)
  rw[w (y-1900) (by omega) (by omega),w ((y-1900)*12) (by omega) (by omega),w ((y-1900)*12+m) (by omega) (by omega),w ((y-1900)*12+m-1) (by omega) (by omega),w ((y-1900)*12+m-1+n) (by omega) (by omega)];unfold xB;simp only[aQ,l4,aqI]
  grind [P.DY,P.Ju]
 .exact .inr ⟨h,by grind⟩
theorem th(d n:Int):M.dP aJ d n=M.eR aJ d n:=by
 have key:∀r:Int×Int×Int,OF d r->M.fu aJ d=aa r->Nx d n->M.eR aJ d n=aa (xB r n):=by
  rintro⟨y,m,k⟩ hr e h
  unfold M.eR;unfold Nx at h;rw[od,aqI,GI,aqI,aj (by simp;omega),<-Ar,e,aqI];have hy:=hr.1;have hm:=hr.mon;simp only at hy hm⊢
  have w:∀z:Int,-1000000000<=z->z<=1000000000->aqJ.wrap z=z:=λz h1 h2=>aH (by omega) (by omega)
  rw[w (12*y) (by omega) (by omega),w (12*y+m) (by omega) (by omega),w (12*y+m-1) (by omega) (by omega),w (12*y+m-1+n) (by omega) (by omega)]
  obtain⟨K,hK⟩:∃K,K=(y-1900)*12+m-1+n:=⟨_,rfl⟩
  have e1:12*y+m-1+n=K+22800:=by omega
  rw[e1,aq0 (by omega),aq3 (by omega),w ((K+22800)/12) (by omega) (by omega),w ((K+22800)%12+1) (by omega) (by omega),zd aJ (by omega),aqI,GH,aqI]
  have e2:(K+22800)/12=1900+K/12:=by omega
  have e3:(K+22800)%12=K%12:=by omega
  rw[e2,e3];unfold xB;simp only;rw[<-hK];by_cases c:K<0\/3599<K
  .grind [P.FY,P.As]
  .rw[aj c]
 rcases wk d n with⟨h,r,hr,e,f⟩|⟨h,f⟩
 all_goals grind [M.eR,P.Nx,P.od]
def uo{a:Int}{r:Int×Int×Int}(hr:OF a r)(j:Nat):(r.1+j<=2199/\(xB r (12*j)).2=0/\ys (r.1+j)<=(xB r (12*j)).1/\(xB r (12*j)).1<ys (r.1+j+1)/\(j=0->(xB r (12*j)).1=a))\/(2199<r.1+j/\(xB r (12*j)).2=3):=by
 obtain⟨y,m,k⟩:=r;obtain⟨h1,i,h2,h3,h4,h5,h6⟩:=hr;simp only at h1 h2 h3 h4 h5 h6⊢;subst h2;unfold xB;simp only
 obtain⟨K,hK⟩:∃K,K=(y-1900)*12+((i+1:Nat):Int)-1+12*(j:Int):=⟨_,rfl⟩
 rw[<-hK];by_cases c:K<0\/3599<K
 .grind
 .rw[aj c]
  have e1:1900+K/12=y+j:=by omega
  have e2:K%12+1=((i+1:Nat):Int):=by omega
  rw[e1,e2];have p:=UB (y+j) (m:=((i+1:Nat):Int)) (by omega)
  obtain⟨k',jh,q1,q2,q3⟩:∃k',k'=(if yi (y+j) ((i+1:Nat):Int)<k then yi (y+j) ((i+1:Nat):Int)else k)/\1<=k'/\k'<=yi (y+j) ((i+1:Nat):Int)/\(j=0->k'=k):=by
   grind
  rw[<-jh];unfold FY;rw[al (by unfold As;omega)];refine .inl ⟨by omega,rfl,?_,?_,?_⟩
  .simp only;rw[show(((i+1:Nat):Int)-1).toNat=i by omega];have:=tf (y+j) (i:=i) (by omega);omega
  .simp only;rw[show(((i+1:Nat):Int)-1).toNat=i by omega];have b:=uk (y+j) (show i+1<=12 by omega)
   grind [P.GF,P.ms,P.wj]
  grind
theorem wm(a b:Int):M.fx aJ a b=M.iu aJ a b:=by
 unfold M.fx M.iu;rw[Aq,Aq,od,od];simp only[aqI];by_cases ha:0<=a/\a<=109572
 case neg=>
  grind
 by_cases hb:0<=b/\b<=109572
 case neg=>
  grind
 rw[au ha,au hb];simp only[ari,aqM,if_false,aqI];obtain⟨r,er,hr⟩:=um ha;obtain⟨s,es,hs⟩:=um hb;have hry:=hr.1;have hsy:=hs.1;have hra:=hr.year;have UC:=hs.year
 have am:∀j:Nat,j<=300->M.dP aJ a (12*(j:Int))=aa (xB r (12*j)):=by
  intro j hj
  rcases wk a (12*j)with⟨_,r',_,e',f⟩|⟨h,_⟩
  .grind
  .grind [P.Nx]
 have loop:∀n:Nat,n<=299->(∀j:Nat,1<=j->j<=n->(xB r (12*j)).2=0/\(xB r (12*j)).1<=b)->¬((xB r (12*((n+1:Nat):Int))).2=0/\(xB r (12*((n+1:Nat):Int))).1<=b)->
  (Loop (S:=Int) (X:=Int) (λs4=>(M.eR aJ a (aqJ.wrap ((12:Int)*(aqJ.wrap (s4+(1:Int)))))).bind λy5=>((if(!decide (y5.2=(0:Int)))=af then aa af else aa (decide (b<y5.1))):Option (Bool)).bind λj6=>
    (if j6=af then aa (arc s4)else aa (arj (aqJ.wrap (s4+(1:Int)))))) aJ (0:Int))=aa (n:Int):=by
  intro n hn h1 h2;apply Wp.eq;refine Wp.loop (λs:Int=>∃k:Nat,s=k/\k<=n) (λs=>(n-s).toNat) ⟨0,rfl,aq2 _⟩ (by unfold aJ;omega) ?_
  rintro _ ⟨k,rfl,hk⟩
  rw[aU (by omega),aH (by omega) (by omega),<-th,am (k+1) (by omega),aqI];by_cases c:(xB r (12*((k+1:Nat):Int))).2=0/\(xB r (12*((k+1:Nat):Int))).1<=b
  .have Bb:k<n:=by
    rcases Nat.lt_or_ge k n with g|g
    .exact g
    .grind
   rw[aj (by rw[au c.1];decide),aqI,aj (by rw[av (Int.not_lt.2 c.2)];decide)];exact .some ⟨⟨k+1,rfl,Bb⟩,by grind⟩
  .have Bb:k=n:=by
    rcases Nat.lt_or_ge k n with g|g
    .grind
    .omega
   subst Bb;by_cases c1:(xB r (12*((k+1:Nat):Int))).2=0
   .rw[aj (by rw[au c1];decide),aqI,al (au (Int.not_le.1 λg=>c ⟨c1,g⟩))];exact .some rfl
   .rw[al (by simpa using c1),aqI,al rfl];exact .some rfl
 by_cases yB:b<a
 .rw[al (by simpa using yB)]
  have:=loop 0 (by omega) (λj h1 h2=>by omega) (by
   rintro⟨c1,c2⟩
   rcases uo hr 1 with⟨_,_,h3,_⟩|⟨_,h3⟩
   all_goals grind)
  exact this.symm
 .rw[aj (by simpa using yB),er,es,aqI,aqI,aH (n:=s.1-r.1) (by omega) (by omega)]
  have hle:r.1<=s.1:=by
   rcases asi s.1 r.1 with c|c
   .have:=zc (show s.1+1<=r.1 by omega);omega
   .exact c
  obtain⟨Y,hY⟩:∃Y:Nat,s.1-r.1=Y:=⟨(s.1-r.1).toNat,by omega⟩
  have hY3:Y<=299:=by omega
  rw[hY,aH (n:=12*(Y:Int)) (by omega) (by omega),am Y (by omega),aqI]
  have low:∀j:Nat,1<=j->j<Y->(xB r (12*j)).2=0/\(xB r (12*j)).1<=b:=by
   intro j h1 h2
   rcases uo hr j with⟨_,g2,_,g4,_⟩|⟨g1,_⟩
   .have:=zc (show r.1+j+1<=s.1 by omega)
    grind
   .omega
  have high:¬((xB r (12*((Y+1:Nat):Int))).2=0/\(xB r (12*((Y+1:Nat):Int))).1<=b):=by
   rintro⟨c1,c2⟩
   rcases uo hr (Y+1)with⟨_,_,g3,_⟩|⟨_,g2⟩
   .grind
   .omega
  by_cases c:(xB r (12*(Y:Int))).2=0/\(xB r (12*(Y:Int))).1<=b
  .rw[aj (by rw[au c.1];decide),aqI,aj (by rw[av (Int.not_lt.2 c.2)];decide),aqI,aj (by omega)]
   grind
  .have oZ:1<=Y:=by
    rcases Nat.eq_zero_or_pos Y with g|g
    .subst g
     rcases uo hr 0 with⟨_,g2,_,_,g5⟩|⟨g1,_⟩
     all_goals grind
    .exact g
   have fin:((if(!decide ((xB r (12*(Y:Int))).2=(0:Int)))=af then aa af else aa (decide (b<(xB r (12*(Y:Int))).1))):Option Bool)=aa af:=by
    by_cases c1:(xB r (12*(Y:Int))).2=0
    .grind
    .grind
   rw[fin,aqI,al rfl,aqI,aH (by omega) (by omega),aj (by omega)];have:=loop (Y-1) (by omega) (λj h1 h2=>low j h1 (by omega)) (by rw[show Y-1+1=Y by omega];exact c);rw[this];refine ay aa ?_;omega
end L.P
namespace L.P
def tj(x a b:Int):(if decide (x=a)=af then aa (decide (x=a))else aa (decide (x=b)))=aa (decide (x=a\/x=b)):=by
 grind
def DZ(x a b c:Int):(if decide (x=a)=af then aa (decide (x=a))else(if decide (x=b)=af then aa (decide (x=b))else aa (decide (x=c))))=aa (decide (x=a\/x=b\/x=c)):=by
 grind
def wo(x a b c d:Int):(if decide (x=a)=af then aa (decide (x=a))else(if decide (x=b)=af then aa (decide (x=b))else(if decide (x=c)=af then aa (decide (x=c))else aa (decide (x=d)))))=aa (decide (x=a\/x=b\/x=c\/x=d)):=by
 grind
def GJ(x a b c d e:Int):(if decide (x=a)=af then aa (decide (x=a))else(if decide (x=b)=af then aa (decide (x=b))else(if decide (x=c)=af then aa (decide (x=c))else(if decide (x=d)=af then aa (decide (x=d))else aa (decide (x=e))))))=aa (decide (x=a\/x=b\/x=c\/x=d\/x=e)):=by
 grind
theorem Wp.iz{α:Type}{l:List α}{i:Int}{Q:α->Prop}(h0:0<=i)(h1:i<l.length)(h:∀x,x∈l->idx l i=asp x->Q x):Wp (idx l i) Q:=by
 obtain⟨k,rfl⟩:∃k:Nat,i=k:=⟨i.toNat,by omega⟩
 have hk:k<l.length:=by omega
 exact⟨_,aF hk,h _ (aqN hk) (aF hk)⟩
def ar(op:Int):Int:=
 if(1<=op/\op<=9)\/(35<=op/\op<=39)then 0 else if op=10\/op=25\/(31<=op/\op<=34)then 1 else if(11<=op/\op<=24)\/(27<=op/\op<=30)then 2 else if op=26 then 3 else-1
theorem dE(N:Nat)(op:Int):M.eh N op=aa (ar op):=by
 by_cases h:1<=op/\op<=39
 .have:op=1\/op=2\/op=3\/op=4\/op=5\/op=6\/op=7\/op=8\/op=9\/op=10\/op=11\/op=12\/op=13\/op=14\/op=15\/op=16\/op=17\/op=18\/op=19\/op=20\/op=21\/op=22\/op=23\/op=24\/op=25\/op=26\/op=27\/op=28\/op=29\/op=30\/op=31\/op=32\/op=33\/op=34\/op=35\/op=36\/op=37\/op=38\/op=39:=by omega
  rcases this with rfl|rfl|rfl|rfl|rfl|rfl|rfl|rfl|rfl|rfl|rfl|rfl|rfl|rfl|rfl|rfl|rfl|rfl|rfl|rfl|rfl|rfl|rfl|rfl|rfl|rfl|rfl|rfl|rfl|rfl|rfl|rfl|rfl|rfl|rfl|rfl|rfl|rfl|rfl<;>(show(_:Option Int)=_;kernel_rfl)
 .have ha:ar op= -1:=by unfold ar;rw[aj (by omega),aj (by omega),aj (by omega),aj (by omega)]
  rw[ha]
  have ne:∀k:Int,1<=k->k<=39->decide (op=k)=ah:=λk h1 h2=>by simp;omega
  unfold M.eh;simp[ne]
def lR(op:Int):ar op<=3:=by grind [P.ar]
def kl(env:bR.den):Prop:=env.2.2.2.1.length<=100/\∀t∈env.2.2.2.2.2,t.2.2.2.length<=9223372036854775807
def Fm(op m:Int):Prop:=0<=ar op/\(op=14\/op=15\/op=16->0<=m/\m<=5)/\(op=34->0<=m/\aqY m 8<=5)/\(op=6->0<=m)
def QO(N:Nat)(op:Int):Wp (M.fM N op) λ_=>True:=by
 unfold M.fM;simp only[aQ,aqI];exact .some trivial
def uq(N:Nat)(op m:Int):Wp (M.cK N (op,m)) λb=>b=af->Fm op m:=by
 unfold M.cK;simp only[dE,aqI]
 refine Wp.seq (λj=>j=ah->0<=ar op) ?_ λj hj=>?_
 .refine Wp.dec (λ_=> .some λh=>by cases h) λh=>?_
  refine Wp.mO (λ_=>Wp.seq _ (QO ..) λy _=> .some λ_=>by omega) λ_=> .some λ_=>by omega
 .refine Wp.ite (λ_=> .some λh=>by cases h) λhc=>?_
  have ha:=hj (by simpa using hc);rw[DZ];simp only[aqI,aQ,kj]
  refine .some λhb=>?_
  grind [P.Fm]
def Exs(op m:Int)(env:bR.den):Prop:=
 (op=7->0<=m/\m<env.2.1.length)/\(op=8->0<=m/\m<env.2.2.1.length)/\(op=33->0<=m/\m<env.2.2.2.2.2.length)/\(op=34->aqJ.wrap (aqW m 8)<env.2.2.2.2.2.length)/\(op=36\/op=37\/op=38\/op=39->0<=m/\m<env.2.2.2.2.1.length)
def ur(N:Nat)(op m:Int)(env:bR.den):Wp (M.dN N (op,m) env) λb=>b=af->Exs op m env:=by
 unfold M.dN Exs;simp only
 refine Wp.dec (λh=>?_) λh7=>?_
 .subst h;simp only[aQ,aqI,kj];exact .some (by grind)
 refine Wp.dec (λh=>?_) λh8=>?_
 .subst h
  refine Wp.seq (λj=>j=af->0<=m/\m<env.2.2.1.length) ?_ λj hj=> .some (by grind)
  refine Wp.dec (λh0=>Wp.dec (λh1=>Wp.bind (Wp.iz h0 h1 λx _ _=> .some λ_=>⟨h0,h1⟩)) λ_=> .some λh=>by cases h) λ_=> .some λh=>by cases h
 refine Wp.dec (λh=>?_) λh33=>?_
 .subst h;simp only[aQ,aqI,kj];exact .some (by grind)
 refine Wp.dec (λh=>?_) λIa=>?_
 .subst h;exact .some (by grind)
 rw[wo];simp only[aqI]
 refine Wp.dec (λh=>?_) λZf=> .some (by grind)
 simp only[aQ,aqI,kj];exact .some (by grind)
def GK{N:Nat}(l:List Vl)(hl:l.length<=100000)(hN:100001<=N):Wp (M.cL N l) λb=>b=af->∀v∈l,bD v.1 v.2.1 v.2.2:=by
 unfold M.cL;refine Wp.loop (λs:Int=>∃i:Nat,s=i/\i<=l.length/\∀v∈l.take i,bD v.1 v.2.1 v.2.2) (λs=>(l.length-s).toNat) ⟨0,rfl,aq2 _,by simp⟩ (by omega) ?_
 rintro _ ⟨i,rfl,hi,hp⟩
 refine Wp.dec (λh=>?_) λh=> .some λ_=>?_
 .have jn:i<l.length:=by omega
  rw[aF jn];simp only[aqI,cH]
  refine Wp.mO (λ_=> .some λh=>by cases h) λhq=> .some ?_
  rw[aU (by omega)];refine⟨⟨i+1,rfl,jn,λv hv=>?_⟩,by grind⟩
  grind [List.take_succ_eq_append_getElem]
 grind
def GL(N:Nat)(a b:Vl):Wp (M.dz N a b) λ_=>True:=by
 unfold M.dz;simp only[aQ,aqI];exact .some trivial
def Yc(N:Nat)(a b:Int):Wp (M.cr N a b) λ_=>True:=by
 unfold M.cr;simp only[fH,aQ,aqI];exact .some trivial
def UD(N:Nat)(op:Int)(a b:Vl):Wp (M.aT N op a b) λ_=>True:=by
 unfold M.aT M.dz;simp only[fH,aQ,aqI];exact .some trivial
def Aws(op m:Int)(env:bR.den):Prop:=
 (op=34->∀t,idx env.2.2.2.2.2 (aqJ.wrap (aqW m 8))=aa t->t.2.1=((3,0):Int×Int)/\t.2.2.1=((4,0):Int×Int))/\(op=36\/op=37\/op=38\/op=39->∀t,idx env.2.2.2.2.1 m=aa t->SZ op t)
def Au{N:Nat}{op m:Int}{args:List Vl}{env:bR.den}(hx:Exs op m env)(ha:(args.length:Int)=ar op)(Ia:op=34->0<=aqJ.wrap (aqW m 8)):Wp (M.bi N (op,m) args env) λb=>b=af->Aws op m env:=by
 obtain⟨x7,x8,We,x34,x36⟩:=hx;unfold M.bi Aws;dsimp only[aC,Row.den]
 have no:∀{b:Bool},¬op=34->¬(op=36\/op=37\/op=38\/op=39)->b=af->(op=34->∀t,idx env.2.2.2.2.2 (aqJ.wrap (aqW m 8))=aa t->t.2.1=((3,0):Int×Int)/\t.2.2.1=((4,0):Int×Int))/\(op=36\/op=37\/op=38\/op=39->∀t,idx env.2.2.2.2.1 m=aa t->SZ op t):=λh1 h2 _=>⟨λe=>absurd e h1,λe=>absurd e h2⟩
 refine Wp.dec (λh=>?_) λh7=>?_
 .obtain⟨a,b⟩:=x7 h;exact Wp.bind (Wp.iz a b λx _ _=>by rw[cH];exact .some (no (by omega) (by omega)))
 refine Wp.dec (λh=>?_) λh8=>?_
 .obtain⟨a,b⟩:=x8 h;exact Wp.bind (Wp.iz a b λx _ _=>by rw[cH];exact .some (no (by omega) (by omega)))
 have anI:1<=ar op->0<args.length:=λh=>by omega
 refine Wp.dec (λh=>?_) λh33=>?_
 .obtain⟨a,b⟩:=We h
  have h1:ar op=1:=by rw[h];decide
  refine Wp.bind (Wp.iz a b λx _ _=>?_)
  refine Wp.seq (λ_=>True) ?_ λj _=> .some (no (by omega) (by omega))
  refine Wp.bind (Wp.iz (arO 0) (by omega) λy _ _=>?_);rw[rT];simp only[aqI,aQ];exact .some trivial
 refine Wp.dec (λh=>?_) λabD=>?_
 .have b:=x34 h
  have h1:ar op=1:=by rw[h];decide
  refine Wp.bind (Wp.iz (Ia h) b λx _ hxx=>?_)
  refine Wp.seq (λj=>j=af->x.2.1=((3,0):Int×Int)/\x.2.2.1=((4,0):Int×Int)) ?_ λj hj=> .some λhb=>⟨λ_ t ht=>?_,λe=>by omega⟩
  .refine Wp.bind (Wp.iz (arO 0) (by omega) λy _ _=>?_);simp only[aQ,kj]
   refine .some λhb=>?_
   simp only[arV,o6,az]at hb;exact⟨hb.2.1,hb.2.2⟩
  .rw[hxx]at ht;obtain rfl:=aqL ht;exact hj hb
 rw[wo];simp only[aqI]
 refine Wp.dec (λh=>?_) λZf=>?_
 .obtain⟨a,b⟩:=x36 h;refine Wp.bind (Wp.iz a b λx _ hxx=>?_);rw[oc]
  refine .some λhb=>⟨λe=>absurd e abD,λ_ t ht=>?_⟩
  rw[hxx]at ht;obtain rfl:=aqL ht;simpa using hb
 have no':∀b:Bool,b=af->_:=λb=>no (b:=b) abD Zf
 refine Wp.dec (λh=>?_) λ_=>?_
 .refine Wp.bind (Wp.iz (arO 0) (by omega) λy _ _=>?_)
  exact Wp.seq _ (Yc ..) λb _=> .some (no' b)
 refine Wp.dec (λh=>?_) λ_=>?_
 .refine Wp.bind (Wp.iz (arO 0) (by omega) λy _ _=>?_);refine Wp.bind (Wp.iz (by omega) (by omega) λz _ _=>?_)
  exact Wp.seq _ (UD ..) λb _=> .some (no' b)
 refine Wp.dec (λh=>?_) λ_=> .some (no' _)
 refine Wp.seq (λ_=>True) ?_ λb _=> .some (no' b)
 refine Wp.bind (Wp.iz (arO 0) (by omega) λy _ _=>?_)
 refine Wp.dec (λ_=>?_) λ_=> .some trivial
 refine Wp.bind (Wp.iz (by omega) (by omega) λz _ _=>?_);refine Wp.bind (Wp.iz (by omega) (by omega) λz' _ _=>?_)
 exact Wp.seq _ (GL ..) λb _=> .some trivial
def Ce(c:Int):Prop:=c=0\/c=3\/c=12\/c=6\/c=8
def Cd.e{c:Int}(h:Cd c):Ce c:=by unfold Cd at h;unfold Ce;omega
theorem GM{op:Int}{t:Ty}{j:Nat}:{ms:List (List Vl)}->{first:Bool}->{acc c:Int}->mu op t j ms first acc= .inr c->c=3\/c=6\/c=8
 |[],_,_,_,h=>by cases h
 |l::ms,first,acc,c,h=>by
  rw[mu]at h;split at h
  .grind
  .split at h
   .grind
   .split at h
    .split at h
     .exact GM h
     grind
    grind
def UE(op:Int)(t:Ty)(j:Nat)(ms:List (List Vl)):Ce (Jm op t j ms).2:=by
 grind [P.Jm,P.Ce,P.GM]
def nQ(N:Nat)(b:Bool):Wp (M.eo N b) λ_=>True:=by
 unfold M.eo;simp only[aQ];exact .some trivial
def QP(op:Int)(a:Vl):Wp (M.gC aJ op a) λ_=>True:=by
 unfold M.gC
 refine Wp.dec (λ_=> .some trivial) λ_=>?_
 refine Wp.dec (λ_=>Wp.seq _ (nQ ..) λ_ _=> .some trivial) λ_=>?_
 refine Wp.seq _ (rk ..) λy _=>?_
 simp only[aQ];exact .some trivial
def Av(N:Nat)(a b:Int):Wp (M.lr N a b) λr=>Cd r.2:=by
 unfold M.lr
 refine Wp.seq _ (wa ..) λr _=>?_
 simp only[aQ,aqI];exact .some (DS (Cd3 _) (DS (CB _) (CB _)))
def Ny{op m:Int}{a b:Vl}(hm:op=14\/op=15\/op=16->0<=m/\m<=5)(fJ:13<=op/\op<=16):Wp (M.gP aJ (op,m) a b) λr=>Cd r.2:=by
 unfold M.gP;dsimp only[aC,Row.den]
 refine Wp.seq (λj=>Cd j.1) ?_ λj hj=> .some hj
 refine Wp.dec (λ_=>Wp.seq _ (Av ..) λr hr=> .some hr) λh13=>?_
 have EM:=hm (by omega);simp only[aQ,aqI,kj]
 refine Wp.ite (λ_=>Wp.seq _ (CE EM) λr hr=> .some hr) λ_=>?_
 refine Wp.dec (λ_=>Wp.seq _ (DT EM) λr hr=> .some hr) λ_=>?_
 refine Wp.dec (λ_=>Wp.seq _ (vh EM) λr hr=> .some hr) λ_=>?_
 refine Wp.dec (λ_=>Wp.seq _ (oS _ EM) λr hr=> .some hr) λ_=>?_
 exact Wp.seq _ (wb EM) λr hr=> .some hr
def Nz{op m:Int}{a b:Vl}(hm:op=14\/op=15\/op=16->0<=m/\m<=5):Wp (M.bT aJ (op,m) a b) λr=>Cd r.2:=by
 unfold M.bT;dsimp only[aC,Row.den];rw[tj,wo,tj];simp only[aqI]
 refine Wp.ite (λ_=> .some (CB 0)) λ_=>?_
 refine Wp.dec (λ_=> .some (CB 0)) λ_=>?_
 refine Wp.dec (λh=>Wp.seq _ (Ny hm (by omega)) λr hr=> .some hr) λ_=>?_
 refine Wp.dec (λ_=>?_) λ_=>?_
 .simp only[aQ];exact .some (by split<;>exact CB 0)
 refine Wp.dec (λ_=>Wp.seq _ (nQ ..) λ_ _=> .some (CB 0)) λ_=>?_
 refine Wp.dec (λ_=>Wp.seq _ (nQ ..) λ_ _=> .some (CB 0)) λ_=>?_
 refine Wp.dec (λ_=>Wp.seq _ (nQ ..) λ_ _=> .some (CB 0)) λ_=>?_
 refine Wp.dec (λ_=>Wp.seq _ (nQ ..) λ_ _=> .some (CB 0)) λ_=>?_
 refine Wp.dec (λ_=>Wp.seq (λj=>j.1=0) (Wp.dec (λ_=>Wp.seq _ (nQ ..) λ_ _=> .some rfl) λ_=>Wp.seq _ (nQ ..) λ_ _=> .some rfl) λj hj=> .some (.inl hj)) λ_=>?_
 refine Wp.dec (λ_=>Wp.seq (λj=>j.1=0) (Wp.dec (λ_=>Wp.seq _ (nQ ..) λ_ _=> .some rfl) λ_=>Wp.seq _ (nQ ..) λ_ _=> .some rfl) λj hj=> .some (.inl hj)) λ_=>?_
 refine Wp.dec (λ_=>Wp.seq _ (pC ..) λr hr=> .some hr) λ_=>?_
 refine Wp.dec (λ_=> .some (CB 0)) λ_=>?_
 exact Wp.seq _ (pf ..) λr _=> .some (CB 0)
def Aw{op m:Int}{args:List Vl}{env:bR.den}(he:kl env)(hf:Fm op m)(hx:Exs op m env)(ha:(args.length:Int)=ar op)(haw:Aws op m env)(Ia:op=34->0<=aqJ.wrap (aqW m 8)):Wp (M.bl aJ (op,m) args env) λr=>Ce r.2:=by
 obtain⟨x7,x8,We,x34,x36⟩:=hx;obtain⟨f0,f14,f34,_⟩:=hf;obtain⟨w34,w36⟩:=haw;have S5:Ce 0:= .inl rfl;unfold M.bl;dsimp only[aC,Row.den];rw[GJ,wo];simp only[aqI]
 refine Wp.dec (λ_=> .some S5) λ_=>?_
 refine Wp.dec (λ_=> .some S5) λ_=>?_
 refine Wp.dec (λh=>Wp.bind (Wp.iz (x7 h).1 (x7 h).2 λx _ _=> .some S5)) λ_=>?_
 refine Wp.dec (λh=>Wp.bind (Wp.iz (x8 h).1 (x8 h).2 λx _ _=> .some S5)) λ_=>?_
 refine Wp.dec (λ_=> .some S5) λ_=>?_
 refine Wp.dec (λ_=> .some S5) λ_=>?_
 refine Wp.dec (λh=>?_) λ_=>?_
 .obtain⟨a,b⟩:=x36 h
  obtain⟨j,rfl⟩:∃j:Nat,m=j:=⟨m.toNat,by omega⟩
  have hj:j<env.2.2.2.2.1.length:=by omega
  rw[pW (by unfold aJ;omega) h hj he.1 (w36 h _ (aF hj))];exact .some (UE ..)
 refine Wp.dec (λh=>?_) λ_=>?_
 .have h1:ar op=1:=by rw[h];decide
  refine Wp.bind (Wp.iz (We h).1 (We h).2 λx hx _=>?_);refine Wp.bind (Wp.iz (arO 0) (by omega) λy _ _=>?_)
  refine Wp.seq _ (xz _ _ _ (he.2 x hx)) λr hr=>?_
  refine Wp.ite (λ_=> .some (by unfold Ce;omega)) λhc=>?_
  obtain⟨a,b⟩:=hr (by simpa using hc);exact Wp.bind (Wp.iz a b λz _ _=> .some S5)
 refine Wp.dec (λh=>?_) λ_=>?_
 .have h1:ar op=1:=by rw[h];decide
  refine Wp.bind (Wp.iz (Ia h) (x34 h) λx hx hxx=>?_);refine Wp.bind (Wp.iz (arO 0) (by omega) λy _ _=>?_);obtain⟨k1,k2⟩:=w34 h x hxx;obtain⟨m1,m2⟩:=f34 h
  have:0<=aqY m 8:=by rw[aq3 m1];omega
  exact Wp.seq _ (tc ⟨this,m2⟩ k1 k2 (he.2 x hx)) λr hr=> .some hr.e
 refine Wp.dec (λh=>?_) λ_=>?_
 .refine Wp.bind (Wp.iz (arO 0) (by omega) λy _ _=>?_)
  exact Wp.seq _ (QP ..) λr _=> .some S5
 refine Wp.dec (λh=>?_) λ_=>?_
 .refine Wp.bind (Wp.iz (arO 0) (by omega) λy _ _=>?_);refine Wp.bind (Wp.iz (by omega) (by omega) λz _ _=>?_)
  exact Wp.seq _ (Nz f14) λr hr=> .some hr.e
 have h3:ar op=3:=by
  have:¬ar op=0:=by unfold ar;split<;>(try split)<;>(try split)<;>(try split)<;>omega
  have:=lR op;omega
 refine Wp.bind (Wp.iz (arO 0) (by omega) λy _ _=>?_)
 refine Wp.dec (λ_=>Wp.bind (Wp.iz (by omega) (by omega) λz _ _=> .some S5)) λ_=>Wp.bind (Wp.iz (by omega) (by omega) λz _ _=> .some S5)
structure UF(r:Vl×Int):Prop where
 ok:r.2=0->bD r.1.1 r.1.2.1 r.1.2.2
 bad:r.2≠0->r.1=((0,0,0):Int×Int×Int)
 code:r.2=0\/r.2=2\/r.2=3\/r.2=6\/r.2=8\/r.2=12
def tl{n:Ty}{args:List Vl}{env:bR.den}(he:kl env)(hn:WF aD n)(hl:args.length<=100000):Wp (M.cx aJ n args env) UF:=by
 obtain⟨op,m⟩:=n;have hm:=hn.2;unfold M.cx
 have err:∀c:Int,c≠0->(c=2\/c=3\/c=6\/c=8\/c=12)->UF (((0:Int),((0:Int),(0:Int))),c):=λc h1 h2=>⟨λh=>absurd h h1,λ_=>rfl, .inr h2⟩
 refine Wp.seq (λj=>j=ah->Fm op m/\(args.length:Int)=ar op) ?_ λj hj=>?_
 .refine Wp.seq _ (uq ..) λy hy=>?_
  refine Wp.ite (λ_=> .some λh=>by cases h) λhc=>?_
  rw[dE];exact .some (by grind)
 refine Wp.ite (λ_=> .some (err 2 (by decide) (by omega))) λhc=>?_
 obtain⟨hf,ha⟩:=hj (by simpa using hc)
 refine Wp.seq _ (ur ..) λy hy=>?_
 refine Wp.ite (λ_=> .some (err 6 (by decide) (by omega))) λC9=>?_
 have hx:=hy (by simpa using C9)
 have Ia:op=34->0<=aqJ.wrap (aqW m 8):=λe=>by
  have h0:=(hf.2.2.1 e).1;have h1:(m:Int)<=9223372036854775807:=hm.2;rw[aq0 h0];dsimp only[aC,Row.den]at h0 h1⊢
  grind [aH]
 refine Wp.seq (λj=>j=ah->Aws op m env) ?_ λj5 hj5=>?_
 .refine Wp.seq _ (GK _ hl (by unfold aJ;omega)) λy _=>?_
  refine Wp.ite (λ_=> .some λh=>by cases h) λ_=>?_
  exact Wp.seq _ (Au hx ha Ia) λz hz=> .some λh=>hz (by simpa using h)
 refine Wp.ite (λ_=> .some (err 8 (by decide) (by omega))) λTW=>?_
 have haw:=hj5 (by simpa using TW)
 refine Wp.seq _ (Aw he hf hx ha haw Ia) λr hr=>?_
 refine Wp.mO (λh=> .some (err _ h (by unfold Ce at hr;omega))) λ_=>?_
 rw[cH];simp only[aqI]
 refine Wp.mO (λ_=> .some (err 3 (by decide) (by omega))) λhp=> .some ⟨λ_=>hp,λh=>absurd rfl h, .inl rfl⟩
end L.P
end Go.Proofs.YtfjgcenlllgonaaGreatDoor
