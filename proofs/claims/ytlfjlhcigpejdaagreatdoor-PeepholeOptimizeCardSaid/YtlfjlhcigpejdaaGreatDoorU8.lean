/- Joined texts: Plain Wq PV PT KD KE PT2 KM KM2 KM3 KB. -/
import Derived.Test.YtlfjlhcigpejdaaGreatDoorU1
import Derived.Test.YtlfjlhcigpejdaaGreatDoorU6
import Derived.Test.YtlfjlhcigpejdaaGreatDoorU7
import Derived.Lib.Mul64
import Derived.Laws.Bits64b
section
open _root_.Go.IntKind renaming i64->X6
namespace Go.Proofs.YtlfjlhcigpejdaaGreatDoor
open Go Go.RowKit
theorem ag{n:Int}(h0: -9223372036854775808<=n)(h1:n<=9223372036854775807):X6.wrap n=n:=by
 simp[IntKind.wrap,IntKind.bits,IntKind.signed];omega
theorem ax{α:Type}{l:List α}{k:Nat}(h:k<l.length):idx l (k:Int)=some l[k]:=by
 unfold idx;rw[if_pos (by omega)];simp[h]
theorem dG{α:Type}{l m:List α}(h:l.length+m.length<=4294967296):eW l m=some (l++m):=if_pos h
theorem tc{S X:Type}{body:S->Option (S⊕X)}(I:S->Prop)(μ:S->Nat)(Q:X->Prop)
 (step:∀s,I s->(∃s',body s=some (.inl s')/\I s'/\μ s'<μ s)\/∃x,body s=some (.inr x)/\Q x):
 ∀N s,I s->μ s<N->∃x,Loop body N s=some x/\Q x
 |0,_,_,h=>absurd h (by omega)
 |N+1,s,hi,aW=>by
  rcases step s hi with⟨s',hb,dA,hm⟩|⟨x,hb,hq⟩
  .obtain⟨x,hx,hq⟩:=tc I μ Q step N s' dA (by omega);exact⟨x,by unfold Loop;rw[hb];exact hx,hq⟩
  .exact⟨x,by unfold Loop;rw[hb],hq⟩
def az:Nat:=18446744073709551616
section
variable {α:Type}
end
end Go.Proofs.YtlfjlhcigpejdaaGreatDoor
end
section
open _root_.Go.IntKind renaming i64->X6
open _root_.List renaming getElem?_eq_getElem->X9,take_length->YU
open _root_.Nat renaming lt_or_ge->YN,zero_le->Yk
open _root_.Option renaming some->Zx
namespace Go.Proofs.YtlfjlhcigpejdaaGreatDoor
open Go Go.RowKit
def Wp{α:Type}(m:Option α)(Q:α->Prop):Prop:=∃x,m=some x/\Q x
theorem Wp.some{α:Type}{x:α}{Q:α->Prop}(h:Q x):Wp (some x) Q:=⟨x,rfl,h⟩
theorem Wp.of{α:Type}{m:Option α}{x:α}{Q:α->Prop}(e:m=Zx x)(h:Q x):Wp m Q:=⟨x,e,h⟩
theorem Wp.eq{α:Type}{m:Option α}{x:α}(h:Wp m (· =x)):m=Zx x:=by obtain⟨y,e,rfl⟩:=h;exact e
theorem Wp.mono{α:Type}{m:Option α}{Q Q':α->Prop}(h:Wp m Q)(hq:∀x,Q x->Q' x):Wp m Q':=by obtain⟨x,e,h⟩:=h;exact⟨x,e,hq x h⟩
theorem Wp.bind{α β:Type}{m:Option α}{k:α->Option β}{Q:β->Prop}(h:Wp m fun x=>Wp (k x) Q):Wp (m.bind k) Q:=by
 obtain⟨x,e,h⟩:=h;rw[e];exact h
theorem Wp.yN{α β:Type}{m:Option α}{k:α->Option β}{Q:β->Prop}{x:α}(e:m=Zx x)(h:Wp (k x) Q):Wp (m.bind k) Q:=by
 rw[e];exact h
theorem Wp.seq{α β:Type}{m:Option α}{k:α->Option β}{Q:β->Prop}(A:α->Prop)(h:Wp m A)(hk:∀x,A x->Wp (k x) Q):Wp (m.bind k) Q:= .bind (h.mono hk)
theorem Wp.map{α β:Type}{m:Option α}{f:α->β}{Q:β->Prop}(h:Wp m fun x=>Q (f x)):Wp (m.map f) Q:=by
 obtain⟨x,e,h⟩:=h;rw[e];exact⟨_,rfl,h⟩
theorem Wp.ite{α:Type}{c:Prop}[Decidable c]{a b:Option α}{Q:α->Prop}(ha:c->Wp a Q)(hb:¬c->Wp b Q):Wp (if c then a else b) Q:=by
 split
 .exact ha ‹_›
 .exact hb ‹_›
theorem Wp.dec{α:Type}{c:Prop}[Decidable c]{a b:Option α}{Q:α->Prop}(ha:c->Wp a Q)(hb:¬c->Wp b Q):Wp (if decide c=true then a else b) Q:=by
 by_cases h:c
 .rw[if_pos (decide_eq_true h)];exact ha h
 .rw[if_neg (by simpa using h)];exact hb h
theorem Wp.nN{α:Type}{c:Prop}[Decidable c]{a b:Option α}{Q:α->Prop}(ha:¬c->Wp a Q)(hb:c->Wp b Q):Wp (if(!decide c)=true then a else b) Q:=by
 by_cases h:c
 .rw[if_neg (by simp[h])];exact hb h
 .rw[if_pos (by simp[h])];exact ha h
def z4{J R:Type}(k:J->Option R)(Q:R->Prop):J⊕R->Prop
 | .inl j=>Wp (k j) Q
 | .inr r=>Q r
theorem Wp.join{J R:Type}{m:Option (J⊕R)}{k:J->Option R}{Q:R->Prop}(h:Wp m (z4 k Q)):Wp (da m k) Q:=by
 obtain⟨x,e,h⟩:=h;unfold da;rw[e]
 cases x with
 |inl j=>exact h
 |inr r=>exact⟨r,rfl,h⟩
def EO{S X:Type}(I:S->Prop)(μ:S->Nat)(s:S)(Q:X->Prop):S⊕X->Prop
 | .inl s'=>I s'/\μ s'<μ s
 | .inr x=>Q x
theorem Wp.loop{S X:Type}{body:S->Option (S⊕X)}{N:Nat}{s0:S}{Q:X->Prop}(I:S->Prop)(μ:S->Nat)(h0:I s0)(hN:μ s0<N)(step:∀s,I s->Wp (body s) (EO I μ s Q)):Wp (Loop body N s0) Q:=
 tc I μ Q (fun s hs=>by
  obtain⟨x,e,h⟩:=step s hs
  cases x with
  |inl s'=>exact .inl ⟨s',e,h⟩
  |inr x=>exact .inr ⟨x,e,h⟩) N s0 h0 hN
theorem Wp.idx{α:Type}{l:List α}{i:Int}{Q:α->Prop}(k:Nat)(hi:i=k)(hk:k<l.length)(h:Q l[k]):Wp (idx l i) Q:=by
 subst hi;exact⟨_,ax hk,h⟩
theorem nO{α:Type}{l:List α}{i j:Int}(a b:Nat)(hi:i=a)(hj:j=b)(h:a<=b)(hb:b<=l.length):fO l i j=Zx ((l.take b).drop a):=by
 subst hi;subst hj;unfold fO;rw[if_pos (by omega)];simp
theorem Wp.cut{α:Type}{l:List α}{i j:Int}{Q:List α->Prop}(a b:Nat)(hi:i=a)(hj:j=b)(h:a<=b)(hb:b<=l.length)(hq:Q ((l.take b).drop a)):Wp (fO l i j) Q:=⟨_,nO a b hi hj h hb,hq⟩
theorem td{α:Type}{l:List α}{b:Nat}(hb:b<=l.length):fO l 0 (b:Int)=Zx (l.take b):=by
 have:=nO (l:=l) 0 b rfl rfl (Yk _) hb;simpa using this
theorem al{k:Nat}(h:k<9223372036854775807):X6.wrap ((k:Int)+1)=((k+1:Nat):Int):=by rw[ag]<;>omega
theorem wH{k:Nat}(h:k<=9223372036854775807):X6.wrap (k:Int)=(k:Int):=by rw[ag]<;>omega
end Go.Proofs.YtlfjlhcigpejdaaGreatDoor
namespace Go.Proofs.YtlfjlhcigpejdaaGreatDoor
open Go Go.RowKit
section
variable {α β:Type}
theorem z5{x:α}{Q:α->Prop}:Wp (some x) Q↔Q x:=⟨fun⟨y,e,h⟩=>by cases e;exact h,fun h=>⟨x,rfl,h⟩⟩
theorem G0{Q:α->Prop}:Wp (none:Option α) Q↔False:=⟨fun⟨y,e,h⟩=>(by cases e),False.elim⟩
theorem EP{l:List α}{i:Int}{Q:α->Prop}:Wp (idx l i) Q↔∃h:0<=i/\i<(l.length:Int),Q (l[i.toNat]'(by omega)):=by
 by_cases h:0<=i/\i<(l.length:Int)
 .unfold idx;rw[if_pos h.1,X9 (by omega),z5];exact⟨fun g=>⟨h,g⟩,fun g=>g.2⟩
 .refine⟨fun⟨y,e,_⟩=>?_,fun g=>absurd g.1 h⟩;obtain⟨k,rfl,hk,_⟩:=dX e;omega
theorem Jq{l:List α}{i j:Int}{Q:List α->Prop}:Wp (fO l i j) Q↔(0<=i/\i<=j/\j<=l.length)/\Q ((l.take j.toNat).drop i.toNat):=by
 unfold fO;split
 .rw[z5];simp[*]
 .rw[G0];simp[*]
theorem Wp.and{m:Option α}{P Q:α->Prop}(h:Wp m P)(g:Wp m Q):Wp m fun x=>P x/\Q x:=by
 obtain⟨x,e,h⟩:=h;obtain⟨y,e',g⟩:=g;rw[e]at e';cases e';exact⟨x,e,h,g⟩
theorem Wp.getD{m:Option α}{Q:α->Prop}(h:Wp m Q)(d:α):m=Zx (m.getD d)/\Q (m.getD d):=by
 obtain⟨x,e,h⟩:=h;rw[e];exact⟨rfl,h⟩
end
def Jr{S X:Type}(qZ:S->Int)(m k:Nat)(J:Nat->S->Prop)(Q:X->Prop):S⊕X->Prop
 | .inl s=>k<m/\qZ s=((k+1:Nat):Int)/\J (k+1) s
 | .inr x=>Q x
theorem Wp.count{S X:Type}{body:S->Option (S⊕X)}{s0:S}{Q:X->Prop}(qZ:S->Int)(m:Nat)(J:Nat->S->Prop)(hm:m<=9223372036854775807)(h0:qZ s0=0)(hJ:J 0 s0)
 (step:∀k s,k<=m->qZ s=(k:Int)->J k s->Wp (body s) (Jr qZ m k J Q)):Wp (Loop body az s0) Q:=by
 refine Wp.loop (fun s=>∃k:Nat,qZ s=k/\k<=m/\J k s) (fun s=>m-(qZ s).toNat) ⟨0,h0,Yk _,hJ⟩ (by unfold az;omega) fun s hs=>?_
 obtain⟨k,hi,hk,hj⟩:=hs
 refine(step k s hk hi hj).mono fun r hr=>?_
 cases r with
 |inl s'=>
  obtain⟨h1,h2,h3⟩:=hr;exact⟨⟨k+1,h2,h1,h3⟩,by show m-(qZ s').toNat<m-(qZ s).toNat;rw[h2,hi];omega⟩
 |inr x=>exact hr
def lC{α:Type}(f:Nat->Option α):Nat->Option α
 |0=>none
 |m+1=>(lC f m).or (f m)
theorem lD{α:Type}{f:Nat->Option α}:∀{m:Nat},lC f m=none↔∀k,k<m->f k=none
 |0=>by simp[lC]
 |m+1=>by
  rw[lC,Option.or_eq_none_iff,lD];exact⟨fun h k hk=>by rcases Nat.lt_succ_iff_lt_or_eq.1 hk with h1|rfl<;>first|exact h.1 k h1|exact h.2,fun h=>⟨fun k hk=>h k (by omega),h m (by omega)⟩⟩
theorem tf{α:Type}{f:Nat->Option α}{x:α}{k:Nat}(hx:f k=some x)(hn:∀j,j<k->f j=none):∀{m:Nat},k<m->lC f m=some x
 |0,h=>by omega
 |m+1,h=>by
  rw[lC]
  rcases Nat.lt_succ_iff_lt_or_eq.1 h with h1|rfl
  .rw[tf hx hn h1];rfl
  .rw[lD.2 hn];exact hx
theorem Wp.first{S X Y:Type}{body:S->Option (S⊕X)}{s0:S}{Q:X->Prop}(qZ:S->Int)(m:Nat)(f:Nat->Option Y)(hm:m<=9223372036854775807)(h0:qZ s0=0)
 (h1:∀k s,k<m->qZ s=(k:Int)->(∀j,j<k->f j=none)->Wp (body s) fun r=>(f k=none/\∃s',r= .inl s'/\qZ s'=((k+1:Nat):Int))\/∃x y,r= .inr x/\f k=Zx y/\(lC f m=Zx y->Q x))
 (he:∀s,qZ s=(m:Int)->(lC f m=none)->Wp (body s) fun r=>∃x,r= .inr x/\Q x):Wp (Loop body az s0) Q:=by
 refine Wp.count qZ m (fun k _=>∀j,j<k->f j=none) hm h0 (fun j h=>by omega) fun k s hk hs hJ=>?_
 rcases YN k m with aW|hge
 .refine(h1 k s aW hs hJ).mono fun r hr=>?_
  rcases hr with⟨hn,s',rfl,h2⟩|⟨x,y,rfl,h2,h3⟩
  .exact⟨aW,h2,fun j hj=>by rcases Nat.lt_succ_iff_lt_or_eq.1 hj with h|rfl<;>first|exact hJ j h|exact hn⟩
  .exact h3 (tf h2 hJ aW)
 .obtain rfl:k=m:=by omega
  exact(he s hs (lD.2 hJ)).mono fun r hr=>by obtain⟨x,rfl,h⟩:=hr;exact h
def LI{S X C:Type}(qZ:S->Int)(acc:S->C)(k:Nat)(c:C)(I:Nat->C->Prop):S⊕X->Prop
 | .inl s=>qZ s=((k+1:Nat):Int)/\acc s=c/\I (k+1) c
 | .inr _=>False
def LJ{S X:Type}(Q:X->Prop):S⊕X->Prop
 | .inl _=>False
 | .inr x=>Q x
theorem Wp.fold{S X C α:Type}{body:S->Option (S⊕X)}{s0:S}{Q:X->Prop}(qZ:S->Int)(acc:S->C)(l:List α)(F:C->α->C)(c0:C)(I:Nat->C->Prop)(hm:l.length<=9223372036854775807)(h0:qZ s0=0)(hc:acc s0=c0)(hI:I 0 c0)
 (step:∀k s(h:k<l.length),qZ s=(k:Int)->I k (acc s)->Wp (body s) (LI qZ acc k (F (acc s) l[k]) I))
 (fin:∀s,qZ s=(l.length:Int)->acc s=l.foldl F c0->I l.length (acc s)->Wp (body s) (LJ Q)):Wp (Loop body az s0) Q:=by
 refine Wp.count qZ l.length (fun k s=>acc s=(l.take k).foldl F c0/\I k (acc s)) hm h0 ⟨by rw[hc];rfl,hc▸hI⟩ fun k s hk hs hJ=>?_
 rcases YN k l.length with aW|hge
 .refine(step k s aW hs hJ.2).mono fun r hr=>?_
  cases r with
  |inl s'=>
   obtain⟨h1,h2,h3⟩:=hr;refine⟨aW,h1,?_,h2▸h3⟩;rw[h2,hJ.1,<-List.take_append_getElem aW,List.foldl_append];rfl
  |inr x=>exact hr.elim
 .obtain rfl:k=l.length:=by omega
  rw[YU]at hJ
  refine(fin s hs hJ.1 hJ.2).mono fun r hr=>?_
  cases r with
  |inl s'=>exact hr.elim
  |inr x=>exact hr
set_option linter.defProp false
end Go.Proofs.YtlfjlhcigpejdaaGreatDoor
end
section
open _root_.Bool renaming eq_iff_iff->Yh,false_eq_true->X8,not_false->YC,not_true->Yp
open _root_.Int renaming reduceEq->Y1
open _root_.Go.IntKind renaming i64->X6
open _root_.List renaming drop_of_length_le->YZ,getElem?_eq_getElem->X9
open _root_.Nat renaming zero_le->Yk
open _root_.Option renaming bind_some->X5
namespace Go.Proofs.YtlfjlhcigpejdaaGreatDoor
open Go Go.RowKit
namespace L
abbrev Vl:Type:=af.den
abbrev Ty:Type:=aa.den
theorem ak{α:Type}{c:Prop}[Decidable c]{a b:α}:(if c then some a else some b)=some (if c then a else b):=by split<;>rfl
theorem eQ(a b:Bool):(if a=true then true else b)=(a||b):=by cases a<;>rfl
theorem dM(a b:Bool):(if a=true then b else false)=(a&&b):=by cases a<;>rfl
def aF(k e n:Int):Prop:=
 (k=1/\e=0/\0<=n/\n<=1)\/(k=2/\e=0/\-1000000000000<=n/\n<=1000000000000)\/(k=3/\e=0/\-1000000000000000<=n/\n<=1000000000000000)\/
 (k=4/\e=0/\-1000000000<=n/\n<=1000000000)\/(k=5/\e=0/\0<=n/\n<=109572)\/(k=6/\0<=e/\e<=7/\0<=n/\n<=15)
instance(k e n:Int):Decidable (aF k e n):=by unfold aF;infer_instance
theorem br(N:Nat)(v:Vl):M.bY N v=some (decide (aF v.1 v.2.1 v.2.2)):=by
 revert v;rintro⟨(k:Int),(e:Int),(n:Int)⟩
 unfold M.bY;simp only[ak,X5,eQ,dM];refine congrArg some ?_;by_cases h1:k=1
 .subst h1;rw[Yh];simp[aF];try(dsimp only[ae,Row.den]at*;omega)
 by_cases h2:k=2
 .subst h2;rw[Yh];simp[aF];try(dsimp only[ae,Row.den]at*;omega)
 by_cases h3:k=3
 .subst h3;rw[Yh];simp[aF];try(dsimp only[ae,Row.den]at*;omega)
 by_cases h4:k=4
 .subst h4;rw[Yh];simp[aF];try(dsimp only[ae,Row.den]at*;omega)
 by_cases h5:k=5
 .subst h5;rw[Yh];simp[aF];try(dsimp only[ae,Row.den]at*;omega)
 by_cases h6:k=6
 .subst h6;rw[Yh];simp[aF];try(dsimp only[ae,Row.den]at*;omega)
 simp[aF,h1,h2,h3,h4,h5,h6]
def pk(k e n a b:Int):Prop:=aF k e n/\k=a/\e=b
instance(k e n a b:Int):Decidable (pk k e n a b):=by unfold pk;infer_instance
abbrev EQ(v:Vl)(t:Ty):Prop:=pk v.1 v.2.1 v.2.2 t.1 t.2
theorem m6(N:Nat)(v:Vl)(t:Ty):M.gA N v t=some (decide (EQ v t)):=by
 unfold M.gA;rw[br];simp only[ak,X5,dM];refine congrArg some ?_;rw[Yh];simp[pk]
def pH(op k e:Int):Prop:=e=0/\(if op=36 then k=2\/k=3 else if op=39 then 2<=k/\k<=5 else k=1)
instance(op k e:Int):Decidable (pH op k e):=by unfold pH;infer_instance
abbrev G1(op:Int)(t:Ty):Prop:=pH op t.1 t.2
theorem dk(N:Nat)(k:Int):M.dP N k=some (decide (2<=k/\k<=4)):=by
 unfold M.dP;simp only[ak,X5,eQ];refine congrArg some ?_;rw[Yh];simp;omega
theorem kg(N:Nat)(op:Int)(t:Ty):M.dt N op t=some (decide (G1 op t)):=by
 unfold M.dt;rw[dk];simp only[ak,X5,eQ,dM];refine congrArg some ?_;obtain⟨(k:Int),(e:Int)⟩:=t;rw[Yh]
 show _↔decide (pH op k e)=true
 unfold pH
 by_cases h0:e=0<;>by_cases h1:op=36<;>by_cases h2:op=39<;>simp[h0,h1,h2]<;>try(dsimp only[ae,Row.den]at*;omega)
def fold(op acc n:Int)(first:Bool):Int:=
 if op=36 then acc+n else if op=37 then acc*n else if op=38 then(if acc<n then n else acc)else(if first=true\/acc<n then n else acc)
def gJ(op:Int)(t:Ty)(j:Nat):List (List Vl)->Bool->Int->Int⊕Int
 |[],_,acc=> .inl acc
 |l::ms,first,acc=>match l[j]? with
  |none=> .inr 6
  |some v=>if(v.1:Int)=0 then .inr 6 else if EQ v t then
    (if aF t.1 0 (fold op acc v.2.2 first)then gJ op t j ms false (fold op acc v.2.2 first)else .inr 3)else .inr 8
def lE(op:Int):Int:=if op=37 then 1 else 0
def ER(op:Int)(t:Ty)(j:Nat)(ms:List (List Vl)):Vl×Int:=
 if op=39/\ms=[]then((0,0,0),6)else match gJ op t j ms true (lE op)with
  | .inl a=>((t.1,0,a),0)
  | .inr c=>((0,0,0),c)
def z6(op:Int)(t:Ty)(first:Bool)(acc:Int):Prop:=(op=39/\first=true/\acc=0)\/aF t.1 0 acc
theorem z7{op:Int}{t:Ty}(fQ:op=36\/op=37\/op=38\/op=39)(ht:G1 op t):z6 op t true (lE op):=by
 obtain⟨(k:Int),(e:Int)⟩:=t
 obtain⟨h0,h1⟩:=(show pH op k e from ht)
 show(op=39/\true=true/\lE op=0)\/aF k 0 (lE op)
 unfold aF lE
 rcases fQ with rfl|rfl|rfl|rfl<;>simp at h1⊢<;>omega
theorem lF{N:Nat}(hN:100001<=N){op:Int}(fQ:op=36\/op=37\/op=38\/op=39){j:Nat}{env:aP.den}(hj:j<env.2.2.2.2.1.length)(hm:env.2.2.2.1.length<=100)(ht:G1 op env.2.2.2.2.1[j]):
 M.dl N (op,(j:Int)) env=some (ER op env.2.2.2.2.1[j] j env.2.2.2.1):=by
 obtain⟨d,ip,df,ms,ts,tb⟩:=env;simp only at hj hm ht⊢;apply Wp.eq;unfold M.dl;simp only;rw[ax hj];simp only[X5];generalize ts[j]=t at ht⊢;have xT:(t.2:Int)=0:=(show pH op t.1 t.2 from ht).1
 have e1:(if decide (op=37)=true then some (t.1,t.2,(1:Int))else some (t.1,t.2,(0:Int)):Option Vl)=some (t.1,t.2,lE op):=by
  unfold lE;by_cases h:op=37<;>simp[h]
 rw[e1];simp only[X5,ak,dM];unfold ER
 refine Wp.ite (fun h=>?_) fun h=>?_
 .have:op=39/\ms=[]:=by simpa using h
  rw[if_pos this];exact .some rfl
 .have FJ:¬(op=39/\ms=[]):=by simpa using h
  rw[if_neg FJ]
  refine Wp.join (Wp.loop (fun s:Int×Vl=>∃k:Nat,∃acc:Int,s=((k:Int),(t.1,t.2,acc))/\k<=ms.length/\z6 op t (decide (k=0)) acc/\gJ op t j (ms.drop k) (decide (k=0)) acc=gJ op t j ms true (lE op)) (fun s=>(ms.length-s.1).toNat)
   ⟨0,lE op,rfl,Yk _,z7 fQ ht,rfl⟩ (by simp only;omega) ?_)
  rintro _ ⟨k,acc,rfl,hk,Cc,hf⟩
  simp only
  refine Wp.dec (fun h=>?_) fun h=> .some (.some ?_)
  case refine_2=>
   have hd:ms.drop k=[]:=YZ (by omega);rw[hd]at hf;rw[<-hf];simp only[gJ];rw[xT]
  have cx:k<ms.length:=by omega
  have hd:ms.drop k=ms[k]::ms.drop (k+1):=List.drop_eq_getElem_cons cx;rw[hd]at hf;rw[ax cx];simp only[X5];rw[gJ]at hf;by_cases hl:j<ms[k].length
  .rw[X9 hl]at hf;simp only at hf;rw[ax hl];simp only[X5,ak,eQ,m6,br];generalize ms[k][j]=v at hf⊢;by_cases hv:(v.1:Int)=0
   .rw[if_pos hv]at hf;rw[if_pos (by simp[hv])];refine .some ?_
    show _=_
    rw[<-hf]
   .rw[if_neg hv]at hf;rw[if_neg (by simp[hv];omega)];by_cases hh:EQ v t
    .rw[if_pos hh]at hf;rw[if_neg (by simp[hh])]
     obtain⟨hp,BJ,FB⟩:=(show pk _ _ _ _ _ from hh)
     refine Wp.join ?_
     have key:∀a,fold op acc v.2.2 (decide (k=0))=a->aF t.1 0 a->EO (fun s:Int×Vl=>∃k:Nat,∃acc:Int,s=((k:Int),(t.1,t.2,acc))/\k<=ms.length/\z6 op t (decide (k=0)) acc/\gJ op t j (ms.drop k) (decide (k=0)) acc=gJ op t j ms true (lE op)) (fun s=>(ms.length-s.1).toNat) ((k:Int),(t.1,t.2,acc)) (z4 (fun j4=>some (j4,(0:Int))) fun x=>x=match gJ op t j ms true (lE op)with
      | .inl a=>((t.1,0,a),0)
      | .inr c=>((0,0,0),c)) (.inl (X6.wrap ((k:Int)+1),(t.1,t.2,a))):=by
      intro a ha Rx;subst ha;rw[if_pos Rx]at hf;rw[al (by omega)];refine⟨⟨k+1,_,rfl,cx, .inr Rx,?_⟩,by simp only;omega⟩;rw[show decide (k+1=0)=false by simp];exact hf
     rcases fQ with rfl|rfl|rfl|rfl
     all_goals simp only[decide_true,decide_false,if_true,if_false,Y1,X8,Yp,YC]
     .have LK:aF t.1 0 acc:=by
       rcases Cc with h|h
       .exact absurd h.1 (by decide)
       .exact h
      have FK:fold 36 acc v.2.2 (decide (k=0))=acc+v.2.2:=by simp[fold]
      have hw:X6.wrap (acc+v.2.2)=acc+v.2.2:=by
       revert LK hp;generalize(v.2.2:Int)=n;generalize(v.1:Int)=vk;generalize(v.2.1:Int)=ve;generalize(t.1:Int)=tk;intro h1 h2;unfold aF at h1 h2;dsimp only[ae,Row.den]at*;exact ag (by omega) (by omega)
      rw[hw];rw[FK]at hf;by_cases ll:aF t.1 0 (acc+v.2.2)
      .rw[if_neg (by rw[xT];simp[ll])];exact .some (.some (key _ FK ll))
      .rw[if_pos (by rw[xT];simp[ll])];rw[if_neg ll]at hf;refine .some ?_
       show _=_
       rw[<-hf]
     .have hb:(0<=(v.2.2:Int)/\(v.2.2:Int)<=1)/\0<=acc/\acc<=1/\(t.1:Int)=1:=by
       have h1:=(show pH 37 t.1 t.2 from ht).2
       have h2:aF t.1 0 acc:=by
        rcases Cc with h|h
        .exact absurd h.1 (by decide)
        .exact h
       rw[BJ]at hp;revert h1 h2 hp;generalize(v.2.2:Int)=n;generalize(v.2.1:Int)=ve;generalize(t.1:Int)=tk;intro h3 h1 h2;unfold aF at h2 h3;simp at h1;dsimp only[ae,Row.den]at*;omega
      obtain⟨⟨b1,b2⟩,b3,b4,b5⟩:=hb
      have FK:fold 37 acc v.2.2 (decide (k=0))=(if v.2.2<acc then v.2.2 else acc:Int):=by
       have P1:(v.2.2:Int)=0\/(v.2.2:Int)=1:=by revert b1 b2;generalize(v.2.2:Int)=n;intro b1 b2;dsimp only[ae,Row.den]at*;omega
       have P2:acc=0\/acc=1:=by omega
       rcases P1 with e1|e1<;>rcases P2 with e2|e2<;>simp[fold,e1,e2]
      refine .some (.some (key _ FK ?_));refine .inl ⟨b5,rfl,?_⟩;revert b1 b2;generalize(v.2.2:Int)=n;intro b1 b2;dsimp only[ae,Row.den]at*
      split<;>omega
     .have FK:fold 38 acc v.2.2 (decide (k=0))=(if acc<v.2.2 then v.2.2 else acc:Int):=by simp[fold]
      have h2:aF t.1 0 acc:=by
       rcases Cc with h|h
       .exact absurd h.1 (by decide)
       .exact h
      refine .some (.some (key _ FK ?_));rw[BJ,FB,xT]at hp;split
      .exact hp
      .exact h2
     .have h3:aF t.1 0 v.2.2:=by rw[BJ,FB,xT]at hp;exact hp
      by_cases hc:((k:Int)=0)\/acc<v.2.2
      .have FK:fold 39 acc v.2.2 (decide (k=0))=v.2.2:=by
        have:k=0\/acc<v.2.2:=hc.imp (fun h=>by omega) id;simp[fold,this]
       rw[if_pos (by simpa using hc)]
       have Wc:v=(t.1,t.2,v.2.2):=by rw[<-BJ,<-FB]
       rw[Wc];exact .some (.some (key _ FK h3))
      .have FK:fold 39 acc v.2.2 (decide (k=0))=acc:=by
        have:¬(k=0\/acc<v.2.2):=fun h=>hc (h.imp (fun h=>by omega) id)
        simp[fold,this]
       rw[if_neg (by simpa using hc)];refine .some (.some (key _ FK ?_))
       rcases Cc with h|h
       .exact absurd h.2.1 (by simp;omega)
       .exact h
    .rw[if_neg hh]at hf;rw[if_pos (by simp[hh])];refine .some ?_
     show _=_
     rw[<-hf]
  .rw[List.getElem?_eq_none (by omega)]at hf;rw[if_pos (by simp;omega)];refine .some ?_
   show _=_
   rw[<-hf]
end L
end Go.Proofs.YtlfjlhcigpejdaaGreatDoor
end
section
open _root_.Bool renaming and_eq_true->Y5,false_eq_true->X8
open _root_.Int renaming tdiv->Yn
open _root_.Go.IntKind renaming i64->X6,u64->Ya
open _root_.List renaming all_eq_true->Zo
open _root_.Nat renaming beq->Yb,div_div_eq_div_mul->ZA,div_lt_iff_lt_mul->YJ,mul_comm->YO,mul_le_mul_right->Ym,pow_add->Zw
open _root_.Option renaming bind_some->X5
namespace Go.Proofs.YtlfjlhcigpejdaaGreatDoor
open Go Go.RowKit
set_option maxRecDepth 100000
namespace L
theorem fu{n:Int}(h0:0<=n)(h1:n<18446744073709551616):Ya.wrap n=n:=by
 simp[IntKind.wrap,IntKind.bits,IntKind.signed];omega
theorem eU(n:Int):Ya.wrap n=n%18446744073709551616:=by
 simp[IntKind.wrap,IntKind.bits,IntKind.signed]
theorem iv(n:Int):0<=Ya.wrap n/\Ya.wrap n<18446744073709551616:=by rw[eU];omega
theorem z8(a:Int):ef .u64 a 32=a/4294967296:=by
 unfold ef;rw[show min (32:Int).toNat Ya.bits=32 from rfl];exact Int.fdiv_eq_ediv_of_nonneg _ (by decide)
theorem LL(a:Int):ef .u64 a 16=a/65536:=by
 unfold ef;rw[show min (16:Int).toNat Ya.bits=16 from rfl];exact Int.fdiv_eq_ediv_of_nonneg _ (by decide)
theorem P3(a:Int):ef .u64 a 8=a/256:=by
 unfold ef;rw[show min (8:Int).toNat Ya.bits=8 from rfl];exact Int.fdiv_eq_ediv_of_nonneg _ (by decide)
def uE:ByteArray:=(⟨#[0,1,2,2,3,3,3,3,4,4,4,4,4,4,4,4,5,5,5,5,5,5,5,5,5,5,5,5,5,5,5,5,6,6,6,6,6,6,6,6,6,6,6,6,6,6,6,6,6,6,6,6,6,6,6,6,6,6,6,6,6,6,6,6,7,7,7,7,7,7,7,7,7,7,7,7,7,7,7,7,7,7,7,7,7,7,7,7,7,7,7,7,7,7,7,7,7,7,7,7,7,7,7,7,7,7,7,7,7,7,7,7,7,7,7,7,7,7,7,7,7,7,7,7,7,7,7,7,8,8,8,8,8,8,8,8,8,8,8,8,8,8,8,8,8,8,8,8,8,8,8,8,8,8,8,8,8,8,8,8,8,8,8,8,8,8,8,8,8,8,8,8,8,8,8,8,8,8,8,8,8,8,8,8,8,8,8,8,8,8,8,8,8,8,8,8,8,8,8,8,8,8,8,8,8,8,8,8,8,8,8,8,8,8,8,8,8,8,8,8,8,8,8,8,8,8,8,8,8,8,8,8,8,8,8,8,8,8,8,8,8,8,8,8,8,8,8,8,8,8,8,8,8,8,8,8]⟩:ByteArray)
def Ii(n:Nat):Bool:=match sB uE n with
 |some k=>decide (0<=k)&&decide (k<=8)&&decide (n<2 ^ k.toNat)&&(Yb n 0||(decide (1<=k)&&decide (2 ^ (k.toNat-1)<=n)))
 |none=>false
theorem G2:(List.range 256).all Ii=true:=by kernel_rfl
theorem uB{n:Nat}(h:n<256):∃k:Nat,sB uE n=some (k:Int)/\k<=8/\n<2 ^ k/\(n≠0->1<=k/\2 ^ (k-1)<=n):=by
 have:=Zo.1 G2 n (List.mem_range.2 h);unfold Ii at this;split at this
 case h_2=>cases this
 rename_i k hk;simp only[Y5,Bool.or_eq_true,decide_eq_true_eq,Nat.beq_eq]at this;obtain⟨⟨⟨h1,h2⟩,h3⟩,h4⟩:=this;refine⟨k.toNat,by rw[hk,Int.toNat_of_nonneg h1],by omega,h3,fun hn=>?_⟩
 rcases h4 with h4|h4
 .exact absurd h4 hn
 .exact⟨by omega,h4.2⟩
theorem Js{m b k:Nat}(h:m/2 ^ b<2 ^ k):m<2 ^ (b+k):=by
 rw[YJ (Nat.two_pow_pos b)]at h;rw[Zw,YO];exact h
theorem Jt{m b k:Nat}(hk:1<=k)(h:2 ^ (k-1)<=m/2 ^ b):2 ^ (b+k-1)<=m:=by
 rw[Nat.le_div_iff_mul_le (Nat.two_pow_pos b)]at h;rw[show b+k-1=k-1+b by omega,Zw];exact h
theorem wI{N m:Nat}(hm:m<18446744073709551616):∃L:Nat,M.fV N m=some (L:Int)/\L<=64/\m<2 ^ L/\(m≠0->1<=L/\2 ^ (L-1)<=m):=by
 have fin:∀(b q:Nat)(w:Int),q=m/2 ^ b->w=b->b<=56->q<256->(m≠0->q≠0)->∃L:Nat,((sB uE (IntKind.u8.wrap (q:Int))).bind fun x4=>some (X6.wrap (w+X6.wrap x4)))=some (L:Int)/\L<=64/\m<2 ^ L/\(m≠0->1<=L/\2 ^ (L-1)<=m):=by
  intro b q w hq hw hb h1 h2;subst hq;subst hw;obtain⟨k,g1,g2,g3,g4⟩:=uB h1
  have hu:IntKind.u8.wrap ((m/2 ^ b:Nat):Int)=((m/2 ^ b:Nat):Int):=by
   simp only[IntKind.wrap,IntKind.bits,IntKind.signed];generalize m/2 ^ b=q at h1⊢;simp;omega
  refine⟨b+k,?_,by omega,Js g3,fun bu=>?_⟩
  .rw[hu,g1,X5,wH (by omega),<-Int.natCast_add,wH (by omega)]
  .obtain⟨g5,g6⟩:=g4 (h2 bu);exact⟨by omega,Jt g5 g6⟩
 have Wd:((m:Int)/4294967296)=((m/2 ^ 32:Nat):Int):=by rw[show(2 ^ 32:Nat)=4294967296 from rfl];omega
 have d48:m/2 ^ 32/2 ^ 16=m/2 ^ 48:=by rw[ZA,<-Zw]
 have d40:m/2 ^ 32/2 ^ 8=m/2 ^ 40:=by rw[ZA,<-Zw]
 have d56:m/2 ^ 48/2 ^ 8=m/2 ^ 56:=by rw[ZA,<-Zw]
 have d24:m/2 ^ 16/2 ^ 8=m/2 ^ 24:=by rw[ZA,<-Zw]
 have P4:∀q:Nat,((q:Int)/65536)=((q/2 ^ 16:Nat):Int):=fun q=>by rw[show(2 ^ 16:Nat)=65536 from rfl];omega
 have c8:∀q:Nat,((q:Int)/256)=((q/2 ^ 8:Nat):Int):=fun q=>by rw[show(2 ^ 8:Nat)=256 from rfl];omega
 unfold M.fV;rw[show(⟨#[0,1,2,2,3,3,3,3,4,4,4,4,4,4,4,4,5,5,5,5,5,5,5,5,5,5,5,5,5,5,5,5,6,6,6,6,6,6,6,6,6,6,6,6,6,6,6,6,6,6,6,6,6,6,6,6,6,6,6,6,6,6,6,6,7,7,7,7,7,7,7,7,7,7,7,7,7,7,7,7,7,7,7,7,7,7,7,7,7,7,7,7,7,7,7,7,7,7,7,7,7,7,7,7,7,7,7,7,7,7,7,7,7,7,7,7,7,7,7,7,7,7,7,7,7,7,7,7,8,8,8,8,8,8,8,8,8,8,8,8,8,8,8,8,8,8,8,8,8,8,8,8,8,8,8,8,8,8,8,8,8,8,8,8,8,8,8,8,8,8,8,8,8,8,8,8,8,8,8,8,8,8,8,8,8,8,8,8,8,8,8,8,8,8,8,8,8,8,8,8,8,8,8,8,8,8,8,8,8,8,8,8,8,8,8,8,8,8,8,8,8,8,8,8,8,8,8,8,8,8,8,8,8,8,8,8,8,8,8,8,8,8,8,8,8,8,8,8,8,8,8,8,8,8,8,8]⟩:ByteArray)=uE from rfl];simp only[z8,LL,P3,Wd,P4,c8];by_cases h1:4294967296<=m
 .have a1:decide ((4294967296:Int)<=(m:Int))=true:=by simp;omega
  simp only[a1,if_true,X5,P4,d48];by_cases h2:65536<=m/2 ^ 32
  .have a2:decide ((65536:Int)<=((m/2 ^ 32:Nat):Int))=true:=by simp;omega
   simp only[a2,if_true,X5,c8,d56];by_cases h3:256<=m/2 ^ 48
   .have a3:decide ((256:Int)<=((m/2 ^ 48:Nat):Int))=true:=by simp;omega
    simp only[a3,if_true,X5];exact fin 56 _ _ rfl (by kernel_rfl) (by omega) (by omega) (by omega)
   .have a3:decide ((256:Int)<=((m/2 ^ 48:Nat):Int))=false:=by simp;omega
    simp only[a3,X8,if_false,X5];exact fin 48 _ _ rfl (by kernel_rfl) (by omega) (by omega) (by omega)
  .have a2:decide ((65536:Int)<=((m/2 ^ 32:Nat):Int))=false:=by simp;omega
   simp only[a2,X8,if_false,X5,c8,d40];by_cases h3:256<=m/2 ^ 32
   .have a3:decide ((256:Int)<=((m/2 ^ 32:Nat):Int))=true:=by simp;omega
    simp only[a3,if_true,X5];exact fin 40 _ _ rfl (by kernel_rfl) (by omega) (by omega) (by omega)
   .have a3:decide ((256:Int)<=((m/2 ^ 32:Nat):Int))=false:=by simp;omega
    simp only[a3,X8,if_false,X5];exact fin 32 _ _ rfl (by kernel_rfl) (by omega) (by omega) (by omega)
 .have a1:decide ((4294967296:Int)<=(m:Int))=false:=by simp;omega
  simp only[a1,X8,if_false,X5,P4];by_cases h2:65536<=m
  .have a2:decide ((65536:Int)<=(m:Int))=true:=by simp;omega
   simp only[a2,if_true,X5,c8,d24];by_cases h3:256<=m/2 ^ 16
   .have a3:decide ((256:Int)<=((m/2 ^ 16:Nat):Int))=true:=by simp;omega
    simp only[a3,if_true,X5];exact fin 24 _ _ rfl (by kernel_rfl) (by omega) (by omega) (by omega)
   .have a3:decide ((256:Int)<=((m/2 ^ 16:Nat):Int))=false:=by simp;omega
    simp only[a3,X8,if_false,X5];exact fin 16 _ _ rfl (by kernel_rfl) (by omega) (by omega) (by omega)
  .have a2:decide ((65536:Int)<=(m:Int))=false:=by simp;omega
   simp only[a2,X8,if_false,X5,c8];by_cases h3:256<=m
   .have a3:decide ((256:Int)<=(m:Int))=true:=by simp;omega
    simp only[a3,if_true,X5];exact fin 8 _ _ rfl (by kernel_rfl) (by omega) (by omega) (by omega)
   .have a3:decide ((256:Int)<=(m:Int))=false:=by simp;omega
    simp only[a3,X8,if_false,X5];exact fin 0 m _ (by simp) (by kernel_rfl) (by omega) (by omega) (fun h=>h)
theorem LM(rh:Int)(h:0<=rh):(if rh<4294967296 then(4294967296-rh).toNat else 4294967297)<az:=by
 unfold az
 split<;>omega
theorem Cf{hi lo y:Int}(h0:0<=hi)(h1:hi<y)(h2:y<18446744073709551616):∃r,M.bQ az hi lo y=some r:=by
 have key:Wp (M.bQ az hi lo y) fun _=>True:=by
  unfold M.bQ;rw[if_neg (by simp;omega),if_neg (by simp;omega)]
  refine Wp.dec (fun _=>?_) fun bu=>?_
  .unfold gR li;rw[if_neg (by omega),if_neg (by omega)];exact .some trivial
  .obtain⟨m,rfl⟩:∃m:Nat,y=m:=⟨y.toNat,by omega⟩
   obtain⟨L,g1,g2,g3,g4⟩:=wI (N:=az) (m:=m) (by omega);obtain⟨g4,g5⟩:=g4 (by omega);unfold M.cK;rw[g1]
   have hL:Ya.wrap (X6.wrap ((64:Int)-(L:Int)))=((64-L:Nat):Int):=by
    rw[ag (by omega) (by omega),fu (by omega) (by omega)];omega
   have P5:Ya.wrap ((64:Int)-((64-L:Nat):Int))=(L:Int):=by rw[fu (by omega) (by omega)];omega
   simp only[X5,hL,P5]
   have eR:∀a:Int,xJ .u64 a ((64-L:Nat):Int)=some (pB .u64 a ((64-L:Nat):Int)):=fun a=>if_neg (by omega)
   have P6:∀a:Int,vh .u64 a (L:Int)=some (ef .u64 a (L:Int)):=fun a=>if_neg (by omega)
   have Ju:∀a:Int,vh .u64 a ((64-L:Nat):Int)=some (ef .u64 a ((64-L:Nat):Int)):=fun a=>if_neg (by omega)
   simp only[eR,P6,Ju,X5,z8]
   have hy:9223372036854775808<=pB .u64 (m:Int) ((64-L:Nat):Int)/\pB .u64 (m:Int) ((64-L:Nat):Int)<18446744073709551616:=by
    unfold pB;rw[show min (((64-L:Nat):Int).toNat) Ya.bits=64-L by simp[IntKind.bits]]
    have e1:m*2 ^ (64-L)<2 ^ 64:=by
     calc m*2 ^ (64-L)<2 ^ L*2 ^ (64-L):=Nat.mul_lt_mul_of_pos_right g3 (Nat.two_pow_pos _)
      _=2 ^ 64:=by rw[<-Zw];congr 1;omega
    have e2:2 ^ 63<=m*2 ^ (64-L):=by
     calc 2 ^ 63=2 ^ (L-1)*2 ^ (64-L):=by rw[<-Zw];congr 1;omega
      _<=m*2 ^ (64-L):=Ym _ g5
    have e3:((m:Int)*2 ^ (64-L))=((m*2 ^ (64-L):Nat):Int):=by simp
    rw[e3,fu (by omega) (by omega)];omega
   generalize pB .u64 (m:Int) ((64-L:Nat):Int)=x4 at hy⊢
   have We:0<x4/4294967296/\x4/4294967296<4294967296:=by omega
   generalize x4/4294967296=yn at We⊢
   have quo:∀a:Int,gR a yn=some (Yn a yn):=fun a=>if_neg (by omega)
   simp only[quo,X5]
   have inv:∀rh:Int,0<=rh->rh<18446744073709551616->¬4294967296<=Ya.wrap (rh+yn)->(if Ya.wrap (rh+yn)<4294967296 then(4294967296-Ya.wrap (rh+yn)).toNat else 4294967297)<(if rh<4294967296 then(4294967296-rh).toNat else 4294967297):=by
    intro rh i1 i2 hc;rw[if_pos (by omega)];by_cases hr:rh<4294967296
    .rw[if_pos hr];have:Ya.wrap (rh+yn)=rh+yn:=fu (by omega) (by omega);rw[this]at hc⊢;omega
    .rw[if_neg hr];have:=iv (rh+yn);omega
   simp only[ak,eQ,X5]
   refine Wp.seq (fun _=>True) (Wp.seq (fun _=>True) (Wp.loop (fun s:Int×Int=>0<=s.2/\s.2<18446744073709551616) (fun s=>if s.2<4294967296 then(4294967296-s.2).toNat else 4294967297) (iv _) (LM _ (iv _).1) ?_) fun _ _=> .some trivial) fun j9 _=>?_
   .rintro⟨q,rh⟩ ⟨i1,i2⟩
    refine .some ?_;split
    .split
     .trivial
     .rename_i hc;exact⟨iv _,inv rh i1 i2 (by simpa using hc)⟩
    .trivial
   refine Wp.seq (fun _=>True) (Wp.seq (fun _=>True) (Wp.loop (fun s:Int×Int=>0<=s.1/\s.1<18446744073709551616) (fun s=>if s.1<4294967296 then(4294967296-s.1).toNat else 4294967297) (iv _) (LM _ (iv _).1) ?_) fun _ _=> .some trivial) fun yK _=> .some trivial
   .rintro⟨rh,q⟩ ⟨i1,i2⟩
    refine .some ?_;split
    .split
     .trivial
     .rename_i hc;exact⟨iv _,inv rh i1 i2 (by simpa using hc)⟩
    .trivial
 obtain⟨x,hx,_⟩:=key;exact⟨x,hx⟩
theorem iT(N:Nat)(m:Int):M.cY N m=some (decide (0<=m)&&decide (m<=5)):=by
 unfold M.cY;simp only[ak,X5,dM]
theorem mh(N:Nat)(n l:Int):M.cl N n l=some (decide (l<n)||decide (n<X6.wrap (0-l))):=by
 unfold M.cl;simp only[ak,X5,eQ]
theorem fJ(N:Nat){n:Int}(h: -4611686018427387904<=n/\n<=4611686018427387904):M.b8 N n=some (if n<0 then-n else n):=by
 unfold M.b8;simp only[ak];refine congrArg some ?_;by_cases hn:n<0
 .rw[if_pos (by simpa using hn),if_pos hn,eU n,eU];omega
 .rw[if_neg (by simpa using hn),if_neg hn,fu (by omega) (by omega)]
end L
end Go.Proofs.YtlfjlhcigpejdaaGreatDoor
end
section
open _root_.Nat renaming add_mul->Yt,div_add_mod->Za,div_lt_iff_lt_mul->YJ,mod_lt->Zc,mul_comm->YO,mul_le_mul_right->Ym,zero_le->Yk
namespace Go.Proofs.YtlfjlhcigpejdaaGreatDoor
open Go Go.RowKit
namespace L
theorem yO{B y1 y0 u v q r:Nat}(hy:0<y1*B+y0)(P7:q*y1+r=u)(hge:(u*B+v)/(y1*B+y0)<=q)(Jv:q*y0<=B*r+v):q=(u*B+v)/(y1*B+y0):=by
 refine Nat.le_antisymm ?_ hge;rw[Nat.le_div_iff_mul_le hy,Nat.mul_add]
 have e1:q*(y1*B)+B*r=u*B:=by rw[<-P7,Yt,Nat.mul_assoc,YO B r]
 omega
theorem wJ{B y1 y0 u v q r:Nat}(hy:0<y1*B+y0)(P7:q*y1+r=u)(uZ:B*r+v<q*y0):(u*B+v)/(y1*B+y0)<q:=by
 rw[YJ hy,Nat.mul_add]
 have e1:q*(y1*B)+B*r=u*B:=by rw[<-P7,Yt,Nat.mul_assoc,YO B r]
 omega
theorem q6{B y u v:Nat}(hu:u<y)(hv:v<B):(u*B+v)/y<B:=by
 rw[YJ (by omega)];have:(u+1)*B<=y*B:=Ym B hu;rw[Yt]at this;rw[YO B y];omega
theorem wK{B y1 y0 u v:Nat}(LN:0<y1)(hB:0<B)(hv:v<B):(u*B+v)/(y1*B+y0)<=u/y1:=by
 have hy:0<y1*B+y0:=by have:=Nat.mul_pos LN hB;omega
 refine Nat.le_of_lt_succ ?_;rw[YJ hy,Nat.mul_add]
 have h1:u<(u/y1+1)*y1:=by
  have:=Za u y1;have:=Zc u LN;rw[Yt,Nat.one_mul,YO];omega
 have h2:(u+1)*B<=(u/y1+1)*y1*B:=Ym B h1;rw[Yt]at h2;have h3:(u/y1+1)*(y1*B)=(u/y1+1)*y1*B:=(Nat.mul_assoc ..).symm;have h4:0<=(u/y1+1)*y0:=Yk _
 show u*B+v<(u/y1).succ*(y1*B)+(u/y1).succ*y0
 show u*B+v<(u/y1+1)*(y1*B)+(u/y1+1)*y0
 omega
theorem q7{B y1 y0 u:Nat}(LN:0<y1)(h2:B<=2*y1)(h0:y0<B)(hu:u<y1*B+y0):u/y1<=B+1:=by
 refine Nat.le_of_lt_succ ?_;rw[YJ LN]
 show u<(B+1+1)*y1
 have:(B+1+1)*y1=y1*B+2*y1:=by rw[Yt,Yt,YO B y1];omega
 omega
end L
end Go.Proofs.YtlfjlhcigpejdaaGreatDoor
end
section
open _root_.Bool renaming eq_iff_iff->Yh
open _root_.Int renaming natCast_mul->YS,tdiv_eq_ediv_of_nonneg->Yj,tmod_eq_emod_of_nonneg->Yi
open _root_.Go.IntKind renaming i64->X6,u64->Ya
open _root_.Nat renaming add_mul->Yt,add_zero->Y0,div_add_mod->Za,div_le_self->Y4,div_lt_iff_lt_mul->YJ,lt_of_lt_of_le->YK,mod_lt->Zc,mul_comm->YO,mul_le_mul_right->Ym,pow_add->Zw,zero_add->Yw
open _root_.Option renaming bind_some->X5
namespace Go.Proofs.YtlfjlhcigpejdaaGreatDoor
open Go Go.RowKit
set_option maxRecDepth 100000
namespace L
theorem wL{a:Nat}(ha:a<18446744073709551616):cZ .and .u64 (a:Int) 4294967295=((a%4294967296:Nat):Int):=by
 have h:=bits_and_u64_nat a 4294967295 ha (by omega);rw[show a&&& 4294967295=a%4294967296 from Nat.and_two_pow_sub_one_eq_mod a 32]at h;exact h
theorem Wf{a b:Nat}(ha:a<18446744073709551616)(hb:b<18446744073709551616):cZ .or .u64 (a:Int) (b:Int)=((a|||b:Nat):Int):=bits_or_u64_nat a b ha hb
theorem LO(a:Nat){s:Nat}(hs:s<=64):ef .u64 (a:Int) (s:Int)=((a/2 ^ s:Nat):Int):=by
 unfold ef;rw[show min ((s:Int).toNat) Ya.bits=s by simp[IntKind.bits];omega];rw[Int.fdiv_eq_ediv_of_nonneg _ (by exact Int.le_of_lt (Int.pow_pos (by decide)))];simp
theorem P8(a:Nat){s:Nat}(hs:s<=64):pB .u64 (a:Int) (s:Int)=((a*2 ^ s%18446744073709551616:Nat):Int):=by
 unfold pB;rw[show min ((s:Int).toNat) Ya.bits=s by simp[IntKind.bits];omega];rw[eU,show((a:Int)*2 ^ s)=((a*2 ^ s:Nat):Int) by simp];omega
theorem la(a b:Nat)(h:b≠0):gR (a:Int) (b:Int)=some ((a/b:Nat):Int):=by
 unfold gR;rw[if_neg (by omega),Yj (by omega)];simp
theorem uF(a b:Nat)(h:b≠0):li (a:Int) (b:Int)=some ((a%b:Nat):Int):=by
 unfold li;rw[if_neg (by omega),Yi (by omega)];simp
theorem jI{a:Nat}(h:a<18446744073709551616):Ya.wrap (a:Int)=(a:Int):=fu (by omega) (by omega)
theorem nP(N:Nat){x y:Nat}(hx:x<18446744073709551616)(hy:y<18446744073709551616):M.b7 N (x:Int) (y:Int)=some (((x*y/18446744073709551616:Nat):Int),((x*y%18446744073709551616:Nat):Int)):=by
 obtain⟨bd,bt,bw,MR⟩:=Lib.mul64_hi x y hx hy;have ba:=Lib.half_mul_le (a:=x/4294967296) (b:=y/4294967296) (by omega) (by omega);have bb:=Lib.half_mul_le (a:=x/4294967296) (b:=y%4294967296) (by omega) (by omega);have bc:=Lib.half_mul_le (a:=x%4294967296) (b:=y/4294967296) (by omega) (by omega)
 have Wg:x/4294967296*(y/4294967296)<18446744073709551616:=by omega
 have Wh:x/4294967296*(y%4294967296)<18446744073709551616:=by omega
 have Wi:x%4294967296*(y/4294967296)<18446744073709551616:=by omega
 have Wj:x/4294967296*(y/4294967296)+(x/4294967296*(y%4294967296)+x%4294967296*(y%4294967296)/4294967296)/4294967296<18446744073709551616:=by omega
 have bh:x/4294967296*(y/4294967296)+(x/4294967296*(y%4294967296)+x%4294967296*(y%4294967296)/4294967296)/4294967296+((x/4294967296*(y%4294967296)+x%4294967296*(y%4294967296)/4294967296)%4294967296+x%4294967296*(y/4294967296))/4294967296<18446744073709551616:=by
  rw[MR];rw[YJ (by omega)];exact Nat.mul_lt_mul'' hx hy
 have dv:∀a:Nat,((a:Int)/4294967296)=((a/4294967296:Nat):Int):=fun a=>by omega
 have ml:∀a b:Nat,((a:Int)*(b:Int))=((a*b:Nat):Int):=fun a b=>(YS a b).symm
 have ad:∀a b:Nat,((a:Int)+(b:Int))=((a+b:Nat):Int):=fun a b=>(Int.natCast_add a b).symm
 unfold M.b7;simp only[z8,wL hx,wL hy,dv,ml,ad,jI bd,jI Wh,jI bt,wL bt,jI Wi,jI bw,jI Wg,jI Wj,jI bh];rw[MR];refine congrArg some (Prod.ext rfl ?_)
 show Ya.wrap _=_
 rw[eU];omega
theorem Jw{S:Type}{body:S->Option (S⊕Int)}(mk:Nat->Nat->S){B y1 y0 u v dg:Nat}(h0:y0<B)(hd:dg<B)
 (Ry:∀q r:Nat,q*y1+r=u->B*r+v<q*y0->dg<q)(Jv:∀q r:Nat,q*y1+r=u->dg<=q->q*y0<=B*r+v->q=dg)
 (hb:∀q r:Nat,q<=B+1->r<B->body (mk q r)=if B<=q\/B*r+v<q*y0 then(if B<=r+y1 then some (.inr (((q-1:Nat)):Int))else some (.inl (mk (q-1) (r+y1))))else some (.inr (q:Int))):
 ∀n q r N:Nat,q<=dg+n->q*y1+r=u->dg<=q->q<=B+1->r<B->n<N->Loop body N (mk q r)=some (dg:Int):=by
 intro n
 induction n with
 |zero=>
  intro q r N g1 g2 g3 g4 g5 g6
  obtain⟨N,rfl⟩:∃k,N=k+1:=⟨N-1,by omega⟩
  unfold Loop;rw[hb q r g4 g5];have hq:q=dg:=Nat.le_antisymm g1 g3
  have c:¬(B<=q\/B*r+v<q*y0):=by
   rintro(c|c)
   .omega
   .have:=Ry q r g2 c;omega
  rw[if_neg c]
  show some (q:Int)=_
  rw[<-hq]
 |succ n ih=>
  intro q r N g1 g2 g3 g4 g5 g6
  obtain⟨N,rfl⟩:∃k,N=k+1:=⟨N-1,by omega⟩
  unfold Loop;rw[hb q r g4 g5];by_cases c:B<=q\/B*r+v<q*y0
  .have aW:dg<q:=by
    rcases c with c|c
    .omega
    .exact Ry q r g2 c
   obtain⟨p,rfl⟩:∃p,q=p+1:=⟨q-1,by omega⟩
   have e1:p*y1+(r+y1)=u:=by
    rw[Yt,Nat.one_mul]at g2;omega
   rw[if_pos c,Nat.add_sub_cancel];by_cases e:B<=r+y1
   .rw[if_pos e]
    show some (p:Int)=_
    have a1:p*y0<=B*y0:=Ym _ (by omega);have a2:B*y0<=B*(r+y1):=Nat.mul_le_mul_left _ (by omega);rw[<-Jv p (r+y1) e1 (by omega) (by omega)]
   .rw[if_neg e];exact ih p (r+y1) N (by omega) e1 (by omega) (by omega) (by omega) (by omega)
  .rw[if_neg c]
   show some (q:Int)=_
   rw[<-Jv q r g2 g3 (by omega)]
theorem wM{S:Type}{body:S->Option (S⊕Int)}(mk:Nat->Nat->S){B y1 y0 u v:Nat}(hB:B+1<az)(h1:B<=2*y1)(KC:0<B)(h0:y0<B)(hu:u<y1*B+y0)(hv:v<B)(rN:y1<B)
 (hb:∀q r:Nat,q<=B+1->r<B->body (mk q r)=if B<=q\/B*r+v<q*y0 then(if B<=r+y1 then some (.inr (((q-1:Nat)):Int))else some (.inl (mk (q-1) (r+y1))))else some (.inr (q:Int))):
 Loop body az (mk (u/y1) (u%y1))=some (((u*B+v)/(y1*B+y0):Nat):Int):=by
 have hp:0<y1*B:=Nat.mul_pos (by omega) KC
 have hy:0<y1*B+y0:=by omega
 have tH:=Za u y1;have hm:=Zc u (show 0<y1 by omega);rw[YO]at tH;refine Jw mk h0 (q6 hu hv) (fun q r g c=>wJ hy g c) (fun q r g g' c=>yO hy g g' c) hb (B+1) (u/y1) (u%y1) az ?_ tH (wK (by omega) KC hv) (q7 (by omega) h1 h0 hu) (by omega) hB;exact Nat.le_trans (q7 (by omega) h1 h0 hu) (Nat.le_add_left _ _)
theorem q8{hi lo y:Nat}(h1:hi<y)(hl:lo<18446744073709551616)(h2:y<18446744073709551616):
 M.bQ az (hi:Int) (lo:Int) (y:Int)=some ((((hi*18446744073709551616+lo)/y:Nat):Int),(((hi*18446744073709551616+lo)%y:Nat):Int)):=by
 unfold M.bQ;rw[if_neg (by simp;omega),if_neg (by simp;omega)];by_cases h0:hi=0
 .subst h0;rw[if_pos (by simp),la _ _ (by omega),uF _ _ (by omega)];simp only[X5,Nat.zero_mul,Yw];rw[jI (Nat.lt_of_le_of_lt (Y4 _ _) hl)]
 .rw[if_neg (by simp;omega)];obtain⟨L,g1,g2,g3,g4⟩:=wI (N:=az) (m:=y) (by omega);obtain⟨g4,g5⟩:=g4 (by omega);unfold M.cK;rw[g1]
  have hL:Ya.wrap (X6.wrap ((64:Int)-(L:Int)))=((64-L:Nat):Int):=by
   rw[ag (by omega) (by omega),fu (by omega) (by omega)];omega
  have P5:Ya.wrap ((64:Int)-((64-L:Nat):Int))=(L:Int):=by rw[fu (by omega) (by omega)];omega
  simp only[X5,hL,P5]
  obtain⟨s,hs⟩:∃s,s=64-L:=⟨_,rfl⟩
  rw[<-hs]
  have LP:s<=64:=by omega
  have eR:∀a:Int,xJ .u64 a ((s:Nat):Int)=some (pB .u64 a ((s:Nat):Int)):=fun a=>if_neg (by omega)
  have P6:∀a:Int,vh .u64 a (L:Int)=some (ef .u64 a (L:Int)):=fun a=>if_neg (by omega)
  have Ju:∀a:Int,vh .u64 a ((s:Nat):Int)=some (ef .u64 a ((s:Nat):Int)):=fun a=>if_neg (by omega)
  have hP:0<2 ^ s:=Nat.two_pow_pos _
  have Jx:2 ^ L*2 ^ s=18446744073709551616:=by
   rw[<-Zw,show L+s=64 by omega]
  have P9:y*2 ^ s<18446744073709551616:=by
   rw[<-Jx];exact Nat.mul_lt_mul_of_pos_right g3 hP
  have Wk:9223372036854775808<=y*2 ^ s:=by
   have:2 ^ (L-1)*2 ^ s=9223372036854775808:=by rw[<-Zw,show L-1+s=63 by omega]
   rw[<-this];exact Ym _ g5
  have MR:hi*2 ^ s+2 ^ s<=y*2 ^ s:=by
   have:=Ym (2 ^ s) (show hi+1<=y from h1);rw[Yt,Nat.one_mul]at this;exact this
  have QV:lo/2 ^ L<2 ^ s:=by
   rw[YJ (Nat.two_pow_pos _),YO,Jx];exact hl
  have Wl:hi*2 ^ s%18446744073709551616=hi*2 ^ s:=Nat.mod_eq_of_lt (by omega)
  have Wm:(hi*2 ^ s)|||(lo/2 ^ L)=hi*2 ^ s+lo/2 ^ L:=by
   have:=Nat.shiftLeft_add_eq_or_of_lt QV hi;rw[Nat.shiftLeft_eq]at this;exact this.symm
  have Qa:lo*2 ^ s=(lo/2 ^ L)*18446744073709551616+lo*2 ^ s%18446744073709551616:=by
   have e:lo*2 ^ s/18446744073709551616=lo/2 ^ L:=by rw[<-Jx];exact Nat.mul_div_mul_right _ _ hP
   have:=Za (lo*2 ^ s) 18446744073709551616;rw[e]at this;omega
  have hdiv:(hi*18446744073709551616+lo)*2 ^ s/(y*2 ^ s)=(hi*18446744073709551616+lo)/y:=Nat.mul_div_mul_right _ _ hP;have wN:(hi*18446744073709551616+lo)*2 ^ s%(y*2 ^ s)=(hi*18446744073709551616+lo)%y*2 ^ s:=Nat.mul_mod_mul_right _ _ _
  have hW:(hi*18446744073709551616+lo)*2 ^ s=hi*2 ^ s*18446744073709551616+lo*2 ^ s:=by
   rw[Yt];rw[Nat.mul_right_comm]
  simp only[eR,P6,Ju,X5,z8,P8 _ LP,LO _ g2,Wl,Nat.mod_eq_of_lt P9];rw[Wf (by omega) (by omega),Wm]
  obtain⟨x7,e7,Wn⟩:∃x7,x7=lo*2 ^ s%18446744073709551616/\x7<18446744073709551616:=⟨_,rfl,Zc _ (by decide)⟩
  rw[<-e7]at Qa⊢
  obtain⟨U,hU⟩:∃U,U=hi*2 ^ s+lo/2 ^ L:=⟨_,rfl⟩
  obtain⟨Y,hY⟩:∃Y,Y=y*2 ^ s:=⟨_,rfl⟩
  obtain⟨W,Wo⟩:∃W,W=hi*18446744073709551616+lo:=⟨_,rfl⟩
  rw[<-Wo]at hdiv wN hW⊢;rw[<-hY]at P9 Wk hdiv wN MR⊢;rw[<-hU]
  have Wq:U<Y:=by omega
  have Wr:W*2 ^ s=U*18446744073709551616+x7:=by rw[hW,hU];omega
  rw[Wr]at hdiv wN
  obtain⟨y1,y0,Rz,RA,LN,LQ⟩:∃y1 y0,Y=y1*4294967296+y0/\y0<4294967296/\2147483648<=y1/\y1<4294967296:=⟨Y/4294967296,Y%4294967296,by omega,by omega,by omega,by omega⟩
  obtain⟨v1,v0,rP,DN,n7⟩:∃v1 v0,x7=v1*4294967296+v0/\v0<4294967296/\v1<4294967296:=⟨x7/4294967296,x7%4294967296,by omega,by omega,by omega⟩
  have eY:((Y:Int)/4294967296)=(y1:Int):=by omega
  have eV:((x7:Int)/4294967296)=(v1:Int):=by omega
  have aY:cZ .and .u64 (Y:Int) 4294967295=(y0:Int):=by rw[wL P9];omega
  have aV:cZ .and .u64 (x7:Int) 4294967295=(v0:Int):=by rw[wL Wn];omega
  simp only[eY,eV,aY,aV,la _ _ (show y1≠0 by omega),X5];have i1:Ya.wrap ((U/y1:Nat):Int)=((U/y1:Nat):Int):=jI (Nat.lt_of_le_of_lt (Y4 _ _) (by omega))
  have i2:∀a:Nat,Ya.wrap ((a:Int)-Ya.wrap (((a/y1:Nat):Int)*(y1:Int)))=Ya.wrap ((a%y1:Nat):Int):=by
   intro a;have e:=Za a y1;rw[YO]at e;rw[show(((a/y1:Nat):Int)*(y1:Int))=((a/y1*y1:Nat):Int)from(YS _ _).symm,eU,eU,eU];omega
  have i3:∀a:Nat,Ya.wrap ((a%y1:Nat):Int)=((a%y1:Nat):Int):=fun a=>jI (YK (Zc _ (by omega)) (by omega))
  simp only[i1,i2,i3]
  have body:∀(v q r:Nat),v<4294967296->q<=4294967297->r<4294967296->((if decide ((4294967296:Int)<=(q:Int))=true then some true else some (decide (Ya.wrap (Ya.wrap (4294967296*(r:Int))+(v:Int))<Ya.wrap ((q:Int)*(y0:Int))))):Option Bool)=some (decide (4294967296<=q\/4294967296*r+v<q*y0)):=by
   intro v q r hv hq hr;by_cases c:4294967296<=q
   .rw[if_pos (by simp;omega)];simp[c]
   .rw[if_neg (by simp;omega)];have m1:q*y0<=4294967295*4294967295:=Nat.mul_le_mul (by omega) (by omega);rw[show((q:Int)*(y0:Int))=((q*y0:Nat):Int)from(YS _ _).symm,jI (a:=q*y0) (by omega),show(4294967296*(r:Int))=((4294967296*r:Nat):Int) by omega,jI (a:=4294967296*r) (by omega),<-Int.natCast_add,jI (by omega)];refine congrArg some ?_;rw[Yh];simp only[decide_eq_true_eq];omega
  have cw:∀r:Nat,r<4294967296->Ya.wrap ((r:Int)+(y1:Int))=((r+y1:Nat):Int):=fun r hr=>by rw[<-Int.natCast_add,jI (by omega)]
  have cq:∀q:Nat,0<q->q<=4294967297->Ya.wrap ((q:Int)-1)=((q-1:Nat):Int):=fun q h hq=>by rw[fu (by omega) (by omega)];omega
  have pos:∀v q r:Nat,4294967296<=q\/4294967296*r+v<q*y0->0<q:=by
   intro v q r c
   rcases c with c|c
   .omega
   .rcases Nat.eq_zero_or_pos q with h|h
    .subst h;omega
    .exact h
  have sub:∀a b c r:Nat,a+b=c+r->r<18446744073709551616->Ya.wrap (Ya.wrap (Ya.wrap (a:Int)+(b:Int))-Ya.wrap (c:Int))=(r:Int):=by
   intro a b c r h hr;rw[eU,eU,eU,eU];omega
  have mB:∀a:Nat,((a:Int)*4294967296)=((a*4294967296:Nat):Int):=fun a=>by omega
  have mY:∀a:Nat,((a:Int)*(Y:Int))=((a*Y:Nat):Int):=fun a=>(YS _ _).symm
  apply Wp.eq;refine Wp.yN (x:=(((U*4294967296+v1)/Y:Nat):Int)) ?_ ?_
  .rw[Rz];refine(congrArg (fun o=>Option.bind o fun j=>some j) (wM (fun q r=>((q:Int),(r:Int))) (B:=4294967296) (u:=U) (v:=v1) (by unfold az;omega) (by omega) (by decide) RA (by omega) n7 LQ ?_)).trans rfl;intro q r hq hr;dsimp only;rw[body v1 q r n7 hq hr,X5,cw r hr];by_cases c:4294967296<=q\/4294967296*r+v1<q*y0
   .rw[if_pos (decide_eq_true c),if_pos c,cq q (pos _ _ _ c) hq];by_cases e:4294967296<=r+y1
    .rw[if_pos (by simp;omega),if_pos e]
    .rw[if_neg (by simp;omega),if_neg e]
   .rw[if_neg (by simpa using c),if_neg c]
  obtain⟨d1,pN⟩:∃d,d=(U*4294967296+v1)/Y:=⟨_,rfl⟩
  obtain⟨r1,HM⟩:∃r,r=(U*4294967296+v1)%Y:=⟨_,rfl⟩
  have CV:=Za (U*4294967296+v1) Y;have Qb:r1<Y:=HM▸Zc _ (by omega);rw[<-pN,<-HM,YO]at CV;rw[<-pN];rw[mB U,mY d1,sub (U*4294967296) v1 (d1*Y) r1 (by omega) (by omega)];simp only[la _ _ (show y1≠0 by omega),X5];have i4:Ya.wrap ((r1/y1:Nat):Int)=((r1/y1:Nat):Int):=jI (Nat.lt_of_le_of_lt (Y4 _ _) (by omega));simp only[i4,i2,i3];refine Wp.yN (x:=(((r1*4294967296+v0)/Y:Nat):Int)) ?_ ?_
  .rw[Rz];refine(congrArg (fun o=>Option.bind o fun j=>some j) (wM (fun q r=>((r:Int),(q:Int))) (B:=4294967296) (u:=r1) (v:=v0) (by unfold az;omega) (by omega) (by decide) RA (by omega) DN LQ ?_)).trans rfl;intro q r hq hr;dsimp only;rw[body v0 q r DN hq hr,X5,cw r hr];by_cases c:4294967296<=q\/4294967296*r+v0<q*y0
   .rw[if_pos (decide_eq_true c),if_pos c,cq q (pos _ _ _ c) hq];by_cases e:4294967296<=r+y1
    .rw[if_pos (by simp;omega),if_pos e]
    .rw[if_neg (by simp;omega),if_neg e]
   .rw[if_neg (by simpa using c),if_neg c]
  obtain⟨d0,LR⟩:∃d,d=(r1*4294967296+v0)/Y:=⟨_,rfl⟩
  obtain⟨r0,HJ⟩:∃r,r=(r1*4294967296+v0)%Y:=⟨_,rfl⟩
  have Qc:=Za (r1*4294967296+v0) Y;have LS:r0<Y:=HJ▸Zc _ (by omega);rw[<-LR,<-HJ,YO]at Qc;rw[<-LR];rw[mB r1,mY d0,sub (r1*4294967296) v0 (d0*Y) r0 (by omega) (by omega),mB d1];have Ws:=q6 (B:=4294967296) (y:=Y) (u:=U) (v:=v1) Wq n7;have KC:=q6 (B:=4294967296) (y:=Y) (u:=r1) (v:=v0) Qb DN;rw[<-pN]at Ws;rw[<-LR]at KC
  have Dt:U*18446744073709551616+x7=(d1*4294967296+d0)*Y+r0:=by
   have e1:(d1*4294967296+d0)*Y=d1*Y*4294967296+d0*Y:=by rw[Yt,Nat.mul_right_comm]
   rw[e1];omega
  have hq:W/y=d1*4294967296+d0:=by
   rw[<-hdiv,Dt];rw[YO,Nat.mul_add_div (by omega),Nat.div_eq_of_lt LS,Y0]
  have hr:W%y*2 ^ s=r0:=by
   rw[<-wN,Dt,YO,Nat.mul_add_mod,Nat.mod_eq_of_lt LS]
  rw[LO _ LP,<-hr,Nat.mul_div_cancel _ hP,hq,jI (a:=d1*4294967296) (by omega),<-Int.natCast_add,jI (by omega)];exact .some rfl
end L
end Go.Proofs.YtlfjlhcigpejdaaGreatDoor
end
section
open _root_.Int renaming tdiv->Yn,tdiv_eq_ediv_of_nonneg->Yj,tmod->Yl
open _root_.Go.IntKind renaming i64->X6
open _root_.Nat renaming zero_le->Yk
open _root_.Option renaming bind_some->X5
open _root_.Sum renaming inl->YT
namespace Go.Proofs.YtlfjlhcigpejdaaGreatDoor
open Go Go.RowKit
set_option maxRecDepth 100000
namespace L
def Cd(c:Int):Prop:=c=0\/c=3\/c=12
theorem uG{c:Prop}[Decidable c]{x y:Int×Int}(hx:Cd x.2)(hy:Cd y.2):Cd (if c then x else y).2:=by
 split
 .exact hx
 .exact hy
theorem CW(x:Int):Cd (x,(0:Int)).2:= .inl rfl
theorem RC(x:Int):Cd (x,(3:Int)).2:= .inr (.inl rfl)
theorem gK{n l:Int}(hl:0<=l/\l<=9000000000000000000)(h:¬(decide (l<n)||decide (n<X6.wrap (0-l)))=true): -l<=n/\n<=l:=by
 rw[ag (by omega) (by omega)]at h;simp at h;omega
theorem Ij(N:Nat)(a b c:Int)(d:Bool)(e:Int):Wp (M.bL N a b c d e) fun _=>True:=by
 unfold M.bL;simp only[ak,X5];exact .some trivial
theorem tg(N:Nat)(a:Int)(b:Bool):Wp (M.dK N a b) fun _=>True:=by
 unfold M.dK;simp only[ak];exact .some trivial
theorem jA(N:Nat){a b m:Int}(hm:0<=m/\m<=5):Wp (M.cm N a b m) fun r=>Cd r.2:=by
 unfold M.cm;rw[iT];simp only[X5,mh];rw[if_neg (by simp;omega)]
 refine Wp.dec (fun _=> .some (by simp[Cd])) fun hb=>?_
 simp only[ak,X5,eQ]
 refine Wp.ite (fun _=> .some (by simp[Cd])) fun hc=>?_
 rw[Bool.or_eq_true,not_or]at hc;have ha:=gK (by omega) hc.1;have lQ:=gK (by omega) hc.2;rw[fJ N ha,fJ N lQ];simp only[X5]
 have bu:(if b<0 then-b else b)≠0:=by split<;>omega
 rw[show∀x,gR x (if b<0 then-b else b)=some (Yn x (if b<0 then-b else b))from fun x=>if_neg bu,show∀x,li x (if b<0 then-b else b)=some (Yl x (if b<0 then-b else b))from fun x=>if_neg bu];simp only[X5]
 exact Wp.seq _ (Ij ..) fun x _=>Wp.seq _ (tg ..) fun y _=> .some (by simp[Cd])
theorem nQ(N:Nat)(a b:Int):Wp (M.b7 N a b) fun r=>(0<=r.1/\r.1<18446744073709551616)/\0<=r.2/\r.2<18446744073709551616:=by
 unfold M.b7;exact .some ⟨iv _,iv _⟩
theorem q9{hi lo y:Int}(h0:0<=hi)(h1:hi<y)(h2:y<18446744073709551616):Wp (M.bQ az hi lo y) fun _=>True:=by
 obtain⟨r,hr⟩:=Cf (lo:=lo) h0 h1 h2;exact⟨r,hr,trivial⟩
theorem Cg{a b c m:Int}(hm:0<=m/\m<=5):Wp (M.gB az a b c m) fun r=>Cd r.2:=by
 unfold M.gB;rw[iT];simp only[X5,mh];rw[if_neg (by simp;omega)]
 refine Wp.dec (fun _=> .some (by simp[Cd])) fun hb=>?_
 simp only[ak,X5,eQ]
 refine Wp.ite (fun _=> .some (by simp[Cd])) fun hc=>?_
 simp only[Bool.or_eq_true,not_or]at hc;have ha:=gK (n:=a) (l:=1000000000000000) (by omega) (by simpa using hc.1);have lQ:=gK (n:=b) (l:=1000000000) (by omega) (by simpa using hc.2.1);have XM:=gK (n:=c) (l:=1000000000) (by omega) (by simpa using hc.2.2);rw[fJ _ (n:=a) (by omega),fJ _ (n:=b) (by omega)];simp only[X5]
 refine Wp.seq _ (nQ ..) fun r hr=>?_
 rw[fJ _ (n:=c) (by omega)];simp only[X5]
 refine Wp.dec (fun _=> .some (by simp[Cd])) fun hd=>?_
 have aW:(if c<0 then-c else c)<18446744073709551616:=by split<;>omega
 refine Wp.seq _ (q9 hr.1.1 (by omega) aW) fun q _=>?_
 refine Wp.dec (fun _=> .some (by simp[Cd])) fun _=>?_
 refine Wp.seq _ (Ij ..) fun x _=>?_
 refine Wp.dec (fun _=> .some (by simp[Cd])) fun _=>?_
 exact Wp.seq _ (tg ..) fun y _=> .some (by simp[Cd])
theorem ra{a b m:Int}(hm:0<=m/\m<=5):Wp (M.cL az a b m) fun r=>Cd r.2:=by
 unfold M.cL;rw[iT];simp only[X5,mh];rw[if_neg (by simp;omega)]
 refine Wp.dec (fun _=> .some (by simp[Cd])) fun hb=>?_
 simp only[ak,X5,eQ]
 refine Wp.ite (fun _=> .some (by simp[Cd])) fun hc=>?_
 refine Wp.seq _ (jA _ hm) fun r hr=>?_
 refine .some ?_;split
 .exact hr
 .split<;>simp[Cd]
theorem th(N:Nat)(m:Int):M.fl N m=some (decide (0<=m)&&decide (m<=5)):=iT N m
theorem rb(N:Nat)(n l:Int):M.ei N n l=some (decide (l<n)||decide (n<X6.wrap (0-l))):=mh N n l
theorem z9{a b m:Int}(hm:0<=m/\m<=5):Wp (M.gC az a b m) fun r=>Cd r.2:=by
 unfold M.gC;rw[th];simp only[X5,rb];rw[if_neg (by simp;omega)];simp only[ak,X5,eQ]
 refine Wp.ite (fun _=> .some (by simp[Cd])) fun hc=>?_
 refine Wp.seq _ (jA _ hm) fun r hr=>?_
 refine .some ?_;split
 .exact hr
 .split<;>simp[Cd]
theorem Ch{a b m:Int}(hm:0<=m/\m<=5):Wp (M.g9 az a b m) fun r=>Cd r.2:=by
 unfold M.g9
 exact Wp.seq _ (Cg hm) fun r hr=> .some hr
theorem wO(N:Nat)(a b c:Int)(d:Bool)(e:Int):Wp (M.eL N a b c d e) fun _=>True:=by
 unfold M.eL;simp only[ak,X5];exact .some trivial
theorem uH{a b m:Int}(hm:0<=m/\m<=5):Wp (M.dZ az a b m) fun r=>Cd r.2:=by
 unfold M.dZ;rw[th];simp only[X5,rb];rw[if_neg (by simp;omega)]
 refine Wp.dec (fun _=> .some (by simp[Cd])) fun hb=>?_
 simp only[ak,X5,eQ]
 refine Wp.ite (fun _=> .some (by simp[Cd])) fun hc=>?_
 refine Wp.seq _ (nQ ..) fun r hr=>?_
 refine Wp.dec (fun _=> .some (by simp[Cd])) fun hd=>?_
 refine Wp.seq _ (q9 hr.1.1 (by omega) (iv _).2) fun q _=>?_
 refine Wp.dec (fun _=> .some (by simp[Cd])) fun _=>?_
 refine Wp.seq _ (Wp.bind (Wp.mono (wO ..) fun x _=>?_)) fun j7(_:True)=>?_
 .exact .some trivial
 .exact .some (by split<;>simp[Cd])
theorem pn(N:Nat)(r:aa.den)(d:Int):Wp (M.cd N r d) fun _=>True:=by
 unfold M.cd M.fU;simp only[ak,X5];exact .some trivial
theorem pI(a b:Int):Wp (M.cH az a b) fun _=>True:=by
 unfold M.cH;simp only[ak,X5]
 refine Wp.seq _ (nQ ..) fun r hr=>?_
 refine Wp.dec (fun _=> .some trivial) fun hd=>?_
 refine Wp.seq _ (q9 hr.1.1 (by omega) (by omega)) fun q _=>?_
 exact .some trivial
theorem wP(N:Nat){a b m:Int}(hm:0<=m/\m<=5):Wp (M.dw N a b m) fun r=>Cd r.2:=by
 unfold M.dw;simp only[ak,X5]
 refine Wp.ite (fun _=> .some (by simp[Cd])) fun hc=>?_
 refine Wp.seq _ (jA _ hm) fun r hr=>?_
 exact .some (uG hr (uG (RC _) (CW _)))
theorem po{t:cG.den}{d k m:Int}(hm:0<=m/\m<=5)(hk:t.2.1=((3,0):Int×Int))(hv:t.2.2.1=((4,0):Int×Int))(hl:t.2.2.2.length<=9223372036854775807):Wp (M.dx az t d k m) fun r=>Cd r.2:=by
 unfold M.dx;simp only[ak,X5,eQ];rw[if_neg (by simp;omega),if_neg (by rw[hk,hv];simp[tE])]
 refine Wp.ite (fun _=> .some (by simp[Cd])) fun hc=>?_
 refine Wp.join (Wp.loop (fun s:Int×Int×Int=>∃i:Nat,s.2.2=i/\i<=t.2.2.2.length) (fun s=>(t.2.2.2.length-s.2.2).toNat) ⟨0,rfl,Yk _⟩ (by simp only;unfold az;omega) ?_)
 rintro⟨s1,s2,s3⟩ ⟨i,hi,ES⟩
 simp only at hi;subst hi
 refine Wp.dec (fun h=>?_) fun h=> .some ?_
 .have dA:i<t.2.2.2.length:=by simp only at h;omega
  refine Wp.join ?_;simp only;rw[ax dA];simp only[X5]
  refine Wp.seq (fun _=>True) ?_ fun j8 _=>?_
  .refine Wp.seq _ (pn ..) fun y _=>?_
   exact .some trivial
  have nxt:∀a b:Int,z4 (fun j6:Int×Int=>some (YT (j6.1,j6.2,X6.wrap ((i:Int)+1)))) (EO (fun s:Int×Int×Int=>∃i:Nat,s.2.2=i/\i<=t.2.2.2.length) (fun s=>(t.2.2.2.length-s.2.2).toNat) (s1,s2,(i:Int)) (z4 (fun j4:Int×Int=>(M.dw az j4.1 j4.2 m).bind fun ph=>some (ph.1,ph.2)) fun r:Int×Int=>Cd r.2)) (.inl (a,b)):=by
   intro a b;refine .some ?_;rw[al (by omega)];exact⟨⟨i+1,rfl,dA⟩,by simp only;omega⟩
  refine Wp.ite (fun _=> .some (nxt _ _)) fun _=>?_
  refine Wp.seq _ (pI ..) fun y _=>?_
  refine .some ?_;split
  .show Cd _
   simp[Cd]
  .exact nxt _ _
 .show Wp _ _
  exact Wp.seq _ (wP _ hm) fun r hr=> .some hr
theorem ET(l:List mw.den)(a b:Int)(hl:l.length<=9223372036854775807):Wp (M.bj az l a b) fun r=>r.2.1=true->0<=r.1/\r.1<l.length:=by
 unfold M.bj;refine Wp.loop (fun s:Int×Int×Int=>∃i:Nat,s.1=i/\i<=l.length) (fun s=>(l.length-s.1).toNat) ⟨0,rfl,Yk _⟩ (by simp only;unfold az;omega) ?_
 rintro⟨s1,s2,s3⟩ ⟨i,hi,ES⟩
 simp only at hi;subst hi
 refine Wp.dec (fun h=>?_) fun h=> .some fun h=>by cases h
 have dA:i<l.length:=by simp only at h;omega
 simp only;rw[ax dA];simp only[X5]
 refine Wp.seq (fun _=>True) ?_ fun y _=>?_
 .unfold M.du
  refine Wp.seq (fun _=>True) (Wp.seq _ (pn ..) fun y _=>?_) fun j _=> .some trivial
  simp only[ak];exact .some trivial
 .refine Wp.ite (fun _=> .some fun _=>⟨by simp only;omega,by simp only;omega⟩) fun _=> .some ?_
  rw[al (by omega)];exact⟨⟨i+1,rfl,dA⟩,by simp only;omega⟩
theorem tj(t:cG.den)(a b:Int)(hl:t.2.2.2.length<=9223372036854775807):Wp (M.fC az t a b) fun r=>r.2=true->0<=r.1/\r.1<t.2.2.2.length:=by
 unfold M.fC
 exact Wp.seq _ (ET _ a b hl) fun r hr=> .some hr
theorem mi(N:Nat)(d:Int):M.eB N d=some (decide (0<=d)&&decide (d<=109572)):=by
 unfold M.eB;simp only[ak,X5,dM]
theorem gM(N:Nat)(y m:Int):Wp (M.bS N y m) fun r=>0<=r/\r<=31:=by
 unfold M.bS M.iB;simp only[ak,X5,eQ,dM]
 refine Wp.ite (fun _=> .some (by omega)) fun hc=>?_
 refine Wp.ite (fun _=> .some (by omega)) fun _=>?_
 have hm:1<=m/\m<=12:=by simp at hc;omega
 rw[ag (by omega) (by omega)]
 have:m=1\/m=2\/m=3\/m=4\/m=5\/m=6\/m=7\/m=8\/m=9\/m=10\/m=11\/m=12:=by omega
 rcases this with rfl|rfl|rfl|rfl|rfl|rfl|rfl|rfl|rfl|rfl|rfl|rfl<;>exact⟨_,rfl,by decide⟩
theorem kK(N:Nat)(y:Int):Wp (M.cr N y) fun _=>True:=by
 unfold M.cr M.fk;simp only[X5];exact .some trivial
theorem lG(d:Int):Wp (M.cu az d) fun _=>True:=by
 unfold M.cu;rw[mi];simp only[X5]
 refine Wp.ite (fun _=> .some trivial) fun hv=>?_
 have hd:0<=d/\d<=109572:=by simpa using hv
 have h0:Yn d 366=d/366:=Yj hd.1;have hw:X6.wrap (d/366)=d/366:=ag (by omega) (by omega);have Wt:X6.wrap (1900+d/366)=1900+d/366:=ag (by omega) (by omega);rw[h0,hw,Wt]
 refine Wp.seq (fun _=>True) (Wp.loop (fun y:Int=>1900<=y/\y<=2199) (fun y=>(2199-y).toNat) (by omega) (by unfold az;omega) ?_) fun y _=>?_
 .rintro y ⟨h1,h2⟩
  by_cases hy:y=2199
  .subst hy
   have e:M.cr az (X6.wrap ((2199:Int)+1))=some 109573:=by show(_:Option Int)=_;kernel_rfl
   rw[e];simp only[X5];rw[if_neg (by simp;omega)];exact .some trivial
  .refine Wp.seq _ (kK ..) fun z _=>?_
   refine Wp.dec (fun _=> .some ?_) fun _=> .some trivial
   rw[ag (by omega) (by omega)];exact⟨by omega,by simp only;omega⟩
 .refine Wp.seq _ (kK ..) fun z _=>?_
  refine Wp.loop (fun s:Int×Int=>∃i:Nat,s.2=i/\i<=12) (fun s=>(12-s.2).toNat) ⟨0,rfl,by omega⟩ (by simp only;unfold az;omega) ?_
  rintro⟨a,b⟩ ⟨i,hi,ES⟩
  simp only at hi;subst hi
  refine Wp.dec (fun h=>?_) fun _=> .some trivial
  refine Wp.seq _ (gM ..) fun w _=>?_
  refine Wp.dec (fun _=> .some trivial) fun _=> .some ?_
  simp only at h⊢;rw[al (by omega)];exact⟨⟨i+1,rfl,by omega⟩,by simp only;omega⟩
theorem yP(y m d:Int):Wp (M.fE az y m d) fun r=>Cd r.2:=by
 unfold M.fE
 refine Wp.seq (fun j=>j=false->1<=m/\m<=12) ?_ fun j hj=>?_
 .refine Wp.dec (fun _=> .some (fun h=>by cases h)) fun _=>Wp.dec (fun _=> .some (fun h=>by cases h)) fun _=>Wp.dec (fun _=> .some (fun h=>by cases h)) fun h1=>Wp.dec (fun _=> .some (fun h=>by cases h)) fun h2=>Wp.dec (fun _=> .some (fun h=>by cases h)) fun _=>?_
  exact Wp.seq _ (gM ..) fun w _=> .some fun _=>⟨by omega,by omega⟩
 .refine Wp.ite (fun _=> .some (by simp[Cd])) fun hc=>?_
  have hm:=hj (by simpa using hc)
  refine Wp.seq _ (kK ..) fun z _=>?_
  refine Wp.seq (fun _=>True) (Wp.loop (fun s:Int×Int=>∃i:Nat,s.2=i/\i<=12) (fun s=>(13-s.2).toNat) ⟨0,rfl,by omega⟩ (by simp only;unfold az;omega) ?_) fun w _=> .some (by simp[Cd])
  rintro⟨a,b⟩ ⟨i,hi,ES⟩
  simp only at hi;subst hi
  refine Wp.dec (fun h=>?_) fun _=> .some trivial
  refine Wp.seq _ (gM ..) fun w _=> .some ?_
  simp only at h⊢;rw[ag (n:=m-1) (by omega) (by omega)]at h;rw[al (by omega)];exact⟨⟨i+1,rfl,by omega⟩,by simp only;omega⟩
theorem kM(d n:Int):Wp (M.bM az d n) fun r=>Cd r.2:=by
 unfold M.bM;rw[mi];simp only[ak,X5,eQ]
 refine Wp.ite (fun _=> .some (by simp[Cd])) fun hc=>?_
 refine Wp.seq _ (lG ..) fun y _=>?_
 refine Wp.ite (fun _=> .some (by simp[Cd])) fun _=>?_
 refine Wp.seq _ (gM ..) fun w _=>?_
 exact Wp.seq _ (yP ..) fun r hr=> .some hr
theorem kZ(a b:Int):Wp (M.cv az a b) fun _=>True:=by
 unfold M.cv;rw[mi,mi];simp only[ak,X5,eQ]
 refine Wp.ite (fun _=> .some trivial) fun _=>?_
 refine Wp.seq _ (lG ..) fun y _=>Wp.seq _ (lG ..) fun z _=>?_
 refine Wp.seq (fun _=>True) (Wp.seq _ (kM ..) fun r _=>?_) fun j _=> .some trivial
 exact .some trivial
end L
end Go.Proofs.YtlfjlhcigpejdaaGreatDoor
end
section
open _root_.Bool renaming eq_iff_iff->Yh,false_eq_true->X8,not_false->YC,not_true->Yp
open _root_.Decidable renaming not_not->Y7
open _root_.Int renaming reduceEq->Y1,tmod->Yl,tmod_eq_emod_of_nonneg->Yi
open _root_.Go.IntKind renaming i64->X6,u64->Ya
open _root_.Nat renaming div_le_self->Y4,mod_lt->Zc
open _root_.Option renaming bind_some->X5
namespace Go.Proofs.YtlfjlhcigpejdaaGreatDoor
open Go Go.RowKit
set_option maxRecDepth 100000
namespace L
def uI(m:Int)(neg:Bool)(q r d:Nat):Bool:=
 if m=0 then neg&&decide (0<r)else if m=1 then !neg&&decide (0<r)else if m=3 then decide (0<r)else if m=4 then decide (d<=r+r)else if m=5 then decide (d<r+r\/(d=r+r/\q%2=1))else false
def kN(m:Int)(neg:Bool)(q r d:Nat):Nat:=if uI m neg q r d=true then q+1 else q
def sg(neg:Bool)(q:Nat):Int:=if neg=true then-(q:Int)else(q:Int)
def ng(a b:Int):Bool:= !decide (decide (a<0)=decide (b<0))
def km(m:Int):Prop:=0<=m/\m<=5
instance(m:Int):Decidable (km m):=by unfold km;infer_instance
theorem kO(m:Int)(neg:Bool)(q r d:Nat):q<=kN m neg q r d/\kN m neg q r d<=q+1:=by unfold kN;split<;>omega
theorem wQ(m:Int)(neg:Bool)(q:Nat){d:Nat}(hd:0<d):uI m neg q 0 d=false:=by
 unfold uI
 have h1:¬d<=0+0:=by omega
 have h2:¬(d<0+0\/d=0+0/\q%2=1):=by omega
 rw[decide_eq_false h1,decide_eq_false h2];simp
theorem rc(m:Int)(neg:Bool)(q:Nat){d:Nat}(hd:0<d):kN m neg q 0 d=q:=by
 unfold kN;rw[wQ m neg q hd];rfl
theorem iE(N:Nat)(m:Int)(neg:Bool){q r d:Nat}(hq:q<=4611686018427387904)(hr:r<d)(hd:d<=4611686018427387904):M.di N (q:Int) (r:Int) (d:Int) neg m=some (sg neg (kN m neg q r d)):=by
 have hw:X6.wrap ((d:Int)-(r:Int))=(d:Int)-r:=ag (by omega) (by omega)
 have ht:Yl (q:Int) 2=((q%2:Nat):Int):=by rw[Yi (by omega)];omega
 have e1:((if(decide (m=(0:Int)))=true then(if neg=true then some (decide ((0:Int)<(r:Int)))else some false)else(if(decide (m=(1:Int)))=true then(if(!neg)=true then some (decide ((0:Int)<(r:Int)))else some false)else
  (if(decide (m=(3:Int)))=true then some (decide ((0:Int)<(r:Int)))else(if(decide (m=(4:Int)))=true then some (decide ((d:Int)-r<=(r:Int)))else(if(decide (m=(5:Int)))=true then(if(decide ((d:Int)-r<(r:Int)))=true then some true else
  (if(decide ((r:Int)=(d:Int)-r))=true then some (decide (((q%2:Nat):Int)=(1:Int)))else some false))else some false))))):Option Bool)=some (uI m neg q r d):=by
  unfold uI;by_cases h0:m=0
  .subst h0;cases neg<;>simp
  by_cases h1:m=1
  .subst h1;cases neg<;>simp
  by_cases h3:m=3
  .subst h3;simp
  by_cases h4:m=4
  .subst h4;simp;omega
  by_cases h5:m=5
  .subst h5;simp only[ak,decide_true,if_true,Y1,decide_false,X8,if_false];refine congrArg some ?_;by_cases c1:(d:Int)-r<r
   .rw[if_pos (by simpa using c1)];simp;omega
   .rw[if_neg (by simpa using c1)];by_cases c2:(r:Int)=(d:Int)-r
    .rw[if_pos (by simpa using c2)];rw[Yh];simp;omega
    .rw[if_neg (by simpa using c2)]
     symm
     simp;omega
  simp[h0,h1,h3,h4,h5]
 unfold M.di;rw[hw,ht,e1];have hu:=kO m neg q r d
 have e2:((if uI m neg q r d=true then some (X6.wrap ((q:Int)+(1:Int)))else some (q:Int)):Option Int)=some ((kN m neg q r d:Nat):Int):=by
  unfold kN;split
  .rw[ag (by omega) (by omega)];rfl
  .rfl
 rw[X5,e2,X5];unfold sg;cases neg
 .simp
 .simp only[if_true];rw[ag (by omega) (by omega)];simp
theorem pq(N:Nat){m:Int}(neg:Bool){q r d:Nat}(hq:q<=4611686018427387904)(hr:r<d)(hd:d<=4611686018427387904):M.bL N (q:Int) (r:Int) (d:Int) neg m=some ((kN m neg q r d:Nat):Int):=by
 unfold M.bL;by_cases hz:r=0
 .subst hz;rw[if_pos (by simp),rc _ _ _ (by omega)]
 rw[if_neg (by simpa using hz)];have hw:Ya.wrap ((d:Int)-(r:Int))=(d:Int)-r:=fu (by omega) (by omega)
 have ht:Yl (q:Int) 2=((q%2:Nat):Int):=by rw[Yi (by omega)];omega
 have e1:((if(decide (m=(0:Int)))=true then some neg else(if(decide (m=(1:Int)))=true then some (!neg)else(if(decide (m=(3:Int)))=true then some true else(if(decide (m=(4:Int)))=true then some (decide ((d:Int)-r<=(r:Int)))else
  (if(decide (m=(5:Int)))=true then(if(decide ((d:Int)-r<(r:Int)))=true then some true else(if(decide ((r:Int)=(d:Int)-r))=true then some (decide (((q%2:Nat):Int)=(1:Int)))else some false))else some false))))):Option Bool)=some (uI m neg q r d):=by
  unfold uI;by_cases h0:m=0
  .subst h0;simp;omega
  by_cases h1:m=1
  .subst h1;simp;omega
  by_cases h3:m=3
  .subst h3;simp;omega
  by_cases h4:m=4
  .subst h4;simp;omega
  by_cases h5:m=5
  .subst h5;simp only[ak,decide_true,if_true,Y1,decide_false,X8,if_false];refine congrArg some ?_;by_cases c1:(d:Int)-r<r
   .rw[if_pos (by simpa using c1)];simp;omega
   .rw[if_neg (by simpa using c1)];by_cases c2:(r:Int)=(d:Int)-r
    .rw[if_pos (by simpa using c2)];rw[Yh];simp;omega
    .rw[if_neg (by simpa using c2)]
     symm
     simp;omega
  simp[h0,h1,h3,h4,h5]
 rw[hw,ht,e1];have hu:=kO m neg q r d
 have e2:((if uI m neg q r d=true then some (Ya.wrap ((q:Int)+(1:Int)))else some (q:Int)):Option Int)=some ((kN m neg q r d:Nat):Int):=by
  unfold kN;split
  .rw[fu (by omega) (by omega)];rfl
  .rfl
 rw[X5,e2,X5]
theorem wR(N:Nat){m:Int}(neg:Bool){q r d:Nat}(hr:r<d)(hd:d<=4611686018427387904):M.eL N (q:Int) (r:Int) (d:Int) neg m=some (uI m neg q r d):=by
 unfold M.eL;by_cases hz:r=0
 .subst hz;rw[if_pos (by simp),wQ m neg q (by omega)]
 rw[if_neg (by simpa using hz)];have hw:Ya.wrap ((d:Int)-(r:Int))=(d:Int)-r:=fu (by omega) (by omega)
 have ht:Yl (q:Int) 2=((q%2:Nat):Int):=by rw[Yi (by omega)];omega
 rw[hw,ht];unfold uI;by_cases h0:m=0
 .subst h0;simp;omega
 by_cases h1:m=1
 .subst h1;simp;omega
 by_cases h3:m=3
 .subst h3;simp;omega
 by_cases h4:m=4
 .subst h4;simp;omega
 by_cases h5:m=5
 .subst h5;simp only[ak,X5,decide_true,if_true,Y1,decide_false,X8,if_false];refine congrArg some ?_;by_cases c1:(d:Int)-r<r
  .rw[if_pos (by simpa using c1)];simp;omega
  .rw[if_neg (by simpa using c1)];by_cases c2:(r:Int)=(d:Int)-r
   .rw[if_pos (by simpa using c2)];rw[Yh];simp;omega
   .rw[if_neg (by simpa using c2)]
    symm
    simp;omega
 simp[h0,h1,h3,h4,h5]
theorem tl(N:Nat){q:Nat}(hq:q<=4611686018427387905)(neg:Bool):M.dK N (q:Int) neg=some (sg neg q):=by
 unfold M.dK sg;rw[ag (n:=(q:Int)) (by omega) (by omega),ag (by omega) (by omega)]
 cases neg<;>simp
theorem rf(N:Nat){n:Int}(h: -4611686018427387904<=n/\n<=4611686018427387904):M.b8 N n=some ((n.natAbs:Nat):Int):=by
 rw[fJ N h];refine congrArg some ?_
 split<;>omega
theorem mj(N:Nat){n:Int}(h: -4611686018427387904<=n/\n<=4611686018427387904):M.fH N n=some ((n.natAbs:Nat):Int):=by
 unfold M.fH;rw[ag (by omega) (by omega)];by_cases c:n<0
 .rw[if_pos (by simpa using c)];refine congrArg some ?_;omega
 .rw[if_neg (by simpa using c)];refine congrArg some ?_;omega
theorem kh(N:Nat)(m:Int):M.gf N m=some (decide (km m)):=by
 unfold M.gf;simp only[ak,X5,dM];refine congrArg some ?_;rw[Yh,decide_eq_true_eq];unfold km;simp
theorem pY(N:Nat)(m:Int):M.cY N m=some (decide (km m)):=kh N m
theorem ri(N:Nat)(m:Int):M.fl N m=some (decide (km m)):=kh N m
def eh(n l:Int):Prop:=l<n\/n< -l
instance(n l:Int):Decidable (eh n l):=by unfold eh;infer_instance
theorem jB(N:Nat)(n:Int){l:Int}(hl:0<=l/\l<=9000000000000000000):M.bT N n l=some (decide (eh n l)):=by
 unfold M.bT;rw[ag (by omega) (by omega)];simp only[ak,X5,eQ,Int.zero_sub];refine congrArg some ?_;rw[Yh,decide_eq_true_eq];unfold eh;simp
theorem uJ(N:Nat)(n:Int){l:Int}(hl:0<=l/\l<=9000000000000000000):M.cl N n l=some (decide (eh n l)):=jB N n hl
theorem Aa(N:Nat)(n:Int){l:Int}(hl:0<=l/\l<=9000000000000000000):M.ei N n l=some (decide (eh n l)):=jB N n hl
theorem nR(N:Nat)(n:Int){l:Int}(hl:0<=l/\l<=9000000000000000000):M.cN N n l=some (decide (eh n l)):=by
 unfold M.cN;rw[ag (by omega) (by omega)];simp only[ak,X5,eQ,Int.zero_sub];refine congrArg some ?_;rw[Yh,decide_eq_true_eq];unfold eh;simp
theorem uK(m:Int):((if(decide (m<(0:Int)))=true then some true else some (decide ((5:Int)<m))):Option Bool)=some (!decide (km m)):=by
 rw[ak];refine congrArg some ?_;rw[Yh,Bool.not_eq_true',decide_eq_false_iff_not];unfold km;simp;omega
theorem EU(a b l:Int):((if(decide (eh a l))=true then some true else some (decide (eh b l))):Option Bool)=some (decide (eh a l\/eh b l)):=by
 rw[ak,eQ,Bool.decide_or]
def Ab(n d m:Int):Int×Int:=
 if¬km m then(0,1)else if d=0 then(0,12)else if eh n 4611686018427387904\/eh d 4611686018427387904 then(0,3)else
  (sg (ng n d) (kN m (ng n d) (n.natAbs/d.natAbs) (n.natAbs%d.natAbs) d.natAbs),0)
theorem Ac{n d m:Int}(h:¬km m):Ab n d m=(0,1):=if_pos h
theorem wS{n d m:Int}(h:km m)(h1:d=0):Ab n d m=(0,12):=by unfold Ab;rw[if_neg (Y7.2 h),if_pos h1]
theorem Ad{n d m:Int}(h:km m)(h1:d≠0)(h2:eh n 4611686018427387904\/eh d 4611686018427387904):Ab n d m=(0,3):=by unfold Ab;rw[if_neg (Y7.2 h),if_neg h1,if_pos h2]
theorem rk{n d m:Int}(h:km m)(h1:d≠0)(h2:¬(eh n 4611686018427387904\/eh d 4611686018427387904)):Ab n d m=(sg (ng n d) (kN m (ng n d) (n.natAbs/d.natAbs) (n.natAbs%d.natAbs) d.natAbs),0):=by unfold Ab;rw[if_neg (Y7.2 h),if_neg h1,if_neg h2]
theorem gv{a:Nat}(h:a<=9223372036854775807):X6.wrap (a:Int)=(a:Int):=ag (by omega) (by omega)
theorem jC(N:Nat)(n d m:Int):M.cm N n d m=some (Ab n d m):=by
 unfold M.cm;simp only[pY,X5,uJ N _ (l:=4611686018427387904) (by omega),EU];by_cases hm:km m
 .rw[if_neg (by simpa using hm)];by_cases hd:d=0
  .rw[if_pos (by simpa using hd),wS hm hd]
  .rw[if_neg (by simpa using hd)];by_cases hb:eh n 4611686018427387904\/eh d 4611686018427387904
   .rw[if_pos (by simpa using hb),Ad hm hd hb]
   .rw[if_neg (by simpa using hb),rk hm hd hb];unfold eh at hb
    have Ik:d.natAbs≠0:=by omega
    have h1:n.natAbs/d.natAbs<=n.natAbs:=Y4 _ _;have h2:n.natAbs%d.natAbs<d.natAbs:=Zc _ (by omega);have h3:=kO m (ng n d) (n.natAbs/d.natAbs) (n.natAbs%d.natAbs) d.natAbs;rw[rf N (n:=n) (by omega),rf N (n:=d) (by omega),X5,X5,la _ _ Ik,uF _ _ Ik,X5,X5,jI (by omega),pq N _ (by omega) h2 (by omega),X5]
    show((M.dK N _ (ng n d)).bind _)=_
    rw[show(!decide (decide (n<0)=decide (d<0)))=ng n d from rfl];rw[tl N (by omega),X5]
 .rw[if_pos (by simpa using hm),Ac hm]
theorem nS(N:Nat)(n d m:Int):M.gH N n d m=some (Ab n d m):=by
 unfold M.gH;simp only[kh,X5,jB N _ (l:=4611686018427387904) (by omega),EU];by_cases hm:km m
 .rw[if_neg (by simpa using hm)];by_cases hd:d=0
  .rw[if_pos (by simpa using hd),wS hm hd]
  .rw[if_neg (by simpa using hd)];by_cases hb:eh n 4611686018427387904\/eh d 4611686018427387904
   .rw[if_pos (by simpa using hb),Ad hm hd hb]
   .rw[if_neg (by simpa using hb),rk hm hd hb];unfold eh at hb
    have Ik:d.natAbs≠0:=by omega
    have h1:n.natAbs/d.natAbs<=n.natAbs:=Y4 _ _;have h2:n.natAbs%d.natAbs<d.natAbs:=Zc _ (by omega);rw[mj N (n:=n) (by omega),mj N (n:=d) (by omega),X5,X5,la _ _ Ik,uF _ _ Ik,X5,X5,gv (by omega),iE N _ _ (by omega) h2 (by omega),X5];rfl
 .rw[if_pos (by simpa using hm),Ac hm]
theorem rl(neg:Bool)(q:Nat):(sg neg q).natAbs=q:=by unfold sg;split<;>omega
theorem yQ(neg:Bool)(q:Nat):sg neg q=q\/sg neg q= -(q:Int):=by unfold sg;split<;>simp
theorem yR(n:Int){d:Int}(hd:0<d):ng n d=decide (n<0):=by
 unfold ng;rw[show decide (d<0)=false by simp;omega]
 cases decide (n<0)<;>rfl
theorem yS(N:Nat)(c u m:Int):M.cL N c u m=M.fS N c u m:=by
 unfold M.cL M.fS;simp only[pY,kh,X5,uJ N _ (l:=1000000000000000) (by omega),jB N _ (l:=1000000000000000) (by omega),ak,eQ];by_cases hm:km m
 case neg=>simp only[hm,decide_false,YC,if_true]
 simp only[hm,decide_true,Yp,X8,if_false];by_cases hu:u<1
 .simp only[hu,decide_true,if_true]
 simp only[hu,decide_false,X8,if_false]
 cases hb:(decide (eh c 1000000000000000)||decide (1000000000000000<u))
 case true=>simp only[if_true]
 simp only[X8,if_false];rw[Bool.or_eq_false_iff,decide_eq_false_iff_not,decide_eq_false_iff_not]at hb;unfold eh at hb
 obtain⟨U,rfl⟩:∃U:Nat,u=(U:Int):=⟨u.toNat,by omega⟩
 have Ik:U≠0:=by omega
 have h1:c.natAbs/U<=c.natAbs:=Y4 _ _;have h2:c.natAbs%U<U:=Zc _ (by omega);rw[jC,X5,mj N (n:=c) (by omega),X5,la _ _ Ik,uF _ _ Ik,X5,X5,gv (by omega),iE N _ _ (by omega) h2 (by omega),X5]
 have hD:Ab c (U:Int) m=(sg (decide (c<0)) (kN m (decide (c<0)) (c.natAbs/U) (c.natAbs%U) U),0):=by
  rw[rk hm (by omega) (by unfold eh;omega),yR c (by omega),Int.natAbs_natCast]
 rw[hD];rfl
end L
end Go.Proofs.YtlfjlhcigpejdaaGreatDoor
end
section
open _root_.Decidable renaming not_not->Y7
open _root_.Int renaming natCast_mul->YS
open _root_.Go.IntKind renaming i64->X6
open _root_.Nat renaming add_mul->Yt,div_add_mod->Za,div_le_self->Y4,div_lt_iff_lt_mul->YJ
open _root_.Option renaming bind_some->X5
namespace Go.Proofs.YtlfjlhcigpejdaaGreatDoor
open Go Go.RowKit
set_option maxRecDepth 100000
namespace L
def G3(c x m:Int):Int×Int:=
 if¬km m then(0,1)else if eh c 1000000000000000\/eh x 1000000000 then(0,3)else
  if 1000000000000000<kN m (ng c x) (c.natAbs*x.natAbs/1000000) (c.natAbs*x.natAbs%1000000) 1000000 then(0,3)
  else(sg (ng c x) (kN m (ng c x) (c.natAbs*x.natAbs/1000000) (c.natAbs*x.natAbs%1000000) 1000000),0)
theorem Ae{c x m:Int}(h:¬km m):G3 c x m=(0,1):=if_pos h
theorem Af{c x m:Int}(h:km m)(h2:eh c 1000000000000000\/eh x 1000000000):G3 c x m=(0,3):=by unfold G3;rw[if_neg (Y7.2 h),if_pos h2]
theorem EV{c x m:Int}(h:km m)(h2:¬(eh c 1000000000000000\/eh x 1000000000)){P:Nat}(hP:P=c.natAbs*x.natAbs):G3 c x m=if 1000000000000000<kN m (ng c x) (P/1000000) (P%1000000) 1000000 then(0,3)else(sg (ng c x) (kN m (ng c x) (P/1000000) (P%1000000) 1000000),0):=by subst hP;unfold G3;rw[if_neg (Y7.2 h),if_neg h2]
theorem LU(a b:Int):((if(decide (eh a 1000000000000000))=true then some true else(if(decide (eh b 1000000000))=true then some true else some (decide (eh (1000000:Int) 1000000000)))):Option Bool)=some (decide (eh a 1000000000000000\/eh b 1000000000)):=by
 rw[show decide (eh (1000000:Int) 1000000000)=false by decide];simp only[ak,eQ,Bool.decide_or,Bool.or_false]
theorem RD(c x:Int):(!decide ((!decide ((decide (c<(0:Int)))=(decide (x<(0:Int)))))=(decide ((1000000:Int)<(0:Int)))))=ng c x:=by
 unfold ng;rw[show decide ((1000000:Int)<0)=false by decide]
 cases decide (c<0)<;>cases decide (x<0)<;>rfl
theorem Ci(c x m:Int):M.g9 az c x m=some (G3 c x m):=by
 unfold M.g9 M.gB;simp only[pY,X5,uJ az _ (l:=1000000000000000) (by omega),uJ az _ (l:=1000000000) (by omega),LU,RD];by_cases hm:km m
 .rw[if_neg (by simpa using hm),if_neg (by simp)];by_cases hb:eh c 1000000000000000\/eh x 1000000000
  .rw[if_pos (by simpa using hb),Af hm hb];rfl
  .obtain⟨P,hP⟩:∃P,P=c.natAbs*x.natAbs:=⟨_,rfl⟩
   rw[if_neg (by simpa using hb),EV hm hb hP];unfold eh at hb;have RE:P<=1000000000000000*1000000000:=hP▸Nat.mul_le_mul (by omega) (by omega);rw[rf az (n:=c) (by omega),rf az (n:=x) (by omega),X5,X5,nP az (by omega) (by omega),X5,rf az (n:=1000000) (by omega),X5,<-hP];dsimp only;rw[show((1000000:Int).natAbs:Int)=((1000000:Nat):Int)from rfl];by_cases h1:1000000<=P/18446744073709551616
   .rw[if_pos (by simp;omega),if_pos]
    .rfl
    .have:=kO m (ng c x) (P/1000000) (P%1000000) 1000000;omega
   .rw[if_neg (by simp;omega),q8 (by omega) (by omega) (by omega),X5]
    have e1:P/18446744073709551616*18446744073709551616+P%18446744073709551616=P:=by omega
    rw[e1];dsimp only;have hu:=kO m (ng c x) (P/1000000) (P%1000000) 1000000;by_cases h2:1000000000000000<P/1000000
    .rw[if_pos (by simp;omega),if_pos (by omega)];rfl
    .rw[if_neg (by simp;omega),pq az _ (by omega) (by omega) (by omega),X5];by_cases h3:1000000000000000<kN m (ng c x) (P/1000000) (P%1000000) 1000000
     .rw[if_pos (by simp;omega),if_pos h3];rfl
     .rw[if_neg (by simp;omega),if_neg h3,tl az (by omega)];rfl
 .rw[if_pos (by simpa using hm),Ae hm];rfl
theorem yT(N:Nat)(c x m:Int):M.jz N c x m=some (G3 c x m):=by
 unfold M.jz M.kJ;simp only[kh,X5,jB N _ (l:=1000000000000000) (by omega),jB N _ (l:=1000000000) (by omega),LU,RD];by_cases hm:km m
 .rw[if_neg (by simpa using hm),if_neg (by simp)];by_cases hb:eh c 1000000000000000\/eh x 1000000000
  .rw[if_pos (by simpa using hb),Af hm hb];rfl
  .rw[if_neg (by simpa using hb),EV hm hb rfl];unfold eh at hb;rw[mj N (n:=c) (by omega),mj N (n:=x) (by omega),mj N (n:=1000000) (by omega),X5,X5,X5];rw[show((1000000:Int).natAbs:Int)=((1000000:Nat):Int)from rfl]
   obtain⟨A,hA,Wu⟩:∃A,A=c.natAbs/\A<=1000000000000000:=⟨_,rfl,by omega⟩
   obtain⟨X,hX,Wv⟩:∃X,X=x.natAbs/\X<=1000000000:=⟨_,rfl,by omega⟩
   rw[<-hA,<-hX]
   have RF:A*X=1000000*(A/1000000*X)+A%1000000*X:=by
    have:=Za A 1000000;rw[<-Nat.mul_assoc,<-Yt,this]
   have hp:A%1000000*X<=999999*1000000000:=Nat.mul_le_mul (by omega) Wv
   have hu:∀q r,q<=kN m (ng c x) q r 1000000/\kN m (ng c x) q r 1000000<=q+1:=fun q r=>kO _ _ _ _ _
   have hq:A*X/1000000=A/1000000*X+A%1000000*X/1000000:=by rw[RF];omega
   have hr:A*X%1000000=A%1000000*X%1000000:=by rw[RF];omega
   rw[hq,hr];by_cases h0:(0:Nat)<X/\1000000000000000/X<A/1000000
   .have LV:1000000000000000<A/1000000*X:=by
     rw[YJ h0.1]at h0;exact h0.2
    obtain⟨K,hK⟩:∃K,K=1000000000000000/X:=⟨_,rfl⟩
    have Qd:K<=1000000000000000:=hK▸Y4 _ _;rw[if_pos (by simp;omega),la _ _ (by omega),show(1000000000000000:Int)=((1000000000000000:Nat):Int)from rfl,la _ _ (by omega),<-hK,X5,X5,X5,gv (by omega),gv (by omega),if_pos (by rw[<-hK]at h0;simp;omega),if_pos]
    .rfl
    .have:=(hu (A/1000000*X+A%1000000*X/1000000) (A%1000000*X%1000000)).1;omega
   .have Be:A/1000000*X<=1000000000000000:=by
     rcases Nat.eq_zero_or_pos X with e|e
     .subst e;simp
     .have h9:A/1000000<=1000000000000000/X:=by omega
      rw[Nat.le_div_iff_mul_le e]at h9;exact h9
    have c0:((if(decide ((0:Int)<(X:Int)))=true then(gR (A:Int) ((1000000:Nat):Int)).bind fun rI=>(gR (1000000000000000:Int) (X:Int)).bind fun pi=>some (decide ((X6.wrap pi)<(X6.wrap rI)))else some false):Option Bool)=some false:=by
     by_cases e:X=0
     .rw[if_neg (by simp;omega)]
     .obtain⟨K,hK⟩:∃K,K=1000000000000000/X:=⟨_,rfl⟩
      have Qd:K<=1000000000000000:=hK▸Y4 _ _;rw[<-hK]at h0;rw[if_pos (by simp;omega),la _ _ (by omega),show(1000000000000000:Int)=((1000000000000000:Nat):Int)from rfl,la _ _ e,<-hK,X5,X5,gv (by omega),gv (by omega)];refine congrArg some ?_;rw[decide_eq_false_iff_not];omega
    rw[c0,X5,if_neg (by simp),uF _ _ (by omega),X5,la _ _ (by omega),X5,<-YS,gv (by omega),la _ _ (by omega),X5,uF _ _ (by omega),X5,gv (a:=A/1000000) (by omega),<-YS,gv (a:=A/1000000*X) (by omega),gv (a:=A%1000000*X/1000000) (by omega),<-Int.natCast_add,gv (by omega),iE N _ _ (by omega) (by omega) (by omega),X5]
    obtain⟨Q,hQ⟩:∃Q,Q=kN m (ng c x) (A/1000000*X+A%1000000*X/1000000) (A%1000000*X%1000000) 1000000:=⟨_,rfl⟩
    rw[<-hQ];have hs:=yQ (ng c x) Q;by_cases h3:1000000000000000<Q
    .rw[if_pos (decide_eq_true (show eh _ _ by unfold eh;omega)),if_pos h3];rfl
    .rw[if_neg (by rw[decide_eq_true_eq];unfold eh;omega),if_neg h3];rfl
 .rw[if_pos (by simpa using hm),Ae hm];rfl
end L
end Go.Proofs.YtlfjlhcigpejdaaGreatDoor
end
section
open _root_.Bool renaming false_eq_true->X8,not_false->YC,not_true->Yp
open _root_.Decidable renaming not_not->Y7
open _root_.Int renaming lt_or_le->Zb,mul_le_mul_of_nonneg_right->Zp,natCast_mul->YS,reduceEq->Y1,tdiv_eq_ediv_of_nonneg->Yj,tmod->Yl,tmod_eq_emod_of_nonneg->Yi
open _root_.Go.IntKind renaming i64->X6,u64->Ya
open _root_.Nat renaming add_zero->Y0,div_add_mod->Za,div_le_self->Y4,div_lt_iff_lt_mul->YJ,mod_lt->Zc,mul_comm->YO
open _root_.Option renaming bind_some->X5
namespace Go.Proofs.YtlfjlhcigpejdaaGreatDoor
open Go Go.RowKit
set_option maxRecDepth 100000
namespace L
def RU(m F:Int)(R d:Nat):Prop:=m=1\/(m=2/\F<0)\/(m=3/\0<=F)\/(m=4/\(d<R+R\/(d=R+R/\0<=F)))\/(m=5/\(d<R+R\/(d=R+R/\F%2≠0)))
instance(m F:Int)(R d:Nat):Decidable (RU m F R d):=by unfold RU;infer_instance
theorem wT(N:Nat){m:Int}(hm:km m){F:Int}{R d:Nat}(hR:R≠0)(XN:R<d)(qc:d<=4611686018427387904)(hF: -4500000000000000000<=F/\F<=4500000000000000000):
 M.dS N F (R:Int) (d:Int) m=some (if RU m F R d then F+1 else F):=by
 unfold M.dS;rw[if_neg (by simpa using hR)];have hw:X6.wrap ((d:Int)-(R:Int))=(d:Int)-R:=ag (by omega) (by omega);have vd:X6.wrap (F+1)=F+1:=ag (by omega) (by omega);rw[hw,vd]
 have ht:Yl F 2=0↔F%2=0:=by
  constructor
  .intro e;have:=Int.dvd_of_tmod_eq_zero e;omega
  .intro e;exact Int.tmod_eq_zero_of_dvd (by omega)
 generalize Yl F 2=p at ht⊢;unfold km at hm
 have hc:m=0\/m=1\/m=2\/m=3\/m=4\/m=5:=by omega
 have key:∀(b:Bool),(b=true↔RU m F R d)->((if b=true then some (F+1)else some F):Option Int)=some (if RU m F R d then F+1 else F):=by
  intro b hb;by_cases c:RU m F R d
  .rw[if_pos (hb.2 c),if_pos c]
  .rw[if_neg (fun e=>c (hb.1 e)),if_neg c]
 rcases hc with rfl|rfl|rfl|rfl|rfl|rfl
 all_goals simp only[ak,X5,Y1,decide_true,decide_false,X8,if_true,if_false,eQ,dM]at key⊢
 .rw[if_neg (by unfold RU;omega)]
 .rw[if_pos (by unfold RU;omega)]
 .refine key _ ?_;unfold RU;simp
 .refine key _ ?_;unfold RU;simp
 .refine key _ ?_;unfold RU;by_cases e:(R:Int)=(d:Int)-R
  .have de:=decide_eq_true e;simp only[de,if_true]
   simp<;>omega
  .have de:=decide_eq_false e;simp only[de,X8,if_false]
   simp<;>omega
 .refine key _ ?_;unfold RU;by_cases e:(R:Int)=(d:Int)-R
  .have de:=decide_eq_true e;simp only[de,if_true]
   simp[ht]<;>omega
  .have de:=decide_eq_false e;simp only[de,X8,if_false]
   simp<;>omega
theorem nT(N:Nat){m:Int}(hm:km m)(neg:Bool){F:Int}{R q r d:Nat}(hd:0<d)(qc:d<=4611686018427387904)(hr:r<d)(hq:q<=4000000000000000000)
 (h:(neg=false/\F=q/\R=r)\/(neg=true/\r=0/\R=0/\F= -(q:Int))\/(neg=true/\0<r/\R=d-r/\F= -(q:Int)-1)):
 M.dS N F (R:Int) (d:Int) m=some (sg neg (kN m neg q r d)):=by
 by_cases hR:R=0
 .unfold M.dS;rw[if_pos (by simpa using hR)]
  have HJ:r=0:=by omega
  subst HJ;rw[rc _ _ _ hd];refine congrArg some ?_;unfold sg
  rcases h with⟨h,h1,h2⟩|⟨h,h1,h2,h3⟩|⟨h,h1,h2,h3⟩
  .rw[h,h1];simp
  .rw[h,h3];simp
  .omega
 rw[wT N hm hR (by omega) qc (by omega)];refine congrArg some ?_;unfold km at hm
 have hc:m=0\/m=1\/m=2\/m=3\/m=4\/m=5:=by omega
 rcases h with⟨rfl,rfl,rfl⟩|⟨rfl,h1,h2,h3⟩|⟨rfl,h1,h2,rfl⟩
 .have e:uI m false q R d=true↔RU m (q:Int) R d:=by
   unfold uI RU
   rcases hc with rfl|rfl|rfl|rfl|rfl|rfl<;>simp<;>omega
  unfold kN sg;by_cases c:RU m (q:Int) R d
  .rw[if_pos c,if_pos (e.2 c)];simp
  .rw[if_neg c,if_neg (fun g=>c (e.1 g))];simp
 .omega
 .have e:uI m true q r d=true↔¬RU m (-(q:Int)-1) R d:=by
   unfold uI RU
   rcases hc with rfl|rfl|rfl|rfl|rfl|rfl<;>simp<;>omega
  unfold kN sg;by_cases c:RU m (-(q:Int)-1) R d
  .rw[if_pos c,if_neg (fun g=>(e.1 g) c)];simp
  .rw[if_neg c,if_pos (e.2 c)];simp;omega
theorem lH{X F:Int}{R D:Nat}{neg:Bool}(hR:R<D)(h:F*D+R=X)(h1:0<X->neg=false)(h2:X<0->neg=true):
 (neg=false/\F=((X.natAbs/D:Nat):Int)/\R=X.natAbs%D)\/(neg=true/\X.natAbs%D=0/\R=0/\F= -((X.natAbs/D:Nat):Int))\/(neg=true/\0<X.natAbs%D/\R=D-X.natAbs%D/\F= -((X.natAbs/D:Nat):Int)-1):=by
 cases neg with
 |false=>
  have hX:0<=X:=by
   rcases Zb X 0 with c|c
   .cases h2 c
   .exact c
  have hF:0<=F:=by
   rcases Zb F 0 with c|c
   .have:=Zp (show F<=-1 by omega) (show(0:Int)<=D by omega);omega
   .exact c
  obtain⟨f,rfl⟩:∃f:Nat,F=f:=⟨F.toNat,by omega⟩
  have e:X.natAbs=D*f+R:=by
   rw[<-YS,YO]at h;omega
  rw[e];refine .inl ⟨rfl,?_,?_⟩
  .rw[Nat.mul_add_div (by omega),Nat.div_eq_of_lt hR,Y0]
  .rw[Nat.mul_add_mod,Nat.mod_eq_of_lt hR]
 |true=>
  have hX:X<=0:=by
   rcases Zb 0 X with c|c
   .cases h1 c
   .exact c
  have hF:F<=0:=by
   rcases Zb 0 F with c|c
   .have:=Zp (show 1<=F by omega) (show(0:Int)<=D by omega);omega
   .exact c
  obtain⟨f,hf⟩:∃f:Nat,F= -(f:Int):=⟨F.natAbs,by omega⟩
  subst hf;rw[Int.neg_mul,<-YS,YO]at h;by_cases Ww:R=0
  .subst Ww
   have e:X.natAbs=D*f:=by omega
   rw[e,Nat.mul_mod_right,Nat.mul_div_cancel_left _ (by omega)];exact .inr (.inl ⟨rfl,rfl,rfl,rfl⟩)
  .have Rb:1<=f:=by
    rcases Nat.eq_zero_or_pos f with c|c
    .subst c;omega
    .exact c
   obtain⟨g,rfl⟩:∃g,f=g+1:=⟨f-1,by omega⟩
   rw[Nat.mul_add,Nat.mul_one]at h
   have e:X.natAbs=D*g+(D-R):=by omega
   rw[e,Nat.mul_add_mod,Nat.mod_eq_of_lt (by omega),Nat.mul_add_div (by omega),Nat.div_eq_of_lt (by omega),Y0];exact .inr (.inr ⟨rfl,by omega,by omega,by omega⟩)
theorem tm(N:Nat){X:Int}{D:Nat}(hD:0<D)(XO:D<=4000000000000000000)(hX:X.natAbs<=4000000000000000000):∃(F:Int)(R:Nat),M.iD N X (D:Int)=some (F,(R:Int))/\R<D/\F*D+R=X/\-(X.natAbs:Int)-1<=F/\F<=X.natAbs:=by
 unfold M.iD;have CV:=Za X.natAbs D;have hm:=Zc X.natAbs hD;have hq:=Y4 X.natAbs D
 rcases Zb X 0 with c|c
 .have eX:X= -(X.natAbs:Int):=by omega
  have q1:gR X (D:Int)=some (-((X.natAbs/D:Nat):Int)):=by
   unfold gR;rw[if_neg (by omega)]
   conv=>lhs;rw[eX]
   rw[Int.neg_tdiv,Yj (by omega)];simp
  have q2:li X (D:Int)=some (-((X.natAbs%D:Nat):Int)):=by
   unfold li;rw[if_neg (by omega)]
   conv=>lhs;rw[eX]
   rw[Int.neg_tmod,Yi (by omega)];simp
  rw[q1,q2,X5,X5];generalize X.natAbs/D=Q at CV hq⊢;generalize X.natAbs%D=R at CV hm⊢;rw[ag (n:= -(Q:Int)) (by omega) (by omega)]
  have MS:(Q:Int)*D=((D*Q:Nat):Int):=by rw[YO];exact(YS _ _).symm
  by_cases hz:R=0
  .subst hz;refine⟨-(Q:Int),0,?_,hD,?_,by omega,by omega⟩
   .rw[if_neg (by simp)];rfl
   .rw[Int.neg_mul,MS];omega
  .refine⟨-(Q:Int)-1,D-R,?_,by omega,?_,by omega,by omega⟩
   .rw[if_pos (by simp<;>omega),ag (by omega) (by omega),ag (by omega) (by omega)];refine congrArg some (Prod.ext rfl ?_);simp only;omega
   .rw[Int.sub_mul,Int.neg_mul,MS];omega
 .obtain⟨x,rfl⟩:∃x:Nat,X=x:=⟨X.toNat,by omega⟩
  rw[Int.natAbs_natCast]at*;rw[la _ _ (by omega),uF _ _ (by omega),X5,X5];generalize x/D=Q at CV hq⊢;generalize x%D=R at CV hm⊢
  have MS:(Q:Int)*D=((D*Q:Nat):Int):=by rw[YO];exact(YS _ _).symm
  rw[if_neg (by simp),gv (by omega)];refine⟨_,_,rfl,hm,?_,by omega,by omega⟩;rw[MS];omega
theorem G4(N:Nat)(a b m:Int):M.gC N a b m=M.kf N a b m:=by
 unfold M.gC M.kf;rw[uK];simp only[ri,X5,Aa N _ (l:=1000000000) (by omega),nR N _ (l:=1000000000) (by omega),EU];by_cases hm:km m
 .simp only[hm,decide_true,Yp,X8,if_false];by_cases hb:eh a 1000000000\/eh b 1000000000
  .simp only[hb,decide_true,if_true]
  .simp only[hb,decide_false,X8,if_false];unfold eh at hb
   have hX:(a*b).natAbs<=1000000000*1000000000:=by
    rw[Int.natAbs_mul];exact Nat.mul_le_mul (by omega) (by omega)
   obtain⟨X,Wx⟩:∃X,X=a*b:=⟨_,rfl⟩
   rw[<-Wx]at hX⊢;rw[ag (n:=X) (by omega) (by omega),jC,X5];obtain⟨F,R,e,h1,h2,h3,h4⟩:=tm N (X:=X) (D:=1000000) (by omega) (by omega) (by omega);rw[show((1000000:Nat):Int)=(1000000:Int)from rfl]at e;rw[e,X5];dsimp only;have hr:=nT N hm (decide (X<0)) (F:=F) (R:=R) (q:=X.natAbs/1000000) (r:=X.natAbs%1000000) (d:=1000000) (by omega) (by omega) (by omega) (by omega) (lH h1 h2 (fun h=>by simp;omega) (fun h=>by simp;omega));rw[show((1000000:Nat):Int)=(1000000:Int)from rfl]at hr;rw[hr,X5]
   have hD:Ab X 1000000 m=(sg (decide (X<0)) (kN m (decide (X<0)) (X.natAbs/1000000) (X.natAbs%1000000) 1000000),0):=by
    rw[rk hm (by omega) (by unfold eh;omega),yR X (by omega)];rfl
   rw[hD];rfl
 .simp only[hm,decide_false,YC,if_true]
def EW(n d m:Int):Int×Int:=
 if¬km m then(0,1)else if d=0 then(0,12)else if eh n 1000000000000000\/eh d 1000000000000000 then(0,3)else
  if 1000000000<kN m (ng n d) (n.natAbs*1000000/d.natAbs) (n.natAbs*1000000%d.natAbs) d.natAbs then(0,3)
  else(sg (ng n d) (kN m (ng n d) (n.natAbs*1000000/d.natAbs) (n.natAbs*1000000%d.natAbs) d.natAbs),0)
theorem Ag{n d m:Int}(h:¬km m):EW n d m=(0,1):=if_pos h
theorem wU{n d m:Int}(h:km m)(h1:d=0):EW n d m=(0,12):=by unfold EW;rw[if_neg (Y7.2 h),if_pos h1]
theorem Ah{n d m:Int}(h:km m)(h1:d≠0)(h2:eh n 1000000000000000\/eh d 1000000000000000):EW n d m=(0,3):=by unfold EW;rw[if_neg (Y7.2 h),if_neg h1,if_pos h2]
theorem EX{n d m:Int}(h:km m)(h1:d≠0)(h2:¬(eh n 1000000000000000\/eh d 1000000000000000)){P D:Nat}(hP:P=n.natAbs*1000000)(hD:D=d.natAbs):EW n d m=if 1000000000<kN m (ng n d) (P/D) (P%D) D then(0,3)else(sg (ng n d) (kN m (ng n d) (P/D) (P%D) D),0):=by subst hP hD;unfold EW;rw[if_neg (Y7.2 h),if_neg h1,if_neg h2]
theorem uL{a:Int}(h: -1000000000000000<=a/\a<=1000000000000000):Ya.wrap (if a<(X6.wrap (0-a))then(X6.wrap (0-a))else a)=((a.natAbs:Nat):Int):=by
 rw[ag (n:=0-a) (by omega) (by omega),fu (by split<;>omega) (by split<;>omega)]
 split<;>omega
theorem uM(n d m:Int):M.dZ az n d m=some (EW n d m):=by
 unfold M.dZ;simp only[ri,X5,Aa az _ (l:=1000000000000000) (by omega),EU];by_cases hm:km m
 .rw[if_neg (by simpa using hm)];by_cases hd:d=0
  .rw[if_pos (by simpa using hd),wU hm hd]
  .rw[if_neg (by simpa using hd)];by_cases hb:eh n 1000000000000000\/eh d 1000000000000000
   .rw[if_pos (by simpa using hb),Ah hm hd hb]
   .obtain⟨P,hP⟩:∃P,P=n.natAbs*1000000:=⟨_,rfl⟩
    obtain⟨D,hD⟩:∃D,D=d.natAbs:=⟨_,rfl⟩
    rw[if_neg (by simpa using hb),EX hm hd hb hP hD];unfold eh at hb
    have Wy:D<=1000000000000000:=by omega
    rw[uL (a:=n) (by omega),uL (a:=d) (by omega)]
    have EY:0<D:=by omega
    have wN:=Zc P EY;rw[show(1000000:Int)=((1000000:Nat):Int)from rfl,nP az (by omega) (by omega),X5,<-hP,<-hD];dsimp only;have hu:=kO m (ng n d) (P/D) (P%D) D;by_cases h1:D<=P/18446744073709551616
    .have LV:18446744073709551616<=P/D:=by
      rw[Nat.le_div_iff_mul_le EY];have:=(Nat.le_div_iff_mul_le (by omega)).1 h1;omega
     rw[if_pos (by simp;omega),if_pos (by omega)]
    .rw[if_neg (by simp;omega),q8 (by omega) (by omega) (by omega),X5]
     have e1:P/18446744073709551616*18446744073709551616+P%18446744073709551616=P:=by omega
     rw[e1];dsimp only;by_cases h2:1000000000<P/D
     .rw[if_pos (by simp;omega),if_pos (by omega)]
     .rw[if_neg (by simp;omega),wR az _ wN (by omega),X5];rw[show(!decide (decide (n<0)=decide (d<0)))=ng n d from rfl]
      have e2:((if uI m (ng n d) (P/D) (P%D) D=true then some (X6.wrap (X6.wrap ((P/D:Nat):Int)+1))else some (X6.wrap ((P/D:Nat):Int))):Option Int)=some ((kN m (ng n d) (P/D) (P%D) D:Nat):Int):=by
       rw[gv (by omega)];unfold kN;split
       .rw[ag (by omega) (by omega)];rfl
       .rfl
      rw[e2,X5];by_cases h3:1000000000<kN m (ng n d) (P/D) (P%D) D
      .rw[if_pos (by simp;omega),if_pos h3]
      .rw[if_neg (by simp;omega),if_neg h3,ag (by omega) (by omega)];unfold sg
       cases ng n d<;>simp
 .rw[if_pos (by simpa using hm),Ag hm]
theorem sa(N:Nat)(n d m:Int):M.fW N n d m=some (EW n d m):=by
 unfold M.fW;rw[uK];simp only[X5,nR N _ (l:=1000000000000000) (by omega),nR N _ (l:=1000000000) (by omega),nR N _ (l:=1001) (by omega),EU];by_cases hm:km m
 .rw[if_neg (by simpa using hm)];by_cases hd:d=0
  .rw[if_pos (by simpa using hd),wU hm hd]
  .rw[if_neg (by simpa using hd)];by_cases hb:eh n 1000000000000000\/eh d 1000000000000000
   .rw[if_pos (by simpa using hb),Ah hm hd hb]
   .obtain⟨P,RG⟩:∃P,P=n.natAbs*1000000:=⟨_,rfl⟩
    obtain⟨D,hD⟩:∃D,D=d.natAbs:=⟨_,rfl⟩
    rw[if_neg (by simpa using hb),EX hm hd hb RG hD];unfold eh at hb
    have Wy:D<=1000000000000000:=by omega
    have EY:0<D:=by omega
    obtain⟨X,Wz,WA,WB,WC⟩:∃X:Int,((if(decide (d<(0:Int)))=true then some (X6.wrap ((0:Int)-n),X6.wrap ((0:Int)-d))else some (n,d)):Option (Int×Int))=some (X,(D:Int))/\X.natAbs=n.natAbs/\(0<X->ng n d=false)/\(X<0->ng n d=true):=by
     by_cases c:d<0
     .refine⟨-n,?_,by omega,fun h=>?_,fun h=>?_⟩
      .rw[if_pos (by simpa using c),ag (by omega) (by omega),ag (by omega) (by omega)]
       refine congrArg some (Prod.ext ?_ ?_)<;>simp only<;>omega
      .unfold ng;rw[decide_eq_true (show n<0 by omega),decide_eq_true c];rfl
      .unfold ng;rw[decide_eq_false (show¬n<0 by omega),decide_eq_true c];rfl
     .refine⟨n,?_,rfl,fun h=>?_,fun h=>?_⟩
      .rw[if_neg (by simpa using c)];refine congrArg some (Prod.ext rfl ?_);simp only;omega
      .unfold ng;rw[decide_eq_false (show¬n<0 by omega),decide_eq_false c];rfl
      .unfold ng;rw[decide_eq_true (show n<0 by omega),decide_eq_false c];rfl
    rw[Wz,X5];obtain⟨F0,R0,e,h1,h2,h3,h4⟩:=tm N (X:=X) (D:=D) EY (by omega) (by omega);dsimp only;rw[e,X5];dsimp only
    have hP:P=X.natAbs*1000000:=by rw[WA];exact RG
    have wN:=Zc P EY;have hu:=kO m (ng n d) (P/D) (P%D) D;by_cases CK:eh F0 1001
    .rw[if_pos (by simpa using CK),if_pos];unfold eh at CK
     have hq:1001000000<=P/D:=by
      rw[Nat.le_div_iff_mul_le EY]
      rcases CK with c|c
      .have:=Zp (show 1002<=F0 by omega) (show(0:Int)<=D by omega);omega
      .have:=Zp (show F0<=-1002 by omega) (show(0:Int)<=D by omega);omega
     omega
    .rw[if_neg (by simpa using CK)];unfold eh at CK;have k1:=Za (R0*1000) D;have k2:=Zc (R0*1000) EY
     have k3:R0*1000/D<1000:=by rw[YJ EY];omega
     obtain⟨a,ha⟩:∃a,a=R0*1000/D:=⟨_,rfl⟩
     obtain⟨r1,HM⟩:∃r,r=R0*1000%D:=⟨_,rfl⟩
     rw[<-ha,<-HM]at k1;rw[<-HM]at k2;rw[<-ha]at k3;have g1:=Za (r1*1000) D;have g2:=Zc (r1*1000) EY
     have g3:r1*1000/D<1000:=by rw[YJ EY];omega
     obtain⟨b,lQ⟩:∃b,b=r1*1000/D:=⟨_,rfl⟩
     obtain⟨r2,G5⟩:∃r,r=r1*1000%D:=⟨_,rfl⟩
     rw[<-lQ,<-G5]at g1;rw[<-G5]at g2;rw[<-lQ]at g3
     have m1:((R0:Int)*1000)=((R0*1000:Nat):Int):=by omega
     rw[m1,gv (a:=R0*1000) (by omega),la _ _ (by omega),uF _ _ (by omega),X5,X5,<-ha,<-HM]
     have m2:((r1:Int)*1000)=((r1*1000:Nat):Int):=by omega
     rw[m2,gv (a:=r1*1000) (by omega),la _ _ (by omega),uF _ _ (by omega),X5,X5,<-lQ,<-G5]
     have w:∀z:Int,-100000000000<=z->z<=100000000000->X6.wrap z=z:=fun z h1 h2=>ag (by omega) (by omega)
     rw[w (F0*1000000) (by omega) (by omega),w (a:Int) (by omega) (by omega),w ((a:Int)*1000) (by omega) (by omega),w (F0*1000000+(a:Int)*1000) (by omega) (by omega),w (b:Int) (by omega) (by omega),w _ (by omega) (by omega)]
     have WD:(F0*1000000+(a:Int)*1000+(b:Int))*(D:Int)+(r2:Int)=X*1000000:=by
      have e1:(F0*1000000+(a:Int)*1000+(b:Int))*(D:Int)=F0*D*1000000+(a:Int)*D*1000+(b:Int)*D:=by
       rw[Int.add_mul,Int.add_mul,Int.mul_right_comm F0,Int.mul_right_comm (a:Int)]
      have e2:(a:Int)*D=((D*a:Nat):Int):=by rw[YO];exact(YS _ _).symm
      have e3:(b:Int)*D=((D*b:Nat):Int):=by rw[YO];exact(YS _ _).symm
      rw[e1,e2,e3];omega
     have WE:(X*1000000).natAbs=P:=by rw[hP,Int.natAbs_mul];rfl
     have hc:=lH (neg:=ng n d) g2 WD (fun h=>WB (by omega)) (fun h=>WC (by omega));rw[WE]at hc
     have XP:P/D<=2000000000:=by
      rcases hc with⟨_,c,_⟩|⟨_,_,_,c⟩|⟨_,_,_,c⟩<;>omega
     have hr:=nT N hm (ng n d) EY (by omega) wN (by omega) hc;rw[hr,X5];have hs:=yQ (ng n d) (kN m (ng n d) (P/D) (P%D) D);by_cases h3:1000000000<kN m (ng n d) (P/D) (P%D) D
     .rw[if_pos (decide_eq_true (show eh _ _ by unfold eh;omega)),if_pos h3]
     .rw[if_neg (by rw[decide_eq_true_eq];unfold eh;omega),if_neg h3]
 .rw[if_pos (by simpa using hm),Ag hm]
end L
end Go.Proofs.YtlfjlhcigpejdaaGreatDoor
end
section
open _root_.Bool renaming eq_iff_iff->Yh,false_eq_true->X8,not_false->YC,not_true->Yp
open _root_.Decidable renaming not_not->Y7
open _root_.Int renaming le_refl->Ze,lt_or_le->Zb,natCast_mul->YS,tdiv->Yn,tdiv_eq_ediv_of_nonneg->Yj,tmod->Yl,tmod_eq_emod_of_nonneg->Yi
open _root_.Go.IntKind renaming i64->X6,u64->Ya
open _root_.List renaming getElem_mem->YL
open _root_.Nat renaming add_mul->Yt,div_add_mod->Za,div_le_self->Y4,div_lt_iff_lt_mul->YJ,mul_comm->YO,zero_le->Yk
open _root_.Option renaming bind_some->X5
open _root_.Sum renaming inl->YT,inr->Yv
namespace Go.Proofs.YtlfjlhcigpejdaaGreatDoor
open Go Go.RowKit
set_option maxRecDepth 100000
namespace L
theorem wV{S S' X X':Type}{body:S->Option (S⊕X)}{body':S'->Option (S'⊕X')}(φ:S->S')(ψ:X->X')(h:∀s,body' (φ s)=(body s).map (Sum.map φ ψ)):∀(N:Nat)(s:S),Loop body' N (φ s)=(Loop body N s).map ψ
 |0,_=>rfl
 |N+1,s=>by
  unfold Loop;rw[h s]
  cases body s with
  |none=>rfl
  |some x=>cases x with
   |inl s'=>exact wV φ ψ h N s'
   |inr x=>rfl
def Cn(r:Ty)(d:Int):Prop:=0<=(r.1:Int)/\(r.1:Int)<=r.2/\(r.2:Int)<=109573/\(r.1:Int)<=d/\d<r.2
instance(r:Ty)(d:Int):Decidable (Cn r d):=by unfold Cn;infer_instance
theorem contains_eq(N:Nat)(r:aa.den)(d:Int):M.cd N r d=some (decide (Cn r d)):=by
 unfold M.cd M.fU;obtain⟨(a:Int),(b:Int)⟩:=r;simp only[ak,X5,dM];refine congrArg some ?_;rw[Yh,decide_eq_true_eq]
 show _↔0<=a/\a<=b/\b<=109573/\a<=d/\d<b
 by_cases h1:0<=a<;>by_cases h2:a<=b<;>by_cases h3:b<=109573<;>by_cases h4:a<=d<;>by_cases h5:d<b<;>simp[h1,h2,h3,h4,h5]
theorem kP(N:Nat)(r:aa.den)(d:Int):M.gD N r d=some (decide (Cn r d)):=contains_eq N r d
theorem wW(N:Nat)(t:cG.den)(d k:Int):M.fC N t d k=M.gE N t d k:=by
 unfold M.fC M.bj M.gE
 have:=wV (S:=Int) (S':=Int×Int×Int) (X:=Int×Bool) (X':=Int×Bool×Int×Int)
  (body:=fun s1=>(if(decide (s1<(t.2.2.2.length:Int)))=true then(idx t.2.2.2 s1).bind fun x2=>(M.im N x2 d k).bind fun y3=>(if y3=true then some (Yv (s1,true))else some (YT (X6.wrap (s1+(1:Int)))))else some (Yv ((0:Int),false))))
  (body':=fun s1=>(if(decide (s1.1<(t.2.2.2.length:Int)))=true then(idx t.2.2.2 s1.1).bind fun x2=>(M.du N x2 s1.2.1 s1.2.2).bind fun y3=>(if y3.1=true then some (Yv (s1.1,true,y3.2.1,y3.2.2))else some (YT (X6.wrap (s1.1+(1:Int)),y3.2.1,y3.2.2)))else some (Yv ((0:Int),false,s1.2.1,s1.2.2))))
  (fun s=>(s,d,k)) (fun x=>(x.1,x.2,d,k)) ?_ N 0
 .rw[this]
  cases Loop _ N (0:Int)with
  |none=>rfl
  |some x=>rfl
 .intro s;dsimp only;by_cases c:s<(t.2.2.2.length:Int)
  .rw[if_pos (by simpa using c),if_pos (by simpa using c)]
   cases idx t.2.2.2 s with
   |none=>rfl
   |some x=>
    unfold M.du M.im;rw[X5,X5,contains_eq,kP];simp only[ak,X5,Option.map_some]
    cases(if decide (Cn x.1 d)=true then if decide (x.2.1<=k)=true then decide (k<x.2.2.1)else false else false)<;>rfl
  .rw[if_neg (by simpa using c),if_neg (by simpa using c)];rfl
def CT(l:Nat)(n:Int):Int×Int×Bool:=
 if 1000000000000000<l*n.natAbs/1000000 then(0,0,false)else(sg (decide (n<0)) (l*n.natAbs/1000000),sg (decide (n<0)) (l*n.natAbs%1000000),true)
theorem pJ{l:Nat}{n:Int}(hl:l<=1000000000000000)(hn: -9223372036854775808<=n/\n<=9223372036854775807):M.cH az (l:Int) n=some (CT l n):=by
 unfold M.cH CT
 have e1:((if(decide (n<(0:Int)))=true then some (Ya.wrap (0-(Ya.wrap n)))else some (Ya.wrap n)):Option Int)=some ((n.natAbs:Nat):Int):=by
  by_cases c:n<0
  .rw[if_pos (by simpa using c),eU,eU];refine congrArg some ?_;omega
  .rw[if_neg (by simpa using c),fu (by omega) (by omega)];refine congrArg some ?_;omega
 rw[e1,X5,jI (a:=l) (by omega),nP az (by omega) (by omega),X5]
 obtain⟨P,hP⟩:∃P,P=l*n.natAbs:=⟨_,rfl⟩
 rw[<-hP];dsimp only;by_cases h1:1000000<=P/18446744073709551616
 .rw[if_pos (by simp;omega),if_pos (by omega)]
 .rw[if_neg (by simp;omega),show(1000000:Int)=((1000000:Nat):Int)from rfl,q8 (by omega) (by omega) (by omega),X5]
  have e2:P/18446744073709551616*18446744073709551616+P%18446744073709551616=P:=by omega
  rw[e2];dsimp only;by_cases h2:1000000000000000<P/1000000
  .rw[if_pos (by simp;omega),if_pos h2]
  .rw[if_neg (by simp;omega),if_neg h2,gv (by omega),gv (by omega),ag (by omega) (by omega),ag (by omega) (by omega)];unfold sg
   by_cases c:n<0<;>simp[c]
theorem kj(N:Nat){l:Nat}{n:Int}(hl:l<=1000000000000000)(hn: -9223372036854775808<=n/\n<=9223372036854775807):M.eE N (l:Int) n=some (CT l n):=by
 unfold M.eE CT
 have e1:((if(decide (n<(0:Int)))=true then some (Ya.wrap ((Ya.wrap (X6.wrap (0-(X6.wrap (n+(1:Int))))))+(1:Int)))else some (Ya.wrap n)):Option Int)=some ((n.natAbs:Nat):Int):=by
  by_cases c:n<0
  .rw[if_pos (by simpa using c),ag (n:=n+1) (by omega) (by omega),ag (n:=0-(n+1)) (by omega) (by omega),fu (n:=0-(n+1)) (by omega) (by omega),fu (by omega) (by omega)];refine congrArg some ?_;omega
  .rw[if_neg (by simpa using c),fu (by omega) (by omega)];refine congrArg some ?_;omega
 rw[e1,X5]
 obtain⟨m,hm,XQ⟩:∃m,m=n.natAbs/\m<=9223372036854775808:=⟨_,rfl,by omega⟩
 rw[<-hm]
 have t1:Yn (m:Int) 1000000=((m/1000000:Nat):Int):=by rw[Yj (by omega)];omega
 have t2:Yl (m:Int) 1000000=((m%1000000:Nat):Int):=by rw[Yi (by omega)];omega
 have t3:Yn (l:Int) 1000000=((l/1000000:Nat):Int):=by rw[Yj (by omega)];omega
 have t4:Yl (l:Int) 1000000=((l%1000000:Nat):Int):=by rw[Yi (by omega)];omega
 rw[t1,t2,t3,t4]
 obtain⟨A,hA,Wu⟩:∃A,A=m/1000000/\A<=10000000000000:=⟨_,rfl,by omega⟩
 obtain⟨B,hB,XR⟩:∃B,B=m%1000000/\B<1000000:=⟨_,rfl,by omega⟩
 have ME:m=A*1000000+B:=by omega
 rw[<-hA,<-hB,jI (a:=A) (by omega),gv (a:=A) (by omega),gv (a:=B) (by omega)];have Jy:l%1000000*B<=999999*999999:=Nat.mul_le_mul (by omega) (by omega);have WG:l/1000000*B<=1000000000*999999:=Nat.mul_le_mul (by omega) (by omega)
 have hP:l*m=1000000*(l*A+l/1000000*B)+l%1000000*B:=by
  have e:=Za l 1000000
  have e3:l*B=1000000*(l/1000000*B)+l%1000000*B:=by
   rw[<-Nat.mul_assoc,<-Yt,e]
  have e4:l*(A*1000000+B)=1000000*(l*A)+l*B:=by
   rw[Nat.mul_add,<-Nat.mul_assoc,YO (l*A)]
  rw[ME,e4,e3];omega
 have hq:l*m/1000000=l*A+l/1000000*B+l%1000000*B/1000000:=by rw[hP];omega
 have hr:l*m%1000000=l%1000000*B%1000000:=by rw[hP];omega
 rw[hq,hr];by_cases h0:0<A/\1000000000000000/A<l
 .have LV:1000000000000000<l*A:=by
   rw[YJ h0.1]at h0;exact h0.2
  obtain⟨K,hK⟩:∃K,K=1000000000000000/A:=⟨_,rfl⟩
  have Qd:K<=1000000000000000:=hK▸Y4 _ _;rw[<-hK]at h0;rw[if_pos (by simp;omega),show(1000000000000000:Int)=((1000000000000000:Nat):Int)from rfl,la _ _ (by omega),<-hK,X5,X5,gv (by omega),if_pos (by simp;omega),if_pos (by omega)]
 .have Be:l*A<=1000000000000000:=by
   rcases Nat.eq_zero_or_pos A with e|e
   .rw[e];simp
   .have h9:l<=1000000000000000/A:=by omega
    rw[Nat.le_div_iff_mul_le e]at h9;exact h9
  have c0:((if(decide ((0:Int)<(A:Int)))=true then(gR (1000000000000000:Int) (A:Int)).bind fun x3=>some (decide ((X6.wrap x3)<(l:Int)))else some false):Option Bool)=some false:=by
   by_cases e:A=0
   .rw[if_neg (by simp;omega)]
   .obtain⟨K,hK⟩:∃K,K=1000000000000000/A:=⟨_,rfl⟩
    have Qd:K<=1000000000000000:=hK▸Y4 _ _;rw[<-hK]at h0;rw[if_pos (by simp;omega),show(1000000000000000:Int)=((1000000000000000:Nat):Int)from rfl,la _ _ e,<-hK,X5,gv (by omega)];refine congrArg some ?_;rw[decide_eq_false_iff_not];omega
  rw[c0,X5,if_neg (by simp)]
  have u1:Yn ((l%1000000*B:Nat):Int) 1000000=((l%1000000*B/1000000:Nat):Int):=by rw[Yj (by omega)];omega
  have u2:Yl ((l%1000000*B:Nat):Int) 1000000=((l%1000000*B%1000000:Nat):Int):=by rw[Yi (by omega)];omega
  rw[<-YS l A,<-YS (l%1000000) B,gv (a:=l/1000000) (by omega),<-YS (l/1000000) B,gv (a:=l*A) (by omega),gv (a:=l/1000000*B) (by omega),gv (a:=l%1000000*B) (by omega),u1,u2,gv (a:=l%1000000*B/1000000) (by omega),<-Int.natCast_add,gv (a:=l*A+l/1000000*B) (by omega),<-Int.natCast_add,gv (by omega)];by_cases h2:1000000000000000<l*A+l/1000000*B+l%1000000*B/1000000
  .rw[if_pos (by rw[decide_eq_true_eq];omega),if_pos h2]
  .rw[if_neg (by rw[decide_eq_true_eq];omega),if_neg h2,ag (by omega) (by omega),ag (by omega) (by omega)];unfold sg
   by_cases c:n<0<;>simp[c]
theorem Jz(l:Nat)(n:Int):(-1000000000000000<=(CT l n).1/\(CT l n).1<=1000000000000000)/\-1000000<=(CT l n).2.1/\(CT l n).2.1<=1000000:=by
 unfold CT;split
 .exact⟨by decide,by decide⟩
 .have h:=rl (decide (n<0)) (l*n.natAbs/1000000);have h':=rl (decide (n<0)) (l*n.natAbs%1000000)
  refine⟨?_,?_⟩<;>simp only<;>omega
def RS(X m:Int):Int:=sg (decide (X<0)) (kN m (decide (X<0)) (X.natAbs/1000000) (X.natAbs%1000000) 1000000)
theorem EZ(X m:Int):((RS X m).natAbs=X.natAbs/1000000\/(RS X m).natAbs=X.natAbs/1000000+1):=by
 unfold RS;rw[rl];have:=kO m (decide (X<0)) (X.natAbs/1000000) (X.natAbs%1000000) 1000000;omega
theorem wX(m:Int)(neg:Bool)(q r d k:Nat):kN m neg (q+2*k) r d=kN m neg q r d+2*k:=by
 have:uI m neg (q+2*k) r d=uI m neg q r d:=by
  unfold uI;rw[show(q+2*k)%2=q%2 by omega]
 unfold kN;rw[this]
 split<;>omega
theorem E0{X Z m t:Int}(h:X=Z+2*t*1000000)(hs:t=0\/(0<t/\0<=Z)\/(t<0/\Z<0)):RS X m=2*t+RS Z m:=by
 rcases hs with c|⟨c1,c2⟩|⟨c1,c2⟩
 .subst c
  have:X=Z:=by omega
  rw[this];omega
 .unfold RS;rw[decide_eq_false (show¬X<0 by omega),decide_eq_false (show¬Z<0 by omega)]
  have e:X.natAbs/1000000=Z.natAbs/1000000+2*t.natAbs:=by omega
  have e':X.natAbs%1000000=Z.natAbs%1000000:=by omega
  rw[e,e',wX];unfold sg;simp only[X8,if_false];omega
 .unfold RS;rw[decide_eq_true (show X<0 by omega),decide_eq_true c2]
  have e:X.natAbs/1000000=Z.natAbs/1000000+2*t.natAbs:=by omega
  have e':X.natAbs%1000000=Z.natAbs%1000000:=by omega
  rw[e,e',wX];unfold sg;simp only[if_true];omega
theorem wY{Z m:Int}(hm:km m)(h: -4000000000000000000<=Z/\Z<=4000000000000000000):Ab Z 1000000 m=(RS Z m,0):=by
 rw[rk hm (by omega) (by unfold eh;omega),yR Z (by omega)];rfl
theorem Cj{w r m:Int}(hm:km m)(hw: -2000000000000000000<=w/\w<=2000000000000000000)(hr: -1000000000000<=r/\r<=1000000000000):M.iq az w r m=some (RS (w*1000000+r) m):=by
 apply Wp.eq;unfold M.iq
 obtain⟨X,hX⟩:∃X,X=w*1000000+r:=⟨_,rfl⟩
 rw[<-hX]
 refine Wp.seq (fun s:Int×Int=>s.1*1000000+s.2=X/\(-2000000000009000000<=s.1/\s.1<=2000000000009000000)/\0<=s.2/\s.2<=1000000000000) (Wp.loop (fun s:Int×Int=>s.1*1000000+s.2=X/\(-2000000000009000000<=s.1/\s.1<=2000000000009000000)/\-1000000000000<=s.2/\s.2<=1000000000000) (fun s=>((1000000000000-s.2)/1000000).toNat) ⟨hX.symm,by simp only;omega,by simp only;omega⟩ (by simp only;unfold az;omega) ?_) fun s hs=>?_
 .rintro⟨a,b⟩ ⟨h1,h2,h3⟩
  simp only at h1 h2 h3⊢
  have HK: -2000000000008000000<=a/\a<=2000000000008000000:=by omega
  refine Wp.dec (fun h=> .some ?_) fun h=> .some ⟨h1,h2,by omega,by simp only;omega⟩
  rw[ag (by omega) (by omega),ag (by omega) (by omega)];exact⟨⟨by simp only;omega,by simp only;omega,by simp only;omega⟩,by simp only;omega⟩
 obtain⟨a,b⟩:=s;obtain⟨h1,h2,h3⟩:=hs;simp only at h1 h2 h3⊢
 refine Wp.seq (fun s:Int×Int=>s.1*1000000+s.2=X/\(-2000000000009000000<=s.1/\s.1<=2000000000020000000)/\0<=s.2/\s.2<1000000) (Wp.loop (fun s:Int×Int=>s.1*1000000+s.2=X/\(-2000000000009000000<=s.1/\s.1+s.2/1000000<=2000000000020000000)/\0<=s.2/\s.2<=1000000000000) (fun s=>(s.2/1000000).toNat) ⟨h1,by simp only;omega,by simp only;omega⟩ (by simp only;unfold az;omega) ?_) fun s hs=>?_
 .rintro⟨a,b⟩ ⟨h1,h2,h3⟩
  simp only at h1 h2 h3⊢
  refine Wp.dec (fun h=> .some ?_) fun h=> .some ⟨h1,by simp only;omega,by simp only;omega⟩
  rw[ag (by omega) (by omega),ag (by omega) (by omega)];exact⟨⟨by simp only;omega,by simp only;omega,by simp only;omega⟩,by simp only;omega⟩
 obtain⟨F,R⟩:=s;obtain⟨h1,h2,h3⟩:=hs;simp only at h1 h2 h3⊢
 obtain⟨R,rfl⟩:∃n:Nat,R=n:=⟨R.toNat,by omega⟩
 have hc:=lH (X:=X) (F:=F) (R:=R) (D:=1000000) (neg:=decide (X<0)) (by omega) (by omega) (fun h=>by simp;omega) (fun h=>by simp;omega)
 refine Wp.dec (fun h=>?_) fun h=>Wp.dec (fun g=> .some ?_) fun g=>?_
 .have hx:¬X<0:=by omega
  obtain⟨f,rfl⟩:∃n:Nat,F=n:=⟨F.toNat,by omega⟩
  rw[show(1000000:Int)=((1000000:Nat):Int)from rfl,iE az m false (by omega) (by omega) (by omega),X5];refine .some ?_
  show _=_
  unfold RS;rw[decide_eq_false hx]
  rcases hc with⟨_,c1,c2⟩|⟨c,_⟩|⟨c,_⟩
  .rw[<-c2,show X.natAbs/1000000=f by omega]
  .rw[decide_eq_false hx]at c;cases c
  .rw[decide_eq_false hx]at c;cases c
 .have hx:X<0:=by omega
  show _=_
  unfold RS;rw[decide_eq_true hx]
  rcases hc with⟨c,_⟩|⟨_,c1,c2,c3⟩|⟨_,c1,c2,c3⟩
  .rw[decide_eq_true hx]at c;cases c
  .rw[c1,rc _ _ _ (by omega),c3];unfold sg;simp
  .omega
 .have hx:X<0:=by omega
  rcases hc with⟨c,_⟩|⟨_,c1,c2,c3⟩|⟨_,c1,c2,c3⟩
  .rw[decide_eq_true hx]at c;cases c
  .omega
  .have hq:X.natAbs/1000000<=2000000000020000000:=by omega
   rw[ag (n:=0-F) (by omega) (by omega),ag (n:=0-F-1) (by omega) (by omega),ag (by omega) (by omega)];rw[show(0:Int)-F-1=((X.natAbs/1000000:Nat):Int) by omega,show(1000000:Int)-(R:Int)=((X.natAbs%1000000:Nat):Int) by omega,show(1000000:Int)=((1000000:Nat):Int)from rfl,iE az m true (by omega) (by omega) (by omega),X5];refine .some ?_
   show _=_
   unfold RS;rw[decide_eq_true hx]
def RB(X m:Int):Int×Int:=if eh (RS X m) 1000000000000000 then(0,3)else(RS X m,0)
theorem wZ(N:Nat){w r m:Int}(hm:km m)(hw: -2000000000000000000<=w/\w<=2000000000000000000)(hr: -1000000000000<=r/\r<=1000000000000):M.dw N w r m=some (RB (w*1000000+r) m):=by
 unfold M.dw
 obtain⟨Q,ρ,hQ,FH,e1,e2,e3⟩:∃Q ρ:Int,Yn r 1000000=Q/\Yl r 1000000=ρ/\Q*1000000+ρ=r/\(-1000000<ρ/\ρ<1000000)/\(-1000001<Q/\Q<1000001):=by
  refine⟨_,_,rfl,rfl,?_,?_,?_⟩
  .have:=Int.mul_tdiv_add_tmod r 1000000;omega
  .rcases Zb r 0 with c|c
   .have h1:=Int.neg_tmod r 1000000;have h2:=Yi (a:= -r) (b:=1000000) (by omega);omega
   .have h2:=Yi (a:=r) (b:=1000000) (by omega);omega
  .rcases Zb r 0 with c|c
   .have h1:=Int.neg_tdiv r 1000000;have h2:=Yj (a:= -r) (b:=1000000) (by omega);omega
   .have h2:=Yj (a:=r) (b:=1000000) (by omega);omega
 rw[hQ,FH,ag (n:=Q) (by omega) (by omega),ag (n:=w+Q) (by omega) (by omega)]
 obtain⟨W,hW⟩:∃W,W=w+Q:=⟨_,rfl⟩
 obtain⟨X,hX⟩:∃X,X=w*1000000+r:=⟨_,rfl⟩
 rw[<-hW,<-hX]
 have XS:X=W*1000000+ρ:=by omega
 have hR:=EZ X m;simp only[ak,X5,eQ];unfold RB;by_cases c:W< -2000000000000000\/2000000000000000<W
 .rw[if_pos (by simpa using c),if_pos (by unfold eh;omega)]
 .rw[if_neg (by simpa using c)]
  obtain⟨p,hp,JT,Iz⟩:∃p:Int,(if(decide ((1:Int)<W))=true then(X6.wrap ((Yl W (2:Int))+(2:Int)))else(if(decide (W<(-1:Int)))=true then(X6.wrap ((Yl W (2:Int))-(2:Int)))else(Yl W (2:Int))))=p/\(-3<=p/\p<=3)/\∃t:Int,W=p+2*t/\(t=0\/(0<t/\1<W/\1<p)\/(t<0/\W< -1/\p< -1)):=by
   rcases Zb W 0 with d|d
   .have h1:=Int.neg_tmod W 2;have h2:=Yi (a:= -W) (b:=2) (by omega)
    have h3:Yl W 2= -((-W)%2):=by omega
    rw[if_neg (by simp;omega),h3];by_cases d2:W< -1
    .rw[if_pos (by simpa using d2),ag (by omega) (by omega)];exact⟨_,rfl,by omega,(W+2+(-W)%2)/2,by omega,by omega⟩
    .rw[if_neg (by simpa using d2)];exact⟨_,rfl,by omega,0,by omega, .inl rfl⟩
   .have h3:Yl W 2=W%2:=Yi d;rw[h3];by_cases d2:1<W
    .rw[if_pos (by simpa using d2),ag (by omega) (by omega)];exact⟨_,rfl,by omega,(W-2-W%2)/2,by omega,by omega⟩
    .rw[if_neg (by simpa using d2),if_neg (by simp;omega)];exact⟨_,rfl,by omega,0,by omega, .inl rfl⟩
  obtain⟨t,ht,hs⟩:=Iz;rw[hp,ag (n:=p*1000000) (by omega) (by omega),ag (n:=p*1000000+ρ) (by omega) (by omega),jC,wY hm (by omega),X5];have XT:=E0 (X:=X) (Z:=p*1000000+ρ) (m:=m) (t:=t) (by omega) (by omega);have XU:=EZ (p*1000000+ρ) m;rw[if_neg (by simp)];dsimp only;rw[ag (n:=W-p) (by omega) (by omega),ag (n:=W-p+RS (p*1000000+ρ) m) (by omega) (by omega),show W-p+RS (p*1000000+ρ) m=RS X m by omega];by_cases g:eh (RS X m) 1000000000000000
  .rw[if_pos (by unfold eh at g;simp;omega),if_pos g]
  .rw[if_neg (by unfold eh at g;simp;omega),if_neg g]
theorem Ck{S J R:Type}{b b':S->Option (S⊕(J⊕R))}{N:Nat}{s0:S}{k k':J->Option R}(P:J->Prop)(hb:∀s,b s=b' s)(h:Wp (Loop b' N s0) fun x=>match x with
 | .inl j=>P j
 | .inr _=>True)(hk:∀j,P j->k j=k' j):da (Loop b N s0) k=da (Loop b' N s0) k':=by
 rw[show b=b' from funext hb];obtain⟨x,e,hx⟩:=h;rw[e]
 cases x with
 |inl j=>exact hk j hx
 |inr r=>rfl
theorem G6{α:Type}{l:List α}{i:Int}{x:α}(h:idx l i=some x):x∈l:=by
 obtain⟨_,e⟩:=(EP (Q:=fun y=>y=x)).1 ⟨x,h,rfl⟩;exact e▸YL _
theorem sb{t:cG.den}(hl:t.2.2.2.length<=1000)(hw:∀r∈t.2.2.2,-9223372036854775808<=(r.2.2.2:Int)/\(r.2.2.2:Int)<=9223372036854775807)(d c m:Int):M.dx az t d c m=M.gG az t d c m:=by
 unfold M.dx M.gG;rw[uK,kh,X5,X5];by_cases hm:km m
 case neg=>simp only[hm,decide_false,YC,if_true]
 simp only[hm,decide_true,Yp,X8,if_false]
 obtain⟨j2,CJ⟩:∃j,((if(!(tE aa t.2.1 ((3:Int),(0:Int))))=true then some true else some (!(tE aa t.2.2.1 ((4:Int),(0:Int))))):Option Bool)=some j:=by
  split<;>exact⟨_,rfl⟩
 rw[CJ,X5,X5]
 cases j2 with
 |true=>rfl
 |false=>
  simp only[X8,if_false]
  have aW:((if(decide (c<(-1000000000000000:Int)))=true then some true else some (decide ((1000000000000000:Int)<c))):Option Bool)=some (decide (eh c 1000000000000000)):=by
   rw[ak,eQ];refine congrArg some ?_;rw[Yh,Bool.or_eq_true,decide_eq_true_eq,decide_eq_true_eq,decide_eq_true_eq];unfold eh;omega
  rw[jB az c (by omega),aW,X5,X5];by_cases hc:eh c 1000000000000000
  .simp only[hc,decide_true,if_true]
  simp only[hc,decide_false,X8,if_false];unfold eh at hc;refine Ck (fun j:Int×Int=>(-1000000000000000000<=j.1/\j.1<=1000000000000000000)/\-1000000000<=j.2/\j.2<=1000000000) ?_ ?_ ?_
  .rintro⟨a,b,i⟩
   dsimp only;by_cases h:i<(t.2.2.2.length:Int)
   .rw[if_pos (by simpa using h),if_pos (by simpa using h)];refine congrArg (fun o=>da o _) ?_
    cases hx:idx t.2.2.2 i with
    |none=>rfl
    |some x=>
     simp only[X5,contains_eq,kP];have hn:=hw x (G6 hx)
     obtain⟨T,hT,WH⟩:∃T:Int,T=(if c<x.2.2.1 then c else x.2.2.1)/\T<=c:=⟨_,rfl,by split<;>omega⟩
     obtain⟨F,hF,WI⟩:∃F:Int,F=(if x.2.1<(0:Int)then(0:Int)else x.2.1)/\0<=F:=⟨_,rfl,by
      split
      .exact Ze 0
      .rename_i g;exact Int.not_lt.1 g⟩
     rw[<-hT,<-hF];by_cases hC:Cn x.1 d
     .by_cases LW:T<=F
      .simp[hC,LW]
      .simp only[hC,LW,decide_true,decide_false,Yp,X8,if_false,X5];rw[ag (by omega) (by omega)]
       obtain⟨l,FL⟩:∃l:Nat,T-F=l:=⟨(T-F).toNat,by omega⟩
       rw[FL,pJ (by omega) hn,kj az (by omega) hn]
     .by_cases LW:T<=F
      .simp[hC,LW]
      .simp[hC,LW]
   .rw[if_neg (by simpa using h),if_neg (by simpa using h)]
  .refine Wp.loop (fun s:Int×Int×Int=>∃i:Nat,s.2.2=i/\i<=t.2.2.2.length/\(-1000000000000000*(i:Int)<=s.1/\s.1<=1000000000000000*(i:Int))/\-1000000*(i:Int)<=s.2.1/\s.2.1<=1000000*(i:Int)) (fun s=>(t.2.2.2.length-s.2.2).toNat) ⟨0,rfl,Yk _,by simp only;omega,by simp only;omega⟩ (by simp only;unfold az;omega) ?_
   rintro⟨a,b,_⟩ ⟨i,rfl,hi,h1,h2⟩
   simp only at h1 h2;dsimp only
   refine Wp.dec (fun h=>?_) fun h=> .some ⟨by simp only;omega,by simp only;omega⟩
   have dA:i<t.2.2.2.length:=by omega
   simp only[ax dA,X5,kP];have hn:=hw _ (YL dA);generalize t.2.2.2[i]=x at hn⊢
   obtain⟨T,hT,WH⟩:∃T:Int,T=(if c<x.2.2.1 then c else x.2.2.1)/\T<=c:=⟨_,rfl,by split<;>omega⟩
   obtain⟨F,hF,WI⟩:∃F:Int,F=(if x.2.1<(0:Int)then(0:Int)else x.2.1)/\0<=F:=⟨_,rfl,by
    split
    .exact Ze 0
    .rename_i g;exact Int.not_lt.1 g⟩
   rw[<-hT,<-hF]
   have next:∀a' b':Int,(-1000000000000000<=a'/\a'<=1000000000000000)->(-1000000<=b'/\b'<=1000000)->∃k:Nat,X6.wrap ((i:Int)+1)=(k:Int)/\k<=t.2.2.2.length/\i<k/\(-1000000000000000*(k:Int)<=a+a'/\a+a'<=1000000000000000*(k:Int))/\-1000000*(k:Int)<=b+b'/\b+b'<=1000000*(k:Int):=by
    intro a' b' g1 g2;exact⟨i+1,al (by omega),by omega,by omega,by omega,by omega⟩
   by_cases hg:T<=F\/¬Cn x.1 d
   .have e:((if decide (T<=F)=true then some true else some (!decide (Cn x.1 d))):Option Bool)=some true:=by
     rcases hg with g|g
     .simp[g]
     .simp[g]
    rw[e,X5];simp only[if_true];refine Wp.join (.some (.some ?_))
    obtain⟨k,q1,q2,q3,q4,q5⟩:=next 0 0 (by omega) (by omega)
    exact⟨⟨k,q1,q2,by simp only;omega,by simp only;omega⟩,by simp only;omega⟩
   .have e:((if decide (T<=F)=true then some true else some (!decide (Cn x.1 d))):Option Bool)=some false:=by
     simp only[not_or,Y7]at hg;simp[hg.1,hg.2]
    simp only[not_or,Y7]at hg;rw[e,X5];simp only[X8,if_false];rw[ag (n:=T-F) (by omega) (by omega)]
    obtain⟨l,FL⟩:∃l:Nat,T-F=l:=⟨(T-F).toNat,by omega⟩
    rw[FL,kj az (by omega) hn,X5];have hr:=Jz l x.2.2.2;refine Wp.join ?_
    cases(CT l x.2.2.2).2.2 with
    |false=>exact .some trivial
    |true=>
     simp only[Yp,X8,if_false];refine .some (.some ?_)
     obtain⟨k,q1,q2,q3,q4,q5⟩:=next (CT l x.2.2.2).1 (CT l x.2.2.2).2.1 hr.1 hr.2
     refine⟨⟨k,q1,q2,?_,?_⟩,by simp only;omega⟩
     .simp only;rw[ag (by omega) (by omega)];exact q4
     .simp only;rw[ag (by omega) (by omega)];exact q5
  .rintro⟨w,r⟩ ⟨h1,h2⟩
   simp only at h1 h2;dsimp only;rw[wZ az hm (by omega) (by omega),Cj hm (by omega) (by omega),X5,X5,jB az _ (by omega),X5];unfold RB;by_cases g:eh (RS (w*1000000+r) m) 1000000000000000
   .rw[if_pos g,if_pos (by simpa using g)]
   .rw[if_neg g,if_neg (by simpa using g)]
end L
end Go.Proofs.YtlfjlhcigpejdaaGreatDoor
end
