/- Joined texts: PT2 PT3 PX PX3 PX5 XE HA HB HC HD XB XF XG. -/
import Derived.Test.YtleifhfeahnocaaGreatDoorU11
import Derived.Test.YtleifhfeahnocaaGreatDoorU10
import Derived.Test.YtleifhfeahnocaaGreatDoorU5
open _root_.Bool renaming false->ag,true->af,and_eq_true->akd
open _root_.Option renaming some->aa,bind_some->ai8,none->ae
open _root_.Int renaming tdiv->ajl,tmod->ajH,le_refl->aj1,toNat_natCast->ajg,eq_ofNat_of_zero_le->ajd,not_lt->ajT
open _root_.Go.IntKind renaming i64->ai9,u64->ajc
open _root_.Nat renaming zero_le->ajB,le_of_lt->akD,le_refl->ajh,min_eq_left->akp,le_trans->ajs,add_zero->akj
open _root_.List renaming getElem_mem->aje,append_nil->ajS,drop_eq_getElem_cons->ajx,drop_of_length_le->ajX,getElem?_eq_getElem->ajb,getElem_append_left->ajM,getElem_append_right->ajU,replicate->aji,take_length->ajn,getElem?_eq_some_iff->ajr,nil_append->ajC,length_nil->ajJ,mem_append->ajt,mem_cons->ajQ,mem_singleton->ajy,take_append_getElem->ajk,filter_cons_of_neg->aj7,filter_cons_of_pos->aj6,getElem_of_mem->ajm,length_filter_le->aj2,range->ajY,pairwise_cons->aka,length_cons->ajp,map_cons->ajD,sum_cons->ajR
open _root_.Option.some renaming inj->aja
open _root_.Classical renaming propDecidable->aju
open _root_.Go.Lib renaming compact->ajN
namespace Go.Proofs.YtleifhfeahnocaaGreatDoor
open Go Go.RowKit
set_option maxRecDepth 100000
set_option linter.unusedSimpArgs false
set_option linter.unusedVariables false
set_option linter.defProp false
namespace L.P
def Cd(c:Int):Prop:=c=0\/c=3\/c=12
def BG{c:Prop}[Decidable c]{x y:Int×Int}(hx:Cd x.2)(hy:Cd y.2):Cd (if c then x else y).2:=by
 split
 .exact hx
 .exact hy
def KF(x:Int):Cd (x,(0:Int)).2:= .inl rfl
def Cd3(x:Int):Cd (x,(3:Int)).2:= .inr (.inl rfl)
def iJ{n l:Int}(hl:0<=l/\l<=9000000000000000000)(h:¬(decide (l<n)||decide (n<ai9.wrap (0-l)))=af): -l<=n/\n<=l:=by
 rw[aW (by omega) (by omega)]at h;simp at h;omega
def QO(N:Nat)(a b c:Int)(d:Bool)(e:Int):Wp (M.cW N a b c d e) λ_=>True:=by
 unfold M.cW;simp only[bx,ai8];exact .some trivial
def zZ(N:Nat)(a:Int)(b:Bool):Wp (M.jP N a b) λ_=>True:=by
 unfold M.jP;simp only[bx];exact .some trivial
def oA(N:Nat){a b m:Int}(hm:0<=m/\m<=5):Wp (M.dm N a b m) λr=>Cd r.2:=by
 unfold M.dm;rw[lV];simp only[ai8,pf];rw[ai (by simp;omega)]
 refine Wp.dec (λ_=> .some (by simp[Cd])) λhb=>?_
 simp only[bx,ai8,sz]
 refine Wp.ite (λ_=> .some (by simp[Cd])) λhc=>?_
 rw[Bool.or_eq_true,not_or]at hc;have ha:=iJ (by omega) hc.1;have qR:=iJ (by omega) hc.2;rw[iI N ha,iI N qR];simp only[ai8]
 have dw:(if b<0 then-b else b)≠0:=by split<;>omega
 rw[show∀x,yq x (if b<0 then-b else b)=aa (ajl x (if b<0 then-b else b))from λx=>ai dw,show∀x,EK x (if b<0 then-b else b)=aa (ajH x (if b<0 then-b else b))from λx=>ai dw];simp only[ai8]
 exact Wp.seq _ (QO ..) λx _=>Wp.seq _ (zZ ..) λy _=> .some (by simp[Cd])
def tE(N:Nat)(a b:Int):Wp (M.eT N a b) λr=>(0<=r.1/\r.1<18446744073709551616)/\0<=r.2/\r.2<18446744073709551616:=by
 unfold M.eT;exact .some ⟨mJ _,mJ _⟩
def xE{hi lo y:Int}(h0:0<=hi)(h1:hi<y)(h2:y<18446744073709551616):Wp (M.dW aU hi lo y) λ_=>True:=by
 obtain⟨r,hr⟩:=JQ (lo:=lo) h0 h1 h2;exact⟨r,hr,trivial⟩
def uK{a b c m:Int}(hm:0<=m/\m<=5):Wp (M.nx aU a b c m) λr=>Cd r.2:=by
 unfold M.nx;rw[lV];simp only[ai8,pf];rw[ai (by simp;omega)]
 refine Wp.dec (λ_=> .some (by simp[Cd])) λhb=>?_
 simp only[bx,ai8,sz]
 refine Wp.ite (λ_=> .some (by simp[Cd])) λhc=>?_
 simp only[Bool.or_eq_true,not_or]at hc;have ha:=iJ (n:=a) (l:=1000000000000000) (by omega) (by simpa using hc.1);have qR:=iJ (n:=b) (l:=1000000000) (by omega) (by simpa using hc.2.1);have Lp:=iJ (n:=c) (l:=1000000000) (by omega) (by simpa using hc.2.2);rw[iI _ (n:=a) (by omega),iI _ (n:=b) (by omega)];simp only[ai8]
 refine Wp.seq _ (tE ..) λr hr=>?_
 rw[iI _ (n:=c) (by omega)];simp only[ai8]
 refine Wp.dec (λ_=> .some (by simp[Cd])) λhd=>?_
 have aG:(if c<0 then-c else c)<18446744073709551616:=by split<;>omega
 refine Wp.seq _ (xE hr.1.1 (by omega) aG) λq _=>?_
 refine Wp.dec (λ_=> .some (by simp[Cd])) λ_=>?_
 refine Wp.seq _ (QO ..) λx _=>?_
 refine Wp.dec (λ_=> .some (by simp[Cd])) λ_=>?_
 exact Wp.seq _ (zZ ..) λy _=> .some (by simp[Cd])
def Gb{a b m:Int}(hm:0<=m/\m<=5):Wp (M.mE aU a b m) λr=>Cd r.2:=by
 unfold M.mE;rw[lV];simp only[ai8,pf];rw[ai (by simp;omega)]
 refine Wp.dec (λ_=> .some (by simp[Cd])) λhb=>?_
 simp only[bx,ai8,sz]
 refine Wp.ite (λ_=> .some (by simp[Cd])) λhc=>?_
 refine Wp.seq _ (oA _ hm) λr hr=>?_
 refine .some ?_;split
 .exact hr
 .split<;>simp[Cd]
def z6(N:Nat)(m:Int):M.lL N m=aa (decide (0<=m)&&decide (m<=5)):=lV N m
def xF(N:Nat)(n l:Int):M.jI N n l=aa (decide (l<n)||decide (n<ai9.wrap (0-l))):=pf N n l
def Px{a b m:Int}(hm:0<=m/\m<=5):Wp (M.tj aU a b m) λr=>Cd r.2:=by
 unfold M.tj;rw[z6];simp only[ai8,xF];rw[ai (by simp;omega)];simp only[bx,ai8,sz]
 refine Wp.ite (λ_=> .some (by simp[Cd])) λhc=>?_
 refine Wp.seq _ (oA _ hm) λr hr=>?_
 refine .some ?_;split
 .exact hr
 .split<;>simp[Cd]
def JR{a b m:Int}(hm:0<=m/\m<=5):Wp (M.k7 aU a b m) λr=>Cd r.2:=by
 unfold M.k7
 exact Wp.seq _ (uK hm) λr hr=> .some hr
def DP(N:Nat)(a b c:Int)(d:Bool)(e:Int):Wp (M.mF N a b c d e) λ_=>True:=by
 unfold M.mF;simp only[bx,ai8];exact .some trivial
def BH{a b m:Int}(hm:0<=m/\m<=5):Wp (M.lM aU a b m) λr=>Cd r.2:=by
 unfold M.lM;rw[z6];simp only[ai8,xF];rw[ai (by simp;omega)]
 refine Wp.dec (λ_=> .some (by simp[Cd])) λhb=>?_
 simp only[bx,ai8,sz]
 refine Wp.ite (λ_=> .some (by simp[Cd])) λhc=>?_
 refine Wp.seq _ (tE ..) λr hr=>?_
 refine Wp.dec (λ_=> .some (by simp[Cd])) λhd=>?_
 refine Wp.seq _ (xE hr.1.1 (by omega) (mJ _).2) λq _=>?_
 refine Wp.dec (λ_=> .some (by simp[Cd])) λ_=>?_
 refine Wp.seq _ (Wp.bind (Wp.mono (DP ..) λx _=>?_)) λj7(_:True)=>?_
 .exact .some trivial
 .exact .some (by split<;>simp[Cd])
def vr(N:Nat)(r:aD.den)(d:Int):Wp (M.cg N r d) λ_=>True:=by
 unfold M.cg M.dU;simp only[bx,ai8];exact .some trivial
def vI(a b:Int):Wp (M.ir aU a b) λ_=>True:=by
 unfold M.ir;simp only[bx,ai8]
 refine Wp.seq _ (tE ..) λr hr=>?_
 refine Wp.dec (λ_=> .some trivial) λhd=>?_
 refine Wp.seq _ (xE hr.1.1 (by omega) (by omega)) λq _=>?_
 exact .some trivial
def DQ(N:Nat){a b m:Int}(hm:0<=m/\m<=5):Wp (M.jH N a b m) λr=>Cd r.2:=by
 unfold M.jH;simp only[bx,ai8]
 refine Wp.ite (λ_=> .some (by simp[Cd])) λhc=>?_
 refine Wp.seq _ (oA _ hm) λr hr=>?_
 exact .some (BG hr (BG (Cd3 _) (KF _)))
def DS{t:bl.den}{d k m:Int}(hm:0<=m/\m<=5)(hk:t.2.1=((3,0):Int×Int))(hv:t.2.2.1=((4,0):Int×Int))(hl:t.2.2.2.length<=9223372036854775807):Wp (M.lK aU t d k m) λr=>Cd r.2:=by
 unfold M.lK;simp only[bx,ai8,sz];rw[ai (by simp;omega),ai (by rw[hk,hv];simp[pT])]
 refine Wp.ite (λ_=> .some (by simp[Cd])) λhc=>?_
 refine Wp.join (Wp.loop (λs:Int×Int×Int=>∃i:Nat,s.2.2=i/\i<=t.2.2.2.length) (λs=>(t.2.2.2.length-s.2.2).toNat) ⟨0,rfl,ajB _⟩ (by simp only;unfold aU;omega) ?_)
 rintro⟨s1,s2,s3⟩ ⟨i,hi,xm⟩
 simp only at hi;subst hi
 refine Wp.dec (λh=>?_) λh=> .some ?_
 .have qS:i<t.2.2.2.length:=by simp only at h;omega
  refine Wp.join ?_;simp only;rw[aF qS];simp only[ai8]
  refine Wp.seq (λ_=>True) ?_ λj8 _=>?_
  .refine Wp.seq _ (vr ..) λy _=>?_
   exact .some trivial
  have nxt:∀a b:Int,vm (λj6:Int×Int=>aa (Sum.inl (j6.1,j6.2,ai9.wrap ((i:Int)+1)))) (zL (λs:Int×Int×Int=>∃i:Nat,s.2.2=i/\i<=t.2.2.2.length) (λs=>(t.2.2.2.length-s.2.2).toNat) (s1,s2,(i:Int)) (vm (λj4:Int×Int=>(M.jH aU j4.1 j4.2 m).bind λXe=>aa (Xe.1,Xe.2)) λr:Int×Int=>Cd r.2)) (.inl (a,b)):=by
   intro a b;refine .some ?_;rw[aS (by omega)];exact⟨⟨i+1,rfl,qS⟩,by simp only;omega⟩
  refine Wp.ite (λ_=> .some (nxt _ _)) λ_=>?_
  refine Wp.seq _ (vI ..) λy _=>?_
  refine .some ?_;split
  .show Cd _
   simp[Cd]
  .exact nxt _ _
 .show Wp _ _
  exact Wp.seq _ (DQ _ hm) λr hr=> .some hr
def MR(l:List kw.den)(a b:Int)(hl:l.length<=9223372036854775807):Wp (M.c7 aU l a b) λr=>r.2.1=af->0<=r.1/\r.1<l.length:=by
 unfold M.c7;refine Wp.loop (λs:Int×Int×Int=>∃i:Nat,s.1=i/\i<=l.length) (λs=>(l.length-s.1).toNat) ⟨0,rfl,ajB _⟩ (by simp only;unfold aU;omega) ?_
 rintro⟨s1,s2,s3⟩ ⟨i,hi,xm⟩
 simp only at hi;subst hi
 refine Wp.dec (λh=>?_) λh=> .some λh=>by cases h
 have qS:i<l.length:=by simp only at h;omega
 simp only;rw[aF qS];simp only[ai8]
 refine Wp.seq (λ_=>True) ?_ λy _=>?_
 .unfold M.kZ
  refine Wp.seq (λ_=>True) (Wp.seq _ (vr ..) λy _=>?_) λj _=> .some trivial
  simp only[bx];exact .some trivial
 .refine Wp.ite (λ_=> .some λ_=>⟨by simp only;omega,by simp only;omega⟩) λ_=> .some ?_
  rw[aS (by omega)];exact⟨⟨i+1,rfl,qS⟩,by simp only;omega⟩
def JT(t:bl.den)(a b:Int)(hl:t.2.2.2.length<=9223372036854775807):Wp (M.nw aU t a b) λr=>r.2=af->0<=r.1/\r.1<t.2.2.2.length:=by
 unfold M.nw
 exact Wp.seq _ (MR _ a b hl) λr hr=> .some hr
def ru(N:Nat)(d:Int):M.iu N d=aa (decide (0<=d)&&decide (d<=109572)):=by
 unfold M.iu;simp only[bx,ai8,oz]
def lW(N:Nat)(y m:Int):Wp (M.cK N y m) λr=>0<=r/\r<=31:=by
 unfold M.cK M.oh;simp only[bx,ai8,sz,oz]
 refine Wp.ite (λ_=> .some (by omega)) λhc=>?_
 refine Wp.ite (λ_=> .some (by omega)) λ_=>?_
 have hm:1<=m/\m<=12:=by simp at hc;omega
 rw[aW (by omega) (by omega)]
 have:m=1\/m=2\/m=3\/m=4\/m=5\/m=6\/m=7\/m=8\/m=9\/m=10\/m=11\/m=12:=by omega
 rcases this with rfl|rfl|rfl|rfl|rfl|rfl|rfl|rfl|rfl|rfl|rfl|rfl<;>exact⟨_,rfl,by decide⟩
def pQ(N:Nat)(y:Int):Wp (M.eH N y) λ_=>True:=by
 unfold M.eH M.jF;simp only[ai8];exact .some trivial
def tF(d:Int):Wp (M.k6 aU d) λ_=>True:=by
 unfold M.k6;rw[ru];simp only[ai8]
 refine Wp.ite (λ_=> .some trivial) λhv=>?_
 have hd:0<=d/\d<=109572:=by simpa using hv
 have h0:ajl d 366=d/366:=Int.tdiv_eq_ediv_of_nonneg hd.1;have hw:ai9.wrap (d/366)=d/366:=aW (by omega) (by omega);have hw2:ai9.wrap (1900+d/366)=1900+d/366:=aW (by omega) (by omega);rw[h0,hw,hw2]
 refine Wp.seq (λ_=>True) (Wp.loop (λy:Int=>1900<=y/\y<=2199) (λy=>(2199-y).toNat) (by omega) (by unfold aU;omega) ?_) λy _=>?_
 .rintro y ⟨h1,h2⟩
  by_cases hy:y=2199
  .subst hy
   have e:M.eH aU (ai9.wrap ((2199:Int)+1))=aa 109573:=by show(_:Option Int)=_;kernel_rfl
   rw[e];simp only[ai8];rw[ai (by simp;omega)];exact .some trivial
  .refine Wp.seq _ (pQ ..) λz _=>?_
   refine Wp.dec (λ_=> .some ?_) λ_=> .some trivial
   rw[aW (by omega) (by omega)];exact⟨by omega,by simp only;omega⟩
 .refine Wp.seq _ (pQ ..) λz _=>?_
  refine Wp.loop (λs:Int×Int=>∃i:Nat,s.2=i/\i<=12) (λs=>(12-s.2).toNat) ⟨0,rfl,by omega⟩ (by simp only;unfold aU;omega) ?_
  rintro⟨a,b⟩ ⟨i,hi,xm⟩
  simp only at hi;subst hi
  refine Wp.dec (λh=>?_) λ_=> .some trivial
  refine Wp.seq _ (lW ..) λw _=>?_
  refine Wp.dec (λ_=> .some trivial) λ_=> .some ?_
  simp only at h⊢;rw[aS (by omega)];exact⟨⟨i+1,rfl,by omega⟩,by simp only;omega⟩
def Gc(y m d:Int):Wp (M.il aU y m d) λr=>Cd r.2:=by
 unfold M.il
 refine Wp.seq (λj=>j=ag->1<=m/\m<=12) ?_ λj hj=>?_
 .refine Wp.dec (λ_=> .some (λh=>by cases h)) λ_=>Wp.dec (λ_=> .some (λh=>by cases h)) λ_=>Wp.dec (λ_=> .some (λh=>by cases h)) λh1=>Wp.dec (λ_=> .some (λh=>by cases h)) λh2=>Wp.dec (λ_=> .some (λh=>by cases h)) λ_=>?_
  exact Wp.seq _ (lW ..) λw _=> .some λ_=>⟨by omega,by omega⟩
 .refine Wp.ite (λ_=> .some (by simp[Cd])) λhc=>?_
  have hm:=hj (by simpa using hc)
  refine Wp.seq _ (pQ ..) λz _=>?_
  refine Wp.seq (λ_=>True) (Wp.loop (λs:Int×Int=>∃i:Nat,s.2=i/\i<=12) (λs=>(13-s.2).toNat) ⟨0,rfl,by omega⟩ (by simp only;unfold aU;omega) ?_) λw _=> .some (by simp[Cd])
  rintro⟨a,b⟩ ⟨i,hi,xm⟩
  simp only at hi;subst hi
  refine Wp.dec (λh=>?_) λ_=> .some trivial
  refine Wp.seq _ (lW ..) λw _=> .some ?_
  simp only at h⊢;rw[aW (n:=m-1) (by omega) (by omega)]at h;rw[aS (by omega)];exact⟨⟨i+1,rfl,by omega⟩,by simp only;omega⟩
def tG(d n:Int):Wp (M.jJ aU d n) λr=>Cd r.2:=by
 unfold M.jJ;rw[ru];simp only[bx,ai8,sz]
 refine Wp.ite (λ_=> .some (by simp[Cd])) λhc=>?_
 refine Wp.seq _ (tF ..) λy _=>?_
 refine Wp.ite (λ_=> .some (by simp[Cd])) λ_=>?_
 refine Wp.seq _ (lW ..) λw _=>?_
 exact Wp.seq _ (Gc ..) λr hr=> .some hr
def vJ(a b:Int):Wp (M.jh aU a b) λ_=>True:=by
 unfold M.jh;rw[ru,ru];simp only[bx,ai8,sz]
 refine Wp.ite (λ_=> .some trivial) λ_=>?_
 refine Wp.seq _ (tF ..) λy _=>Wp.seq _ (tF ..) λz _=>?_
 refine Wp.seq (λ_=>True) (Wp.seq _ (tG ..) λr _=>?_) λj _=> .some trivial
 exact .some trivial
end L.P
namespace L.P
def Xf(x a b:Int):(if decide (x=a)=af then aa (decide (x=a))else aa (decide (x=b)))=aa (decide (x=a\/x=b)):=by
 grind
def Xg(x a b c:Int):(if decide (x=a)=af then aa (decide (x=a))else(if decide (x=b)=af then aa (decide (x=b))else aa (decide (x=c))))=aa (decide (x=a\/x=b\/x=c)):=by
 grind
def Py(x a b c d:Int):(if decide (x=a)=af then aa (decide (x=a))else(if decide (x=b)=af then aa (decide (x=b))else(if decide (x=c)=af then aa (decide (x=c))else aa (decide (x=d)))))=aa (decide (x=a\/x=b\/x=c\/x=d)):=by
 grind
def abY(x a b c d e:Int):(if decide (x=a)=af then aa (decide (x=a))else(if decide (x=b)=af then aa (decide (x=b))else(if decide (x=c)=af then aa (decide (x=c))else(if decide (x=d)=af then aa (decide (x=d))else aa (decide (x=e))))))=aa (decide (x=a\/x=b\/x=c\/x=d\/x=e)):=by
 grind
theorem Wp.fM{α:Type}{l:List α}{i:Int}{Q:α->Prop}(h0:0<=i)(h1:i<l.length)(h:∀x,x∈l->idx l i=Option.some x->Q x):Wp (idx l i) Q:=by
 obtain⟨k,rfl⟩:∃k:Nat,i=k:=⟨i.toNat,by omega⟩
 have hk:k<l.length:=by omega
 exact⟨_,aF hk,h _ (aje hk) (aF hk)⟩
def ar(op:Int):Int:=
 if(1<=op/\op<=9)\/(35<=op/\op<=39)then 0 else if op=10\/op=25\/(31<=op/\op<=34)then 1 else if(11<=op/\op<=24)\/(27<=op/\op<=30)then 2 else if op=26 then 3 else-1
def tH(N:Nat)(op:Int):M.gu N op=aa (ar op):=by
 by_cases h:1<=op/\op<=39
 .have:op=1\/op=2\/op=3\/op=4\/op=5\/op=6\/op=7\/op=8\/op=9\/op=10\/op=11\/op=12\/op=13\/op=14\/op=15\/op=16\/op=17\/op=18\/op=19\/op=20\/op=21\/op=22\/op=23\/op=24\/op=25\/op=26\/op=27\/op=28\/op=29\/op=30\/op=31\/op=32\/op=33\/op=34\/op=35\/op=36\/op=37\/op=38\/op=39:=by omega
  rcases this with rfl|rfl|rfl|rfl|rfl|rfl|rfl|rfl|rfl|rfl|rfl|rfl|rfl|rfl|rfl|rfl|rfl|rfl|rfl|rfl|rfl|rfl|rfl|rfl|rfl|rfl|rfl|rfl|rfl|rfl|rfl|rfl|rfl|rfl|rfl|rfl|rfl|rfl|rfl<;>(show(_:Option Int)=_;kernel_rfl)
 .have ha:ar op= -1:=by unfold ar;rw[ai (by omega),ai (by omega),ai (by omega),ai (by omega)]
  rw[ha]
  have ne:∀k:Int,1<=k->k<=39->decide (op=k)=ag:=λk h1 h2=>by simp;omega
  unfold M.gu;simp[ne]
def tw(op:Int):ar op<=3:=by grind [P.ar]
def rQ(env:kz.den):Prop:=env.2.2.2.1.length<=100/\∀t∈env.2.2.2.2.2,t.2.2.2.length<=9223372036854775807
def Fm(op m:Int):Prop:=0<=ar op/\(op=14\/op=15\/op=16->0<=m/\m<=5)/\(op=34->0<=m/\ajH m 8<=5)/\(op=6->0<=m)
def MS(N:Nat)(op:Int):Wp (M.kY N op) λ_=>True:=by
 unfold M.kY;simp only[bx,ai8];exact .some trivial
def JU(N:Nat)(op m:Int):Wp (M.kM N (op,m)) λb=>b=af->Fm op m:=by
 unfold M.kM;simp only[tH,ai8]
 refine Wp.seq (λj=>j=ag->0<=ar op) ?_ λj hj=>?_
 .refine Wp.dec (λ_=> .some λh=>by cases h) λh=>?_
  refine Wp.eC (λ_=>Wp.seq _ (MS ..) λy _=> .some λ_=>by omega) λ_=> .some λ_=>by omega
 .refine Wp.ite (λ_=> .some λh=>by cases h) λhc=>?_
  have ha:=hj (by simpa using hc);rw[Xg];simp only[ai8,bx,oz]
  refine .some λhb=>?_
  grind [P.Fm]
def Yf(op m:Int)(env:kz.den):Prop:=
 (op=7->0<=m/\m<env.2.1.length)/\(op=8->0<=m/\m<env.2.2.1.length)/\(op=33->0<=m/\m<env.2.2.2.2.2.length)/\(op=34->ai9.wrap (ajl m 8)<env.2.2.2.2.2.length)/\(op=36\/op=37\/op=38\/op=39->0<=m/\m<env.2.2.2.2.1.length)
def JV(N:Nat)(op m:Int)(env:kz.den):Wp (M.oj N (op,m) env) λb=>b=af->Yf op m env:=by
 unfold M.oj Yf;simp only
 refine Wp.dec (λh=>?_) λh7=>?_
 .subst h;simp only[bx,ai8,oz];exact .some (by grind)
 refine Wp.dec (λh=>?_) λh8=>?_
 .subst h
  refine Wp.seq (λj=>j=af->0<=m/\m<env.2.2.1.length) ?_ λj hj=> .some (by grind)
  refine Wp.dec (λh0=>Wp.dec (λh1=>Wp.bind (Wp.fM h0 h1 λx _ _=> .some λ_=>⟨h0,h1⟩)) λ_=> .some λh=>by cases h) λ_=> .some λh=>by cases h
 refine Wp.dec (λh=>?_) λh33=>?_
 .subst h;simp only[bx,ai8,oz];exact .some (by grind)
 refine Wp.dec (λh=>?_) λPe=>?_
 .subst h;exact .some (by grind)
 rw[Py];simp only[ai8]
 refine Wp.dec (λh=>?_) λh36=> .some (by grind)
 simp only[bx,ai8,oz];exact .some (by grind)
def MT{N:Nat}(l:List Vl)(hl:l.length<=100000)(hN:100001<=N):Wp (M.jd N l) λb=>b=af->∀v∈l,gE v.1 v.2.1 v.2.2:=by
 unfold M.jd;refine Wp.loop (λs:Int=>∃i:Nat,s=i/\i<=l.length/\∀v∈l.take i,gE v.1 v.2.1 v.2.2) (λs=>(l.length-s).toNat) ⟨0,rfl,ajB _,by simp⟩ (by omega) ?_
 rintro _ ⟨i,rfl,hi,hp⟩
 refine Wp.dec (λh=>?_) λh=> .some λ_=>?_
 .have qS:i<l.length:=by omega
  rw[aF qS];simp only[ai8,iH]
  refine Wp.eC (λ_=> .some λh=>by cases h) λhq=> .some ?_
  rw[aS (by omega)];refine⟨⟨i+1,rfl,qS,λv hv=>?_⟩,by grind⟩
  grind [List.take_succ_eq_append_getElem]
 grind
def DT(N:Nat)(a b:Vl):Wp (M.fo N a b) λ_=>True:=by
 unfold M.fo;simp only[bx,ai8];exact .some trivial
def Ts(N:Nat)(a b:Int):Wp (M.je N a b) λ_=>True:=by
 unfold M.je;simp only[qD,bx,ai8];exact .some trivial
def Pz(N:Nat)(op:Int)(a b:Vl):Wp (M.iq N op a b) λ_=>True:=by
 unfold M.iq M.fo;simp only[qD,bx,ai8];exact .some trivial
def Yg(op m:Int)(env:kz.den):Prop:=
 (op=34->∀t,idx env.2.2.2.2.2 (ai9.wrap (ajl m 8))=aa t->t.2.1=((3,0):Int×Int)/\t.2.2.1=((4,0):Int×Int))/\(op=36\/op=37\/op=38\/op=39->∀t,idx env.2.2.2.2.1 m=aa t->Xa op t)
def Gd{N:Nat}{op m:Int}{args:List Vl}{env:kz.den}(hx:Yf op m env)(ha:(args.length:Int)=ar op)(Pe:op=34->0<=ai9.wrap (ajl m 8)):Wp (M.nv N (op,m) args env) λb=>b=af->Yg op m env:=by
 obtain⟨x7,x8,QC,Wn,x36⟩:=hx;unfold M.nv Yg;dsimp only[aB,Row.den]
 have no:∀{b:Bool},¬op=34->¬(op=36\/op=37\/op=38\/op=39)->b=af->(op=34->∀t,idx env.2.2.2.2.2 (ai9.wrap (ajl m 8))=aa t->t.2.1=((3,0):Int×Int)/\t.2.2.1=((4,0):Int×Int))/\(op=36\/op=37\/op=38\/op=39->∀t,idx env.2.2.2.2.1 m=aa t->Xa op t):=λh1 h2 _=>⟨λe=>absurd e h1,λe=>absurd e h2⟩
 refine Wp.dec (λh=>?_) λh7=>?_
 .obtain⟨a,b⟩:=x7 h;exact Wp.bind (Wp.fM a b λx _ _=>by rw[iH];exact .some (no (by omega) (by omega)))
 refine Wp.dec (λh=>?_) λh8=>?_
 .obtain⟨a,b⟩:=x8 h;exact Wp.bind (Wp.fM a b λx _ _=>by rw[iH];exact .some (no (by omega) (by omega)))
 have ag1:1<=ar op->0<args.length:=λh=>by omega
 refine Wp.dec (λh=>?_) λh33=>?_
 .obtain⟨a,b⟩:=QC h
  have h1:ar op=1:=by rw[h];decide
  refine Wp.bind (Wp.fM a b λx _ _=>?_)
  refine Wp.seq (λ_=>True) ?_ λj _=> .some (no (by omega) (by omega))
  refine Wp.bind (Wp.fM (aj1 0) (by omega) λy _ _=>?_);rw[xB];simp only[ai8,bx];exact .some trivial
 refine Wp.dec (λh=>?_) λXh=>?_
 .have b:=Wn h
  have h1:ar op=1:=by rw[h];decide
  refine Wp.bind (Wp.fM (Pe h) b λx _ Xi=>?_)
  refine Wp.seq (λj=>j=af->x.2.1=((3,0):Int×Int)/\x.2.2.1=((4,0):Int×Int)) ?_ λj hj=> .some λhb=>⟨λ_ t ht=>?_,λe=>by omega⟩
  .refine Wp.bind (Wp.fM (aj1 0) (by omega) λy _ _=>?_);simp only[bx,oz]
   refine .some λhb=>?_
   simp only[akd,pT,az]at hb;exact⟨hb.2.1,hb.2.2⟩
  .rw[Xi]at ht;obtain rfl:=aja ht;exact hj hb
 rw[Py];simp only[ai8]
 refine Wp.dec (λh=>?_) λh36=>?_
 .obtain⟨a,b⟩:=x36 h;refine Wp.bind (Wp.fM a b λx _ Xi=>?_);rw[uJ]
  refine .some λhb=>⟨λe=>absurd e Xh,λ_ t ht=>?_⟩
  rw[Xi]at ht;obtain rfl:=aja ht;simpa using hb
 have Yh:∀b:Bool,b=af->_:=λb=>no (b:=b) Xh h36
 refine Wp.dec (λh=>?_) λ_=>?_
 .refine Wp.bind (Wp.fM (aj1 0) (by omega) λy _ _=>?_)
  exact Wp.seq _ (Ts ..) λb _=> .some (Yh b)
 refine Wp.dec (λh=>?_) λ_=>?_
 .refine Wp.bind (Wp.fM (aj1 0) (by omega) λy _ _=>?_);refine Wp.bind (Wp.fM (by omega) (by omega) λz _ _=>?_)
  exact Wp.seq _ (Pz ..) λb _=> .some (Yh b)
 refine Wp.dec (λh=>?_) λ_=> .some (Yh _)
 refine Wp.seq (λ_=>True) ?_ λb _=> .some (Yh b)
 refine Wp.bind (Wp.fM (aj1 0) (by omega) λy _ _=>?_)
 refine Wp.dec (λ_=>?_) λ_=> .some trivial
 refine Wp.bind (Wp.fM (by omega) (by omega) λz _ _=>?_);refine Wp.bind (Wp.fM (by omega) (by omega) λz' _ _=>?_)
 exact Wp.seq _ (DT ..) λb _=> .some trivial
def Ce(c:Int):Prop:=c=0\/c=3\/c=12\/c=6\/c=8
def Cd.e{c:Int}(h:Cd c):Ce c:=by unfold Cd at h;unfold Ce;omega
theorem DU{op:Int}{t:Ty}{j:Nat}:{ms:List (List Vl)}->{first:Bool}->{acc c:Int}->qE op t j ms first acc= .inr c->c=3\/c=6\/c=8
 |[],_,_,_,h=>by cases h
 |l::ms,first,acc,c,h=>by
  rw[qE]at h;split at h
  .grind
  .split at h
   .grind
   .split at h
    .split at h
     .exact DU h
     grind
    grind
def PA(op:Int)(t:Ty)(j:Nat)(ms:List (List Vl)):Ce (Pt op t j ms).2:=by
 grind [P.Pt,P.Ce,P.DU]
def lX(N:Nat)(b:Bool):Wp (M.eU N b) λ_=>True:=by
 unfold M.eU;simp only[bx];exact .some trivial
def MU(op:Int)(a:Vl):Wp (M.pH aU op a) λ_=>True:=by
 unfold M.pH
 refine Wp.dec (λ_=> .some trivial) λ_=>?_
 refine Wp.dec (λ_=>Wp.seq _ (lX ..) λ_ _=> .some trivial) λ_=>?_
 refine Wp.seq _ (tF ..) λy _=>?_
 simp only[bx];exact .some trivial
def Ge(N:Nat)(a b:Int):Wp (M.ny N a b) λr=>Cd r.2:=by
 unfold M.ny
 refine Wp.seq _ (tE ..) λr _=>?_
 simp only[bx,ai8];exact .some (BG (Cd3 _) (BG (KF _) (KF _)))
def JW{op m:Int}{a b:Vl}(hm:op=14\/op=15\/op=16->0<=m/\m<=5)(tf:13<=op/\op<=16):Wp (M.om aU (op,m) a b) λr=>Cd r.2:=by
 unfold M.om;dsimp only[aB,Row.den]
 refine Wp.seq (λj=>Cd j.1) ?_ λj hj=> .some hj
 refine Wp.dec (λ_=>Wp.seq _ (Ge ..) λr hr=> .some hr) λUi=>?_
 have RG:=hm (by omega);simp only[bx,ai8,oz]
 refine Wp.ite (λ_=>Wp.seq _ (JR RG) λr hr=> .some hr) λ_=>?_
 refine Wp.dec (λ_=>Wp.seq _ (Px RG) λr hr=> .some hr) λ_=>?_
 refine Wp.dec (λ_=>Wp.seq _ (Gb RG) λr hr=> .some hr) λ_=>?_
 refine Wp.dec (λ_=>Wp.seq _ (oA _ RG) λr hr=> .some hr) λ_=>?_
 exact Wp.seq _ (BH RG) λr hr=> .some hr
def JX{op m:Int}{a b:Vl}(hm:op=14\/op=15\/op=16->0<=m/\m<=5):Wp (M.oo aU (op,m) a b) λr=>Cd r.2:=by
 unfold M.oo;dsimp only[aB,Row.den];rw[Xf,Py,Xf];simp only[ai8]
 refine Wp.ite (λ_=> .some (KF 0)) λ_=>?_
 refine Wp.dec (λ_=> .some (KF 0)) λ_=>?_
 refine Wp.dec (λh=>Wp.seq _ (JW hm (by omega)) λr hr=> .some hr) λ_=>?_
 refine Wp.dec (λ_=>?_) λ_=>?_
 .simp only[bx];exact .some (by split<;>exact KF 0)
 refine Wp.dec (λ_=>Wp.seq _ (lX ..) λ_ _=> .some (KF 0)) λ_=>?_
 refine Wp.dec (λ_=>Wp.seq _ (lX ..) λ_ _=> .some (KF 0)) λ_=>?_
 refine Wp.dec (λ_=>Wp.seq _ (lX ..) λ_ _=> .some (KF 0)) λ_=>?_
 refine Wp.dec (λ_=>Wp.seq _ (lX ..) λ_ _=> .some (KF 0)) λ_=>?_
 refine Wp.dec (λ_=>Wp.seq (λj=>j.1=0) (Wp.dec (λ_=>Wp.seq _ (lX ..) λ_ _=> .some rfl) λ_=>Wp.seq _ (lX ..) λ_ _=> .some rfl) λj hj=> .some (.inl hj)) λ_=>?_
 refine Wp.dec (λ_=>Wp.seq (λj=>j.1=0) (Wp.dec (λ_=>Wp.seq _ (lX ..) λ_ _=> .some rfl) λ_=>Wp.seq _ (lX ..) λ_ _=> .some rfl) λj hj=> .some (.inl hj)) λ_=>?_
 refine Wp.dec (λ_=>Wp.seq _ (tG ..) λr hr=> .some hr) λ_=>?_
 refine Wp.dec (λ_=> .some (KF 0)) λ_=>?_
 exact Wp.seq _ (vJ ..) λr _=> .some (KF 0)
def Gf{op m:Int}{args:List Vl}{env:kz.den}(he:rQ env)(hf:Fm op m)(hx:Yf op m env)(ha:(args.length:Int)=ar op)(haw:Yg op m env)(Pe:op=34->0<=ai9.wrap (ajl m 8)):Wp (M.nz aU (op,m) args env) λr=>Ce r.2:=by
 obtain⟨x7,x8,QC,Wn,x36⟩:=hx;obtain⟨f0,f14,f34,_⟩:=hf;obtain⟨w34,w36⟩:=haw;have NR:Ce 0:= .inl rfl;unfold M.nz;dsimp only[aB,Row.den];rw[abY,Py];simp only[ai8]
 refine Wp.dec (λ_=> .some NR) λ_=>?_
 refine Wp.dec (λ_=> .some NR) λ_=>?_
 refine Wp.dec (λh=>Wp.bind (Wp.fM (x7 h).1 (x7 h).2 λx _ _=> .some NR)) λ_=>?_
 refine Wp.dec (λh=>Wp.bind (Wp.fM (x8 h).1 (x8 h).2 λx _ _=> .some NR)) λ_=>?_
 refine Wp.dec (λ_=> .some NR) λ_=>?_
 refine Wp.dec (λ_=> .some NR) λ_=>?_
 refine Wp.dec (λh=>?_) λ_=>?_
 .obtain⟨a,b⟩:=x36 h
  obtain⟨j,rfl⟩:∃j:Nat,m=j:=⟨m.toNat,by omega⟩
  have hj:j<env.2.2.2.2.1.length:=by omega
  rw[xD (by unfold aU;omega) h hj he.1 (w36 h _ (aF hj))];exact .some (PA ..)
 refine Wp.dec (λh=>?_) λ_=>?_
 .have h1:ar op=1:=by rw[h];decide
  refine Wp.bind (Wp.fM (QC h).1 (QC h).2 λx hx _=>?_);refine Wp.bind (Wp.fM (aj1 0) (by omega) λy _ _=>?_)
  refine Wp.seq _ (JT _ _ _ (he.2 x hx)) λr hr=>?_
  refine Wp.ite (λ_=> .some (by unfold Ce;omega)) λhc=>?_
  obtain⟨a,b⟩:=hr (by simpa using hc);exact Wp.bind (Wp.fM a b λz _ _=> .some NR)
 refine Wp.dec (λh=>?_) λ_=>?_
 .have h1:ar op=1:=by rw[h];decide
  refine Wp.bind (Wp.fM (Pe h) (Wn h) λx hx Xi=>?_);refine Wp.bind (Wp.fM (aj1 0) (by omega) λy _ _=>?_);obtain⟨k1,k2⟩:=w34 h x Xi;obtain⟨m1,m2⟩:=f34 h
  have:0<=ajH m 8:=by rw[Int.tmod_eq_emod_of_nonneg m1];omega
  exact Wp.seq _ (DS ⟨this,m2⟩ k1 k2 (he.2 x hx)) λr hr=> .some hr.e
 refine Wp.dec (λh=>?_) λ_=>?_
 .refine Wp.bind (Wp.fM (aj1 0) (by omega) λy _ _=>?_)
  exact Wp.seq _ (MU ..) λr _=> .some NR
 refine Wp.dec (λh=>?_) λ_=>?_
 .refine Wp.bind (Wp.fM (aj1 0) (by omega) λy _ _=>?_);refine Wp.bind (Wp.fM (by omega) (by omega) λz _ _=>?_)
  exact Wp.seq _ (JX f14) λr hr=> .some hr.e
 have h3:ar op=3:=by
  have:¬ar op=0:=by unfold ar;split<;>(try split)<;>(try split)<;>(try split)<;>omega
  have:=tw op;omega
 refine Wp.bind (Wp.fM (aj1 0) (by omega) λy _ _=>?_)
 refine Wp.dec (λ_=>Wp.bind (Wp.fM (by omega) (by omega) λz _ _=> .some NR)) λ_=>Wp.bind (Wp.fM (by omega) (by omega) λz _ _=> .some NR)
structure Xj(r:Vl×Int):Prop where
 ok:r.2=0->gE r.1.1 r.1.2.1 r.1.2.2
 bad:r.2≠0->r.1=((0,0,0):Int×Int×Int)
 code:r.2=0\/r.2=2\/r.2=3\/r.2=6\/r.2=8\/r.2=12
def MV{n:Ty}{args:List Vl}{env:kz.den}(he:rQ env)(hn:WF aD n)(hl:args.length<=100000):Wp (M.k8 aU n args env) Xj:=by
 obtain⟨op,m⟩:=n;have hm:=hn.2;unfold M.k8
 have err:∀c:Int,c≠0->(c=2\/c=3\/c=6\/c=8\/c=12)->Xj (((0:Int),((0:Int),(0:Int))),c):=λc h1 h2=>⟨λh=>absurd h h1,λ_=>rfl, .inr h2⟩
 refine Wp.seq (λj=>j=ag->Fm op m/\(args.length:Int)=ar op) ?_ λj hj=>?_
 .refine Wp.seq _ (JU ..) λy hy=>?_
  refine Wp.ite (λ_=> .some λh=>by cases h) λhc=>?_
  rw[tH];exact .some (by grind)
 refine Wp.ite (λ_=> .some (err 2 (by decide) (by omega))) λhc=>?_
 obtain⟨hf,ha⟩:=hj (by simpa using hc)
 refine Wp.seq _ (JV ..) λy hy=>?_
 refine Wp.ite (λ_=> .some (err 6 (by decide) (by omega))) λyc=>?_
 have hx:=hy (by simpa using yc)
 have Pe:op=34->0<=ai9.wrap (ajl m 8):=λe=>by
  have h0:=(hf.2.2.1 e).1;have h1:(m:Int)<=9223372036854775807:=hm.2;rw[Int.tdiv_eq_ediv_of_nonneg h0];dsimp only[aB,Row.den]at h0 h1⊢
  grind [aW]
 refine Wp.seq (λj=>j=ag->Yg op m env) ?_ λj5 hj5=>?_
 .refine Wp.seq _ (MT _ hl (by unfold aU;omega)) λy _=>?_
  refine Wp.ite (λ_=> .some λh=>by cases h) λ_=>?_
  exact Wp.seq _ (Gd hx ha Pe) λz hz=> .some λh=>hz (by simpa using h)
 refine Wp.ite (λ_=> .some (err 8 (by decide) (by omega))) λOe=>?_
 have haw:=hj5 (by simpa using Oe)
 refine Wp.seq _ (Gf he hf hx ha haw Pe) λr hr=>?_
 refine Wp.eC (λh=> .some (err _ h (by unfold Ce at hr;omega))) λ_=>?_
 rw[iH];simp only[ai8]
 refine Wp.eC (λ_=> .some (err 3 (by decide) (by omega))) λhp=> .some ⟨λ_=>hp,λh=>absurd rfl h, .inl rfl⟩
end L.P
namespace L.P
abbrev fc(l:List Nat):List Int:=l.map (λn:Nat=>(n:Int))
def vX(a:Int)(i:Nat)(sk:List Nat):Nat:=if a=0 then i else sk.getD (sk.length-a.toNat) 0
def ld:List Ty->Nat->List Nat->List Nat->(Nat×Int)⊕(List Nat×List Nat)
 |[],_,st,sk=> .inr (st,sk)
 |n::e,i,st,sk=>
  if ar n.1<0 then .inl (i,2)else if(sk.length:Int)<ar n.1 then .inl (i,5)else
  if 12<sk.length-(ar n.1).toNat+1 then .inl (i,16)else ld e (i+1) (st++[vX (ar n.1) i sk]) (sk.take (sk.length-(ar n.1).toNat)++[vX (ar n.1) i sk])
def rB(e:List Ty):Int×Int×List Int:=
 if 48<e.length then(0,4,[])else if e.length=0 then(0,5,[])else match ld e 0 [] []with
  | .inl (i,c)=>(i,c,[])
  | .inr (st,sk)=>if 1<sk.length then(e.length,4,[])else(0,0,fc st)
def Bw(st:List Nat)(m:Nat)(v:Nat):b8 (fc st++aji (m+1) (0:Int)) (st.length:Int) (v:Int)=fc (st++[v])++aji m (0:Int):=by
 grind [b8]
def uH(st:List Nat)(m:Nat)(u v:Nat):b8 (fc (st++[u])++aji m (0:Int)) (st.length:Int) (v:Int)=fc (st++[v])++aji m (0:Int):=by
 unfold b8
 simp_all
def tI(e:List Ty):M.fB aU e=aa (rB e):=by
 apply Wp.eq;unfold M.fB rB
 refine Wp.dec (λh=> .some ?_) λh1=>?_
 .grind
 rw[ai (show¬48<e.length by omega)]
 refine Wp.dec (λh=> .some ?_) λh2=>?_
 .grind
 rw[ai (show¬e.length=0 by omega)]
 have ON:p6 (e.length:Int) (0:Int)=aa (aji e.length 0):=by
  unfold p6;rw[aj (by omega),ajg]
 rw[ON];simp only[ai8];refine Wp.join (Wp.loop (λs:Int×List Int×List Int=>∃st sk:List Nat,s=((st.length:Int),fc st++aji (e.length-st.length) 0,fc sk)/\st.length<=e.length/\sk.length<=12/\ld (e.drop st.length) st.length st sk=ld e 0 [] []) (λs=>(e.length-s.1).toNat) ⟨[],[],by simp,by simp,by simp,by simp⟩ (by simp only;unfold aU;omega) ?_)
 rintro _ ⟨st,sk,rfl,gD,hsk,bJ⟩
 simp only
 refine Wp.dec (λhk=>?_) λhk=> .some ?_
 case refine_2=>
  have hd:e.drop st.length=[]:=ajX (by omega);rw[hd]at bJ;rw[<-bJ]
  have h0:e.length-st.length=0:=by omega
  rw[h0];simp only[ld,List.replicate_zero,ajS]
  show Wp _ _
  refine Wp.dec (λh=> .some ?_) λh=> .some ?_
  all_goals grind
 have iU:st.length<e.length:=by omega
 have hd:e.drop st.length=e[st.length]::e.drop (st.length+1):=ajx iU
 obtain⟨m,hm⟩:∃m,e.length-st.length=m+1:=⟨e.length-st.length-1,by omega⟩
 rw[hd]at bJ;rw[aF iU,hm];simp only[ai8,tH];generalize tf:(e[st.length].1:Int)=op;rw[ld]at bJ;rw[tf]at bJ;have Ya:=tw op
 refine Wp.dec (λh=> .some ?_) λMI=>?_
 .rw[aj h]at bJ
  show _=_
  rw[<-bJ]
 rw[ai MI]at bJ
 refine Wp.dec (λh=> .some ?_) λhlen=>?_
 .rw[aj (by simpa using h)]at bJ
  show _=_
  rw[<-bJ]
 have hlen:¬(sk.length:Int)<ar op:=by simpa using hlen
 rw[ai hlen]at bJ
 obtain⟨a,ha⟩:∃a:Nat,ar op=a:=⟨(ar op).toNat,by omega⟩
 rw[ha]at bJ MI hlen Ya⊢
 have abL:a<=sk.length:=by omega
 have e6:idx (fc st++aji (m+1) (0:Int)) (st.length:Int)=aa 0:=by
  rw[aF (by simp)];rw[ajU (by simp)];simp
 rw[e6]
 have hw:ai9.wrap (((fc sk).length:Int)-(a:Int))=((sk.length-a:Nat):Int):=by
  rw[List.length_map,aW (by omega) (by omega)];omega
 have hs:vX (a:Int) st.length sk=(if a=0 then st.length else sk.getD (sk.length-a) 0):=by
  unfold vX;by_cases h0:a=0
  .subst h0;simp
  .grind
 simp only[ai8,Bw,hw];refine Wp.seq (· =fc (st++[vX (a:Int) st.length sk])++aji m (0:Int)) ?_ ?_
 .refine Wp.dec (λh=>?_) λh=>?_
  .have aG:sk.length-a<(fc sk).length:=by simp;omega
   rw[aF aG]
   have e9:idx (fc (st++[st.length])++aji m (0:Int)) (st.length:Int)=aa (st.length:Int):=by
    rw[aF (by simp)];rw[ajM (by simp)];simp
   simp only[ai8,e9,List.getElem_map,uH];refine .some ?_
   grind
  .refine .some ?_
   grind
 .rintro _ rfl
  generalize vX (a:Int) st.length sk=s at bJ⊢
  have EE:gq (fc sk) (0:Int) ((sk.length-a:Nat):Int)=aa (fc (sk.take (sk.length-a))):=by
   rw[rp (by simp)];simp
  have e11:idx (fc (st++[s])++aji m (0:Int)) (st.length:Int)=aa (s:Int):=by
   rw[aF (by simp)];rw[ajM (by simp)];simp
  have Tb:cu (fc (sk.take (sk.length-a))) [(s:Int)]=aa (fc (sk.take (sk.length-a)++[s])):=by
   rw[fU (by simp;omega)];simp
  rw[EE];simp only[ai8,e11,Tb]
  have hl:(fc (sk.take (sk.length-a)++[s])).length=sk.length-a+1:=by simp
  rw[hl];rw[ajg]at bJ
  refine Wp.dec (λh=> .some ?_) λh=> .some ?_
  .rw[aj (by omega)]at bJ
   show _=_
   rw[<-bJ]
  .rw[ai (by omega)]at bJ;rw[aS (by omega)];refine⟨⟨st++[s],sk.take (sk.length-a)++[s],?_,by simp;omega,by simp;omega,?_⟩,by grind⟩
   all_goals grind
inductive Ch(st:List Nat):Nat->List Nat->Prop
 |nil:Ch st 0 []
 |snoc {i s:Nat} {l:List Nat} (h:st[i]? =aa s) (hs:s<=i) (c:Ch st s l):Ch st (i+1) (l++[s])
def Ch.mono{st dD:List Nat}(hs:∀i s:Nat,st[i]? =aa s->dD[i]? =aa s){i:Nat}{l:List Nat}(h:Ch st i l):Ch dD i l:=by
 induction h with
 |nil=>exact .nil
 |snoc h1 h2 _ ih=>exact .snoc (hs _ _ h1) h2 ih
def tJ{st:List Nat}{x i s:Nat}(h:st[i]? =aa s):(st++[x])[i]? =aa s:=by
 grind
def Ch.lt{st:List Nat}{i:Nat}{l:List Nat}(h:Ch st i l):∀x∈l,x<i:=by
 induction h<;>grind
def Ch.take{st:List Nat}{i:Nat}{l:List Nat}(h:Ch st i l):∀m(hm:m<l.length),Ch st l[m] (l.take m):=by
 induction h<;>grind
def Ch.Tt{st:List Nat}{i:Nat}{l l':List Nat}(h:Ch st i l)(h':Ch st i l'):l=l':=by
 induction h generalizing l' with
 |nil=>cases h'<;>grind
 | @snoc i s l h1 h2 c ih=>
   cases h'<;>grind
structure tK(e:List Ty)(st:List Nat):Prop where
 len:st.length=e.length
 node:∀p(h:p<e.length),0<=ar e[p].1/\∃l,Ch st p l/\(ar e[p].1).toNat<=l.length/\l.length-(ar e[p].1).toNat+1<=12/\st[p]? =aa (vX (ar e[p].1) p l)
def tK.nil:tK [] []:=⟨rfl,λp h=>by simp at h⟩
def tK.snoc{e:List Ty}{st:List Nat}(v:tK e st){n:Ty}{sk:List Nat}(h0:0<=ar n.1)(hc:Ch st e.length sk)(ha:(ar n.1).toNat<=sk.length)(hd:sk.length-(ar n.1).toNat+1<=12):tK (e++[n]) (st++[vX (ar n.1) e.length sk]):=by
 refine⟨by simp[v.len],λp hp=>?_⟩;by_cases h:p<e.length
 .rw[ajM h];obtain⟨h1,l,h2,h3,h4,h5⟩:=v.node p h;exact⟨h1,l,h2.mono λ_ _ h=>tJ h,h3,h4,tJ h5⟩
 .have:p=e.length:=by simp at hp;omega
  subst this;rw[ajU (by omega)];simp only[Nat.sub_self,List.getElem_cons_zero];refine⟨h0,sk,hc.mono λ_ _ h=>tJ h,ha,hd,?_⟩
  grind [P.tK.len]
def Tu{a:Int}{i:Nat}{st l:List Nat}(h0:0<=a)(hc:Ch st i l)(ha:a.toNat<=l.length):vX a i l<=i:=by
 unfold vX;split
 .grind
 .have aG:l.length-a.toNat<l.length:=by omega
  simp only[List.getD,ajb aG,Option.getD_some];exact akD (hc.lt _ (aje aG))
def Ch.next{st l:List Nat}{i:Nat}{a:Int}(h0:0<=a)(hc:Ch st i l)(ha:a.toNat<=l.length)(hs:st[i]? =aa (vX a i l)):Ch st (i+1) (l.take (l.length-a.toNat)++[vX a i l]):=by
 refine .snoc hs (Tu h0 hc ha) ?_;unfold vX;by_cases h:a=0
 .simp_all
 .have aG:l.length-a.toNat<l.length:=by omega
  rw[ai h];simp only[List.getD,ajb aG,Option.getD_some];exact hc.take _ aG
def DV:∀(NS pre:List Ty)(st sk dD NN:List Nat),tK pre st->Ch st pre.length sk->ld NS pre.length st sk= .inr (dD,NN)->tK (pre++NS) dD/\Ch dD (pre++NS).length NN
 |[],pre,st,sk,dD,NN,v,c,h=>by
  grind [P.ld]
 |n::NS,pre,st,sk,dD,NN,v,c,h=>by
  rw[ld]at h;split at h
  .cases h
  split at h
  .cases h
  split at h
  .cases h
  rename_i h1 h2 h3
  have h0:0<=ar n.1:=by omega
  have ha:(ar n.1).toNat<=sk.length:=by omega
  have v':=v.snoc h0 c ha (by omega)
  have c1:Ch (st++[vX (ar n.1) pre.length sk]) pre.length sk:=c.mono λ_ _ h=>tJ h
  have hs:(st++[vX (ar n.1) pre.length sk])[pre.length]? =aa (vX (ar n.1) pre.length sk):=by
   rw[<-v.len,List.getElem?_append_right (by omega)];simp[v.len]
  have c':=c1.next h0 ha hs;have:=DV NS (pre++[n]) _ _ dD NN v' (by simpa using c') (by simpa using h)
  grind
def DW{e:List Ty}{st:List Nat}(v:tK e st):∀(NS pre:List Ty)(sk:List Nat),pre++NS=e->Ch st pre.length sk->∃NN,ld NS pre.length (st.take pre.length) sk= .inr (st,NN)/\Ch st e.length NN
 |[],pre,sk,he,c=>by
  rw[ajS]at he;subst he;exact⟨sk,by rw[ld,<-v.len,ajn],c⟩
 |n::NS,pre,sk,he,c=>by
  subst he;obtain⟨h0,l,h1,h2,h3,h4⟩:=v.node pre.length (by simp);rw[ajU (by omega)]at h0 h2 h3 h4;simp only[Nat.sub_self,List.getElem_cons_zero]at h0 h2 h3 h4;obtain rfl:=h1.Tt c;rw[ld,ai (by omega),ai (by omega),ai (by omega)];have c':=c.next h0 h2 h4;obtain⟨NN,g1,g2⟩:=DW v NS (pre++[n]) _ (by simp) (by simpa using c')
  grind [List.take_succ_eq_append_getElem]
end L.P
namespace L.P
def opsL(st:List Nat):Nat->Nat->List Nat
 |0,_=>[]
 |a+1,i=>opsL st a (st.getD (i-1) 0)++[i-1]
def DX(st:List Nat):∀a i,(opsL st a i).length=a
 |0,_=>rfl
 |a+1,i=>by simp[opsL,DX st a]
def Tv{st l:List Nat}{i:Nat}(c:Ch st i l):∀a,a<=l.length->(∀o∈opsL st a i,o<i/\(if h:l.length-a<l.length then l[l.length-a]else i)<=o/\∃s,st[o]? =aa s/\s<=o/\(if h:l.length-a<l.length then l[l.length-a]else i)<=s):=by
 induction c with
 |nil=>intro a ha o ho;simp at ha;subst ha;simp[opsL]at ho
 | @snoc i s l h1 h2 c ih=>
   intro a ha o ho
   cases a with
   |zero=>simp[opsL]at ho
   |succ a=>
    have aG:(l++[s]).length-(a+1)<(l++[s]).length:=by simp;omega
    rw[dif_pos aG]
    have e1:(l++[s])[(l++[s]).length-(a+1)]=(if h:l.length-a<l.length then l[l.length-a]else s):=by
     split
     .grind
     .grind
    rw[e1]
    have hg:st.getD (i+1-1) 0=s:=by simp[List.getD,h1]
    rw[opsL,hg]at ho;simp at ha
    have hle:(if h:l.length-a<l.length then l[l.length-a]else s)<=s:=by
     split
     .rename_i h;exact akD (c.lt _ (aje h))
     .exact ajh _
    grind
def tK.ops{e:List Ty}{st:List Nat}(v:tK e st){p:Nat}(h:p<e.length):∀o∈opsL st (ar e[p].1).toNat p,o<p/\∃s t,st[o]? =aa s/\s<=o/\st[p]? =aa t/\t<=s:=by
 obtain⟨h0,l,h1,h2,_,h4⟩:=v.node p h;intro o ho;obtain⟨g1,g2,s,g3,g4,g5⟩:=Tv h1 _ h2 o ho;refine⟨g1,s,_,g3,g4,h4,?_⟩
 grind [P.vX]
def z3:Vl:=((0,0,0):Int×Int×Int)
def nj(g:Nat->Vl×Int):List Nat->List Vl⊕Int
 |[]=> .inl []
 |o::os=>if(g o).2=0 then(match nj g os with
  | .inl vs=> .inl ((g o).1::vs)
  | .inr c=> .inr c)else .inr (g o).2
def tL(r:Vl×Int):Vl×Int:=if r.2≠0 then(z3,r.2)else if(r.1.1:Int)=1/\gE r.1.1 r.1.2.1 r.1.2.2 then(r.1,0)else(z3,8)
def QP(g:Nat->Vl×Int)(n:Ty)(ops:List Nat):Vl×Int:=
 if(n.2:Int)≠0 then(z3,2)else
 if(tL (g (ops.getD 0 0))).2≠0 then(z3,(tL (g (ops.getD 0 0))).2)else
 if(n.1:Int)=26/\((tL (g (ops.getD 0 0))).1.2.2:Int)=1 then g (ops.getD 1 0)else
 if(n.1:Int)=26 then g (ops.getD 2 0)else
 if((n.1:Int)=23)=(((tL (g (ops.getD 0 0))).1.2.2:Int)=0)then((tL (g (ops.getD 0 0))).1,0)else tL (g (ops.getD 1 0))
def uL(op:Int):Prop:=op=23\/op=24\/op=26
instance(op:Int):Decidable (uL op):=by unfold uL;infer_instance
noncomputable def qG(ap:Ty->List Vl->Vl×Int)(e:List Ty)(st:List Nat):Nat->Nat->Vl×Int
 |0,_=>(z3,0)
 |f+1,i=>if uL (e.getD i ((0,0):Int×Int)).1 then QP (qG ap e st f) (e.getD i ((0,0):Int×Int)) (opsL st (ar (e.getD i ((0,0):Int×Int)).1).toNat i)
  else match nj (qG ap e st f) (opsL st (ar (e.getD i ((0,0):Int×Int)).1).toNat i)with
   | .inl vs=>ap (e.getD i ((0,0):Int×Int)) vs
   | .inr c=>(z3,c)
def DY{e:List Ty}{st:List Nat}(v:tK e st)(hl:e.length<=100000)(env:kz.den){i:Nat}(hi:i<e.length):M.eP aU (e,(fc st,env)) (i:Int)=aa (fc (opsL st (ar e[i].1).toNat i)):=by
 apply Wp.eq;obtain⟨h0,l,hc,ha,hd,_⟩:=v.node i hi;unfold M.eP;simp only;rw[aF hi];simp only[ai8,tH]
 obtain⟨a,hea⟩:∃a:Nat,ar e[i].1=a:=⟨(ar e[i].1).toNat,by omega⟩
 have hle:=tw e[i].1;rw[hea]at ha hle⊢;rw[ajg]at ha⊢
 have ON:p6 (a:Int) (0:Int)=aa (aji a 0):=by
  unfold p6;rw[aj (by omega),ajg]
 rw[ON];simp only[ai8,List.length_replicate];refine Wp.loop (λs:Int×Int×List Int=>∃b p:Nat,∃dn l':List Nat,s=((p:Int)-1,(b:Int)-1,aji b (0:Int)++fc dn)/\b<=a/\p<=i/\opsL st a i=opsL st b p++dn/\Ch st p l'/\b<=l'.length) (λs=>(s.2.1+1).toNat) ⟨a,i,[],l,?_,ajh _,ajh _,by simp,hc,ha⟩ ?_ ?_
 .rw[aW (by omega) (by omega),aW (by omega) (by omega)];simp
 .simp only;rw[aW (n:=(a:Int)-1) (by omega) (by omega)];unfold aU;omega
 .rintro _ ⟨b,p,dn,l',rfl,h1,h2,h3,h4,h5⟩
  simp only
  refine Wp.dec (λhb=>?_) λhb=> .some ?_
  .obtain⟨b,rfl⟩:∃m,b=m+1:=⟨b-1,by omega⟩
   cases h4 with
   |nil=>simp at h5
   | @snoc p u l' g1 g2 c=>
     simp at h5;have hp:p<st.length:=(ajr.1 g1).1
     have e5:idx (aji (b+1) (0:Int)++fc dn) (((b+1:Nat):Int)-1)=aa 0:=by
      rw[show((b+1:Nat):Int)-1=(b:Int) by omega,aF (by simp;omega),ajM (by simp)];simp
     have e6:idx (fc st) (((p+1:Nat):Int)-1)=aa (u:Int):=by
      rw[show((p+1:Nat):Int)-1=(p:Int) by omega,aF (by simpa using hp)];have:=(ajr.1 g1).2;simp[this]
     rw[e5,e6];simp only[ai8];rw[aW (n:=(u:Int)-1) (by omega) (by omega),aW (n:=(((b+1:Nat):Int)-1)-1) (by omega) (by omega)];refine .some ⟨⟨b,u,p::dn,l',?_,by omega,by omega,?_,c,h5⟩,by simp only;omega⟩
     .have e7:b8 (aji (b+1) (0:Int)++fc dn) (((b+1:Nat):Int)-1) (((p+1:Nat):Int)-1)=aji b (0:Int)++fc (p::dn):=by
       unfold b8;rw[show(((b+1:Nat):Int)-1).toNat=b by omega,show((p+1:Nat):Int)-1=(p:Int) by omega,List.replicate_succ',List.append_assoc,List.set_append_right _ _ (by simp)];simp
      rw[e7];simp only[Prod.mk.injEq,and_true,true_and];omega
     .rw[h3,opsL]
      have:st.getD (p+1-1) 0=u:=by simp[List.getD,g1]
      rw[this];simp
  .obtain rfl:b=0:=by omega
   show _=_
   rw[h3];simp[opsL]
noncomputable def NT(env:kz.den)(n:Ty)(args:List Vl):Vl×Int:=(M.k8 aU n args env).getD (z3,0)
def Xk{env:kz.den}(he:rQ env){n:Ty}(hn:WF aD n){args:List Vl}(hl:args.length<=100000):M.k8 aU n args env=aa (NT env n args):=by
 obtain⟨r,hr,_⟩:=MV (n:=n) (args:=args) he hn hl;unfold NT;rw[hr];rfl
def xG{N:Nat}{x:bP.den}{o:Int}{r:Vl×Int}(h:M.b7 aU N x o=aa r):M.dp aU (N+1) x o=aa (tL r):=by
 unfold M.dp tL;rw[h];simp only[ai8,iH];by_cases h0:r.2=0
 .by_cases h1:(r.1.1:Int)=1
  .by_cases h2:gE r.1.1 r.1.2.1 r.1.2.2
   .rw[h1]at h2;simp[h0,h1,h2]
   .rw[h1]at h2;simp[h0,h1,h2,z3]
  .simp[h0,h1,z3]
 .simp[h0,z3]
def qH{g:Nat->Vl×Int}:∀(os:List Nat)(k:Nat),k<=os.length->∀vs,nj g (os.take k)= .inl vs->nj g os=(match nj g (os.drop k)with
 | .inl ws=> .inl (vs++ws)
 | .inr c=> .inr c)
 |os,0,_,vs,h=>by
  grind [P.nj]
 |[],k+1,h,_,_=>by simp at h
 |o::os,k+1,hk,vs,h=>by
  rw[List.take_succ_cons,nj]at h;split at h
  .rename_i h0
   cases hq:nj g (os.take k)with
   |inr c=>rw[hq]at h;cases h
   |inl ws=>
    rw[hq]at h;cases h;have:=qH os k (by simpa using hk) ws hq;rw[nj,aj h0,this,List.drop_succ_cons]
    cases nj g (os.drop k)<;>rfl
  .cases h
def PB{e:List Ty}{st:List Nat}(v:tK e st)(hl:e.length<=100000){env:kz.den}(he:rQ env)(hw:∀n∈e,WF aD n):∀(f N i:Nat),i<f->i<e.length->3*f<=N->M.b7 aU N (e,(fc st,env)) (i:Int)=aa (qG (NT env) e st f i):=by
 intro f
 induction f with
 |zero=>intro N i h;omega
 |succ f ih=>
  intro N i hif hi hN
  obtain⟨N,rfl⟩:∃m,N=m+3:=⟨N-3,by omega⟩
  have ab1:=v.ops hi
  have hge:e.getD i ((0,0):Int×Int)=e[i]:=by simp[List.getD,hi]
  have hlen:=DX st (ar e[i].1).toNat i;have Ya:=tw e[i].1
  have DZ:∀M',3*f<=M'->∀o∈opsL st (ar e[i].1).toNat i,M.b7 aU M' (e,(fc st,env)) (o:Int)=aa (qG (NT env) e st f o):=by
   intro M' hM' o ho;obtain⟨g1,_⟩:=ab1 o ho;exact ih M' o (by omega) (by omega) hM'
  unfold qG M.b7;rw[hge,DY v hl env hi];simp only;rw[aF hi];simp only[ai8];rw[Xg];simp only[ai8];have hwf:=hw e[i] (aje hi);generalize ag8:opsL st (ar e[i].1).toNat i=ops at*;by_cases hz:uL e[i].1
  .rw[aj hz,aj (by simpa[uL]using hz)]
   have ha2:2<=ops.length/\((e[i].1:Int)=26->3<=ops.length):=by
    have:2<=ar e[i].1/\((e[i].1:Int)=26->ar e[i].1=3):=by
     revert hz;generalize(e[i].1:Int)=op;intro hz
     rcases hz with rfl|rfl|rfl<;>decide
    refine⟨by omega,λh=>?_⟩;have:=this.2 h;omega
   have gd:∀k(hk:k<ops.length),idx (fc ops) (k:Int)=aa ((ops.getD k 0:Nat):Int)/\ops.getD k 0∈ops:=by
    intro k hk
    have:ops.getD k 0=ops[k]:=by simp[List.getD,hk]
    rw[this];refine⟨?_,aje hk⟩;rw[aF (by simpa using hk)];simp
   obtain⟨i0,m0⟩:=gd 0 (by omega);obtain⟨i1,m1⟩:=gd 1 (by omega);unfold M.iZ;rw[show((0:Nat):Int)=0 from rfl]at i0;rw[show((1:Nat):Int)=1 from rfl]at i1;rw[i0,i1];simp only[ai8];rw[xG (DZ N (by omega) _ m0),xG (DZ N (by omega) _ m1),DZ (N+1) (by omega) _ m1];simp only[ai8,bx,oz];unfold QP;generalize hb:tL (qG (NT env) e st f (ops.getD 0 0))=b;by_cases h2:(e[i].2:Int)=0
   .rw[ai (by simp[h2])];by_cases QJ:b.2=0
    .rw[ai (by simp[QJ])];by_cases Dn:(e[i].1:Int)=26
     .obtain⟨i2,m2⟩:=gd 2 (by have:=ha2.2 Dn;omega);rw[show((2:Nat):Int)=2 from rfl]at i2;rw[i2];simp only[ai8];rw[DZ (N+1) (by omega) _ m2];by_cases hn:(b.1.2.2:Int)=1
      .simp[h2,QJ,Dn,hn]
      .simp[h2,QJ,Dn,hn]
     .by_cases OW:(e[i].1:Int)=23<;>by_cases hn:(b.1.2.2:Int)=0<;>simp[h2,QJ,Dn,OW,hn]
    .simp[h2,QJ,z3]
   .simp[h2,z3]
  .rw[ai hz,ai (by simpa[uL]using hz)]
   have ON:p6 ((fc ops).length:Int) ((0:Int),((0:Int),(0:Int)))=aa (aji ops.length z3):=by
    unfold p6;rw[aj (by simp;omega)];simp[z3]
   rw[ON];simp only[ai8];apply Wp.eq;refine Wp.join (Wp.loop (λs:Int×List Vl=>∃vs:List Vl,s=((vs.length:Int),vs++aji (ops.length-vs.length) z3)/\vs.length<=ops.length/\nj (qG (NT env) e st f) (ops.take vs.length)= .inl vs) (λs=>(ops.length-s.1).toNat) ⟨[],by simp,by simp,by simp[nj]⟩ (by simp only;unfold aU;omega) ?_)
   rintro _ ⟨vs,rfl,YC,hva⟩
   simp only;have tT:=qH ops vs.length YC vs hva
   refine Wp.dec (λhk=>?_) λhk=> .some ?_
   .have iU:vs.length<ops.length:=by simp at hk;omega
    have ab2:vs.length<(fc ops).length:=by simpa using iU
    rw[aF ab2];simp only[ai8,List.getElem_map];rw[DZ (N+2) (by omega) _ (aje iU)];simp only[ai8];have hd:ops.drop vs.length=ops[vs.length]::ops.drop (vs.length+1):=ajx iU;rw[hd,nj]at tT;have ht:ops.take (vs.length+1)=ops.take vs.length++[ops[vs.length]]:=List.take_succ_eq_append_getElem iU
    obtain⟨r,hr⟩:∃r,qG (NT env) e st f ops[vs.length]=r:=⟨_,rfl⟩
    rw[hr]at tT⊢;by_cases h0:r.2=0
    .rw[ai (by simp[h0])]
     obtain⟨m,hm⟩:∃m,ops.length-vs.length=m+1:=⟨ops.length-vs.length-1,by omega⟩
     rw[hm]
     have e8:idx (vs++aji (m+1) z3) (vs.length:Int)=aa z3:=by
      rw[aF (by simp),ajU (by omega)];simp
     have e9:b8 (vs++aji (m+1) z3) (vs.length:Int) r.1=(vs++[r.1])++aji m z3:=by
      unfold b8;rw[ajg,List.set_append_right _ _ (by omega),List.replicate_succ];simp
     rw[e8];simp only[ai8,e9];rw[aS (by omega)]
     have l4:nj (qG (NT env) e st f) [ops[vs.length]]= .inl [r.1]:=by
      simp only[nj,hr];rw[aj h0]
     have Rg:=qH (g:=qG (NT env) e st f) (ops.take (vs.length+1)) vs.length (by simp;omega) vs (by rw[List.take_take,akp (by omega)];exact hva);rw[ht,List.drop_append_of_le_length (by simp;omega),ajX (by simp;omega),ajC,l4]at Rg;refine .some ⟨⟨vs++[r.1],?_,by simp;omega,?_⟩,by simp only;omega⟩
     .have:ops.length-(vs++[r.1]).length=m:=by simp;omega
      rw[this];simp
     .rw[show(vs++[r.1]).length=vs.length+1 by simp,ht];exact Rg
    .rw[aj (by simp[h0])];rw[ai h0]at tT;refine .some ?_
     show _=_
     rw[tT];rfl
   .have Yb:ops.drop vs.length=[]:=ajX (by simp at hk;omega);rw[Yb,nj]at tT;rw[tT]
    have h0:ops.length-vs.length=0:=by simp at hk;omega
    rw[h0];simp only[List.replicate_zero,ajS]
    show Wp ((M.k8 aU e[i] vs env).bind λXe=>aa (Xe.1,Xe.2)) _
    rw[Xk he hwf (by omega)];exact .some rfl
end L.P
namespace L.P
structure Whole(e:List Ty)(st:List Nat):Prop where
 val:tK e st
 ne:e≠[]
 le:e.length<=48
 one:st[e.length-1]? =aa 0
 res:rB e=(0,0,fc st)
def z7:∀(e:List Ty)(i:Nat)(st sk:List Nat)(j:Nat)(c:Int),ld e i st sk= .inl (j,c)->c=2\/c=5\/c=16
 |[],_,_,_,_,_,h=>by rw[ld]at h;cases h
 |n::e,i,st,sk,j,c,h=>by
  rw[ld]at h;split at h
  .cases h;exact .inl rfl
  split at h
  .cases h;exact .inr (.inl rfl)
  split at h
  .cases h;exact .inr (.inr rfl)
  exact z7 e _ _ _ j c h
def Ch.PC{st l:List Nat}{n:Nat}(h:Ch st n l)(hl:l=[]):n=0:=by
 cases h with
 |nil=>rfl
 |snoc=>simp at hl
def Ch.MW{st l:List Nat}{n:Nat}(h:Ch st n l)(hl:n=0):l=[]:=by
 cases h with
 |nil=>rfl
 |snoc=>omega
def Ch.one{st l:List Nat}{n:Nat}(h:Ch st n l)(hn:0<n):l.length<=1↔st[n-1]? =aa 0:=by
 cases h with
 |nil=>omega
 | @snoc i s l h1 h2 c=>
   rw[Nat.add_sub_cancel,h1];constructor
   .intro hl;have:l=[]:=List.length_eq_zero_iff.1 (by rw[List.length_append,List.length_singleton]at hl;omega);rw[c.PC this]
   .intro hs
    have h0:s=0:=by simpa using hs
    rw[h0]at c;rw[c.MW rfl];simp
def MX{e:List Ty}{st:List Nat}(v:tK e st)(dw:e≠[])(hl:e.length<=48)(h1:st[e.length-1]? =aa 0):Whole e st:=by
 have qa:0<e.length:=List.length_pos_iff.2 dw;refine⟨v,dw,hl,h1,?_⟩;obtain⟨sk,g1,g2⟩:=DW v e [] [] rfl .nil;simp only[ajJ,List.take_zero]at g1;unfold rB;rw[ai (by omega),ai (by omega),g1];simp only;rw[ai];have:=(g2.one qa).2 h1;omega
def Gg(e:List Ty):(rB e).2.1≠0\/∃st,Whole e st:=by
 unfold rB;split
 .left;show(4:Int)≠0;decide
 rename_i hl;split
 .left;show(5:Int)≠0;decide
 rename_i dw
 cases hs:ld e 0 [] []with
 |inl p=>
  left
  obtain⟨j,c⟩:=p
  show c≠0
  have:=z7 _ _ _ _ _ _ hs;omega
 |inr p=>
  obtain⟨st,sk⟩:=p;obtain⟨v,c⟩:=DV e [] [] [] st sk tK.nil .nil hs;simp only[ajC]at v c;by_cases h1:1<sk.length
  .left
   simp only[aj h1];decide
  .right
   exact⟨st,MX v (λh=>dw (by rw[h];rfl)) (by omega) ((c.one (by omega)).1 (by omega))⟩
def Gh{e:List Ty}{st:List Nat}(w:Whole e st){env:kz.den}(he:rQ env)(hw:∀n∈e,WF aD n):M.jQ aU e env=aa (qG (NT env) e st e.length (e.length-1)):=by
 have qa:0<e.length:=List.length_pos_iff.2 w.ne;have hle:=w.le;unfold M.jQ M.oi;rw[tI,w.res];simp only[ai8];rw[ai (by simp)];unfold M.ko;rw[show ai9.wrap ((e.length:Int)-1)=((e.length-1:Nat):Int) by rw[aW (by omega) (by omega)];omega];rw[PB w.val (by omega) he hw e.length aU (e.length-1) (by omega) (by omega) (by unfold aU;omega)];rfl
def MY{e:List Ty}(h:(rB e).2.1≠0)(env:kz.den):M.jQ aU e env=aa (z3,(rB e).2.1):=by
 unfold M.jQ M.oi;rw[tI];simp only[ai8];rw[aj (by simp[h])];rfl
end L.P
namespace L
abbrev Vl:Type:=aE.den
abbrev Xl:Type:=kz.den
def oB{α:Type}(n:Nat)(v:α)(h:n<=100000):p6 (n:Int) v=aa (aji n v):=by
 unfold p6;rw[aj (by omega),ajg]
def BI{env:Xl}(he:P.rQ env){e:List Ty}(hw:∀n∈e,WF aD n):∃r,M.jQ aU e env=aa r:=by
 rcases P.Gg e with h|⟨st,w⟩
 .exact⟨_,P.MY h env⟩
 .exact⟨_,P.Gh w he hw⟩
def QR{l:Lw}(hw:WF bG l){d:Int}{vs D:List Vl}{ms:List (List Vl)}{Xm:List Ty}(h:ms.length<=100):P.rQ (d,(vs,(D,(ms,(Xm,l.2.1))))):=by
 refine⟨h,λt ht=>?_⟩;have:=(hw.2.1.2 t ht).2.2.2.1;unfold maxLen at this;exact this
def MZ(rules:List uz)(a d:Int):(zY rules a d).length=(yP rules a d).length:=by
 unfold zY yP;rw[List.length_map,DH]
def HE{x:iT}(Hv:WF aM x)(hl:x.2.2.2.2.length<=100000){env:Xl}(he:P.rQ env)(mem a:Int):Wp (M.iO aU x env mem a) λr=>(r.2.1:Int)=0->(r.1:Int)= -1\/(r.1:Int)= -2\/((0:Int)<=r.1/\(r.1:Int)<(x.2.2.2.2.length:Int)):=by
 have KD:∀r∈x.2.2.2.2,WF db r:=Hv.2.2.2.2.2;unfold M.iO;rw[JM x a env.1 hl,ai8]
 have hI:∀i∈yP x.2.2.2.2 a env.1,(0:Int)<=i/\i<(x.2.2.2.2.length:Int):=λi hi=>by
  obtain⟨k,hk,_,rfl⟩:=BB.1 hi;omega
 have hIl:(yP x.2.2.2.2 a env.1).length<=x.2.2.2.2.length:=Hz _ _;have hP:=MZ x.2.2.2.2 a env.1;generalize yP x.2.2.2.2 a env.1=I at*;generalize zY x.2.2.2.2 a env.1=Ps at*;generalize HA x.2.2.2.2 a env.1=Qs at*;dsimp only;rw[oB _ _ (by omega),ai8];refine .join (Wp.count (λs=>s.1) I.length (λk s=>s.2.length=I.length) (by omega) rfl (by simp) λk s hk hs hJ=>?_);obtain⟨c,b⟩:=s;dsimp only at hs hJ;subst hs;refine .dec (λh=>?_) (λh=> .some ?_)
 .have aG:k<I.length:=by dsimp only at h;omega
  obtain⟨i0,i1⟩:=hI _ (aje aG);obtain⟨i,hi⟩:=ajd i0
  have xm:i<x.2.2.2.2.length:=by omega
  have Uj:=KD _ (aje xm);refine .join (.bind (.idx k rfl aG (.bind (.idx i hi xm ?_))))
  refine .dec (λ_=> .bind (.idx k rfl (show k<b.length by omega) (.some (.some ⟨aG,aS (by omega),(cC ..).trans hJ⟩)))) λ_=> .bind (.idx i hi xm ?_)
  obtain⟨r,hr⟩:=BI he (e:=x.2.2.2.2[i].2.2.2.2.2.1) Uj.2.2.2.2.2.1.2;refine .oK hr ?_
  refine .eC (λh=> .some λg=>absurd g h) λ_=> .bind (.idx k rfl (show k<b.length by omega) (.some (.some ⟨aG,aS (by omega),(cC ..).trans hJ⟩)))
 .refine Wp.seq _ (JO Ps Qs b (by omega)) λv hv=>?_
  unfold Pl at hv
  refine .dec (λh=> .some λ_=>?_) λh=>?_
  .dsimp only;omega
  .obtain⟨v',rfl⟩:=ajd (show 0<=v by omega);refine .bind (.idx v' rfl (by omega) (.some λ_=> .inr (.inr (hI _ (aje _)))))
def HF(x:iT)(hs:iG x):∃c o,M.dM aU x=aa (c,o)/\o.length<=14/\∀a∈o,(0:Int)<=a/\a<(x.2.2.2.1.length:Int):=by
 have Hw:=hs.2.2.1;obtain⟨r,er,o,h1,_,hr⟩:=MO x hs;split at hr
 .subst hr;exact⟨_,_,er,by simp,λa h=>by cases h⟩
 .subst hr;exact⟨_,_,er,by have:=h1.len;omega,λa h=>(h1.mem h).1⟩
def Gi{x:iT}(Hv:WF aM x)(hs:iG x){d:Int}{vs:List Vl}{Xn:List bl.den}(he:∀D,P.rQ (d,(vs,(D,([],([],Xn))))))(mem:Int)(nd:List Bool)(hn:nd.length=x.2.2.2.1.length):
 Wp (M.eQ aU x mem d vs Xn nd) λr=>r.2.2.2.2.1=nd/\r.2.2.2.2.2.2.length=x.2.2.2.1.length:=by
 have Hw:=hs.2.2.1;have WO:=hs.2.2.2.1;have KD:∀r∈x.2.2.2.2,WF db r:=Hv.2.2.2.2.2;obtain⟨c,o,eo,ol,ho⟩:=HF x hs;unfold M.eQ;rw[oB _ _ (by omega),ai8,oB _ _ (by omega),ai8,eo,ai8];refine .join (Wp.count (λs=>s.1) o.length (λk s=>s.2.1.length=x.2.2.2.1.length/\s.2.2.length=x.2.2.2.1.length) (by omega) rfl ⟨by simp,by simp⟩ λk s hk uE hJ=>?_);obtain⟨c',D,rl⟩:=s;obtain⟨j1,j2⟩:=hJ;dsimp only at uE j1 j2;subst uE;refine .dec (λh=>?_) (λh=> .some (.some ⟨rfl,j1⟩))
 have aG:k<o.length:=by dsimp only at h;omega
 obtain⟨a0,a1⟩:=ho _ (aje aG);obtain⟨q,hq⟩:=ajd a0
 have hql:q<x.2.2.2.1.length:=by omega
 refine .join (.bind (.idx k rfl aG (.bind (.idx q hq (show q<nd.length by omega) ?_))))
 refine .ite (λ_=> .some (.some ⟨aG,aS (by omega),j1,j2⟩)) λ_=>?_
 refine Wp.seq _ (HE Hv (by omega) (he D) mem o[k]) λy hy=>?_
 refine .eC (λ_=> .some ⟨rfl,j1⟩) λh0=> .dec (λ_=> .some ⟨rfl,j1⟩) λh1=> .dec (λ_=> .some ⟨rfl,j1⟩) λh2=>?_
 have hy':=hy h0;obtain⟨i,hi⟩:=ajd (show(0:Int)<=y.1 by omega)
 have xm:i<x.2.2.2.2.length:=by omega
 refine .bind (.idx i hi xm ?_);obtain⟨r,hr⟩:=BI (he D) (e:=x.2.2.2.2[i].2.2.2.2.2.2.1) (KD _ (aje xm)).2.2.2.2.2.2.1.2;refine .oK hr (.eC (λ_=> .some ⟨rfl,j1⟩) λ_=> .bind (.idx q hq (show q<D.length by omega) (.bind (.idx q hq (show q<rl.length by omega) (.some (.some ⟨aG,aS (by omega),(cC ..).trans j1,(cC ..).trans j2⟩))))))
def Gj{x:iT}(Hv:WF aM x)(hs:iG x){d:Int}{vs:List Vl}{Xn:List bl.den}{ms:List (List Vl)}{Xm:List Ty}(he:∀D,P.rQ (d,(vs,(D,(ms,(Xm,Xn))))))(mem:Int)(nd:List Bool)(hn:nd.length=x.2.2.2.1.length):
 Wp (M.eR aU x mem d vs Xn ms Xm nd) λr=>(r.1.1:Int)=0->r.2.2.2.2.2.2.2.2.length=x.2.2.2.1.length/\r.2.2.2.2.2.2.2.1.length=x.2.2.2.1.length:=by
 have Hw:=hs.2.2.1;have WO:=hs.2.2.2.1;have KD:∀r∈x.2.2.2.2,WF db r:=Hv.2.2.2.2.2;obtain⟨c,o,eo,ol,ho⟩:=HF x hs;unfold M.eR;rw[oB _ _ (by omega),ai8,oB _ _ (by omega),ai8,eo,ai8];refine .join (Wp.count (λs=>s.1) o.length (λk s=>s.2.1.length=x.2.2.2.1.length/\s.2.2.length=x.2.2.2.1.length) (by omega) rfl ⟨by simp,by simp⟩ λk s hk uE hJ=>?_);obtain⟨c',D,rl⟩:=s;obtain⟨j1,j2⟩:=hJ;dsimp only at uE j1 j2;subst uE;refine .dec (λh=>?_) (λh=> .some (.some λ_=>⟨j1,j2⟩))
 have aG:k<o.length:=by dsimp only at h;omega
 obtain⟨a0,a1⟩:=ho _ (aje aG);obtain⟨q,hq⟩:=ajd a0
 have hql:q<x.2.2.2.1.length:=by omega
 refine .join (.bind (.idx k rfl aG (.bind (.idx q hq (show q<nd.length by omega) ?_))))
 refine .ite (λ_=> .some (.some ⟨aG,aS (by omega),j1,j2⟩)) λ_=>?_
 refine Wp.seq _ (HE Hv (by omega) (he D) mem o[k]) λy hy=>?_
 refine .eC (λh=> .some λg=>absurd g h) λh0=> .dec (λ_=> .some λg=>by cases g) λh1=> .dec (λ_=> .some λg=>by cases g) λh2=>?_
 have hy':=hy h0;obtain⟨i,hi⟩:=ajd (show(0:Int)<=y.1 by omega)
 have xm:i<x.2.2.2.2.length:=by omega
 refine .bind (.idx i hi xm ?_);obtain⟨r,hr⟩:=BI (he D) (e:=x.2.2.2.2[i].2.2.2.2.2.2.1) (KD _ (aje xm)).2.2.2.2.2.2.1.2;refine .oK hr (.eC (λh=> .some λg=>absurd g h) λ_=> .bind (.idx q hq (show q<D.length by omega) (.bind (.idx q hq (show q<rl.length by omega) (.some (.some ⟨aG,aS (by omega),(cC ..).trans j1,(cC ..).trans j2⟩))))))
def BJ{l:Lw}(hw:WF bG l){k:Int}{c:oe.den}(hc:c.2.2.length<=8){x q:iT}(hx:WF aM x)(UD:iG x)(hq:WF aM q)(Yi:iG q){nd mn:List Bool}(hn:nd.length=x.2.2.2.1.length)(hm:mn.length=q.2.2.2.1.length):
 Wp (M.iz aU l k c x q nd mn) λr=>(r.2.2.2.1.1:Int)=0->r.2.2.2.2.2.2.2.2.1.length=x.2.2.2.1.length/\r.2.2.2.2.2.2.2.2.2.1.length=x.2.2.2.1.length:=by
 have Hw:=Yi.2.2.1;unfold M.iz
 refine Wp.seq (λj=>j.1=c.1/\j.2.1=c.2.1/\j.2.2.1=l.2.1) ?_ λj hj=>?_
 .refine Wp.count (λs=>s.1) q.2.2.2.1.length (λi s=>s.2.1=c.1/\s.2.2.1=c.2.1/\s.2.2.2.1=l.2.1/\s.2.2.2.2.length=i) (by omega) rfl ⟨rfl,rfl,rfl,rfl⟩ λi s hi hs hJ=>?_
  obtain⟨i',d,vs,tb,ts⟩:=s;obtain⟨j1,j2,j3,j4⟩:=hJ;dsimp only at hs j1 j2 j3 j4;subst hs
  refine .dec (λh=>?_) λh=> .some ⟨j1,j2,j3⟩
  have aG:i<q.2.2.2.1.length:=by dsimp only at h;omega
  exact .bind (.idx i rfl aG (.bind (.app (by simp;omega) (.some ⟨aG,aS (by omega),j1,j2,j3,by simp[j4]⟩))))
 obtain⟨d,vs,tb,Xm⟩:=j;obtain⟨g1,g2,g3⟩:=hj;dsimp only at g1 g2 g3;subst g1 g2 g3;refine .join (Wp.count (λs=>s.1) c.2.2.length (λi s=>s.2.1.length=q.2.2.2.1.length/\s.2.2.1=c.1/\s.2.2.2.1=c.2.1/\s.2.2.2.2.1=l.2.1/\s.2.2.2.2.2.2.1.length=i/\s.2.2.2.2.2.2.2.length=i) (by omega) rfl ⟨hm,rfl,rfl,rfl,rfl,rfl⟩ λi s hi hs hJ=>?_);obtain⟨i',mn',d',vs',tb',ag9,ms,mr⟩:=s;obtain⟨j1,j2,j3,j4,j5,j6⟩:=hJ;dsimp only at hs j1 j2 j3 j4 j5 j6;subst hs j2 j3 j4
 refine .dec (λh=>?_) λh=> .some ?_
 .have aG:i<c.2.2.length:=by dsimp only at h;omega
  refine .bind (.idx i rfl aG (Wp.seq _ (Gi hq Yi (λD=>QR hw (by simp)) _ _ j1) λy hy=>?_))
  refine .eC (λh=> .some λg=>absurd g h) λ_=> .bind (.app (by simp;omega) (.bind (.app (by simp;omega) (.some ⟨aG,aS (by omega),?_,rfl,rfl,rfl,by simp[j5],by simp[j6]⟩))))
  dsimp only;rw[hy.1];exact j1
 .refine Wp.seq _ (Gj hx UD (λD=>QR hw (show ms.length<=100 by omega)) _ _ hn) λy hy=>?_
  exact .eC (λh=> .some λg=>absurd g h) λh=> .some λ_=>hy h
def PD{l:Lw}{x:iT}(h:¬(0:Int)<=x.2.1):(gC l x).2.2.2.2.1=[]:=by
 show(match l.2.2[(x.2.1:Int).toNat]? with|some y=>if 0<=(x.2.1:Int)then y.2.2.2.1.map (λf:Fd=>f.2)else[]|none=>[])=[]
 split
 .rw[ai h]
 .rfl
def PE{l:Lw}{x:iT}{q:Nat}(hq:q<l.2.2.length)(h:(x.2.1:Int)=(q:Int)):(gC l x).2.2.2.2.1=l.2.2[q].2.2.2.1.map (λf:Fd=>f.2):=by
 show(match l.2.2[(x.2.1:Int).toNat]? with|some y=>if 0<=(x.2.1:Int)then y.2.2.2.1.map (λf:Fd=>f.2)else[]|none=>[])=_
 rw[h,ajg,ajb hq];dsimp only;rw[aj (show(0:Int)<=(q:Int)from Int.natCast_nonneg q)]
def Xo{l:Lw}(hv:Valid l){k:Nat}(hk:k<l.2.2.length)(h:(0:Int)<=l.2.2[k].2.1):∃q,∃hq:q<l.2.2.length,(l.2.2[k].2.1:Int)=(q:Int):=by
 have hb:=(hv.scope k hk).2.2.1;unfold qy at hb;obtain⟨q,e⟩:=ajd h;have e':(l.2.2[k].2.1:Int)=(q:Int):=e;by_cases h1:(l.2.2[k].2.1:Int)= -1
 .have Aw:((q:Nat):Int)= -1:=e'.symm.trans h1;omega
 .have hb:=λg=>hb ⟨h1,g⟩
  by_cases g:(k:Int)<=l.2.2[k].2.1
  .exact absurd (.inr (.inl g)) hb
  .have g':¬(k:Int)<=(q:Int):=λz=>g (e'▸z)
   exact⟨q,by omega,e'⟩
def D1(e:List Ty)(y:Int):Prop:=∃n∈e,((n.1:Int)=36\/(n.1:Int)=37\/(n.1:Int)=38\/(n.1:Int)=39)/\(n.2:Int)=y
def HG(e:List Ty)(he:e.length<=100000):Wp (M.dy aU e) λr=>r.2.2.length<=e.length/\∀y∈r.2.2,D1 e y:=by
 unfold M.dy;rw[wp_bind]
 refine Wp.count (λs=>s.1) e.length (λk s=>(s.2.1.length<=k/\s.2.2.1.length<=k/\s.2.2.2.length<=k)/\∀y∈s.2.2.2,D1 e y) (by omega) rfl ⟨by simp,λy h=>by cases h⟩ λk s hk hs hJ=>?_
 obtain⟨i,a,b,c⟩:=s;obtain⟨⟨l1,l2,l3⟩,hm⟩:=hJ;dsimp only at hs l1 l2 l3 hm;subst hs;simp only[W_,av,ax,reduceCtorEq,bf,aX];refine⟨λaG=>?_,λhge=>?_⟩
 .have aG:k<e.length:=by omega
  have nxt:((e[k].1:Int)=36\/(e[k].1:Int)=37\/(e[k].1:Int)=38\/(e[k].1:Int)=39)->∀y∈c++[e[k].2],D1 e y:=λh y hy=>by
   rcases ajt.1 hy with hy|hy
   .exact hm y hy
   .rw[ajy]at hy;subst hy;exact⟨_,aje aG,h,rfl⟩
  simp only[aF aG,cR (m:=e.length) (by omega) aG,W_,av,ax,reduceCtorEq]
  have app:∀(q:List Int)(v:Int)(Q:List Int->Prop),q.length<=k->Q (q++[v])->Wp (cu q [v]) Q:=λq v Q hq h=>nS.2 ⟨by simp;omega,h⟩
  grind
 .refine(lp a (by omega)).mono λ_ _=>?_
  refine(lp b (by omega)).mono λr hr=>?_
  refine(lp c (by omega)).mono λq hq=>?_
  exact⟨by omega,λy hy=>hm y ((hq.2 y).1 hy)⟩
def JY{n:Ty}{l:List Ty}{s:rM}(hw:WF aD n)(h:(Ht n l s).2=0):Mn n.1 n.2 s:=by
 refine Classical.byContradiction λhf=>?_
 have hm:(n.2:Int)<=9223372036854775807:=hw.2.2
 have key:Wp (M.lR aU n s) λx=>x=af->Wp (M.bD aU n s) λx=>x=ag:=by
  rw[uA]
  refine .some λhr=>?_
  rw[Mo n s hm (an hr)];exact .some (au hf)
 have:Wp (M.aY aU n l s) λr=>r.2≠0:=by
  unfold M.aY
  refine Wp.seq (λ_=>True) (.eC (λ_=>by rw[aQ];exact .bind (.some (.some trivial))) λ_=> .some trivial) λj _=>?_
  refine .ite (λ_=> .some (by decide)) λ_=> .bind (key.mono λy hy=>?_)
  refine .ite (λ_=> .some (by decide)) λh=> .bind ((hy (by simpa using h)).mono λz hz=>?_)
  subst hz
  exact .ite (λ_=> .some (by decide)) λh=>absurd rfl h
 obtain⟨x,e,hx⟩:=this;unfold Ht at h;rw[e]at h;exact hx h
def z8{s:rM}:∀{e:List Ty}{i:Nat}{nF:List Ty}{p:Nat×Int},nT s e i nF= .inl p->p.2≠0
 |[],_,_,_,h=>by cases h
 |n::e,i,nF,p,h=>by
  rw[nT]at h;split at h
  .rename_i g;cases h;exact g
  .exact z8 h
def Aa{s:rM}:∀{e:List Ty}{i:Nat}{nF r:List Ty},nT s e i nF= .inr r->∀n∈e,∃l,(Ht n l s).2=0
 |[],_,_,_,_,n,hn=>by cases hn
 |n::e,i,nF,r,h,m,hm=>by
  rw[nT]at h;split at h
  .cases h
  .rename_i g
   rcases ajQ.1 hm with rfl|hm
   .exact⟨_,Decidable.not_not.1 g⟩
   .exact Aa h m hm
def HH{e:List Ty}{s:rM}{t:Ty}(hw:∀n∈e,WF aD n)(h:xo e s t=0){y:Int}(hy:D1 e y):0<=y/\y<(s.2.2.2.2.1.length:Int):=by
 have h0:(KB e s).2.2=0:=by
  unfold xo at h;by_cases h1:(KB e s).2.2=0
  .exact h1
  .rw[aj h1]at h;exact h
 obtain⟨⟨(op:Int),(m:Int)⟩,hn,tf,hm⟩:=hy;have tf:op=36\/op=37\/op=38\/op=39:=tf;have hm:m=y:=hm;subst hm;unfold KB at h0;split at h0
 .rename_i g;exact absurd h0 g
 .cases hr:nT s e 0 []with
  |inl p=>rw[hr]at h0;exact absurd h0 (z8 hr)
  |inr nF=>
   obtain⟨l,hl⟩:=Aa hr _ hn;have:=JY (hw _ hn) hl;unfold Mn at this;exact this.2.2.2.2.2.2 (show(36:Int)<=op/\op<=39 by omega)
def M0{l:Lw}{x:iT}{k:Nat}{r:uz}(hw:WF db r)(h:xq l x k r=0){y:Int}(hy:D1 r.2.2.2.2.2.1 y\/D1 r.2.2.2.2.2.2.1 y):0<=y/\y<((gC l x).2.2.2.2.1.length:Int):=by
 have key:(0<r.2.2.2.2.2.1.length->xo r.2.2.2.2.2.1 (gC l x) ((1:Int),(0:Int))=0)/\∃d:Fd,xo r.2.2.2.2.2.2.1 (gC l x) d.2=0:=by
  unfold xq at h;split at h
  .exact absurd h (by decide)
  split at h
  .exact absurd h (by decide)
  split at h
  .exact absurd h (by decide)
  rename_i hd;split at h
  .exact absurd h (by decide)
  split at h
  .exact absurd h (by decide)
  split at h
  .exact absurd h (by decide)
  split at h
  .exact absurd h (by decide)
  split at h
  .rename_i g;exact absurd h g.2
  rename_i g;refine⟨λh1=>Decidable.not_not.1 λh2=>g ⟨h1,h2⟩,?_⟩;split at h
  .exact⟨_,h⟩
  .rename_i hn;have h1:=List.getElem?_eq_none_iff.1 hn
   obtain⟨(d:Int),Qg⟩:∃d:Int,d=r.2.1:=⟨_,rfl⟩
   have hd:=Decidable.not_not.1 hd;rw[<-Qg]at hd h1;have hd:0<=d/\d<(x.2.2.2.1.length:Int):=hd;omega
 rcases hy with hy|hy
 .refine HH hw.2.2.2.2.2.1.2 (key.1 ?_) hy;obtain⟨n,hn,_⟩:=hy;exact List.length_pos_of_mem hn
 .obtain⟨d,hd⟩:=key.2;exact HH hw.2.2.2.2.2.2.1.2 hd hy
def xH(l:List Int)(n:Nat)(hl:l.length<=100000)(hr:∀y∈l,(0:Int)<=y/\y<(n:Int))(nd:List Bool)(hn:nd.length=n){X:Type}{Q:X->Prop}(f:List Bool->X)(hQ:∀nd:List Bool,nd.length=n->Q (f nd)):
 Wp (Loop (S:=Int×List Bool) (X:=X) (λs4=>
(if(decide (s4.1<(l.length:Int)))=af then
(idx l s4.1).bind λx5=>
(idx s4.2 x5).bind λx6=>
some (Sum.inl (ai9.wrap (s4.1+(1:Int)),b8 s4.2 x5 af))
else
some (Sum.inr (f s4.2)))) aU ((0:Int),nd)) Q:=by
 refine Wp.count (λs=>s.1) l.length (λk s=>s.2.length=n) (by omega) rfl hn λk s hk hs hJ=>?_
 obtain⟨c,b⟩:=s;dsimp only at hs hJ;subst hs
 refine .dec (λh=>?_) λ_=> .some (hQ _ hJ)
 have aG:k<l.length:=by dsimp only at h;omega
 obtain⟨y0,y1⟩:=hr _ (aje aG);obtain⟨y,hy⟩:=ajd y0;exact .bind (.idx k rfl aG (.bind (.idx y hy (show y<b.length by omega) (.some ⟨aG,aS (by omega),(cC ..).trans hJ⟩))))
def HI{s:iT}{d:Nat}(hd:d<s.2.2.2.1.length){y:Int}(h:MJ (Dp s) (d:Int) y):0<=y/\y<(s.2.2.2.1.length:Int):=by
 have key:∀{a b:Int},Dp s a b->0<=b/\b<(s.2.2.2.1.length:Int):=λh=>(nU s _).2 _ h
 induction h with
 |one h=>exact key h
 |step _ h _=>exact key h
def D2(x:iT)(hs:iG x)(d:Nat)(hd:d<x.2.2.2.1.length):Wp (M.dz aU x (d:Int)) λr=>r.length<=1000/\∀y∈r,(0:Int)<=y/\y<(x.2.2.2.1.length:Int):=by
 unfold M.dz
 refine Wp.seq (λj=>j=ag) (.dec (λh=>absurd h (by omega)) λ_=> .some (au (by omega))) λj hj=>?_
 subst hj
 refine .ite (λh=>by cases h) λ_=>Wp.seq _ (nC x hs) λL hL=>Wp.seq _ (sx x L hL d hd hs.2.2.1) λr hr=> .some ⟨hr.1,λy hy=>HI hd ((hr.2 y).1 hy)⟩
def JZ{x q:iT}(hs:iG q)(nd mn:List Bool)(hm:mn.length=q.2.2.2.1.length)(d:Nat)(hd:d<q.2.2.2.1.length):Wp (M.dA aU (d:Int) x q nd mn) λr=>r.1=x/\r.2.1=q/\r.2.2.1=nd/\r.2.2.2.length=q.2.2.2.1.length:=by
 unfold M.dA;refine .bind (.idx d rfl (by omega) (Wp.seq _ (D2 q hs d hd) λr hr=>?_))
 exact xH r _ (by omega) hr.2 _ ((cC ..).trans hm) (λb=>(x,q,nd,b)) λb hb=>⟨rfl,rfl,rfl,hb⟩
def Gk{l:Lw}{x:iT}(hw:WF aM x)(hs:iG x)(hv:∀i,∀hi:i<x.2.2.2.2.length,xq l x i x.2.2.2.2[i]=0)(d:Nat)(hd:d<x.2.2.2.1.length):Wp (M.kL aU x (d:Int)) λr=>r.length<=100000/\∀y∈r,(0:Int)<=y/\y<((gC l x).2.2.2.2.1.length:Int):=by
 have Hw:=hs.2.2.1;have WO:=hs.2.2.2.1;unfold M.kL
 refine Wp.seq (λj=>j=ag) (.dec (λh=>absurd h (by omega)) λ_=> .some (au (by omega))) λj hj=>?_
 subst hj
 refine .ite (λh=>by cases h) λ_=>?_
 rw[oB _ _ (by omega),ai8];refine .bind (.idx d rfl (by simpa using hd) (Wp.seq (λb=>b.length=x.2.2.2.1.length) ?_ λb hb=>?_))
 .refine Wp.seq _ (nC x hs) λL hL=>Wp.seq _ (sx x L hL d hd Hw) λr hr=>?_
  exact xH r _ (by omega) (λy hy=>HI hd ((hr.2 y).1 hy)) _ ((cC ..).trans (by simp)) (λb=>b) λb hb=>hb
 .refine Wp.seq (λr=>r.length<=6000/\∀y∈r,(0:Int)<=y/\y<((gC l x).2.2.2.2.1.length:Int)) ?_ λr hr=>Wp.seq _ (tD r (by omega)) λq hq=> .some ⟨by omega,λy hy=>hr.2 y ((hq.2 y).1 hy)⟩
  refine Wp.count (λs=>s.1) x.2.2.2.2.length (λk s=>s.2.length<=100*k/\∀y∈s.2,(0:Int)<=y/\y<((gC l x).2.2.2.2.1.length:Int)) (by omega) rfl ⟨by simp,λy h=>by cases h⟩ λk s hk uE hJ=>?_
  obtain⟨c,o⟩:=s;obtain⟨j1,j2⟩:=hJ;dsimp only at uE j1 j2;subst uE
  refine .dec (λh=>?_) λ_=> .some ⟨show o.length<=6000 by omega,j2⟩
  have aG:k<x.2.2.2.2.length:=by dsimp only at h;omega
  have QH:=hs.2.2.2.2.2.2 _ (aje aG)
  have JN:∀y,D1 x.2.2.2.2[k].2.2.2.2.2.1 y\/D1 x.2.2.2.2[k].2.2.2.2.2.2.1 y->(0:Int)<=y/\y<((gC l x).2.2.2.2.1.length:Int):=λy hy=>M0 (hw.2.2.2.2.2 _ (aje aG)) (hv k aG) hy
  refine Wp.seq (λo'=>o'.length<=100*(k+1)/\∀y∈o',(0:Int)<=y/\y<((gC l x).2.2.2.2.1.length:Int)) ?_ λo' jY=> .some ⟨aG,aS (by omega),jY⟩
  refine .bind (.idx k rfl aG ?_)
  refine Wp.seq (λj=>j=ag->(0:Int)<=x.2.2.2.2[k].2.1/\(x.2.2.2.2[k].2.1:Int)<(x.2.2.2.1.length:Int)) ?_ λj hj=>?_
  .refine .dec (λ_=> .some λh=>by cases h) λh1=> .dec (λ_=> .some λh=>by cases h) λh2=>?_
   obtain⟨a,ha⟩:=ajd (show(0:Int)<=x.2.2.2.2[k].2.1 from ajT.1 h1);have ha2:¬(x.2.2.2.1.length:Int)<=x.2.2.2.2[k].2.1:=h2;refine .bind (.idx a ha (show a<b.length by omega) (.some λ_=>⟨ajT.1 h1,Int.not_le.1 h2⟩))
  refine .ite (λ_=> .some ⟨by dsimp only;omega,j2⟩) λ_=>?_
  refine Wp.seq _ (HG _ (by omega)) λa ha=>Wp.seq _ (HG _ (by omega)) λc hc=>?_
  refine .bind (.app (by dsimp only;omega) (.bind (.app (by simp;omega) (.some ⟨by simp;omega,λy hy=>?_⟩))));rw[ajt,ajt]at hy
  rcases hy with(hy|hy)|hy
  .exact j2 y hy
  .exact JN y (.inl (ha.2 y hy))
  .exact JN y (.inr (hc.2 y hy))
def J0{l:Lw}{x q:iT}(hw:WF aM x)(hs:iG x)(Yi:iG q)(hv:∀i,∀hi:i<x.2.2.2.2.length,xq l x i x.2.2.2.2[i]=0)(hq:(gC l x).2.2.2.2.1.length=q.2.2.2.1.length)(nd mn:List Bool)(hn:nd.length=x.2.2.2.1.length)(hm:mn.length=q.2.2.2.1.length)(d:Nat)(hd:d<x.2.2.2.1.length):
 Wp (M.fj aU (d:Int) x q nd mn) λr=>r.1=x/\r.2.1=q/\r.2.2.1.length=x.2.2.2.1.length/\r.2.2.2.length=q.2.2.2.1.length:=by
 unfold M.fj;refine .bind (.idx d rfl (by omega) (Wp.seq (λb=>b.length=x.2.2.2.1.length) ?_ λb hb=>?_))
 .refine Wp.seq _ (D2 x hs d hd) λr hr=>?_
  exact xH r _ (by omega) hr.2 _ ((cC ..).trans hn) (λb=>b) λb hb=>hb
 refine Wp.seq _ (Gk hw hs hv d hd) λr hr=>?_
 refine Wp.count (λs=>s.1) r.length (λk s=>s.2.1=x/\s.2.2.1=q/\s.2.2.2.1.length=x.2.2.2.1.length/\s.2.2.2.2.length=q.2.2.2.1.length) (by omega) rfl ⟨rfl,rfl,hb,hm⟩ λk s hk uE hJ=>?_
 obtain⟨c,x',q',b',m'⟩:=s;obtain⟨j1,j2,j3,j4⟩:=hJ;dsimp only at uE j1 j2 j3 j4;subst uE j1 j2
 refine .dec (λh=>?_) λ_=> .some ⟨rfl,rfl,j3,j4⟩
 have aG:k<r.length:=by dsimp only at h;omega
 obtain⟨y0,y1⟩:=hr.2 _ (aje aG);obtain⟨y,hy⟩:=ajd y0;refine .bind (.idx k rfl aG ?_);dsimp only;rw[hy]
 refine Wp.seq _ (JZ Yi b' m' j4 y (by omega)) λz hz=> .some ⟨aG,aS (by omega),hz.1,hz.2.1,by show z.2.2.1.length=_;rw[hz.2.2.1];exact j3,hz.2.2.2⟩
def rR(l:Lw)(vs:List Vl)(fs:List Fd)(h1:vs.length<=1048576):Wp (M.eI aU l vs fs) λ_=>True:=by
 unfold M.eI
 refine .dec (λ_=> .some trivial) λc1=> .dec (λ_=> .some trivial) λc2=>?_
 refine Wp.count (λs=>s) vs.length (λk _=>True) (by omega) rfl trivial λk s hk hs _=>?_
 obtain rfl:s=_:=hs
 refine .dec (λaG=>?_) λ_=> .some trivial
 have aG:k<vs.length:=by omega
 rw[aF aG,ai8,aF (show k<fs.length by omega),ai8]
 refine Wp.seq (λ_=>True) (.eC (λ_=> .some trivial) λ_=> .some trivial) λj _=> .ite (λ_=> .some trivial) λ_=>?_
 rw[vY,ai8]
 exact Wp.seq (λ_=>True) (.dec (λ_=> .some trivial) λ_=> .some trivial) λj _=> .ite (λ_=> .some trivial) λ_=> .some ⟨aG,aS (by omega),trivial⟩
def M1{l:Lw}{k:Nat}(hk:k<l.2.2.length)(c:oe.den)(h1:c.2.1.length<=1048576)(h2:c.2.2.length<=8)(h3:∀vs∈c.2.2,vs.length<=1048576):Wp (M.jc aU l (k:Int) c) λ_=>True:=by
 unfold M.jc
 refine Wp.seq (λ_=>True) (.dec (λ_=> .some trivial) λ_=> .some trivial) λj1 _=> .ite (λ_=> .some trivial) λ_=>?_
 refine Wp.seq (λ_=>True) (.dec (λ_=> .some trivial) λ_=> .some trivial) λj2 _=> .ite (λ_=> .some trivial) λ_=>?_
 rw[aF hk,ai8]
 refine Wp.seq _ (rR l c.2.1 _ h1) λy4 _=> .eC (λ_=> .some trivial) λ_=>?_
 have Q7:Wp (M.fF aU l (k:Int)) λ_=>True:=by
  unfold M.fF;rw[aF hk,ai8]
  refine Wp.seq (λj=>j=ag->(0:Int)<=l.2.2[k].2.1/\(l.2.2[k].2.1:Int)<(l.2.2.length:Int)) (.dec (λ_=> .some λh=>by cases h) λh=> .some λg=>⟨ajT.1 h,Int.not_le.1 (ao g)⟩) λj hj=>?_
  refine .ite (λ_=> .some trivial) λc=>?_
  obtain⟨g1,g2⟩:=hj (by simpa using c);obtain⟨q,hq⟩:=ajd g1;have g3:(q:Int)<(l.2.2.length:Int):=hq▸g2;exact .bind (.idx q hq (by omega) (.some trivial))
 refine Wp.seq _ Q7 λy5 _=> .dec (λ_=> .some trivial) λ_=>?_
 refine Wp.count (λs=>s) c.2.2.length (λm _=>True) (by omega) rfl trivial λm s hm hs _=>?_
 obtain rfl:s=_:=hs
 refine .dec (λaG=>?_) λ_=> .some trivial
 have aG:m<c.2.2.length:=by omega
 rw[aF aG,ai8]
 exact Wp.seq _ (rR l c.2.2[m] _ (h3 _ (aje aG))) λy8 _=> .eC (λ_=> .some trivial) λ_=> .some ⟨aG,aS (by omega),trivial⟩
def M2{l:Lw}(eY:dG l)(hv:Valid l){k:Nat}(hk:k<l.2.2.length):Wp (M.kK aU l (k:Int)) λr=>r.1=l.2.2[k]/\r.2.2.1.length=l.2.2[k].2.2.2.1.length/\r.2.2.2.length=r.2.1.2.2.2.1.length/\(gC l l.2.2[k]).2.2.2.2.1.length=r.2.1.2.2.2.1.length/\(WF bG l->WF aM r.2.1)/\iG r.2.1:=by
 have Hw:=(eY.2.2.2.2.2 _ (aje hk)).2.2.1;unfold M.kK;rw[aF hk,ai8,oB _ _ (by omega),ai8];by_cases h:(0:Int)<=l.2.2[k].2.1
 .obtain⟨q,hq,e⟩:=Xo hv hk h;have q14:=(eY.2.2.2.2.2 _ (aje hq)).2.2.1;rw[aj (aq h),show idx l.2.2 l.2.2[k].2.1=idx l.2.2 (q:Int)from ay _ e,aF hq,ai8,oB _ _ (by omega),ai8];refine .some ⟨rfl,by simp,by simp,?_,λhw=>hw.2.2.2 _ (aje hq),eY.2.2.2.2.2 _ (aje hq)⟩;rw[PE hq e];simp
 .rw[ai (by simpa using h)];refine .some ⟨rfl,by simp,by simp,by rw[PD h];rfl,λ_=>?_,?_⟩
  .simp[WF,maxLen];decide
  .simp[iG]
def D3{l:Lw}(hw:WF bG l)(eY:dG l){k:Nat}(hk:k<l.2.2.length)(c:oe.den)(h1:c.2.1.length<=1048576)(h2:c.2.2.length<=8)(h3:∀vs∈c.2.2,vs.length<=1048576)(d:Int):Wp (M.lN aU l (k:Int) c d) λ_=>True:=by
 unfold M.lN
 refine Wp.seq (λr=>(r.1:Int)=0->Valid l/\0<=d/\d<(l.2.2[k].2.2.2.1.length:Int)) ?_ λr hr=>?_
 .unfold M.iY;rw[Bz l hw eY,ai8]
  refine .eC (λ_=> .some λg=>by cases g) λhv=>?_
  refine Wp.seq (λj=>j=ag->0<=d/\d<(l.2.2[k].2.2.2.1.length:Int)) ?_ λj hj=>?_
  .refine .dec (λ_=> .some λg=>by cases g) λ_=> .dec (λ_=> .some λg=>by cases g) λ_=> .ite (λ_=> .dec (λ_=> .some λg=>by cases g) λh0=>?_) λg=>absurd rfl g
   rw[aF hk,ai8]
   exact .some λg=>⟨ajT.1 h0,Int.not_le.1 (ao g)⟩
  refine .ite (λ_=> .some λg=>by cases g) λYd=>Wp.seq _ (M1 hk c h1 h2 h3) λy _=> .eC (λh=> .some λg=>absurd g h) λ_=> .some λ_=>⟨hv,hj (by simpa using Yd)⟩
 refine .eC (λ_=> .some trivial) λh0=>?_
 obtain⟨hv,d0,d1⟩:=hr h0;obtain⟨a,ha⟩:=ajd d0;subst ha
 have XY:a<l.2.2[k].2.2.2.1.length:=by omega
 have Hv:=hw.2.2.2 _ (aje hk);have yZ:=eY.2.2.2.2.2 _ (aje hk)
 refine Wp.seq _ (M2 eY hv hk) λn hn=>?_
 obtain⟨n1,n2,n3,n4,n5,n6⟩:=hn;rw[n1]
 refine Wp.seq _ (J0 Hv yZ n6 (hv.scope k hk).2.2.2.2.2.2.1 n4 _ _ n2 n3 a XY) λm hm=>?_
 obtain⟨m1,m2,m3,m4⟩:=hm;rw[m1,m2]
 refine Wp.seq _ (BJ hw h2 Hv yZ (n5 hw) n6 m3 m4) λr hr=> .eC (λ_=> .some trivial) λh=>?_
 obtain⟨r1,r2⟩:=hr h;exact .bind (.idx a rfl (by omega) (.bind (.idx a rfl (by omega) (.some trivial))))
end L
namespace L
abbrev gn:Type:=bg.den
abbrev Hh:Type:=bI.den
abbrev tK:Type:=aE.den
def mw(l:List (Int×Bool))(k x:Int)(v:Bool):bn aB (fL aB l k v) x=if k=x then aa v else bn aB l x:=by
 induction l with
 |nil=>simp[fL,bn,c9]
 |cons p l ih=>
  obtain⟨a,b⟩:=p;unfold fL;by_cases h:a=k
  .have:c9 aB a k=af:=by simp[c9,h]
   rw[aj this]
   by_cases h':a=x<;>simp[bn,c9,h',<-h]
  .have:¬c9 aB a k=af:=by simp[c9,h]
   rw[ai this]
   show(if c9 aB a x=af then aa b else bn aB (fL aB l k v) x)=if k=x then aa v else if c9 aB a x=af then aa b else bn aB l x
   rw[ih];by_cases h':a=x
   .have:¬k=x:=λe=>h (by rw[h',e])
    simp[c9,h',this]
   .simp[c9,h']
def NE(r:Ty):Prop:=VR r/\(r.1:Int)<r.2
instance(r:Ty):Decidable (NE r):=by unfold NE;infer_instance
def ne_eq(r:Ty):M.jE aU r=aa (decide (NE r)):=by
 obtain⟨(r1:Int),(r2:Int)⟩:=r;apply Wp.eq;unfold M.jE;simp only[uG,W_,av,ax,reduceCtorEq];unfold NE;dsimp only[aB,Row.den]
 by_cases h:VR ((r1,r2):Ty)<;>simp only[h,W_,av,ax,reduceCtorEq]
def Xp(r:Ty)(d:Int):Prop:=VR r/\(r.1:Int)<=d/\d<(r.2:Int)
instance(r:Ty)(d:Int):Decidable (Xp r d):=by unfold Xp;infer_instance
def Tw(r:Ty)(d:Int):M.cg aU r d=aa (decide (Xp r d)):=by
 obtain⟨(r1:Int),(r2:Int)⟩:=r;apply Wp.eq;unfold M.cg;simp only[uG,W_,av,ax,reduceCtorEq];unfold Xp;dsimp only[aB,Row.den]
 by_cases h:VR ((r1,r2):Ty)<;>simp only[h,W_,av,ax,reduceCtorEq]
 omega
def FR(f:gn):Prop:=(f.1:Int)<0\/(f.2.1:Int)< -1\/8<=(f.2.1:Int)\/(f.2.2.1:Int)< -1\/12<=(f.2.2.1:Int)\/((f.2.1:Int)= -1/\(f.2.2.1:Int)= -1)\/¬NE f.2.2.2.2.1\/(f.2.2.2.2.2:Int)<0\/109572<(f.2.2.2.2.2:Int)
def FT(f:gn):Prop:=(f.2.2.2.1.1:Int)<1\/6<(f.2.2.2.1.1:Int)\/((f.2.2.1:Int)= -1/\(f.2.2.2.1.1:Int)≠1)
noncomputable instance(f:gn):Decidable (FR f):=aju _
noncomputable instance(f:gn):Decidable (FT f):=aju _
noncomputable def cf(f:gn):Int:=if FR f then 3 else if FT f then 8 else 0
def Xq(f:gn):M.kJ aU f=aa (cf f):=by
 obtain⟨(a:Int),(b:Int),(c:Int),⟨(k:Int),(e:Int),(n:Int)⟩,v,(rc:Int)⟩:=f;apply Wp.eq;unfold M.kJ;simp only[ne_eq,W_,av,ax,reduceCtorEq];have hR:FR (a,(b,(c,((k,(e,n)),(v,rc)))))↔a<0\/b< -1\/8<=b\/c< -1\/12<=c\/(b= -1/\c= -1)\/¬NE v\/rc<0\/109572<rc:=Iff.rfl;have hT:FT (a,(b,(c,((k,(e,n)),(v,rc)))))↔k<1\/6<k\/(c= -1/\k≠1):=Iff.rfl
 have r3:FR (a,(b,(c,((k,(e,n)),(v,rc)))))->(3:Int)=cf (a,(b,(c,((k,(e,n)),(v,rc))))):=λh=>by unfold cf;rw[aj h]
 have r8:¬FR (a,(b,(c,((k,(e,n)),(v,rc)))))->FT (a,(b,(c,((k,(e,n)),(v,rc)))))->(8:Int)=cf (a,(b,(c,((k,(e,n)),(v,rc))))):=λh h'=>by unfold cf;rw[ai h,aj h']
 have r0:¬FR (a,(b,(c,((k,(e,n)),(v,rc)))))->¬FT (a,(b,(c,((k,(e,n)),(v,rc)))))->(0:Int)=cf (a,(b,(c,((k,(e,n)),(v,rc))))):=λh h'=>by unfold cf;rw[ai h,ai h']
 rw[hR]at r3 r8 r0;rw[hT]at r8 r0;generalize cf (a,(b,(c,((k,(e,n)),(v,rc)))))=q at*;clear hR hT;dsimp only[aB,Row.den]at*
 by_cases hn:NE v<;>simp only[hn,W_,av,ax,reduceCtorEq]at r3 r8 r0⊢<;>omega
def NU(l:List gn)(k:Nat)(x:Int):Prop:=∃y∈l.take k,(y.1:Int)=x
noncomputable instance(l:List gn)(k:Nat)(x:Int):Decidable (NU l k x):=aju _
def M3{l:List gn}{k:Nat}(h:k<l.length)(x:Int):NU l (k+1) x↔NU l k x\/(l[k].1:Int)=x:=by
 unfold NU;rw[<-ajk h];constructor
 .rintro⟨y,hy,e⟩
  rcases ajt.1 hy with hy|hy
  .exact .inl ⟨y,hy,e⟩
  .rw[ajy.1 hy]at e;exact .inr e
 .rintro(⟨y,hy,e⟩|e)
  .exact⟨y,ajt.2 (.inl hy),e⟩
  .exact⟨_,ajt.2 (.inr (ajy.2 rfl)),e⟩
noncomputable def KG(l:List gn)(k:Nat)(f:gn):Int:=if cf f≠0 then cf f else if NU l k f.1 then 7 else 0
noncomputable def Tx(l:List gn)(k:Nat):Option (Int×Int):=match l[k]? with
 |none=>ae
 |some f=>if KG l k f≠0 then aa ((k:Int),KG l k f)else ae
noncomputable def BK(l:List gn):Int×Int:=if 128<l.length then(0,4)else(cX (Tx l) l.length).getD (0,0)
def xI{l:List gn}{k:Nat}(h:k<l.length):Tx l k=if KG l k l[k]≠0 then aa ((k:Int),KG l k l[k])else ae:=by
 unfold Tx;rw[ajb h]
def HJ{l:List gn}{k:Nat}{q:Int}(h8:¬128<l.length)(h:k<l.length)(hq:KG l k l[k]=q)(h0:q≠0)(hJ:∀j,j<k->Tx l j=ae):BK l=((k:Int),q):=by
 subst hq;unfold BK;rw[ai h8,fx ((xI h).trans (aj h0)) hJ h];rfl
def M4{l:List gn}(h8:¬128<l.length)(hJ:∀j,j<l.length->Tx l j=ae):BK l=(0,0):=by
 unfold BK;rw[ai h8,cq.2 hJ];rfl
def Tz(l:List gn):M.lH aU l=aa (BK l):=by
 apply Wp.eq;unfold M.lH;simp only[Xq,W_,av,ax,reduceCtorEq];refine⟨λh=>by unfold BK;rw[aj (by omega)],λh=>?_⟩
 have h8:¬128<l.length:=by omega
 refine Wp.count (λs=>s.1) l.length (λk s=>(∀j,j<k->Tx l j=ae)/\∀x:Int,(bn aB s.2 x).getD ag=af↔NU l k x) (by omega) rfl ⟨λj hj=>by omega,λx=>by simp[bn,NU]⟩ λk s hk hs hJ=>?_
 obtain⟨i,m⟩:=s;obtain⟨hJ,hm⟩:=hJ;dsimp only at hs hm;subst hs;simp only[W_,av,ax,reduceCtorEq,bf,aX];refine⟨λaG=>?_,λhge=>(M4 h8 λj hj=>hJ j (by omega)).symm⟩
 have aG:k<l.length:=by omega
 simp only[aF aG,cR (m:=l.length) (by omega) aG,W_,av,ax,reduceCtorEq];refine⟨λh0=>(HJ h8 aG (by unfold KG;rw[aj h0]) h0 hJ).symm,λh0=>⟨λhd=>(HJ h8 aG (by unfold KG;rw[ai (λg=>g h0),aj ((hm _).1 hd)]) (by decide) hJ).symm,λhd=>?_⟩⟩;refine⟨aG,eL hJ (by rw[xI aG,ai];unfold KG;rw[ai (λg=>g h0),ai (λg=>by rw[(hm _).2 g]at hd;cases hd)];simp),λx=>?_⟩
 show(bn aB (fL aB m l[k].1 af) x).getD ag=af↔_
 rw[mw,M3 aG];by_cases e:(l[k].1:Int)=x
 .rw[aj e];exact⟨λ_=> .inr e,λ_=>rfl⟩
 .rw[ai e,hm];exact⟨.inl,λg=>g.resolve_right e⟩
def Mt(m i d r:Int)(f:gn):Prop:=(f.2.1:Int)=m/\(f.2.2.1:Int)=i/\(f.2.2.2.2.2:Int)<=r/\Xp f.2.2.2.2.1 d
noncomputable instance(m i d r:Int)(f:gn):Decidable (Mt m i d r f):=aju _
def sA(f g:gn):Prop:=(g.2.2.2.2.2:Int)<f.2.2.2.2.2\/((f.2.2.2.2.2:Int)=g.2.2.2.2.2/\(g.1:Int)<f.1)
noncomputable instance(f g:gn):Decidable (sA f g):=aju _
noncomputable def pR(m i d r:Int)(b:Option gn)(f:gn):Option gn:=if Mt m i d r f then(match b with
 |none=>aa f
 |some g=>if sA f g then aa f else aa g)else b
noncomputable def tM(l:List gn)(m i d r:Int):Option gn:=l.foldl (pR m i d r) ae
def PF(f g:gn):M.pG aU f g=aa (decide (sA f g)):=by
 obtain⟨(a:Int),(b:Int),(c:Int),x,v,(rc:Int)⟩:=f;obtain⟨(a':Int),(b':Int),(c':Int),x',v',(rc':Int)⟩:=g;apply Wp.eq;unfold M.pG;simp only[W_,av,ax,reduceCtorEq];unfold sA;dsimp only[aB,Row.den];omega
def xJ(l:List gn)(k:Nat)(b:Int)(o:Option gn):Prop:=(b= -1/\o=ae)\/∃j:Nat,∃h:j<l.length,j<k/\b=(j:Int)/\o=aa l[j]
def TA(o:Option gn):tK×Bool:=match o with
 |none=>(((0:Int),((0:Int),(0:Int))),ag)
 |some f=>(f.2.2.2.1,af)
def M5{l:List gn}{k:Nat}(h:k<l.length)(m i d r:Int):tM (l.take (k+1)) m i d r=pR m i d r (tM (l.take k) m i d r) l[k]:=by
 unfold tM;rw[<-ajk h,List.foldl_append];rfl
def xJ.more{l:List gn}{k:Nat}{b:Int}{o:Option gn}(h:xJ l k b o):xJ l (k+1) b o:=by
 rcases h with h|⟨j,h1,h2,h3⟩
 .exact .inl h
 .exact .inr ⟨j,h1,by omega,h3⟩
def QS(l:List gn)(m i d r:Int)(hl:l.length<=100000):M.nO aU l m i d r=aa (TA (tM l m i d r)):=by
 apply Wp.eq;unfold M.nO;rw[wp_bind]
 refine Wp.count (λs=>s.2) l.length (λk s=>xJ l k s.1 (tM (l.take k) m i d r)) (by omega) rfl (.inl ⟨rfl,rfl⟩) λk s hk hs hJ=>?_
 obtain⟨b,c⟩:=s;dsimp only at hs hJ;subst hs;simp only[Tw,PF,W_,av,ax,reduceCtorEq,bf,aX];refine⟨λaG=>?_,λhge=>?_⟩
 .have aG:k<l.length:=by omega
  have gD:=M5 aG m i d r;simp only[aF aG,cR (m:=l.length) (by omega) aG,W_,av,ax,reduceCtorEq];rw[gD]
  have skip:¬Mt m i d r l[k]->k<l.length/\xJ l (k+1) b (pR m i d r (tM (l.take k) m i d r) l[k]):=λh=>by
   unfold pR;rw[ai h];exact⟨aG,hJ.more⟩
  refine⟨λh1=>skip λg=>h1 g.1,λh1=>⟨λh2=>skip λg=>h2 g.2.1,λh2=>⟨λh3=>skip λg=>absurd h3 (ajT.2 g.2.2.1),λh3=>⟨λh4=>skip λg=>h4 g.2.2.2,λh4=>?_⟩⟩⟩⟩
  have hm:Mt m i d r l[k]:=⟨h1,h2,ajT.1 h3,h4⟩
  refine⟨λhb=>?_,λhb=>?_⟩
  .have hn:tM (l.take k) m i d r=ae:=by
    rcases hJ with⟨_,h⟩|⟨j,_,_,rfl,_⟩
    .exact h
    .omega
   refine⟨aG, .inr ⟨k,aG,by omega,rfl,?_⟩⟩;unfold pR;rw[aj hm,hn]
  .rcases hJ with⟨rfl,_⟩|⟨j,hj,Ul,rfl,hn⟩
   .exact absurd (by decide) hb
   .simp only[aF hj,W_,av,ax,reduceCtorEq];refine⟨λhw=>⟨aG, .inr ⟨k,aG,by omega,rfl,?_⟩⟩,λhw=>⟨aG, .inr ⟨j,hj,by omega,rfl,?_⟩⟩⟩
    .unfold pR;rw[aj hm,hn];exact aj hw
    .unfold pR;rw[aj hm,hn];exact ai hw
 .obtain rfl:k=l.length:=by omega
  rw[ajn]at hJ
  rcases hJ with⟨rfl,h⟩|⟨j,hj,_,rfl,h⟩
  .rw[h];exact⟨λ_=>rfl,λg=>absurd (by decide) g⟩
  .rw[h];simp only[aF hj,W_,av,ax,reduceCtorEq];exact⟨λg=>by omega,λ_=>rfl⟩
end L
namespace L
def D4(l:Lw)(x:iT):List Fd×Bool:=if(x.2.1:Int)<0\/(l.2.2.length:Int)<=x.2.1 then([],ag)else match l.2.2[(x.2.1:Int).toNat]? with
 |some y=>(y.2.2.1,af)
 |none=>([],ag)
def QT(l:Lw)(k:Nat)(hk:k<l.2.2.length):M.dQ aU l (k:Int)=aa (D4 l l.2.2[k]):=by
 apply Wp.eq;unfold M.dQ;simp only[aF hk,W_,av,ax,reduceCtorEq];generalize l.2.2[k]=x;obtain⟨nm,(m:Int),z⟩:=x;unfold D4;dsimp only[aB,Row.den];refine⟨λh=>by rw[aj (.inl h)],λh=>⟨λh'=>by rw[aj (.inr h')],λh'=>?_⟩⟩;rw[ai (by omega)]
 have hm:m.toNat<l.2.2.length:=by omega
 refine eW.2 ⟨by omega,?_⟩;rw[ajb hm]
def Gl(ins:List Fd)(i:Int):Option Ty:=if i= -1 then aa ((1:Int),(0:Int))else if i<0 then ae else(ins[i.toNat]?).map (·.2)
noncomputable def hT(E:List En)(ins:List Fd)(f:gn):Int:=match Gl ins f.2.2.1 with
 |none=>6
 |some t=>if((f.2.2.2.1.1,f.2.2.2.1.2.1):Ty)≠t then 8 else if¬B4 f.2.2.2.1.2.2 t E then 3 else 0
def HK(l:Lw)(x:iT)(m:Int):List Fd:=if m= -1 then x.2.2.1 else(D4 l x).1
noncomputable def hE(l:Lw)(x:iT)(mem:Int)(f:gn):Int:=if mem<=(f.2.1:Int)then 6 else hT l.1 (HK l x f.2.1) f
noncomputable def QU(l:Lw)(x:iT)(h:Hh)(k:Nat):Option (Int×Int):=match h.2.2.2[k]? with
 |none=>ae
 |some f=>if hE l x h.2.2.1 f≠0 then aa ((k:Int),hE l x h.2.2.1 f)else ae
def HR(l:Lw)(x:iT)(h:Hh):Prop:=(h.1:Int)<0\/(h.2.2.1:Int)<0\/8<(h.2.2.1:Int)\/((h.2.2.1:Int)≠0/\(D4 l x).2=ag)
noncomputable instance(l:Lw)(x:iT)(h:Hh):Decidable (HR l x h):=aju _
noncomputable def Ey(l:Lw)(x:iT)(h:Hh):Int×Int:=if HR l x h then(-1,3)else if(BK h.2.2.2).2≠0 then BK h.2.2.2 else(cX (QU l x h) h.2.2.2.length).getD (0,0)
noncomputable def Gm(l:Lw)(h:Hh):Int×Int:=if(h.2.1:Int)<0\/(l.2.2.length:Int)<=h.2.1 then(-1,6)else match l.2.2[(h.2.1:Int).toNat]? with
 |none=>(-1,6)
 |some x=>Ey l x h
def xK{l:Lw}{x:iT}{h:Hh}{k:Nat}(hk:k<h.2.2.2.length):QU l x h k=if hE l x h.2.2.1 h.2.2.2[k]≠0 then aa ((k:Int),hE l x h.2.2.1 h.2.2.2[k])else ae:=by
 unfold QU;rw[ajb hk]
def PG{l:Lw}{x:iT}{h:Hh}{k:Nat}{q:Int}(h1:¬HR l x h)(h2:(BK h.2.2.2).2=0)(hk:k<h.2.2.2.length)(hq:hE l x h.2.2.1 h.2.2.2[k]=q)(h0:q≠0)(hJ:∀j,j<k->QU l x h j=ae):Ey l x h=((k:Int),q):=by
 subst hq;unfold Ey;rw[ai h1,ai (λg=>g h2),fx ((xK hk).trans (aj h0)) hJ hk];rfl
def M6{l:Lw}{x:iT}{h:Hh}(h1:¬HR l x h)(h2:(BK h.2.2.2).2=0)(hJ:∀j,j<h.2.2.2.length->QU l x h j=ae):Ey l x h=(0,0):=by
 unfold Ey;rw[ai h1,ai (λg=>g h2),cq.2 hJ];rfl
def HL{l:List gn}{k:Nat}{f:gn}(h:KG l k f=0):¬FR f/\¬FT f/\¬NU l k f.1:=by
 unfold KG cf at h;by_cases h1:FR f
 .rw[aj h1,aj (by decide)]at h;cases h
 rw[ai h1]at h;by_cases h2:FT f
 .rw[aj h2,aj (by decide)]at h;cases h
 rw[ai h2,ai (by decide)]at h;by_cases h3:NU l k f.1
 .rw[aj h3]at h;cases h
 exact⟨h1,h2,h3⟩
def D5{l:List gn}(h:(BK l).2=0):l.length<=128/\∀k,∀hk:k<l.length,KG l k l[k]=0:=by
 unfold BK at h;by_cases h8:128<l.length
 .rw[aj h8]at h;exact absurd h (by decide)
 rw[ai h8]at h;refine⟨by omega,?_⟩
 cases hf:cX (Tx l) l.length with
 |none=>
  intro k hk;have:=cq.1 hf k hk;rw[xI hk]at this;split at this
  .cases this
  .exact Classical.not_not.1 ‹_›
 |some e=>
  rw[hf]at h;obtain⟨k,hk,he,_⟩:=fq hf;rw[xI hk]at he;split at he
  .cases he;exact absurd h ‹_›
  .cases he
def HM{E:List En}{ins:List Fd}{v:tK}{i:Int}{P6 P8 P3 P0:Prop}{q:Int}(hq:(match Gl ins i with
 |none=>(6:Int)
 |some t=>if((v.1,v.2.1):Ty)≠t then 8 else if¬B4 v.2.2 t E then 3 else 0)=q)(h6:q=6->P6)(h8:q=8->P8)(h3:q=3->P3)(h0:q=0->P0):
  (¬i= -1->(i<0->P6)/\(¬i<0->((ins.length:Int)<=i->P6)/\(¬(ins.length:Int)<=i->Wp (idx ins i) λNV=>
    (¬(v.1:Int)=NV.2.1->P8)/\((v.1:Int)=NV.2.1->(¬(v.2.1:Int)=NV.2.2->P8)/\((v.2.1:Int)=NV.2.2->((v.2.2:Int)<(yI NV.2 E).1->P3)/\(¬(v.2.2:Int)<(yI NV.2 E).1->((yI NV.2 E).2<(v.2.2:Int)->P3)/\(¬(yI NV.2 E).2<(v.2.2:Int)->P0)))))))/\
  (i= -1->(¬(v.1:Int)=1->P8)/\((v.1:Int)=1->(¬(v.2.1:Int)=0->P8)/\((v.2.1:Int)=0->((v.2.2:Int)<(yI ((1:Int),(0:Int)) E).1->P3)/\(¬(v.2.2:Int)<(yI ((1:Int),(0:Int)) E).1->((yI ((1:Int),(0:Int)) E).2<(v.2.2:Int)->P3)/\(¬(yI ((1:Int),(0:Int)) E).2<(v.2.2:Int)->P0))))):=by
 obtain⟨(kd:Int),(en:Int),(n:Int)⟩:=v;dsimp only[aB,Row.den]at*
 have some_:∀t:Ty,Gl ins i=aa t->(¬kd=(t.1:Int)->P8)/\(kd=(t.1:Int)->(¬en=(t.2:Int)->P8)/\(en=(t.2:Int)->(n<(yI t E).1->P3)/\(¬n<(yI t E).1->((yI t E).2<n->P3)/\(¬(yI t E).2<n->P0)))):=λt ht=>by
  rw[ht]at hq;dsimp only at hq;obtain⟨(t1:Int),(t2:Int)⟩:=t;dsimp only at*;refine⟨λg=>h8 ?_,λg1=>⟨λg=>h8 ?_,λg2=>?_⟩⟩
  .rw[<-hq,aj (λe=>g (ay Prod.fst e))]
  .rw[<-hq,aj (λe=>g (ay Prod.snd e))]
  subst g1 g2;rw[ai (λg=>g rfl)]at hq;refine⟨λg=>h3 ?_,λg1=>⟨λg=>h3 ?_,λg2=>h0 ?_⟩⟩
  .rw[<-hq,aj (λe=>by have:=e.1;omega)]
  .rw[<-hq,aj (λe=>by have:=e.2;omega)]
  .rw[<-hq,ai (λe=>e ⟨by omega,by omega⟩)]
 refine⟨λh1=>⟨λh2=>h6 ?_,λh2=>⟨λh=>h6 ?_,λh=>?_⟩⟩,λh=>?_⟩
 .rw[<-hq];unfold Gl;rw[ai h1,aj h2]
 .rw[<-hq];unfold Gl;rw[ai h1,ai h2,List.getElem?_eq_none (by omega)];rfl
 .have hi:i.toNat<ins.length:=by omega
  refine eW.2 ⟨by omega,?_⟩;exact some_ ins[i.toNat].2 (by unfold Gl;rw[ai h1,ai h2,ajb hi];rfl)
 .exact some_ ((1:Int),(0:Int)) (by unfold Gl;rw[aj h])
def xL(l:Lw)(h:Hh):M.dE aU l h=aa (Gm l h):=by
 apply Wp.eq;unfold M.dE;obtain⟨(hid:Int),(sc:Int),(mem:Int),fs⟩:=h;simp only[Tz,vY,W_,av,ax,reduceCtorEq];unfold Gm;dsimp only[aB,Row.den];refine⟨λh=>by rw[aj (.inl h)],λh=>⟨λh'=>by rw[aj (.inr h')],λh'=>?_⟩⟩;rw[ai (by omega)];obtain⟨s,rfl⟩:=ajd (show 0<=sc by omega)
 have hs:s<l.2.2.length:=by omega
 rw[ajg,ajb hs];simp only[QT l s hs,aF hs,W_,av,ax,reduceCtorEq];generalize hx:l.2.2[s]=x;have hR:HR l x (hid,((s:Int),(mem,fs)))↔hid<0\/mem<0\/8<mem\/(mem≠0/\(D4 l x).2=ag):=Iff.rfl
 have bad:HR l x (hid,((s:Int),(mem,fs)))->((-1:Int),(3:Int))=Ey l x (hid,((s:Int),(mem,fs))):=λg=>by unfold Ey;rw[aj g]
 have rest:¬HR l x (hid,((s:Int),(mem,fs)))->(BK fs).2=0->Wp (Loop (S:=Int) (X:=Int×Int) (λs5=>if s5<(fs.length:Int)then(idx fs s5).bind λx6=>if mem<=x6.2.1 then aa (Sum.inr (s5,(6:Int)))else
  (if x6.2.1=(-1:Int)then(aa x).bind λx8=>aa x8.2.2.1 else aa (D4 l x).1:Option (List bA.den)).bind λj7=>cd (J:=aD.den) (R:=Int⊕(Int×Int)) (if¬x6.2.2.1=(-1:Int)then(if x6.2.2.1<(0:Int)then aa af else aa (decide ((j7.length:Int)<=x6.2.2.1)):Option Bool).bind λj10=>if j10=af then aa (Sum.inr (Sum.inr (s5,(6:Int))))else(idx j7 x6.2.2.1).bind λNV=>aa (Sum.inl NV.2)else aa (Sum.inl ((1:Int),(0:Int)))) λj9=>
  (if¬x6.2.2.2.1.1=j9.1 then aa af else aa (!decide (x6.2.2.2.1.2.1=j9.2)):Option Bool).bind λj12=>if j12=af then aa (Sum.inr (s5,(8:Int)))else(aa (yI j9 l.1)).bind λXr=>(if x6.2.2.2.1.2.2<Xr.1 then aa af else aa (decide (Xr.2<x6.2.2.2.1.2.2)):Option Bool).bind λj14=>if j14=af then aa (Sum.inr (s5,(3:Int)))else aa (Sum.inl (ai9.wrap (s5+(1:Int))))else aa (Sum.inr ((0:Int),(0:Int)))) aU (0:Int)) λr=>r=Ey l x (hid,((s:Int),(mem,fs))):=by
  intro n1 n2;have hlen:=(D5 n2).1
  refine Wp.count (λs=>s) fs.length (λk _=>∀j,j<k->QU l x (hid,((s:Int),(mem,fs))) j=ae) (by omega) rfl (λj hj=>by omega) λk c hk uE hJ=>?_
  obtain rfl:c=_:=uE;simp only[W_,av,ax,reduceCtorEq,bf,aX];refine⟨λaG=>?_,λhge=>(M6 n1 n2 λj hj=>hJ j (by have hj:j<fs.length:=hj;omega)).symm⟩
  have aG:k<fs.length:=by omega
  simp only[aF aG,cR (m:=fs.length) (by omega) aG,W_,av,ax,reduceCtorEq]
  have Yj:hE l x mem fs[k]=if mem<=(fs[k].2.1:Int)then 6 else hT l.1 (HK l x fs[k].2.1) fs[k]:=rfl
  have Gn:∀q:Int,q≠0->hE l x mem fs[k]=q->((k:Int),q)=Ey l x (hid,((s:Int),(mem,fs))):=λq h0 hq=>(PG (k:=k) n1 n2 aG hq h0 hJ).symm
  have Bt:hE l x mem fs[k]=0->k<fs.length/\∀j,j<k+1->QU l x (hid,((s:Int),(mem,fs))) j=ae:=λh0=>⟨aG,eL hJ (by rw[xK (h:=(hid,((s:Int),(mem,fs)))) aG];exact ai (λg=>g h0))⟩
  refine⟨λhm=>Gn 6 (by decide) (by rw[Yj,aj hm]),λhm=>?_⟩;rw[ai hm]at Yj;refine⟨λh1=>?_,λh1=>?_⟩
  .refine HM (i:=fs[k].2.2.1) (v:=fs[k].2.2.2.1) (ins:=x.2.2.1) (E:=l.1) (q:=hE l x mem fs[k]) ?_ (Gn 6 (by decide)) (Gn 8 (by decide)) (Gn 3 (by decide)) Bt;rw[Yj];unfold HK;rw[aj h1];rfl
  .refine HM (i:=fs[k].2.2.1) (v:=fs[k].2.2.2.1) (ins:=(D4 l x).1) (E:=l.1) (q:=hE l x mem fs[k]) ?_ (Gn 6 (by decide)) (Gn 8 (by decide)) (Gn 3 (by decide)) Bt;rw[Yj];unfold HK;rw[ai h1];rfl
 have facts:¬HR l x (hid,((s:Int),(mem,fs)))->¬(BK fs).2=0->((BK fs).1,(BK fs).2)=Ey l x (hid,((s:Int),(mem,fs))):=λg1 g2=>by
  unfold Ey;rw[ai g1];exact(aj g2).symm
 refine⟨λg=>bad (hR.2 (.inl g)),λg1=>⟨λg=>bad (hR.2 (.inr (.inl g))),λg2=>⟨λg=>bad (hR.2 (.inr (.inr (.inl g)))),λg3=>⟨λg4=>⟨λg=>bad (hR.2 (.inr (.inr (.inr ⟨g4,g⟩)))),λg5=>?_⟩,λg4=>?_⟩⟩⟩⟩
 .have no:¬HR l x (hid,((s:Int),(mem,fs))):=λh=>by
   rcases hR.1 h with h|h|h|⟨_,h⟩
   .exact g1 h
   .exact g2 h
   .exact g3 h
   .rw[h]at g5;cases g5
  exact⟨facts no,rest no⟩
 .have no:¬HR l x (hid,((s:Int),(mem,fs))):=λh=>by
   rcases hR.1 h with h|h|h|⟨h,_⟩
   .exact g1 h
   .exact g2 h
   .exact g3 h
   .exact h g4
  exact⟨facts no,rest no⟩
def J1(h:Hh):M.gH aU h=aa (decide ((h.2.2.2.length:Int)<=40)):=rfl
end L
namespace L
def xM(fs:List gn)(d r:Int)(m:Int):Prop:=∃f,tM fs m (-1) d r=aa f/\(f.2.2.2.1.1:Int)=1/\(f.2.2.2.1.2.2:Int)=1
noncomputable instance(fs:List gn)(d r m:Int):Decidable (xM fs d r m):=aju _
noncomputable def uM(fs:List gn)(d r:Int)(n:Nat):List Int:=((ajY n).filter λm:Nat=>decide (xM fs d r m)).map λm:Nat=>(m:Int)
noncomputable def pg(h:Hh)(d r:Int):List Int:=uM h.2.2.2 d r (min (h.2.2.1:Int).toNat 8)
def J2(fs:List gn)(d r:Int)(n:Nat):uM fs d r (n+1)=if xM fs d r n then uM fs d r n++[(n:Int)]else uM fs d r n:=by
 unfold uM;rw[List.range_succ,List.filter_append,List.map_append];by_cases h:xM fs d r n
 .rw[aj h,aj6 (by simpa using h)];rfl
 .rw[ai h,aj7 (by simpa using h)];simp
def D6(fs:List gn)(d r:Int)(n:Nat):(uM fs d r n).length<=n:=by
 unfold uM;rw[List.length_map];exact ajs (aj2 _ _) (by simp)
def PH(fs:List gn)(d r m:Int):(((TA (tM fs m (-1) d r)).2=af->((TA (tM fs m (-1) d r)).1.1:Int)=1->((TA (tM fs m (-1) d r)).1.2.2:Int)=1->xM fs d r m))/\(xM fs d r m->(TA (tM fs m (-1) d r)).2=af/\((TA (tM fs m (-1) d r)).1.1:Int)=1/\((TA (tM fs m (-1) d r)).1.2.2:Int)=1):=by
 unfold xM
 cases tM fs m (-1) d r with
 |none=>exact⟨λh=>(by cases h),λ⟨f,h,_⟩=>(by cases h)⟩
 |some f=>exact⟨λ_ h1 h2=>⟨f,rfl,h1,h2⟩,λ⟨g,h,h1,h2⟩=>by cases h;exact⟨rfl,h1,h2⟩⟩
def PI(h:Hh)(d r:Int)(hl:h.2.2.2.length<=100000):M.gI aU h d r=aa (pg h d r):=by
 obtain⟨hid,sc,(mem:Int),fs⟩:=h;apply Wp.eq;unfold M.gI
 have hb:(if(8:Int)<(if mem<0 then 0 else mem)then(8:Int)else(if mem<0 then 0 else mem))=((min mem.toNat 8:Nat):Int):=by omega
 unfold pg;dsimp only[aB,Row.den]at*;simp only[hb]
 refine Wp.count (λs=>s.1) (min mem.toNat 8) (λk s=>s.2=uM fs d r k) (by omega) rfl rfl λk s hk hs hJ=>?_
 obtain⟨i,o⟩:=s;dsimp only at hs hJ;subst hs hJ;simp only[QS fs _ _ _ _ hl,W_,av,ax,reduceCtorEq,bf,aX];refine⟨λaG=>?_,λhge=>by rw[show k=min mem.toNat 8 by omega]⟩
 have aG:k<min mem.toNat 8:=by omega
 have hw:=cR (m:=min mem.toNat 8) (by omega) aG;have hp:=PH fs d r k;have hs:=J2 fs d r k;have hn:=D6 fs d r k
 have no:¬xM fs d r k->k<min mem.toNat 8/\ai9.wrap ((k:Int)+1)=((k+1:Nat):Int)/\uM fs d r k=uM fs d r (k+1):=λg=>⟨aG,hw,by rw[hs,ai g]⟩
 refine⟨λh1=>⟨λh2=>⟨λh3=>?_,λh3=>no λg=>h3 (hp.2 g).2.2⟩,λh2=>no λg=>h2 (hp.2 g).2.1⟩,λh1=>no λg=>by rw[(hp.2 g).1]at h1;cases h1⟩;refine nS.2 ⟨by simp;omega,aG,hw,?_⟩;rw[hs,aj (hp.1 h1 h2 h3)]
noncomputable def mS(fs:List gn)(m d r:Int):Nat->Option (List tK)
 |0=>aa []
 |n+1=>match mS fs m d r n,tM fs m n d r with
  |some vs,aa f=>aa (vs++[f.2.2.2.1])
  |_,_=>ae
def ab3(o:Option (List tK)):Bool×List tK:=match o with
 |some vs=>(af,vs)
 |none=>(ag,[])
def rv{fs:List gn}{m d r:Int}:∀{n:Nat}{vs:List tK},mS fs m d r n=aa vs->vs.length=n
 |0,vs,h=>by cases h;rfl
 |n+1,vs,h=>by
  rw[mS]at h;split at h
  .rename_i us f h1 _;cases h;simp[rv h1]
  .cases h
def xN{fs:List gn}{m d r:Int}{k:Nat}(h:tM fs m k d r=ae):∀{n:Nat},k<n->mS fs m d r n=ae
 |0,hn=>by omega
 |n+1,hn=>by
  rw[mS]
  rcases Nat.lt_succ_iff_lt_or_eq.1 hn with h1|rfl
  .rw[xN h h1]
  .rw[h];split
   .rename_i h2;cases h2
   .rfl
def PJ(l:List tK)(m:Nat)(z v:tK):b8 (l++aji (m+1) z) (l.length:Int) v=(l++[v])++aji m z:=by
 unfold b8;rw[ajg,List.set_append_right _ _ (ajh _),Nat.sub_self,List.replicate_succ,List.set_cons_zero];simp
def D7(fs:List gn)(m:Int)(n:Nat)(d r:Int)(hl:fs.length<=100000)(hn:n<=100000):M.fD aU fs m (n:Int) d r=aa (ab3 (mS fs m d r n)):=by
 apply Wp.eq;unfold M.fD;rw[wp_bind];refine sq.2 ⟨by omega,?_⟩;rw[ajg,List.length_replicate];generalize hz:(((0:Int),((0:Int),(0:Int))):tK)=z
 refine Wp.count (λs=>s.1) n (λk s=>∃vs,mS fs m d r k=aa vs/\s.2=vs++aji (n-k) z) (by omega) rfl ⟨[],rfl,rfl⟩ λk s hk hs hJ=>?_
 obtain⟨i,o⟩:=s;obtain⟨vs,hv,ho⟩:=hJ;dsimp only at hs ho;subst hs ho;simp only[QS fs _ _ _ _ hl,W_,av,ax,reduceCtorEq,bf,aX];have hlen:=rv hv;refine⟨λaG=>?_,λhge=>?_⟩
 .have aG:k<n:=by omega
  cases ha:tM fs m (k:Int) d r with
  |none=>
   refine⟨λ_=>(by rw[xN ha aG];rfl),λg=>(by cases g)⟩
  |some f=>
   refine⟨λg=>(by cases g),λ_=>eW.2 ⟨by simp;omega,aG,cR (m:=n) (by omega) aG,vs++[f.2.2.2.1],?_,?_⟩⟩
   .rw[mS,hv,ha]
   .show b8 (vs++aji (n-k) z) (k:Int) f.2.2.2.1=_
    rw[show n-k=(n-(k+1))+1 by omega,<-hlen,PJ]
 .obtain rfl:n=k:=by omega
  rw[hv,Nat.sub_self]
  show _=(af,vs)
  simp
def xO{α:Type}(g:Nat->Option α):Nat->Option (List α)
 |0=>aa []
 |n+1=>match xO g n,g n with
  |some vs,aa v=>aa (vs++[v])
  |_,_=>ae
def qI{α:Type}{g:Nat->Option α}:∀{n:Nat}{vs:List α},xO g n=aa vs->vs.length=n
 |0,vs,h=>by cases h;rfl
 |n+1,vs,h=>by
  rw[xO]at h;split at h
  .rename_i us f h1 _;cases h;simp[qI h1]
  .cases h
def Ab{α:Type}{g:Nat->Option α}{k:Nat}(h:g k=ae):∀{n:Nat},k<n->xO g n=ae
 |0,hn=>by omega
 |n+1,hn=>by
  rw[xO]
  rcases Nat.lt_succ_iff_lt_or_eq.1 hn with h1|rfl
  .rw[Ab h h1]
  .rw[h];split
   .rename_i h2;cases h2
   .rfl
noncomputable def D8(fs:List gn)(ms:List Int)(d r:Int)(n:Nat)(k:Nat):Option (List tK):=match ms[k]? with
 |some m=>mS fs m d r n
 |none=>ae
abbrev Cs:Type:=Int×Int×List tK×List (List tK)
noncomputable def D9(l:Lw)(x:iT)(h:Hh)(d r:Int):Cs:=if d<0\/109572<d then(0,3,[],[])else match mS h.2.2.2 (-1) d r x.2.2.1.length with
 |none=>(0,6,[],[])
 |some vs=>match xO (D8 h.2.2.2 (pg h d r) d r (D4 l x).1.length) (pg h d r).length with
  |none=>(0,6,[],[])
  |some ms=>(d,0,vs,ms)
noncomputable def pZ(l:Lw)(h:Hh)(d r:Int):Cs:=if Bo l≠Mu then(0,1,[],[])else if(Gm l h).2≠0 then(0,1,[],[])else match l.2.2[(h.2.1:Int).toNat]? with
 |some x=>D9 l x h d r
 |none=>(0,1,[],[])
def mT{l:Lw}{h:Hh}(hz:(Gm l h).2=0):∃s:Nat,(h.2.1:Int)=s/\∃hs:s<l.2.2.length,(Ey l l.2.2[s] h).2=0:=by
 unfold Gm at hz;split at hz
 .cases hz
 rename_i hn;obtain⟨hid,(sc:Int),z⟩:=h;dsimp only[aB,Row.den]at*;obtain⟨s,rfl⟩:=ajd (show 0<=sc by omega)
 have hs:s<l.2.2.length:=by omega
 rw[ajg,ajb hs]at hz;exact⟨s,rfl,hs,hz⟩
def M7{l:Lw}(eY:dG l){x:iT}:(D4 l x).1.length<=14:=by
 unfold D4;split
 .exact ajB _
 split
 .rename_i y hy;obtain⟨hi,rfl⟩:=ajr.1 hy;exact(eY.2.2.2.2.2 _ (aje hi)).2.1
 .exact ajB _
def xP(h:Hh)(d r:Int):(pg h d r).length<=8:=by
 have:=D6 h.2.2.2 d r (min (h.2.2.1:Int).toNat 8);unfold pg;omega
def xQ(l:Lw)(h:Hh)(d r:Int)(hw:WF bG l)(eY:dG l)(hf:h.2.2.2.length<=100000):M.fu aU l h d r=aa (pZ l h d r):=by
 apply Wp.eq;unfold M.fu;simp only[Bz l hw eY,xL,PI h d r hf,W_,av,ax,reduceCtorEq];unfold pZ;refine⟨λg=>?_,λg=>?_⟩
 .rw[aj];intro e;rw[e,show pT aC Mu ((0:Int),((0:Int),((0:Int),(0:Int))))=af from Av.2 rfl]at g;cases g
 have hv:Bo l=Mu:=Av.1 g;rw[ai (λq=>q hv)];refine⟨λg=>by rw[aj g],λg=>?_⟩;rw[ai (λq=>q g)];obtain⟨s,M8,hs,hx⟩:=mT g;rw[M8,ajg,ajb hs];have yZ:=eY.2.2.2.2.2 _ (aje hs);simp only[QT l s hs,aF hs,W_,av,ax,reduceCtorEq];generalize l.2.2[s]=x at*;have Rb:=M7 (l:=l) eY (x:=x);have Hw:=yZ.2.1;have Q8:=xP h d r;unfold D9;simp only[D7 h.2.2.2 _ _ d r hf (show x.2.2.1.length<=100000 by omega),D7 h.2.2.2 _ _ d r hf (show(D4 l x).1.length<=100000 by omega),W_,av,ax,reduceCtorEq];refine⟨λg=>by rw[aj (.inl g)],λg1=>⟨λg=>by rw[aj (.inr g)],λg2=>?_⟩⟩;rw[ai (by omega)]
 cases vD:mS h.2.2.2 (-1) d r x.2.2.1.length with
 |none=>exact⟨λ_=>rfl,λg=>(by cases g)⟩
 |some vs=>
  refine⟨λg=>(by cases g),λ_=>?_⟩
  refine Wp.count (λs=>s.1) (pg h d r).length (λk s=>s.2.1=d/\s.2.2.1=vs/\xO (D8 h.2.2.2 (pg h d r) d r (D4 l x).1.length) k=aa s.2.2.2) (by omega) rfl ⟨rfl,rfl,rfl⟩ λk s hk hs hJ=>?_
  obtain⟨i,a,b,o⟩:=s;obtain⟨ha,hb,hJ⟩:=hJ;dsimp only at hs hJ ha hb;subst hs ha hb;simp only[W_,av,ax,reduceCtorEq,bf,aX];refine⟨λaG=>?_,λhge=>?_⟩
  .have aG:k<(pg h a r).length:=by omega
   have hg:D8 h.2.2.2 (pg h a r) a r (D4 l x).1.length k=mS h.2.2.2 (pg h a r)[k] a r (D4 l x).1.length:=by
    unfold D8;rw[ajb aG]
   have hlen:=qI hJ;simp only[aF aG,cR (m:=(pg h a r).length) (by omega) aG,W_,av,ax,reduceCtorEq]
   cases sJ:mS h.2.2.2 (pg h a r)[k] a r (D4 l x).1.length with
   |none=>
    refine⟨λ_=>?_,λg=>(by cases g)⟩;rw[Ab (hg.trans sJ) aG]
   |some us=>
    refine⟨λg=>(by cases g),λ_=>nS.2 ⟨by simp;omega,aG,?_⟩⟩;rw[xO,hJ,hg,sJ];simp;rfl
  .obtain rfl:k=(pg h a r).length:=by omega
   rw[hJ]
def M9(c:Cs):Prop:=c.2.2.1.length<=1048576/\c.2.2.2.length<=1048576/\∀x∈c.2.2.2,x.length<=1048576
def Ea{α:Type}{g:Nat->Option α}:∀{n:Nat}{vs:List α},xO g n=aa vs->∀k,∀h:k<vs.length,g k=aa vs[k]
 |0,vs,h,k,hk=>by cases h;cases hk
 |n+1,vs,h,k,hk=>by
  rw[xO]at h;split at h
  case h_2=>cases h
  rename_i us v h1 h2;cases h;by_cases e:k<us.length
  .rw[ajM e];exact Ea h1 k e
  .have:k=us.length:=by simp at hk;omega
   subst this;rw[ajU (ajh _)];have:=qI h1;simp only[Nat.sub_self,List.getElem_singleton];rw[this];exact h2
def Eb{l:Lw}(eY:dG l)(h:Hh)(d r:Int):M9 (pZ l h d r):=by
 have e:∀a b:Int,M9 (a,b,[],[]):=λa b=>⟨ajB _,ajB _,λx hx=>by cases hx⟩
 unfold pZ;split
 .exact e ..
 split
 .exact e ..
 split
 case h_2=>exact e ..
 rename_i x hx;obtain⟨hi,rfl⟩:=ajr.1 hx;have Hw:=(eY.2.2.2.2.2 _ (aje hi)).2.1;generalize l.2.2[(h.2.1:Int).toNat]=x at*;have Rb:=M7 (l:=l) eY (x:=x);have Q8:=xP h d r;unfold D9;split
 .exact e ..
 split
 .exact e ..
 rename_i vs Zw;split
 .exact e ..
 rename_i ms OO;have l1:=rv Zw;have l2:=qI OO;refine⟨by show vs.length<=_;omega,by show ms.length<=_;omega,λy hy=>?_⟩;obtain⟨k,hk,rfl⟩:=ajm hy;have:=Ea OO k hk;unfold D8 at this;split at this
 .exact ajs (Nat.le_of_eq (rv this)) (by omega)
 .cases this
end L
namespace L
def Gp{f g h:gn}(h1:sA f g)(h2:¬sA h g):¬sA h f:=by
 obtain⟨(a:Int),b,c,x,v,(rc:Int)⟩:=f;obtain⟨(a':Int),b',c',x',v',(rc':Int)⟩:=g;obtain⟨(a2:Int),b2,c2,x2,v2,(rc2:Int)⟩:=h;unfold sA at*;dsimp only[aB,Row.den]at*;omega
def vu(f:gn):¬sA f f:=by
 obtain⟨(a:Int),b,c,x,v,(rc:Int)⟩:=f;unfold sA;dsimp only[aB,Row.den]at*;omega
def Na{f g:gn}(h1:¬sA f g)(h2:¬sA g f):(f.1:Int)=g.1:=by
 obtain⟨(a:Int),b,c,x,v,(rc:Int)⟩:=f;obtain⟨(a':Int),b',c',x',v',(rc':Int)⟩:=g;unfold sA at*;dsimp only[aB,Row.den]at*;omega
def Gq(l:List gn)(m i d r:Int):Option gn->Prop
 |none=>∀g∈l,¬Mt m i d r g
 |some f=>f∈l/\Mt m i d r f/\∀g∈l,Mt m i d r g->¬sA g f
def Ec(m i d r:Int)(l:List gn):Gq l m i d r (tM l m i d r):=by
 suffices∀(l p:List gn)(o:Option gn),Gq p m i d r o->Gq (p++l) m i d r (l.foldl (pR m i d r) o)from this l [] ae (λg hg=>by cases hg)
 intro l
 induction l with
 |nil=>intro p o h;simpa using h
 |cons f l ih=>
  intro p o h;rw[List.foldl_cons,show p++f::l=(p++[f])++l by simp];refine ih _ _ ?_;unfold pR;by_cases hm:Mt m i d r f
  .rw[aj hm]
   cases o with
   |none=>
    refine⟨by simp,hm,λg hg PK=>?_⟩
    rcases ajt.1 hg with hg|hg
    .exact absurd PK (h g hg)
    .rw[ajy.1 hg];exact vu f
   |some q=>
    obtain⟨h1,h2,h3⟩:=h;dsimp only;by_cases hw:sA f q
    .rw[aj hw];refine⟨by simp,hm,λg hg PK=>?_⟩
     rcases ajt.1 hg with hg|hg
     .exact Gp hw (h3 g hg PK)
     .rw[ajy.1 hg];exact vu f
    .rw[ai hw];refine⟨by simp[h1],h2,λg hg PK=>?_⟩
     rcases ajt.1 hg with hg|hg
     .exact h3 g hg PK
     .rw[ajy.1 hg];exact hw
  .rw[ai hm]
   cases o with
   |none=>
    intro g hg
    rcases ajt.1 hg with hg|hg
    .exact h g hg
    .rw[ajy.1 hg];exact hm
   |some q=>
    obtain⟨h1,h2,h3⟩:=h;refine⟨by simp[h1],h2,λg hg PK=>?_⟩
    rcases ajt.1 hg with hg|hg
    .exact h3 g hg PK
    .rw[ajy.1 hg]at PK;exact absurd PK hm
def J3{l l':List gn}{m i d r:Int}(hu:∀x∈l,∀y∈l,(x.1:Int)=y.1->x=y)(h:∀x,Mt m i d r x->(x∈l↔x∈l')):tM l m i d r=tM l' m i d r:=by
 have h1:=Ec m i d r l;have h2:=Ec m i d r l'
 cases e1:tM l m i d r with
 |none=>
  cases e2:tM l' m i d r with
  |none=>rfl
  |some f=>
   rw[e1]at h1;rw[e2]at h2;exact absurd h2.2.1 (h1 f ((h f h2.2.1).2 h2.1))
 |some f=>
  rw[e1]at h1
  cases e2:tM l' m i d r with
  |none=>
   rw[e2]at h2;exact absurd h1.2.1 (h2 f ((h f h1.2.1).1 h1.1))
  |some g=>
   rw[e2]at h2;have hg:=(h g h2.2.1).2 h2.1;have hf:=(h f h1.2.1).1 h1.1;rw[hu f h1.1 g hg (Na (h2.2.2 f hf h1.2.1) (h1.2.2 g hg h2.2.1))]
def gp(l:List gn):Prop:=l.Pairwise λa b=>(a.1:Int)≠b.1
def gp.Tt{l:List gn}(h:gp l):∀x∈l,∀y∈l,(x.1:Int)=y.1->x=y:=by
 induction l with
 |nil=>intro x hx;cases hx
 |cons a l ih=>
  obtain⟨h1,h2⟩:=aka.1 h;intro x hx y hy e
  rcases ajQ.1 hx with rfl|hx'<;>rcases ajQ.1 hy with rfl|hy'
  .rfl
  .exact absurd e (h1 _ hy')
  .exact absurd e.symm (h1 _ hx')
  .exact ih h2 x hx' y hy' e
def tN{l:List gn}:gp l↔∀k,∀h:k<l.length,¬NU l k l[k].1:=by
 constructor
 .rintro h k hk ⟨y,hy,e⟩
  obtain⟨j,hj,rfl⟩:=List.mem_take_iff_getElem.1 hy;exact List.pairwise_iff_getElem.1 h j k (by omega) hk (by omega) e
 .intro h
  refine List.pairwise_iff_getElem.2 λi j hi hj T6 e=>h j hj ⟨_,List.mem_take_iff_getElem.2 ⟨i,by omega,rfl⟩,e⟩
def oC{l:List gn}:(BK l).2=0↔l.length<=128/\(∀f∈l,cf f=0)/\gp l:=by
 constructor
 .intro h;obtain⟨h1,h2⟩:=D5 h;refine⟨h1,λf hf=>?_,tN.2 λk hk=>(HL (h2 k hk)).2.2⟩;obtain⟨k,hk,rfl⟩:=ajm hf;obtain⟨g1,g2,_⟩:=HL (h2 k hk);unfold cf;rw[ai g1,ai g2]
 .rintro⟨h1,h2,h3⟩
  rw[M4 (by omega) λj hj=>?_];rw[xI hj,ai];unfold KG;rw[ai (λg=>g (h2 _ (aje hj))),ai (tN.1 h3 j hj)]
  exact λg=>g rfl
def oD{l:Lw}{x:iT}{h:Hh}:(Ey l x h).2=0↔¬HR l x h/\(BK h.2.2.2).2=0/\∀f∈h.2.2.2,hE l x h.2.2.1 f=0:=by
 by_cases h1:HR l x h
 .refine aA ?_ λg=>g.1 h1
  unfold Ey;rw[aj h1]
  exact by decide
 by_cases h2:(BK h.2.2.2).2=0
 case neg=>
  refine aA ?_ λg=>h2 g.2.1
  unfold Ey;rw[ai h1,aj h2];exact h2
 by_cases h3:∀f∈h.2.2.2,hE l x h.2.2.1 f=0
 .refine iff_of_true ?_ ⟨h1,h2,h3⟩;rw[M6 h1 h2 λj hj=>by rw[xK hj,ai (λg=>g (h3 _ (aje hj)))]]
 .refine aA (λg=>h3 λf hf=>?_) λg=>h3 g.2.2
  obtain⟨k,hk,rfl⟩:=ajm hf
  refine Classical.not_not.1 λh0=>?_
  unfold Ey at g;rw[ai h1,ai (λq=>q h2)]at g
  cases hf:cX (QU l x h) h.2.2.2.length with
  |none=>
   have:=cq.1 hf k hk;rw[xK hk,aj h0]at this;cases this
  |some e=>
   obtain⟨j,hj,he,_⟩:=fq hf;rw[xK hj]at he;split at he
   .cases he;rw[hf]at g;exact absurd g ‹_›
   .cases he
structure Alike(r:Int)(fs nW:List gn):Prop where
 len:nW.length<=fs.length
 sub:∀x∈nW,x∈fs
 dis:gp nW
 all:∀x∈fs,(x.2.2.2.2.2:Int)<=r->x∈nW
def Alike.tM{r:Int}{fs nW:List gn}(h:Alike r fs nW)(hd:gp fs)(m i d:Int):L.tM nW m i d r=L.tM fs m i d r:=
 (J3 hd.Tt λx hx=>⟨λg=>h.all x g hx.2.2.1,λg=>h.sub x g⟩).symm
def Alike.TB{r:Int}{fs nW:List gn}(h:Alike r fs nW)(hd:gp fs)(m d:Int):∀n,mS nW m d r n=mS fs m d r n
 |0=>rfl
 |n+1=>by rw[mS,mS,h.TB hd m d n,h.tM hd]
def Alike.mem{r:Int}{fs nW:List gn}(h:Alike r fs nW)(hd:gp fs)(d:Int)(n:Nat):uM nW d r n=uM fs d r n:=by
 have:∀m:Nat,xM nW d r m↔xM fs d r m:=λm=>by unfold xM;rw[h.tM hd]
 unfold uM
 congr 1
 exact List.filter_congr λm _=>decide_eq_decide.2 (this m)
def Alike.Xs{r:Int}{l:Lw}{a b c:Int}{fs nW:List gn}(h:Alike r fs nW)(hv:(Gm l (a,(b,(c,fs)))).2=0)(d:Int):
 pZ l (a,(b,(c,nW))) d r=pZ l (a,(b,(c,fs))) d r/\pg (a,(b,(c,nW))) d r=pg (a,(b,(c,fs))) d r:=by
 obtain⟨s,M8,hs,hx⟩:=mT hv;obtain⟨h1,h2,h3⟩:=oD.1 hx;obtain⟨g1,g2,g3⟩:=oC.1 h2;have g1:fs.length<=128:=g1;have g3:gp fs:=g3;have hm:pg (a,(b,(c,nW))) d r=pg (a,(b,(c,fs))) d r:=h.mem g3 d _;have M8:b=(s:Int):=M8;subst M8
 have dZ:(Gm l (a,((s:Int),(c,nW)))).2=0:=by
  unfold Gm;dsimp only;rw[ai (show¬((s:Int)<0\/(l.2.2.length:Int)<=(s:Int)) by omega),ajg,ajb hs];exact oD.2 ⟨h1,oC.2 ⟨ajs h.len g1,λf hf=>g2 f (h.sub f hf),h.dis⟩,λf hf=>h3 f (h.sub f hf)⟩
 refine⟨?_,hm⟩;unfold pZ;rw[hv,dZ];dsimp only;rw[ajg,ajb hs];unfold D9;rw[hm];dsimp only;rw[h.TB g3]
 have hg:D8 nW (pg (a,((s:Int),(c,fs))) d r) d r (D4 l l.2.2[s]).1.length=D8 fs (pg (a,((s:Int),(c,fs))) d r) d r (D4 l l.2.2[s]).1.length:=by
  funext k;unfold D8;split
  .exact h.TB g3 _ _ _
  .rfl
 rw[hg]
end L
namespace L
def J4(a b:Int):Bool:=decide (a<=b)
def Gr{l l':List Int}(h:l.Perm l'):l.mergeSort J4=l'.mergeSort J4:=by
 have ht:∀a b c:Int,J4 a b=af->J4 b c=af->J4 a c=af:=by unfold J4;simp only[az];omega
 have ho:∀a b:Int,(J4 a b||J4 b a)=af:=by unfold J4;simp only[Bool.or_eq_true,az];omega
 refine List.Perm.eq_of_pairwise (le:=λa b=>J4 a b=af) ?_ (List.pairwise_mergeSort ht ho l) (List.pairwise_mergeSort ht ho l') (((List.mergeSort_perm l J4).trans h).trans (List.mergeSort_perm l' J4).symm);unfold J4;simp only[az];intro a b _ _ h1 h2;omega
def Gs{l l':List Int}(h:l.Perm l'):ll l=ll l':=Gr h
end L
namespace L
abbrev Cf:Type:=aO.den
def BL(y m:Int):Wp (M.cK aU y m) λ_=>True:=by
 unfold M.cK
 refine Wp.seq (λj=>j=ag->1<=m/\m<=12) (.dec (λ_=> .some λh=>by cases h) λh=> .some λg=>⟨by omega,ajT.1 (ao g)⟩) λj hj=>?_
 refine .ite (λ_=> .some trivial) λc=>?_
 have hm:=hj (by simpa using c)
 refine Wp.seq (λ_=>True) ?_ λj _=> .ite (λ_=> .some trivial) λ_=>?_
 .refine .dec (λ_=>?_) λ_=> .some trivial
  unfold M.oh;refine .bind (Wp.seq (λ_=>True) (.dec (λ_=> .eC (λ_=> .some trivial) λ_=> .some trivial) λ_=> .some trivial) λ_ _=> .some (.some trivial))
 .rw[aW (by omega) (by omega)];obtain⟨k,hk⟩:=ajd (show 0<=m-1 by omega);exact .bind (.idx k hk (show k<12 by omega) (.some trivial))
def Nb(m:Int):Wp (M.pF aU m) λ_=>True:=by
 unfold M.pF M.mP
 refine Wp.seq (λ_=>True) (Wp.seq (λ_=>True) (.dec (λ_=> .some trivial) λ_=> .some trivial) λ_ _=> .some trivial) λj _=> .ite (λ_=> .some trivial) λ_=>Wp.seq _ (BL _ _) λ_ _=> .some trivial
def PL(y m d:Int):Wp (M.il aU y m d) λ_=>True:=by
 unfold M.il
 refine Wp.seq (λj=>j=ag->1<=m/\m<=12) ?_ λj hj=>?_
 .refine .dec (λ_=> .some λh=>by cases h) λ_=> .dec (λ_=> .some λh=>by cases h) λ_=> .dec (λ_=> .some λh=>by cases h) λh1=> .dec (λ_=> .some λh=>by cases h) λh2=> .dec (λ_=> .some λh=>by cases h) λ_=>Wp.seq _ (BL _ _) λ_ _=> .some λ_=>⟨by omega,by omega⟩
 refine .ite (λ_=> .some trivial) λc=>?_
 have hm:=hj (by simpa using c)
 refine Wp.seq (λ_=>True) ?_ λy3 _=>Wp.seq (λ_=>True) ?_ λ_ _=> .some trivial
 .unfold M.eH M.jF;exact .bind (.some (.bind (.some (.some trivial))))
 .refine Wp.count (λs=>s.2) (m-1).toNat (λ_ _=>True) (by omega) rfl trivial λk s hk hs _=>?_
  obtain⟨a,c⟩:=s;dsimp only at hs;subst hs;rw[aW (n:=m-1) (by omega) (by omega)]
  exact .dec (λh=>Wp.seq _ (BL _ _) λ_ _=> .some ⟨by dsimp only at h;omega,aS (by omega),trivial⟩) λ_=> .some trivial
def Ac(m:Int):Wp (M.ln aU m) λ_=>True:=by
 unfold M.ln M.mP
 refine Wp.seq (λ_=>True) (Wp.seq (λ_=>True) (.dec (λ_=> .some trivial) λ_=> .some trivial) λ_ _=> .some trivial) λj _=> .ite (λ_=> .some trivial) λ_=>Wp.seq _ (PL _ _ _) λ_ _=> .eC (λ_=> .some trivial) λ_=>Wp.seq _ (Nb _) λ_ _=> .some trivial
def kg(r:Ty):Prop:=VR r/\(r.1:Int)<(r.2:Int)
instance(r:Ty):Decidable (kg r):=by unfold kg;infer_instance
def Gt(r:Ty):M.dP aU r=aa (decide (kg r)):=by
 obtain⟨(r1:Int),(r2:Int)⟩:=r;apply Wp.eq;unfold M.dP;simp only[uG,W_,av,ax,reduceCtorEq];unfold kg;dsimp only[aB,Row.den]
 by_cases h:VR ((r1,r2):Ty)<;>simp only[h,W_,av,ax,reduceCtorEq]
def TC(l:List Int):(ajN l).length<=l.length:=by
 unfold ajN Go.Lib.compactUpTo;rw[List.length_map];exact ajs (aj2 _ _) (by simp)
def p9(l:List Int):List Int:=ajN (ll l)
def mU(l:List Int):(p9 l).length<=l.length:=by
 have h1:=TC (ll l);have h2:(ll l).length=l.length:=List.length_mergeSort ..;unfold p9;omega
def J5{l l':List Int}(h:l.Perm l'):p9 l=p9 l':=by unfold p9;rw[Gs h]
def xR{l:List Int}{y:Int}:y∈p9 l↔y∈l:=by
 unfold p9;rw[vq];unfold ll;exact List.mem_mergeSort
def v7{l:List Int}(h:l.length<=1000000000){α:Type}{k:List Int->Option α}:((M.bQ aU l).bind λy=>(M.bz aU y).bind k)=k (p9 l):=by
 have h2:(ll l).length=l.length:=List.length_mergeSort ..
 have e1:M.bQ aU l=aa (ll l):=by
  unfold M.bQ zG;rw[aj (by omega)]
 have e2:M.bz aU (ll l)=aa (ajN (ll l)):=by
  unfold M.bz pb;rw[aj (by omega)]
 rw[e1,ai8,e2,ai8];rfl
def ph(R:List Ty):List Int:=R.flatMap λr=>if kg r then[(r.1:Int),r.2]else[]
def pj(R:List Ty):(ph R).length<=2*R.length:=by
 unfold ph
 induction R with
 |nil=>simp
 |cons r R ih=>
  have e:(if kg r then[(r.1:Int),r.2]else[]).length<=2:=by split<;>simp
  rw[List.flatMap_cons,List.length_append,ajp];omega
def uN(R:List Ty)(h:R.length<=100000000):M.dN aU R=aa (p9 (ph R)):=by
 unfold M.dN;have hl:=pj R;refine Wp.eq (Wp.seq (λo=>o=ph R) ?_ λo ho=>?_)
 .refine Wp.count (λs=>s.1) R.length (λk s=>s.2=ph (R.take k)) (by omega) rfl rfl λk s hk hs hJ=>?_
  obtain⟨c,o⟩:=s;dsimp only at hs hJ;subst hs hJ
  refine .dec (λaG=>?_) λhge=>?_
  .have aG:k<R.length:=by dsimp only at aG;omega
   have ht:ph (R.take (k+1))=ph (R.take k)++(if kg R[k]then[(R[k].1:Int),R[k].2]else[]):=by
    rw[<-ajk aG];unfold ph;rw[List.flatMap_append,List.flatMap_cons,List.flatMap_nil,ajS]
   have iU:=pj (R.take k)
   have Pk:(R.take k).length<=k:=by simp;omega
   dsimp only
   refine Wp.seq (λo'=>o'=ph (R.take (k+1))) ?_ λo' jY=> .some ⟨aG,aS (by omega),jY⟩
   rw[aF aG,ai8,Gt,ai8,ht]
   refine .dec (λhd=>?_) λhd=>?_
   .rw[aj hd];exact .bind (.app (by simp;omega) (.some rfl))
   .rw[ai hd];exact .some (by simp)
  .have hge:k=R.length:=by dsimp only at hge;omega
   subst hge;exact .some (show ph (R.take R.length)=ph R by rw[ajn])
 .subst ho;rw[v7 (by omega)];exact .some rfl
def mg(fs:List gn)(r:Int):List Ty:=(fs.filter λf=>decide ((f.2.2.2.2.2:Int)<=r/\NE f.2.2.2.2.1)).map λf=>f.2.2.2.2.1
def p4(d:Int):Bool:=decide (1<=d/\d<=109572)
def tO(fs:List gn)(r:Int):List Int:=(p9 (ph (mg fs r))).filter p4
def uO(fs:List gn)(r:Int):(mg fs r).length<=fs.length:=by
 unfold mg;rw[List.length_map];exact aj2 _ _
def Gu{fs nW:List gn}(h:fs.Perm nW)(r:Int):tO fs r=tO nW r:=by
 unfold tO mg ph;rw[J5 (((h.filter _).map _).flatMap_right _)]
def Ad(fs:List gn)(r:Int):(tO fs r).length<=2*fs.length:=by
 have h1:=uO fs r;have h2:=pj (mg fs r);have h3:=mU (ph (mg fs r));have h4:(tO fs r).length<=(p9 (ph (mg fs r))).length:=aj2 _ _;omega
def Ed(fs:List gn)(r:Int)(h:fs.length<=1000000):M.gj aU fs r=aa (tO fs r):=by
 unfold M.gj;have hl:=uO fs r;refine Wp.eq (Wp.seq (λo=>o=mg fs r) ?_ λo ho=>?_)
 .refine Wp.count (λs=>s.1) fs.length (λk s=>s.2=mg (fs.take k) r) (by omega) rfl rfl λk s hk hs hJ=>?_
  obtain⟨c,o⟩:=s;dsimp only at hs hJ;subst hs hJ
  refine .dec (λaG=>?_) λhge=>?_
  .have aG:k<fs.length:=by dsimp only at aG;omega
   have ht:mg (fs.take (k+1)) r=mg (fs.take k) r++(if(fs[k].2.2.2.2.2:Int)<=r/\NE fs[k].2.2.2.2.1 then[fs[k].2.2.2.2.1]else[]):=by
    rw[<-ajk aG];unfold mg;rw[List.filter_append,List.map_append]
    congr 1
    by_cases g:(fs[k].2.2.2.2.2:Int)<=r/\NE fs[k].2.2.2.2.1
    .rw[aj g,aj6 (by simpa using g)];rfl
    .rw[ai g,aj7 (by simpa using g)];rfl
   have iU:=uO (fs.take k) r
   have Pk:(fs.take k).length<=k:=by simp;omega
   dsimp only
   refine Wp.seq (λo'=>o'=mg (fs.take (k+1)) r) ?_ λo' jY=> .some ⟨aG,aS (by omega),jY⟩
   rw[aF aG,ai8,ht]
   refine Wp.seq (λj=>j=decide ((fs[k].2.2.2.2.2:Int)<=r/\NE fs[k].2.2.2.2.1)) ?_ λj hj=>?_
   .refine .dec (λg=>?_) λg=> .some (au λq=>g q.1).symm
    rw[ne_eq];exact .bind (.some (.some (decide_eq_decide.2 ⟨λq=>⟨g,q⟩,λq=>q.2⟩)))
   .subst hj
    refine .dec (λg=>?_) λg=>?_
    .rw[aj g];exact .bind (.app (by simp;omega) (.some rfl))
    .rw[ai g];exact .some (by simp)
  .have hge:k=fs.length:=by dsimp only at hge;omega
   subst hge;exact .some (show mg (fs.take fs.length) r=mg fs r by rw[ajn])
 .subst ho;have h2:=pj (mg fs r);have h3:=mU (ph (mg fs r));rw[uN _ (by omega),ai8];unfold tO;generalize p9 (ph (mg fs r))=D at*
  refine Wp.count (λs=>s.1) D.length (λk s=>s.2=(D.take k).filter p4) (by omega) rfl rfl λk s hk hs hJ=>?_
  obtain⟨c,o⟩:=s;dsimp only at hs hJ;subst hs hJ
  refine .dec (λaG=>?_) λhge=>?_
  .have aG:k<D.length:=by dsimp only at aG;omega
   have ht:(D.take (k+1)).filter p4=(D.take k).filter p4++(if p4 D[k]=af then[D[k]]else[]):=by
    rw[<-ajk aG,List.filter_append]
    congr 1
    by_cases g:p4 D[k]=af
    .rw[aj g,aj6 g];rfl
    .rw[ai g,aj7 g];rfl
   have iU:=aj2 p4 (D.take k)
   have Pk:(D.take k).length<=k:=by simp;omega
   dsimp only
   refine Wp.seq (λo'=>o'=(D.take (k+1)).filter p4) ?_ λo' jY=> .some ⟨aG,aS (by omega),jY⟩
   rw[aF aG,ai8,ht]
   refine Wp.seq (λj=>j=p4 D[k]) ?_ λj hj=>?_
   .unfold p4
    refine .dec (λg=> .some (decide_eq_decide.2 ⟨λq=>⟨g,q⟩,λq=>q.2⟩)) λg=> .some (au λq=>g q.1).symm
   .subst hj
    refine .ite (λg=>?_) λg=>?_
    .rw[aj g];exact .bind (.app (by simp;omega) (.some rfl))
    .rw[ai g];exact .some (by simp)
  .have hge:k=D.length:=by dsimp only at hge;omega
   subst hge;exact .some (show(D.take D.length).filter p4=D.filter p4 by rw[ajn])
def Gv{α β:Type}(L:List α)(f:α->β)(o:List β)(h:o.length+L.length<=4294967296):Wp (Loop (S:=Int×List β) (X:=List β) (λs=>
(if(decide (s.1<(L.length:Int)))=af then
(idx L s.1).bind λx=>
(cu s.2 ([f x]:List β)).bind λl=>
some (Sum.inl (ai9.wrap (s.1+(1:Int)),l))
else
some (Sum.inr s.2))) aU ((0:Int),o)) λr=>r=o++L.map f:=by
 refine Wp.count (λs=>s.1) L.length (λk s=>s.2=o++(L.take k).map f) (by omega) rfl (by simp) λk s hk hs hJ=>?_
 obtain⟨c,q⟩:=s;dsimp only at hs hJ;subst hs hJ
 refine .dec (λaG=>?_) λhge=>?_
 .have aG:k<L.length:=by dsimp only at aG;omega
  refine .bind (.idx k rfl aG (.bind (.app (by simp;omega) (.some ⟨aG,aS (by omega),?_⟩))))
  show(o++(L.take k).map f)++[f L[k]]=o++(L.take (k+1)).map f
  rw[<-ajk aG,List.map_append,List.append_assoc];rfl
 .have hge:k=L.length:=by dsimp only at hge;omega
  subst hge;exact .some (show o++(L.take L.length).map f=_ by rw[ajn])
def Nc{t:QG}{E:List En}(h:(p8 t E).2=0):t.2.2.2.length<=64:=by
 unfold p8 at h
 grind
def Valid.rows{l:Lw}(h:Valid l):∀t∈l.2.1,t.2.2.2.length<=64:=λt ht=>by
 obtain⟨_,_,_,_,h5,_⟩:=h.scopes;obtain⟨k,hk,rfl⟩:=ajm ht;have:=h5 k hk;unfold tB at this;rw[ajb hk]at this;dsimp only at this;split at this
 .cases this
 split at this
 .cases this
 split at this
 .rename_i h0;exact(Nc h0)
 .cases this
def PM{l:Lw}(eY:dG l)(hv:Valid l):Wp (M.cv aU l) λD=>D.length<=10000:=by
 have hr:=hv.rows;unfold M.cv
 refine Wp.seq (λR:List Ty=>R.length<=64*9) ?_ λR hR=>Wp.seq (λR:List Ty=>R.length<=64*9+60*5) ?_ λR hR=>?_
 .refine Wp.count (λs=>s.1) l.2.1.length (λk s=>s.2.length<=64*k) (by have:=eY.2.1;omega) rfl (by simp) λk s hk hs hJ=>?_
  obtain⟨c,o⟩:=s;dsimp only at hs hJ;subst hs;have:=eY.2.1
  refine .dec (λaG=>?_) λhge=> .some (show o.length<=64*9 by omega)
  have aG:k<l.2.1.length:=by dsimp only at aG;omega
  have iU:=hr _ (aje aG)
  refine Wp.seq (λo'=>o'.length<=64*(k+1)) (.bind (.idx k rfl aG ((Gv _ _ o (by omega)).mono λo' jY=>by rw[jY];simp;omega))) λo' jY=> .some ⟨aG,aS (by omega),jY⟩
 .refine Wp.count (λs=>s.1) l.2.2.length (λk s=>s.2.length<=64*9+60*k) (by have:=eY.2.2.1;omega) rfl hR λk s hk hs hJ=>?_
  obtain⟨c,o⟩:=s;dsimp only at hs hJ;subst hs;have:=eY.2.2.1
  refine .dec (λaG=>?_) λhge=> .some (show o.length<=64*9+60*5 by omega)
  have aG:k<l.2.2.length:=by dsimp only at aG;omega
  have iU:=(eY.2.2.2.2.2 _ (aje aG)).2.2.2.1
  refine Wp.seq (λo'=>o'.length<=64*9+60*(k+1)) (.bind (.idx k rfl aG ((Gv _ _ o (by omega)).mono λo' jY=>by rw[jY];simp;omega))) λo' jY=> .some ⟨aG,aS (by omega),jY⟩
 .have h2:=pj R;have h3:=mU (ph R);rw[uN R (by omega),ai8];unfold M.cG pE;rw[aj (by omega),ai8];exact .some (ajs (aj2 _ _) (by omega))
def Ae(a b:List Int)(ha:a.length<=100000000)(hb:b.length<=100000000):M.fH aU [a,b]=aa (a++b):=by
 unfold M.fH;refine Wp.eq (Wp.seq (λn=>n=((a.length+b.length:Nat):Int)) ?_ λn hn=>Wp.seq (λo=>o=[]) ?_ λo ho=>?_)
 .refine Wp.count (λs=>s.2) 2 (λk s=>s.1=((([a,b].take k).map List.length).sum:Nat)) (by omega) rfl rfl λk s hk hs hJ=>?_
  obtain⟨n,c⟩:=s;dsimp only at hs hJ;subst hs hJ
  match k,hk with
  |0,_=>
   refine .dec (λ_=> .bind (.idx 0 rfl (by simp) (.dec (λh=>?_) λ_=> .some ⟨by omega,rfl,?_⟩))) λh=>absurd (show(0:Int)<2 by omega) h
   .have h:ai9.wrap ((0:Int)+(a.length:Int))<0:=h;rw[aW (by omega) (by omega)]at h;omega
   .show ai9.wrap ((0:Int)+(a.length:Int))=(([a].map List.length).sum:Nat)
    rw[aW (by omega) (by omega)];simp
  |1,_=>
   refine .dec (λ_=> .bind (.idx 1 rfl (by simp) (.dec (λh=>?_) λ_=> .some ⟨by omega,rfl,?_⟩))) λh=>absurd (show(1:Int)<2 by omega) h
   .have h:ai9.wrap ((([a].map List.length).sum:Nat)+(b.length:Int))<0:=h;simp only[ajD,List.map_nil,ajR,List.sum_nil,akj]at h;rw[aW (by omega) (by omega)]at h;omega
   .show ai9.wrap ((([a].map List.length).sum:Nat)+(b.length:Int))=(([a,b].map List.length).sum:Nat)
    simp only[ajD,List.map_nil,ajR,List.sum_nil,akj];rw[aW (by omega) (by omega)];simp
  |2,_=>exact .dec (λh=>absurd h (show¬(2:Int)<2 by omega)) λ_=> .some (show((([a,b].take 2).map List.length).sum:Nat)=(((a.length+b.length:Nat)):Int) by simp)
 .subst hn;unfold M.iA
  refine .dec (λh=>by omega) λ_=>Wp.seq (λo=>o=[]) ?_ λo ho=> .some ho
  have e:ai9.wrap (((a.length+b.length:Nat):Int)-ai9.wrap ((0:Int)-(0:Int)))=((a.length+b.length:Nat):Int):=by
   rw[aW (n:=(0:Int)-0) (by omega) (by omega),aW (by omega) (by omega)];omega
  rw[e]
  refine .dec (λh=>?_) λ_=> .some rfl
  rw[show gq ([]:List Int) 0 0=aa []from rfl,ai8];unfold XI;rw[aj (by omega),ai8];exact .bind (.cut 0 0 rfl rfl (ajh _) (ajB _) (.some (by simp)))
 .subst ho
  refine Wp.count (λs=>s.1) 2 (λk s=>s.2=([a,b].take k).flatten) (by omega) rfl rfl λk s hk hs hJ=>?_
  obtain⟨c,o⟩:=s;dsimp only at hs hJ;subst hs hJ
  match k,hk with
  |0,_=>exact .dec (λ_=> .bind (.idx 0 rfl (by simp) (.bind (.app (by simp;omega) (.some ⟨by omega,rfl,by simp⟩))))) λh=>absurd (show(0:Int)<2 by omega) h
  |1,_=>exact .dec (λ_=> .bind (.idx 1 rfl (by simp) (.bind (.app (by simp;omega) (.some ⟨by omega,rfl,by simp⟩))))) λh=>absurd (show(1:Int)<2 by omega) h
  |2,_=>exact .dec (λh=>absurd h (show¬(2:Int)<2 by omega)) λ_=> .some (show([a,b].take 2).flatten=a++b by simp)
noncomputable def PN(l:Lw):List Int:=(M.cv aU l).getD []
def HN{l:Lw}(eY:dG l)(hv:Valid l):M.cv aU l=aa (PN l)/\(PN l).length<=10000:=(PM eY hv).getD []
noncomputable def yR(l:Lw)(fs:List gn)(r:Int):List Int:=p9 (tO fs r++PN l)
def Ee{l:Lw}(eY:dG l)(hv:Valid l){fs:List gn}(h:fs.length<=1000)(r:Int):(yR l fs r).length<=12000:=by
 have h1:=mU (tO fs r++PN l);have h2:=Ad fs r;have h3:=(HN eY hv).2;rw[List.length_append]at h1;unfold yR;omega
def J6(l:Lw){fs nW:List gn}(h:fs.Perm nW)(r:Int):yR l fs r=yR l nW r:=by unfold yR;rw[Gu h]
def xS{l:Lw}(eY:dG l)(hv:Valid l)(h:Hh)(hf:h.2.2.2.length<=1000)(r:Int):M.dS aU l h r=aa (yR l h.2.2.2 r):=by
 have h2:=Ad h.2.2.2 r;obtain⟨e1,e2⟩:=HN eY hv;unfold M.dS;rw[Ed _ _ (by omega),ai8,e1,ai8,Ae _ _ (by omega) (by omega),ai8,v7 (by simp;omega)];rfl
def PO{a b:Nat}(h:a+b<=2000000):ai9.wrap (gF .u64 (ajc.wrap (ai9.wrap ((a:Int)+(b:Int)))) (1:Int))=(((a+b)/2:Nat):Int):=by
 rw[aW (n:=(a:Int)+(b:Int)) (by omega) (by omega)]
 have h1:ajc.wrap ((a:Int)+(b:Int))=(a:Int)+(b:Int):=by
  simp[IntKind.wrap,IntKind.bits,IntKind.signed];omega
 rw[h1]
 have h2:gF .u64 ((a:Int)+(b:Int)) 1=(((a+b)/2:Nat):Int):=by
  unfold gF
  show((a:Int)+(b:Int)).fdiv 2=_
  rw[Int.fdiv_eq_ediv_of_nonneg _ (by decide)];omega
 rw[h2,aW (by omega) (by omega)]
def Af(l:List Int)(x:Int)(hl:l.length<=1000000):Wp (M.cP aU l x) λr=>0<=r.1/\r.1<=(l.length:Int):=by
 have Xt:∀a b:Int,M.cmp_Less_int aU a b=aa (decide (a<b)):=λa b=>by
  unfold M.cmp_Less_int M.cmp_isNaN_int;simp
 unfold M.cP
 refine Wp.seq (λp=>0<=p/\p<=(l.length:Int)) ?_ λp hp=>?_
 .refine Wp.loop (λs=>∃a b:Nat,s=((a:Int),(b:Int))/\a<=b/\b<=l.length) (λs=>(s.2-s.1).toNat) ⟨0,l.length,rfl,by omega,by omega⟩ (by dsimp only;unfold aU;omega) ?_
  rintro s ⟨a,b,rfl,h1,h2⟩
  dsimp only
  refine .dec (λh=>?_) λh=> .some ⟨by omega,by omega⟩
  have hm:(a+b)/2<l.length:=by omega
  rw[PO (by omega)]
  refine Wp.seq (λj=>∃a' b':Nat,j=((a':Int),(b':Int))/\a'<=b'/\b'<=l.length/\b'-a'<b-a) ?_ λj hj=>?_
  .rw[aF hm,ai8,Xt,ai8]
   refine .dec (λg=> .some ⟨(a+b)/2+1,b,?_,by omega,h2,by omega⟩) λg=> .some ⟨a,(a+b)/2,rfl,by omega,by omega,by omega⟩
   rw[cR (m:=l.length) (by omega) hm]
  .obtain⟨a',b',rfl,g1,g2,g3⟩:=hj;exact .some ⟨⟨a',b',rfl,g1,g2⟩,by dsimp only;omega⟩
 .refine Wp.seq (λr=>0<=r.1/\r.1<=(l.length:Int)) ?_ λr hr=> .some hr
  refine .dec (λh=>?_) λ_=> .some hp
  obtain⟨q,rfl⟩:=ajd hp.1;refine .bind (.idx q rfl (by omega) (.dec (λ_=> .some hp) λ_=> .bind (.idx q rfl (by omega) ?_)));unfold M.jS;exact .bind (.some (.ite (λh=>absurd h (by simp)) λ_=> .some hp))
def uP(r:Ty)(D:List Int)(hD:D.length<=100000):Wp (M.jT aU r D) λp=>p.length<=D.length+1:=by
 unfold M.jT
 refine Wp.seq _ (Af D _ (by omega)) λy hy=>Wp.seq (λj=>j.2.length<=D.length) ?_ λj hj=> .bind (.app (by simp;omega) (.some (by simp;omega)))
 obtain⟨⟨y0,y1⟩,y2⟩:(0<=y.1/\y.1<=(D.length:Int))/\True:=⟨hy,trivial⟩
 refine Wp.loop (λs=>∃a:Nat,s.1=(a:Int)/\a<=D.length/\s.2.2.length<=a) (λs=>((D.length:Int)-s.1).toNat) ?_ (by dsimp only;unfold aU;omega) ?_
 .obtain⟨a,ha⟩:=ajd y0;exact⟨a,ha,by omega,by simp⟩
 rintro⟨c,q,o⟩ ⟨a,rfl,h1,h2⟩
 dsimp only at h1 h2⊢
 refine Wp.seq (λj=>j=af->a<D.length) (.dec (λh=> .bind (.idx a rfl (by omega) (.some λ_=>by omega))) λ_=> .some λh=>by cases h) λj hj=>?_
 refine .ite (λh=>?_) λ_=> .some (show o.length<=D.length by omega)
 have aG:=hj h;refine .bind (.idx a rfl aG (.bind (.app (by simp;omega) (.bind (.idx a rfl aG (.some ⟨⟨a+1,aS (by omega),by omega,by simp;omega⟩,?_⟩))))));dsimp only;rw[aS (by omega)];omega
end L
namespace L
def TD(N:Nat)(q r d:Int)(neg:Bool)(m:Int):Wp (M.cW N q r d neg m) λx=>x=q\/x=ajc.wrap (q+1):=by
 unfold M.cW
 refine .dec (λ_=> .some (.inl rfl)) λ_=>Wp.seq (λ_=>True) ?_ λj _=>Wp.seq (λx=>x=q\/x=ajc.wrap (q+1)) (.ite (λ_=> .some (.inr rfl)) λ_=> .some (.inl rfl)) λx hx=> .some hx
 repeat' first|exact .some trivial|refine .dec (λ_=>?_) λ_=>?_
def qF{n:Int}(h0:0<=n)(h1:n<=9223372036854775807):ajc.wrap n=n:=by
 simp[IntKind.wrap,IntKind.bits,IntKind.signed];omega
def PP{a b m:Int}(hm:0<=m/\m<=5):Wp (M.dm aU a b m) λr=>r.2=0->r.1<=4611686018427387905:=by
 unfold M.dm;rw[P.lV];simp only[ai8,P.pf];rw[ai (by simp;omega)]
 refine Wp.dec (λ_=> .some λh=>by cases h) λhb=>?_
 refine Wp.seq (λj=>j=ag->(-4611686018427387904<=a/\a<=4611686018427387904)/\(-4611686018427387904<=b/\b<=4611686018427387904)) ?_ λj hj=>?_
 .refine .ite (λ_=> .some λh=>by cases h) λh1=> .some λh2=>⟨P.iJ (by omega) h1,P.iJ (by omega) (by simpa using h2)⟩
 refine .ite (λ_=> .some λh=>by cases h) λhc=>?_
 obtain⟨ha,qR⟩:=hj (by simpa using hc);rw[P.iI aU ha,P.iI aU qR];simp only[ai8]
 obtain⟨A,hA,On⟩:∃A:Int,A=(if a<0 then-a else a)/\0<=A/\A<=4611686018427387904:=⟨_,rfl,by split<;>omega⟩
 obtain⟨B,hB,hB'⟩:∃B:Int,B=(if b<0 then-b else b)/\0<B:=⟨_,rfl,by split<;>omega⟩
 rw[<-hA,<-hB];rw[show yq A B=aa (ajl A B)from ai (by omega),show EK A B=aa (ajH A B)from ai (by omega)];simp only[ai8];have q0:0<=ajl A B:=Int.tdiv_nonneg On.1 (by omega)
 have q1:ajl A B<=A:=by rw[Int.tdiv_eq_ediv_of_nonneg On.1];exact Int.ediv_le_self _ On.1
 generalize ajl A B=q at*;generalize ajH A B=r;rw[qF q0 (by omega)]
 refine Wp.seq _ (TD _ _ _ _ _ _) λx hx=>?_
 rw[qF (n:=q+1) (by omega) (by omega)]at hx;unfold M.jP;rw[aW (n:=x) (by omega) (by omega),aW (n:=0-x) (by omega) (by omega)]
 refine Wp.seq (λy=>y<=4611686018427387905) (.ite (λ_=> .some (by omega)) λ_=> .some (by omega)) λy hy=> .some λ_=>hy
def Ef{α:Type}{g:Nat->Option α}{n:Nat}{vs:List α}(h:xO g n=aa vs):vs.length=n:=qI h
def Gw(l:Lw)(h:Hh)(d r:Int):(pZ l h d r).2.2.2.length<=8:=by
 unfold pZ;split
 .exact ajB _
 split
 .exact ajB _
 split
 case h_2=>exact ajB _
 unfold D9;split
 .exact ajB _
 split
 .exact ajB _
 split
 .exact ajB _
 rename_i ms OO;have:=Ef OO;have:=xP h d r
 show ms.length<=8
 omega
def HO(c:Int):Prop:=0<=c/\c<=4611686018427387905
def Ag{l:Lw}(hw:WF bG l)(eY:dG l){h:Hh}{conf:Cf}(hm:(0:Int)<=conf.2.1/\(conf.2.1:Int)<=5)(hh:(Gm l h).2=0)(hf:h.2.2.2.length<=1000)(Ps:List Ty)(hP:Ps.length<=1000000)(r:Int):Wp (M.fk aU l h conf Ps r) λy=>y.2=0->HO y.1:=by
 obtain⟨s,M8,hs,_⟩:=mT hh;unfold M.fk;refine .join (Wp.count (λs=>s.2.2) Ps.length (λ_ _=>True) (by omega) rfl trivial λk q hk hq _=>?_);obtain⟨a,b,c⟩:=q;dsimp only at hq;subst hq
 refine .dec (λaG=>?_) λ_=> .some ?_
 .have aG:k<Ps.length:=by dsimp only at aG;omega
  refine .bind (.idx k rfl aG ?_);rw[xQ l h _ r hw eY (by omega),ai8];have c8:=Gw l h Ps[k].1 r;obtain⟨c1,_,c3⟩:=Eb eY h Ps[k].1 r;generalize pZ l h Ps[k].1 r=cs at*
  refine .eC (λg=> .some λq=>absurd q g) λ_=>?_
  rw[show(h.2.1:Int)=(s:Int)from M8]
  refine Wp.seq _ (D3 hw eY hs (cs.1,(cs.2.2.1,cs.2.2.2)) c1 c8 c3 conf.1) λy _=>?_
  exact .eC (λg=> .some λq=>absurd q g) λ_=> .some ⟨aG,aS (by omega),trivial⟩
 .refine Wp.seq _ (PP hm) λy hy=> .eC (λg=> .some λq=>absurd q g) λh0=> .some λ_=>?_
  have:=hy h0;unfold HO;dsimp only
  split<;>omega
noncomputable def aw(l:Lw)(h:Hh)(conf:Cf)(r m:Int):aE.den:=(M.cH aU l h conf m r).getD (m,((0:Int),(0:Int)))
structure Acc(l:Lw)(h:Hh)(conf:Cf):Prop where
 wf:WF bG l
 sm:dG l
 ok:Valid l
 md:(0:Int)<=conf.2.1/\(conf.2.1:Int)<=5
 hh:(Gm l h).2=0
 hf:h.2.2.2.length<=1000
 vc:M.cB aU l h.2.1 conf=aa 0
def Acc.ac{l:Lw}{h:Hh}{conf:Cf}(H:Acc l h conf):M.gT aU l h conf=aa af:=by
 unfold M.gT;rw[H.vc,ai8,ai (by decide),xL,ai8,H.hh];rfl
def Acc.month{l:Lw}{h:Hh}{conf:Cf}(H:Acc l h conf)(r m:Int):Wp (M.cH aU l h conf m r) λa=>(a.1:Int)=m/\((a.2.2:Int)=0->HO a.2.1):=by
 unfold M.cH
 refine Wp.seq _ (Ac m) λy _=> .eC (λ_=> .some ⟨rfl,λg=>by cases g⟩) λ_=>?_
 rw[H.ac,ai8,xS H.sm H.ok h H.hf,ai8];have hl:=Ee H.sm H.ok H.hf r
 refine .ite (λg=>by cases g) λ_=>Wp.seq _ (uP y.1 _ (by omega)) λp hp=>Wp.seq _ (Ag H.wf H.sm H.md H.hh H.hf p (by omega) r) λz hz=> .some ⟨rfl,hz⟩
def Acc.QV{l:Lw}{h:Hh}{conf:Cf}(H:Acc l h conf)(r m:Int):M.cH aU l h conf m r=aa (aw l h conf r m):=((H.month r m).getD _).1
def Acc.Ah{l:Lw}{h:Hh}{conf:Cf}(H:Acc l h conf)(r m:Int):((aw l h conf r m).1:Int)=m/\(((aw l h conf r m).2.2:Int)=0->HO (aw l h conf r m).2.1):=((H.month r m).getD _).2
def Acc.qJ{l:Lw}{h:Hh}{conf:Cf}(H:Acc l h conf){f t r:Int}(h0:0<=f)(h1:f<=t)(h2:t<=3600)(h3:t-f<=120):M.kP aU l h conf f t r=aa ((ajY (t-f).toNat).map λi:Nat=>aw l h conf r (f+i)):=by
 unfold M.kP;refine Wp.eq (Wp.seq (λj=>j=ag) ?_ λj hj=>?_)
 .refine .dec (λg=>by omega) λ_=> .dec (λg=>by omega) λ_=> .dec (λg=>by omega) λ_=> .some (au ?_)
  rw[aW (by omega) (by omega)];omega
 subst hj
 refine .ite (λg=>by cases g) λ_=>?_
 rw[aW (n:=t-f) (by omega) (by omega)];unfold TW;rw[aj (by omega),ai8,H.ac,ai8,aj rfl,xS H.sm H.ok h H.hf,ai8,ai8];have hl:=Ee H.sm H.ok H.hf r
 refine Wp.count (λs=>s.1-f) (t-f).toNat (λk s=>s.2=(ajY k).map λi:Nat=>aw l h conf r (f+i)) (by omega) (by dsimp only;omega) rfl λk s hk hs hJ=>?_
 obtain⟨c,o⟩:=s;dsimp only at hs hJ
 obtain rfl:c=f+(k:Int):=by omega
 subst hJ
 refine .dec (λaG=>?_) λhge=>?_
 .have aG:k<(t-f).toNat:=by dsimp only at aG;omega
  refine Wp.seq (λj=>j=aw l h conf r (f+k)) ?_ λj hj=>?_
  .have e:=H.QV r (f+k);unfold M.cH at e;obtain⟨y,hy,_⟩:=Ac (f+k);dsimp only;rw[hy,ai8]at e⊢;rw[H.ac,ai8,xS H.sm H.ok h H.hf,ai8]at e
   refine .eC (λg=>?_) λg=>?_
   .rw[aj (by simpa using g)]at e;exact .some (aja e)
   .rw[ai (by simpa using g),ai (by decide)]at e;obtain⟨p,hp,_⟩:=uP y.1 (yR l h.2.2.2 r) (by omega);rw[aj rfl];rw[hp,ai8]at e⊢;obtain⟨z,hz,_⟩:=Ag H.wf H.sm H.md H.hh H.hf p (by have:=(uP y.1 (yR l h.2.2.2 r) (by omega));obtain⟨p',HP,hq⟩:=this;rw[hp]at HP;obtain rfl:=aja HP;omega) r;rw[hz,ai8]at e⊢;exact .some (aja e)
  .subst hj;refine .bind (.app (by simp;omega) (.some ⟨aG,?_,?_⟩))
   .dsimp only;rw[aW (by omega) (by omega)];omega
   .dsimp only;rw[List.range_succ,List.map_append];rfl
 .have:k=(t-f).toNat:=by dsimp only at hge;omega
  subst this;exact .some rfl
def gp.perm{fs nW:List gn}(h:fs.Perm nW)(hd:gp fs):gp nW:=(h.pairwise_iff λ{_ _}g=>Ne.symm g).1 hd
def PQ{l:Lw}{a b c:Int}{fs nW:List gn}(h:fs.Perm nW)(hv:(Gm l (a,(b,(c,fs)))).2=0):(Gm l (a,(b,(c,nW)))).2=0:=by
 obtain⟨s,M8,hs,hx⟩:=mT hv;obtain⟨h1,h2,h3⟩:=oD.1 hx;obtain⟨g1,g2,g3⟩:=oC.1 h2;have g1:fs.length<=128:=g1;have g3:gp fs:=g3;have M8:b=(s:Int):=M8;subst M8;unfold Gm;dsimp only;rw[ai (show¬((s:Int)<0\/(l.2.2.length:Int)<=(s:Int)) by omega),ajg,ajb hs];exact oD.2 ⟨h1,oC.2 ⟨by rw[<-h.length_eq];exact g1,λf hf=>g2 f (h.mem_iff.2 hf),g3.perm h⟩,λf hf=>h3 f (h.mem_iff.2 hf)⟩
def J7{l:Lw}{a b c:Int}{fs nW:List gn}(h:fs.Perm nW)(hv:(Gm l (a,(b,(c,fs)))).2=0)(d r:Int):pZ l (a,(b,(c,nW))) d r=pZ l (a,(b,(c,fs))) d r:=by
 obtain⟨s,_,hs,hx⟩:=mT hv;obtain⟨_,_,g3⟩:=oC.1 (oD.1 hx).2.1;have g3:gp fs:=g3;exact(Alike.Xs ⟨Nat.le_of_eq h.length_eq.symm,λx hx=>h.mem_iff.2 hx,g3.perm h,λx hx _=>h.mem_iff.1 hx⟩ hv d).1
def Acc.perm{l:Lw}{a b c:Int}{fs nW:List gn}{conf:Cf}(h:fs.Perm nW)(H:Acc l (a,(b,(c,fs))) conf):Acc l (a,(b,(c,nW))) conf:=
 ⟨H.wf,H.sm,H.ok,H.md,PQ h H.hh,by have:=H.hf;have e:=h.length_eq;dsimp only at this⊢;omega,H.vc⟩
def PR{l:Lw}{a b c:Int}{fs nW:List gn}{conf:Cf}(h:fs.Perm nW)(H:Acc l (a,(b,(c,fs))) conf)(r m:Int):aw l (a,(b,(c,nW))) conf r m=aw l (a,(b,(c,fs))) conf r m:=by
 have H':=H.perm h;have hl:=H.hf;have XO:=H'.hf
 have e:M.cH aU l (a,(b,(c,nW))) conf m r=M.cH aU l (a,(b,(c,fs))) conf m r:=by
  have ha:∀p,M.fk aU l (a,(b,(c,nW))) conf p r=M.fk aU l (a,(b,(c,fs))) conf p r:=λp=>by
   have hc:∀d,M.fu aU l (a,(b,(c,nW))) d r=M.fu aU l (a,(b,(c,fs))) d r:=λd=>by
    rw[xQ l _ d r H.wf H.sm (by omega),xQ l _ d r H.wf H.sm (by omega),J7 h H.hh]
   unfold M.fk;simp only[hc]
  unfold M.cH;rw[H.ac,H'.ac,xS H.sm H.ok _ hl,xS H.sm H.ok _ XO,show yR l (a,(b,(c,nW))).2.2.2 r=yR l (a,(b,(c,fs))).2.2.2 r from(J6 l h r).symm];simp only[ha]
 unfold aw;rw[e]
end L
end Go.Proofs.YtleifhfeahnocaaGreatDoor
