/- Joined texts: PT2 PT3 PX PX3 PX5 XE HA HB HC HD XB XF XG. -/
import Derived.Test.YtleifhfeahnocaaGreatDoorU11
import Derived.Test.YtleifhfeahnocaaGreatDoorU10
import Derived.Test.YtleifhfeahnocaaGreatDoorU5
open _root_.Bool renaming false->ag,true->af,and_eq_true->ajH
open _root_.Option renaming some->aa,bind_some->aiD,none->ae
open _root_.Int renaming tdiv->aiQ,tmod->ajd,le_refl->ajs,toNat_natCast->aiL,eq_ofNat_of_zero_le->aiI,not_lt->ajy
open _root_.Go.IntKind renaming i64->aiE,u64->aiH
open _root_.Nat renaming zero_le->ai6,le_of_lt->aj8,le_refl->aiM,min_eq_left->ajV,le_trans->aiY,add_zero->ajO
open _root_.List renaming getElem_mem->aiJ,append_nil->ajv,drop_eq_getElem_cons->ai5,drop_of_length_le->ajo,getElem?_eq_getElem->aiG,getElem_append_left->ai7,getElem_append_right->ajc,replicate->aiN,take_length->aiS,getElem?_eq_some_iff->aiW,nil_append->ajf,length_nil->ajl,mem_append->aje,mem_cons->aju,take_append_getElem->aiP,filter_cons_of_neg->ajB,filter_cons_of_pos->ajA,getElem_of_mem->aiR,length_filter_le->ajt,range->ajp,length_cons->aiU,map_cons->ai2,sum_cons->ai9
open _root_.Option.some renaming inj->aiF
open _root_.Classical renaming propDecidable->aiZ
open _root_.Go.Lib renaming compact->aji
namespace Go.Proofs.YtleifhfeahnocaaGreatDoor
open Go Go.RowKit
set_option maxRecDepth 100000
set_option linter.unusedSimpArgs false
set_option linter.unusedVariables false
set_option linter.defProp false
namespace L.P
def Cd(c:Int):Prop:=c=0\/c=3\/c=12
def Bl{c:Prop}[Decidable c]{x y:Int×Int}(hx:Cd x.2)(hy:Cd y.2):Cd (if c then x else y).2:=by
 split
 .exact hx
 .exact hy
def Kl(x:Int):Cd (x,(0:Int)).2:= .inl rfl
def Cd3(x:Int):Cd (x,(3:Int)).2:= .inr (.inl rfl)
def iy{n l:Int}(hl:0<=l/\l<=9000000000000000000)(h:¬(decide (l<n)||decide (n<aiE.wrap (0-l)))=af): -l<=n/\n<=l:=by
 rw[aX (by omega) (by omega)]at h;simp at h;omega
def Qp(N:Nat)(a b c:Int)(d:Bool)(e:Int):Wp (M.cU N a b c d e) λ_=>True:=by
 unfold M.cU;simp only[bx,aiD];exact .some trivial
def zD(N:Nat)(a:Int)(b:Bool):Wp (M.jK N a b) λ_=>True:=by
 unfold M.jK;simp only[bx];exact .some trivial
def oi(N:Nat){a b m:Int}(hm:0<=m/\m<=5):Wp (M.dj N a b m) λr=>Cd r.2:=by
 unfold M.dj;rw[lP];simp only[aiD,o4];rw[ai (by simp;omega)]
 refine Wp.dec (λ_=> .some (by simp[Cd])) λhb=>?_
 simp only[bx,aiD,rX]
 refine Wp.ite (λ_=> .some (by simp[Cd])) λhc=>?_
 rw[Bool.or_eq_true,not_or]at hc;have ha:=iy (by omega) hc.1;have pX:=iy (by omega) hc.2;rw[iu N ha,iu N pX];simp only[aiD]
 have du:(if b<0 then-b else b)≠0:=by split<;>omega
 rw[show∀x,xV x (if b<0 then-b else b)=aa (aiQ x (if b<0 then-b else b))from λx=>ai du,show∀x,Er x (if b<0 then-b else b)=aa (ajd x (if b<0 then-b else b))from λx=>ai du];simp only[aiD]
 exact Wp.seq _ (Qp ..) λx _=>Wp.seq _ (zD ..) λy _=> .some (by simp[Cd])
def s9(N:Nat)(a b:Int):Wp (M.eN N a b) λr=>(0<=r.1/\r.1<18446744073709551616)/\0<=r.2/\r.2<18446744073709551616:=by
 unfold M.eN;exact .some ⟨mC _,mC _⟩
def xm{hi lo y:Int}(h0:0<=hi)(h1:hi<y)(h2:y<18446744073709551616):Wp (M.dU aV hi lo y) λ_=>True:=by
 obtain⟨r,hr⟩:=JC (lo:=lo) h0 h1 h2;exact⟨r,hr,trivial⟩
def uv{a b c m:Int}(hm:0<=m/\m<=5):Wp (M.nh aV a b c m) λr=>Cd r.2:=by
 unfold M.nh;rw[lP];simp only[aiD,o4];rw[ai (by simp;omega)]
 refine Wp.dec (λ_=> .some (by simp[Cd])) λhb=>?_
 simp only[bx,aiD,rX]
 refine Wp.ite (λ_=> .some (by simp[Cd])) λhc=>?_
 simp only[Bool.or_eq_true,not_or]at hc;have ha:=iy (n:=a) (l:=1000000000000000) (by omega) (by simpa using hc.1);have pX:=iy (n:=b) (l:=1000000000) (by omega) (by simpa using hc.2.1);have K6:=iy (n:=c) (l:=1000000000) (by omega) (by simpa using hc.2.2);rw[iu _ (n:=a) (by omega),iu _ (n:=b) (by omega)];simp only[aiD]
 refine Wp.seq _ (s9 ..) λr hr=>?_
 rw[iu _ (n:=c) (by omega)];simp only[aiD]
 refine Wp.dec (λ_=> .some (by simp[Cd])) λhd=>?_
 have aH:(if c<0 then-c else c)<18446744073709551616:=by split<;>omega
 refine Wp.seq _ (xm hr.1.1 (by omega) aH) λq _=>?_
 refine Wp.dec (λ_=> .some (by simp[Cd])) λ_=>?_
 refine Wp.seq _ (Qp ..) λx _=>?_
 refine Wp.dec (λ_=> .some (by simp[Cd])) λ_=>?_
 exact Wp.seq _ (zD ..) λy _=> .some (by simp[Cd])
def FM{a b m:Int}(hm:0<=m/\m<=5):Wp (M.mu aV a b m) λr=>Cd r.2:=by
 unfold M.mu;rw[lP];simp only[aiD,o4];rw[ai (by simp;omega)]
 refine Wp.dec (λ_=> .some (by simp[Cd])) λhb=>?_
 simp only[bx,aiD,rX]
 refine Wp.ite (λ_=> .some (by simp[Cd])) λhc=>?_
 refine Wp.seq _ (oi _ hm) λr hr=>?_
 refine .some ?_;split
 .exact hr
 .split<;>simp[Cd]
def zE(N:Nat)(m:Int):M.lH N m=aa (decide (0<=m)&&decide (m<=5)):=lP N m
def xn(N:Nat)(n l:Int):M.jA N n l=aa (decide (l<n)||decide (n<aiE.wrap (0-l))):=o4 N n l
def Pa{a b m:Int}(hm:0<=m/\m<=5):Wp (M.sQ aV a b m) λr=>Cd r.2:=by
 unfold M.sQ;rw[zE];simp only[aiD,xn];rw[ai (by simp;omega)];simp only[bx,aiD,rX]
 refine Wp.ite (λ_=> .some (by simp[Cd])) λhc=>?_
 refine Wp.seq _ (oi _ hm) λr hr=>?_
 refine .some ?_;split
 .exact hr
 .split<;>simp[Cd]
def JD{a b m:Int}(hm:0<=m/\m<=5):Wp (M.kY aV a b m) λr=>Cd r.2:=by
 unfold M.kY
 exact Wp.seq _ (uv hm) λr hr=> .some hr
def Dz(N:Nat)(a b c:Int)(d:Bool)(e:Int):Wp (M.mv N a b c d e) λ_=>True:=by
 unfold M.mv;simp only[bx,aiD];exact .some trivial
def Bm{a b m:Int}(hm:0<=m/\m<=5):Wp (M.lI aV a b m) λr=>Cd r.2:=by
 unfold M.lI;rw[zE];simp only[aiD,xn];rw[ai (by simp;omega)]
 refine Wp.dec (λ_=> .some (by simp[Cd])) λhb=>?_
 simp only[bx,aiD,rX]
 refine Wp.ite (λ_=> .some (by simp[Cd])) λhc=>?_
 refine Wp.seq _ (s9 ..) λr hr=>?_
 refine Wp.dec (λ_=> .some (by simp[Cd])) λhd=>?_
 refine Wp.seq _ (xm hr.1.1 (by omega) (mC _).2) λq _=>?_
 refine Wp.dec (λ_=> .some (by simp[Cd])) λ_=>?_
 refine Wp.seq _ (Wp.bind (Wp.mono (Dz ..) λx _=>?_)) λj7(_:True)=>?_
 .exact .some trivial
 .exact .some (by split<;>simp[Cd])
def uW(N:Nat)(r:aD.den)(d:Int):Wp (M.ch N r d) λ_=>True:=by
 unfold M.ch M.dS;simp only[bx,aiD];exact .some trivial
def vp(a b:Int):Wp (M.gY aV a b) λ_=>True:=by
 unfold M.gY;simp only[bx,aiD]
 refine Wp.seq _ (s9 ..) λr hr=>?_
 refine Wp.dec (λ_=> .some trivial) λhd=>?_
 refine Wp.seq _ (xm hr.1.1 (by omega) (by omega)) λq _=>?_
 exact .some trivial
def DA(N:Nat){a b m:Int}(hm:0<=m/\m<=5):Wp (M.jz N a b m) λr=>Cd r.2:=by
 unfold M.jz;simp only[bx,aiD]
 refine Wp.ite (λ_=> .some (by simp[Cd])) λhc=>?_
 refine Wp.seq _ (oi _ hm) λr hr=>?_
 exact .some (Bl hr (Bl (Cd3 _) (Kl _)))
def DB{t:bm.den}{d k m:Int}(hm:0<=m/\m<=5)(hk:t.2.1=((3,0):Int×Int))(hv:t.2.2.1=((4,0):Int×Int))(hl:t.2.2.2.length<=9223372036854775807):Wp (M.lG aV t d k m) λr=>Cd r.2:=by
 unfold M.lG;simp only[bx,aiD,rX];rw[ai (by simp;omega),ai (by rw[hk,hv];simp[oo])]
 refine Wp.ite (λ_=> .some (by simp[Cd])) λhc=>?_
 refine Wp.join (Wp.loop (λs:Int×Int×Int=>∃i:Nat,s.2.2=i/\i<=t.2.2.2.length) (λs=>(t.2.2.2.length-s.2.2).toNat) ⟨0,rfl,ai6 _⟩ (by simp only;unfold aV;omega) ?_)
 rintro⟨s1,s2,s3⟩ ⟨i,hi,wY⟩
 simp only at hi;subst hi
 refine Wp.dec (λh=>?_) λh=> .some ?_
 .have pJ:i<t.2.2.2.length:=by simp only at h;omega
  refine Wp.join ?_;simp only;rw[aF pJ];simp only[aiD]
  refine Wp.seq (λ_=>True) ?_ λj8 _=>?_
  .refine Wp.seq _ (uW ..) λy _=>?_
   exact .some trivial
  have nxt:∀a b:Int,uR (λj6:Int×Int=>aa (Sum.inl (j6.1,j6.2,aiE.wrap ((i:Int)+1)))) (zo (λs:Int×Int×Int=>∃i:Nat,s.2.2=i/\i<=t.2.2.2.length) (λs=>(t.2.2.2.length-s.2.2).toNat) (s1,s2,(i:Int)) (uR (λj4:Int×Int=>(M.jz aV j4.1 j4.2 m).bind λWA=>aa (WA.1,WA.2)) λr:Int×Int=>Cd r.2)) (.inl (a,b)):=by
   intro a b;refine .some ?_;rw[aT (by omega)];exact⟨⟨i+1,rfl,pJ⟩,by simp only;omega⟩
  refine Wp.ite (λ_=> .some (nxt _ _)) λ_=>?_
  refine Wp.seq _ (vp ..) λy _=>?_
  refine .some ?_;split
  .show Cd _
   simp[Cd]
  .exact nxt _ _
 .show Wp _ _
  exact Wp.seq _ (DA _ hm) λr hr=> .some hr
def MB(l:List ki.den)(a b:Int)(hl:l.length<=9223372036854775807):Wp (M.cY aV l a b) λr=>r.2.1=af->0<=r.1/\r.1<l.length:=by
 unfold M.cY;refine Wp.loop (λs:Int×Int×Int=>∃i:Nat,s.1=i/\i<=l.length) (λs=>(l.length-s.1).toNat) ⟨0,rfl,ai6 _⟩ (by simp only;unfold aV;omega) ?_
 rintro⟨s1,s2,s3⟩ ⟨i,hi,wY⟩
 simp only at hi;subst hi
 refine Wp.dec (λh=>?_) λh=> .some λh=>by cases h
 have pJ:i<l.length:=by simp only at h;omega
 simp only;rw[aF pJ];simp only[aiD]
 refine Wp.seq (λ_=>True) ?_ λy _=>?_
 .unfold M.kW
  refine Wp.seq (λ_=>True) (Wp.seq _ (uW ..) λy _=>?_) λj _=> .some trivial
  simp only[bx];exact .some trivial
 .refine Wp.ite (λ_=> .some λ_=>⟨by simp only;omega,by simp only;omega⟩) λ_=> .some ?_
  rw[aT (by omega)];exact⟨⟨i+1,rfl,pJ⟩,by simp only;omega⟩
def JE(t:bm.den)(a b:Int)(hl:t.2.2.2.length<=9223372036854775807):Wp (M.ng aV t a b) λr=>r.2=af->0<=r.1/\r.1<t.2.2.2.length:=by
 unfold M.ng
 exact Wp.seq _ (MB _ a b hl) λr hr=> .some hr
def qY(N:Nat)(d:Int):M.gZ N d=aa (decide (0<=d)&&decide (d<=109572)):=by
 unfold M.gZ;simp only[bx,aiD,oh]
def lQ(N:Nat)(y m:Int):Wp (M.cI N y m) λr=>0<=r/\r<=31:=by
 unfold M.cI M.nX;simp only[bx,aiD,rX,oh]
 refine Wp.ite (λ_=> .some (by omega)) λhc=>?_
 refine Wp.ite (λ_=> .some (by omega)) λ_=>?_
 have hm:1<=m/\m<=12:=by simp at hc;omega
 rw[aX (by omega) (by omega)]
 have:m=1\/m=2\/m=3\/m=4\/m=5\/m=6\/m=7\/m=8\/m=9\/m=10\/m=11\/m=12:=by omega
 rcases this with rfl|rfl|rfl|rfl|rfl|rfl|rfl|rfl|rfl|rfl|rfl|rfl<;>exact⟨_,rfl,by decide⟩
def pF(N:Nat)(y:Int):Wp (M.eF N y) λ_=>True:=by
 unfold M.eF M.jx;simp only[aiD];exact .some trivial
def ta(d:Int):Wp (M.kX aV d) λ_=>True:=by
 unfold M.kX;rw[qY];simp only[aiD]
 refine Wp.ite (λ_=> .some trivial) λhv=>?_
 have hd:0<=d/\d<=109572:=by simpa using hv
 have h0:aiQ d 366=d/366:=Int.tdiv_eq_ediv_of_nonneg hd.1;have hw:aiE.wrap (d/366)=d/366:=aX (by omega) (by omega);have hw2:aiE.wrap (1900+d/366)=1900+d/366:=aX (by omega) (by omega);rw[h0,hw,hw2]
 refine Wp.seq (λ_=>True) (Wp.loop (λy:Int=>1900<=y/\y<=2199) (λy=>(2199-y).toNat) (by omega) (by unfold aV;omega) ?_) λy _=>?_
 .rintro y ⟨h1,h2⟩
  by_cases hy:y=2199
  .subst hy
   have e:M.eF aV (aiE.wrap ((2199:Int)+1))=aa 109573:=by show(_:Option Int)=_;kernel_rfl
   rw[e];simp only[aiD];rw[ai (by simp;omega)];exact .some trivial
  .refine Wp.seq _ (pF ..) λz _=>?_
   refine Wp.dec (λ_=> .some ?_) λ_=> .some trivial
   rw[aX (by omega) (by omega)];exact⟨by omega,by simp only;omega⟩
 .refine Wp.seq _ (pF ..) λz _=>?_
  refine Wp.loop (λs:Int×Int=>∃i:Nat,s.2=i/\i<=12) (λs=>(12-s.2).toNat) ⟨0,rfl,by omega⟩ (by simp only;unfold aV;omega) ?_
  rintro⟨a,b⟩ ⟨i,hi,wY⟩
  simp only at hi;subst hi
  refine Wp.dec (λh=>?_) λ_=> .some trivial
  refine Wp.seq _ (lQ ..) λw _=>?_
  refine Wp.dec (λ_=> .some trivial) λ_=> .some ?_
  simp only at h⊢;rw[aT (by omega)];exact⟨⟨i+1,rfl,by omega⟩,by simp only;omega⟩
def FN(y m d:Int):Wp (M.gV aV y m d) λr=>Cd r.2:=by
 unfold M.gV
 refine Wp.seq (λj=>j=ag->1<=m/\m<=12) ?_ λj hj=>?_
 .refine Wp.dec (λ_=> .some (λh=>by cases h)) λ_=>Wp.dec (λ_=> .some (λh=>by cases h)) λ_=>Wp.dec (λ_=> .some (λh=>by cases h)) λh1=>Wp.dec (λ_=> .some (λh=>by cases h)) λh2=>Wp.dec (λ_=> .some (λh=>by cases h)) λ_=>?_
  exact Wp.seq _ (lQ ..) λw _=> .some λ_=>⟨by omega,by omega⟩
 .refine Wp.ite (λ_=> .some (by simp[Cd])) λhc=>?_
  have hm:=hj (by simpa using hc)
  refine Wp.seq _ (pF ..) λz _=>?_
  refine Wp.seq (λ_=>True) (Wp.loop (λs:Int×Int=>∃i:Nat,s.2=i/\i<=12) (λs=>(13-s.2).toNat) ⟨0,rfl,by omega⟩ (by simp only;unfold aV;omega) ?_) λw _=> .some (by simp[Cd])
  rintro⟨a,b⟩ ⟨i,hi,wY⟩
  simp only at hi;subst hi
  refine Wp.dec (λh=>?_) λ_=> .some trivial
  refine Wp.seq _ (lQ ..) λw _=> .some ?_
  simp only at h⊢;rw[aX (n:=m-1) (by omega) (by omega)]at h;rw[aT (by omega)];exact⟨⟨i+1,rfl,by omega⟩,by simp only;omega⟩
def tc(d n:Int):Wp (M.jB aV d n) λr=>Cd r.2:=by
 unfold M.jB;rw[qY];simp only[bx,aiD,rX]
 refine Wp.ite (λ_=> .some (by simp[Cd])) λhc=>?_
 refine Wp.seq _ (ta ..) λy _=>?_
 refine Wp.ite (λ_=> .some (by simp[Cd])) λ_=>?_
 refine Wp.seq _ (lQ ..) λw _=>?_
 exact Wp.seq _ (FN ..) λr hr=> .some hr
def vq(a b:Int):Wp (M.iV aV a b) λ_=>True:=by
 unfold M.iV;rw[qY,qY];simp only[bx,aiD,rX]
 refine Wp.ite (λ_=> .some trivial) λ_=>?_
 refine Wp.seq _ (ta ..) λy _=>Wp.seq _ (ta ..) λz _=>?_
 refine Wp.seq (λ_=>True) (Wp.seq _ (tc ..) λr _=>?_) λj _=> .some trivial
 exact .some trivial
end L.P
namespace L.P
def WB(x a b:Int):(if decide (x=a)=af then aa (decide (x=a))else aa (decide (x=b)))=aa (decide (x=a\/x=b)):=by
 grind
def WC(x a b c:Int):(if decide (x=a)=af then aa (decide (x=a))else(if decide (x=b)=af then aa (decide (x=b))else aa (decide (x=c))))=aa (decide (x=a\/x=b\/x=c)):=by
 grind
def Pb(x a b c d:Int):(if decide (x=a)=af then aa (decide (x=a))else(if decide (x=b)=af then aa (decide (x=b))else(if decide (x=c)=af then aa (decide (x=c))else aa (decide (x=d)))))=aa (decide (x=a\/x=b\/x=c\/x=d)):=by
 grind
def abt(x a b c d e:Int):(if decide (x=a)=af then aa (decide (x=a))else(if decide (x=b)=af then aa (decide (x=b))else(if decide (x=c)=af then aa (decide (x=c))else(if decide (x=d)=af then aa (decide (x=d))else aa (decide (x=e))))))=aa (decide (x=a\/x=b\/x=c\/x=d\/x=e)):=by
 grind
theorem Wp.fE{α:Type}{l:List α}{i:Int}{Q:α->Prop}(h0:0<=i)(h1:i<l.length)(h:∀x,x∈l->idx l i=Option.some x->Q x):Wp (idx l i) Q:=by
 obtain⟨k,rfl⟩:∃k:Nat,i=k:=⟨i.toNat,by omega⟩
 have hk:k<l.length:=by omega
 exact⟨_,aF hk,h _ (aiJ hk) (aF hk)⟩
def ar(op:Int):Int:=
 if(1<=op/\op<=9)\/(35<=op/\op<=39)then 0 else if op=10\/op=25\/(31<=op/\op<=34)then 1 else if(11<=op/\op<=24)\/(27<=op/\op<=30)then 2 else if op=26 then 3 else-1
def td(N:Nat)(op:Int):M.fZ N op=aa (ar op):=by
 by_cases h:1<=op/\op<=39
 .have:op=1\/op=2\/op=3\/op=4\/op=5\/op=6\/op=7\/op=8\/op=9\/op=10\/op=11\/op=12\/op=13\/op=14\/op=15\/op=16\/op=17\/op=18\/op=19\/op=20\/op=21\/op=22\/op=23\/op=24\/op=25\/op=26\/op=27\/op=28\/op=29\/op=30\/op=31\/op=32\/op=33\/op=34\/op=35\/op=36\/op=37\/op=38\/op=39:=by omega
  rcases this with rfl|rfl|rfl|rfl|rfl|rfl|rfl|rfl|rfl|rfl|rfl|rfl|rfl|rfl|rfl|rfl|rfl|rfl|rfl|rfl|rfl|rfl|rfl|rfl|rfl|rfl|rfl|rfl|rfl|rfl|rfl|rfl|rfl|rfl|rfl|rfl|rfl|rfl|rfl<;>(show(_:Option Int)=_;kernel_rfl)
 .have ha:ar op= -1:=by unfold ar;rw[ai (by omega),ai (by omega),ai (by omega),ai (by omega)]
  rw[ha]
  have ne:∀k:Int,1<=k->k<=39->decide (op=k)=ag:=λk h1 h2=>by simp;omega
  unfold M.fZ;simp[ne]
def sX(op:Int):ar op<=3:=by grind [P.ar]
def ry(env:kj.den):Prop:=env.2.2.2.1.length<=100/\∀t∈env.2.2.2.2.2,t.2.2.2.length<=9223372036854775807
def Fm(op m:Int):Prop:=0<=ar op/\(op=14\/op=15\/op=16->0<=m/\m<=5)/\(op=34->0<=m/\ajd m 8<=5)/\(op=6->0<=m)
def MC(N:Nat)(op:Int):Wp (M.kV N op) λ_=>True:=by
 unfold M.kV;simp only[bx,aiD];exact .some trivial
def JF(N:Nat)(op m:Int):Wp (M.kI N (op,m)) λb=>b=af->Fm op m:=by
 unfold M.kI;simp only[td,aiD]
 refine Wp.seq (λj=>j=ag->0<=ar op) ?_ λj hj=>?_
 .refine Wp.dec (λ_=> .some λh=>by cases h) λh=>?_
  refine Wp.fD (λ_=>Wp.seq _ (MC ..) λy _=> .some λ_=>by omega) λ_=> .some λ_=>by omega
 .refine Wp.ite (λ_=> .some λh=>by cases h) λhc=>?_
  have ha:=hj (by simpa using hc);rw[WC];simp only[aiD,bx,oh]
  refine .some λhb=>?_
  grind [P.Fm]
def XK(op m:Int)(env:kj.den):Prop:=
 (op=7->0<=m/\m<env.2.1.length)/\(op=8->0<=m/\m<env.2.2.1.length)/\(op=33->0<=m/\m<env.2.2.2.2.2.length)/\(op=34->aiE.wrap (aiQ m 8)<env.2.2.2.2.2.length)/\(op=36\/op=37\/op=38\/op=39->0<=m/\m<env.2.2.2.2.1.length)
def JG(N:Nat)(op m:Int)(env:kj.den):Wp (M.nZ N (op,m) env) λb=>b=af->XK op m env:=by
 unfold M.nZ XK;simp only
 refine Wp.dec (λh=>?_) λh7=>?_
 .subst h;simp only[bx,aiD,oh];exact .some (by grind)
 refine Wp.dec (λh=>?_) λh8=>?_
 .subst h
  refine Wp.seq (λj=>j=af->0<=m/\m<env.2.2.1.length) ?_ λj hj=> .some (by grind)
  refine Wp.dec (λh0=>Wp.dec (λh1=>Wp.bind (Wp.fE h0 h1 λx _ _=> .some λ_=>⟨h0,h1⟩)) λ_=> .some λh=>by cases h) λ_=> .some λh=>by cases h
 refine Wp.dec (λh=>?_) λh33=>?_
 .subst h;simp only[bx,aiD,oh];exact .some (by grind)
 refine Wp.dec (λh=>?_) λOU=>?_
 .subst h;exact .some (by grind)
 rw[Pb];simp only[aiD]
 refine Wp.dec (λh=>?_) λh36=> .some (by grind)
 simp only[bx,aiD,oh];exact .some (by grind)
def MD{N:Nat}(l:List Vl)(hl:l.length<=100000)(hN:100001<=N):Wp (M.iT N l) λb=>b=af->∀v∈l,gr v.1 v.2.1 v.2.2:=by
 unfold M.iT;refine Wp.loop (λs:Int=>∃i:Nat,s=i/\i<=l.length/\∀v∈l.take i,gr v.1 v.2.1 v.2.2) (λs=>(l.length-s).toNat) ⟨0,rfl,ai6 _,by simp⟩ (by omega) ?_
 rintro _ ⟨i,rfl,hi,hp⟩
 refine Wp.dec (λh=>?_) λh=> .some λ_=>?_
 .have pJ:i<l.length:=by omega
  rw[aF pJ];simp only[aiD,ir]
  refine Wp.fD (λ_=> .some λh=>by cases h) λhq=> .some ?_
  rw[aT (by omega)];refine⟨⟨i+1,rfl,pJ,λv hv=>?_⟩,by grind⟩
  grind [List.take_succ_eq_append_getElem]
 grind
def DC(N:Nat)(a b:Vl):Wp (M.fb N a b) λ_=>True:=by
 unfold M.fb;simp only[bx,aiD];exact .some trivial
def S4(N:Nat)(a b:Int):Wp (M.iU N a b) λ_=>True:=by
 unfold M.iU;simp only[qv,bx,aiD];exact .some trivial
def Pd(N:Nat)(op:Int)(a b:Vl):Wp (M.gX N op a b) λ_=>True:=by
 unfold M.gX M.fb;simp only[qv,bx,aiD];exact .some trivial
def XL(op m:Int)(env:kj.den):Prop:=
 (op=34->∀t,idx env.2.2.2.2.2 (aiE.wrap (aiQ m 8))=aa t->t.2.1=((3,0):Int×Int)/\t.2.2.1=((4,0):Int×Int))/\(op=36\/op=37\/op=38\/op=39->∀t,idx env.2.2.2.2.1 m=aa t->Ww op t)
def FO{N:Nat}{op m:Int}{args:List Vl}{env:kj.den}(hx:XK op m env)(ha:(args.length:Int)=ar op)(OU:op=34->0<=aiE.wrap (aiQ m 8)):Wp (M.nf N (op,m) args env) λb=>b=af->XL op m env:=by
 obtain⟨x7,x8,Qc,VS,x36⟩:=hx;unfold M.nf XL;dsimp only[aB,Row.den]
 have no:∀{b:Bool},¬op=34->¬(op=36\/op=37\/op=38\/op=39)->b=af->(op=34->∀t,idx env.2.2.2.2.2 (aiE.wrap (aiQ m 8))=aa t->t.2.1=((3,0):Int×Int)/\t.2.2.1=((4,0):Int×Int))/\(op=36\/op=37\/op=38\/op=39->∀t,idx env.2.2.2.2.1 m=aa t->Ww op t):=λh1 h2 _=>⟨λe=>absurd e h1,λe=>absurd e h2⟩
 refine Wp.dec (λh=>?_) λh7=>?_
 .obtain⟨a,b⟩:=x7 h;exact Wp.bind (Wp.fE a b λx _ _=>by rw[ir];exact .some (no (by omega) (by omega)))
 refine Wp.dec (λh=>?_) λh8=>?_
 .obtain⟨a,b⟩:=x8 h;exact Wp.bind (Wp.fE a b λx _ _=>by rw[ir];exact .some (no (by omega) (by omega)))
 have agw:1<=ar op->0<args.length:=λh=>by omega
 refine Wp.dec (λh=>?_) λh33=>?_
 .obtain⟨a,b⟩:=Qc h
  have h1:ar op=1:=by rw[h];decide
  refine Wp.bind (Wp.fE a b λx _ _=>?_)
  refine Wp.seq (λ_=>True) ?_ λj _=> .some (no (by omega) (by omega))
  refine Wp.bind (Wp.fE (ajs 0) (by omega) λy _ _=>?_);rw[xj];simp only[aiD,bx];exact .some trivial
 refine Wp.dec (λh=>?_) λWD=>?_
 .have b:=VS h
  have h1:ar op=1:=by rw[h];decide
  refine Wp.bind (Wp.fE (OU h) b λx _ WE=>?_)
  refine Wp.seq (λj=>j=af->x.2.1=((3,0):Int×Int)/\x.2.2.1=((4,0):Int×Int)) ?_ λj hj=> .some λhb=>⟨λ_ t ht=>?_,λe=>by omega⟩
  .refine Wp.bind (Wp.fE (ajs 0) (by omega) λy _ _=>?_);simp only[bx,oh]
   refine .some λhb=>?_
   simp only[ajH,oo,az]at hb;exact⟨hb.2.1,hb.2.2⟩
  .rw[WE]at ht;obtain rfl:=aiF ht;exact hj hb
 rw[Pb];simp only[aiD]
 refine Wp.dec (λh=>?_) λh36=>?_
 .obtain⟨a,b⟩:=x36 h;refine Wp.bind (Wp.fE a b λx _ WE=>?_);rw[ur]
  refine .some λhb=>⟨λe=>absurd e WD,λ_ t ht=>?_⟩
  rw[WE]at ht;obtain rfl:=aiF ht;simpa using hb
 have XM:∀b:Bool,b=af->_:=λb=>no (b:=b) WD h36
 refine Wp.dec (λh=>?_) λ_=>?_
 .refine Wp.bind (Wp.fE (ajs 0) (by omega) λy _ _=>?_)
  exact Wp.seq _ (S4 ..) λb _=> .some (XM b)
 refine Wp.dec (λh=>?_) λ_=>?_
 .refine Wp.bind (Wp.fE (ajs 0) (by omega) λy _ _=>?_);refine Wp.bind (Wp.fE (by omega) (by omega) λz _ _=>?_)
  exact Wp.seq _ (Pd ..) λb _=> .some (XM b)
 refine Wp.dec (λh=>?_) λ_=> .some (XM _)
 refine Wp.seq (λ_=>True) ?_ λb _=> .some (XM b)
 refine Wp.bind (Wp.fE (ajs 0) (by omega) λy _ _=>?_)
 refine Wp.dec (λ_=>?_) λ_=> .some trivial
 refine Wp.bind (Wp.fE (by omega) (by omega) λz _ _=>?_);refine Wp.bind (Wp.fE (by omega) (by omega) λz' _ _=>?_)
 exact Wp.seq _ (DC ..) λb _=> .some trivial
def Ce(c:Int):Prop:=c=0\/c=3\/c=12\/c=6\/c=8
def Cd.e{c:Int}(h:Cd c):Ce c:=by unfold Cd at h;unfold Ce;omega
theorem DD{op:Int}{t:Ty}{j:Nat}:{ms:List (List Vl)}->{first:Bool}->{acc c:Int}->qw op t j ms first acc= .inr c->c=3\/c=6\/c=8
 |[],_,_,_,h=>by cases h
 |l::ms,first,acc,c,h=>by
  rw[qw]at h;split at h
  .grind
  .split at h
   .grind
   .split at h
    .split at h
     .exact DD h
     grind
    grind
def Pe(op:Int)(t:Ty)(j:Nat)(ms:List (List Vl)):Ce (O5 op t j ms).2:=by
 grind [P.O5,P.Ce,P.DD]
def lR(N:Nat)(b:Bool):Wp (M.eP N b) λ_=>True:=by
 unfold M.eP;simp only[bx];exact .some trivial
def ME(op:Int)(a:Vl):Wp (M.pw aV op a) λ_=>True:=by
 unfold M.pw
 refine Wp.dec (λ_=> .some trivial) λ_=>?_
 refine Wp.dec (λ_=>Wp.seq _ (lR ..) λ_ _=> .some trivial) λ_=>?_
 refine Wp.seq _ (ta ..) λy _=>?_
 simp only[bx];exact .some trivial
def FP(N:Nat)(a b:Int):Wp (M.ni N a b) λr=>Cd r.2:=by
 unfold M.ni
 refine Wp.seq _ (s9 ..) λr _=>?_
 simp only[bx,aiD];exact .some (Bl (Cd3 _) (Bl (Kl _) (Kl _)))
def JH{op m:Int}{a b:Vl}(hm:op=14\/op=15\/op=16->0<=m/\m<=5)(sN:13<=op/\op<=16):Wp (M.n7 aV (op,m) a b) λr=>Cd r.2:=by
 unfold M.n7;dsimp only[aB,Row.den]
 refine Wp.seq (λj=>Cd j.1) ?_ λj hj=> .some hj
 refine Wp.dec (λ_=>Wp.seq _ (FP ..) λr hr=> .some hr) λTN=>?_
 have Ri:=hm (by omega);simp only[bx,aiD,oh]
 refine Wp.ite (λ_=>Wp.seq _ (JD Ri) λr hr=> .some hr) λ_=>?_
 refine Wp.dec (λ_=>Wp.seq _ (Pa Ri) λr hr=> .some hr) λ_=>?_
 refine Wp.dec (λ_=>Wp.seq _ (FM Ri) λr hr=> .some hr) λ_=>?_
 refine Wp.dec (λ_=>Wp.seq _ (oi _ Ri) λr hr=> .some hr) λ_=>?_
 exact Wp.seq _ (Bm Ri) λr hr=> .some hr
def JI{op m:Int}{a b:Vl}(hm:op=14\/op=15\/op=16->0<=m/\m<=5):Wp (M.n9 aV (op,m) a b) λr=>Cd r.2:=by
 unfold M.n9;dsimp only[aB,Row.den];rw[WB,Pb,WB];simp only[aiD]
 refine Wp.ite (λ_=> .some (Kl 0)) λ_=>?_
 refine Wp.dec (λ_=> .some (Kl 0)) λ_=>?_
 refine Wp.dec (λh=>Wp.seq _ (JH hm (by omega)) λr hr=> .some hr) λ_=>?_
 refine Wp.dec (λ_=>?_) λ_=>?_
 .simp only[bx];exact .some (by split<;>exact Kl 0)
 refine Wp.dec (λ_=>Wp.seq _ (lR ..) λ_ _=> .some (Kl 0)) λ_=>?_
 refine Wp.dec (λ_=>Wp.seq _ (lR ..) λ_ _=> .some (Kl 0)) λ_=>?_
 refine Wp.dec (λ_=>Wp.seq _ (lR ..) λ_ _=> .some (Kl 0)) λ_=>?_
 refine Wp.dec (λ_=>Wp.seq _ (lR ..) λ_ _=> .some (Kl 0)) λ_=>?_
 refine Wp.dec (λ_=>Wp.seq (λj=>j.1=0) (Wp.dec (λ_=>Wp.seq _ (lR ..) λ_ _=> .some rfl) λ_=>Wp.seq _ (lR ..) λ_ _=> .some rfl) λj hj=> .some (.inl hj)) λ_=>?_
 refine Wp.dec (λ_=>Wp.seq (λj=>j.1=0) (Wp.dec (λ_=>Wp.seq _ (lR ..) λ_ _=> .some rfl) λ_=>Wp.seq _ (lR ..) λ_ _=> .some rfl) λj hj=> .some (.inl hj)) λ_=>?_
 refine Wp.dec (λ_=>Wp.seq _ (tc ..) λr hr=> .some hr) λ_=>?_
 refine Wp.dec (λ_=> .some (Kl 0)) λ_=>?_
 exact Wp.seq _ (vq ..) λr _=> .some (Kl 0)
def FQ{op m:Int}{args:List Vl}{env:kj.den}(he:ry env)(hf:Fm op m)(hx:XK op m env)(ha:(args.length:Int)=ar op)(haw:XL op m env)(OU:op=34->0<=aiE.wrap (aiQ m 8)):Wp (M.nj aV (op,m) args env) λr=>Ce r.2:=by
 obtain⟨x7,x8,Qc,VS,x36⟩:=hx;obtain⟨f0,f14,f34,_⟩:=hf;obtain⟨w34,w36⟩:=haw;have Nw:Ce 0:= .inl rfl;unfold M.nj;dsimp only[aB,Row.den];rw[abt,Pb];simp only[aiD]
 refine Wp.dec (λ_=> .some Nw) λ_=>?_
 refine Wp.dec (λ_=> .some Nw) λ_=>?_
 refine Wp.dec (λh=>Wp.bind (Wp.fE (x7 h).1 (x7 h).2 λx _ _=> .some Nw)) λ_=>?_
 refine Wp.dec (λh=>Wp.bind (Wp.fE (x8 h).1 (x8 h).2 λx _ _=> .some Nw)) λ_=>?_
 refine Wp.dec (λ_=> .some Nw) λ_=>?_
 refine Wp.dec (λ_=> .some Nw) λ_=>?_
 refine Wp.dec (λh=>?_) λ_=>?_
 .obtain⟨a,b⟩:=x36 h
  obtain⟨j,rfl⟩:∃j:Nat,m=j:=⟨m.toNat,by omega⟩
  have hj:j<env.2.2.2.2.1.length:=by omega
  rw[xl (by unfold aV;omega) h hj he.1 (w36 h _ (aF hj))];exact .some (Pe ..)
 refine Wp.dec (λh=>?_) λ_=>?_
 .have h1:ar op=1:=by rw[h];decide
  refine Wp.bind (Wp.fE (Qc h).1 (Qc h).2 λx hx _=>?_);refine Wp.bind (Wp.fE (ajs 0) (by omega) λy _ _=>?_)
  refine Wp.seq _ (JE _ _ _ (he.2 x hx)) λr hr=>?_
  refine Wp.ite (λ_=> .some (by unfold Ce;omega)) λhc=>?_
  obtain⟨a,b⟩:=hr (by simpa using hc);exact Wp.bind (Wp.fE a b λz _ _=> .some Nw)
 refine Wp.dec (λh=>?_) λ_=>?_
 .have h1:ar op=1:=by rw[h];decide
  refine Wp.bind (Wp.fE (OU h) (VS h) λx hx WE=>?_);refine Wp.bind (Wp.fE (ajs 0) (by omega) λy _ _=>?_);obtain⟨k1,k2⟩:=w34 h x WE;obtain⟨m1,m2⟩:=f34 h
  have:0<=ajd m 8:=by rw[Int.tmod_eq_emod_of_nonneg m1];omega
  exact Wp.seq _ (DB ⟨this,m2⟩ k1 k2 (he.2 x hx)) λr hr=> .some hr.e
 refine Wp.dec (λh=>?_) λ_=>?_
 .refine Wp.bind (Wp.fE (ajs 0) (by omega) λy _ _=>?_)
  exact Wp.seq _ (ME ..) λr _=> .some Nw
 refine Wp.dec (λh=>?_) λ_=>?_
 .refine Wp.bind (Wp.fE (ajs 0) (by omega) λy _ _=>?_);refine Wp.bind (Wp.fE (by omega) (by omega) λz _ _=>?_)
  exact Wp.seq _ (JI f14) λr hr=> .some hr.e
 have h3:ar op=3:=by
  have:¬ar op=0:=by unfold ar;split<;>(try split)<;>(try split)<;>(try split)<;>omega
  have:=sX op;omega
 refine Wp.bind (Wp.fE (ajs 0) (by omega) λy _ _=>?_)
 refine Wp.dec (λ_=>Wp.bind (Wp.fE (by omega) (by omega) λz _ _=> .some Nw)) λ_=>Wp.bind (Wp.fE (by omega) (by omega) λz _ _=> .some Nw)
structure WG(r:Vl×Int):Prop where
 ok:r.2=0->gr r.1.1 r.1.2.1 r.1.2.2
 bad:r.2≠0->r.1=((0,0,0):Int×Int×Int)
 code:r.2=0\/r.2=2\/r.2=3\/r.2=6\/r.2=8\/r.2=12
def MF{n:Ty}{args:List Vl}{env:kj.den}(he:ry env)(hn:WF aD n)(hl:args.length<=100000):Wp (M.kZ aV n args env) WG:=by
 obtain⟨op,m⟩:=n;have hm:=hn.2;unfold M.kZ
 have err:∀c:Int,c≠0->(c=2\/c=3\/c=6\/c=8\/c=12)->WG (((0:Int),((0:Int),(0:Int))),c):=λc h1 h2=>⟨λh=>absurd h h1,λ_=>rfl, .inr h2⟩
 refine Wp.seq (λj=>j=ag->Fm op m/\(args.length:Int)=ar op) ?_ λj hj=>?_
 .refine Wp.seq _ (JF ..) λy hy=>?_
  refine Wp.ite (λ_=> .some λh=>by cases h) λhc=>?_
  rw[td];exact .some (by grind)
 refine Wp.ite (λ_=> .some (err 2 (by decide) (by omega))) λhc=>?_
 obtain⟨hf,ha⟩:=hj (by simpa using hc)
 refine Wp.seq _ (JG ..) λy hy=>?_
 refine Wp.ite (λ_=> .some (err 6 (by decide) (by omega))) λxJ=>?_
 have hx:=hy (by simpa using xJ)
 have OU:op=34->0<=aiE.wrap (aiQ m 8):=λe=>by
  have h0:=(hf.2.2.1 e).1;have h1:(m:Int)<=9223372036854775807:=hm.2;rw[Int.tdiv_eq_ediv_of_nonneg h0];dsimp only[aB,Row.den]at h0 h1⊢
  grind [aX]
 refine Wp.seq (λj=>j=ag->XL op m env) ?_ λj5 hj5=>?_
 .refine Wp.seq _ (MD _ hl (by unfold aV;omega)) λy _=>?_
  refine Wp.ite (λ_=> .some λh=>by cases h) λ_=>?_
  exact Wp.seq _ (FO hx ha OU) λz hz=> .some λh=>hz (by simpa using h)
 refine Wp.ite (λ_=> .some (err 8 (by decide) (by omega))) λNV=>?_
 have haw:=hj5 (by simpa using NV)
 refine Wp.seq _ (FQ he hf hx ha haw OU) λr hr=>?_
 refine Wp.fD (λh=> .some (err _ h (by unfold Ce at hr;omega))) λ_=>?_
 rw[ir];simp only[aiD]
 refine Wp.fD (λ_=> .some (err 3 (by decide) (by omega))) λhp=> .some ⟨λ_=>hp,λh=>absurd rfl h, .inl rfl⟩
end L.P
namespace L.P
abbrev eU(l:List Nat):List Int:=l.map (λn:Nat=>(n:Int))
def vG(a:Int)(i:Nat)(sk:List Nat):Nat:=if a=0 then i else sk.getD (sk.length-a.toNat) 0
def k8:List Ty->Nat->List Nat->List Nat->(Nat×Int)⊕(List Nat×List Nat)
 |[],_,st,sk=> .inr (st,sk)
 |n::e,i,st,sk=>
  if ar n.1<0 then .inl (i,2)else if(sk.length:Int)<ar n.1 then .inl (i,5)else
  if 12<sk.length-(ar n.1).toNat+1 then .inl (i,16)else k8 e (i+1) (st++[vG (ar n.1) i sk]) (sk.take (sk.length-(ar n.1).toNat)++[vG (ar n.1) i sk])
def q8(e:List Ty):Int×Int×List Int:=
 if 48<e.length then(0,4,[])else if e.length=0 then(0,5,[])else match k8 e 0 [] []with
  | .inl (i,c)=>(i,c,[])
  | .inr (st,sk)=>if 1<sk.length then(e.length,4,[])else(0,0,eU st)
def Bb(st:List Nat)(m:Nat)(v:Nat):b8 (eU st++aiN (m+1) (0:Int)) (st.length:Int) (v:Int)=eU (st++[v])++aiN m (0:Int):=by
 grind [b8]
def uo(st:List Nat)(m:Nat)(u v:Nat):b8 (eU (st++[u])++aiN m (0:Int)) (st.length:Int) (v:Int)=eU (st++[v])++aiN m (0:Int):=by
 unfold b8
 simp_all
def tf(e:List Ty):M.fi aV e=aa (q8 e):=by
 apply Wp.eq;unfold M.fi q8
 refine Wp.dec (λh=> .some ?_) λh1=>?_
 .grind
 rw[ai (show¬48<e.length by omega)]
 refine Wp.dec (λh=> .some ?_) λh2=>?_
 .grind
 rw[ai (show¬e.length=0 by omega)]
 have Ow:pT (e.length:Int) (0:Int)=aa (aiN e.length 0):=by
  unfold pT;rw[aj (by omega),aiL]
 rw[Ow];simp only[aiD];refine Wp.join (Wp.loop (λs:Int×List Int×List Int=>∃st sk:List Nat,s=((st.length:Int),eU st++aiN (e.length-st.length) 0,eU sk)/\st.length<=e.length/\sk.length<=12/\k8 (e.drop st.length) st.length st sk=k8 e 0 [] []) (λs=>(e.length-s.1).toNat) ⟨[],[],by simp,by simp,by simp,by simp⟩ (by simp only;unfold aV;omega) ?_)
 rintro _ ⟨st,sk,rfl,gq,hsk,bG⟩
 simp only
 refine Wp.dec (λhk=>?_) λhk=> .some ?_
 case refine_2=>
  have hd:e.drop st.length=[]:=ajo (by omega);rw[hd]at bG;rw[<-bG]
  have h0:e.length-st.length=0:=by omega
  rw[h0];simp only[k8,List.replicate_zero,ajv]
  show Wp _ _
  refine Wp.dec (λh=> .some ?_) λh=> .some ?_
  all_goals grind
 have iK:st.length<e.length:=by omega
 have hd:e.drop st.length=e[st.length]::e.drop (st.length+1):=ai5 iK
 obtain⟨m,hm⟩:∃m,e.length-st.length=m+1:=⟨e.length-st.length-1,by omega⟩
 rw[hd]at bG;rw[aF iK,hm];simp only[aiD,td];generalize sN:(e[st.length].1:Int)=op;rw[k8]at bG;rw[sN]at bG;have XF:=sX op
 refine Wp.dec (λh=> .some ?_) λMr=>?_
 .rw[aj h]at bG
  show _=_
  rw[<-bG]
 rw[ai Mr]at bG
 refine Wp.dec (λh=> .some ?_) λhlen=>?_
 .rw[aj (by simpa using h)]at bG
  show _=_
  rw[<-bG]
 have hlen:¬(sk.length:Int)<ar op:=by simpa using hlen
 rw[ai hlen]at bG
 obtain⟨a,ha⟩:∃a:Nat,ar op=a:=⟨(ar op).toNat,by omega⟩
 rw[ha]at bG Mr hlen XF⊢
 have abe:a<=sk.length:=by omega
 have e6:idx (eU st++aiN (m+1) (0:Int)) (st.length:Int)=aa 0:=by
  rw[aF (by simp)];rw[ajc (by simp)];simp
 rw[e6]
 have hw:aiE.wrap (((eU sk).length:Int)-(a:Int))=((sk.length-a:Nat):Int):=by
  rw[List.length_map,aX (by omega) (by omega)];omega
 have hs:vG (a:Int) st.length sk=(if a=0 then st.length else sk.getD (sk.length-a) 0):=by
  unfold vG;by_cases h0:a=0
  .subst h0;simp
  .grind
 simp only[aiD,Bb,hw];refine Wp.seq (· =eU (st++[vG (a:Int) st.length sk])++aiN m (0:Int)) ?_ ?_
 .refine Wp.dec (λh=>?_) λh=>?_
  .have aH:sk.length-a<(eU sk).length:=by simp;omega
   rw[aF aH]
   have e9:idx (eU (st++[st.length])++aiN m (0:Int)) (st.length:Int)=aa (st.length:Int):=by
    rw[aF (by simp)];rw[ai7 (by simp)];simp
   simp only[aiD,e9,List.getElem_map,uo];refine .some ?_
   grind
  .refine .some ?_
   grind
 .rintro _ rfl
  generalize vG (a:Int) st.length sk=s at bG⊢
  have Ej:fX (eU sk) (0:Int) ((sk.length-a:Nat):Int)=aa (eU (sk.take (sk.length-a))):=by
   rw[qV (by simp)];simp
  have e11:idx (eU (st++[s])++aiN m (0:Int)) (st.length:Int)=aa (s:Int):=by
   rw[aF (by simp)];rw[ai7 (by simp)];simp
  have SK:cA (eU (sk.take (sk.length-a))) [(s:Int)]=aa (eU (sk.take (sk.length-a)++[s])):=by
   rw[fJ (by simp;omega)];simp
  rw[Ej];simp only[aiD,e11,SK]
  have hl:(eU (sk.take (sk.length-a)++[s])).length=sk.length-a+1:=by simp
  rw[hl];rw[aiL]at bG
  refine Wp.dec (λh=> .some ?_) λh=> .some ?_
  .rw[aj (by omega)]at bG
   show _=_
   rw[<-bG]
  .rw[ai (by omega)]at bG;rw[aT (by omega)];refine⟨⟨st++[s],sk.take (sk.length-a)++[s],?_,by simp;omega,by simp;omega,?_⟩,by grind⟩
   all_goals grind
inductive Ch(st:List Nat):Nat->List Nat->Prop
 |nil:Ch st 0 []
 |snoc {i s:Nat} {l:List Nat} (h:st[i]? =aa s) (hs:s<=i) (c:Ch st s l):Ch st (i+1) (l++[s])
def Ch.mono{st dB:List Nat}(hs:∀i s:Nat,st[i]? =aa s->dB[i]? =aa s){i:Nat}{l:List Nat}(h:Ch st i l):Ch dB i l:=by
 induction h with
 |nil=>exact .nil
 |snoc h1 h2 _ ih=>exact .snoc (hs _ _ h1) h2 ih
def tg{st:List Nat}{x i s:Nat}(h:st[i]? =aa s):(st++[x])[i]? =aa s:=by
 grind
def Ch.lt{st:List Nat}{i:Nat}{l:List Nat}(h:Ch st i l):∀x∈l,x<i:=by
 induction h<;>grind
def Ch.take{st:List Nat}{i:Nat}{l:List Nat}(h:Ch st i l):∀m(hm:m<l.length),Ch st l[m] (l.take m):=by
 induction h<;>grind
def Ch.abw{st:List Nat}{i:Nat}{l l':List Nat}(h:Ch st i l)(h':Ch st i l'):l=l':=by
 induction h generalizing l' with
 |nil=>cases h'<;>grind
 | @snoc i s l h1 h2 c ih=>
   cases h'<;>grind
structure th(e:List Ty)(st:List Nat):Prop where
 len:st.length=e.length
 node:∀p(h:p<e.length),0<=ar e[p].1/\∃l,Ch st p l/\(ar e[p].1).toNat<=l.length/\l.length-(ar e[p].1).toNat+1<=12/\st[p]? =aa (vG (ar e[p].1) p l)
def th.nil:th [] []:=⟨rfl,λp h=>by simp at h⟩
def th.snoc{e:List Ty}{st:List Nat}(v:th e st){n:Ty}{sk:List Nat}(h0:0<=ar n.1)(hc:Ch st e.length sk)(ha:(ar n.1).toNat<=sk.length)(hd:sk.length-(ar n.1).toNat+1<=12):th (e++[n]) (st++[vG (ar n.1) e.length sk]):=by
 refine⟨by simp[v.len],λp hp=>?_⟩;by_cases h:p<e.length
 .rw[ai7 h];obtain⟨h1,l,h2,h3,h4,h5⟩:=v.node p h;exact⟨h1,l,h2.mono λ_ _ h=>tg h,h3,h4,tg h5⟩
 .have:p=e.length:=by simp at hp;omega
  subst this;rw[ajc (by omega)];simp only[Nat.sub_self,List.getElem_cons_zero];refine⟨h0,sk,hc.mono λ_ _ h=>tg h,ha,hd,?_⟩
  grind [P.th.len]
def S5{a:Int}{i:Nat}{st l:List Nat}(h0:0<=a)(hc:Ch st i l)(ha:a.toNat<=l.length):vG a i l<=i:=by
 unfold vG;split
 .grind
 .have aH:l.length-a.toNat<l.length:=by omega
  simp only[List.getD,aiG aH,Option.getD_some];exact aj8 (hc.lt _ (aiJ aH))
def Ch.next{st l:List Nat}{i:Nat}{a:Int}(h0:0<=a)(hc:Ch st i l)(ha:a.toNat<=l.length)(hs:st[i]? =aa (vG a i l)):Ch st (i+1) (l.take (l.length-a.toNat)++[vG a i l]):=by
 refine .snoc hs (S5 h0 hc ha) ?_;unfold vG;by_cases h:a=0
 .simp_all
 .have aH:l.length-a.toNat<l.length:=by omega
  rw[ai h];simp only[List.getD,aiG aH,Option.getD_some];exact hc.take _ aH
def DE:∀(Nx pre:List Ty)(st sk dB Ns:List Nat),th pre st->Ch st pre.length sk->k8 Nx pre.length st sk= .inr (dB,Ns)->th (pre++Nx) dB/\Ch dB (pre++Nx).length Ns
 |[],pre,st,sk,dB,Ns,v,c,h=>by
  grind [P.k8]
 |n::Nx,pre,st,sk,dB,Ns,v,c,h=>by
  rw[k8]at h;split at h
  .cases h
  split at h
  .cases h
  split at h
  .cases h
  rename_i h1 h2 h3
  have h0:0<=ar n.1:=by omega
  have ha:(ar n.1).toNat<=sk.length:=by omega
  have v':=v.snoc h0 c ha (by omega)
  have c1:Ch (st++[vG (ar n.1) pre.length sk]) pre.length sk:=c.mono λ_ _ h=>tg h
  have hs:(st++[vG (ar n.1) pre.length sk])[pre.length]? =aa (vG (ar n.1) pre.length sk):=by
   rw[<-v.len,List.getElem?_append_right (by omega)];simp[v.len]
  have c':=c1.next h0 ha hs;have:=DE Nx (pre++[n]) _ _ dB Ns v' (by simpa using c') (by simpa using h)
  grind
def DF{e:List Ty}{st:List Nat}(v:th e st):∀(Nx pre:List Ty)(sk:List Nat),pre++Nx=e->Ch st pre.length sk->∃Ns,k8 Nx pre.length (st.take pre.length) sk= .inr (st,Ns)/\Ch st e.length Ns
 |[],pre,sk,he,c=>by
  rw[ajv]at he;subst he;exact⟨sk,by rw[k8,<-v.len,aiS],c⟩
 |n::Nx,pre,sk,he,c=>by
  subst he;obtain⟨h0,l,h1,h2,h3,h4⟩:=v.node pre.length (by simp);rw[ajc (by omega)]at h0 h2 h3 h4;simp only[Nat.sub_self,List.getElem_cons_zero]at h0 h2 h3 h4;obtain rfl:=h1.abw c;rw[k8,ai (by omega),ai (by omega),ai (by omega)];have c':=c.next h0 h2 h4;obtain⟨Ns,g1,g2⟩:=DF v Nx (pre++[n]) _ (by simp) (by simpa using c')
  grind [List.take_succ_eq_append_getElem]
end L.P
namespace L.P
def opsL(st:List Nat):Nat->Nat->List Nat
 |0,_=>[]
 |a+1,i=>opsL st a (st.getD (i-1) 0)++[i-1]
def DG(st:List Nat):∀a i,(opsL st a i).length=a
 |0,_=>rfl
 |a+1,i=>by simp[opsL,DG st a]
def S6{st l:List Nat}{i:Nat}(c:Ch st i l):∀a,a<=l.length->(∀o∈opsL st a i,o<i/\(if h:l.length-a<l.length then l[l.length-a]else i)<=o/\∃s,st[o]? =aa s/\s<=o/\(if h:l.length-a<l.length then l[l.length-a]else i)<=s):=by
 induction c with
 |nil=>intro a ha o ho;simp at ha;subst ha;simp[opsL]at ho
 | @snoc i s l h1 h2 c ih=>
   intro a ha o ho
   cases a with
   |zero=>simp[opsL]at ho
   |succ a=>
    have aH:(l++[s]).length-(a+1)<(l++[s]).length:=by simp;omega
    rw[dif_pos aH]
    have e1:(l++[s])[(l++[s]).length-(a+1)]=(if h:l.length-a<l.length then l[l.length-a]else s):=by
     split
     .grind
     .grind
    rw[e1]
    have hg:st.getD (i+1-1) 0=s:=by simp[List.getD,h1]
    rw[opsL,hg]at ho;simp at ha
    have hle:(if h:l.length-a<l.length then l[l.length-a]else s)<=s:=by
     split
     .rename_i h;exact aj8 (c.lt _ (aiJ h))
     .exact aiM _
    grind
def th.ops{e:List Ty}{st:List Nat}(v:th e st){p:Nat}(h:p<e.length):∀o∈opsL st (ar e[p].1).toNat p,o<p/\∃s t,st[o]? =aa s/\s<=o/\st[p]? =aa t/\t<=s:=by
 obtain⟨h0,l,h1,h2,_,h4⟩:=v.node p h;intro o ho;obtain⟨g1,g2,s,g3,g4,g5⟩:=S6 h1 _ h2 o ho;refine⟨g1,s,_,g3,g4,h4,?_⟩
 grind [P.vG]
def z3:Vl:=((0,0,0):Int×Int×Int)
def mW(g:Nat->Vl×Int):List Nat->List Vl⊕Int
 |[]=> .inl []
 |o::os=>if(g o).2=0 then(match mW g os with
  | .inl vs=> .inl ((g o).1::vs)
  | .inr c=> .inr c)else .inr (g o).2
def tj(r:Vl×Int):Vl×Int:=if r.2≠0 then(z3,r.2)else if(r.1.1:Int)=1/\gr r.1.1 r.1.2.1 r.1.2.2 then(r.1,0)else(z3,8)
def Qq(g:Nat->Vl×Int)(n:Ty)(ops:List Nat):Vl×Int:=
 if(n.2:Int)≠0 then(z3,2)else
 if(tj (g (ops.getD 0 0))).2≠0 then(z3,(tj (g (ops.getD 0 0))).2)else
 if(n.1:Int)=26/\((tj (g (ops.getD 0 0))).1.2.2:Int)=1 then g (ops.getD 1 0)else
 if(n.1:Int)=26 then g (ops.getD 2 0)else
 if((n.1:Int)=23)=(((tj (g (ops.getD 0 0))).1.2.2:Int)=0)then((tj (g (ops.getD 0 0))).1,0)else tj (g (ops.getD 1 0))
def uw(op:Int):Prop:=op=23\/op=24\/op=26
instance(op:Int):Decidable (uw op):=by unfold uw;infer_instance
noncomputable def qy(ap:Ty->List Vl->Vl×Int)(e:List Ty)(st:List Nat):Nat->Nat->Vl×Int
 |0,_=>(z3,0)
 |f+1,i=>if uw (e.getD i ((0,0):Int×Int)).1 then Qq (qy ap e st f) (e.getD i ((0,0):Int×Int)) (opsL st (ar (e.getD i ((0,0):Int×Int)).1).toNat i)
  else match mW (qy ap e st f) (opsL st (ar (e.getD i ((0,0):Int×Int)).1).toNat i)with
   | .inl vs=>ap (e.getD i ((0,0):Int×Int)) vs
   | .inr c=>(z3,c)
def DH{e:List Ty}{st:List Nat}(v:th e st)(hl:e.length<=100000)(env:kj.den){i:Nat}(hi:i<e.length):M.eK aV (e,(eU st,env)) (i:Int)=aa (eU (opsL st (ar e[i].1).toNat i)):=by
 apply Wp.eq;obtain⟨h0,l,hc,ha,hd,_⟩:=v.node i hi;unfold M.eK;simp only;rw[aF hi];simp only[aiD,td]
 obtain⟨a,hea⟩:∃a:Nat,ar e[i].1=a:=⟨(ar e[i].1).toNat,by omega⟩
 have hle:=sX e[i].1;rw[hea]at ha hle⊢;rw[aiL]at ha⊢
 have Ow:pT (a:Int) (0:Int)=aa (aiN a 0):=by
  unfold pT;rw[aj (by omega),aiL]
 rw[Ow];simp only[aiD,List.length_replicate];refine Wp.loop (λs:Int×Int×List Int=>∃b p:Nat,∃dn l':List Nat,s=((p:Int)-1,(b:Int)-1,aiN b (0:Int)++eU dn)/\b<=a/\p<=i/\opsL st a i=opsL st b p++dn/\Ch st p l'/\b<=l'.length) (λs=>(s.2.1+1).toNat) ⟨a,i,[],l,?_,aiM _,aiM _,by simp,hc,ha⟩ ?_ ?_
 .rw[aX (by omega) (by omega),aX (by omega) (by omega)];simp
 .simp only;rw[aX (n:=(a:Int)-1) (by omega) (by omega)];unfold aV;omega
 .rintro _ ⟨b,p,dn,l',rfl,h1,h2,h3,h4,h5⟩
  simp only
  refine Wp.dec (λhb=>?_) λhb=> .some ?_
  .obtain⟨b,rfl⟩:∃m,b=m+1:=⟨b-1,by omega⟩
   cases h4 with
   |nil=>simp at h5
   | @snoc p u l' g1 g2 c=>
     simp at h5;have hp:p<st.length:=(aiW.1 g1).1
     have e5:idx (aiN (b+1) (0:Int)++eU dn) (((b+1:Nat):Int)-1)=aa 0:=by
      rw[show((b+1:Nat):Int)-1=(b:Int) by omega,aF (by simp;omega),ai7 (by simp)];simp
     have e6:idx (eU st) (((p+1:Nat):Int)-1)=aa (u:Int):=by
      rw[show((p+1:Nat):Int)-1=(p:Int) by omega,aF (by simpa using hp)];have:=(aiW.1 g1).2;simp[this]
     rw[e5,e6];simp only[aiD];rw[aX (n:=(u:Int)-1) (by omega) (by omega),aX (n:=(((b+1:Nat):Int)-1)-1) (by omega) (by omega)];refine .some ⟨⟨b,u,p::dn,l',?_,by omega,by omega,?_,c,h5⟩,by simp only;omega⟩
     .have e7:b8 (aiN (b+1) (0:Int)++eU dn) (((b+1:Nat):Int)-1) (((p+1:Nat):Int)-1)=aiN b (0:Int)++eU (p::dn):=by
       unfold b8;rw[show(((b+1:Nat):Int)-1).toNat=b by omega,show((p+1:Nat):Int)-1=(p:Int) by omega,List.replicate_succ',List.append_assoc,List.set_append_right _ _ (by simp)];simp
      rw[e7];simp only[Prod.mk.injEq,and_true,true_and];omega
     .rw[h3,opsL]
      have:st.getD (p+1-1) 0=u:=by simp[List.getD,g1]
      rw[this];simp
  .obtain rfl:b=0:=by omega
   show _=_
   rw[h3];simp[opsL]
noncomputable def Ny(env:kj.den)(n:Ty)(args:List Vl):Vl×Int:=(M.kZ aV n args env).getD (z3,0)
def WH{env:kj.den}(he:ry env){n:Ty}(hn:WF aD n){args:List Vl}(hl:args.length<=100000):M.kZ aV n args env=aa (Ny env n args):=by
 obtain⟨r,hr,_⟩:=MF (n:=n) (args:=args) he hn hl;unfold Ny;rw[hr];rfl
def xo{N:Nat}{x:bJ.den}{o:Int}{r:Vl×Int}(h:M.bZ aV N x o=aa r):M.dm aV (N+1) x o=aa (tj r):=by
 unfold M.dm tj;rw[h];simp only[aiD,ir];by_cases h0:r.2=0
 .by_cases h1:(r.1.1:Int)=1
  .by_cases h2:gr r.1.1 r.1.2.1 r.1.2.2
   .rw[h1]at h2;simp[h0,h1,h2]
   .rw[h1]at h2;simp[h0,h1,h2,z3]
  .simp[h0,h1,z3]
 .simp[h0,z3]
def qz{g:Nat->Vl×Int}:∀(os:List Nat)(k:Nat),k<=os.length->∀vs,mW g (os.take k)= .inl vs->mW g os=(match mW g (os.drop k)with
 | .inl ws=> .inl (vs++ws)
 | .inr c=> .inr c)
 |os,0,_,vs,h=>by
  grind [P.mW]
 |[],k+1,h,_,_=>by simp at h
 |o::os,k+1,hk,vs,h=>by
  rw[List.take_succ_cons,mW]at h;split at h
  .rename_i h0
   cases hq:mW g (os.take k)with
   |inr c=>rw[hq]at h;cases h
   |inl ws=>
    rw[hq]at h;cases h;have:=qz os k (by simpa using hk) ws hq;rw[mW,aj h0,this,List.drop_succ_cons]
    cases mW g (os.drop k)<;>rfl
  .cases h
def Pf{e:List Ty}{st:List Nat}(v:th e st)(hl:e.length<=100000){env:kj.den}(he:ry env)(hw:∀n∈e,WF aD n):∀(f N i:Nat),i<f->i<e.length->3*f<=N->M.bZ aV N (e,(eU st,env)) (i:Int)=aa (qy (Ny env) e st f i):=by
 intro f
 induction f with
 |zero=>intro N i h;omega
 |succ f ih=>
  intro N i hif hi hN
  obtain⟨N,rfl⟩:∃m,N=m+3:=⟨N-3,by omega⟩
  have abx:=v.ops hi
  have hge:e.getD i ((0,0):Int×Int)=e[i]:=by simp[List.getD,hi]
  have hlen:=DG st (ar e[i].1).toNat i;have XF:=sX e[i].1
  have DI:∀M',3*f<=M'->∀o∈opsL st (ar e[i].1).toNat i,M.bZ aV M' (e,(eU st,env)) (o:Int)=aa (qy (Ny env) e st f o):=by
   intro M' hM' o ho;obtain⟨g1,_⟩:=abx o ho;exact ih M' o (by omega) (by omega) hM'
  unfold qy M.bZ;rw[hge,DH v hl env hi];simp only;rw[aF hi];simp only[aiD];rw[WC];simp only[aiD];have hwf:=hw e[i] (aiJ hi);generalize agD:opsL st (ar e[i].1).toNat i=ops at*;by_cases hz:uw e[i].1
  .rw[aj hz,aj (by simpa[uw]using hz)]
   have ha2:2<=ops.length/\((e[i].1:Int)=26->3<=ops.length):=by
    have:2<=ar e[i].1/\((e[i].1:Int)=26->ar e[i].1=3):=by
     revert hz;generalize(e[i].1:Int)=op;intro hz
     rcases hz with rfl|rfl|rfl<;>decide
    refine⟨by omega,λh=>?_⟩;have:=this.2 h;omega
   have gd:∀k(hk:k<ops.length),idx (eU ops) (k:Int)=aa ((ops.getD k 0:Nat):Int)/\ops.getD k 0∈ops:=by
    intro k hk
    have:ops.getD k 0=ops[k]:=by simp[List.getD,hk]
    rw[this];refine⟨?_,aiJ hk⟩;rw[aF (by simpa using hk)];simp
   obtain⟨i0,m0⟩:=gd 0 (by omega);obtain⟨i1,m1⟩:=gd 1 (by omega);unfold M.iP;rw[show((0:Nat):Int)=0 from rfl]at i0;rw[show((1:Nat):Int)=1 from rfl]at i1;rw[i0,i1];simp only[aiD];rw[xo (DI N (by omega) _ m0),xo (DI N (by omega) _ m1),DI (N+1) (by omega) _ m1];simp only[aiD,bx,oh];unfold Qq;generalize hb:tj (qy (Ny env) e st f (ops.getD 0 0))=b;by_cases h2:(e[i].2:Int)=0
   .rw[ai (by simp[h2])];by_cases Qj:b.2=0
    .rw[ai (by simp[Qj])];by_cases C8:(e[i].1:Int)=26
     .obtain⟨i2,m2⟩:=gd 2 (by have:=ha2.2 C8;omega);rw[show((2:Nat):Int)=2 from rfl]at i2;rw[i2];simp only[aiD];rw[DI (N+1) (by omega) _ m2];by_cases hn:(b.1.2.2:Int)=1
      .simp[h2,Qj,C8,hn]
      .simp[h2,Qj,C8,hn]
     .by_cases OE:(e[i].1:Int)=23<;>by_cases hn:(b.1.2.2:Int)=0<;>simp[h2,Qj,C8,OE,hn]
    .simp[h2,Qj,z3]
   .simp[h2,z3]
  .rw[ai hz,ai (by simpa[uw]using hz)]
   have Ow:pT ((eU ops).length:Int) ((0:Int),((0:Int),(0:Int)))=aa (aiN ops.length z3):=by
    unfold pT;rw[aj (by simp;omega)];simp[z3]
   rw[Ow];simp only[aiD];apply Wp.eq;refine Wp.join (Wp.loop (λs:Int×List Vl=>∃vs:List Vl,s=((vs.length:Int),vs++aiN (ops.length-vs.length) z3)/\vs.length<=ops.length/\mW (qy (Ny env) e st f) (ops.take vs.length)= .inl vs) (λs=>(ops.length-s.1).toNat) ⟨[],by simp,by simp,by simp[mW]⟩ (by simp only;unfold aV;omega) ?_)
   rintro _ ⟨vs,rfl,X7,hva⟩
   simp only;have tE:=qz ops vs.length X7 vs hva
   refine Wp.dec (λhk=>?_) λhk=> .some ?_
   .have iK:vs.length<ops.length:=by simp at hk;omega
    have aby:vs.length<(eU ops).length:=by simpa using iK
    rw[aF aby];simp only[aiD,List.getElem_map];rw[DI (N+2) (by omega) _ (aiJ iK)];simp only[aiD];have hd:ops.drop vs.length=ops[vs.length]::ops.drop (vs.length+1):=ai5 iK;rw[hd,mW]at tE;have ht:ops.take (vs.length+1)=ops.take vs.length++[ops[vs.length]]:=List.take_succ_eq_append_getElem iK
    obtain⟨r,hr⟩:∃r,qy (Ny env) e st f ops[vs.length]=r:=⟨_,rfl⟩
    rw[hr]at tE⊢;by_cases h0:r.2=0
    .rw[ai (by simp[h0])]
     obtain⟨m,hm⟩:∃m,ops.length-vs.length=m+1:=⟨ops.length-vs.length-1,by omega⟩
     rw[hm]
     have e8:idx (vs++aiN (m+1) z3) (vs.length:Int)=aa z3:=by
      rw[aF (by simp),ajc (by omega)];simp
     have e9:b8 (vs++aiN (m+1) z3) (vs.length:Int) r.1=(vs++[r.1])++aiN m z3:=by
      unfold b8;rw[aiL,List.set_append_right _ _ (by omega),List.replicate_succ];simp
     rw[e8];simp only[aiD,e9];rw[aT (by omega)]
     have lT:mW (qy (Ny env) e st f) [ops[vs.length]]= .inl [r.1]:=by
      simp only[mW,hr];rw[aj h0]
     have QR:=qz (g:=qy (Ny env) e st f) (ops.take (vs.length+1)) vs.length (by simp;omega) vs (by rw[List.take_take,ajV (by omega)];exact hva);rw[ht,List.drop_append_of_le_length (by simp;omega),ajo (by simp;omega),ajf,lT]at QR;refine .some ⟨⟨vs++[r.1],?_,by simp;omega,?_⟩,by simp only;omega⟩
     .have:ops.length-(vs++[r.1]).length=m:=by simp;omega
      rw[this];simp
     .rw[show(vs++[r.1]).length=vs.length+1 by simp,ht];exact QR
    .rw[aj (by simp[h0])];rw[ai h0]at tE;refine .some ?_
     show _=_
     rw[tE];rfl
   .have XG:ops.drop vs.length=[]:=ajo (by simp at hk;omega);rw[XG,mW]at tE;rw[tE]
    have h0:ops.length-vs.length=0:=by simp at hk;omega
    rw[h0];simp only[List.replicate_zero,ajv]
    show Wp ((M.kZ aV e[i] vs env).bind λWA=>aa (WA.1,WA.2)) _
    rw[WH he hwf (by omega)];exact .some rfl
end L.P
namespace L.P
structure Whole(e:List Ty)(st:List Nat):Prop where
 val:th e st
 ne:e≠[]
 le:e.length<=48
 one:st[e.length-1]? =aa 0
 res:q8 e=(0,0,eU st)
def zF:∀(e:List Ty)(i:Nat)(st sk:List Nat)(j:Nat)(c:Int),k8 e i st sk= .inl (j,c)->c=2\/c=5\/c=16
 |[],_,_,_,_,_,h=>by rw[k8]at h;cases h
 |n::e,i,st,sk,j,c,h=>by
  rw[k8]at h;split at h
  .cases h;exact .inl rfl
  split at h
  .cases h;exact .inr (.inl rfl)
  split at h
  .cases h;exact .inr (.inr rfl)
  exact zF e _ _ _ j c h
def Ch.Pg{st l:List Nat}{n:Nat}(h:Ch st n l)(hl:l=[]):n=0:=by
 cases h with
 |nil=>rfl
 |snoc=>simp at hl
def Ch.MG{st l:List Nat}{n:Nat}(h:Ch st n l)(hl:n=0):l=[]:=by
 cases h with
 |nil=>rfl
 |snoc=>omega
def Ch.one{st l:List Nat}{n:Nat}(h:Ch st n l)(hn:0<n):l.length<=1↔st[n-1]? =aa 0:=by
 cases h with
 |nil=>omega
 | @snoc i s l h1 h2 c=>
   rw[Nat.add_sub_cancel,h1];constructor
   .intro hl;have:l=[]:=List.length_eq_zero_iff.1 (by rw[List.length_append,List.length_singleton]at hl;omega);rw[c.Pg this]
   .intro hs
    have h0:s=0:=by simpa using hs
    rw[h0]at c;rw[c.MG rfl];simp
def MH{e:List Ty}{st:List Nat}(v:th e st)(du:e≠[])(hl:e.length<=48)(h1:st[e.length-1]? =aa 0):Whole e st:=by
 have pW:0<e.length:=List.length_pos_iff.2 du;refine⟨v,du,hl,h1,?_⟩;obtain⟨sk,g1,g2⟩:=DF v e [] [] rfl .nil;simp only[ajl,List.take_zero]at g1;unfold q8;rw[ai (by omega),ai (by omega),g1];simp only;rw[ai];have:=(g2.one pW).2 h1;omega
def FU(e:List Ty):(q8 e).2.1≠0\/∃st,Whole e st:=by
 unfold q8;split
 .left;show(4:Int)≠0;decide
 rename_i hl;split
 .left;show(5:Int)≠0;decide
 rename_i du
 cases hs:k8 e 0 [] []with
 |inl p=>
  left
  obtain⟨j,c⟩:=p
  show c≠0
  have:=zF _ _ _ _ _ _ hs;omega
 |inr p=>
  obtain⟨st,sk⟩:=p;obtain⟨v,c⟩:=DE e [] [] [] st sk th.nil .nil hs;simp only[ajf]at v c;by_cases h1:1<sk.length
  .left
   simp only[aj h1];decide
  .right
   exact⟨st,MH v (λh=>du (by rw[h];rfl)) (by omega) ((c.one (by omega)).1 (by omega))⟩
def FV{e:List Ty}{st:List Nat}(w:Whole e st){env:kj.den}(he:ry env)(hw:∀n∈e,WF aD n):M.jL aV e env=aa (qy (Ny env) e st e.length (e.length-1)):=by
 have pW:0<e.length:=List.length_pos_iff.2 w.ne;have hle:=w.le;unfold M.jL M.nY;rw[tf,w.res];simp only[aiD];rw[ai (by simp)];unfold M.kf;rw[show aiE.wrap ((e.length:Int)-1)=((e.length-1:Nat):Int) by rw[aX (by omega) (by omega)];omega];rw[Pf w.val (by omega) he hw e.length aV (e.length-1) (by omega) (by omega) (by unfold aV;omega)];rfl
def MI{e:List Ty}(h:(q8 e).2.1≠0)(env:kj.den):M.jL aV e env=aa (z3,(q8 e).2.1):=by
 unfold M.jL M.nY;rw[tf];simp only[aiD];rw[aj (by simp[h])];rfl
end L.P
namespace L
abbrev Vl:Type:=aE.den
abbrev WI:Type:=kj.den
def oj{α:Type}(n:Nat)(v:α)(h:n<=100000):pT (n:Int) v=aa (aiN n v):=by
 unfold pT;rw[aj (by omega),aiL]
def Bn{env:WI}(he:P.ry env){e:List Ty}(hw:∀n∈e,WF aD n):∃r,M.jL aV e env=aa r:=by
 rcases P.FU e with h|⟨st,w⟩
 .exact⟨_,P.MI h env⟩
 .exact⟨_,P.FV w he hw⟩
def Qr{l:Lw}(hw:WF bV l){d:Int}{vs D:List Vl}{ms:List (List Vl)}{WJ:List Ty}(h:ms.length<=100):P.ry (d,(vs,(D,(ms,(WJ,l.2.1))))):=by
 refine⟨h,λt ht=>?_⟩;have:=(hw.2.1.2 t ht).2.2.2.1;unfold maxLen at this;exact this
def MJ(rules:List ue)(a d:Int):(zC rules a d).length=(yw rules a d).length:=by
 unfold zC yw;rw[List.length_map,Dr]
def Hm{x:iJ}(Hc:WF aM x)(hl:x.2.2.2.2.length<=100000){env:WI}(he:P.ry env)(mem a:Int):Wp (M.iD aV x env mem a) λr=>(r.2.1:Int)=0->(r.1:Int)= -1\/(r.1:Int)= -2\/((0:Int)<=r.1/\(r.1:Int)<(x.2.2.2.2.length:Int)):=by
 have Ki:∀r∈x.2.2.2.2,WF da r:=Hc.2.2.2.2.2;unfold M.iD;rw[Jy x a env.1 hl,aiD]
 have hI:∀i∈yw x.2.2.2.2 a env.1,(0:Int)<=i/\i<(x.2.2.2.2.length:Int):=λi hi=>by
  obtain⟨k,hk,_,rfl⟩:=Bf.1 hi;omega
 have hIl:(yw x.2.2.2.2 a env.1).length<=x.2.2.2.2.length:=Hg _ _;have hP:=MJ x.2.2.2.2 a env.1;generalize yw x.2.2.2.2 a env.1=I at*;generalize zC x.2.2.2.2 a env.1=Ps at*;generalize Hi x.2.2.2.2 a env.1=Qs at*;dsimp only;rw[oj _ _ (by omega),aiD];refine .join (Wp.count (λs=>s.1) I.length (λk s=>s.2.length=I.length) (by omega) rfl (by simp) λk s hk hs hJ=>?_);obtain⟨c,b⟩:=s;dsimp only at hs hJ;subst hs;refine .dec (λh=>?_) (λh=> .some ?_)
 .have aH:k<I.length:=by dsimp only at h;omega
  obtain⟨i0,i1⟩:=hI _ (aiJ aH);obtain⟨i,hi⟩:=aiI i0
  have wY:i<x.2.2.2.2.length:=by omega
  have TO:=Ki _ (aiJ wY);refine .join (.bind (.idx k rfl aH (.bind (.idx i hi wY ?_))))
  refine .dec (λ_=> .bind (.idx k rfl (show k<b.length by omega) (.some (.some ⟨aH,aT (by omega),(cB ..).trans hJ⟩)))) λ_=> .bind (.idx i hi wY ?_)
  obtain⟨r,hr⟩:=Bn he (e:=x.2.2.2.2[i].2.2.2.2.2.1) TO.2.2.2.2.2.1.2;refine .qk hr ?_
  refine .fD (λh=> .some λg=>absurd g h) λ_=> .bind (.idx k rfl (show k<b.length by omega) (.some (.some ⟨aH,aT (by omega),(cB ..).trans hJ⟩)))
 .refine Wp.seq _ (JA Ps Qs b (by omega)) λv hv=>?_
  unfold Pl at hv
  refine .dec (λh=> .some λ_=>?_) λh=>?_
  .dsimp only;omega
  .obtain⟨v',rfl⟩:=aiI (show 0<=v by omega);refine .bind (.idx v' rfl (by omega) (.some λ_=> .inr (.inr (hI _ (aiJ _)))))
def Hn(x:iJ)(hs:iq x):∃c o,M.dI aV x=aa (c,o)/\o.length<=14/\∀a∈o,(0:Int)<=a/\a<(x.2.2.2.1.length:Int):=by
 have Hd:=hs.2.2.1;obtain⟨r,er,o,h1,_,hr⟩:=My x hs;split at hr
 .subst hr;exact⟨_,_,er,by simp,λa h=>by cases h⟩
 .subst hr;exact⟨_,_,er,by have:=h1.len;omega,λa h=>(h1.mem h).1⟩
def FW{x:iJ}(Hc:WF aM x)(hs:iq x){d:Int}{vs:List Vl}{WK:List bm.den}(he:∀D,P.ry (d,(vs,(D,([],([],WK))))))(mem:Int)(nd:List Bool)(hn:nd.length=x.2.2.2.1.length):
 Wp (M.eL aV x mem d vs WK nd) λr=>r.2.2.2.2.1=nd/\r.2.2.2.2.2.2.length=x.2.2.2.1.length:=by
 have Hd:=hs.2.2.1;have Wi:=hs.2.2.2.1;have Ki:∀r∈x.2.2.2.2,WF da r:=Hc.2.2.2.2.2;obtain⟨c,o,eo,ol,ho⟩:=Hn x hs;unfold M.eL;rw[oj _ _ (by omega),aiD,oj _ _ (by omega),aiD,eo,aiD];refine .join (Wp.count (λs=>s.1) o.length (λk s=>s.2.1.length=x.2.2.2.1.length/\s.2.2.length=x.2.2.2.1.length) (by omega) rfl ⟨by simp,by simp⟩ λk s hk uj hJ=>?_);obtain⟨c',D,rl⟩:=s;obtain⟨j1,j2⟩:=hJ;dsimp only at uj j1 j2;subst uj;refine .dec (λh=>?_) (λh=> .some (.some ⟨rfl,j1⟩))
 have aH:k<o.length:=by dsimp only at h;omega
 obtain⟨a0,a1⟩:=ho _ (aiJ aH);obtain⟨q,hq⟩:=aiI a0
 have hql:q<x.2.2.2.1.length:=by omega
 refine .join (.bind (.idx k rfl aH (.bind (.idx q hq (show q<nd.length by omega) ?_))))
 refine .ite (λ_=> .some (.some ⟨aH,aT (by omega),j1,j2⟩)) λ_=>?_
 refine Wp.seq _ (Hm Hc (by omega) (he D) mem o[k]) λy hy=>?_
 refine .fD (λ_=> .some ⟨rfl,j1⟩) λh0=> .dec (λ_=> .some ⟨rfl,j1⟩) λh1=> .dec (λ_=> .some ⟨rfl,j1⟩) λh2=>?_
 have N5:=hy h0;obtain⟨i,hi⟩:=aiI (show(0:Int)<=y.1 by omega)
 have wY:i<x.2.2.2.2.length:=by omega
 refine .bind (.idx i hi wY ?_);obtain⟨r,hr⟩:=Bn (he D) (e:=x.2.2.2.2[i].2.2.2.2.2.2.1) (Ki _ (aiJ wY)).2.2.2.2.2.2.1.2;refine .qk hr (.fD (λ_=> .some ⟨rfl,j1⟩) λ_=> .bind (.idx q hq (show q<D.length by omega) (.bind (.idx q hq (show q<rl.length by omega) (.some (.some ⟨aH,aT (by omega),(cB ..).trans j1,(cB ..).trans j2⟩))))))
def FX{x:iJ}(Hc:WF aM x)(hs:iq x){d:Int}{vs:List Vl}{WK:List bm.den}{ms:List (List Vl)}{WJ:List Ty}(he:∀D,P.ry (d,(vs,(D,(ms,(WJ,WK))))))(mem:Int)(nd:List Bool)(hn:nd.length=x.2.2.2.1.length):
 Wp (M.eM aV x mem d vs WK ms WJ nd) λr=>(r.1.1:Int)=0->r.2.2.2.2.2.2.2.2.length=x.2.2.2.1.length/\r.2.2.2.2.2.2.2.1.length=x.2.2.2.1.length:=by
 have Hd:=hs.2.2.1;have Wi:=hs.2.2.2.1;have Ki:∀r∈x.2.2.2.2,WF da r:=Hc.2.2.2.2.2;obtain⟨c,o,eo,ol,ho⟩:=Hn x hs;unfold M.eM;rw[oj _ _ (by omega),aiD,oj _ _ (by omega),aiD,eo,aiD];refine .join (Wp.count (λs=>s.1) o.length (λk s=>s.2.1.length=x.2.2.2.1.length/\s.2.2.length=x.2.2.2.1.length) (by omega) rfl ⟨by simp,by simp⟩ λk s hk uj hJ=>?_);obtain⟨c',D,rl⟩:=s;obtain⟨j1,j2⟩:=hJ;dsimp only at uj j1 j2;subst uj;refine .dec (λh=>?_) (λh=> .some (.some λ_=>⟨j1,j2⟩))
 have aH:k<o.length:=by dsimp only at h;omega
 obtain⟨a0,a1⟩:=ho _ (aiJ aH);obtain⟨q,hq⟩:=aiI a0
 have hql:q<x.2.2.2.1.length:=by omega
 refine .join (.bind (.idx k rfl aH (.bind (.idx q hq (show q<nd.length by omega) ?_))))
 refine .ite (λ_=> .some (.some ⟨aH,aT (by omega),j1,j2⟩)) λ_=>?_
 refine Wp.seq _ (Hm Hc (by omega) (he D) mem o[k]) λy hy=>?_
 refine .fD (λh=> .some λg=>absurd g h) λh0=> .dec (λ_=> .some λg=>by cases g) λh1=> .dec (λ_=> .some λg=>by cases g) λh2=>?_
 have N5:=hy h0;obtain⟨i,hi⟩:=aiI (show(0:Int)<=y.1 by omega)
 have wY:i<x.2.2.2.2.length:=by omega
 refine .bind (.idx i hi wY ?_);obtain⟨r,hr⟩:=Bn (he D) (e:=x.2.2.2.2[i].2.2.2.2.2.2.1) (Ki _ (aiJ wY)).2.2.2.2.2.2.1.2;refine .qk hr (.fD (λh=> .some λg=>absurd g h) λ_=> .bind (.idx q hq (show q<D.length by omega) (.bind (.idx q hq (show q<rl.length by omega) (.some (.some ⟨aH,aT (by omega),(cB ..).trans j1,(cB ..).trans j2⟩))))))
def Bo{l:Lw}(hw:WF bV l){k:Int}{c:nV.den}(hc:c.2.2.length<=8){x q:iJ}(hx:WF aM x)(Ua:iq x)(hq:WF aM q)(XN:iq q){nd mn:List Bool}(hn:nd.length=x.2.2.2.1.length)(hm:mn.length=q.2.2.2.1.length):
 Wp (M.ic aV l k c x q nd mn) λr=>(r.2.2.2.1.1:Int)=0->r.2.2.2.2.2.2.2.2.1.length=x.2.2.2.1.length/\r.2.2.2.2.2.2.2.2.2.1.length=x.2.2.2.1.length:=by
 have Hd:=XN.2.2.1;unfold M.ic
 refine Wp.seq (λj=>j.1=c.1/\j.2.1=c.2.1/\j.2.2.1=l.2.1) ?_ λj hj=>?_
 .refine Wp.count (λs=>s.1) q.2.2.2.1.length (λi s=>s.2.1=c.1/\s.2.2.1=c.2.1/\s.2.2.2.1=l.2.1/\s.2.2.2.2.length=i) (by omega) rfl ⟨rfl,rfl,rfl,rfl⟩ λi s hi hs hJ=>?_
  obtain⟨i',d,vs,tb,ts⟩:=s;obtain⟨j1,j2,j3,j4⟩:=hJ;dsimp only at hs j1 j2 j3 j4;subst hs
  refine .dec (λh=>?_) λh=> .some ⟨j1,j2,j3⟩
  have aH:i<q.2.2.2.1.length:=by dsimp only at h;omega
  exact .bind (.idx i rfl aH (.bind (.app (by simp;omega) (.some ⟨aH,aT (by omega),j1,j2,j3,by simp[j4]⟩))))
 obtain⟨d,vs,tb,WJ⟩:=j;obtain⟨g1,g2,g3⟩:=hj;dsimp only at g1 g2 g3;subst g1 g2 g3;refine .join (Wp.count (λs=>s.1) c.2.2.length (λi s=>s.2.1.length=q.2.2.2.1.length/\s.2.2.1=c.1/\s.2.2.2.1=c.2.1/\s.2.2.2.2.1=l.2.1/\s.2.2.2.2.2.2.1.length=i/\s.2.2.2.2.2.2.2.length=i) (by omega) rfl ⟨hm,rfl,rfl,rfl,rfl,rfl⟩ λi s hi hs hJ=>?_);obtain⟨i',mn',d',vs',tb',agE,ms,mr⟩:=s;obtain⟨j1,j2,j3,j4,j5,j6⟩:=hJ;dsimp only at hs j1 j2 j3 j4 j5 j6;subst hs j2 j3 j4
 refine .dec (λh=>?_) λh=> .some ?_
 .have aH:i<c.2.2.length:=by dsimp only at h;omega
  refine .bind (.idx i rfl aH (Wp.seq _ (FW hq XN (λD=>Qr hw (by simp)) _ _ j1) λy hy=>?_))
  refine .fD (λh=> .some λg=>absurd g h) λ_=> .bind (.app (by simp;omega) (.bind (.app (by simp;omega) (.some ⟨aH,aT (by omega),?_,rfl,rfl,rfl,by simp[j5],by simp[j6]⟩))))
  dsimp only;rw[hy.1];exact j1
 .refine Wp.seq _ (FX hx Ua (λD=>Qr hw (show ms.length<=100 by omega)) _ _ hn) λy hy=>?_
  exact .fD (λh=> .some λg=>absurd g h) λh=> .some λ_=>hy h
def Ph{l:Lw}{x:iJ}(h:¬(0:Int)<=x.2.1):(gn l x).2.2.2.2.1=[]:=by
 show(match l.2.2[(x.2.1:Int).toNat]? with|some y=>if 0<=(x.2.1:Int)then y.2.2.2.1.map (λf:Fd=>f.2)else[]|none=>[])=[]
 split
 .rw[ai h]
 .rfl
def Pj{l:Lw}{x:iJ}{q:Nat}(hq:q<l.2.2.length)(h:(x.2.1:Int)=(q:Int)):(gn l x).2.2.2.2.1=l.2.2[q].2.2.2.1.map (λf:Fd=>f.2):=by
 show(match l.2.2[(x.2.1:Int).toNat]? with|some y=>if 0<=(x.2.1:Int)then y.2.2.2.1.map (λf:Fd=>f.2)else[]|none=>[])=_
 rw[h,aiL,aiG hq];dsimp only;rw[aj (show(0:Int)<=(q:Int)from Int.natCast_nonneg q)]
def WL{l:Lw}(hv:Valid l){k:Nat}(hk:k<l.2.2.length)(h:(0:Int)<=l.2.2[k].2.1):∃q,∃hq:q<l.2.2.length,(l.2.2[k].2.1:Int)=(q:Int):=by
 have hb:=(hv.scope k hk).2.2.1;unfold qm at hb;obtain⟨q,e⟩:=aiI h;have e':(l.2.2[k].2.1:Int)=(q:Int):=e;by_cases h1:(l.2.2[k].2.1:Int)= -1
 .have Aa:((q:Nat):Int)= -1:=e'.symm.trans h1;omega
 .have hb:=λg=>hb ⟨h1,g⟩
  by_cases g:(k:Int)<=l.2.2[k].2.1
  .exact absurd (.inr (.inl g)) hb
  .have g':¬(k:Int)<=(q:Int):=λz=>g (e'▸z)
   exact⟨q,by omega,e'⟩
def DJ(e:List Ty)(y:Int):Prop:=∃n∈e,((n.1:Int)=36\/(n.1:Int)=37\/(n.1:Int)=38\/(n.1:Int)=39)/\(n.2:Int)=y
def Ho(e:List Ty)(he:e.length<=100000):Wp (M.dw aV e) λr=>r.2.2.length<=e.length/\∀y∈r.2.2,DJ e y:=by
 unfold M.dw;rw[wp_bind]
 refine Wp.count (λs=>s.1) e.length (λk s=>(s.2.1.length<=k/\s.2.2.1.length<=k/\s.2.2.2.length<=k)/\∀y∈s.2.2.2,DJ e y) (by omega) rfl ⟨by simp,λy h=>by cases h⟩ λk s hk hs hJ=>?_
 obtain⟨i,a,b,c⟩:=s;obtain⟨⟨l1,l2,l3⟩,hm⟩:=hJ;dsimp only at hs l1 l2 l3 hm;subst hs;simp only[W_,av,ax,reduceCtorEq,bg,aY];refine⟨λaH=>?_,λhge=>?_⟩
 .have aH:k<e.length:=by omega
  have nxt:((e[k].1:Int)=36\/(e[k].1:Int)=37\/(e[k].1:Int)=38\/(e[k].1:Int)=39)->∀y∈c++[e[k].2],DJ e y:=λh y hy=>by
   rcases aje.1 hy with hy|hy
   .exact hm y hy
   .rw[List.mem_singleton]at hy;subst hy;exact⟨_,aiJ aH,h,rfl⟩
  simp only[aF aH,cN (m:=e.length) (by omega) aH,W_,av,ax,reduceCtorEq]
  have app:∀(q:List Int)(v:Int)(Q:List Int->Prop),q.length<=k->Q (q++[v])->Wp (cA q [v]) Q:=λq v Q hq h=>nK.2 ⟨by simp;omega,h⟩
  grind
 .refine(lj a (by omega)).mono λ_ _=>?_
  refine(lj b (by omega)).mono λr hr=>?_
  refine(lj c (by omega)).mono λq hq=>?_
  exact⟨by omega,λy hy=>hm y ((hq.2 y).1 hy)⟩
def JJ{n:Ty}{l:List Ty}{s:rq}(hw:WF aD n)(h:(Ha n l s).2=0):L7 n.1 n.2 s:=by
 refine Classical.byContradiction λhf=>?_
 have hm:(n.2:Int)<=9223372036854775807:=hw.2.2
 have key:Wp (M.lL aV n s) λx=>x=af->Wp (M.bE aV n s) λx=>x=ag:=by
  rw[uf]
  refine .some λhr=>?_
  rw[L8 n s hm (an hr)];exact .some (au hf)
 have:Wp (M.aZ aV n l s) λr=>r.2≠0:=by
  unfold M.aZ
  refine Wp.seq (λ_=>True) (.fD (λ_=>by rw[aQ];exact .bind (.some (.some trivial))) λ_=> .some trivial) λj _=>?_
  refine .ite (λ_=> .some (by decide)) λ_=> .bind (key.mono λy hy=>?_)
  refine .ite (λ_=> .some (by decide)) λh=> .bind ((hy (by simpa using h)).mono λz hz=>?_)
  subst hz
  exact .ite (λ_=> .some (by decide)) λh=>absurd rfl h
 obtain⟨x,e,hx⟩:=this;unfold Ha at h;rw[e]at h;exact hx h
def zG{s:rq}:∀{e:List Ty}{i:Nat}{nw:List Ty}{p:Nat×Int},nL s e i nw= .inl p->p.2≠0
 |[],_,_,_,h=>by cases h
 |n::e,i,nw,p,h=>by
  rw[nL]at h;split at h
  .rename_i g;cases h;exact g
  .exact zG h
def zH{s:rq}:∀{e:List Ty}{i:Nat}{nw r:List Ty},nL s e i nw= .inr r->∀n∈e,∃l,(Ha n l s).2=0
 |[],_,_,_,_,n,hn=>by cases hn
 |n::e,i,nw,r,h,m,hm=>by
  rw[nL]at h;split at h
  .cases h
  .rename_i g
   rcases aju.1 hm with rfl|hm
   .exact⟨_,Decidable.not_not.1 g⟩
   .exact zH h m hm
def Hp{e:List Ty}{s:rq}{t:Ty}(hw:∀n∈e,WF aD n)(h:w4 e s t=0){y:Int}(hy:DJ e y):0<=y/\y<(s.2.2.2.2.1.length:Int):=by
 have h0:(Kg e s).2.2=0:=by
  unfold w4 at h;by_cases h1:(Kg e s).2.2=0
  .exact h1
  .rw[aj h1]at h;exact h
 obtain⟨⟨(op:Int),(m:Int)⟩,hn,sN,hm⟩:=hy;have sN:op=36\/op=37\/op=38\/op=39:=sN;have hm:m=y:=hm;subst hm;unfold Kg at h0;split at h0
 .rename_i g;exact absurd h0 g
 .cases hr:nL s e 0 []with
  |inl p=>rw[hr]at h0;exact absurd h0 (zG hr)
  |inr nw=>
   obtain⟨l,hl⟩:=zH hr _ hn;have:=JJ (hw _ hn) hl;unfold L7 at this;exact this.2.2.2.2.2.2 (show(36:Int)<=op/\op<=39 by omega)
def MK{l:Lw}{x:iJ}{k:Nat}{r:ue}(hw:WF da r)(h:w6 l x k r=0){y:Int}(hy:DJ r.2.2.2.2.2.1 y\/DJ r.2.2.2.2.2.2.1 y):0<=y/\y<((gn l x).2.2.2.2.1.length:Int):=by
 have key:(0<r.2.2.2.2.2.1.length->w4 r.2.2.2.2.2.1 (gn l x) ((1:Int),(0:Int))=0)/\∃d:Fd,w4 r.2.2.2.2.2.2.1 (gn l x) d.2=0:=by
  unfold w6 at h;split at h
  .exact absurd h (by decide)
  split at h
  .exact absurd h (by decide)
  split at h
  .exact absurd h (by decide)
  rename_i hd;split at h
  .exact absurd h (by decide)
  split at h
  .exact absurd h (by decide)
  split at h
  .exact absurd h (by decide)
  split at h
  .exact absurd h (by decide)
  split at h
  .rename_i g;exact absurd h g.2
  rename_i g;refine⟨λh1=>Decidable.not_not.1 λh2=>g ⟨h1,h2⟩,?_⟩;split at h
  .exact⟨_,h⟩
  .rename_i hn;have h1:=List.getElem?_eq_none_iff.1 hn
   obtain⟨(d:Int),PN⟩:∃d:Int,d=r.2.1:=⟨_,rfl⟩
   have hd:=Decidable.not_not.1 hd;rw[<-PN]at hd h1;have hd:0<=d/\d<(x.2.2.2.1.length:Int):=hd;omega
 rcases hy with hy|hy
 .refine Hp hw.2.2.2.2.2.1.2 (key.1 ?_) hy;obtain⟨n,hn,_⟩:=hy;exact List.length_pos_of_mem hn
 .obtain⟨d,hd⟩:=key.2;exact Hp hw.2.2.2.2.2.2.1.2 hd hy
def xp(l:List Int)(n:Nat)(hl:l.length<=100000)(hr:∀y∈l,(0:Int)<=y/\y<(n:Int))(nd:List Bool)(hn:nd.length=n){X:Type}{Q:X->Prop}(f:List Bool->X)(hQ:∀nd:List Bool,nd.length=n->Q (f nd)):
 Wp (Loop (S:=Int×List Bool) (X:=X) (λs4=>
(if(decide (s4.1<(l.length:Int)))=af then
(idx l s4.1).bind λx5=>
(idx s4.2 x5).bind λx6=>
some (Sum.inl (aiE.wrap (s4.1+(1:Int)),b8 s4.2 x5 af))
else
some (Sum.inr (f s4.2)))) aV ((0:Int),nd)) Q:=by
 refine Wp.count (λs=>s.1) l.length (λk s=>s.2.length=n) (by omega) rfl hn λk s hk hs hJ=>?_
 obtain⟨c,b⟩:=s;dsimp only at hs hJ;subst hs
 refine .dec (λh=>?_) λ_=> .some (hQ _ hJ)
 have aH:k<l.length:=by dsimp only at h;omega
 obtain⟨y0,y1⟩:=hr _ (aiJ aH);obtain⟨y,hy⟩:=aiI y0;exact .bind (.idx k rfl aH (.bind (.idx y hy (show y<b.length by omega) (.some ⟨aH,aT (by omega),(cB ..).trans hJ⟩))))
def Hq{s:iJ}{d:Nat}(hd:d<s.2.2.2.1.length){y:Int}(h:Ms (Dp s) (d:Int) y):0<=y/\y<(s.2.2.2.1.length:Int):=by
 have key:∀{a b:Int},Dp s a b->0<=b/\b<(s.2.2.2.1.length:Int):=λh=>(nM s _).2 _ h
 induction h with
 |one h=>exact key h
 |step _ h _=>exact key h
def DK(x:iJ)(hs:iq x)(d:Nat)(hd:d<x.2.2.2.1.length):Wp (M.dx aV x (d:Int)) λr=>r.length<=1000/\∀y∈r,(0:Int)<=y/\y<(x.2.2.2.1.length:Int):=by
 unfold M.dx
 refine Wp.seq (λj=>j=ag) (.dec (λh=>absurd h (by omega)) λ_=> .some (au (by omega))) λj hj=>?_
 subst hj
 refine .ite (λh=>by cases h) λ_=>Wp.seq _ (nq x hs) λL hL=>Wp.seq _ (rV x L hL d hd hs.2.2.1) λr hr=> .some ⟨hr.1,λy hy=>Hq hd ((hr.2 y).1 hy)⟩
def JK{x q:iJ}(hs:iq q)(nd mn:List Bool)(hm:mn.length=q.2.2.2.1.length)(d:Nat)(hd:d<q.2.2.2.1.length):Wp (M.dy aV (d:Int) x q nd mn) λr=>r.1=x/\r.2.1=q/\r.2.2.1=nd/\r.2.2.2.length=q.2.2.2.1.length:=by
 unfold M.dy;refine .bind (.idx d rfl (by omega) (Wp.seq _ (DK q hs d hd) λr hr=>?_))
 exact xp r _ (by omega) hr.2 _ ((cB ..).trans hm) (λb=>(x,q,nd,b)) λb hb=>⟨rfl,rfl,rfl,hb⟩
def FY{l:Lw}{x:iJ}(hw:WF aM x)(hs:iq x)(hv:∀i,∀hi:i<x.2.2.2.2.length,w6 l x i x.2.2.2.2[i]=0)(d:Nat)(hd:d<x.2.2.2.1.length):Wp (M.kH aV x (d:Int)) λr=>r.length<=100000/\∀y∈r,(0:Int)<=y/\y<((gn l x).2.2.2.2.1.length:Int):=by
 have Hd:=hs.2.2.1;have Wi:=hs.2.2.2.1;unfold M.kH
 refine Wp.seq (λj=>j=ag) (.dec (λh=>absurd h (by omega)) λ_=> .some (au (by omega))) λj hj=>?_
 subst hj
 refine .ite (λh=>by cases h) λ_=>?_
 rw[oj _ _ (by omega),aiD];refine .bind (.idx d rfl (by simpa using hd) (Wp.seq (λb=>b.length=x.2.2.2.1.length) ?_ λb hb=>?_))
 .refine Wp.seq _ (nq x hs) λL hL=>Wp.seq _ (rV x L hL d hd Hd) λr hr=>?_
  exact xp r _ (by omega) (λy hy=>Hq hd ((hr.2 y).1 hy)) _ ((cB ..).trans (by simp)) (λb=>b) λb hb=>hb
 .refine Wp.seq (λr=>r.length<=6000/\∀y∈r,(0:Int)<=y/\y<((gn l x).2.2.2.2.1.length:Int)) ?_ λr hr=>Wp.seq _ (s8 r (by omega)) λq hq=> .some ⟨by omega,λy hy=>hr.2 y ((hq.2 y).1 hy)⟩
  refine Wp.count (λs=>s.1) x.2.2.2.2.length (λk s=>s.2.length<=100*k/\∀y∈s.2,(0:Int)<=y/\y<((gn l x).2.2.2.2.1.length:Int)) (by omega) rfl ⟨by simp,λy h=>by cases h⟩ λk s hk uj hJ=>?_
  obtain⟨c,o⟩:=s;obtain⟨j1,j2⟩:=hJ;dsimp only at uj j1 j2;subst uj
  refine .dec (λh=>?_) λ_=> .some ⟨show o.length<=6000 by omega,j2⟩
  have aH:k<x.2.2.2.2.length:=by dsimp only at h;omega
  have Qh:=hs.2.2.2.2.2.2 _ (aiJ aH)
  have Jz:∀y,DJ x.2.2.2.2[k].2.2.2.2.2.1 y\/DJ x.2.2.2.2[k].2.2.2.2.2.2.1 y->(0:Int)<=y/\y<((gn l x).2.2.2.2.1.length:Int):=λy hy=>MK (hw.2.2.2.2.2 _ (aiJ aH)) (hv k aH) hy
  refine Wp.seq (λo'=>o'.length<=100*(k+1)/\∀y∈o',(0:Int)<=y/\y<((gn l x).2.2.2.2.1.length:Int)) ?_ λo' jS=> .some ⟨aH,aT (by omega),jS⟩
  refine .bind (.idx k rfl aH ?_)
  refine Wp.seq (λj=>j=ag->(0:Int)<=x.2.2.2.2[k].2.1/\(x.2.2.2.2[k].2.1:Int)<(x.2.2.2.1.length:Int)) ?_ λj hj=>?_
  .refine .dec (λ_=> .some λh=>by cases h) λh1=> .dec (λ_=> .some λh=>by cases h) λh2=>?_
   obtain⟨a,ha⟩:=aiI (show(0:Int)<=x.2.2.2.2[k].2.1 from ajy.1 h1);have ha2:¬(x.2.2.2.1.length:Int)<=x.2.2.2.2[k].2.1:=h2;refine .bind (.idx a ha (show a<b.length by omega) (.some λ_=>⟨ajy.1 h1,Int.not_le.1 h2⟩))
  refine .ite (λ_=> .some ⟨by dsimp only;omega,j2⟩) λ_=>?_
  refine Wp.seq _ (Ho _ (by omega)) λa ha=>Wp.seq _ (Ho _ (by omega)) λc hc=>?_
  refine .bind (.app (by dsimp only;omega) (.bind (.app (by simp;omega) (.some ⟨by simp;omega,λy hy=>?_⟩))));rw[aje,aje]at hy
  rcases hy with(hy|hy)|hy
  .exact j2 y hy
  .exact Jz y (.inl (ha.2 y hy))
  .exact Jz y (.inr (hc.2 y hy))
def JL{l:Lw}{x q:iJ}(hw:WF aM x)(hs:iq x)(XN:iq q)(hv:∀i,∀hi:i<x.2.2.2.2.length,w6 l x i x.2.2.2.2[i]=0)(hq:(gn l x).2.2.2.2.1.length=q.2.2.2.1.length)(nd mn:List Bool)(hn:nd.length=x.2.2.2.1.length)(hm:mn.length=q.2.2.2.1.length)(d:Nat)(hd:d<x.2.2.2.1.length):
 Wp (M.eZ aV (d:Int) x q nd mn) λr=>r.1=x/\r.2.1=q/\r.2.2.1.length=x.2.2.2.1.length/\r.2.2.2.length=q.2.2.2.1.length:=by
 unfold M.eZ;refine .bind (.idx d rfl (by omega) (Wp.seq (λb=>b.length=x.2.2.2.1.length) ?_ λb hb=>?_))
 .refine Wp.seq _ (DK x hs d hd) λr hr=>?_
  exact xp r _ (by omega) hr.2 _ ((cB ..).trans hn) (λb=>b) λb hb=>hb
 refine Wp.seq _ (FY hw hs hv d hd) λr hr=>?_
 refine Wp.count (λs=>s.1) r.length (λk s=>s.2.1=x/\s.2.2.1=q/\s.2.2.2.1.length=x.2.2.2.1.length/\s.2.2.2.2.length=q.2.2.2.1.length) (by omega) rfl ⟨rfl,rfl,hb,hm⟩ λk s hk uj hJ=>?_
 obtain⟨c,x',q',b',m'⟩:=s;obtain⟨j1,j2,j3,j4⟩:=hJ;dsimp only at uj j1 j2 j3 j4;subst uj j1 j2
 refine .dec (λh=>?_) λ_=> .some ⟨rfl,rfl,j3,j4⟩
 have aH:k<r.length:=by dsimp only at h;omega
 obtain⟨y0,y1⟩:=hr.2 _ (aiJ aH);obtain⟨y,hy⟩:=aiI y0;refine .bind (.idx k rfl aH ?_);dsimp only;rw[hy]
 refine Wp.seq _ (JK XN b' m' j4 y (by omega)) λz hz=> .some ⟨aH,aT (by omega),hz.1,hz.2.1,by show z.2.2.1.length=_;rw[hz.2.2.1];exact j3,hz.2.2.2⟩
def rz(l:Lw)(vs:List Vl)(fs:List Fd)(h1:vs.length<=1048576):Wp (M.eG aV l vs fs) λ_=>True:=by
 unfold M.eG
 refine .dec (λ_=> .some trivial) λc1=> .dec (λ_=> .some trivial) λc2=>?_
 refine Wp.count (λs=>s) vs.length (λk _=>True) (by omega) rfl trivial λk s hk hs _=>?_
 obtain rfl:s=_:=hs
 refine .dec (λaH=>?_) λ_=> .some trivial
 have aH:k<vs.length:=by omega
 rw[aF aH,aiD,aF (show k<fs.length by omega),aiD]
 refine Wp.seq (λ_=>True) (.fD (λ_=> .some trivial) λ_=> .some trivial) λj _=> .ite (λ_=> .some trivial) λ_=>?_
 rw[vH,aiD]
 exact Wp.seq (λ_=>True) (.dec (λ_=> .some trivial) λ_=> .some trivial) λj _=> .ite (λ_=> .some trivial) λ_=> .some ⟨aH,aT (by omega),trivial⟩
def ML{l:Lw}{k:Nat}(hk:k<l.2.2.length)(c:nV.den)(h1:c.2.1.length<=1048576)(h2:c.2.2.length<=8)(h3:∀vs∈c.2.2,vs.length<=1048576):Wp (M.iS aV l (k:Int) c) λ_=>True:=by
 unfold M.iS
 refine Wp.seq (λ_=>True) (.dec (λ_=> .some trivial) λ_=> .some trivial) λj1 _=> .ite (λ_=> .some trivial) λ_=>?_
 refine Wp.seq (λ_=>True) (.dec (λ_=> .some trivial) λ_=> .some trivial) λj2 _=> .ite (λ_=> .some trivial) λ_=>?_
 rw[aF hk,aiD]
 refine Wp.seq _ (rz l c.2.1 _ h1) λy4 _=> .fD (λ_=> .some trivial) λ_=>?_
 have QI:Wp (M.fq aV l (k:Int)) λ_=>True:=by
  unfold M.fq;rw[aF hk,aiD]
  refine Wp.seq (λj=>j=ag->(0:Int)<=l.2.2[k].2.1/\(l.2.2[k].2.1:Int)<(l.2.2.length:Int)) (.dec (λ_=> .some λh=>by cases h) λh=> .some λg=>⟨ajy.1 h,Int.not_le.1 (ao g)⟩) λj hj=>?_
  refine .ite (λ_=> .some trivial) λc=>?_
  obtain⟨g1,g2⟩:=hj (by simpa using c);obtain⟨q,hq⟩:=aiI g1;have g3:(q:Int)<(l.2.2.length:Int):=hq▸g2;exact .bind (.idx q hq (by omega) (.some trivial))
 refine Wp.seq _ QI λy5 _=> .dec (λ_=> .some trivial) λ_=>?_
 refine Wp.count (λs=>s) c.2.2.length (λm _=>True) (by omega) rfl trivial λm s hm hs _=>?_
 obtain rfl:s=_:=hs
 refine .dec (λaH=>?_) λ_=> .some trivial
 have aH:m<c.2.2.length:=by omega
 rw[aF aH,aiD]
 exact Wp.seq _ (rz l c.2.2[m] _ (h3 _ (aiJ aH))) λy8 _=> .fD (λ_=> .some trivial) λ_=> .some ⟨aH,aT (by omega),trivial⟩
def MM{l:Lw}(gv:ei l)(hv:Valid l){k:Nat}(hk:k<l.2.2.length):Wp (M.kG aV l (k:Int)) λr=>r.1=l.2.2[k]/\r.2.2.1.length=l.2.2[k].2.2.2.1.length/\r.2.2.2.length=r.2.1.2.2.2.1.length/\(gn l l.2.2[k]).2.2.2.2.1.length=r.2.1.2.2.2.1.length/\(WF bV l->WF aM r.2.1)/\iq r.2.1:=by
 have Hd:=(gv.2.2.2.2.2 _ (aiJ hk)).2.2.1;unfold M.kG;rw[aF hk,aiD,oj _ _ (by omega),aiD];by_cases h:(0:Int)<=l.2.2[k].2.1
 .obtain⟨q,hq,e⟩:=WL hv hk h;have q14:=(gv.2.2.2.2.2 _ (aiJ hq)).2.2.1;rw[aj (aq h),show idx l.2.2 l.2.2[k].2.1=idx l.2.2 (q:Int)from ay _ e,aF hq,aiD,oj _ _ (by omega),aiD];refine .some ⟨rfl,by simp,by simp,?_,λhw=>hw.2.2.2 _ (aiJ hq),gv.2.2.2.2.2 _ (aiJ hq)⟩;rw[Pj hq e];simp
 .rw[ai (by simpa using h)];refine .some ⟨rfl,by simp,by simp,by rw[Ph h];rfl,λ_=>?_,?_⟩
  .simp[WF,maxLen];decide
  .simp[iq]
def DL{l:Lw}(hw:WF bV l)(gv:ei l){k:Nat}(hk:k<l.2.2.length)(c:nV.den)(h1:c.2.1.length<=1048576)(h2:c.2.2.length<=8)(h3:∀vs∈c.2.2,vs.length<=1048576)(d:Int):Wp (M.lJ aV l (k:Int) c d) λ_=>True:=by
 unfold M.lJ
 refine Wp.seq (λr=>(r.1:Int)=0->Valid l/\0<=d/\d<(l.2.2[k].2.2.2.1.length:Int)) ?_ λr hr=>?_
 .unfold M.iO;rw[Bd l hw gv,aiD]
  refine .fD (λ_=> .some λg=>by cases g) λhv=>?_
  refine Wp.seq (λj=>j=ag->0<=d/\d<(l.2.2[k].2.2.2.1.length:Int)) ?_ λj hj=>?_
  .refine .dec (λ_=> .some λg=>by cases g) λ_=> .dec (λ_=> .some λg=>by cases g) λ_=> .ite (λ_=> .dec (λ_=> .some λg=>by cases g) λh0=>?_) λg=>absurd rfl g
   rw[aF hk,aiD]
   exact .some λg=>⟨ajy.1 h0,Int.not_le.1 (ao g)⟩
  refine .ite (λ_=> .some λg=>by cases g) λXI=>Wp.seq _ (ML hk c h1 h2 h3) λy _=> .fD (λh=> .some λg=>absurd g h) λ_=> .some λ_=>⟨hv,hj (by simpa using XI)⟩
 refine .fD (λ_=> .some trivial) λh0=>?_
 obtain⟨hv,d0,d1⟩:=hr h0;obtain⟨a,ha⟩:=aiI d0;subst ha
 have Xu:a<l.2.2[k].2.2.2.1.length:=by omega
 have Hc:=hw.2.2.2 _ (aiJ hk);have yF:=gv.2.2.2.2.2 _ (aiJ hk)
 refine Wp.seq _ (MM gv hv hk) λn hn=>?_
 obtain⟨n1,n2,n3,n4,n5,n6⟩:=hn;rw[n1]
 refine Wp.seq _ (JL Hc yF n6 (hv.scope k hk).2.2.2.2.2.2.1 n4 _ _ n2 n3 a Xu) λm hm=>?_
 obtain⟨m1,m2,m3,m4⟩:=hm;rw[m1,m2]
 refine Wp.seq _ (Bo hw h2 Hc yF (n5 hw) n6 m3 m4) λr hr=> .fD (λ_=> .some trivial) λh=>?_
 obtain⟨r1,r2⟩:=hr h;exact .bind (.idx a rfl (by omega) (.bind (.idx a rfl (by omega) (.some trivial))))
end L
namespace L
abbrev ku:Type:=bj.den
abbrev Hh:Type:=bB.den
abbrev th:Type:=aE.den
def mh(l:List (Int×Bool))(k x:Int)(v:Bool):bo aB (fC aB l k v) x=if k=x then aa v else bo aB l x:=by
 induction l with
 |nil=>simp[fC,bo,cZ]
 |cons p l ih=>
  obtain⟨a,b⟩:=p;unfold fC;by_cases h:a=k
  .have:cZ aB a k=af:=by simp[cZ,h]
   rw[aj this]
   by_cases h':a=x<;>simp[bo,cZ,h',<-h]
  .have:¬cZ aB a k=af:=by simp[cZ,h]
   rw[ai this]
   show(if cZ aB a x=af then aa b else bo aB (fC aB l k v) x)=if k=x then aa v else if cZ aB a x=af then aa b else bo aB l x
   rw[ih];by_cases h':a=x
   .have:¬k=x:=λe=>h (by rw[h',e])
    simp[cZ,h',this]
   .simp[cZ,h']
def NE(r:Ty):Prop:=VR r/\(r.1:Int)<r.2
instance(r:Ty):Decidable (NE r):=by unfold NE;infer_instance
def ne_eq(r:Ty):M.jw aV r=aa (decide (NE r)):=by
 obtain⟨(r1:Int),(r2:Int)⟩:=r;apply Wp.eq;unfold M.jw;simp only[um,W_,av,ax,reduceCtorEq];unfold NE;dsimp only[aB,Row.den]
 by_cases h:VR ((r1,r2):Ty)<;>simp only[h,W_,av,ax,reduceCtorEq]
def WM(r:Ty)(d:Int):Prop:=VR r/\(r.1:Int)<=d/\d<(r.2:Int)
instance(r:Ty)(d:Int):Decidable (WM r d):=by unfold WM;infer_instance
def S7(r:Ty)(d:Int):M.ch aV r d=aa (decide (WM r d)):=by
 obtain⟨(r1:Int),(r2:Int)⟩:=r;apply Wp.eq;unfold M.ch;simp only[um,W_,av,ax,reduceCtorEq];unfold WM;dsimp only[aB,Row.den]
 by_cases h:VR ((r1,r2):Ty)<;>simp only[h,W_,av,ax,reduceCtorEq]
 omega
def FR(f:ku):Prop:=(f.1:Int)<0\/(f.2.1:Int)< -1\/8<=(f.2.1:Int)\/(f.2.2.1:Int)< -1\/12<=(f.2.2.1:Int)\/((f.2.1:Int)= -1/\(f.2.2.1:Int)= -1)\/¬NE f.2.2.2.2.1\/(f.2.2.2.2.2:Int)<0\/109572<(f.2.2.2.2.2:Int)
def FT(f:ku):Prop:=(f.2.2.2.1.1:Int)<1\/6<(f.2.2.2.1.1:Int)\/((f.2.2.1:Int)= -1/\(f.2.2.2.1.1:Int)≠1)
noncomputable instance(f:ku):Decidable (FR f):=aiZ _
noncomputable instance(f:ku):Decidable (FT f):=aiZ _
noncomputable def cf(f:ku):Int:=if FR f then 3 else if FT f then 8 else 0
def WN(f:ku):M.kE aV f=aa (cf f):=by
 obtain⟨(a:Int),(b:Int),(c:Int),⟨(k:Int),(e:Int),(n:Int)⟩,v,(rc:Int)⟩:=f;apply Wp.eq;unfold M.kE;simp only[ne_eq,W_,av,ax,reduceCtorEq];have hR:FR (a,(b,(c,((k,(e,n)),(v,rc)))))↔a<0\/b< -1\/8<=b\/c< -1\/12<=c\/(b= -1/\c= -1)\/¬NE v\/rc<0\/109572<rc:=Iff.rfl;have hT:FT (a,(b,(c,((k,(e,n)),(v,rc)))))↔k<1\/6<k\/(c= -1/\k≠1):=Iff.rfl
 have r3:FR (a,(b,(c,((k,(e,n)),(v,rc)))))->(3:Int)=cf (a,(b,(c,((k,(e,n)),(v,rc))))):=λh=>by unfold cf;rw[aj h]
 have r8:¬FR (a,(b,(c,((k,(e,n)),(v,rc)))))->FT (a,(b,(c,((k,(e,n)),(v,rc)))))->(8:Int)=cf (a,(b,(c,((k,(e,n)),(v,rc))))):=λh h'=>by unfold cf;rw[ai h,aj h']
 have r0:¬FR (a,(b,(c,((k,(e,n)),(v,rc)))))->¬FT (a,(b,(c,((k,(e,n)),(v,rc)))))->(0:Int)=cf (a,(b,(c,((k,(e,n)),(v,rc))))):=λh h'=>by unfold cf;rw[ai h,ai h']
 rw[hR]at r3 r8 r0;rw[hT]at r8 r0;generalize cf (a,(b,(c,((k,(e,n)),(v,rc)))))=q at*;clear hR hT;dsimp only[aB,Row.den]at*
 by_cases hn:NE v<;>simp only[hn,W_,av,ax,reduceCtorEq]at r3 r8 r0⊢<;>omega
def Nz(l:List ku)(k:Nat)(x:Int):Prop:=∃y∈l.take k,(y.1:Int)=x
noncomputable instance(l:List ku)(k:Nat)(x:Int):Decidable (Nz l k x):=aiZ _
def MN{l:List ku}{k:Nat}(h:k<l.length)(x:Int):Nz l (k+1) x↔Nz l k x\/(l[k].1:Int)=x:=by
 unfold Nz;rw[<-aiP h];constructor
 .rintro⟨y,hy,e⟩
  rcases aje.1 hy with hy|hy
  .exact .inl ⟨y,hy,e⟩
  .rw[List.mem_singleton.1 hy]at e;exact .inr e
 .rintro(⟨y,hy,e⟩|e)
  .exact⟨y,aje.2 (.inl hy),e⟩
  .exact⟨_,aje.2 (.inr (List.mem_singleton.2 rfl)),e⟩
noncomputable def Km(l:List ku)(k:Nat)(f:ku):Int:=if cf f≠0 then cf f else if Nz l k f.1 then 7 else 0
noncomputable def S8(l:List ku)(k:Nat):Option (Int×Int):=match l[k]? with
 |none=>ae
 |some f=>if Km l k f≠0 then aa ((k:Int),Km l k f)else ae
noncomputable def Bp(l:List ku):Int×Int:=if 128<l.length then(0,4)else(cV (S8 l) l.length).getD (0,0)
def xq{l:List ku}{k:Nat}(h:k<l.length):S8 l k=if Km l k l[k]≠0 then aa ((k:Int),Km l k l[k])else ae:=by
 unfold S8;rw[aiG h]
def Hr{l:List ku}{k:Nat}{q:Int}(h8:¬128<l.length)(h:k<l.length)(hq:Km l k l[k]=q)(h0:q≠0)(hJ:∀j,j<k->S8 l j=ae):Bp l=((k:Int),q):=by
 subst hq;unfold Bp;rw[ai h8,ff ((xq h).trans (aj h0)) hJ h];rfl
def MO{l:List ku}(h8:¬128<l.length)(hJ:∀j,j<l.length->S8 l j=ae):Bp l=(0,0):=by
 unfold Bp;rw[ai h8,cr.2 hJ];rfl
def S9(l:List ku):M.lC aV l=aa (Bp l):=by
 apply Wp.eq;unfold M.lC;simp only[WN,W_,av,ax,reduceCtorEq];refine⟨λh=>by unfold Bp;rw[aj (by omega)],λh=>?_⟩
 have h8:¬128<l.length:=by omega
 refine Wp.count (λs=>s.1) l.length (λk s=>(∀j,j<k->S8 l j=ae)/\∀x:Int,(bo aB s.2 x).getD ag=af↔Nz l k x) (by omega) rfl ⟨λj hj=>by omega,λx=>by simp[bo,Nz]⟩ λk s hk hs hJ=>?_
 obtain⟨i,m⟩:=s;obtain⟨hJ,hm⟩:=hJ;dsimp only at hs hm;subst hs;simp only[W_,av,ax,reduceCtorEq,bg,aY];refine⟨λaH=>?_,λhge=>(MO h8 λj hj=>hJ j (by omega)).symm⟩
 have aH:k<l.length:=by omega
 simp only[aF aH,cN (m:=l.length) (by omega) aH,W_,av,ax,reduceCtorEq];refine⟨λh0=>(Hr h8 aH (by unfold Km;rw[aj h0]) h0 hJ).symm,λh0=>⟨λhd=>(Hr h8 aH (by unfold Km;rw[ai (λg=>g h0),aj ((hm _).1 hd)]) (by decide) hJ).symm,λhd=>?_⟩⟩;refine⟨aH,eH hJ (by rw[xq aH,ai];unfold Km;rw[ai (λg=>g h0),ai (λg=>by rw[(hm _).2 g]at hd;cases hd)];simp),λx=>?_⟩
 show(bo aB (fC aB m l[k].1 af) x).getD ag=af↔_
 rw[mh,MN aH];by_cases e:(l[k].1:Int)=x
 .rw[aj e];exact⟨λ_=> .inr e,λ_=>rfl⟩
 .rw[ai e,hm];exact⟨.inl,λg=>g.resolve_right e⟩
def Mt(m i d r:Int)(f:ku):Prop:=(f.2.1:Int)=m/\(f.2.2.1:Int)=i/\(f.2.2.2.2.2:Int)<=r/\WM f.2.2.2.2.1 d
noncomputable instance(m i d r:Int)(f:ku):Decidable (Mt m i d r f):=aiZ _
def Pk(f g:ku):Prop:=(g.2.2.2.2.2:Int)<f.2.2.2.2.2\/((f.2.2.2.2.2:Int)=g.2.2.2.2.2/\(g.1:Int)<f.1)
noncomputable instance(f g:ku):Decidable (Pk f g):=aiZ _
noncomputable def rY(m i d r:Int)(b:Option ku)(f:ku):Option ku:=if Mt m i d r f then(match b with
 |none=>aa f
 |some g=>if Pk f g then aa f else aa g)else b
noncomputable def BM(l:List ku)(m i d r:Int):Option ku:=l.foldl (rY m i d r) ae
def Pm(f g:ku):M.pu aV f g=aa (decide (Pk f g)):=by
 obtain⟨(a:Int),(b:Int),(c:Int),x,v,(rc:Int)⟩:=f;obtain⟨(a':Int),(b':Int),(c':Int),x',v',(rc':Int)⟩:=g;apply Wp.eq;unfold M.pu;simp only[W_,av,ax,reduceCtorEq];unfold Pk;dsimp only[aB,Row.den];omega
def xr(l:List ku)(k:Nat)(b:Int)(o:Option ku):Prop:=(b= -1/\o=ae)\/∃j:Nat,∃h:j<l.length,j<k/\b=(j:Int)/\o=aa l[j]
def Ta(o:Option ku):th×Bool:=match o with
 |none=>(((0:Int),((0:Int),(0:Int))),ag)
 |some f=>(f.2.2.2.1,af)
def MP{l:List ku}{k:Nat}(h:k<l.length)(m i d r:Int):BM (l.take (k+1)) m i d r=rY m i d r (BM (l.take k) m i d r) l[k]:=by
 unfold BM;rw[<-aiP h,List.foldl_append];rfl
def xr.more{l:List ku}{k:Nat}{b:Int}{o:Option ku}(h:xr l k b o):xr l (k+1) b o:=by
 rcases h with h|⟨j,h1,h2,h3⟩
 .exact .inl h
 .exact .inr ⟨j,h1,by omega,h3⟩
def Qt(l:List ku)(m i d r:Int)(hl:l.length<=100000):M.nF aV l m i d r=aa (Ta (BM l m i d r)):=by
 apply Wp.eq;unfold M.nF;rw[wp_bind]
 refine Wp.count (λs=>s.2) l.length (λk s=>xr l k s.1 (BM (l.take k) m i d r)) (by omega) rfl (.inl ⟨rfl,rfl⟩) λk s hk hs hJ=>?_
 obtain⟨b,c⟩:=s;dsimp only at hs hJ;subst hs;simp only[S7,Pm,W_,av,ax,reduceCtorEq,bg,aY];refine⟨λaH=>?_,λhge=>?_⟩
 .have aH:k<l.length:=by omega
  have gq:=MP aH m i d r;simp only[aF aH,cN (m:=l.length) (by omega) aH,W_,av,ax,reduceCtorEq];rw[gq]
  have skip:¬Mt m i d r l[k]->k<l.length/\xr l (k+1) b (rY m i d r (BM (l.take k) m i d r) l[k]):=λh=>by
   unfold rY;rw[ai h];exact⟨aH,hJ.more⟩
  refine⟨λh1=>skip λg=>h1 g.1,λh1=>⟨λh2=>skip λg=>h2 g.2.1,λh2=>⟨λh3=>skip λg=>absurd h3 (ajy.2 g.2.2.1),λh3=>⟨λh4=>skip λg=>h4 g.2.2.2,λh4=>?_⟩⟩⟩⟩
  have hm:Mt m i d r l[k]:=⟨h1,h2,ajy.1 h3,h4⟩
  refine⟨λhb=>?_,λhb=>?_⟩
  .have hn:BM (l.take k) m i d r=ae:=by
    rcases hJ with⟨_,h⟩|⟨j,_,_,rfl,_⟩
    .exact h
    .omega
   refine⟨aH, .inr ⟨k,aH,by omega,rfl,?_⟩⟩;unfold rY;rw[aj hm,hn]
  .rcases hJ with⟨rfl,_⟩|⟨j,hj,Wj,rfl,hn⟩
   .exact absurd (by decide) hb
   .simp only[aF hj,W_,av,ax,reduceCtorEq];refine⟨λhw=>⟨aH, .inr ⟨k,aH,by omega,rfl,?_⟩⟩,λhw=>⟨aH, .inr ⟨j,hj,by omega,rfl,?_⟩⟩⟩
    .unfold rY;rw[aj hm,hn];exact aj hw
    .unfold rY;rw[aj hm,hn];exact ai hw
 .obtain rfl:k=l.length:=by omega
  rw[aiS]at hJ
  rcases hJ with⟨rfl,h⟩|⟨j,hj,_,rfl,h⟩
  .rw[h];exact⟨λ_=>rfl,λg=>absurd (by decide) g⟩
  .rw[h];simp only[aF hj,W_,av,ax,reduceCtorEq];exact⟨λg=>by omega,λ_=>rfl⟩
end L
namespace L
def FZ(l:Lw)(x:iJ):List Fd×Bool:=if(x.2.1:Int)<0\/(l.2.2.length:Int)<=x.2.1 then([],ag)else match l.2.2[(x.2.1:Int).toNat]? with
 |some y=>(y.2.2.1,af)
 |none=>([],ag)
def Qu(l:Lw)(k:Nat)(hk:k<l.2.2.length):M.dM aV l (k:Int)=aa (FZ l l.2.2[k]):=by
 apply Wp.eq;unfold M.dM;simp only[aF hk,W_,av,ax,reduceCtorEq];generalize l.2.2[k]=x;obtain⟨nm,(m:Int),z⟩:=x;unfold FZ;dsimp only[aB,Row.den];refine⟨λh=>by rw[aj (.inl h)],λh=>⟨λh'=>by rw[aj (.inr h')],λh'=>?_⟩⟩;rw[ai (by omega)]
 have hm:m.toNat<l.2.2.length:=by omega
 refine eQ.2 ⟨by omega,?_⟩;rw[aiG hm]
def F5(ins:List Fd)(i:Int):Option Ty:=if i= -1 then aa ((1:Int),(0:Int))else if i<0 then ae else(ins[i.toNat]?).map (·.2)
noncomputable def hT(E:List En)(ins:List Fd)(f:ku):Int:=match F5 ins f.2.2.1 with
 |none=>6
 |some t=>if((f.2.2.2.1.1,f.2.2.2.1.2.1):Ty)≠t then 8 else if¬BL f.2.2.2.1.2.2 t E then 3 else 0
def Hs(l:Lw)(x:iJ)(m:Int):List Fd:=if m= -1 then x.2.2.1 else(FZ l x).1
noncomputable def hE(l:Lw)(x:iJ)(mem:Int)(f:ku):Int:=if mem<=(f.2.1:Int)then 6 else hT l.1 (Hs l x f.2.1) f
noncomputable def Qv(l:Lw)(x:iJ)(h:Hh)(k:Nat):Option (Int×Int):=match h.2.2.2[k]? with
 |none=>ae
 |some f=>if hE l x h.2.2.1 f≠0 then aa ((k:Int),hE l x h.2.2.1 f)else ae
def HR(l:Lw)(x:iJ)(h:Hh):Prop:=(h.1:Int)<0\/(h.2.2.1:Int)<0\/8<(h.2.2.1:Int)\/((h.2.2.1:Int)≠0/\(FZ l x).2=ag)
noncomputable instance(l:Lw)(x:iJ)(h:Hh):Decidable (HR l x h):=aiZ _
noncomputable def Ed(l:Lw)(x:iJ)(h:Hh):Int×Int:=if HR l x h then(-1,3)else if(Bp h.2.2.2).2≠0 then Bp h.2.2.2 else(cV (Qv l x h) h.2.2.2.length).getD (0,0)
noncomputable def Qw(l:Lw)(h:Hh):Int×Int:=if(h.2.1:Int)<0\/(l.2.2.length:Int)<=h.2.1 then(-1,6)else match l.2.2[(h.2.1:Int).toNat]? with
 |none=>(-1,6)
 |some x=>Ed l x h
def xu{l:Lw}{x:iJ}{h:Hh}{k:Nat}(hk:k<h.2.2.2.length):Qv l x h k=if hE l x h.2.2.1 h.2.2.2[k]≠0 then aa ((k:Int),hE l x h.2.2.1 h.2.2.2[k])else ae:=by
 unfold Qv;rw[aiG hk]
def Pn{l:Lw}{x:iJ}{h:Hh}{k:Nat}{q:Int}(h1:¬HR l x h)(h2:(Bp h.2.2.2).2=0)(hk:k<h.2.2.2.length)(hq:hE l x h.2.2.1 h.2.2.2[k]=q)(h0:q≠0)(hJ:∀j,j<k->Qv l x h j=ae):Ed l x h=((k:Int),q):=by
 subst hq;unfold Ed;rw[ai h1,ai (λg=>g h2),ff ((xu hk).trans (aj h0)) hJ hk];rfl
def MQ{l:Lw}{x:iJ}{h:Hh}(h1:¬HR l x h)(h2:(Bp h.2.2.2).2=0)(hJ:∀j,j<h.2.2.2.length->Qv l x h j=ae):Ed l x h=(0,0):=by
 unfold Ed;rw[ai h1,ai (λg=>g h2),cr.2 hJ];rfl
def Ht{l:List ku}{k:Nat}{f:ku}(h:Km l k f=0):¬FR f/\¬FT f/\¬Nz l k f.1:=by
 unfold Km cf at h;by_cases h1:FR f
 .rw[aj h1,aj (by decide)]at h;cases h
 rw[ai h1]at h;by_cases h2:FT f
 .rw[aj h2,aj (by decide)]at h;cases h
 rw[ai h2,ai (by decide)]at h;by_cases h3:Nz l k f.1
 .rw[aj h3]at h;cases h
 exact⟨h1,h2,h3⟩
def DM{l:List ku}(h:(Bp l).2=0):l.length<=128/\∀k,∀hk:k<l.length,Km l k l[k]=0:=by
 unfold Bp at h;by_cases h8:128<l.length
 .rw[aj h8]at h;exact absurd h (by decide)
 rw[ai h8]at h;refine⟨by omega,?_⟩
 cases hf:cV (S8 l) l.length with
 |none=>
  intro k hk;have:=cr.1 hf k hk;rw[xq hk]at this;split at this
  .cases this
  .exact Classical.not_not.1 ‹_›
 |some e=>
  rw[hf]at h;obtain⟨k,hk,he,_⟩:=fe hf;rw[xq hk]at he;split at he
  .cases he;exact absurd h ‹_›
  .cases he
def Hu{E:List En}{ins:List Fd}{v:th}{i:Int}{P6 P8 P3 P0:Prop}{q:Int}(hq:(match F5 ins i with
 |none=>(6:Int)
 |some t=>if((v.1,v.2.1):Ty)≠t then 8 else if¬BL v.2.2 t E then 3 else 0)=q)(h6:q=6->P6)(h8:q=8->P8)(h3:q=3->P3)(h0:q=0->P0):
  (¬i= -1->(i<0->P6)/\(¬i<0->((ins.length:Int)<=i->P6)/\(¬(ins.length:Int)<=i->Wp (idx ins i) λNA=>
    (¬(v.1:Int)=NA.2.1->P8)/\((v.1:Int)=NA.2.1->(¬(v.2.1:Int)=NA.2.2->P8)/\((v.2.1:Int)=NA.2.2->((v.2.2:Int)<(yo NA.2 E).1->P3)/\(¬(v.2.2:Int)<(yo NA.2 E).1->((yo NA.2 E).2<(v.2.2:Int)->P3)/\(¬(yo NA.2 E).2<(v.2.2:Int)->P0)))))))/\
  (i= -1->(¬(v.1:Int)=1->P8)/\((v.1:Int)=1->(¬(v.2.1:Int)=0->P8)/\((v.2.1:Int)=0->((v.2.2:Int)<(yo ((1:Int),(0:Int)) E).1->P3)/\(¬(v.2.2:Int)<(yo ((1:Int),(0:Int)) E).1->((yo ((1:Int),(0:Int)) E).2<(v.2.2:Int)->P3)/\(¬(yo ((1:Int),(0:Int)) E).2<(v.2.2:Int)->P0))))):=by
 obtain⟨(kd:Int),(en:Int),(n:Int)⟩:=v;dsimp only[aB,Row.den]at*
 have some_:∀t:Ty,F5 ins i=aa t->(¬kd=(t.1:Int)->P8)/\(kd=(t.1:Int)->(¬en=(t.2:Int)->P8)/\(en=(t.2:Int)->(n<(yo t E).1->P3)/\(¬n<(yo t E).1->((yo t E).2<n->P3)/\(¬(yo t E).2<n->P0)))):=λt ht=>by
  rw[ht]at hq;dsimp only at hq;obtain⟨(t1:Int),(t2:Int)⟩:=t;dsimp only at*;refine⟨λg=>h8 ?_,λg1=>⟨λg=>h8 ?_,λg2=>?_⟩⟩
  .rw[<-hq,aj (λe=>g (ay Prod.fst e))]
  .rw[<-hq,aj (λe=>g (ay Prod.snd e))]
  subst g1 g2;rw[ai (λg=>g rfl)]at hq;refine⟨λg=>h3 ?_,λg1=>⟨λg=>h3 ?_,λg2=>h0 ?_⟩⟩
  .rw[<-hq,aj (λe=>by have:=e.1;omega)]
  .rw[<-hq,aj (λe=>by have:=e.2;omega)]
  .rw[<-hq,ai (λe=>e ⟨by omega,by omega⟩)]
 refine⟨λh1=>⟨λh2=>h6 ?_,λh2=>⟨λh=>h6 ?_,λh=>?_⟩⟩,λh=>?_⟩
 .rw[<-hq];unfold F5;rw[ai h1,aj h2]
 .rw[<-hq];unfold F5;rw[ai h1,ai h2,List.getElem?_eq_none (by omega)];rfl
 .have hi:i.toNat<ins.length:=by omega
  refine eQ.2 ⟨by omega,?_⟩;exact some_ ins[i.toNat].2 (by unfold F5;rw[ai h1,ai h2,aiG hi];rfl)
 .exact some_ ((1:Int),(0:Int)) (by unfold F5;rw[aj h])
def Bq(l:Lw)(h:Hh):M.dC aV l h=aa (Qw l h):=by
 apply Wp.eq;unfold M.dC;obtain⟨(hid:Int),(sc:Int),(mem:Int),fs⟩:=h;simp only[S9,vH,W_,av,ax,reduceCtorEq];unfold Qw;dsimp only[aB,Row.den];refine⟨λh=>by rw[aj (.inl h)],λh=>⟨λh'=>by rw[aj (.inr h')],λh'=>?_⟩⟩;rw[ai (by omega)];obtain⟨s,rfl⟩:=aiI (show 0<=sc by omega)
 have hs:s<l.2.2.length:=by omega
 rw[aiL,aiG hs];simp only[Qu l s hs,aF hs,W_,av,ax,reduceCtorEq];generalize hx:l.2.2[s]=x;have hR:HR l x (hid,((s:Int),(mem,fs)))↔hid<0\/mem<0\/8<mem\/(mem≠0/\(FZ l x).2=ag):=Iff.rfl
 have bad:HR l x (hid,((s:Int),(mem,fs)))->((-1:Int),(3:Int))=Ed l x (hid,((s:Int),(mem,fs))):=λg=>by unfold Ed;rw[aj g]
 have rest:¬HR l x (hid,((s:Int),(mem,fs)))->(Bp fs).2=0->Wp (Loop (S:=Int) (X:=Int×Int) (λs5=>if s5<(fs.length:Int)then(idx fs s5).bind λx6=>if mem<=x6.2.1 then aa (Sum.inr (s5,(6:Int)))else
  (if x6.2.1=(-1:Int)then(aa x).bind λx8=>aa x8.2.2.1 else aa (FZ l x).1:Option (List bA.den)).bind λj7=>b9 (J:=aD.den) (R:=Int⊕(Int×Int)) (if¬x6.2.2.1=(-1:Int)then(if x6.2.2.1<(0:Int)then aa af else aa (decide ((j7.length:Int)<=x6.2.2.1)):Option Bool).bind λj10=>if j10=af then aa (Sum.inr (Sum.inr (s5,(6:Int))))else(idx j7 x6.2.2.1).bind λNA=>aa (Sum.inl NA.2)else aa (Sum.inl ((1:Int),(0:Int)))) λj9=>
  (if¬x6.2.2.2.1.1=j9.1 then aa af else aa (!decide (x6.2.2.2.1.2.1=j9.2)):Option Bool).bind λj12=>if j12=af then aa (Sum.inr (s5,(8:Int)))else(aa (yo j9 l.1)).bind λWO=>(if x6.2.2.2.1.2.2<WO.1 then aa af else aa (decide (WO.2<x6.2.2.2.1.2.2)):Option Bool).bind λj14=>if j14=af then aa (Sum.inr (s5,(3:Int)))else aa (Sum.inl (aiE.wrap (s5+(1:Int))))else aa (Sum.inr ((0:Int),(0:Int)))) aV (0:Int)) λr=>r=Ed l x (hid,((s:Int),(mem,fs))):=by
  intro n1 n2;have hlen:=(DM n2).1
  refine Wp.count (λs=>s) fs.length (λk _=>∀j,j<k->Qv l x (hid,((s:Int),(mem,fs))) j=ae) (by omega) rfl (λj hj=>by omega) λk c hk uj hJ=>?_
  obtain rfl:c=_:=uj;simp only[W_,av,ax,reduceCtorEq,bg,aY];refine⟨λaH=>?_,λhge=>(MQ n1 n2 λj hj=>hJ j (by have hj:j<fs.length:=hj;omega)).symm⟩
  have aH:k<fs.length:=by omega
  simp only[aF aH,cN (m:=fs.length) (by omega) aH,W_,av,ax,reduceCtorEq]
  have XO:hE l x mem fs[k]=if mem<=(fs[k].2.1:Int)then 6 else hT l.1 (Hs l x fs[k].2.1) fs[k]:=rfl
  have F6:∀q:Int,q≠0->hE l x mem fs[k]=q->((k:Int),q)=Ed l x (hid,((s:Int),(mem,fs))):=λq h0 hq=>(Pn (k:=k) n1 n2 aH hq h0 hJ).symm
  have A8:hE l x mem fs[k]=0->k<fs.length/\∀j,j<k+1->Qv l x (hid,((s:Int),(mem,fs))) j=ae:=λh0=>⟨aH,eH hJ (by rw[xu (h:=(hid,((s:Int),(mem,fs)))) aH];exact ai (λg=>g h0))⟩
  refine⟨λhm=>F6 6 (by decide) (by rw[XO,aj hm]),λhm=>?_⟩;rw[ai hm]at XO;refine⟨λh1=>?_,λh1=>?_⟩
  .refine Hu (i:=fs[k].2.2.1) (v:=fs[k].2.2.2.1) (ins:=x.2.2.1) (E:=l.1) (q:=hE l x mem fs[k]) ?_ (F6 6 (by decide)) (F6 8 (by decide)) (F6 3 (by decide)) A8;rw[XO];unfold Hs;rw[aj h1];rfl
  .refine Hu (i:=fs[k].2.2.1) (v:=fs[k].2.2.2.1) (ins:=(FZ l x).1) (E:=l.1) (q:=hE l x mem fs[k]) ?_ (F6 6 (by decide)) (F6 8 (by decide)) (F6 3 (by decide)) A8;rw[XO];unfold Hs;rw[ai h1];rfl
 have facts:¬HR l x (hid,((s:Int),(mem,fs)))->¬(Bp fs).2=0->((Bp fs).1,(Bp fs).2)=Ed l x (hid,((s:Int),(mem,fs))):=λg1 g2=>by
  unfold Ed;rw[ai g1];exact(aj g2).symm
 refine⟨λg=>bad (hR.2 (.inl g)),λg1=>⟨λg=>bad (hR.2 (.inr (.inl g))),λg2=>⟨λg=>bad (hR.2 (.inr (.inr (.inl g)))),λg3=>⟨λg4=>⟨λg=>bad (hR.2 (.inr (.inr (.inr ⟨g4,g⟩)))),λg5=>?_⟩,λg4=>?_⟩⟩⟩⟩
 .have no:¬HR l x (hid,((s:Int),(mem,fs))):=λh=>by
   rcases hR.1 h with h|h|h|⟨_,h⟩
   .exact g1 h
   .exact g2 h
   .exact g3 h
   .rw[h]at g5;cases g5
  exact⟨facts no,rest no⟩
 .have no:¬HR l x (hid,((s:Int),(mem,fs))):=λh=>by
   rcases hR.1 h with h|h|h|⟨h,_⟩
   .exact g1 h
   .exact g2 h
   .exact g3 h
   .exact h g4
  exact⟨facts no,rest no⟩
def JM(h:Hh):M.gx aV h=aa (decide ((h.2.2.2.length:Int)<=40)):=rfl
end L
namespace L
def DN(fs:List ku)(d r:Int)(m:Int):Prop:=∃f,BM fs m (-1) d r=aa f/\(f.2.2.2.1.1:Int)=1/\(f.2.2.2.1.2.2:Int)=1
noncomputable instance(fs:List ku)(d r m:Int):Decidable (DN fs d r m):=aiZ _
noncomputable def yx(fs:List ku)(d r:Int)(n:Nat):List Int:=((ajp n).filter λm:Nat=>decide (DN fs d r m)).map λm:Nat=>(m:Int)
noncomputable def tl(h:Hh)(d r:Int):List Int:=yx h.2.2.2 d r (min (h.2.2.1:Int).toNat 8)
def JN(fs:List ku)(d r:Int)(n:Nat):yx fs d r (n+1)=if DN fs d r n then yx fs d r n++[(n:Int)]else yx fs d r n:=by
 unfold yx;rw[List.range_succ,List.filter_append,List.map_append];by_cases h:DN fs d r n
 .rw[aj h,ajA (by simpa using h)];rfl
 .rw[ai h,ajB (by simpa using h)];simp
def DO(fs:List ku)(d r:Int)(n:Nat):(yx fs d r n).length<=n:=by
 unfold yx;rw[List.length_map];exact aiY (ajt _ _) (by simp)
def Po(fs:List ku)(d r m:Int):(((Ta (BM fs m (-1) d r)).2=af->((Ta (BM fs m (-1) d r)).1.1:Int)=1->((Ta (BM fs m (-1) d r)).1.2.2:Int)=1->DN fs d r m))/\(DN fs d r m->(Ta (BM fs m (-1) d r)).2=af/\((Ta (BM fs m (-1) d r)).1.1:Int)=1/\((Ta (BM fs m (-1) d r)).1.2.2:Int)=1):=by
 unfold DN
 cases BM fs m (-1) d r with
 |none=>exact⟨λh=>(by cases h),λ⟨f,h,_⟩=>(by cases h)⟩
 |some f=>exact⟨λ_ h1 h2=>⟨f,rfl,h1,h2⟩,λ⟨g,h,h1,h2⟩=>by cases h;exact⟨rfl,h1,h2⟩⟩
def Pp(h:Hh)(d r:Int)(hl:h.2.2.2.length<=100000):M.gy aV h d r=aa (tl h d r):=by
 obtain⟨hid,sc,(mem:Int),fs⟩:=h;apply Wp.eq;unfold M.gy
 have hb:(if(8:Int)<(if mem<0 then 0 else mem)then(8:Int)else(if mem<0 then 0 else mem))=((min mem.toNat 8:Nat):Int):=by omega
 unfold tl;dsimp only[aB,Row.den]at*;simp only[hb]
 refine Wp.count (λs=>s.1) (min mem.toNat 8) (λk s=>s.2=yx fs d r k) (by omega) rfl rfl λk s hk hs hJ=>?_
 obtain⟨i,o⟩:=s;dsimp only at hs hJ;subst hs hJ;simp only[Qt fs _ _ _ _ hl,W_,av,ax,reduceCtorEq,bg,aY];refine⟨λaH=>?_,λhge=>by rw[show k=min mem.toNat 8 by omega]⟩
 have aH:k<min mem.toNat 8:=by omega
 have hw:=cN (m:=min mem.toNat 8) (by omega) aH;have hp:=Po fs d r k;have hs:=JN fs d r k;have hn:=DO fs d r k
 have no:¬DN fs d r k->k<min mem.toNat 8/\aiE.wrap ((k:Int)+1)=((k+1:Nat):Int)/\yx fs d r k=yx fs d r (k+1):=λg=>⟨aH,hw,by rw[hs,ai g]⟩
 refine⟨λh1=>⟨λh2=>⟨λh3=>?_,λh3=>no λg=>h3 (hp.2 g).2.2⟩,λh2=>no λg=>h2 (hp.2 g).2.1⟩,λh1=>no λg=>by rw[(hp.2 g).1]at h1;cases h1⟩;refine nK.2 ⟨by simp;omega,aH,hw,?_⟩;rw[hs,aj (hp.1 h1 h2 h3)]
noncomputable def o5(fs:List ku)(m d r:Int):Nat->Option (List th)
 |0=>aa []
 |n+1=>match o5 fs m d r n,BM fs m n d r with
  |some vs,aa f=>aa (vs++[f.2.2.2.1])
  |_,_=>ae
def abz(o:Option (List th)):Bool×List th:=match o with
 |some vs=>(af,vs)
 |none=>(ag,[])
def qZ{fs:List ku}{m d r:Int}:∀{n:Nat}{vs:List th},o5 fs m d r n=aa vs->vs.length=n
 |0,vs,h=>by cases h;rfl
 |n+1,vs,h=>by
  rw[o5]at h;split at h
  .rename_i us f h1 _;cases h;simp[qZ h1]
  .cases h
def xv{fs:List ku}{m d r:Int}{k:Nat}(h:BM fs m k d r=ae):∀{n:Nat},k<n->o5 fs m d r n=ae
 |0,hn=>by omega
 |n+1,hn=>by
  rw[o5]
  rcases Nat.lt_succ_iff_lt_or_eq.1 hn with h1|rfl
  .rw[xv h h1]
  .rw[h];split
   .rename_i h2;cases h2
   .rfl
def Pq(l:List th)(m:Nat)(z v:th):b8 (l++aiN (m+1) z) (l.length:Int) v=(l++[v])++aiN m z:=by
 unfold b8;rw[aiL,List.set_append_right _ _ (aiM _),Nat.sub_self,List.replicate_succ,List.set_cons_zero];simp
def DP(fs:List ku)(m:Int)(n:Nat)(d r:Int)(hl:fs.length<=100000)(hn:n<=100000):M.fk aV fs m (n:Int) d r=aa (abz (o5 fs m d r n)):=by
 apply Wp.eq;unfold M.fk;rw[wp_bind];refine rR.2 ⟨by omega,?_⟩;rw[aiL,List.length_replicate];generalize hz:(((0:Int),((0:Int),(0:Int))):th)=z
 refine Wp.count (λs=>s.1) n (λk s=>∃vs,o5 fs m d r k=aa vs/\s.2=vs++aiN (n-k) z) (by omega) rfl ⟨[],rfl,rfl⟩ λk s hk hs hJ=>?_
 obtain⟨i,o⟩:=s;obtain⟨vs,hv,ho⟩:=hJ;dsimp only at hs ho;subst hs ho;simp only[Qt fs _ _ _ _ hl,W_,av,ax,reduceCtorEq,bg,aY];have hlen:=qZ hv;refine⟨λaH=>?_,λhge=>?_⟩
 .have aH:k<n:=by omega
  cases ha:BM fs m (k:Int) d r with
  |none=>
   refine⟨λ_=>(by rw[xv ha aH];rfl),λg=>(by cases g)⟩
  |some f=>
   refine⟨λg=>(by cases g),λ_=>eQ.2 ⟨by simp;omega,aH,cN (m:=n) (by omega) aH,vs++[f.2.2.2.1],?_,?_⟩⟩
   .rw[o5,hv,ha]
   .show b8 (vs++aiN (n-k) z) (k:Int) f.2.2.2.1=_
    rw[show n-k=(n-(k+1))+1 by omega,<-hlen,Pq]
 .obtain rfl:n=k:=by omega
  rw[hv,Nat.sub_self]
  show _=(af,vs)
  simp
def xw{α:Type}(g:Nat->Option α):Nat->Option (List α)
 |0=>aa []
 |n+1=>match xw g n,g n with
  |some vs,aa v=>aa (vs++[v])
  |_,_=>ae
def qA{α:Type}{g:Nat->Option α}:∀{n:Nat}{vs:List α},xw g n=aa vs->vs.length=n
 |0,vs,h=>by cases h;rfl
 |n+1,vs,h=>by
  rw[xw]at h;split at h
  .rename_i us f h1 _;cases h;simp[qA h1]
  .cases h
def zI{α:Type}{g:Nat->Option α}{k:Nat}(h:g k=ae):∀{n:Nat},k<n->xw g n=ae
 |0,hn=>by omega
 |n+1,hn=>by
  rw[xw]
  rcases Nat.lt_succ_iff_lt_or_eq.1 hn with h1|rfl
  .rw[zI h h1]
  .rw[h];split
   .rename_i h2;cases h2
   .rfl
noncomputable def MR(fs:List ku)(ms:List Int)(d r:Int)(n:Nat)(k:Nat):Option (List th):=match ms[k]? with
 |some m=>o5 fs m d r n
 |none=>ae
abbrev Cs:Type:=Int×Int×List th×List (List th)
noncomputable def Hv(l:Lw)(x:iJ)(h:Hh)(d r:Int):Cs:=if d<0\/109572<d then(0,3,[],[])else match o5 h.2.2.2 (-1) d r x.2.2.1.length with
 |none=>(0,6,[],[])
 |some vs=>match xw (MR h.2.2.2 (tl h d r) d r (FZ l x).1.length) (tl h d r).length with
  |none=>(0,6,[],[])
  |some ms=>(d,0,vs,ms)
noncomputable def xx(l:Lw)(h:Hh)(d r:Int):Cs:=if A4 l≠Md then(0,1,[],[])else if(Qw l h).2≠0 then(0,1,[],[])else match l.2.2[(h.2.1:Int).toNat]? with
 |some x=>Hv l x h d r
 |none=>(0,1,[],[])
def qB{l:Lw}{h:Hh}(hz:(Qw l h).2=0):∃s:Nat,(h.2.1:Int)=s/\∃hs:s<l.2.2.length,(Ed l l.2.2[s] h).2=0:=by
 unfold Qw at hz;split at hz
 .cases hz
 rename_i hn;obtain⟨hid,(sc:Int),z⟩:=h;dsimp only[aB,Row.den]at*;obtain⟨s,rfl⟩:=aiI (show 0<=sc by omega)
 have hs:s<l.2.2.length:=by omega
 rw[aiL,aiG hs]at hz;exact⟨s,rfl,hs,hz⟩
def MS{l:Lw}(gv:ei l){x:iJ}:(FZ l x).1.length<=14:=by
 unfold FZ;split
 .exact ai6 _
 split
 .rename_i y hy;obtain⟨hi,rfl⟩:=aiW.1 hy;exact(gv.2.2.2.2.2 _ (aiJ hi)).2.1
 .exact ai6 _
def xy(h:Hh)(d r:Int):(tl h d r).length<=8:=by
 have:=DO h.2.2.2 d r (min (h.2.2.1:Int).toNat 8);unfold tl;omega
def MT(l:Lw)(h:Hh)(d r:Int)(hw:WF bV l)(gv:ei l)(hf:h.2.2.2.length<=100000):M.jI aV l h d r=aa (xx l h d r):=by
 apply Wp.eq;unfold M.jI;simp only[Bd l hw gv,Bq,Pp h d r hf,W_,av,ax,reduceCtorEq];unfold xx;refine⟨λg=>?_,λg=>?_⟩
 .rw[aj];intro e;rw[e,show oo aC Md ((0:Int),((0:Int),((0:Int),(0:Int))))=af from z8.2 rfl]at g;cases g
 have hv:A4 l=Md:=z8.1 g;rw[ai (λq=>q hv)];refine⟨λg=>by rw[aj g],λg=>?_⟩;rw[ai (λq=>q g)];obtain⟨s,hsc,hs,hx⟩:=qB g;rw[hsc,aiL,aiG hs];have yF:=gv.2.2.2.2.2 _ (aiJ hs);simp only[Qu l s hs,aF hs,W_,av,ax,reduceCtorEq];generalize l.2.2[s]=x at*;have NP:=MS (l:=l) gv (x:=x);have Hd:=yF.2.1;have QJ:=xy h d r;unfold Hv;simp only[DP h.2.2.2 _ _ d r hf (show x.2.2.1.length<=100000 by omega),DP h.2.2.2 _ _ d r hf (show(FZ l x).1.length<=100000 by omega),W_,av,ax,reduceCtorEq];refine⟨λg=>by rw[aj (.inl g)],λg1=>⟨λg=>by rw[aj (.inr g)],λg2=>?_⟩⟩;rw[ai (by omega)]
 cases vj:o5 h.2.2.2 (-1) d r x.2.2.1.length with
 |none=>exact⟨λ_=>rfl,λg=>(by cases g)⟩
 |some vs=>
  refine⟨λg=>(by cases g),λ_=>?_⟩
  refine Wp.count (λs=>s.1) (tl h d r).length (λk s=>s.2.1=d/\s.2.2.1=vs/\xw (MR h.2.2.2 (tl h d r) d r (FZ l x).1.length) k=aa s.2.2.2) (by omega) rfl ⟨rfl,rfl,rfl⟩ λk s hk hs hJ=>?_
  obtain⟨i,a,b,o⟩:=s;obtain⟨ha,hb,hJ⟩:=hJ;dsimp only at hs hJ ha hb;subst hs ha hb;simp only[W_,av,ax,reduceCtorEq,bg,aY];refine⟨λaH=>?_,λhge=>?_⟩
  .have aH:k<(tl h a r).length:=by omega
   have hg:MR h.2.2.2 (tl h a r) a r (FZ l x).1.length k=o5 h.2.2.2 (tl h a r)[k] a r (FZ l x).1.length:=by
    unfold MR;rw[aiG aH]
   have hlen:=qA hJ;simp only[aF aH,cN (m:=(tl h a r).length) (by omega) aH,W_,av,ax,reduceCtorEq]
   cases si:o5 h.2.2.2 (tl h a r)[k] a r (FZ l x).1.length with
   |none=>
    refine⟨λ_=>?_,λg=>(by cases g)⟩;rw[zI (hg.trans si) aH]
   |some us=>
    refine⟨λg=>(by cases g),λ_=>nK.2 ⟨by simp;omega,aH,?_⟩⟩;rw[xw,hJ,hg,si];simp;rfl
  .obtain rfl:k=(tl h a r).length:=by omega
   rw[hJ]
def MU(c:Cs):Prop:=c.2.2.1.length<=1048576/\c.2.2.2.length<=1048576/\∀x∈c.2.2.2,x.length<=1048576
def DQ{α:Type}{g:Nat->Option α}:∀{n:Nat}{vs:List α},xw g n=aa vs->∀k,∀h:k<vs.length,g k=aa vs[k]
 |0,vs,h,k,hk=>by cases h;cases hk
 |n+1,vs,h,k,hk=>by
  rw[xw]at h;split at h
  case h_2=>cases h
  rename_i us v h1 h2;cases h;by_cases e:k<us.length
  .rw[ai7 e];exact DQ h1 k e
  .have:k=us.length:=by simp at hk;omega
   subst this;rw[ajc (aiM _)];have:=qA h1;simp only[Nat.sub_self,List.getElem_singleton];rw[this];exact h2
def DS{l:Lw}(gv:ei l)(h:Hh)(d r:Int):MU (xx l h d r):=by
 have e:∀a b:Int,MU (a,b,[],[]):=λa b=>⟨ai6 _,ai6 _,λx hx=>by cases hx⟩
 unfold xx;split
 .exact e ..
 split
 .exact e ..
 split
 case h_2=>exact e ..
 rename_i x hx;obtain⟨hi,rfl⟩:=aiW.1 hx;have Hd:=(gv.2.2.2.2.2 _ (aiJ hi)).2.1;generalize l.2.2[(h.2.1:Int).toNat]=x at*;have NP:=MS (l:=l) gv (x:=x);have QJ:=xy h d r;unfold Hv;split
 .exact e ..
 split
 .exact e ..
 rename_i vs Y2;split
 .exact e ..
 rename_i ms Ox;have l1:=qZ Y2;have l2:=qA Ox;refine⟨by show vs.length<=_;omega,by show ms.length<=_;omega,λy hy=>?_⟩;obtain⟨k,hk,rfl⟩:=aiR hy;have:=DQ Ox k hk;unfold MR at this;split at this
 .exact aiY (Nat.le_of_eq (qZ this)) (by omega)
 .cases this
end L
namespace L
def DT(l:List ku):Prop:=l.Pairwise λa b=>(a.1:Int)≠b.1
def tn{l:List ku}:DT l↔∀k,∀h:k<l.length,¬Nz l k l[k].1:=by
 constructor
 .rintro h k hk ⟨y,hy,e⟩
  obtain⟨j,hj,rfl⟩:=List.mem_take_iff_getElem.1 hy;exact List.pairwise_iff_getElem.1 h j k (by omega) hk (by omega) e
 .intro h
  refine List.pairwise_iff_getElem.2 λi j hi hj TA e=>h j hj ⟨_,List.mem_take_iff_getElem.2 ⟨i,by omega,rfl⟩,e⟩
def Br{l:List ku}:(Bp l).2=0↔l.length<=128/\(∀f∈l,cf f=0)/\DT l:=by
 constructor
 .intro h;obtain⟨h1,h2⟩:=DM h;refine⟨h1,λf hf=>?_,tn.2 λk hk=>(Ht (h2 k hk)).2.2⟩;obtain⟨k,hk,rfl⟩:=aiR hf;obtain⟨g1,g2,_⟩:=Ht (h2 k hk);unfold cf;rw[ai g1,ai g2]
 .rintro⟨h1,h2,h3⟩
  rw[MO (by omega) λj hj=>?_];rw[xq hj,ai];unfold Km;rw[ai (λg=>g (h2 _ (aiJ hj))),ai (tn.1 h3 j hj)]
  exact λg=>g rfl
def Bt{l:Lw}{x:iJ}{h:Hh}:(Ed l x h).2=0↔¬HR l x h/\(Bp h.2.2.2).2=0/\∀f∈h.2.2.2,hE l x h.2.2.1 f=0:=by
 by_cases h1:HR l x h
 .refine aA ?_ λg=>g.1 h1
  unfold Ed;rw[aj h1]
  exact by decide
 by_cases h2:(Bp h.2.2.2).2=0
 case neg=>
  refine aA ?_ λg=>h2 g.2.1
  unfold Ed;rw[ai h1,aj h2];exact h2
 by_cases h3:∀f∈h.2.2.2,hE l x h.2.2.1 f=0
 .refine iff_of_true ?_ ⟨h1,h2,h3⟩;rw[MQ h1 h2 λj hj=>by rw[xu hj,ai (λg=>g (h3 _ (aiJ hj)))]]
 .refine aA (λg=>h3 λf hf=>?_) λg=>h3 g.2.2
  obtain⟨k,hk,rfl⟩:=aiR hf
  refine Classical.not_not.1 λh0=>?_
  unfold Ed at g;rw[ai h1,ai (λq=>q h2)]at g
  cases hf:cV (Qv l x h) h.2.2.2.length with
  |none=>
   have:=cr.1 hf k hk;rw[xu hk,aj h0]at this;cases this
  |some e=>
   obtain⟨j,hj,he,_⟩:=fe hf;rw[xu hj]at he;split at he
   .cases he;rw[hf]at g;exact absurd g ‹_›
   .cases he
end L
namespace L
end L
namespace L
abbrev Cf:Type:=aS.den
def Bu(y m:Int):Wp (M.cI aV y m) λ_=>True:=by
 unfold M.cI
 refine Wp.seq (λj=>j=ag->1<=m/\m<=12) (.dec (λ_=> .some λh=>by cases h) λh=> .some λg=>⟨by omega,ajy.1 (ao g)⟩) λj hj=>?_
 refine .ite (λ_=> .some trivial) λc=>?_
 have hm:=hj (by simpa using c)
 refine Wp.seq (λ_=>True) ?_ λj _=> .ite (λ_=> .some trivial) λ_=>?_
 .refine .dec (λ_=>?_) λ_=> .some trivial
  unfold M.nX;refine .bind (Wp.seq (λ_=>True) (.dec (λ_=> .fD (λ_=> .some trivial) λ_=> .some trivial) λ_=> .some trivial) λ_ _=> .some (.some trivial))
 .rw[aX (by omega) (by omega)];obtain⟨k,hk⟩:=aiI (show 0<=m-1 by omega);exact .bind (.idx k hk (show k<12 by omega) (.some trivial))
def MV(m:Int):Wp (M.pt aV m) λ_=>True:=by
 unfold M.pt M.mI
 refine Wp.seq (λ_=>True) (Wp.seq (λ_=>True) (.dec (λ_=> .some trivial) λ_=> .some trivial) λ_ _=> .some trivial) λj _=> .ite (λ_=> .some trivial) λ_=>Wp.seq _ (Bu _ _) λ_ _=> .some trivial
def Pt(y m d:Int):Wp (M.gV aV y m d) λ_=>True:=by
 unfold M.gV
 refine Wp.seq (λj=>j=ag->1<=m/\m<=12) ?_ λj hj=>?_
 .refine .dec (λ_=> .some λh=>by cases h) λ_=> .dec (λ_=> .some λh=>by cases h) λ_=> .dec (λ_=> .some λh=>by cases h) λh1=> .dec (λ_=> .some λh=>by cases h) λh2=> .dec (λ_=> .some λh=>by cases h) λ_=>Wp.seq _ (Bu _ _) λ_ _=> .some λ_=>⟨by omega,by omega⟩
 refine .ite (λ_=> .some trivial) λc=>?_
 have hm:=hj (by simpa using c)
 refine Wp.seq (λ_=>True) ?_ λy3 _=>Wp.seq (λ_=>True) ?_ λ_ _=> .some trivial
 .unfold M.eF M.jx;exact .bind (.some (.bind (.some (.some trivial))))
 .refine Wp.count (λs=>s.2) (m-1).toNat (λ_ _=>True) (by omega) rfl trivial λk s hk hs _=>?_
  obtain⟨a,c⟩:=s;dsimp only at hs;subst hs;rw[aX (n:=m-1) (by omega) (by omega)]
  exact .dec (λh=>Wp.seq _ (Bu _ _) λ_ _=> .some ⟨by dsimp only at h;omega,aT (by omega),trivial⟩) λ_=> .some trivial
def zJ(m:Int):Wp (M.lg aV m) λ_=>True:=by
 unfold M.lg M.mI
 refine Wp.seq (λ_=>True) (Wp.seq (λ_=>True) (.dec (λ_=> .some trivial) λ_=> .some trivial) λ_ _=> .some trivial) λj _=> .ite (λ_=> .some trivial) λ_=>Wp.seq _ (Pt _ _ _) λ_ _=> .fD (λ_=> .some trivial) λ_=>Wp.seq _ (MV _) λ_ _=> .some trivial
def jW(r:Ty):Prop:=VR r/\(r.1:Int)<(r.2:Int)
instance(r:Ty):Decidable (jW r):=by unfold jW;infer_instance
def F7(r:Ty):M.dL aV r=aa (decide (jW r)):=by
 obtain⟨(r1:Int),(r2:Int)⟩:=r;apply Wp.eq;unfold M.dL;simp only[um,W_,av,ax,reduceCtorEq];unfold jW;dsimp only[aB,Row.den]
 by_cases h:VR ((r1,r2):Ty)<;>simp only[h,W_,av,ax,reduceCtorEq]
def Tb(l:List Int):(aji l).length<=l.length:=by
 unfold aji Go.Lib.compactUpTo;rw[List.length_map];exact aiY (ajt _ _) (by simp)
def tq(l:List Int):List Int:=aji (lX l)
def mL(l:List Int):(tq l).length<=l.length:=by
 have h1:=Tb (lX l);have h2:(lX l).length=l.length:=List.length_mergeSort ..;unfold tq;omega
def xz{l:List Int}{y:Int}:y∈tq l↔y∈l:=by
 unfold tq;rw[uV];unfold lX;exact List.mem_mergeSort
def vJ{l:List Int}(h:l.length<=1000000000){α:Type}{k:List Int->Option α}:((M.bN aV l).bind λy=>(M.bz aV y).bind k)=k (tq l):=by
 have h2:(lX l).length=l.length:=List.length_mergeSort ..
 have e1:M.bN aV l=aa (lX l):=by
  unfold M.bN zh;rw[aj (by omega)]
 have e2:M.bz aV (lX l)=aa (aji (lX l)):=by
  unfold M.bz oV;rw[aj (by omega)]
 rw[e1,aiD,e2,aiD];rfl
def pG(R:List Ty):List Int:=R.flatMap λr=>if jW r then[(r.1:Int),r.2]else[]
def o6(R:List Ty):(pG R).length<=2*R.length:=by
 unfold pG
 induction R with
 |nil=>simp
 |cons r R ih=>
  have e:(if jW r then[(r.1:Int),r.2]else[]).length<=2:=by split<;>simp
  rw[List.flatMap_cons,List.length_append,aiU];omega
def ux(R:List Ty)(h:R.length<=100000000):M.dJ aV R=aa (tq (pG R)):=by
 unfold M.dJ;have hl:=o6 R;refine Wp.eq (Wp.seq (λo=>o=pG R) ?_ λo ho=>?_)
 .refine Wp.count (λs=>s.1) R.length (λk s=>s.2=pG (R.take k)) (by omega) rfl rfl λk s hk hs hJ=>?_
  obtain⟨c,o⟩:=s;dsimp only at hs hJ;subst hs hJ
  refine .dec (λaH=>?_) λhge=>?_
  .have aH:k<R.length:=by dsimp only at aH;omega
   have ht:pG (R.take (k+1))=pG (R.take k)++(if jW R[k]then[(R[k].1:Int),R[k].2]else[]):=by
    rw[<-aiP aH];unfold pG;rw[List.flatMap_append,List.flatMap_cons,List.flatMap_nil,ajv]
   have iK:=o6 (R.take k)
   have Kj:(R.take k).length<=k:=by simp;omega
   dsimp only
   refine Wp.seq (λo'=>o'=pG (R.take (k+1))) ?_ λo' jS=> .some ⟨aH,aT (by omega),jS⟩
   rw[aF aH,aiD,F7,aiD,ht]
   refine .dec (λhd=>?_) λhd=>?_
   .rw[aj hd];exact .bind (.app (by simp;omega) (.some rfl))
   .rw[ai hd];exact .some (by simp)
  .have hge:k=R.length:=by dsimp only at hge;omega
   subst hge;exact .some (show pG (R.take R.length)=pG R by rw[aiS])
 .subst ho;rw[vJ (by omega)];exact .some rfl
def mM(fs:List ku)(r:Int):List Ty:=(fs.filter λf=>decide ((f.2.2.2.2.2:Int)<=r/\NE f.2.2.2.2.1)).map λf=>f.2.2.2.2.1
def pQ(d:Int):Bool:=decide (1<=d/\d<=109572)
def zK(fs:List ku)(r:Int):List Int:=(tq (pG (mM fs r))).filter pQ
def uy(fs:List ku)(r:Int):(mM fs r).length<=fs.length:=by
 unfold mM;rw[List.length_map];exact ajt _ _
def zL(fs:List ku)(r:Int):(zK fs r).length<=2*fs.length:=by
 have h1:=uy fs r;have h2:=o6 (mM fs r);have h3:=mL (pG (mM fs r));have h4:(zK fs r).length<=(tq (pG (mM fs r))).length:=ajt _ _;omega
def DU(fs:List ku)(r:Int)(h:fs.length<=1000000):M.fU aV fs r=aa (zK fs r):=by
 unfold M.fU;have hl:=uy fs r;refine Wp.eq (Wp.seq (λo=>o=mM fs r) ?_ λo ho=>?_)
 .refine Wp.count (λs=>s.1) fs.length (λk s=>s.2=mM (fs.take k) r) (by omega) rfl rfl λk s hk hs hJ=>?_
  obtain⟨c,o⟩:=s;dsimp only at hs hJ;subst hs hJ
  refine .dec (λaH=>?_) λhge=>?_
  .have aH:k<fs.length:=by dsimp only at aH;omega
   have ht:mM (fs.take (k+1)) r=mM (fs.take k) r++(if(fs[k].2.2.2.2.2:Int)<=r/\NE fs[k].2.2.2.2.1 then[fs[k].2.2.2.2.1]else[]):=by
    rw[<-aiP aH];unfold mM;rw[List.filter_append,List.map_append]
    congr 1
    by_cases g:(fs[k].2.2.2.2.2:Int)<=r/\NE fs[k].2.2.2.2.1
    .rw[aj g,ajA (by simpa using g)];rfl
    .rw[ai g,ajB (by simpa using g)];rfl
   have iK:=uy (fs.take k) r
   have Kj:(fs.take k).length<=k:=by simp;omega
   dsimp only
   refine Wp.seq (λo'=>o'=mM (fs.take (k+1)) r) ?_ λo' jS=> .some ⟨aH,aT (by omega),jS⟩
   rw[aF aH,aiD,ht]
   refine Wp.seq (λj=>j=decide ((fs[k].2.2.2.2.2:Int)<=r/\NE fs[k].2.2.2.2.1)) ?_ λj hj=>?_
   .refine .dec (λg=>?_) λg=> .some (au λq=>g q.1).symm
    rw[ne_eq];exact .bind (.some (.some (decide_eq_decide.2 ⟨λq=>⟨g,q⟩,λq=>q.2⟩)))
   .subst hj
    refine .dec (λg=>?_) λg=>?_
    .rw[aj g];exact .bind (.app (by simp;omega) (.some rfl))
    .rw[ai g];exact .some (by simp)
  .have hge:k=fs.length:=by dsimp only at hge;omega
   subst hge;exact .some (show mM (fs.take fs.length) r=mM fs r by rw[aiS])
 .subst ho;have h2:=o6 (mM fs r);have h3:=mL (pG (mM fs r));rw[ux _ (by omega),aiD];unfold zK;generalize tq (pG (mM fs r))=D at*
  refine Wp.count (λs=>s.1) D.length (λk s=>s.2=(D.take k).filter pQ) (by omega) rfl rfl λk s hk hs hJ=>?_
  obtain⟨c,o⟩:=s;dsimp only at hs hJ;subst hs hJ
  refine .dec (λaH=>?_) λhge=>?_
  .have aH:k<D.length:=by dsimp only at aH;omega
   have ht:(D.take (k+1)).filter pQ=(D.take k).filter pQ++(if pQ D[k]=af then[D[k]]else[]):=by
    rw[<-aiP aH,List.filter_append]
    congr 1
    by_cases g:pQ D[k]=af
    .rw[aj g,ajA g];rfl
    .rw[ai g,ajB g];rfl
   have iK:=ajt pQ (D.take k)
   have Kj:(D.take k).length<=k:=by simp;omega
   dsimp only
   refine Wp.seq (λo'=>o'=(D.take (k+1)).filter pQ) ?_ λo' jS=> .some ⟨aH,aT (by omega),jS⟩
   rw[aF aH,aiD,ht]
   refine Wp.seq (λj=>j=pQ D[k]) ?_ λj hj=>?_
   .unfold pQ
    refine .dec (λg=> .some (decide_eq_decide.2 ⟨λq=>⟨g,q⟩,λq=>q.2⟩)) λg=> .some (au λq=>g q.1).symm
   .subst hj
    refine .ite (λg=>?_) λg=>?_
    .rw[aj g];exact .bind (.app (by simp;omega) (.some rfl))
    .rw[ai g];exact .some (by simp)
  .have hge:k=D.length:=by dsimp only at hge;omega
   subst hge;exact .some (show(D.take D.length).filter pQ=D.filter pQ by rw[aiS])
def F8{α β:Type}(L:List α)(f:α->β)(o:List β)(h:o.length+L.length<=4294967296):Wp (Loop (S:=Int×List β) (X:=List β) (λs=>
(if(decide (s.1<(L.length:Int)))=af then
(idx L s.1).bind λx=>
(cA s.2 ([f x]:List β)).bind λl=>
some (Sum.inl (aiE.wrap (s.1+(1:Int)),l))
else
some (Sum.inr s.2))) aV ((0:Int),o)) λr=>r=o++L.map f:=by
 refine Wp.count (λs=>s.1) L.length (λk s=>s.2=o++(L.take k).map f) (by omega) rfl (by simp) λk s hk hs hJ=>?_
 obtain⟨c,q⟩:=s;dsimp only at hs hJ;subst hs hJ
 refine .dec (λaH=>?_) λhge=>?_
 .have aH:k<L.length:=by dsimp only at aH;omega
  refine .bind (.idx k rfl aH (.bind (.app (by simp;omega) (.some ⟨aH,aT (by omega),?_⟩))))
  show(o++(L.take k).map f)++[f L[k]]=o++(L.take (k+1)).map f
  rw[<-aiP aH,List.map_append,List.append_assoc];rfl
 .have hge:k=L.length:=by dsimp only at hge;omega
  subst hge;exact .some (show o++(L.take L.length).map f=_ by rw[aiS])
def MW{t:Qg}{E:List En}(h:(pV t E).2=0):t.2.2.2.length<=64:=by
 unfold pV at h
 grind
def Valid.rows{l:Lw}(h:Valid l):∀t∈l.2.1,t.2.2.2.length<=64:=λt ht=>by
 obtain⟨_,_,_,_,h5,_⟩:=h.scopes;obtain⟨k,hk,rfl⟩:=aiR ht;have:=h5 k hk;unfold s6 at this;rw[aiG hk]at this;dsimp only at this;split at this
 .cases this
 split at this
 .cases this
 split at this
 .rename_i h0;exact(MW h0)
 .cases this
def Pu{l:Lw}(gv:ei l)(hv:Valid l):Wp (M.cv aV l) λD=>D.length<=10000:=by
 have hr:=hv.rows;unfold M.cv
 refine Wp.seq (λR:List Ty=>R.length<=64*9) ?_ λR hR=>Wp.seq (λR:List Ty=>R.length<=64*9+60*5) ?_ λR hR=>?_
 .refine Wp.count (λs=>s.1) l.2.1.length (λk s=>s.2.length<=64*k) (by have:=gv.2.1;omega) rfl (by simp) λk s hk hs hJ=>?_
  obtain⟨c,o⟩:=s;dsimp only at hs hJ;subst hs;have:=gv.2.1
  refine .dec (λaH=>?_) λhge=> .some (show o.length<=64*9 by omega)
  have aH:k<l.2.1.length:=by dsimp only at aH;omega
  have iK:=hr _ (aiJ aH)
  refine Wp.seq (λo'=>o'.length<=64*(k+1)) (.bind (.idx k rfl aH ((F8 _ _ o (by omega)).mono λo' jS=>by rw[jS];simp;omega))) λo' jS=> .some ⟨aH,aT (by omega),jS⟩
 .refine Wp.count (λs=>s.1) l.2.2.length (λk s=>s.2.length<=64*9+60*k) (by have:=gv.2.2.1;omega) rfl hR λk s hk hs hJ=>?_
  obtain⟨c,o⟩:=s;dsimp only at hs hJ;subst hs;have:=gv.2.2.1
  refine .dec (λaH=>?_) λhge=> .some (show o.length<=64*9+60*5 by omega)
  have aH:k<l.2.2.length:=by dsimp only at aH;omega
  have iK:=(gv.2.2.2.2.2 _ (aiJ aH)).2.2.2.1
  refine Wp.seq (λo'=>o'.length<=64*9+60*(k+1)) (.bind (.idx k rfl aH ((F8 _ _ o (by omega)).mono λo' jS=>by rw[jS];simp;omega))) λo' jS=> .some ⟨aH,aT (by omega),jS⟩
 .have h2:=o6 R;have h3:=mL (pG R);rw[ux R (by omega),aiD];unfold M.cF pq;rw[aj (by omega),aiD];exact .some (aiY (ajt _ _) (by omega))
def zM(a b:List Int)(ha:a.length<=100000000)(hb:b.length<=100000000):M.fx aV [a,b]=aa (a++b):=by
 unfold M.fx;refine Wp.eq (Wp.seq (λn=>n=((a.length+b.length:Nat):Int)) ?_ λn hn=>Wp.seq (λo=>o=[]) ?_ λo ho=>?_)
 .refine Wp.count (λs=>s.2) 2 (λk s=>s.1=((([a,b].take k).map List.length).sum:Nat)) (by omega) rfl rfl λk s hk hs hJ=>?_
  obtain⟨n,c⟩:=s;dsimp only at hs hJ;subst hs hJ
  match k,hk with
  |0,_=>
   refine .dec (λ_=> .bind (.idx 0 rfl (by simp) (.dec (λh=>?_) λ_=> .some ⟨by omega,rfl,?_⟩))) λh=>absurd (show(0:Int)<2 by omega) h
   .have h:aiE.wrap ((0:Int)+(a.length:Int))<0:=h;rw[aX (by omega) (by omega)]at h;omega
   .show aiE.wrap ((0:Int)+(a.length:Int))=(([a].map List.length).sum:Nat)
    rw[aX (by omega) (by omega)];simp
  |1,_=>
   refine .dec (λ_=> .bind (.idx 1 rfl (by simp) (.dec (λh=>?_) λ_=> .some ⟨by omega,rfl,?_⟩))) λh=>absurd (show(1:Int)<2 by omega) h
   .have h:aiE.wrap ((([a].map List.length).sum:Nat)+(b.length:Int))<0:=h;simp only[ai2,List.map_nil,ai9,List.sum_nil,ajO]at h;rw[aX (by omega) (by omega)]at h;omega
   .show aiE.wrap ((([a].map List.length).sum:Nat)+(b.length:Int))=(([a,b].map List.length).sum:Nat)
    simp only[ai2,List.map_nil,ai9,List.sum_nil,ajO];rw[aX (by omega) (by omega)];simp
  |2,_=>exact .dec (λh=>absurd h (show¬(2:Int)<2 by omega)) λ_=> .some (show((([a,b].take 2).map List.length).sum:Nat)=(((a.length+b.length:Nat)):Int) by simp)
 .subst hn;unfold M.ie
  refine .dec (λh=>by omega) λ_=>Wp.seq (λo=>o=[]) ?_ λo ho=> .some ho
  have e:aiE.wrap (((a.length+b.length:Nat):Int)-aiE.wrap ((0:Int)-(0:Int)))=((a.length+b.length:Nat):Int):=by
   rw[aX (n:=(0:Int)-0) (by omega) (by omega),aX (by omega) (by omega)];omega
  rw[e]
  refine .dec (λh=>?_) λ_=> .some rfl
  rw[show fX ([]:List Int) 0 0=aa []from rfl,aiD];unfold Xg;rw[aj (by omega),aiD];exact .bind (.cut 0 0 rfl rfl (aiM _) (ai6 _) (.some (by simp)))
 .subst ho
  refine Wp.count (λs=>s.1) 2 (λk s=>s.2=([a,b].take k).flatten) (by omega) rfl rfl λk s hk hs hJ=>?_
  obtain⟨c,o⟩:=s;dsimp only at hs hJ;subst hs hJ
  match k,hk with
  |0,_=>exact .dec (λ_=> .bind (.idx 0 rfl (by simp) (.bind (.app (by simp;omega) (.some ⟨by omega,rfl,by simp⟩))))) λh=>absurd (show(0:Int)<2 by omega) h
  |1,_=>exact .dec (λ_=> .bind (.idx 1 rfl (by simp) (.bind (.app (by simp;omega) (.some ⟨by omega,rfl,by simp⟩))))) λh=>absurd (show(1:Int)<2 by omega) h
  |2,_=>exact .dec (λh=>absurd h (show¬(2:Int)<2 by omega)) λ_=> .some (show([a,b].take 2).flatten=a++b by simp)
noncomputable def Pv(l:Lw):List Int:=(M.cv aV l).getD []
def Hw{l:Lw}(gv:ei l)(hv:Valid l):M.cv aV l=aa (Pv l)/\(Pv l).length<=10000:=(Pu gv hv).getD []
noncomputable def MX(l:Lw)(fs:List ku)(r:Int):List Int:=tq (zK fs r++Pv l)
def DV{l:Lw}(gv:ei l)(hv:Valid l){fs:List ku}(h:fs.length<=1000)(r:Int):(MX l fs r).length<=12000:=by
 have h1:=mL (zK fs r++Pv l);have h2:=zL fs r;have h3:=(Hw gv hv).2;rw[List.length_append]at h1;unfold MX;omega
def F9{l:Lw}(gv:ei l)(hv:Valid l)(h:Hh)(hf:h.2.2.2.length<=1000)(r:Int):M.dO aV l h r=aa (MX l h.2.2.2 r):=by
 have h2:=zL h.2.2.2 r;obtain⟨e1,e2⟩:=Hw gv hv;unfold M.dO;rw[DU _ _ (by omega),aiD,e1,aiD,zM _ _ (by omega) (by omega),aiD,vJ (by simp;omega)];rfl
def Pw{a b:Nat}(h:a+b<=2000000):aiE.wrap (gu .u64 (aiH.wrap (aiE.wrap ((a:Int)+(b:Int)))) (1:Int))=(((a+b)/2:Nat):Int):=by
 rw[aX (n:=(a:Int)+(b:Int)) (by omega) (by omega)]
 have h1:aiH.wrap ((a:Int)+(b:Int))=(a:Int)+(b:Int):=by
  simp[IntKind.wrap,IntKind.bits,IntKind.signed];omega
 rw[h1]
 have h2:gu .u64 ((a:Int)+(b:Int)) 1=(((a+b)/2:Nat):Int):=by
  unfold gu
  show((a:Int)+(b:Int)).fdiv 2=_
  rw[Int.fdiv_eq_ediv_of_nonneg _ (by decide)];omega
 rw[h2,aX (by omega) (by omega)]
def zN(l:List Int)(x:Int)(hl:l.length<=1000000):Wp (M.cL aV l x) λr=>0<=r.1/\r.1<=(l.length:Int):=by
 have WQ:∀a b:Int,M.cmp_Less_int aV a b=aa (decide (a<b)):=λa b=>by
  unfold M.cmp_Less_int M.cmp_isNaN_int;simp
 unfold M.cL
 refine Wp.seq (λp=>0<=p/\p<=(l.length:Int)) ?_ λp hp=>?_
 .refine Wp.loop (λs=>∃a b:Nat,s=((a:Int),(b:Int))/\a<=b/\b<=l.length) (λs=>(s.2-s.1).toNat) ⟨0,l.length,rfl,by omega,by omega⟩ (by dsimp only;unfold aV;omega) ?_
  rintro s ⟨a,b,rfl,h1,h2⟩
  dsimp only
  refine .dec (λh=>?_) λh=> .some ⟨by omega,by omega⟩
  have hm:(a+b)/2<l.length:=by omega
  rw[Pw (by omega)]
  refine Wp.seq (λj=>∃a' b':Nat,j=((a':Int),(b':Int))/\a'<=b'/\b'<=l.length/\b'-a'<b-a) ?_ λj hj=>?_
  .rw[aF hm,aiD,WQ,aiD]
   refine .dec (λg=> .some ⟨(a+b)/2+1,b,?_,by omega,h2,by omega⟩) λg=> .some ⟨a,(a+b)/2,rfl,by omega,by omega,by omega⟩
   rw[cN (m:=l.length) (by omega) hm]
  .obtain⟨a',b',rfl,g1,g2,g3⟩:=hj;exact .some ⟨⟨a',b',rfl,g1,g2⟩,by dsimp only;omega⟩
 .refine Wp.seq (λr=>0<=r.1/\r.1<=(l.length:Int)) ?_ λr hr=> .some hr
  refine .dec (λh=>?_) λ_=> .some hp
  obtain⟨q,rfl⟩:=aiI hp.1;refine .bind (.idx q rfl (by omega) (.dec (λ_=> .some hp) λ_=> .bind (.idx q rfl (by omega) ?_)));unfold M.jO;exact .bind (.some (.ite (λh=>absurd h (by simp)) λ_=> .some hp))
def uz(r:Ty)(D:List Int)(hD:D.length<=100000):Wp (M.jP aV r D) λp=>p.length<=D.length+1:=by
 unfold M.jP
 refine Wp.seq _ (zN D _ (by omega)) λy hy=>Wp.seq (λj=>j.2.length<=D.length) ?_ λj hj=> .bind (.app (by simp;omega) (.some (by simp;omega)))
 obtain⟨⟨y0,y1⟩,y2⟩:(0<=y.1/\y.1<=(D.length:Int))/\True:=⟨hy,trivial⟩
 refine Wp.loop (λs=>∃a:Nat,s.1=(a:Int)/\a<=D.length/\s.2.2.length<=a) (λs=>((D.length:Int)-s.1).toNat) ?_ (by dsimp only;unfold aV;omega) ?_
 .obtain⟨a,ha⟩:=aiI y0;exact⟨a,ha,by omega,by simp⟩
 rintro⟨c,q,o⟩ ⟨a,rfl,h1,h2⟩
 dsimp only at h1 h2⊢
 refine Wp.seq (λj=>j=af->a<D.length) (.dec (λh=> .bind (.idx a rfl (by omega) (.some λ_=>by omega))) λ_=> .some λh=>by cases h) λj hj=>?_
 refine .ite (λh=>?_) λ_=> .some (show o.length<=D.length by omega)
 have aH:=hj h;refine .bind (.idx a rfl aH (.bind (.app (by simp;omega) (.bind (.idx a rfl aH (.some ⟨⟨a+1,aT (by omega),by omega,by simp;omega⟩,?_⟩))))));dsimp only;rw[aT (by omega)];omega
end L
namespace L
def Tc(N:Nat)(q r d:Int)(neg:Bool)(m:Int):Wp (M.cU N q r d neg m) λx=>x=q\/x=aiH.wrap (q+1):=by
 unfold M.cU
 refine .dec (λ_=> .some (.inl rfl)) λ_=>Wp.seq (λ_=>True) ?_ λj _=>Wp.seq (λx=>x=q\/x=aiH.wrap (q+1)) (.ite (λ_=> .some (.inr rfl)) λ_=> .some (.inl rfl)) λx hx=> .some hx
 repeat' first|exact .some trivial|refine .dec (λ_=>?_) λ_=>?_
def qx{n:Int}(h0:0<=n)(h1:n<=9223372036854775807):aiH.wrap n=n:=by
 simp[IntKind.wrap,IntKind.bits,IntKind.signed];omega
def Px{a b m:Int}(hm:0<=m/\m<=5):Wp (M.dj aV a b m) λr=>r.2=0->r.1<=4611686018427387905:=by
 unfold M.dj;rw[P.lP];simp only[aiD,P.o4];rw[ai (by simp;omega)]
 refine Wp.dec (λ_=> .some λh=>by cases h) λhb=>?_
 refine Wp.seq (λj=>j=ag->(-4611686018427387904<=a/\a<=4611686018427387904)/\(-4611686018427387904<=b/\b<=4611686018427387904)) ?_ λj hj=>?_
 .refine .ite (λ_=> .some λh=>by cases h) λh1=> .some λh2=>⟨P.iy (by omega) h1,P.iy (by omega) (by simpa using h2)⟩
 refine .ite (λ_=> .some λh=>by cases h) λhc=>?_
 obtain⟨ha,pX⟩:=hj (by simpa using hc);rw[P.iu aV ha,P.iu aV pX];simp only[aiD]
 obtain⟨A,hA,N3⟩:∃A:Int,A=(if a<0 then-a else a)/\0<=A/\A<=4611686018427387904:=⟨_,rfl,by split<;>omega⟩
 obtain⟨B,hB,hB'⟩:∃B:Int,B=(if b<0 then-b else b)/\0<B:=⟨_,rfl,by split<;>omega⟩
 rw[<-hA,<-hB];rw[show xV A B=aa (aiQ A B)from ai (by omega),show Er A B=aa (ajd A B)from ai (by omega)];simp only[aiD];have q0:0<=aiQ A B:=Int.tdiv_nonneg N3.1 (by omega)
 have q1:aiQ A B<=A:=by rw[Int.tdiv_eq_ediv_of_nonneg N3.1];exact Int.ediv_le_self _ N3.1
 generalize aiQ A B=q at*;generalize ajd A B=r;rw[qx q0 (by omega)]
 refine Wp.seq _ (Tc _ _ _ _ _ _) λx hx=>?_
 rw[qx (n:=q+1) (by omega) (by omega)]at hx;unfold M.jK;rw[aX (n:=x) (by omega) (by omega),aX (n:=0-x) (by omega) (by omega)]
 refine Wp.seq (λy=>y<=4611686018427387905) (.ite (λ_=> .some (by omega)) λ_=> .some (by omega)) λy hy=> .some λ_=>hy
def DW{α:Type}{g:Nat->Option α}{n:Nat}{vs:List α}(h:xw g n=aa vs):vs.length=n:=qA h
def Ga(l:Lw)(h:Hh)(d r:Int):(xx l h d r).2.2.2.length<=8:=by
 unfold xx;split
 .exact ai6 _
 split
 .exact ai6 _
 split
 case h_2=>exact ai6 _
 unfold Hv;split
 .exact ai6 _
 split
 .exact ai6 _
 split
 .exact ai6 _
 rename_i ms Ox;have:=DW Ox;have:=xy h d r
 show ms.length<=8
 omega
def Hx(c:Int):Prop:=0<=c/\c<=4611686018427387905
def zO{l:Lw}(hw:WF bV l)(gv:ei l){h:Hh}{aN:Cf}(hm:(0:Int)<=aN.2.1/\(aN.2.1:Int)<=5)(hh:(Qw l h).2=0)(hf:h.2.2.2.length<=1000)(Ps:List Ty)(hP:Ps.length<=1000000)(r:Int):Wp (M.jN aV l h aN Ps r) λy=>y.2=0->Hx y.1:=by
 obtain⟨s,hsc,hs,_⟩:=qB hh;unfold M.jN;refine .join (Wp.count (λs=>s.2.2) Ps.length (λ_ _=>True) (by omega) rfl trivial λk q hk hq _=>?_);obtain⟨a,b,c⟩:=q;dsimp only at hq;subst hq
 refine .dec (λaH=>?_) λ_=> .some ?_
 .have aH:k<Ps.length:=by dsimp only at aH;omega
  refine .bind (.idx k rfl aH ?_);rw[MT l h _ r hw gv (by omega),aiD];have c8:=Ga l h Ps[k].1 r;obtain⟨c1,_,c3⟩:=DS gv h Ps[k].1 r;generalize xx l h Ps[k].1 r=cs at*
  refine .fD (λg=> .some λq=>absurd q g) λ_=>?_
  rw[show(h.2.1:Int)=(s:Int)from hsc]
  refine Wp.seq _ (DL hw gv hs (cs.1,(cs.2.2.1,cs.2.2.2)) c1 c8 c3 aN.1) λy _=>?_
  exact .fD (λg=> .some λq=>absurd q g) λ_=> .some ⟨aH,aT (by omega),trivial⟩
 .refine Wp.seq _ (Px hm) λy hy=> .fD (λg=> .some λq=>absurd q g) λh0=> .some λ_=>?_
  have:=hy h0;unfold Hx;dsimp only
  split<;>omega
noncomputable def aw(l:Lw)(h:Hh)(aN:Cf)(r m:Int):aE.den:=(M.fm aV l h aN m r).getD (m,((0:Int),(0:Int)))
structure Acc(l:Lw)(h:Hh)(aN:Cf):Prop where
 wf:WF bV l
 sm:ei l
 ok:Valid l
 md:(0:Int)<=aN.2.1/\(aN.2.1:Int)<=5
 hh:(Qw l h).2=0
 hf:h.2.2.2.length<=1000
 vc:M.cR aV l h.2.1 aN=aa 0
def Acc.ac{l:Lw}{h:Hh}{aN:Cf}(H:Acc l h aN):M.gJ aV l h aN=aa af:=by
 unfold M.gJ;rw[H.vc,aiD,ai (by decide),Bq,aiD,H.hh];rfl
def Acc.month{l:Lw}{h:Hh}{aN:Cf}(H:Acc l h aN)(r m:Int):Wp (M.fm aV l h aN m r) λa=>(a.1:Int)=m/\((a.2.2:Int)=0->Hx a.2.1):=by
 unfold M.fm
 refine Wp.seq _ (zJ m) λy _=> .fD (λ_=> .some ⟨rfl,λg=>by cases g⟩) λ_=>?_
 rw[H.ac,aiD,F9 H.sm H.ok h H.hf,aiD];have hl:=DV H.sm H.ok H.hf r
 refine .ite (λg=>by cases g) λ_=>Wp.seq _ (uz y.1 _ (by omega)) λp hp=>Wp.seq _ (zO H.wf H.sm H.md H.hh H.hf p (by omega) r) λz hz=> .some ⟨rfl,hz⟩
def Acc.WR{l:Lw}{h:Hh}{aN:Cf}(H:Acc l h aN)(r m:Int):M.fm aV l h aN m r=aa (aw l h aN r m):=((H.month r m).getD _).1
def Acc.MY{l:Lw}{h:Hh}{aN:Cf}(H:Acc l h aN)(r m:Int):((aw l h aN r m).1:Int)=m/\(((aw l h aN r m).2.2:Int)=0->Hx (aw l h aN r m).2.1):=((H.month r m).getD _).2
def Acc.pH{l:Lw}{h:Hh}{aN:Cf}(H:Acc l h aN){f t r:Int}(h0:0<=f)(h1:f<=t)(h2:t<=3600)(h3:t-f<=120):M.kL aV l h aN f t r=aa ((ajp (t-f).toNat).map λi:Nat=>aw l h aN r (f+i)):=by
 unfold M.kL;refine Wp.eq (Wp.seq (λj=>j=ag) ?_ λj hj=>?_)
 .refine .dec (λg=>by omega) λ_=> .dec (λg=>by omega) λ_=> .dec (λg=>by omega) λ_=> .some (au ?_)
  rw[aX (by omega) (by omega)];omega
 subst hj
 refine .ite (λg=>by cases g) λ_=>?_
 rw[aX (n:=t-f) (by omega) (by omega)];unfold Tt;rw[aj (by omega),aiD,H.ac,aiD,aj rfl,F9 H.sm H.ok h H.hf,aiD,aiD];have hl:=DV H.sm H.ok H.hf r
 refine Wp.count (λs=>s.1-f) (t-f).toNat (λk s=>s.2=(ajp k).map λi:Nat=>aw l h aN r (f+i)) (by omega) (by dsimp only;omega) rfl λk s hk hs hJ=>?_
 obtain⟨c,o⟩:=s;dsimp only at hs hJ
 obtain rfl:c=f+(k:Int):=by omega
 subst hJ
 refine .dec (λaH=>?_) λhge=>?_
 .have aH:k<(t-f).toNat:=by dsimp only at aH;omega
  refine Wp.seq (λj=>j=aw l h aN r (f+k)) ?_ λj hj=>?_
  .have e:=H.WR r (f+k);unfold M.fm at e;obtain⟨y,hy,_⟩:=zJ (f+k);dsimp only;rw[hy,aiD]at e⊢;rw[H.ac,aiD,F9 H.sm H.ok h H.hf,aiD]at e
   refine .fD (λg=>?_) λg=>?_
   .rw[aj (by simpa using g)]at e;exact .some (aiF e)
   .rw[ai (by simpa using g),ai (by decide)]at e;obtain⟨p,hp,_⟩:=uz y.1 (MX l h.2.2.2 r) (by omega);rw[aj rfl];rw[hp,aiD]at e⊢;obtain⟨z,hz,_⟩:=zO H.wf H.sm H.md H.hh H.hf p (by have:=(uz y.1 (MX l h.2.2.2 r) (by omega));obtain⟨p',Hy,hq⟩:=this;rw[hp]at Hy;obtain rfl:=aiF Hy;omega) r;rw[hz,aiD]at e⊢;exact .some (aiF e)
  .subst hj;refine .bind (.app (by simp;omega) (.some ⟨aH,?_,?_⟩))
   .dsimp only;rw[aX (by omega) (by omega)];omega
   .dsimp only;rw[List.range_succ,List.map_append];rfl
 .have:k=(t-f).toNat:=by dsimp only at hge;omega
  subst this;exact .some rfl
end L
end Go.Proofs.YtleifhfeahnocaaGreatDoor
