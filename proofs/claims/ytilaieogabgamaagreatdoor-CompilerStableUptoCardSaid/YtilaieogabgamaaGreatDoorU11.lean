/- Joined texts: PT2 PT3 PX PX3 PX5 PS PM PX6 PY PX7. -/
import Derived.Test.YtilaieogabgamaaGreatDoorU10
section
open _root_.Int renaming tdiv->ajo,tdiv_eq_ediv_of_nonneg->aj1,tmod->ajL
open _root_.Go.IntKind renaming i64->ai3
open _root_.Nat renaming zero_le->ajt
open _root_.Option renaming bind_some->ai2
namespace Go.Proofs.YtilaieogabgamaaGreatDoor
open Go Go.RowKit
set_option maxRecDepth 100000
namespace L.P
def Cd(c:Int):Prop:=c=0\/c=3\/c=12
theorem zK{c:Prop}[Decidable c]{x y:Int×Int}(hx:Cd x.2)(hy:Cd y.2):Cd (if c then x else y).2:=by
 split
 .exact hx
 .exact hy
theorem IK(x:Int):Cd (x,(0:Int)).2:= .inl rfl
theorem Cd3(x:Int):Cd (x,(3:Int)).2:= .inr (.inl rfl)
theorem km{n l:Int}(hl:0<=l/\l<=9000000000000000000)(h:¬(decide (l<n)||decide (n<ai3.wrap (0-l)))=true): -l<=n/\n<=l:=by
 rw[aV (by omega) (by omega)]at h;simp at h;omega
theorem OM(N:Nat)(a b c:Int)(d:Bool)(e:Int):Wp (M.dM N a b c d e) fun _=>True:=by
 unfold M.dM;simp only[aL,ai2];exact .some trivial
theorem yj(N:Nat)(a:Int)(b:Bool):Wp (M.jV N a b) fun _=>True:=by
 unfold M.jV;simp only[aL];exact .some trivial
theorem mO(N:Nat){a b m:Int}(hm:0<=m/\m<=5):Wp (M.eJ N a b m) fun r=>Cd r.2:=by
 unfold M.eJ;rw[lL];simp only[ai2,pM];rw[if_neg (by simp;omega)]
 refine Wp.dec (fun _=> .some (by simp[Cd])) fun hb=>?_
 simp only[aL,ai2,oT]
 refine Wp.ite (fun _=> .some (by simp[Cd])) fun hc=>?_
 rw[Bool.or_eq_true,not_or]at hc;have ha:=km (by omega) hc.1;have p5:=km (by omega) hc.2;rw[kl N ha,kl N p5];simp only[ai2]
 have bN:(if b<0 then-b else b)≠0:=by split<;>omega
 rw[show∀x,yF x (if b<0 then-b else b)=some (ajo x (if b<0 then-b else b))from fun x=>if_neg bN,show∀x,GG x (if b<0 then-b else b)=some (ajL x (if b<0 then-b else b))from fun x=>if_neg bN];simp only[ai2]
 exact Wp.seq _ (OM ..) fun x _=>Wp.seq _ (yj ..) fun y _=> .some (by simp[Cd])
theorem rK(N:Nat)(a b:Int):Wp (M.dV N a b) fun r=>(0<=r.1/\r.1<18446744073709551616)/\0<=r.2/\r.2<18446744073709551616:=by
 unfold M.dV;exact .some ⟨k7 _,k7 _⟩
theorem vS{hi lo y:Int}(h0:0<=hi)(h1:hi<y)(h2:y<18446744073709551616):Wp (M.dm aC hi lo y) fun _=>True:=by
 obtain⟨r,hr⟩:=HQ (lo:=lo) h0 h1 h2;exact⟨r,hr,trivial⟩
theorem HR{a b c m:Int}(hm:0<=m/\m<=5):Wp (M.lI aC a b c m) fun r=>Cd r.2:=by
 unfold M.lI;rw[lL];simp only[ai2,pM];rw[if_neg (by simp;omega)]
 refine Wp.dec (fun _=> .some (by simp[Cd])) fun hb=>?_
 simp only[aL,ai2,oT]
 refine Wp.ite (fun _=> .some (by simp[Cd])) fun hc=>?_
 simp only[Bool.or_eq_true,not_or]at hc;have ha:=km (n:=a) (l:=1000000000000000) (by omega) (by simpa using hc.1);have p5:=km (n:=b) (l:=1000000000) (by omega) (by simpa using hc.2.1);have Vi:=km (n:=c) (l:=1000000000) (by omega) (by simpa using hc.2.2);rw[kl _ (n:=a) (by omega),kl _ (n:=b) (by omega)];simp only[ai2]
 refine Wp.seq _ (rK ..) fun r hr=>?_
 rw[kl _ (n:=c) (by omega)];simp only[ai2]
 refine Wp.dec (fun _=> .some (by simp[Cd])) fun hd=>?_
 have al:(if c<0 then-c else c)<18446744073709551616:=by split<;>omega
 refine Wp.seq _ (vS hr.1.1 (by omega) al) fun q _=>?_
 refine Wp.dec (fun _=> .some (by simp[Cd])) fun _=>?_
 refine Wp.seq _ (OM ..) fun x _=>?_
 refine Wp.dec (fun _=> .some (by simp[Cd])) fun _=>?_
 exact Wp.seq _ (yj ..) fun y _=> .some (by simp[Cd])
theorem Ea{a b m:Int}(hm:0<=m/\m<=5):Wp (M.kZ aC a b m) fun r=>Cd r.2:=by
 unfold M.kZ;rw[lL];simp only[ai2,pM];rw[if_neg (by simp;omega)]
 refine Wp.dec (fun _=> .some (by simp[Cd])) fun hb=>?_
 simp only[aL,ai2,oT]
 refine Wp.ite (fun _=> .some (by simp[Cd])) fun hc=>?_
 refine Wp.seq _ (mO _ hm) fun r hr=>?_
 refine .some ?_;split
 .exact hr
 .split<;>simp[Cd]
theorem yk(N:Nat)(m:Int):M.jY N m=some (decide (0<=m)&&decide (m<=5)):=lL N m
theorem vT(N:Nat)(n l:Int):M.ic N n l=some (decide (l<n)||decide (n<ai3.wrap (0-l))):=pM N n l
theorem Nk{a b m:Int}(hm:0<=m/\m<=5):Wp (M.rH aC a b m) fun r=>Cd r.2:=by
 unfold M.rH;rw[yk];simp only[ai2,vT];rw[if_neg (by simp;omega)];simp only[aL,ai2,oT]
 refine Wp.ite (fun _=> .some (by simp[Cd])) fun hc=>?_
 refine Wp.seq _ (mO _ hm) fun r hr=>?_
 refine .some ?_;split
 .exact hr
 .split<;>simp[Cd]
theorem HS{a b m:Int}(hm:0<=m/\m<=5):Wp (M.n5 aC a b m) fun r=>Cd r.2:=by
 unfold M.n5
 exact Wp.seq _ (HR hm) fun r hr=> .some hr
theorem BT(N:Nat)(a b c:Int)(d:Bool)(e:Int):Wp (M.k6 N a b c d e) fun _=>True:=by
 unfold M.k6;simp only[aL,ai2];exact .some trivial
theorem zL{a b m:Int}(hm:0<=m/\m<=5):Wp (M.jZ aC a b m) fun r=>Cd r.2:=by
 unfold M.jZ;rw[yk];simp only[ai2,vT];rw[if_neg (by simp;omega)]
 refine Wp.dec (fun _=> .some (by simp[Cd])) fun hb=>?_
 simp only[aL,ai2,oT]
 refine Wp.ite (fun _=> .some (by simp[Cd])) fun hc=>?_
 refine Wp.seq _ (rK ..) fun r hr=>?_
 refine Wp.dec (fun _=> .some (by simp[Cd])) fun hd=>?_
 refine Wp.seq _ (vS hr.1.1 (by omega) (k7 _).2) fun q _=>?_
 refine Wp.dec (fun _=> .some (by simp[Cd])) fun _=>?_
 refine Wp.seq _ (Wp.bind (Wp.mono (BT ..) fun x _=>?_)) fun j7(_:True)=>?_
 .exact .some trivial
 .exact .some (by split<;>simp[Cd])
theorem tQ(N:Nat)(r:aa.den)(d:Int):Wp (M.bn N r d) fun _=>True:=by
 unfold M.bn M.dT;simp only[aL,ai2];exact .some trivial
theorem uh(a b:Int):Wp (M.ga aC a b) fun _=>True:=by
 unfold M.ga;simp only[aL,ai2]
 refine Wp.seq _ (rK ..) fun r hr=>?_
 refine Wp.dec (fun _=> .some trivial) fun hd=>?_
 refine Wp.seq _ (vS hr.1.1 (by omega) (by omega)) fun q _=>?_
 exact .some trivial
theorem BU(N:Nat){a b m:Int}(hm:0<=m/\m<=5):Wp (M.hZ N a b m) fun r=>Cd r.2:=by
 unfold M.hZ;simp only[aL,ai2]
 refine Wp.ite (fun _=> .some (by simp[Cd])) fun hc=>?_
 refine Wp.seq _ (mO _ hm) fun r hr=>?_
 exact .some (zK hr (zK (Cd3 _) (IK _)))
theorem BV{t:ax.den}{d k m:Int}(hm:0<=m/\m<=5)(hk:t.2.1=((3,0):Int×Int))(hv:t.2.2.1=((4,0):Int×Int))(hl:t.2.2.2.length<=9223372036854775807):Wp (M.jW aC t d k m) fun r=>Cd r.2:=by
 unfold M.jW;simp only[aL,ai2,oT];rw[if_neg (by simp;omega),if_neg (by rw[hk,hv];simp[nh])]
 refine Wp.ite (fun _=> .some (by simp[Cd])) fun hc=>?_
 refine Wp.join (Wp.loop (fun s:Int×Int×Int=>∃i:Nat,s.2.2=i/\i<=t.2.2.2.length) (fun s=>(t.2.2.2.length-s.2.2).toNat) ⟨0,rfl,ajt _⟩ (by simp only;unfold aC;omega) ?_)
 rintro⟨s1,s2,s3⟩ ⟨i,hi,Ak⟩
 simp only at hi;subst hi
 refine Wp.dec (fun h=>?_) fun h=> .some ?_
 .have gv:i<t.2.2.2.length:=by simp only at h;omega
  refine Wp.join ?_;simp only;rw[ag gv];simp only[ai2]
  refine Wp.seq (fun _=>True) ?_ fun j8 _=>?_
  .refine Wp.seq _ (tQ ..) fun y _=>?_
   exact .some trivial
  have nxt:∀a b:Int,tP (fun j6:Int×Int=>some (Sum.inl (j6.1,j6.2,ai3.wrap ((i:Int)+1)))) (BP (fun s:Int×Int×Int=>∃i:Nat,s.2.2=i/\i<=t.2.2.2.length) (fun s=>(t.2.2.2.length-s.2.2).toNat) (s1,s2,(i:Int)) (tP (fun j4:Int×Int=>(M.hZ aC j4.1 j4.2 m).bind fun qh=>some (qh.1,qh.2)) fun r:Int×Int=>Cd r.2)) (.inl (a,b)):=by
   intro a b;refine .some ?_;rw[aK (by omega)];exact⟨⟨i+1,rfl,gv⟩,by simp only;omega⟩
  refine Wp.ite (fun _=> .some (nxt _ _)) fun _=>?_
  refine Wp.seq _ (uh ..) fun y _=>?_
  refine .some ?_;split
  .show Cd _
   simp[Cd]
  .exact nxt _ _
 .show Wp _ _
  exact Wp.seq _ (BU _ hm) fun r hr=> .some hr
theorem KO(l:List dy.den)(a b:Int)(hl:l.length<=9223372036854775807):Wp (M.cM aC l a b) fun r=>r.2.1=true->0<=r.1/\r.1<l.length:=by
 unfold M.cM;refine Wp.loop (fun s:Int×Int×Int=>∃i:Nat,s.1=i/\i<=l.length) (fun s=>(l.length-s.1).toNat) ⟨0,rfl,ajt _⟩ (by simp only;unfold aC;omega) ?_
 rintro⟨s1,s2,s3⟩ ⟨i,hi,Ak⟩
 simp only at hi;subst hi
 refine Wp.dec (fun h=>?_) fun h=> .some fun h=>by cases h
 have gv:i<l.length:=by simp only at h;omega
 simp only;rw[ag gv];simp only[ai2]
 refine Wp.seq (fun _=>True) ?_ fun y _=>?_
 .unfold M.ji
  refine Wp.seq (fun _=>True) (Wp.seq _ (tQ ..) fun y _=>?_) fun j _=> .some trivial
  simp only[aL];exact .some trivial
 .refine Wp.ite (fun _=> .some fun _=>⟨by simp only;omega,by simp only;omega⟩) fun _=> .some ?_
  rw[aK (by omega)];exact⟨⟨i+1,rfl,gv⟩,by simp only;omega⟩
theorem HT(t:ax.den)(a b:Int)(hl:t.2.2.2.length<=9223372036854775807):Wp (M.lG aC t a b) fun r=>r.2=true->0<=r.1/\r.1<t.2.2.2.length:=by
 unfold M.lG
 exact Wp.seq _ (KO _ a b hl) fun r hr=> .some hr
theorem pO(N:Nat)(d:Int):M.jk N d=some (decide (0<=d)&&decide (d<=109572)):=by
 unfold M.jk;simp only[aL,ai2,nI]
theorem ko(N:Nat)(y m:Int):Wp (M.dA N y m) fun r=>0<=r/\r<=31:=by
 unfold M.dA M.oR;simp only[aL,ai2,oT,nI]
 refine Wp.ite (fun _=> .some (by omega)) fun hc=>?_
 refine Wp.ite (fun _=> .some (by omega)) fun _=>?_
 have hm:1<=m/\m<=12:=by simp at hc;omega
 rw[aV (by omega) (by omega)]
 have:m=1\/m=2\/m=3\/m=4\/m=5\/m=6\/m=7\/m=8\/m=9\/m=10\/m=11\/m=12:=by omega
 rcases this with rfl|rfl|rfl|rfl|rfl|rfl|rfl|rfl|rfl|rfl|rfl|rfl<;>exact⟨_,rfl,by decide⟩
theorem oc(N:Nat)(y:Int):Wp (M.eK N y) fun _=>True:=by
 unfold M.eK M.jX;simp only[ai2];exact .some trivial
theorem rL(d:Int):Wp (M.jm aC d) fun _=>True:=by
 unfold M.jm;rw[pO];simp only[ai2]
 refine Wp.ite (fun _=> .some trivial) fun hv=>?_
 have hd:0<=d/\d<=109572:=by simpa using hv
 have h0:ajo d 366=d/366:=aj1 hd.1;have hw:ai3.wrap (d/366)=d/366:=aV (by omega) (by omega);have hw2:ai3.wrap (1900+d/366)=1900+d/366:=aV (by omega) (by omega);rw[h0,hw,hw2]
 refine Wp.seq (fun _=>True) (Wp.loop (fun y:Int=>1900<=y/\y<=2199) (fun y=>(2199-y).toNat) (by omega) (by unfold aC;omega) ?_) fun y _=>?_
 .rintro y ⟨h1,h2⟩
  by_cases hy:y=2199
  .subst hy
   have e:M.eK aC (ai3.wrap ((2199:Int)+1))=some 109573:=by show(_:Option Int)=_;kernel_rfl
   rw[e];simp only[ai2];rw[if_neg (by simp;omega)];exact .some trivial
  .refine Wp.seq _ (oc ..) fun z _=>?_
   refine Wp.dec (fun _=> .some ?_) fun _=> .some trivial
   rw[aV (by omega) (by omega)];exact⟨by omega,by simp only;omega⟩
 .refine Wp.seq _ (oc ..) fun z _=>?_
  refine Wp.loop (fun s:Int×Int=>∃i:Nat,s.2=i/\i<=12) (fun s=>(12-s.2).toNat) ⟨0,rfl,by omega⟩ (by simp only;unfold aC;omega) ?_
  rintro⟨a,b⟩ ⟨i,hi,Ak⟩
  simp only at hi;subst hi
  refine Wp.dec (fun h=>?_) fun _=> .some trivial
  refine Wp.seq _ (ko ..) fun w _=>?_
  refine Wp.dec (fun _=> .some trivial) fun _=> .some ?_
  simp only at h⊢;rw[aK (by omega)];exact⟨⟨i+1,rfl,by omega⟩,by simp only;omega⟩
theorem Eb(y m d:Int):Wp (M.lJ aC y m d) fun r=>Cd r.2:=by
 unfold M.lJ
 refine Wp.seq (fun j=>j=false->1<=m/\m<=12) ?_ fun j hj=>?_
 .refine Wp.dec (fun _=> .some (fun h=>by cases h)) fun _=>Wp.dec (fun _=> .some (fun h=>by cases h)) fun _=>Wp.dec (fun _=> .some (fun h=>by cases h)) fun h1=>Wp.dec (fun _=> .some (fun h=>by cases h)) fun h2=>Wp.dec (fun _=> .some (fun h=>by cases h)) fun _=>?_
  exact Wp.seq _ (ko ..) fun w _=> .some fun _=>⟨by omega,by omega⟩
 .refine Wp.ite (fun _=> .some (by simp[Cd])) fun hc=>?_
  have hm:=hj (by simpa using hc)
  refine Wp.seq _ (oc ..) fun z _=>?_
  refine Wp.seq (fun _=>True) (Wp.loop (fun s:Int×Int=>∃i:Nat,s.2=i/\i<=12) (fun s=>(13-s.2).toNat) ⟨0,rfl,by omega⟩ (by simp only;unfold aC;omega) ?_) fun w _=> .some (by simp[Cd])
  rintro⟨a,b⟩ ⟨i,hi,Ak⟩
  simp only at hi;subst hi
  refine Wp.dec (fun h=>?_) fun _=> .some trivial
  refine Wp.seq _ (ko ..) fun w _=> .some ?_
  simp only at h⊢;rw[aV (n:=m-1) (by omega) (by omega)]at h;rw[aK (by omega)];exact⟨⟨i+1,rfl,by omega⟩,by simp only;omega⟩
theorem rM(d n:Int):Wp (M.ie aC d n) fun r=>Cd r.2:=by
 unfold M.ie;rw[pO];simp only[aL,ai2,oT]
 refine Wp.ite (fun _=> .some (by simp[Cd])) fun hc=>?_
 refine Wp.seq _ (rL ..) fun y _=>?_
 refine Wp.ite (fun _=> .some (by simp[Cd])) fun _=>?_
 refine Wp.seq _ (ko ..) fun w _=>?_
 exact Wp.seq _ (Eb ..) fun r hr=> .some hr
theorem ui(a b:Int):Wp (M.gC aC a b) fun _=>True:=by
 unfold M.gC;rw[pO,pO];simp only[aL,ai2,oT]
 refine Wp.ite (fun _=> .some trivial) fun _=>?_
 refine Wp.seq _ (rL ..) fun y _=>Wp.seq _ (rL ..) fun z _=>?_
 refine Wp.seq (fun _=>True) (Wp.seq _ (rM ..) fun r _=>?_) fun j _=> .some trivial
 exact .some trivial
end L.P
end Go.Proofs.YtilaieogabgamaaGreatDoor
end
section
open _root_.Bool renaming and_eq_true->akm
open _root_.Int renaming le_refl->aki,tdiv->ajo,tdiv_eq_ediv_of_nonneg->aj1,tmod->ajL
open _root_.Go.IntKind renaming i64->ai3
open _root_.List renaming getElem_mem->ajc,mem_append->ajs,mem_singleton->ajj
open _root_.Nat renaming zero_le->ajt
open _root_.Option renaming bind_some->ai2,some->akP
open _root_.Option.some renaming inj->ai4
namespace Go.Proofs.YtilaieogabgamaaGreatDoor
open Go Go.RowKit
set_option maxRecDepth 100000
namespace L.P
theorem rN(x a b:Int):(if decide (x=a)=true then some (decide (x=a))else some (decide (x=b)))=some (decide (x=a\/x=b)):=by
 by_cases h:x=a<;>simp[h]
theorem xk(x a b c:Int):(if decide (x=a)=true then some (decide (x=a))else(if decide (x=b)=true then some (decide (x=b))else some (decide (x=c))))=some (decide (x=a\/x=b\/x=c)):=by
 rw[rN]
 by_cases h:x=a<;>simp[h]
theorem KP(x a b c d:Int):(if decide (x=a)=true then some (decide (x=a))else(if decide (x=b)=true then some (decide (x=b))else(if decide (x=c)=true then some (decide (x=c))else some (decide (x=d)))))=some (decide (x=a\/x=b\/x=c\/x=d)):=by
 rw[xk]
 by_cases h:x=a<;>simp[h]
theorem QX(x a b c d e:Int):(if decide (x=a)=true then some (decide (x=a))else(if decide (x=b)=true then some (decide (x=b))else(if decide (x=c)=true then some (decide (x=c))else(if decide (x=d)=true then some (decide (x=d))else some (decide (x=e))))))=some (decide (x=a\/x=b\/x=c\/x=d\/x=e)):=by
 rw[KP]
 by_cases h:x=a<;>simp[h]
theorem Wp.eX{α:Type}{l:List α}{i:Int}{Q:α->Prop}(h0:0<=i)(h1:i<l.length)(h:∀x,x∈l->idx l i=akP x->Q x):Wp (idx l i) Q:=by
 obtain⟨k,rfl⟩:∃k:Nat,i=k:=⟨i.toNat,by omega⟩
 have hk:k<l.length:=by omega
 exact⟨_,ag hk,h _ (ajc hk) (ag hk)⟩
def ar(op:Int):Int:=
 if(1<=op/\op<=9)\/(35<=op/\op<=39)then 0 else if op=10\/op=25\/(31<=op/\op<=34)then 1 else if(11<=op/\op<=24)\/(27<=op/\op<=30)then 2 else if op=26 then 3 else-1
theorem ec(N:Nat)(op:Int):M.cV N op=some (ar op):=by
 by_cases h:1<=op/\op<=39
 .have:op=1\/op=2\/op=3\/op=4\/op=5\/op=6\/op=7\/op=8\/op=9\/op=10\/op=11\/op=12\/op=13\/op=14\/op=15\/op=16\/op=17\/op=18\/op=19\/op=20\/op=21\/op=22\/op=23\/op=24\/op=25\/op=26\/op=27\/op=28\/op=29\/op=30\/op=31\/op=32\/op=33\/op=34\/op=35\/op=36\/op=37\/op=38\/op=39:=by omega
  rcases this with rfl|rfl|rfl|rfl|rfl|rfl|rfl|rfl|rfl|rfl|rfl|rfl|rfl|rfl|rfl|rfl|rfl|rfl|rfl|rfl|rfl|rfl|rfl|rfl|rfl|rfl|rfl|rfl|rfl|rfl|rfl|rfl|rfl|rfl|rfl|rfl|rfl|rfl|rfl<;>(show(_:Option Int)=_;kernel_rfl)
 .have ha:ar op= -1:=by unfold ar;rw[if_neg (by omega),if_neg (by omega),if_neg (by omega),if_neg (by omega)]
  rw[ha]
  have ne:∀k:Int,1<=k->k<=39->decide (op=k)=false:=fun k h1 h2=>by simp;omega
  unfold M.cV;simp[ne]
theorem lg(op:Int):ar op<=3:=by unfold ar;split<;>(try split)<;>(try split)<;>(try split)<;>omega
def oW(env:eo.den):Prop:=env.2.2.2.1.length<=100/\∀t∈env.2.2.2.2.2,t.2.2.2.length<=9223372036854775807
def Fm(op m:Int):Prop:=0<=ar op/\(op=14\/op=15\/op=16->0<=m/\m<=5)/\(op=34->0<=m/\ajL m 8<=5)/\(op=6->0<=m)
theorem KQ(N:Nat)(op:Int):Wp (M.fo N op) fun _=>True:=by
 unfold M.fo;simp only[aL,ai2];exact .some trivial
theorem sY(N:Nat)(op m:Int):Wp (M.eZ N (op,m)) fun b=>b=true->Fm op m:=by
 unfold M.eZ;simp only[ec,ai2]
 refine Wp.seq (fun j=>j=false->0<=ar op) ?_ fun j hj=>?_
 .refine Wp.dec (fun _=> .some fun h=>by cases h) fun h=>?_
  refine Wp.mY (fun _=>Wp.seq _ (KQ ..) fun y _=> .some fun _=>by omega) fun _=> .some fun _=>by omega
 .refine Wp.ite (fun _=> .some fun h=>by cases h) fun hc=>?_
  have ha:=hj (by simpa using hc);rw[xk];simp only[ai2,aL,nI]
  refine .some fun hb=>?_
  unfold Fm;by_cases h1:op=14\/op=15\/op=16
  .rw[if_pos (by simpa using h1)]at hb;simp at hb;exact⟨ha,fun _=>hb,fun e=>by omega,fun e=>by omega⟩
  .rw[if_neg (by simpa using h1)]at hb;by_cases h2:op=34
   .rw[if_pos (by simpa using h2)]at hb;simp at hb;exact⟨ha,fun e=>absurd e h1,fun _=>hb,fun e=>by omega⟩
   .rw[if_neg (by simpa using h2)]at hb;by_cases h3:op=6
    .rw[if_pos (by simpa using h3)]at hb;simp at hb;exact⟨ha,fun e=>absurd e h1,fun e=>absurd e h2,fun _=>hb⟩
    .exact⟨ha,fun e=>absurd e h1,fun e=>absurd e h2,fun e=>absurd e h3⟩
def Vp(op m:Int)(env:eo.den):Prop:=
 (op=7->0<=m/\m<env.2.1.length)/\(op=8->0<=m/\m<env.2.2.1.length)/\(op=33->0<=m/\m<env.2.2.2.2.2.length)/\(op=34->ai3.wrap (ajo m 8)<env.2.2.2.2.2.length)/\(op=36\/op=37\/op=38\/op=39->0<=m/\m<env.2.2.2.2.1.length)
theorem yl(N:Nat)(op m:Int)(env:eo.den):Wp (M.fh N (op,m) env) fun b=>b=true->Vp op m env:=by
 unfold M.fh Vp;simp only
 refine Wp.dec (fun h=>?_) fun h7=>?_
 .subst h;simp only[aL,ai2,nI]
  exact .some fun hb=>⟨fun _=>by simpa using hb,fun e=>by omega,fun e=>by omega,fun e=>by omega,fun e=>by omega⟩
 refine Wp.dec (fun h=>?_) fun h8=>?_
 .subst h
  refine Wp.seq (fun j=>j=true->0<=m/\m<env.2.2.1.length) ?_ fun j hj=> .some fun hb=>⟨fun e=>by omega,fun _=>hj hb,fun e=>by omega,fun e=>by omega,fun e=>by omega⟩
  refine Wp.dec (fun h0=>Wp.dec (fun h1=>Wp.bind (Wp.eX h0 h1 fun x _ _=> .some fun _=>⟨h0,h1⟩)) fun _=> .some fun h=>by cases h) fun _=> .some fun h=>by cases h
 refine Wp.dec (fun h=>?_) fun L4=>?_
 .subst h;simp only[aL,ai2,nI]
  exact .some fun hb=>⟨fun e=>by omega,fun e=>by omega,fun _=>by simpa using hb,fun e=>by omega,fun e=>by omega⟩
 refine Wp.dec (fun h=>?_) fun tR=>?_
 .subst h
  exact .some fun hb=>⟨fun e=>by omega,fun e=>by omega,fun e=>by omega,fun _=>by simpa using hb,fun e=>by omega⟩
 rw[KP];simp only[ai2]
 refine Wp.dec (fun h=>?_) fun QY=> .some fun _=>⟨fun e=>absurd e h7,fun e=>absurd e h8,fun e=>absurd e L4,fun e=>absurd e tR,fun e=>absurd e QY⟩
 simp only[aL,ai2,nI]
 exact .some fun hb=>⟨fun e=>absurd e h7,fun e=>absurd e h8,fun e=>absurd e L4,fun e=>absurd e tR,fun _=>by simpa using hb⟩
theorem BW{N:Nat}(l:List Vl)(hl:l.length<=100000)(hN:100001<=N):Wp (M.dS N l) fun b=>b=true->∀v∈l,du v.1 v.2.1 v.2.2:=by
 unfold M.dS;refine Wp.loop (fun s:Int=>∃i:Nat,s=i/\i<=l.length/\∀v∈l.take i,du v.1 v.2.1 v.2.2) (fun s=>(l.length-s).toNat) ⟨0,rfl,ajt _,by simp⟩ (by omega) ?_
 rintro _ ⟨i,rfl,hi,hp⟩
 refine Wp.dec (fun h=>?_) fun h=> .some fun _=>?_
 .have gv:i<l.length:=by omega
  rw[ag gv];simp only[ai2,fk]
  refine Wp.mY (fun _=> .some fun h=>by cases h) fun hq=> .some ?_
  rw[aK (by omega)];refine⟨⟨i+1,rfl,gv,fun v hv=>?_⟩,by simp only;omega⟩;rw[List.take_succ_eq_append_getElem gv]at hv
  rcases ajs.1 hv with hv|hv
  .exact hp v hv
  .rw[ajj.1 hv];exact hq
 .rw[List.take_of_length_le (by omega)]at hp;exact hp
theorem BX(N:Nat)(a b:Vl):Wp (M.ei N a b) fun _=>True:=by
 unfold M.ei;simp only[aL,ai2];exact .some trivial
theorem QZ(N:Nat)(a b:Int):Wp (M.gB N a b) fun _=>True:=by
 unfold M.gB;simp only[oU,aL,ai2];exact .some trivial
theorem Nl(N:Nat)(op:Int)(a b:Vl):Wp (M.fY N op a b) fun _=>True:=by
 unfold M.fY M.ei;simp only[oU,aL,ai2];exact .some trivial
def Ux(op m:Int)(env:eo.den):Prop:=
 (op=34->∀t,idx env.2.2.2.2.2 (ai3.wrap (ajo m 8))=some t->t.2.1=((3,0):Int×Int)/\t.2.2.1=((4,0):Int×Int))/\(op=36\/op=37\/op=38\/op=39->∀t,idx env.2.2.2.2.1 m=some t->Ut op t)
theorem vU{N:Nat}{op m:Int}{args:List Vl}{env:eo.den}(hx:Vp op m env)(ha:(args.length:Int)=ar op)(tR:op=34->0<=ai3.wrap (ajo m 8)):Wp (M.fZ N (op,m) args env) fun b=>b=true->Ux op m env:=by
 obtain⟨x7,x8,L1,TF,x36⟩:=hx;unfold M.fZ Ux;dsimp only[ae,Row.den]
 have no:∀{b:Bool},¬op=34->¬(op=36\/op=37\/op=38\/op=39)->b=true->(op=34->∀t,idx env.2.2.2.2.2 (ai3.wrap (ajo m 8))=some t->t.2.1=((3,0):Int×Int)/\t.2.2.1=((4,0):Int×Int))/\(op=36\/op=37\/op=38\/op=39->∀t,idx env.2.2.2.2.1 m=some t->Ut op t):=fun h1 h2 _=>⟨fun e=>absurd e h1,fun e=>absurd e h2⟩
 refine Wp.dec (fun h=>?_) fun h7=>?_
 .obtain⟨a,b⟩:=x7 h;exact Wp.bind (Wp.eX a b fun x _ _=>by rw[fk];exact .some (no (by omega) (by omega)))
 refine Wp.dec (fun h=>?_) fun h8=>?_
 .obtain⟨a,b⟩:=x8 h;exact Wp.bind (Wp.eX a b fun x _ _=>by rw[fk];exact .some (no (by omega) (by omega)))
 have agJ:1<=ar op->0<args.length:=fun h=>by omega
 refine Wp.dec (fun h=>?_) fun L4=>?_
 .obtain⟨a,b⟩:=L1 h
  have h1:ar op=1:=by rw[h];decide
  refine Wp.bind (Wp.eX a b fun x _ _=>?_)
  refine Wp.seq (fun _=>True) ?_ fun j _=> .some (no (by omega) (by omega))
  refine Wp.bind (Wp.eX (aki 0) (by omega) fun y _ _=>?_);rw[vO];simp only[ai2,aL];exact .some trivial
 refine Wp.dec (fun h=>?_) fun Uy=>?_
 .have b:=TF h
  have h1:ar op=1:=by rw[h];decide
  refine Wp.bind (Wp.eX (tR h) b fun x _ Uz=>?_)
  refine Wp.seq (fun j=>j=true->x.2.1=((3,0):Int×Int)/\x.2.2.1=((4,0):Int×Int)) ?_ fun j hj=> .some fun hb=>⟨fun _ t ht=>?_,fun e=>by omega⟩
  .refine Wp.bind (Wp.eX (aki 0) (by omega) fun y _ _=>?_);simp only[aL,nI]
   refine .some fun hb=>?_
   simp only[akm,nh,decide_eq_true_eq]at hb;exact⟨hb.2.1,hb.2.2⟩
  .rw[Uz]at ht;obtain rfl:=ai4 ht;exact hj hb
 rw[KP];simp only[ai2]
 refine Wp.dec (fun h=>?_) fun QY=>?_
 .obtain⟨a,b⟩:=x36 h;refine Wp.bind (Wp.eX a b fun x _ Uz=>?_);rw[sX]
  refine .some fun hb=>⟨fun e=>absurd e Uy,fun _ t ht=>?_⟩
  rw[Uz]at ht;obtain rfl:=ai4 ht;simpa using hb
 have Vq:∀b:Bool,b=true->_:=fun b=>no (b:=b) Uy QY
 refine Wp.dec (fun h=>?_) fun _=>?_
 .refine Wp.bind (Wp.eX (aki 0) (by omega) fun y _ _=>?_)
  exact Wp.seq _ (QZ ..) fun b _=> .some (Vq b)
 refine Wp.dec (fun h=>?_) fun _=>?_
 .refine Wp.bind (Wp.eX (aki 0) (by omega) fun y _ _=>?_);refine Wp.bind (Wp.eX (by omega) (by omega) fun z _ _=>?_)
  exact Wp.seq _ (Nl ..) fun b _=> .some (Vq b)
 refine Wp.dec (fun h=>?_) fun _=> .some (Vq _)
 refine Wp.seq (fun _=>True) ?_ fun b _=> .some (Vq b)
 refine Wp.bind (Wp.eX (aki 0) (by omega) fun y _ _=>?_)
 refine Wp.dec (fun _=>?_) fun _=> .some trivial
 refine Wp.bind (Wp.eX (by omega) (by omega) fun z _ _=>?_);refine Wp.bind (Wp.eX (by omega) (by omega) fun z' _ _=>?_)
 exact Wp.seq _ (BX ..) fun b _=> .some trivial
def Ce(c:Int):Prop:=c=0\/c=3\/c=12\/c=6\/c=8
theorem Cd.e{c:Int}(h:Cd c):Ce c:=by unfold Cd at h;unfold Ce;omega
theorem BY{op:Int}{t:Ty}{j:Nat}:{ms:List (List Vl)}->{first:Bool}->{acc c:Int}->oV op t j ms first acc= .inr c->c=3\/c=6\/c=8
 |[],_,_,_,h=>by cases h
 |l::ms,first,acc,c,h=>by
  rw[oV]at h;split at h
  .cases h;exact .inr (.inl rfl)
  .split at h
   .cases h;exact .inr (.inl rfl)
   .split at h
    .split at h
     .exact BY h
     .cases h;exact .inl rfl
    .cases h;exact .inr (.inr rfl)
theorem Nn(op:Int)(t:Ty)(j:Nat)(ms:List (List Vl)):Ce (Ng op t j ms).2:=by
 unfold Ng;split
 .unfold Ce;omega
 .split
  .unfold Ce;omega
  .rename_i c hc;have:=BY hc
   show Ce c
   unfold Ce;omega
theorem kq(N:Nat)(b:Bool):Wp (M.dW N b) fun _=>True:=by
 unfold M.dW;simp only[aL];exact .some trivial
theorem KR(op:Int)(a:Vl):Wp (M.n4 aC op a) fun _=>True:=by
 unfold M.n4
 refine Wp.dec (fun _=> .some trivial) fun _=>?_
 refine Wp.dec (fun _=>Wp.seq _ (kq ..) fun _ _=> .some trivial) fun _=>?_
 refine Wp.seq _ (rL ..) fun y _=>?_
 simp only[aL];exact .some trivial
theorem Ec(N:Nat)(a b:Int):Wp (M.lH N a b) fun r=>Cd r.2:=by
 unfold M.lH
 refine Wp.seq _ (rK ..) fun r _=>?_
 simp only[aL,ai2];exact .some (zK (Cd3 _) (zK (IK _) (IK _)))
theorem HU{op m:Int}{a b:Vl}(hm:op=14\/op=15\/op=16->0<=m/\m<=5)(iK:13<=op/\op<=16):Wp (M.mG aC (op,m) a b) fun r=>Cd r.2:=by
 unfold M.mG;dsimp only[ae,Row.den]
 refine Wp.seq (fun j=>Cd j.1) ?_ fun j hj=> .some hj
 refine Wp.dec (fun _=>Wp.seq _ (Ec ..) fun r hr=> .some hr) fun PP=>?_
 have IF:=hm (by omega);simp only[aL,ai2,nI]
 refine Wp.ite (fun _=>Wp.seq _ (HS IF) fun r hr=> .some hr) fun _=>?_
 refine Wp.dec (fun _=>Wp.seq _ (Nk IF) fun r hr=> .some hr) fun _=>?_
 refine Wp.dec (fun _=>Wp.seq _ (Ea IF) fun r hr=> .some hr) fun _=>?_
 refine Wp.dec (fun _=>Wp.seq _ (mO _ IF) fun r hr=> .some hr) fun _=>?_
 exact Wp.seq _ (zL IF) fun r hr=> .some hr
theorem HV{op m:Int}{a b:Vl}(hm:op=14\/op=15\/op=16->0<=m/\m<=5):Wp (M.mH aC (op,m) a b) fun r=>Cd r.2:=by
 unfold M.mH;dsimp only[ae,Row.den];rw[rN,KP,rN];simp only[ai2]
 refine Wp.ite (fun _=> .some (IK 0)) fun _=>?_
 refine Wp.dec (fun _=> .some (IK 0)) fun _=>?_
 refine Wp.dec (fun h=>Wp.seq _ (HU hm (by omega)) fun r hr=> .some hr) fun _=>?_
 refine Wp.dec (fun _=>?_) fun _=>?_
 .simp only[aL];exact .some (by split<;>exact IK 0)
 refine Wp.dec (fun _=>Wp.seq _ (kq ..) fun _ _=> .some (IK 0)) fun _=>?_
 refine Wp.dec (fun _=>Wp.seq _ (kq ..) fun _ _=> .some (IK 0)) fun _=>?_
 refine Wp.dec (fun _=>Wp.seq _ (kq ..) fun _ _=> .some (IK 0)) fun _=>?_
 refine Wp.dec (fun _=>Wp.seq _ (kq ..) fun _ _=> .some (IK 0)) fun _=>?_
 refine Wp.dec (fun _=>Wp.seq (fun j=>j.1=0) (Wp.dec (fun _=>Wp.seq _ (kq ..) fun _ _=> .some rfl) fun _=>Wp.seq _ (kq ..) fun _ _=> .some rfl) fun j hj=> .some (.inl hj)) fun _=>?_
 refine Wp.dec (fun _=>Wp.seq (fun j=>j.1=0) (Wp.dec (fun _=>Wp.seq _ (kq ..) fun _ _=> .some rfl) fun _=>Wp.seq _ (kq ..) fun _ _=> .some rfl) fun j hj=> .some (.inl hj)) fun _=>?_
 refine Wp.dec (fun _=>Wp.seq _ (rM ..) fun r hr=> .some hr) fun _=>?_
 refine Wp.dec (fun _=> .some (IK 0)) fun _=>?_
 exact Wp.seq _ (ui ..) fun r _=> .some (IK 0)
theorem vV{op m:Int}{args:List Vl}{env:eo.den}(he:oW env)(hf:Fm op m)(hx:Vp op m env)(ha:(args.length:Int)=ar op)(UA:Ux op m env)(tR:op=34->0<=ai3.wrap (ajo m 8)):Wp (M.gf aC (op,m) args env) fun r=>Ce r.2:=by
 obtain⟨x7,x8,L1,TF,x36⟩:=hx;obtain⟨f0,f14,f34,_⟩:=hf;obtain⟨w34,w36⟩:=UA;have L5:Ce 0:= .inl rfl;unfold M.gf;dsimp only[ae,Row.den];rw[QX,KP];simp only[ai2]
 refine Wp.dec (fun _=> .some L5) fun _=>?_
 refine Wp.dec (fun _=> .some L5) fun _=>?_
 refine Wp.dec (fun h=>Wp.bind (Wp.eX (x7 h).1 (x7 h).2 fun x _ _=> .some L5)) fun _=>?_
 refine Wp.dec (fun h=>Wp.bind (Wp.eX (x8 h).1 (x8 h).2 fun x _ _=> .some L5)) fun _=>?_
 refine Wp.dec (fun _=> .some L5) fun _=>?_
 refine Wp.dec (fun _=> .some L5) fun _=>?_
 refine Wp.dec (fun h=>?_) fun _=>?_
 .obtain⟨a,b⟩:=x36 h
  obtain⟨j,rfl⟩:∃j:Nat,m=j:=⟨m.toNat,by omega⟩
  have hj:j<env.2.2.2.2.1.length:=by omega
  rw[vQ (by unfold aC;omega) h hj he.1 (w36 h _ (ag hj))];exact .some (Nn ..)
 refine Wp.dec (fun h=>?_) fun _=>?_
 .have h1:ar op=1:=by rw[h];decide
  refine Wp.bind (Wp.eX (L1 h).1 (L1 h).2 fun x hx _=>?_);refine Wp.bind (Wp.eX (aki 0) (by omega) fun y _ _=>?_)
  refine Wp.seq _ (HT _ _ _ (he.2 x hx)) fun r hr=>?_
  refine Wp.ite (fun _=> .some (by unfold Ce;omega)) fun hc=>?_
  obtain⟨a,b⟩:=hr (by simpa using hc);exact Wp.bind (Wp.eX a b fun z _ _=> .some L5)
 refine Wp.dec (fun h=>?_) fun _=>?_
 .have h1:ar op=1:=by rw[h];decide
  refine Wp.bind (Wp.eX (tR h) (TF h) fun x hx Uz=>?_);refine Wp.bind (Wp.eX (aki 0) (by omega) fun y _ _=>?_);obtain⟨k1,k2⟩:=w34 h x Uz;obtain⟨m1,m2⟩:=f34 h
  have:0<=ajL m 8:=by rw[Int.tmod_eq_emod_of_nonneg m1];omega
  exact Wp.seq _ (BV ⟨this,m2⟩ k1 k2 (he.2 x hx)) fun r hr=> .some hr.e
 refine Wp.dec (fun h=>?_) fun _=>?_
 .refine Wp.bind (Wp.eX (aki 0) (by omega) fun y _ _=>?_)
  exact Wp.seq _ (KR ..) fun r _=> .some L5
 refine Wp.dec (fun h=>?_) fun _=>?_
 .refine Wp.bind (Wp.eX (aki 0) (by omega) fun y _ _=>?_);refine Wp.bind (Wp.eX (by omega) (by omega) fun z _ _=>?_)
  exact Wp.seq _ (HV f14) fun r hr=> .some hr.e
 have h3:ar op=3:=by
  have:¬ar op=0:=by unfold ar;split<;>(try split)<;>(try split)<;>(try split)<;>omega
  have:=lg op;omega
 refine Wp.bind (Wp.eX (aki 0) (by omega) fun y _ _=>?_)
 refine Wp.dec (fun _=>Wp.bind (Wp.eX (by omega) (by omega) fun z _ _=> .some L5)) fun _=>Wp.bind (Wp.eX (by omega) (by omega) fun z _ _=> .some L5)
structure No(r:Vl×Int):Prop where
 ok:r.2=0->du r.1.1 r.1.2.1 r.1.2.2
 bad:r.2≠0->r.1=((0,0,0):Int×Int×Int)
 code:r.2=0\/r.2=2\/r.2=3\/r.2=6\/r.2=8\/r.2=12
theorem vW{n:Ty}{args:List Vl}{env:eo.den}(he:oW env)(hn:WF aa n)(hl:args.length<=100000):Wp (M.cH aC n args env) No:=by
 obtain⟨op,m⟩:=n;have hm:=hn.2;unfold M.cH
 have err:∀c:Int,c≠0->(c=2\/c=3\/c=6\/c=8\/c=12)->No (((0:Int),((0:Int),(0:Int))),c):=fun c h1 h2=>⟨fun h=>absurd h h1,fun _=>rfl, .inr h2⟩
 refine Wp.seq (fun j=>j=false->Fm op m/\(args.length:Int)=ar op) ?_ fun j hj=>?_
 .refine Wp.seq _ (sY ..) fun y hy=>?_
  refine Wp.ite (fun _=> .some fun h=>by cases h) fun hc=>?_
  rw[ec]
  exact .some fun h=>⟨hy (by simpa using hc),by simpa using h⟩
 refine Wp.ite (fun _=> .some (err 2 (by decide) (by omega))) fun hc=>?_
 obtain⟨hf,ha⟩:=hj (by simpa using hc)
 refine Wp.seq _ (yl ..) fun y hy=>?_
 refine Wp.ite (fun _=> .some (err 6 (by decide) (by omega))) fun uo=>?_
 have hx:=hy (by simpa using uo)
 have tR:op=34->0<=ai3.wrap (ajo m 8):=fun e=>by
  have h0:=(hf.2.2.1 e).1;have h1:(m:Int)<=9223372036854775807:=hm.2;rw[aj1 h0];dsimp only[ae,Row.den]at h0 h1⊢;rw[aV (by omega) (by omega)];omega
 refine Wp.seq (fun j=>j=false->Ux op m env) ?_ fun j5 hj5=>?_
 .refine Wp.seq _ (BW _ hl (by unfold aC;omega)) fun y _=>?_
  refine Wp.ite (fun _=> .some fun h=>by cases h) fun _=>?_
  exact Wp.seq _ (vU hx ha tR) fun z hz=> .some fun h=>hz (by simpa using h)
 refine Wp.ite (fun _=> .some (err 8 (by decide) (by omega))) fun JH=>?_
 have UA:=hj5 (by simpa using JH)
 refine Wp.seq _ (vV he hf hx ha UA tR) fun r hr=>?_
 refine Wp.mY (fun h=> .some (err _ h (by unfold Ce at hr;omega))) fun _=>?_
 rw[fk];simp only[ai2]
 refine Wp.mY (fun _=> .some (err 3 (by decide) (by omega))) fun hp=> .some ⟨fun _=>hp,fun h=>absurd rfl h, .inl rfl⟩
end L.P
end Go.Proofs.YtilaieogabgamaaGreatDoor
end
section
open _root_.Int renaming toNat_natCast->aja
open _root_.Go.IntKind renaming i64->ai3
open _root_.List renaming append_nil->ajW,drop_eq_getElem_cons->ajK,getD->ajD,getElem?_append_left->ajA,getElem?_append_right->ajN,getElem?_drop->ajp,getElem?_eq_getElem->ai5,getElem?_eq_some_iff->ai7,getElem?_map->aj2,getElem_append_left->ajf,getElem_append_right->ajn,getElem_mem->ajc,length_append->ai6,length_map->ajG,length_singleton->ajh,mem_append->ajs,mem_singleton->ajj,replicate->ai9,replicate_succ->aj9,set_append_right->ajU,take_append_of_le_length->ajy,take_length->aju
open _root_.Nat renaming le_of_lt->akE,le_refl->ai8
open _root_.Option renaming bind_some->ai2,getD_some->ajP
open _root_.Option.some renaming inj->ai4
namespace Go.Proofs.YtilaieogabgamaaGreatDoor
open Go Go.RowKit
set_option maxRecDepth 100000
namespace L.P
abbrev dC(l:List Nat):List Int:=l.map (fun n:Nat=>(n:Int))
def lQ(a:Int)(i:Nat)(sk:List Nat):Nat:=if a=0 then i else sk.getD (sk.length-a.toNat) 0
def jq:List Ty->Nat->List Nat->List Nat->(Nat×Int)⊕(List Nat×List Nat)
 |[],_,st,sk=> .inr (st,sk)
 |n::e,i,st,sk=>
  if ar n.1<0 then .inl (i,2)else if(sk.length:Int)<ar n.1 then .inl (i,5)else
  if 12<sk.length-(ar n.1).toNat+1 then .inl (i,16)else jq e (i+1) (st++[lQ (ar n.1) i sk]) (sk.take (sk.length-(ar n.1).toNat)++[lQ (ar n.1) i sk])
def pW(e:List Ty):Int×Int×List Int:=
 if 48<e.length then(0,4,[])else if e.length=0 then(0,5,[])else match jq e 0 [] []with
  | .inl (i,c)=>(i,c,[])
  | .inr (st,sk)=>if 1<sk.length then(e.length,4,[])else(0,0,dC st)
theorem zM(st:List Nat)(m:Nat)(v:Nat):aT (dC st++ai9 (m+1) (0:Int)) (st.length:Int) (v:Int)=dC (st++[v])++ai9 m (0:Int):=by
 unfold aT;rw[aja,ajU _ _ (by simp),aj9];simp
theorem sZ(st:List Nat)(m:Nat)(u v:Nat):aT (dC (st++[u])++ai9 m (0:Int)) (st.length:Int) (v:Int)=dC (st++[v])++ai9 m (0:Int):=by
 unfold aT;rw[aja,List.set_append_left _ _ (by simp)]
 congr 1
 simp only[dC,List.map_append];rw[ajU _ _ (by simp)];simp
theorem od(e:List Ty):M.eF aC e=some (pW e):=by
 apply Wp.eq;unfold M.eF pW
 refine Wp.dec (fun h=> .some ?_) fun h1=>?_
 .rw[if_pos (by omega)]
 rw[if_neg (show¬48<e.length by omega)]
 refine Wp.dec (fun h=> .some ?_) fun h2=>?_
 .rw[if_pos (show e.length=0 by omega)]
 rw[if_neg (show¬e.length=0 by omega)]
 have wK:mV (e.length:Int) (0:Int)=some (ai9 e.length 0):=by
  unfold mV;rw[if_pos (by omega),aja]
 rw[wK];simp only[ai2];refine Wp.join (Wp.loop (fun s:Int×List Int×List Int=>∃st sk:List Nat,s=((st.length:Int),dC st++ai9 (e.length-st.length) 0,dC sk)/\st.length<=e.length/\sk.length<=12/\jq (e.drop st.length) st.length st sk=jq e 0 [] []) (fun s=>(e.length-s.1).toNat) ⟨[],[],by simp,by simp,by simp,by simp⟩ (by simp only;unfold aC;omega) ?_)
 rintro _ ⟨st,sk,rfl,eB,hsk,bx⟩
 simp only
 refine Wp.dec (fun hk=>?_) fun hk=> .some ?_
 case refine_2=>
  have hd:e.drop st.length=[]:=List.drop_of_length_le (by omega);rw[hd]at bx;rw[<-bx]
  have h0:e.length-st.length=0:=by omega
  rw[h0];simp only[jq,List.replicate_zero,ajW]
  show Wp _ _
  refine Wp.dec (fun h=> .some ?_) fun h=> .some ?_
  .rw[if_pos (by simp at h;omega)]
  .rw[if_neg (by simp at h;omega)]
 have dO:st.length<e.length:=by omega
 have hd:e.drop st.length=e[st.length]::e.drop (st.length+1):=ajK dO
 obtain⟨m,hm⟩:∃m,e.length-st.length=m+1:=⟨e.length-st.length-1,by omega⟩
 rw[hd]at bx;rw[ag dO,hm];simp only[ai2,ec];generalize iK:(e[st.length].1:Int)=op;rw[jq]at bx;rw[iK]at bx;have KS:=lg op
 refine Wp.dec (fun h=> .some ?_) fun Ed=>?_
 .rw[if_pos h]at bx
  show _=_
  rw[<-bx]
 rw[if_neg Ed]at bx
 refine Wp.dec (fun h=> .some ?_) fun hlen=>?_
 .rw[if_pos (by simpa using h)]at bx
  show _=_
  rw[<-bx]
 have hlen:¬(sk.length:Int)<ar op:=by simpa using hlen
 rw[if_neg hlen]at bx
 obtain⟨a,ha⟩:∃a:Nat,ar op=a:=⟨(ar op).toNat,by omega⟩
 rw[ha]at bx Ed hlen KS⊢
 have abm:a<=sk.length:=by omega
 have e6:idx (dC st++ai9 (m+1) (0:Int)) (st.length:Int)=some 0:=by
  rw[ag (by simp)];rw[ajn (by simp)];simp
 rw[e6]
 have hw:ai3.wrap (((dC sk).length:Int)-(a:Int))=((sk.length-a:Nat):Int):=by
  rw[ajG,aV (by omega) (by omega)];omega
 have hs:lQ (a:Int) st.length sk=(if a=0 then st.length else sk.getD (sk.length-a) 0):=by
  unfold lQ;by_cases h0:a=0
  .subst h0;simp
  .rw[if_neg (by omega),if_neg h0,aja]
 simp only[ai2,zM,hw];refine Wp.seq (· =dC (st++[lQ (a:Int) st.length sk])++ai9 m (0:Int)) ?_ ?_
 .refine Wp.dec (fun h=>?_) fun h=>?_
  .have al:sk.length-a<(dC sk).length:=by simp;omega
   rw[ag al]
   have e9:idx (dC (st++[st.length])++ai9 m (0:Int)) (st.length:Int)=some (st.length:Int):=by
    rw[ag (by simp)];rw[ajf (by simp)];simp
   simp only[ai2,e9,List.getElem_map,sZ];refine .some ?_;rw[hs,if_neg (by omega),show sk.getD (sk.length-a) 0=sk[sk.length-a]'(by simpa using al) by simp[ajD,show sk.length-a<sk.length by omega]]
  .refine .some ?_;rw[hs,if_pos (by omega)]
 .rintro _ rfl
  generalize lQ (a:Int) st.length sk=s at bx⊢
  have wP:eR (dC sk) (0:Int) ((sk.length-a:Nat):Int)=some (dC (sk.take (sk.length-a))):=by
   rw[kQ (by simp)];simp
  have e11:idx (dC (st++[s])++ai9 m (0:Int)) (st.length:Int)=some (s:Int):=by
   rw[ag (by simp)];rw[ajf (by simp)];simp
  have Q0:bR (dC (sk.take (sk.length-a))) [(s:Int)]=some (dC (sk.take (sk.length-a)++[s])):=by
   rw[bD (by simp;omega)];simp
  rw[wP];simp only[ai2,e11,Q0]
  have hl:(dC (sk.take (sk.length-a)++[s])).length=sk.length-a+1:=by simp
  rw[hl];rw[aja]at bx
  refine Wp.dec (fun h=> .some ?_) fun h=> .some ?_
  .rw[if_pos (by omega)]at bx
   show _=_
   rw[<-bx]
  .rw[if_neg (by omega)]at bx;rw[aK (by omega)];refine⟨⟨st++[s],sk.take (sk.length-a)++[s],?_,by simp;omega,by simp;omega,?_⟩,by simp only;omega⟩
   .have:e.length-(st++[s]).length=m:=by simp;omega
    rw[this];simp
   .rw[ai6];exact bx
inductive Ch(st:List Nat):Nat->List Nat->Prop
 |nil:Ch st 0 []
 |snoc {i s:Nat} {l:List Nat} (h:st[i]? =some s) (hs:s<=i) (c:Ch st s l):Ch st (i+1) (l++[s])
theorem Ch.mono{st bU:List Nat}(hs:∀i s:Nat,st[i]? =some s->bU[i]? =some s){i:Nat}{l:List Nat}(h:Ch st i l):Ch bU i l:=by
 induction h with
 |nil=>exact .nil
 |snoc h1 h2 _ ih=>exact .snoc (hs _ _ h1) h2 ih
theorem rO{st:List Nat}{x i s:Nat}(h:st[i]? =some s):(st++[x])[i]? =some s:=by
 obtain⟨hi,_⟩:=ai7.1 h;rw[ajA hi,h]
theorem Ch.lt{st:List Nat}{i:Nat}{l:List Nat}(h:Ch st i l):∀x∈l,x<i:=by
 induction h with
 |nil=>simp
 |snoc h1 h2 _ ih=>
  intro x hx
  rcases ajs.1 hx with hx|hx
  .have:=ih x hx;omega
  .rw[ajj.1 hx];omega
theorem Ch.take{st:List Nat}{i:Nat}{l:List Nat}(h:Ch st i l):∀m(hm:m<l.length),Ch st l[m] (l.take m):=by
 induction h with
 |nil=>intro m hm;simp at hm
 | @snoc i s l h1 h2 c ih=>
   intro m hm;by_cases GR:m<l.length
   .rw[ajf GR,ajy (by omega)];exact ih m GR
   .have:m=l.length:=by simp at hm;omega
    subst this;rw[ajn (by omega),ajy (by omega),aju];simpa using c
theorem Ch.Np{st:List Nat}{i:Nat}{l l':List Nat}(h:Ch st i l)(h':Ch st i l'):l=l':=by
 induction h generalizing l' with
 |nil=>cases h' with
  |nil=>rfl
 | @snoc i s l h1 h2 c ih=>
   cases h' with
   |snoc g1 g2 c'=>
    rw[h1]at g1;obtain rfl:=ai4 g1;rw[ih c']
theorem Ch.pos{st:List Nat}{i:Nat}{l:List Nat}(h:Ch st i l)(hi:0<i):l≠[]:=by
 cases h with
 |nil=>omega
 |snoc=>simp
structure xl(e:List Ty)(st:List Nat):Prop where
 len:st.length=e.length
 node:∀p(h:p<e.length),0<=ar e[p].1/\∃l,Ch st p l/\(ar e[p].1).toNat<=l.length/\l.length-(ar e[p].1).toNat+1<=12/\st[p]? =some (lQ (ar e[p].1) p l)
theorem xl.nil:xl [] []:=⟨rfl,fun p h=>by simp at h⟩
theorem xl.snoc{e:List Ty}{st:List Nat}(v:xl e st){n:Ty}{sk:List Nat}(h0:0<=ar n.1)(hc:Ch st e.length sk)(ha:(ar n.1).toNat<=sk.length)(hd:sk.length-(ar n.1).toNat+1<=12):xl (e++[n]) (st++[lQ (ar n.1) e.length sk]):=by
 refine⟨by simp[v.len],fun p hp=>?_⟩;by_cases h:p<e.length
 .rw[ajf h];obtain⟨h1,l,h2,h3,h4,h5⟩:=v.node p h;exact⟨h1,l,h2.mono fun _ _ h=>rO h,h3,h4,rO h5⟩
 .have:p=e.length:=by simp at hp;omega
  subst this;rw[ajn (by omega)];simp only[Nat.sub_self,List.getElem_cons_zero];refine⟨h0,sk,hc.mono fun _ _ h=>rO h,ha,hd,?_⟩;rw[<-v.len,ajN (by omega)];simp[v.len]
theorem zN{a:Int}{i:Nat}{st l:List Nat}(h0:0<=a)(hc:Ch st i l)(ha:a.toNat<=l.length):lQ a i l<=i:=by
 unfold lQ;split
 .exact ai8 _
 .have al:l.length-a.toNat<l.length:=by omega
  simp only[ajD,ai5 al,ajP];exact akE (hc.lt _ (ajc al))
theorem Ch.next{st l:List Nat}{i:Nat}{a:Int}(h0:0<=a)(hc:Ch st i l)(ha:a.toNat<=l.length)(hs:st[i]? =some (lQ a i l)):Ch st (i+1) (l.take (l.length-a.toNat)++[lQ a i l]):=by
 refine .snoc hs (zN h0 hc ha) ?_;unfold lQ;by_cases h:a=0
 .rw[if_pos h];subst h;simpa using hc
 .have al:l.length-a.toNat<l.length:=by omega
  rw[if_neg h];simp only[ajD,ai5 al,ajP];exact hc.take _ al
theorem BZ:∀(L6 pre:List Ty)(st sk bU KT:List Nat),xl pre st->Ch st pre.length sk->jq L6 pre.length st sk= .inr (bU,KT)->xl (pre++L6) bU/\Ch bU (pre++L6).length KT
 |[],pre,st,sk,bU,KT,v,c,h=>by
  rw[jq]at h;cases h;rw[ajW];exact⟨v,c⟩
 |n::L6,pre,st,sk,bU,KT,v,c,h=>by
  rw[jq]at h;split at h
  .cases h
  split at h
  .cases h
  split at h
  .cases h
  rename_i h1 h2 h3
  have h0:0<=ar n.1:=by omega
  have ha:(ar n.1).toNat<=sk.length:=by omega
  have v':=v.snoc h0 c ha (by omega)
  have c1:Ch (st++[lQ (ar n.1) pre.length sk]) pre.length sk:=c.mono fun _ _ h=>rO h
  have hs:(st++[lQ (ar n.1) pre.length sk])[pre.length]? =some (lQ (ar n.1) pre.length sk):=by
   rw[<-v.len,ajN (by omega)];simp[v.len]
  have c':=c1.next h0 ha hs;have:=BZ L6 (pre++[n]) _ _ bU KT v' (by simpa using c') (by simpa using h);simpa using this
theorem B3{e:List Ty}{st:List Nat}(v:xl e st):∀(L6 pre:List Ty)(sk:List Nat),pre++L6=e->Ch st pre.length sk->∃KT,jq L6 pre.length (st.take pre.length) sk= .inr (st,KT)/\Ch st e.length KT
 |[],pre,sk,he,c=>by
  rw[ajW]at he;subst he;exact⟨sk,by rw[jq,<-v.len,aju],c⟩
 |n::L6,pre,sk,he,c=>by
  subst he;obtain⟨h0,l,h1,h2,h3,h4⟩:=v.node pre.length (by simp);rw[ajn (by omega)]at h0 h2 h3 h4;simp only[Nat.sub_self,List.getElem_cons_zero]at h0 h2 h3 h4;obtain rfl:=h1.Np c;rw[jq,if_neg (by omega),if_neg (by omega),if_neg (by omega)];have c':=c.next h0 h2 h4;obtain⟨KT,g1,g2⟩:=B3 v L6 (pre++[n]) _ (by simp) (by simpa using c');refine⟨KT,?_,g2⟩;rw[<-g1]
  have:(st.take pre.length++[lQ (ar n.1) pre.length l])=st.take (pre++[n]).length:=by
   obtain⟨hi,hg⟩:=ai7.1 h4;rw[ai6,ajh,List.take_succ_eq_append_getElem hi,hg]
  rw[this];simp
theorem KU{st:List Nat}{P:Nat}(IH:∀p:Nat,p<P->∀q s:Nat,st[p]? =some s->s<=q->q<=p->∃s':Nat,st[q]? =some s'/\s<=s'){i:Nat}{l:List Nat}(c:Ch st i l):i<=P->∀m(hm:m<l.length)q,l[m]<=q->q<i->∃s',st[q]? =some s'/\l[m]<=s':=by
 induction c with
 |nil=>intro _ m hm;simp at hm
 | @snoc i s l h1 h2 c ih=>
   intro hP m hm q hq hqi;by_cases hs:s<=q
   .obtain⟨s',g1,g2⟩:=IH i (by omega) q s h1 hs (by omega);refine⟨s',g1,?_⟩;by_cases GR:m<l.length
    .rw[ajf GR];have:=c.lt _ (ajc GR);omega
    .have:m=l.length:=by simp at hm;omega
     subst this;simpa using g2
   .have GR:m<l.length:=by
     by_cases GR:m<l.length
     .exact GR
     .have:m=l.length:=by simp at hm;omega
      subst this;simp at hq;omega
    rw[ajf GR]at hq⊢;exact ih (by omega) m GR q hq (by omega)
theorem xl.nest{e:List Ty}{st:List Nat}(v:xl e st):∀p q s:Nat,st[p]? =some s->s<=q->q<=p->∃s':Nat,st[q]? =some s'/\s<=s':=by
 intro p
 induction p using Nat.strongRecOn with
 |_ p IH=>
  intro q s hp hsq hqp;by_cases hq:q=p
  .subst hq;exact⟨s,hp,ai8 _⟩
  .have al:p<e.length:=by rw[<-v.len];exact(ai7.1 hp).1
   obtain⟨h0,l,h1,h2,h3,h4⟩:=v.node p al;rw[hp]at h4;have h4:=ai4 h4;unfold lQ at h4;split at h4
   .omega
   .rename_i bN
    have hm:l.length-(ar e[p].1).toNat<l.length:=by omega
    simp only[ajD,ai5 hm,ajP]at h4;have:=KU (P:=p) IH h1 (ai8 _) _ hm q (by rw[<-h4];exact hsq) (by omega);rw[<-h4]at this;exact this
def HW(st:List Nat)(s P:Nat):List Nat:=((st.take (P+1)).drop s).map (· -s)
theorem vX{st:List Nat}{s P q t:Nat}(h:st[q]? =some t)(hs:s<=q)(hq:q<=P):(HW st s P)[q-s]? =some (t-s):=by
 unfold HW;rw[aj2,ajp,show s+(q-s)=q by omega,List.getElem?_take_of_lt (by omega),h];rfl
theorem Ch.cut{e:List Ty}{st:List Nat}(v:xl e st){P s:Nat}(hP:st[P]? =some s){i:Nat}{l:List Nat}(c:Ch st i l):s<=i->i<=P+1->∃l0 l1,l=l0++l1/\Ch st s l0/\(∀x∈l1,s<=x)/\Ch (HW st s P) (i-s) (l1.map (· -s)):=by
 induction c with
 |nil=>
  intro h1 _
  obtain rfl:s=0:=by omega
  exact⟨[],[],rfl, .nil,by simp, .nil⟩
 | @snoc i t l h1 h2 c ih=>
   intro h3 h4;by_cases hs:s=i+1
   .subst hs;exact⟨l++[t],[],by simp, .snoc h1 h2 c,by simp,by simpa using .nil⟩
   .obtain⟨t',g1,g2⟩:=v.nest P i s hP (by omega) (by omega);rw[h1]at g1;obtain rfl:=ai4 g1;obtain⟨l0,l1,rfl,k1,k2,k3⟩:=ih g2 (by omega);refine⟨l0,l1++[t],by simp,k1,fun x hx=>?_,?_⟩
    .rcases ajs.1 hx with hx|hx
     .exact k2 x hx
     .rw[ajj.1 hx];exact g2
    .rw[show i+1-s=(i-s)+1 by omega,List.map_append];exact .snoc (vX h1 (by omega) (by omega)) (by simp only;omega) k3
theorem xl.cut{e:List Ty}{st:List Nat}(v:xl e st){P s:Nat}(hP:st[P]? =some s):xl ((e.take (P+1)).drop s) (HW st s P):=by
 have al:P<e.length:=by rw[<-v.len];exact(ai7.1 hP).1
 refine⟨by simp[HW,v.len],fun p hp=>?_⟩
 have hp':s+p<P+1:=by simp at hp;omega
 have Gt:((e.take (P+1)).drop s)[p]=e[s+p]:=by simp
 rw[Gt];obtain⟨h0,l,h1,h2,h3,h4⟩:=v.node (s+p) (by omega);obtain⟨l0,l1,rfl,k1,k2,k3⟩:=h1.cut v hP (by omega) (by omega);rw[Nat.add_sub_cancel_left]at k3;obtain⟨t,g1,g2⟩:=v.nest P (s+p) s hP (by omega) (by omega);have e4:=g1;rw[h4]at g1;have g1:=ai4 g1
 have Ps:(ar e[s+p].1).toNat<=l1.length:=by
  by_cases ha:ar e[s+p].1=0
  .omega
  .unfold lQ at g1;rw[if_neg ha]at g1
   have hm:(l0++l1).length-(ar e[s+p].1).toNat<(l0++l1).length:=by omega
   simp only[ajD,ai5 hm,ajP]at g1
   rcases Nat.lt_or_ge ((l0++l1).length-(ar e[s+p].1).toNat) l0.length with hc|hc
   .rw[ajf hc]at g1;have:=k1.lt _ (ajc hc);omega
   .simp at hc h2;omega
 refine⟨h0,l1.map (· -s),k3,by simpa using Ps,by simp at h3⊢;omega,?_⟩;have wP:=vX (s:=s) (P:=P) e4 (by omega) (by omega);rw[Nat.add_sub_cancel_left]at wP;rw[wP,<-g1];refine congrArg some ?_;unfold lQ;by_cases ha:ar e[s+p].1=0
 .rw[if_pos ha,if_pos ha];omega
 .rw[if_neg ha,if_neg ha]
  have hm:(l0++l1).length-(ar e[s+p].1).toNat<(l0++l1).length:=by omega
  have WH:l1.length-(ar e[s+p].1).toNat<l1.length:=by omega
  simp only[ajD,ai5 hm,ajP,ajG,aj2,ai5 WH,Option.map_some];rw[ajn (by simp;omega)]
  congr 2
  simp;omega
end L.P
end Go.Proofs.YtilaieogabgamaaGreatDoor
end
section
open _root_.List renaming getD->ajD,getElem?_eq_getElem->ai5,getElem_append_left->ajf,getElem_append_right->ajn,getElem_mem->ajc,mem_append->ajs,mem_singleton->ajj
open _root_.Nat renaming le_of_lt->akE,le_refl->ai8
namespace Go.Proofs.YtilaieogabgamaaGreatDoor
open Go Go.RowKit
namespace L.P
def opsL(st:List Nat):Nat->Nat->List Nat
 |0,_=>[]
 |a+1,i=>opsL st a (st.getD (i-1) 0)++[i-1]
theorem dw(st:List Nat):∀a i,(opsL st a i).length=a
 |0,_=>rfl
 |a+1,i=>by simp[opsL,dw st a]
theorem KV{st l:List Nat}{i:Nat}(c:Ch st i l):∀a,a<=l.length->(∀o∈opsL st a i,o<i/\(if h:l.length-a<l.length then l[l.length-a]else i)<=o/\∃s,st[o]? =some s/\s<=o/\(if h:l.length-a<l.length then l[l.length-a]else i)<=s):=by
 induction c with
 |nil=>intro a ha o ho;simp at ha;subst ha;simp[opsL]at ho
 | @snoc i s l h1 h2 c ih=>
   intro a ha o ho
   cases a with
   |zero=>simp[opsL]at ho
   |succ a=>
    have al:(l++[s]).length-(a+1)<(l++[s]).length:=by simp;omega
    rw[dif_pos al]
    have e1:(l++[s])[(l++[s]).length-(a+1)]=(if h:l.length-a<l.length then l[l.length-a]else s):=by
     split
     .rename_i h;rw[ajf (by simp;omega)]
      congr 1
      simp
     .rename_i h;rw[ajn (by simp;omega)];simp
    rw[e1]
    have hg:st.getD (i+1-1) 0=s:=by simp[ajD,h1]
    rw[opsL,hg]at ho;simp at ha
    have hle:(if h:l.length-a<l.length then l[l.length-a]else s)<=s:=by
     split
     .rename_i h;exact akE (c.lt _ (ajc h))
     .exact ai8 _
    rcases ajs.1 ho with ho|ho
    .obtain⟨g1,g2,t,g3,g4,g5⟩:=ih a ha o ho;exact⟨by omega,g2,t,g3,g4,g5⟩
    .rw[ajj.1 ho,Nat.add_sub_cancel];exact⟨by omega,by omega,s,h1,h2,hle⟩
theorem xl.ops{e:List Ty}{st:List Nat}(v:xl e st){p:Nat}(h:p<e.length):∀o∈opsL st (ar e[p].1).toNat p,o<p/\∃s t,st[o]? =some s/\s<=o/\st[p]? =some t/\t<=s:=by
 obtain⟨h0,l,h1,h2,_,h4⟩:=v.node p h;intro o ho;obtain⟨g1,g2,s,g3,g4,g5⟩:=KV h1 _ h2 o ho;refine⟨g1,s,_,g3,g4,h4,?_⟩;unfold lQ;split
 .rename_i hz;rw[hz]at ho;simp[opsL]at ho
 .have hm:l.length-(ar e[p].1).toNat<l.length:=by omega
  rw[dif_pos hm]at g5;simpa[ajD,ai5 hm]using g5
def z3:Vl:=((0,0,0):Int×Int×Int)
def cy(op:Int):Prop:=op=23\/op=24\/op=26
instance(op:Int):Decidable (cy op):=by unfold cy;infer_instance
noncomputable def oA(env:eo.den)(n:Ty)(args:List Vl):Vl×Int:=(M.cH aC n args env).getD (z3,0)
theorem KW{env:eo.den}(he:oW env){n:Ty}(hn:WF aa n){args:List Vl}(hl:args.length<=100000):No (oA env n args):=by
 obtain⟨r,hr,h⟩:=vW (n:=n) (args:=args) he hn hl;unfold oA;rw[hr];exact h
end L.P
end Go.Proofs.YtilaieogabgamaaGreatDoor
end
section
open _root_.List renaming getElem?_eq_some_iff->ai7,length_append->ai6,length_eq_zero_iff->akb,length_singleton->ajh
open _root_.Nat renaming le_refl->ai8
namespace Go.Proofs.YtilaieogabgamaaGreatDoor
open Go Go.RowKit
set_option maxRecDepth 100000
namespace L.P
structure Whole(e:List Ty)(st:List Nat):Prop where
 val:xl e st
 ne:e≠[]
 le:e.length<=48
 one:st[e.length-1]? =some 0
 res:pW e=(0,0,dC st)
theorem ym:∀(e:List Ty)(i:Nat)(st sk:List Nat)(j:Nat)(c:Int),jq e i st sk= .inl (j,c)->c=2\/c=5\/c=16
 |[],_,_,_,_,_,h=>by rw[jq]at h;cases h
 |n::e,i,st,sk,j,c,h=>by
  rw[jq]at h;split at h
  .cases h;exact .inl rfl
  split at h
  .cases h;exact .inr (.inl rfl)
  split at h
  .cases h;exact .inr (.inr rfl)
  exact ym e _ _ _ j c h
theorem Ch.Nq{st l:List Nat}{n:Nat}(h:Ch st n l)(hl:l=[]):n=0:=by
 cases h with
 |nil=>rfl
 |snoc=>simp at hl
theorem Ch.KX{st l:List Nat}{n:Nat}(h:Ch st n l)(hl:n=0):l=[]:=by
 cases h with
 |nil=>rfl
 |snoc=>omega
theorem Ch.one{st l:List Nat}{n:Nat}(h:Ch st n l)(hn:0<n):l.length<=1↔st[n-1]? =some 0:=by
 cases h with
 |nil=>omega
 | @snoc i s l h1 h2 c=>
   rw[Nat.add_sub_cancel,h1];constructor
   .intro hl;have:l=[]:=akb.1 (by rw[ai6,ajh]at hl;omega);rw[c.Nq this]
   .intro hs
    have h0:s=0:=by simpa using hs
    rw[h0]at c;rw[c.KX rfl];simp
theorem B4{e:List Ty}{st:List Nat}(v:xl e st)(bN:e≠[])(hl:e.length<=48)(h1:st[e.length-1]? =some 0):Whole e st:=by
 have nR:0<e.length:=List.length_pos_iff.2 bN;refine⟨v,bN,hl,h1,?_⟩;obtain⟨sk,g1,g2⟩:=B3 v e [] [] rfl .nil;simp only[List.length_nil,List.take_zero]at g1;unfold pW;rw[if_neg (by omega),if_neg (by omega),g1];simp only;rw[if_neg];have:=(g2.one nR).2 h1;omega
theorem Ee(e:List Ty):(pW e).2.1≠0\/∃st,Whole e st:=by
 unfold pW;split
 .left;show(4:Int)≠0;decide
 rename_i hl;split
 .left;show(5:Int)≠0;decide
 rename_i bN
 cases hs:jq e 0 [] []with
 |inl p=>
  left
  obtain⟨j,c⟩:=p
  show c≠0
  have:=ym _ _ _ _ _ _ hs;omega
 |inr p=>
  obtain⟨st,sk⟩:=p;obtain⟨v,c⟩:=BZ e [] [] [] st sk xl.nil .nil hs;simp only[List.nil_append]at v c;by_cases h1:1<sk.length
  .left
   simp only[if_pos h1];decide
  .right
   exact⟨st,B4 v (fun h=>bN (by rw[h];rfl)) (by omega) ((c.one (by omega)).1 (by omega))⟩
theorem Whole.sub{e:List Ty}{st:List Nat}(w:Whole e st){o s:Nat}(ho:st[o]? =some s)(hs:s<=o):Whole ((e.take (o+1)).drop s) (HW st s o):=by
 have al:o<e.length:=by rw[<-w.val.len];exact(ai7.1 ho).1
 have hlen:((e.take (o+1)).drop s).length=o+1-s:=by simp;omega
 have hle:=w.le;refine B4 (w.val.cut ho) (fun h=>?_) (by omega) ?_
 .rw[h]at hlen;simp at hlen;omega
 .rw[hlen,show o+1-s-1=o-s by omega,vX ho hs (ai8 _),Nat.sub_self]
end L.P
end Go.Proofs.YtilaieogabgamaaGreatDoor
end
section
namespace Go.Proofs.YtilaieogabgamaaGreatDoor
open Go Go.RowKit
set_option maxRecDepth 100000
namespace L.P
end L.P
end Go.Proofs.YtilaieogabgamaaGreatDoor
end
section
open _root_.Bool renaming false_eq_true->ajb
open _root_.Int renaming toNat_natCast->aja
open _root_.Go.IntKind renaming i64->ai3
open _root_.List renaming getD->ajD,replicate->ai9
open _root_.Nat renaming le_refl->ai8
open _root_.Option renaming bind_some->ai2
namespace Go.Proofs.YtilaieogabgamaaGreatDoor
open Go Go.RowKit
set_option maxRecDepth 100000
namespace L.P
theorem kR(N:Nat)(op:Int):M.dU N op=some (decide (50<=op/\op<=53)):=by
 unfold M.dU
 by_cases h:50<=op<;>simp[h]
theorem mi(N:Nat)(op:Int):M.cL N op=some (decide (¬cy op/\(50<=op/\op<=53\/0<=ar op))):=by
 unfold M.cL;rw[xk,kR,ec];simp only[ai2];unfold cy;by_cases h:op=23\/op=24\/op=26
 .simp[h]
 .by_cases h2:50<=op/\op<=53
  .simp[h,h2]
  .simp[h,h2]
def gd(D:List Int)(k:Nat):Int:=D.getD k (-1)
theorem gz{D:List Int}{t:Nat}(ht:t<D.length)(d:Int)(k:Nat):gd (D.set t d) k=if k=t then d else gd D k:=by
 unfold gd ajD;by_cases h:k=t
 .subst h;rw[if_pos rfl,List.getElem?_set_self ht];rfl
 .rw[if_neg h,List.getElem?_set_ne (by omega)]
theorem jr{D:List Int}{t:Nat}(ht:t<D.length):idx D (t:Int)=some (gd D t):=by
 rw[ag ht];simp[gd,ajD,ht]
def Bd(D:List Int):Prop:=∀k,-1<=gd D k/\gd D k<=12
structure Mn(D D':List Int)(i:Nat):Prop where
 len:D'.length=D.length
 keep:∀k,0<=gd D k->gd D' k=gd D k
 low:∀k,k<=i->gd D' k=gd D k
theorem Mn.refl(D:List Int)(i:Nat):Mn D D i:=⟨rfl,fun _ _=>rfl,fun _ _=>rfl⟩
theorem Mn.trans{A B C:List Int}{i:Nat}(h:Mn A B i)(h':Mn B C i):Mn A C i:=
 ⟨h'.len.trans h.len,fun k hk=>by rw[h'.keep k (by rw[h.keep k hk];exact hk),h.keep k hk],fun k hk=>by rw[h'.low k hk,h.low k hk]⟩
theorem kr{N:Nat}{D:List Int}{t i:Nat}{d:Int}(ht:t<D.length)(uV:i<t)(hd:0<=d/\d<=12)(hB:Bd D):Wp (M.aR N (t:Int) d D) fun r=>(r.1=0->Mn D r.2 i/\Bd r.2/\gd r.2 t=d)/\(gd D t= -1->r=(0,D.set t d)):=by
 unfold M.aR;rw[jr ht];simp only[ai2,aL];by_cases h0:0<=gd D t
 .rw[decide_eq_true h0];simp only[if_true];by_cases h1:gd D t=d
  .rw[if_neg (by simp[h1])]
   refine .some ⟨fun _=>⟨⟨by simp[aT],fun k _=>?_,fun k hk=>?_⟩,fun k=>?_,?_⟩,fun h=>by omega⟩<;>simp only[aT,aja,gz ht]
   .split
    .rename_i h;rw[h,h1]
    .rfl
   .rw[if_neg (by omega)]
   .split
    .omega
    .exact hB k
   .simp
  .rw[if_pos (by simp[h1])];exact .some ⟨fun h=>by simp at h,fun h=>by omega⟩
 .rw[decide_eq_false h0];simp only[ajb,if_false]
  refine .some ⟨fun _=>⟨⟨by simp[aT],fun k hk=>?_,fun k hk=>?_⟩,fun k=>?_,?_⟩,fun h=>by simp[aT]⟩<;>simp only[aT,aja,gz ht]
  .rw[if_neg (fun h=>by rw[h]at hk;exact h0 hk)]
  .rw[if_neg (by omega)]
  .split
   .omega
   .exact hB k
  .simp
def iJ(len:Nat)(D:List Int)(j:Nat)(n:Ty):Prop:=
 ((n.1:Int)=51/\∃t:Nat,(n.2:Int)=t/\j<t/\t<=len/\gd D t=gd D j)\/
 (((n.1:Int)=50\/(n.1:Int)=52\/(n.1:Int)=53)/\1<=gd D j/\gd D (j+1)=gd D j-1/\∃t:Nat,(n.2:Int)=t/\j<t/\t<=len/\gd D t=if(n.1:Int)=50 then gd D j-1 else gd D j)\/
 ((n.1:Int)≠51/\¬((n.1:Int)=50\/(n.1:Int)=52\/(n.1:Int)=53)/\0<=ar n.1/\ar n.1<=gd D j/\gd D (j+1)=gd D j-ar n.1+1/\gd D j-ar n.1+1<=12)
theorem iJ.mono{len j i:Nat}{D D':List Int}{n:Ty}(h:iJ len D j n)(hj:0<=gd D j)(m:Mn D D' i):iJ len D' j n:=by
 have e:=m.keep j hj
 rcases h with⟨h1,t,h2,h3,h4,h5⟩|⟨h1,h2,h3,t,h4,h5,h6,h7⟩|⟨h1,h2,h3,h4,h5,h6⟩
 .exact .inl ⟨h1,t,h2,h3,h4,by rw[m.keep t (by omega),h5,e]⟩
 .have e1:=m.keep (j+1) (by omega);have e2:=m.keep t (by rw[h7];split<;>omega);exact .inr (.inl ⟨h1,by omega,by omega,t,h4,h5,h6,by rw[e2,e];exact h7⟩)
 .have e1:=m.keep (j+1) (by omega);exact .inr (.inr ⟨h1,h2,h3,by omega,by omega,by omega⟩)
theorem FE{N:Nat}{code:List Ty}{D:List Int}{i:Nat}(hl:code.length<=128)(hi:i<code.length)(hD:D.length=code.length+1)(hB:Bd D)(h0:0<=gd D i):Wp (M.bw N code (i:Int) code[i] D) fun r=>(r.1=0->Mn D r.2 i/\Bd r.2/\iJ code.length r.2 i code[i])/\((code[i].1:Int)<=39->¬cy code[i].1->0<=ar code[i].1->ar code[i].1<=gd D i->gd D i-ar code[i].1+1<=12->gd D (i+1)= -1->r=(0,D.set (i+1) (gd D i-ar code[i].1+1))):=by
 unfold M.bw;generalize code[i]=n;obtain⟨(op:Int),(m:Int)⟩:=n;dsimp only[ae,Row.den]at*;have KS:=lg op;have hBi:=hB i;rw[mi,kR,jr (by omega),ec,xk];simp only[ai2,aL];by_cases c1:¬cy op/\(50<=op/\op<=53\/0<=ar op)
 case neg=>
  rw[decide_eq_false c1];simp only[Bool.not_false,if_true];refine .some ⟨fun h=>by simp at h,fun h1 h2 h3=>absurd ⟨h2, .inr h3⟩ c1⟩
 rw[decide_eq_true c1];simp only[Bool.not_true,ajb,if_false];by_cases c2:50<=op/\op<=53
 .rw[decide_eq_true c2];simp only[if_true];by_cases c3:m<=i\/(code.length:Int)<m
  .have:(if decide (m<=(i:Int))=true then true else decide ((code.length:Int)<m))=true:=by
    rcases c3 with c|c<;>simp[c]
   rw[if_pos this];exact .some ⟨fun h=>by simp at h,fun h=>by omega⟩
  have hc:(if decide (m<=(i:Int))=true then true else decide ((code.length:Int)<m))=false:=by
   rw[if_neg (by simp;omega)];simp;omega
  rw[if_neg (by rw[hc];simp)]
  obtain⟨t,rfl⟩:∃t:Nat,m=t:=⟨m.toNat,by omega⟩
  refine Wp.dec (fun c4=>?_) fun c4=>?_
  .refine Wp.seq _ (kr (t:=t) (i:=i) (by omega) (by omega) (by omega) hB) fun r hr=> .some ⟨fun h=>?_,fun h=>by omega⟩
   obtain⟨a1,a2,a3⟩:=hr.1 h;exact⟨a1,a2, .inl ⟨c4,t,rfl,by omega,by omega,by rw[a3,a1.low i (ai8 _)]⟩⟩
  refine Wp.dec (fun c5=>?_) fun c5=>by omega
  refine Wp.dec (fun c6=> .some ⟨fun h=>by simp at h,fun h=>by omega⟩) fun c6=>?_
  have w1:ai3.wrap (gd D i-1)=gd D i-1:=aV (by omega) (by omega);rw[w1,aK (by omega)]
  refine Wp.seq _ (kr (t:=i+1) (i:=i) (by omega) (by omega) (by omega) hB) fun r hr=>?_
  refine Wp.mY (fun c7=> .some ⟨fun h=>absurd h c7,fun h=>by omega⟩) fun c7=>?_
  obtain⟨a1,a2,a3⟩:=hr.1 c7;have rP:=a1.low i (ai8 _)
  refine Wp.seq _ (kr (D:=r.2) (t:=t) (i:=i) (by rw[a1.len];omega) (by omega) (by split<;>omega) a2) fun r' oz=> .some ⟨fun h=>?_,fun h=>by omega⟩
  obtain⟨b1,b2,b3⟩:=oz.1 h;refine⟨a1.trans b1,b2, .inr (.inl ⟨c5,?_,?_,t,rfl,by omega,by omega,?_⟩)⟩
  .rw[b1.low i (ai8 _)];show 1<=gd r.2 i;omega
  .show gd r'.2 (i+1)=gd r'.2 i-1
   rw[b1.low i (ai8 _),b1.keep (i+1) (by omega)];omega
  .show gd r'.2 t=if op=50 then gd r'.2 i-1 else gd r'.2 i
   rw[b1.low i (ai8 _),b3,rP]
   by_cases Al:op=50<;>simp[Al]
 .rw[decide_eq_false c2];simp only[ajb,if_false]
  refine Wp.dec (fun c4=>by omega) fun c4=>?_
  refine Wp.dec (fun c5=>by omega) fun c5=>?_
  refine Wp.dec (fun c6=> .some ⟨fun h=>by simp at h,fun _ _ _ h=>by omega⟩) fun c6=>?_
  have w1:ai3.wrap (gd D i-ar op)=gd D i-ar op:=aV (by omega) (by omega);have w2:ai3.wrap (gd D i-ar op+1)=gd D i-ar op+1:=aV (by omega) (by omega);rw[w1,w2]
  refine Wp.dec (fun c7=> .some ⟨fun h=>by simp at h,fun _ _ _ _ h=>by omega⟩) fun c7=>?_
  rw[aK (by omega)]
  refine Wp.seq _ (kr (t:=i+1) (i:=i) (by omega) (by omega) (by omega) hB) fun r hr=> .some ⟨fun h=>?_,fun _ _ _ _ _ h=>hr.2 h⟩
  obtain⟨a1,a2,a3⟩:=hr.1 h;have rP:=a1.low i (ai8 _);exact⟨a1,a2, .inr (.inr ⟨c4,c5,by show 0<=ar op;omega,by show ar op<=gd r.2 i;omega,by show gd r.2 (i+1)=gd r.2 i-ar op+1;omega,by show gd r.2 i-ar op+1<=12;omega⟩)⟩
structure acN(code:List Ty)(D:List Int):Prop where
 pos:0<code.length
 le:code.length<=128
 len:D.length=code.length+1
 bd:Bd D
 first:gd D 0=0
 last:gd D code.length=1
 step:∀j(h:j<code.length),0<=gd D j->iJ code.length D j code[j]
theorem zO(n k:Nat):gd (ai9 n (-1)) k= -1:=by
 unfold gd ajD;by_cases h:k<n
 .simp[h]
 .rw[List.getElem?_eq_none (by simp;omega)];rfl
def FF(n:Ty)(top:Vl):Bool:=decide (decide ((top.2.2:Int)=1)=decide ((n.1:Int)=53))
inductive eM(code:List Ty)(env:eo.den):Nat->List Vl->Vl×Int->Prop
 |done {v:Vl} {S:List Vl}:eM code env code.length (v::S) (v,0)
 |jump {p t:Nat} {S:List Vl} {r:Vl×Int} {n:Ty} (h:code[p]? =some n) (qH:(n.1:Int)=51) (ht:(n.2:Int)=t) (Nr:p<t) (Dd:t<=code.length) (next:eM code env t S r):eM code env p S r
 |op {p a:Nat} {S:List Vl} {r:Vl×Int} {n:Ty} (h:code[p]? =some n) (bN:¬(50<=(n.1:Int)/\(n.1:Int)<=53)) (ha:ar n.1=a) (hs:a<=S.length) (h0:(oA env n (S.drop (S.length-a))).2=0) (next:eM code env (p+1) (S.take (S.length-a)++[(oA env n (S.drop (S.length-a))).1]) r):eM code env p S r
 |fail {p a:Nat} {S:List Vl} {n:Ty} (h:code[p]? =some n) (bN:¬(50<=(n.1:Int)/\(n.1:Int)<=53)) (ha:ar n.1=a) (hs:a<=S.length) (h0:(oA env n (S.drop (S.length-a))).2≠0):eM code env p S (z3,(oA env n (S.drop (S.length-a))).2)
 |cond {p t:Nat} {S:List Vl} {r:Vl×Int} {n:Ty} {top:Vl} (h:code[p]? =some n) (iK:(n.1:Int)=50\/(n.1:Int)=52\/(n.1:Int)=53) (ht:(n.2:Int)=t) (Nr:p<t) (Dd:t<=code.length) (hk:(top.1:Int)=1) (hv:(top.2.2:Int)=0\/(top.2.2:Int)=1) (next:eM code env (if FF n top=true then t else p+1) (if FF n top=false\/(n.1:Int)=50 then S else S++[top]) r):eM code env p (S++[top]) r
end L.P
end Go.Proofs.YtilaieogabgamaaGreatDoor
end
section
open _root_.Int renaming toNat_natCast->aja
open _root_.Go.IntKind renaming i64->ai3
open _root_.List renaming append_assoc->ajr,getD->ajD,getElem?_eq_some_iff->ai7,getElem_append_left->ajf,replicate->ai9,set_append_right->ajU
open _root_.Nat renaming le_refl->ai8
open _root_.Option renaming bind_some->ai2
open _root_.Prod.mk renaming injEq->aj3
namespace Go.Proofs.YtilaieogabgamaaGreatDoor
open Go Go.RowKit
set_option maxRecDepth 100000
namespace L.P
theorem KY{e:List Ty}{st:List Nat}(v:xl e st)(hl:e.length<=100000){i:Nat}(hi:i<e.length):((idx e (i:Int)).bind fun x3=>
(M.cV aC x3.1).bind fun y4=>
(mV y4 (0:Int)).bind fun l5=>
Loop (S:=Int×Int×List Int) (X:=List Int) (fun s6=>
(if(decide ((0:Int)<=s6.2.1))=true then
(idx s6.2.2 s6.2.1).bind fun x7=>
(idx (dC st) s6.1).bind fun x8=>
some (Sum.inl (ai3.wrap (x8-(1:Int)),ai3.wrap (s6.2.1-(1:Int)),aT s6.2.2 s6.2.1 s6.1))
else
some (Sum.inr s6.2.2))) aC (ai3.wrap ((i:Int)-(1:Int)),ai3.wrap ((l5.length:Int)-(1:Int)),l5))=some (dC (opsL st (ar e[i].1).toNat i)):=by
 apply Wp.eq;obtain⟨h0,l,hc,ha,hd,_⟩:=v.node i hi;rw[ag hi];simp only[ai2,ec]
 obtain⟨a,hea⟩:∃a:Nat,ar e[i].1=a:=⟨(ar e[i].1).toNat,by omega⟩
 have hle:=lg e[i].1;rw[hea]at ha hle⊢;rw[aja]at ha⊢
 have wK:mV (a:Int) (0:Int)=some (ai9 a 0):=by
  unfold mV;rw[if_pos (by omega),aja]
 rw[wK];simp only[ai2,List.length_replicate];refine Wp.loop (fun s:Int×Int×List Int=>∃b p:Nat,∃dn l':List Nat,s=((p:Int)-1,(b:Int)-1,ai9 b (0:Int)++dC dn)/\b<=a/\p<=i/\opsL st a i=opsL st b p++dn/\Ch st p l'/\b<=l'.length) (fun s=>(s.2.1+1).toNat) ⟨a,i,[],l,?_,ai8 _,ai8 _,by simp,hc,ha⟩ ?_ ?_
 .rw[aV (by omega) (by omega),aV (by omega) (by omega)];simp
 .simp only;rw[aV (n:=(a:Int)-1) (by omega) (by omega)];unfold aC;omega
 .rintro _ ⟨b,p,dn,l',rfl,h1,h2,h3,h4,h5⟩
  simp only
  refine Wp.dec (fun hb=>?_) fun hb=> .some ?_
  .obtain⟨b,rfl⟩:∃m,b=m+1:=⟨b-1,by omega⟩
   cases h4 with
   |nil=>simp at h5
   | @snoc p u l' g1 g2 c=>
     simp at h5;have hp:p<st.length:=(ai7.1 g1).1
     have e5:idx (ai9 (b+1) (0:Int)++dC dn) (((b+1:Nat):Int)-1)=some 0:=by
      rw[show((b+1:Nat):Int)-1=(b:Int) by omega,ag (by simp;omega),ajf (by simp)];simp
     have e6:idx (dC st) (((p+1:Nat):Int)-1)=some (u:Int):=by
      rw[show((p+1:Nat):Int)-1=(p:Int) by omega,ag (by simpa using hp)];have:=(ai7.1 g1).2;simp[this]
     rw[e5,e6];simp only[ai2];rw[aV (n:=(u:Int)-1) (by omega) (by omega),aV (n:=(((b+1:Nat):Int)-1)-1) (by omega) (by omega)];refine .some ⟨⟨b,u,p::dn,l',?_,by omega,by omega,?_,c,h5⟩,by simp only;omega⟩
     .have e7:aT (ai9 (b+1) (0:Int)++dC dn) (((b+1:Nat):Int)-1) (((p+1:Nat):Int)-1)=ai9 b (0:Int)++dC (p::dn):=by
       unfold aT;rw[show(((b+1:Nat):Int)-1).toNat=b by omega,show((p+1:Nat):Int)-1=(p:Int) by omega,List.replicate_succ',ajr,ajU _ _ (by simp)];simp
      rw[e7];simp only[aj3,and_true,true_and];omega
     .rw[h3,opsL]
      have:st.getD (p+1-1) 0=u:=by simp[ajD,g1]
      rw[this];simp
  .obtain rfl:b=0:=by omega
   show _=_
   rw[h3];simp[opsL]
theorem B5{e:List Ty}{st:List Nat}(w:Whole e st){i:Nat}(hi:i<e.length):M.kY aC e (i:Int)=some (dC (opsL st (ar e[i].1).toNat i)):=by
 have hle:=w.le;have h:=KY w.val (by omega) hi;unfold M.kY M.jz;rw[od,w.res];simp only[ai2,aL,oT];rw[if_neg (by simp;omega)];exact h
end L.P
end Go.Proofs.YtilaieogabgamaaGreatDoor
end
section
open _root_.Bool renaming eq_iff_iff->ake,false_eq_true->ajb
open _root_.Int renaming tdiv->ajo,tdiv_eq_ediv_of_nonneg->aj1,tmod->ajL
open _root_.Go.IntKind renaming i64->ai3
open _root_.List renaming getElem?_eq_getElem->ai5
open _root_.Option renaming bind_some->ai2
namespace Go.Proofs.YtilaieogabgamaaGreatDoor
open Go Go.RowKit
set_option maxRecDepth 100000
namespace L.P
abbrev Sg:Type:=aP.den
def us(op:Int):Prop:=(1<=op/\op<=8)\/(14<=op/\op<=16)\/op=33\/op=34\/(36<=op/\op<=39)
theorem Ns(N:Nat)(op:Int):Wp (M.fo N op) fun b=>b=true↔us op:=by
 by_cases h:us op
 .have:op=1\/op=2\/op=3\/op=4\/op=5\/op=6\/op=7\/op=8\/op=14\/op=15\/op=16\/op=33\/op=34\/op=36\/op=37\/op=38\/op=39:=by unfold us at h;omega
  refine⟨true,?_,by simp[h]⟩
  rcases this with rfl|rfl|rfl|rfl|rfl|rfl|rfl|rfl|rfl|rfl|rfl|rfl|rfl|rfl|rfl|rfl|rfl<;>(show(_:Option Bool)=_;kernel_rfl)
 .refine⟨false,?_,by simp[h]⟩
  have ne:∀k:Int,us k->decide (op=k)=false:=fun k hk=>by simp;rintro rfl;exact h hk
  unfold M.fo;rw[ne 1 (by unfold us;omega),ne 2 (by unfold us;omega),ne 3 (by unfold us;omega),ne 4 (by unfold us;omega),ne 5 (by unfold us;omega),ne 6 (by unfold us;omega),ne 7 (by unfold us;omega),ne 8 (by unfold us;omega),ne 14 (by unfold us;omega),ne 15 (by unfold us;omega),ne 16 (by unfold us;omega),ne 33 (by unfold us;omega),ne 34 (by unfold us;omega),ne 36 (by unfold us;omega),ne 37 (by unfold us;omega),ne 38 (by unfold us;omega),ne 39 (by unfold us;omega)];rfl
abbrev IL(k:Int):Prop:=k=2\/k=3\/k=4
theorem oX(N:Nat)(k:Int):M.da N k=some (decide (IL k)):=by
 unfold M.da IL;by_cases h:k=2
 .simp[h]
 .by_cases h2:k=3
  .simp[h2]
  .simp[h,h2]
theorem FH(N:Nat)(m:Int):M.eG N m=some (decide (0<=m/\m<=5)):=by
 unfold M.eG
 by_cases h:0<=m<;>simp[h]
def RT(op:Int)(ts:List Ty)(t:Ty):Prop:=
 (op=10/\∃a:Ty,ts=[a]/\IL a.1/\t=a)\/
 (op=25/\∃a:Ty,ts=[a]/\(a.1:Int)=1/\t=((1:Int),(0:Int)))\/
 ((op=31\/op=32)/\∃a:Ty,ts=[a]/\(a.1:Int)=5/\t=((2:Int),(0:Int)))\/
 ((op=11\/op=12)/\∃a:Ty,ts=[a,a]/\IL a.1/\t=a)\/
 (op=13/\∃a b:Ty,ts=[a,b]/\(b.1:Int)=2/\((a.1:Int)=2\/(a.1:Int)=3)/\t=(a.1,(0:Int)))\/
 (op=14/\∃a b:Ty,ts=[a,b]/\(b.1:Int)=4/\((a.1:Int)=3\/(a.1:Int)=4)/\t=(a.1,(0:Int)))\/
 (op=15/\∃a b:Ty,ts=[a,b]/\(((b.1:Int)=2/\((a.1:Int)=2\/(a.1:Int)=3)/\t=(a.1,(0:Int)))\/((a.1:Int)=3/\(b.1:Int)=3/\t=((4:Int),(0:Int)))))\/
 (op=16/\∃a b:Ty,ts=[a,b]/\(a.1:Int)=3/\(b.1:Int)=3/\t=a)\/
 ((op=17\/op=18)/\∃a:Ty,ts=[a,a]/\(IL a.1\/(a.1:Int)=5)/\t=a)\/
 ((op=19\/op=20)/\∃a:Ty,ts=[a,a]/\t=((1:Int),(0:Int)))\/
 ((op=21\/op=22)/\∃a:Ty,ts=[a,a]/\(IL a.1\/(a.1:Int)=5)/\t=((1:Int),(0:Int)))\/
 ((op=23\/op=24)/\∃a b:Ty,ts=[a,b]/\(a.1:Int)=1/\(b.1:Int)=1/\t=((1:Int),(0:Int)))\/
 (op=26/\∃a b:Ty,ts=[a,b,b]/\(a.1:Int)=1/\t=b)\/
 ((op=27\/op=28)/\∃a b:Ty,ts=[a,b]/\(a.1:Int)=5/\(b.1:Int)=2/\t=a)\/
 ((op=29\/op=30)/\∃a b:Ty,ts=[a,b]/\(a.1:Int)=5/\(b.1:Int)=5/\t=((2:Int),(0:Int)))
theorem zP(a b:Ty):nh aa a b=decide (a=b):=by
 obtain⟨a1,a2⟩:=a;obtain⟨b1,b2⟩:=b;rw[ake];simp[nh]
theorem rQ{α:Type}{a:α}{l:List α}:idx (a::l) (0:Int)=some a:=rfl
theorem xm{α:Type}{a b:α}{l:List α}:idx (a::b::l) (1:Int)=some b:=rfl
theorem abo{α:Type}{a b c:α}{l:List α}:idx (a::b::c::l) (2:Int)=some c:=rfl
theorem UB{α:Type}{l:List α}(h:l.length=1):∃a,l=[a]:=by
 match l,h with
 |[a],_=>exact⟨a,rfl⟩
theorem KZ{α:Type}{l:List α}(h:l.length=2):∃a b,l=[a,b]:=by
 match l,h with
 |[a,b],_=>exact⟨a,b,rfl⟩
theorem K0{α:Type}{l:List α}(h:l.length=3):∃a b c,l=[a,b,c]:=by
 match l,h with
 |[a,b,c],_=>exact⟨a,b,c,rfl⟩
theorem Ef(N:Nat)(op:Int)(a b:Int):Wp (M.fK N op a b) fun r=>r.2=true->(op=14/\b=4/\(a=3\/a=4)/\r.1=(a,(0:Int)))\/(op≠14/\b=2/\(a=2\/a=3)/\r.1=(a,(0:Int)))\/(op=15/\a=3/\b=3/\r.1=((4:Int),(0:Int))):=by
 unfold M.fK
 refine Wp.dec (fun h=>?_) fun h=>?_
 .by_cases h1:b=4
  .by_cases h2:a=3
   .simp only[decide_eq_true h1,decide_eq_true h2,if_true,ai2];exact .some fun _=> .inl ⟨h,h1, .inl h2,rfl⟩
   .simp only[decide_eq_true h1,decide_eq_false h2,if_true,ajb,if_false,ai2];exact .some fun h3=> .inl ⟨h,h1, .inr (by simpa using h3),rfl⟩
  .simp only[decide_eq_false h1,ajb,if_false,ai2];exact .some fun h=>by cases h
 .refine Wp.dec (fun h1=>?_) fun h1=>?_
  .by_cases h2:a=2
   .simp only[decide_eq_true h2,if_true,ai2];exact .some fun _=> .inr (.inl ⟨h,h1, .inl h2,rfl⟩)
   .simp only[decide_eq_false h2,ajb,if_false,ai2];exact .some fun h3=> .inr (.inl ⟨h,h1, .inr (by simpa using h3),rfl⟩)
  .by_cases h3:op=15/\a=3/\b=3
   .obtain⟨g1,g2,g3⟩:=h3;simp only[decide_eq_true g1,decide_eq_true g2,decide_eq_true g3,if_true,ai2]
    exact .some fun _=> .inr (.inr ⟨g1,g2,g3,rfl⟩)
   .have:(if decide (op=15)=true then(if decide (a=3)=true then some (decide (b=3))else some false)else some false)=some false:=by
     by_cases g1:op=15<;>by_cases g2:a=3<;>by_cases g3:b=3<;>simp_all
    rw[this]
    exact .some fun h=>by cases h
theorem HX(N:Nat)(op:Int)(ts:List Ty)(hl:(ts.length:Int)=ar op):Wp (M.cr N op ts) fun r=>r.2=true->RT op ts r.1:=by
 unfold M.cr
 have one:ar op=1->∃a,ts=[a]:=fun h=>UB (by omega)
 have two:ar op=2->∃a b,ts=[a,b]:=fun h=>KZ (by omega)
 refine Wp.dec (fun h=>?_) fun h1=>?_
 .obtain⟨a,rfl⟩:=one (by rw[h];rfl);simp only[rQ,ai2,oX]
  exact .some fun h'=> .inl ⟨h,a,rfl,by simpa using h',rfl⟩
 refine Wp.dec (fun h=>?_) fun h2=>?_
 .obtain⟨a,rfl⟩:=one (by rw[h];rfl);simp only[rQ,ai2]
  exact .some fun h'=> .inr (.inl ⟨h,a,rfl,by simpa using h',rfl⟩)
 rw[rN];simp only[ai2]
 refine Wp.dec (fun h=>?_) fun h3=>?_
 .obtain⟨a,b,rfl⟩:=two (by rcases h with h|h<;>rw[h]<;>rfl);simp only[rQ,xm,ai2,oX,zP];by_cases wX:a=b
  .subst wX;simp only[decide_true,if_true,ai2]
   exact .some fun h'=> .inr (.inr (.inr (.inl ⟨h,a,rfl,by simpa using h',rfl⟩)))
  .simp only[decide_eq_false wX,ajb,if_false,ai2]
   exact .some fun h'=>by cases h'
 rw[xk];simp only[ai2]
 refine Wp.dec (fun h=>?_) fun h4=>?_
 .obtain⟨a,b,rfl⟩:=two (by rcases h with h|h|h<;>rw[h]<;>rfl);simp only[rQ,xm,ai2]
  refine Wp.seq _ (Ef ..) fun r hr=> .some fun h'=>?_
  rcases hr h' with⟨g1,g2,g3,g4⟩|⟨g1,g2,g3,g4⟩|⟨g1,g2,g3,g4⟩
  .exact .inr (.inr (.inr (.inr (.inr (.inl ⟨g1,a,b,rfl,g2,g3,g4⟩)))))
  .rcases h with h|h|h
   .exact .inr (.inr (.inr (.inr (.inl ⟨h,a,b,rfl,g2,g3,g4⟩))))
   .exact absurd h g1
   .exact .inr (.inr (.inr (.inr (.inr (.inr (.inl ⟨h,a,b,rfl, .inl ⟨g2,g3,g4⟩⟩))))))
  .exact .inr (.inr (.inr (.inr (.inr (.inr (.inl ⟨g1,a,b,rfl, .inr ⟨g2,g3,g4⟩⟩))))))
 refine Wp.dec (fun h=>?_) fun h5=>?_
 .obtain⟨a,b,rfl⟩:=two (by rw[h];rfl);simp only[rQ,xm,ai2];by_cases g1:(a.1:Int)=3
  .simp only[decide_eq_true g1,if_true,ai2]
   exact .some fun h'=> .inr (.inr (.inr (.inr (.inr (.inr (.inr (.inl ⟨h,a,b,rfl,g1,by simpa using h',rfl⟩)))))))
  .simp only[decide_eq_false g1,ajb,if_false,ai2]
   exact .some fun h'=>by cases h'
 rw[rN];simp only[ai2]
 refine Wp.dec (fun h=>?_) fun h6=>?_
 .obtain⟨a,b,rfl⟩:=two (by rcases h with h|h<;>rw[h]<;>rfl);simp only[rQ,xm,ai2,oX,zP];by_cases wX:a=b
  .subst wX;simp only[decide_true,if_true]
   have mk:(IL a.1\/(a.1:Int)=5)->RT op [a,a] a:=fun h'=> .inr (.inr (.inr (.inr (.inr (.inr (.inr (.inr (.inl ⟨h,a,rfl,h',rfl⟩))))))))
   by_cases hn:IL a.1
   .simp only[decide_eq_true hn,if_true,ai2]
    exact .some fun _=>mk (.inl hn)
   .simp only[decide_eq_false hn,ajb,if_false,ai2]
    exact .some fun h'=>mk (.inr (by simpa using h'))
  .simp only[decide_eq_false wX,ajb,if_false,ai2]
   exact .some fun h'=>by cases h'
 rw[rN];simp only[ai2]
 refine Wp.dec (fun h=>?_) fun h7=>?_
 .obtain⟨a,b,rfl⟩:=two (by rcases h with h|h<;>rw[h]<;>rfl);simp only[rQ,xm,ai2,zP]
  refine .some fun h'=> .inr (.inr (.inr (.inr (.inr (.inr (.inr (.inr (.inr (.inl ⟨h,a,?_,rfl⟩)))))))))
  have:a=b:=by simpa using h'
  rw[this]
 rw[rN];simp only[ai2]
 refine Wp.dec (fun h=>?_) fun h8=>?_
 .obtain⟨a,b,rfl⟩:=two (by rcases h with h|h<;>rw[h]<;>rfl);simp only[rQ,xm,ai2,oX,zP];by_cases wX:a=b
  .subst wX;simp only[decide_true,if_true]
   have mk:(IL a.1\/(a.1:Int)=5)->RT op [a,a] ((1:Int),(0:Int)):=fun h'=> .inr (.inr (.inr (.inr (.inr (.inr (.inr (.inr (.inr (.inr (.inl ⟨h,a,rfl,h',rfl⟩))))))))))
   by_cases hn:IL a.1
   .simp only[decide_eq_true hn,if_true,ai2]
    exact .some fun _=>mk (.inl hn)
   .simp only[decide_eq_false hn,ajb,if_false,ai2]
    exact .some fun h'=>mk (.inr (by simpa using h'))
  .simp only[decide_eq_false wX,ajb,if_false,ai2]
   exact .some fun h'=>by cases h'
 rw[rN];simp only[ai2]
 refine Wp.dec (fun h=>?_) fun h9=>?_
 .obtain⟨a,b,rfl⟩:=two (by rcases h with h|h<;>rw[h]<;>rfl);simp only[rQ,xm,ai2];by_cases g1:(a.1:Int)=1
  .simp only[decide_eq_true g1,if_true,ai2]
   exact .some fun h'=> .inr (.inr (.inr (.inr (.inr (.inr (.inr (.inr (.inr (.inr (.inr (.inl ⟨h,a,b,rfl,g1,by simpa using h',rfl⟩)))))))))))
  .simp only[decide_eq_false g1,ajb,if_false,ai2]
   exact .some fun h'=>by cases h'
 refine Wp.dec (fun h=>?_) fun UC=>?_
 .obtain⟨a,b,c,rfl⟩:=K0 (l:=ts) (by rw[h]at hl;have:ar 26=3:=rfl;omega);simp only[rQ,xm,abo,ai2,zP];by_cases g1:(a.1:Int)=1
  .simp only[decide_eq_true g1,if_true,ai2]
   refine .some fun h'=> .inr (.inr (.inr (.inr (.inr (.inr (.inr (.inr (.inr (.inr (.inr (.inr (.inl ⟨h,a,b,?_,g1,rfl⟩))))))))))))
   have:b=c:=by simpa using h'
   rw[this]
  .simp only[decide_eq_false g1,ajb,if_false,ai2]
   exact .some fun h'=>by cases h'
 rw[rN];simp only[ai2]
 refine Wp.dec (fun h=>?_) fun h11=>?_
 .obtain⟨a,b,rfl⟩:=two (by rcases h with h|h<;>rw[h]<;>rfl);simp only[rQ,xm,ai2];by_cases g1:(a.1:Int)=5
  .simp only[decide_eq_true g1,if_true,ai2]
   exact .some fun h'=> .inr (.inr (.inr (.inr (.inr (.inr (.inr (.inr (.inr (.inr (.inr (.inr (.inr (.inl ⟨h,a,b,rfl,g1,by simpa using h',rfl⟩)))))))))))))
  .simp only[decide_eq_false g1,ajb,if_false,ai2]
   exact .some fun h'=>by cases h'
 rw[rN];simp only[ai2]
 refine Wp.dec (fun h=>?_) fun ON=>?_
 .obtain⟨a,b,rfl⟩:=two (by rcases h with h|h<;>rw[h]<;>rfl);simp only[rQ,xm,ai2];by_cases g1:(a.1:Int)=5
  .simp only[decide_eq_true g1,if_true,ai2]
   exact .some fun h'=> .inr (.inr (.inr (.inr (.inr (.inr (.inr (.inr (.inr (.inr (.inr (.inr (.inr (.inr ⟨h,a,b,rfl,g1,by simpa using h',rfl⟩)))))))))))))
  .simp only[decide_eq_false g1,ajb,if_false,ai2]
   exact .some fun h'=>by cases h'
 rw[rN];simp only[ai2]
 refine Wp.dec (fun h=>?_) fun PP=> .some fun h'=>by cases h'
 .obtain⟨a,rfl⟩:=one (by rcases h with h|h<;>rw[h]<;>rfl);simp only[rQ,ai2]
  exact .some fun h'=> .inr (.inr (.inl ⟨h,a,rfl,by simpa using h',rfl⟩))
def jI(t:Ty)(n:Nat):Prop:=(1<=(t.1:Int)/\(t.1:Int)<=5/\(t.2:Int)=0)\/((t.1:Int)=6/\0<=(t.2:Int)/\(t.2:Int)<n)
instance(t:Ty)(n:Nat):Decidable (jI t n):=by unfold jI;exact inferInstance
theorem vY(N:Nat)(t:Ty)(E:List bq.den):M.bW N t E=some (decide (jI t E.length)):=by
 obtain⟨(k:Int),(u:Int)⟩:=t;unfold M.bW;dsimp only[ae,Row.den];rw[QX];simp only[ai2]
 have cast:∀{p q:Prop}[Decidable p][Decidable q],(p↔q)->some (decide p)=some (decide q):=fun h=>by simp[h]
 have no:¬((1<=k/\k<=5/\u=0)\/(k=6/\0<=u/\u<(E.length:Int)))->some false=some (decide (jI (k,u) E.length)):=fun h=>by rw[decide_eq_false (p:=jI (k,u) E.length) h]
 by_cases h:k=1\/k=2\/k=3\/k=4\/k=5
 .rw[decide_eq_true h,if_pos rfl];exact cast (show(u=0↔(1<=k/\k<=5/\u=0)\/(k=6/\0<=u/\u<(E.length:Int))) by omega)
 .rw[decide_eq_false h,if_neg (by simp)];by_cases h6:k=6
  .rw[decide_eq_true h6,if_pos rfl];by_cases hu:0<=u
   .rw[decide_eq_true hu,if_pos rfl,ai2];exact cast (show(u<(E.length:Int)↔(1<=k/\k<=5/\u=0)\/(k=6/\0<=u/\u<(E.length:Int))) by omega)
   .rw[decide_eq_false hu,if_neg (by simp),ai2];exact no (by omega)
  .rw[decide_eq_false h6,if_neg (by simp)];exact no (by omega)
theorem mj(N:Nat)(n k:Int)(s:Sg)(hk:1<=k/\k<=5):Wp (M.cw N n k s) fun r=>r.2=0->r.1=(k,(0:Int)):=by
 unfold M.cw
 refine Wp.seq (fun _=>True) ?_ fun y _=>?_
 .unfold M.fe;dsimp only[ae,Row.den];rw[vY];simp only[ai2]
  refine Wp.ite (fun _=> .some trivial) fun _=>?_
  refine Wp.dec (fun _=> .some trivial) fun _=>?_
  refine Wp.dec (fun _=> .some trivial) fun _=>?_
  refine Wp.dec (fun _=> .some trivial) fun _=>?_
  refine Wp.dec (fun _=> .some trivial) fun _=>?_
  refine Wp.dec (fun _=> .some trivial) fun _=>by omega
 refine Wp.seq (fun _=>True) (Wp.ite (fun _=> .some trivial) fun _=> .some trivial) fun j _=>?_
 refine Wp.ite (fun _=> .some ?_) fun _=> .some ?_
 .exact fun h=>by cases h
 .exact fun _=>rfl
theorem Nt(N:Nat)(m:Int)(hm:m<=9223372036854775807)(s:Sg):Wp (M.bE N m s) fun r=>r.2=0->0<=m/\r.1=((6:Int),ai3.wrap (ajo m 16)):=by
 unfold M.bE
 refine Wp.dec (fun _=> .some fun h=>by cases h) fun h0=>?_
 have e:ajo m 16=m/16:=aj1 (by omega)
 have w:ai3.wrap (ajo m 16)=m/16:=by rw[e,aV (by omega) (by omega)]
 refine Wp.seq (fun _=>True) ?_ fun j _=>Wp.ite (fun _=> .some fun h=>by cases h) fun _=> .some fun _=>⟨by omega,rfl⟩
 refine Wp.dec (fun _=> .some trivial) fun h1=>?_
 rw[w]at h1⊢
 exact Wp.seq (fun _=>True) (Wp.eX (by omega) (by omega) fun _ _ _=>trivial) fun _ _=> .some trivial
def Vr(n:Int)(ts:List Ty)(s:Sg)(t:Ty):Prop:=∃k:Nat,n=k/\ts[k]? =some t/\jI t s.1.length
theorem ta(N:Nat)(n:Int)(ts:List Ty)(s:Sg):Wp (M.dj N n ts s) fun r=>r.2=0->Vr n ts s r.1:=by
 unfold M.dj;simp only[aL,ai2,oT]
 refine Wp.ite (fun _=> .some fun h=>by cases h) fun h=>?_
 simp only[Bool.or_eq_true,decide_eq_true_eq,not_or]at h
 obtain⟨k,rfl⟩:∃k:Nat,n=k:=⟨n.toNat,by omega⟩
 have hk:k<ts.length:=by omega
 rw[ag hk];simp only[ai2,vY]
 refine Wp.ite (fun _=> .some fun h=>by cases h) fun hv=> .some fun _=>⟨k,rfl,ai5 hk,by rw[Bool.not_eq_true',Bool.not_eq_false]at hv;exact of_decide_eq_true hv⟩
def Tb(op m:Int)(a:Ty)(s:Sg)(t:Ty):Prop:=∃(k:Nat)(T:ax.den),s.2.1[k]? =some T/\jI T.2.1 s.1.length/\jI T.2.2.1 s.1.length/\a=T.2.1/\((op=34/\0<=m/\0<=ajL m 8/\ajL m 8<=5/\ai3.wrap (ajo m 8)=k/\(T.2.1.1:Int)=3/\(T.2.2.1.1:Int)=4/\t=T.2.1)\/(op≠34/\m=k/\t=T.2.2.1))
theorem K2(N:Nat)(op m:Int)(a:Ty)(s:Sg):Wp (M.fJ N (op,m) a s) fun r=>r.2=0->Tb op m a s r.1:=by
 unfold M.fJ;dsimp only[ae,Row.den];refine Wp.join (Wp.mono (Q:=fun x=>(∃j,x=Sum.inl j/\((op=34/\0<=m/\0<=ajL m 8/\ajL m 8<=5/\ai3.wrap (ajo m 8)=j)\/(op≠34/\m=j)))\/∃r,x=Sum.inr r/\r.2≠0) ?_ ?_)
 .refine Wp.dec (fun h=>?_) fun h=> .some (.inl ⟨_,rfl, .inr ⟨h,rfl⟩⟩)
  rw[FH];simp only[ai2]
  refine Wp.seq (fun j=>j=false->0<=m/\0<=ajL m 8/\ajL m 8<=5) ?_ fun j hj=>?_
  .refine Wp.dec (fun _=> .some fun h=>by cases h) fun h=> .some fun h'=>⟨by omega,?_⟩
   rw[Bool.not_eq_false']at h';exact of_decide_eq_true h'
  .refine Wp.ite (fun _=> .some (.inr ⟨_,rfl,by simp⟩)) fun hc=>?_
   obtain⟨g1,g2,g3⟩:=hj (by simpa using hc);exact .some (.inl ⟨_,rfl, .inl ⟨h,g1,g2,g3,rfl⟩⟩)
 rintro _ (⟨j,rfl,hj⟩|⟨r,rfl,hr⟩)
 case inr=>exact fun h=>absurd h hr
 show Wp _ _
 refine Wp.seq (fun b=>b=false->0<=j/\j<s.2.1.length) ?_ fun b hb=>?_
 .exact Wp.dec (fun _=> .some fun h=>by cases h) fun h=> .some fun h'=>by simp at h';omega
 refine Wp.ite (fun _=> .some fun h=>by cases h) fun hc=>?_
 obtain⟨j0,j1⟩:=hb (by simpa using hc)
 obtain⟨k,rfl⟩:∃k:Nat,j=k:=⟨j.toNat,by omega⟩
 have hk:k<s.2.1.length:=by omega
 have get:=ai5 hk;rw[ag hk];generalize s.2.1[k]=T at get;simp only[ai2,vY,zP]
 refine Wp.seq (fun b=>b=false->jI T.2.1 s.1.length/\jI T.2.2.1 s.1.length/\a=T.2.1) ?_ fun b hb=>?_
 .refine Wp.ite (fun _=> .some fun h=>by cases h) fun h1=>?_
  refine Wp.ite (fun _=> .some fun h=>by cases h) fun h2=> .some fun h3=>⟨by simpa using h1,by simpa using h2,by simpa using h3⟩
 refine Wp.ite (fun _=> .some fun h=>by cases h) fun hc=>?_
 obtain⟨v1,v2,v3⟩:=hb (by simpa using hc)
 refine Wp.dec (fun tR=>?_) fun tR=> .some fun _=>?_
 .refine Wp.seq (fun b=>b=false->(T.2.1.1:Int)=3/\(T.2.2.1.1:Int)=4) ?_ fun b hb=>?_
  .exact Wp.mY (fun _=> .some fun h=>by cases h) fun h=> .some fun h'=>⟨h,by simpa using h'⟩
  refine Wp.ite (fun _=> .some fun h=>by cases h) fun hc=> .some fun _=>?_
  obtain⟨w1,w2⟩:=hb (by simpa using hc)
  rcases hj with⟨_,g1,g2,g3,g4⟩|⟨g,_⟩
  .exact⟨k,T,get,v1,v2,v3, .inl ⟨tR,g1,g2,g3,g4,w1,w2,rfl⟩⟩
  .exact absurd tR g
 .rcases hj with⟨g,_⟩|⟨_,g⟩
  .exact absurd g tR
  .exact⟨k,T,get,v1,v2,v3, .inr ⟨tR,g,rfl⟩⟩
def Mb(op m:Int)(s:Sg)(t:Ty):Prop:=Vr m s.2.2.2.2.1 s t/\(op=36->(t.1:Int)=2\/(t.1:Int)=3)/\(op=37\/op=38->(t.1:Int)=1)/\(op=39->IL t.1\/(t.1:Int)=5)
theorem HY(N:Nat)(op m:Int)(s:Sg):Wp (M.bl N (op,m) s) fun r=>r.2=0->(op=35/\r.1=((2:Int),(0:Int)))\/(op≠35/\Mb op m s r.1):=by
 unfold M.bl;dsimp only[ae,Row.den];simp only[rN,oX,ai2]
 refine Wp.ite (fun _=> .some fun h=>by cases h) fun _=>?_
 refine Wp.dec (fun h=> .some fun _=> .inl ⟨h,rfl⟩) fun h35=>?_
 refine Wp.seq _ (ta ..) fun y hy=>?_
 refine Wp.mY (fun h=> .some ?_) fun h0=>?_
 .exact fun h'=>absurd h' h
 have hL:=hy h0
 refine Wp.seq (fun b=>b=true->(op=36->(y.1.1:Int)=2\/(y.1.1:Int)=3)/\(op=37\/op=38->(y.1.1:Int)=1)/\(op=39->IL y.1.1\/(y.1.1:Int)=5)) ?_ fun b hb=>?_
 .refine Wp.dec (fun h=>?_) fun QY=>?_
  .refine Wp.dec (fun h2=> .some fun _=>⟨fun _=> .inl h2,fun g=>by omega,fun g=>by omega⟩) fun _=> .some fun h3=>⟨fun _=> .inr (by simpa using h3),fun g=>by omega,fun g=>by omega⟩
  refine Wp.dec (fun h=> .some fun h1=>⟨fun g=>absurd g QY,fun _=>by simpa using h1,fun g=>by omega⟩) fun h37=>?_
  refine Wp.dec (fun h=>?_) fun _=> .some fun h=>by cases h
  refine Wp.dec (fun h2=> .some fun _=>⟨fun g=>absurd g QY,fun g=>absurd g h37,fun _=> .inl h2⟩) fun _=> .some fun h3=>⟨fun g=>absurd g QY,fun g=>absurd g h37,fun _=> .inr (by simpa using h3)⟩
 refine Wp.ite (fun _=> .some fun h=>by cases h) fun hc=> .some fun _=> .inr ⟨h35,hL,hb (by simpa using hc)⟩
def NT(op m:Int)(ts:List Ty)(s:Sg)(t:Ty):Prop:=
 ((1<=op/\op<=5)/\t=(op,(0:Int)))\/
 (op=6/\0<=m/\t=((6:Int),ai3.wrap (ajo m 16)))\/
 (op=7/\Vr m s.2.2.1 s t)\/
 (op=8/\Vr m s.2.2.2.1 s t)\/
 (op=9/\t=((5:Int),(0:Int)))\/
 ((op=33\/op=34)/\∃a,ts=[a]/\Tb op m a s t)\/
 (op=35/\t=((2:Int),(0:Int)))\/
 ((op=36\/op=37\/op=38\/op=39)/\Mb op m s t)\/
 ((op=14\/op=15\/op=16->0<=m/\m<=5)/\RT op ts t)
theorem Nu(N:Nat)(op m:Int)(hm:m<=9223372036854775807)(ts:List Ty)(s:Sg)(hl:(ts.length:Int)=ar op):Wp (M.aH N (op,m) ts s) fun r=>r.2=0->NT op m ts s r.1:=by
 unfold M.aH;dsimp only[ae,Row.den];simp only[rN op 33 34,xk op 14 15 16,QX op 35 36 37 38 39,FH,ai2]
 have fin:∀Q:Ty×Int->Prop,((op=14\/op=15\/op=16->0<=m/\m<=5)->∀t,RT op ts t->Q (t,0))->Q (((0:Int),(0:Int)),8)->((op=14\/op=15\/op=16)->0<=m/\m<=5)->Wp ((M.cr N op ts).bind fun wL=>if(!wL.2)=true then some (((0:Int),(0:Int)),(8:Int))else some (wL.1,(0:Int))) Q:=by
  intro Q hq h8 Mj
  refine Wp.seq _ (HX N op ts hl) fun y hy=>?_
  refine Wp.ite (fun _=> .some h8) fun h=> .some (hq Mj _ (hy (by simpa using h)))
 refine Wp.join ?_
 refine Wp.dec (fun h=>Wp.seq _ (mj _ _ 1 _ (by omega)) fun r hr=> .some fun h'=> .inl ⟨by omega,by rw[h];exact hr h'⟩) fun h1=>?_
 refine Wp.dec (fun h=>Wp.seq _ (mj _ _ 2 _ (by omega)) fun r hr=> .some fun h'=> .inl ⟨by omega,by rw[h];exact hr h'⟩) fun h2=>?_
 refine Wp.dec (fun h=>Wp.seq _ (mj _ _ 3 _ (by omega)) fun r hr=> .some fun h'=> .inl ⟨by omega,by rw[h];exact hr h'⟩) fun h3=>?_
 refine Wp.dec (fun h=>Wp.seq _ (mj _ _ 4 _ (by omega)) fun r hr=> .some fun h'=> .inl ⟨by omega,by rw[h];exact hr h'⟩) fun h4=>?_
 refine Wp.dec (fun h=>Wp.seq _ (mj _ _ 5 _ (by omega)) fun r hr=> .some fun h'=> .inl ⟨by omega,by rw[h];exact hr h'⟩) fun h5=>?_
 refine Wp.dec (fun h=>Wp.seq _ (Nt _ _ hm _) fun r hr=> .some fun h'=> .inr (.inl ⟨h,hr h'⟩)) fun h6=>?_
 refine Wp.dec (fun h=>Wp.seq _ (ta ..) fun r hr=> .some fun h'=> .inr (.inr (.inl ⟨h,hr h'⟩))) fun h7=>?_
 refine Wp.dec (fun h=>Wp.seq _ (ta ..) fun r hr=> .some fun h'=> .inr (.inr (.inr (.inl ⟨h,hr h'⟩)))) fun h8=>?_
 refine Wp.dec (fun h=> .some fun h'=> .inr (.inr (.inr (.inr (.inl ⟨h,rfl⟩))))) fun h9=>?_
 refine Wp.dec (fun h=>?_) fun L4=>?_
 .obtain⟨a,rfl⟩:=UB (l:=ts) (by have:ar op=1:=by rcases h with h|h<;>rw[h]<;>rfl
                                omega)
  simp only[rQ,ai2]
  exact Wp.seq _ (K2 ..) fun r hr=> .some fun h'=> .inr (.inr (.inr (.inr (.inr (.inl ⟨h,a,rfl,hr h'⟩)))))
 refine Wp.dec (fun h=>?_) fun h35=>?_
 .refine Wp.seq _ (HY ..) fun r hr=> .some fun h'=>?_
  rcases hr h' with⟨g1,g2⟩|⟨g1,g2⟩
  .exact .inr (.inr (.inr (.inr (.inr (.inr (.inl ⟨g1,g2⟩))))))
  .exact .inr (.inr (.inr (.inr (.inr (.inr (.inr (.inl ⟨by omega,g2⟩)))))))
 refine Wp.dec (fun h=>?_) fun Nv=>?_
 .refine Wp.ite (fun _=> .some fun h=>by cases h) fun hmo=> .some ?_
  exact fin _ (fun Mj t ht _=> .inr (.inr (.inr (.inr (.inr (.inr (.inr (.inr ⟨Mj,ht⟩)))))))) (fun h=>by cases h) fun _=>by simpa using hmo
 .refine .some ?_
  exact fin _ (fun Mj t ht _=> .inr (.inr (.inr (.inr (.inr (.inr (.inr (.inr ⟨Mj,ht⟩)))))))) (fun h=>by cases h) fun h=>absurd h Nv
end L.P
end Go.Proofs.YtilaieogabgamaaGreatDoor
end
section
open _root_.Int renaming toNat_natCast->aja
open _root_.List renaming append_assoc->ajr,getD->ajD,getElem?_append_left->ajA,length_append->ai6,length_singleton->ajh
namespace Go.Proofs.YtilaieogabgamaaGreatDoor
open Go Go.RowKit
set_option maxRecDepth 100000
namespace L.P
theorem Eg{st:List Nat}:∀{i:Nat}{l:List Nat},Ch st i l->∀a:Nat,a<=l.length->opsL st l.length i=opsL st (l.length-a) (lQ (a:Int) i l)++opsL st a i:=by
 intro i l c
 induction c with
 |nil=>
  intro a ha
  obtain rfl:a=0:=by simpa using ha
  simp[opsL]
 | @snoc j s l h1 h2 c ih=>
   intro a ha;rw[ai6,ajh]at ha⊢
   have hg:st.getD (j+1-1) 0=s:=by simp[ajD,h1]
   cases a with
   |zero=>simp[lQ,opsL]
   |succ a=>
    have e1:opsL st (l.length+1) (j+1)=opsL st l.length s++[j]:=by rw[opsL,hg];rfl
    have e2:opsL st (a+1) (j+1)=opsL st a s++[j]:=by rw[opsL,hg];rfl
    rw[e1,e2,ih a (by omega),ajr]
    have e3:l.length+1-(a+1)=l.length-a:=by omega
    rw[e3]
    congr 1
    have en:((a+1:Nat):Int).toNat=a+1:=by omega
    have s1:lQ ((a+1:Nat):Int) (j+1) (l++[s])=(l++[s]).getD (l.length-a) 0:=by
     unfold lQ;rw[if_neg (by omega),ai6,ajh,en,e3]
    rw[s1];unfold lQ;by_cases h0:(a:Int)=0
    .rw[if_pos h0]
     have:a=0:=by omega
     subst this;simp[ajD]
    .rw[if_neg h0,aja]
     have al:l.length-a<l.length:=by omega
     simp[ajD,ajA al]
theorem Nw{e:List Ty}{st:List Nat}(w:Whole e st){l:List Nat}(c:Ch st e.length l):opsL st l.length e.length=[e.length-1]:=by
 have hp:0<e.length:=List.length_pos_iff.2 w.ne
 have h1:l.length=1:=by
  have:=(c.one hp).2 w.one;have:=List.length_pos_iff.2 (c.pos hp);omega
 rw[h1,opsL];rfl
end L.P
end Go.Proofs.YtilaieogabgamaaGreatDoor
end
