/- Joined texts: PT3 PX PX3 PX5 PS PY PY3 PY5 PX7 PY6 VB TP VA TK TM VC VD VE VF VG VJ VQ VW VN. -/
import Derived.Test.YtfeahmiobbjklaaGreatDoorU10
open _root_.Bool renaming false->ag,true->af,and_eq_true->ahu,false_eq_true->agK
open _root_.Option renaming some->aa,bind_some->agv,some->ah1
open _root_.Int renaming le_refl->ahq,tdiv->agN,tmod->aha,toNat_natCast->agD,eq_ofNat_of_zero_le->agF
open _root_.Go.IntKind renaming i64->agw
open _root_.List renaming getElem_mem->agA,drop_eq_getElem_cons->agJ,drop_of_length_le->ahb,getElem?_eq_getElem->agz,getElem_append_left->ahk,getElem_append_right->ahh,replicate->agE,append_assoc->ahr,getElem?_eq_some_iff->agL,getElem_of_mem->agS,mem_cons->agY,mem_filter->ahi
open _root_.Option.some renaming inj->agx
open _root_.Nat renaming le_of_lt->ahL,le_refl->agB,min_eq_left->ahw,zero_add->ag8,le_trans->agW
open _root_.BitVec renaming ofInt->ahf
open _root_.ByteArray renaming empty->ahK
namespace Go.Proofs.YtfeahmiobbjklaaGreatDoor
open Go Go.RowKit
set_option maxRecDepth 100000
set_option linter.unusedSimpArgs false
set_option linter.unusedVariables false
set_option linter.defProp false
namespace L.P
def U0(x a b:Int):(if decide (x=a)=af then aa (decide (x=a))else aa (decide (x=b)))=aa (decide (x=a\/x=b)):=by
 grind
def U1(x a b c:Int):(if decide (x=a)=af then aa (decide (x=a))else(if decide (x=b)=af then aa (decide (x=b))else aa (decide (x=c))))=aa (decide (x=a\/x=b\/x=c)):=by
 grind
def Ov(x a b c d:Int):(if decide (x=a)=af then aa (decide (x=a))else(if decide (x=b)=af then aa (decide (x=b))else(if decide (x=c)=af then aa (decide (x=c))else aa (decide (x=d)))))=aa (decide (x=a\/x=b\/x=c\/x=d)):=by
 grind
def ZI(x a b c d e:Int):(if decide (x=a)=af then aa (decide (x=a))else(if decide (x=b)=af then aa (decide (x=b))else(if decide (x=c)=af then aa (decide (x=c))else(if decide (x=d)=af then aa (decide (x=d))else aa (decide (x=e))))))=aa (decide (x=a\/x=b\/x=c\/x=d\/x=e)):=by
 grind
theorem Wp.fa{α:Type}{l:List α}{i:Int}{Q:α->Prop}(h0:0<=i)(h1:i<l.length)(h:∀x,x∈l->idx l i=ah1 x->Q x):Wp (idx l i) Q:=by
 obtain⟨k,rfl⟩:∃k:Nat,i=k:=⟨i.toNat,by omega⟩
 have hk:k<l.length:=by omega
 exact⟨_,aB hk,h _ (agA hk) (aB hk)⟩
def ar(op:Int):Int:=
 if(1<=op/\op<=9)\/(35<=op/\op<=39)then 0 else if op=10\/op=25\/(31<=op/\op<=34)then 1 else if(11<=op/\op<=24)\/(27<=op/\op<=30)then 2 else if op=26 then 3 else-1
def pK(N:Nat)(op:Int):M.fJ N op=aa (ar op):=by
 by_cases h:1<=op/\op<=39
 .have:op=1\/op=2\/op=3\/op=4\/op=5\/op=6\/op=7\/op=8\/op=9\/op=10\/op=11\/op=12\/op=13\/op=14\/op=15\/op=16\/op=17\/op=18\/op=19\/op=20\/op=21\/op=22\/op=23\/op=24\/op=25\/op=26\/op=27\/op=28\/op=29\/op=30\/op=31\/op=32\/op=33\/op=34\/op=35\/op=36\/op=37\/op=38\/op=39:=by omega
  rcases this with rfl|rfl|rfl|rfl|rfl|rfl|rfl|rfl|rfl|rfl|rfl|rfl|rfl|rfl|rfl|rfl|rfl|rfl|rfl|rfl|rfl|rfl|rfl|rfl|rfl|rfl|rfl|rfl|rfl|rfl|rfl|rfl|rfl|rfl|rfl|rfl|rfl|rfl|rfl<;>(show(_:Option Int)=_;kernel_rfl)
 .have ha:ar op= -1:=by unfold ar;rw[ai (by omega),ai (by omega),ai (by omega),ai (by omega)]
  rw[ha]
  have ne:∀k:Int,1<=k->k<=39->decide (op=k)=ag:=λk h1 h2=>by simp;omega
  unfold M.fJ;simp[ne]
def qC(op:Int):ar op<=3:=by grind [P.ar]
def mY(env:ik.den):Prop:=env.2.2.2.1.length<=100/\∀t∈env.2.2.2.2.2,t.2.2.2.length<=9223372036854775807
def Fm(op m:Int):Prop:=0<=ar op/\(op=14\/op=15\/op=16->0<=m/\m<=5)/\(op=34->0<=m/\aha m 8<=5)/\(op=6->0<=m)
def L8(N:Nat)(op:Int):Wp (M.jK N op) λ_=>True:=by
 unfold M.jK;simp only[bp,agv];exact .some trivial
def yL(N:Nat)(op m:Int):Wp (M.jz N (op,m)) λb=>b=af->Fm op m:=by
 unfold M.jz;simp only[pK,agv]
 refine Wp.seq (λj=>j=ag->0<=ar op) ?_ λj hj=>?_
 .refine Wp.dec (λ_=> .some λh=>by cases h) λh=>?_
  refine Wp.kK (λ_=>Wp.seq _ (L8 ..) λy _=> .some λ_=>by omega) λ_=> .some λ_=>by omega
 .refine Wp.ite (λ_=> .some λh=>by cases h) λhc=>?_
  have ha:=hj (by simpa using hc);rw[U1];simp only[agv,bp,mW]
  refine .some λhb=>?_
  grind [P.Fm]
def VS(op m:Int)(env:ik.den):Prop:=
 (op=7->0<=m/\m<env.2.1.length)/\(op=8->0<=m/\m<env.2.2.1.length)/\(op=33->0<=m/\m<env.2.2.2.2.2.length)/\(op=34->agw.wrap (agN m 8)<env.2.2.2.2.2.length)/\(op=36\/op=37\/op=38\/op=39->0<=m/\m<env.2.2.2.2.1.length)
def I0(N:Nat)(op m:Int)(env:ik.den):Wp (M.gj N (op,m) env) λb=>b=af->VS op m env:=by
 unfold M.gj VS;simp only
 refine Wp.dec (λh=>?_) λh7=>?_
 .subst h;simp only[bp,agv,mW];exact .some (by grind)
 refine Wp.dec (λh=>?_) λh8=>?_
 .subst h
  refine Wp.seq (λj=>j=af->0<=m/\m<env.2.2.1.length) ?_ λj hj=> .some (by grind)
  refine Wp.dec (λh0=>Wp.dec (λh1=>Wp.bind (Wp.fa h0 h1 λx _ _=> .some λ_=>⟨h0,h1⟩)) λ_=> .some λh=>by cases h) λ_=> .some λh=>by cases h
 refine Wp.dec (λh=>?_) λh33=>?_
 .subst h;simp only[bp,agv,mW];exact .some (by grind)
 refine Wp.dec (λh=>?_) λNV=>?_
 .subst h;exact .some (by grind)
 rw[Ov];simp only[agv]
 refine Wp.dec (λh=>?_) λh36=> .some (by grind)
 simp only[bp,agv,mW];exact .some (by grind)
def L9{N:Nat}(l:List Vl)(hl:l.length<=100000)(hN:100001<=N):Wp (M.gT N l) λb=>b=af->∀v∈l,fF v.1 v.2.1 v.2.2:=by
 unfold M.gT;refine Wp.loop (λs:Int=>∃i:Nat,s=i/\i<=l.length/\∀v∈l.take i,fF v.1 v.2.1 v.2.2) (λs=>(l.length-s).toNat) ⟨0,rfl,Nat.zero_le _,by simp⟩ (by omega) ?_
 rintro _ ⟨i,rfl,hi,hp⟩
 refine Wp.dec (λh=>?_) λh=> .some λ_=>?_
 .have kW:i<l.length:=by omega
  rw[aB kW];simp only[agv,gA]
  refine Wp.kK (λ_=> .some λh=>by cases h) λhq=> .some ?_
  rw[aP (by omega)];refine⟨⟨i+1,rfl,kW,λv hv=>?_⟩,by grind⟩
  grind [List.take_succ_eq_append_getElem]
 grind
def CR(N:Nat)(a b:Vl):Wp (M.eK N a b) λ_=>True:=by
 unfold M.eK;simp only[bp,agv];exact .some trivial
def RL(N:Nat)(a b:Int):Wp (M.gU N a b) λ_=>True:=by
 unfold M.gU;simp only[pH,bp,agv];exact .some trivial
def Ow(N:Nat)(op:Int)(a b:Vl):Wp (M.gq N op a b) λ_=>True:=by
 unfold M.gq M.eK;simp only[pH,bp,agv];exact .some trivial
def VT(op m:Int)(env:ik.den):Prop:=
 (op=34->∀t,idx env.2.2.2.2.2 (agw.wrap (agN m 8))=aa t->t.2.1=((3,0):Int×Int)/\t.2.2.1=((4,0):Int×Int))/\(op=36\/op=37\/op=38\/op=39->∀t,idx env.2.2.2.2.1 m=aa t->UT op t)
def Fj{N:Nat}{op m:Int}{args:List Vl}{env:ik.den}(hx:VS op m env)(ha:(args.length:Int)=ar op)(NV:op=34->0<=agw.wrap (agN m 8)):Wp (M.iV N (op,m) args env) λb=>b=af->VT op m env:=by
 obtain⟨x7,x8,Pe,T9,ZJ⟩:=hx;unfold M.iV VT;dsimp only[az,Row.den]
 have no:∀{b:Bool},¬op=34->¬(op=36\/op=37\/op=38\/op=39)->b=af->(op=34->∀t,idx env.2.2.2.2.2 (agw.wrap (agN m 8))=aa t->t.2.1=((3,0):Int×Int)/\t.2.2.1=((4,0):Int×Int))/\(op=36\/op=37\/op=38\/op=39->∀t,idx env.2.2.2.2.1 m=aa t->UT op t):=λh1 h2 _=>⟨λe=>absurd e h1,λe=>absurd e h2⟩
 refine Wp.dec (λh=>?_) λh7=>?_
 .obtain⟨a,b⟩:=x7 h;exact Wp.bind (Wp.fa a b λx _ _=>by rw[gA];exact .some (no (by omega) (by omega)))
 refine Wp.dec (λh=>?_) λh8=>?_
 .obtain⟨a,b⟩:=x8 h;exact Wp.bind (Wp.fa a b λx _ _=>by rw[gA];exact .some (no (by omega) (by omega)))
 have aet:1<=ar op->0<args.length:=λh=>by omega
 refine Wp.dec (λh=>?_) λh33=>?_
 .obtain⟨a,b⟩:=Pe h
  have h1:ar op=1:=by rw[h];decide
  refine Wp.bind (Wp.fa a b λx _ _=>?_)
  refine Wp.seq (λ_=>True) ?_ λj _=> .some (no (by omega) (by omega))
  refine Wp.bind (Wp.fa (ahq 0) (by omega) λy _ _=>?_);rw[wL];simp only[agv,bp];exact .some trivial
 refine Wp.dec (λh=>?_) λU2=>?_
 .have b:=T9 h
  have h1:ar op=1:=by rw[h];decide
  refine Wp.bind (Wp.fa (NV h) b λx _ U3=>?_)
  refine Wp.seq (λj=>j=af->x.2.1=((3,0):Int×Int)/\x.2.2.1=((4,0):Int×Int)) ?_ λj hj=> .some λhb=>⟨λ_ t ht=>?_,λe=>by omega⟩
  .refine Wp.bind (Wp.fa (ahq 0) (by omega) λy _ _=>?_);simp only[bp,mW]
   refine .some λhb=>?_
   simp only[ahu,lH,aw]at hb;exact⟨hb.2.1,hb.2.2⟩
  .rw[U3]at ht;obtain rfl:=agx ht;exact hj hb
 rw[Ov];simp only[agv]
 refine Wp.dec (λh=>?_) λh36=>?_
 .obtain⟨a,b⟩:=ZJ h;refine Wp.bind (Wp.fa a b λx _ U3=>?_);rw[tH]
  refine .some λhb=>⟨λe=>absurd e U2,λ_ t ht=>?_⟩
  rw[U3]at ht;obtain rfl:=agx ht;simpa using hb
 have VU:∀b:Bool,b=af->_:=λb=>no (b:=b) U2 h36
 refine Wp.dec (λh=>?_) λ_=>?_
 .refine Wp.bind (Wp.fa (ahq 0) (by omega) λy _ _=>?_)
  exact Wp.seq _ (RL ..) λb _=> .some (VU b)
 refine Wp.dec (λh=>?_) λ_=>?_
 .refine Wp.bind (Wp.fa (ahq 0) (by omega) λy _ _=>?_);refine Wp.bind (Wp.fa (by omega) (by omega) λz _ _=>?_)
  exact Wp.seq _ (Ow ..) λb _=> .some (VU b)
 refine Wp.dec (λh=>?_) λ_=> .some (VU _)
 refine Wp.seq (λ_=>True) ?_ λb _=> .some (VU b)
 refine Wp.bind (Wp.fa (ahq 0) (by omega) λy _ _=>?_)
 refine Wp.dec (λ_=>?_) λ_=> .some trivial
 refine Wp.bind (Wp.fa (by omega) (by omega) λz _ _=>?_);refine Wp.bind (Wp.fa (by omega) (by omega) λz' _ _=>?_)
 exact Wp.seq _ (CR ..) λb _=> .some trivial
def Ce(c:Int):Prop:=c=0\/c=3\/c=12\/c=6\/c=8
def Cd.e{c:Int}(h:Cd c):Ce c:=by unfold Cd at h;unfold Ce;omega
theorem CU{op:Int}{t:Ty}{j:Nat}:{ms:List (List Vl)}->{first:Bool}->{acc c:Int}->pJ op t j ms first acc= .inr c->c=3\/c=6\/c=8
 |[],_,_,_,h=>by cases h
 |l::ms,first,acc,c,h=>by
  rw[pJ]at h;split at h
  .grind
  .split at h
   .grind
   .split at h
    .split at h
     .exact CU h
     grind
    grind
def Ox(op:Int)(t:Ty)(j:Nat)(ms:List (List Vl)):Ce (On op t j ms).2:=by
 grind [P.On,P.Ce,P.CU]
def kR(N:Nat)(b:Bool):Wp (M.ef N b) λ_=>True:=by
 unfold M.ef;simp only[bp];exact .some trivial
def Ma(op:Int)(a:Vl):Wp (M.oj aU op a) λ_=>True:=by
 unfold M.oj
 refine Wp.dec (λ_=> .some trivial) λ_=>?_
 refine Wp.dec (λ_=>Wp.seq _ (kR ..) λ_ _=> .some trivial) λ_=>?_
 refine Wp.seq _ (sr ..) λy _=>?_
 simp only[bp];exact .some trivial
def Fk(N:Nat)(a b:Int):Wp (M.lW N a b) λr=>Cd r.2:=by
 unfold M.lW
 refine Wp.seq _ (sq ..) λr _=>?_
 simp only[bp,agv];exact .some (Aw (Cd3 _) (Aw (Jo _) (Jo _)))
def I1{op m:Int}{a b:Vl}(hm:op=14\/op=15\/op=16->0<=m/\m<=5)(sz:13<=op/\op<=16):Wp (M.mP aU (op,m) a b) λr=>Cd r.2:=by
 unfold M.mP;dsimp only[az,Row.den]
 refine Wp.seq (λj=>Cd j.1) ?_ λj hj=> .some hj
 refine Wp.dec (λ_=>Wp.seq _ (Fk ..) λr hr=> .some hr) λXi=>?_
 have Ql:=hm (by omega);simp only[bp,agv,mW]
 refine Wp.ite (λ_=>Wp.seq _ (IY Ql) λr hr=> .some hr) λ_=>?_
 refine Wp.dec (λ_=>Wp.seq _ (Ou Ql) λr hr=> .some hr) λ_=>?_
 refine Wp.dec (λ_=>Wp.seq _ (Fh Ql) λr hr=> .some hr) λ_=>?_
 refine Wp.dec (λ_=>Wp.seq _ (mX _ Ql) λr hr=> .some hr) λ_=>?_
 exact Wp.seq _ (Ax Ql) λr hr=> .some hr
def I2{op m:Int}{a b:Vl}(hm:op=14\/op=15\/op=16->0<=m/\m<=5):Wp (M.mQ aU (op,m) a b) λr=>Cd r.2:=by
 unfold M.mQ;dsimp only[az,Row.den];rw[U0,Ov,U0];simp only[agv]
 refine Wp.ite (λ_=> .some (Jo 0)) λ_=>?_
 refine Wp.dec (λ_=> .some (Jo 0)) λ_=>?_
 refine Wp.dec (λh=>Wp.seq _ (I1 hm (by omega)) λr hr=> .some hr) λ_=>?_
 refine Wp.dec (λ_=>?_) λ_=>?_
 .simp only[bp];exact .some (by split<;>exact Jo 0)
 refine Wp.dec (λ_=>Wp.seq _ (kR ..) λ_ _=> .some (Jo 0)) λ_=>?_
 refine Wp.dec (λ_=>Wp.seq _ (kR ..) λ_ _=> .some (Jo 0)) λ_=>?_
 refine Wp.dec (λ_=>Wp.seq _ (kR ..) λ_ _=> .some (Jo 0)) λ_=>?_
 refine Wp.dec (λ_=>Wp.seq _ (kR ..) λ_ _=> .some (Jo 0)) λ_=>?_
 refine Wp.dec (λ_=>Wp.seq (λj=>j.1=0) (Wp.dec (λ_=>Wp.seq _ (kR ..) λ_ _=> .some rfl) λ_=>Wp.seq _ (kR ..) λ_ _=> .some rfl) λj hj=> .some (.inl hj)) λ_=>?_
 refine Wp.dec (λ_=>Wp.seq (λj=>j.1=0) (Wp.dec (λ_=>Wp.seq _ (kR ..) λ_ _=> .some rfl) λ_=>Wp.seq _ (kR ..) λ_ _=> .some rfl) λj hj=> .some (.inl hj)) λ_=>?_
 refine Wp.dec (λ_=>Wp.seq _ (su ..) λr hr=> .some hr) λ_=>?_
 refine Wp.dec (λ_=> .some (Jo 0)) λ_=>?_
 exact Wp.seq _ (uG ..) λr _=> .some (Jo 0)
def Fl{op m:Int}{args:List Vl}{env:ik.den}(he:mY env)(hf:Fm op m)(hx:VS op m env)(ha:(args.length:Int)=ar op)(ZK:VT op m env)(NV:op=34->0<=agw.wrap (agN m 8)):Wp (M.iW aU (op,m) args env) λr=>Ce r.2:=by
 obtain⟨x7,x8,Pe,T9,ZJ⟩:=hx;obtain⟨f0,f14,f34,_⟩:=hf;obtain⟨w34,w36⟩:=ZK;have MK:Ce 0:= .inl rfl;unfold M.iW;dsimp only[az,Row.den];rw[ZI,Ov];simp only[agv]
 refine Wp.dec (λ_=> .some MK) λ_=>?_
 refine Wp.dec (λ_=> .some MK) λ_=>?_
 refine Wp.dec (λh=>Wp.bind (Wp.fa (x7 h).1 (x7 h).2 λx _ _=> .some MK)) λ_=>?_
 refine Wp.dec (λh=>Wp.bind (Wp.fa (x8 h).1 (x8 h).2 λx _ _=> .some MK)) λ_=>?_
 refine Wp.dec (λ_=> .some MK) λ_=>?_
 refine Wp.dec (λ_=> .some MK) λ_=>?_
 refine Wp.dec (λh=>?_) λ_=>?_
 .obtain⟨a,b⟩:=ZJ h
  obtain⟨j,rfl⟩:∃j:Nat,m=j:=⟨m.toNat,by omega⟩
  have hj:j<env.2.2.2.2.1.length:=by omega
  rw[wN (by unfold aU;omega) h hj he.1 (w36 h _ (aB hj))];exact .some (Ox ..)
 refine Wp.dec (λh=>?_) λ_=>?_
 .have h1:ar op=1:=by rw[h];decide
  refine Wp.bind (Wp.fa (Pe h).1 (Pe h).2 λx hx _=>?_);refine Wp.bind (Wp.fa (ahq 0) (by omega) λy _ _=>?_)
  refine Wp.seq _ (IZ _ _ _ (he.2 x hx)) λr hr=>?_
  refine Wp.ite (λ_=> .some (by unfold Ce;omega)) λhc=>?_
  obtain⟨a,b⟩:=hr (by simpa using hc);exact Wp.bind (Wp.fa a b λz _ _=> .some MK)
 refine Wp.dec (λh=>?_) λ_=>?_
 .have h1:ar op=1:=by rw[h];decide
  refine Wp.bind (Wp.fa (NV h) (T9 h) λx hx U3=>?_);refine Wp.bind (Wp.fa (ahq 0) (by omega) λy _ _=>?_);obtain⟨k1,k2⟩:=w34 h x U3;obtain⟨m1,m2⟩:=f34 h
  have:0<=aha m 8:=by rw[Int.tmod_eq_emod_of_nonneg m1];omega
  exact Wp.seq _ (CQ ⟨this,m2⟩ k1 k2 (he.2 x hx)) λr hr=> .some hr.e
 refine Wp.dec (λh=>?_) λ_=>?_
 .refine Wp.bind (Wp.fa (ahq 0) (by omega) λy _ _=>?_)
  exact Wp.seq _ (Ma ..) λr _=> .some MK
 refine Wp.dec (λh=>?_) λ_=>?_
 .refine Wp.bind (Wp.fa (ahq 0) (by omega) λy _ _=>?_);refine Wp.bind (Wp.fa (by omega) (by omega) λz _ _=>?_)
  exact Wp.seq _ (I2 f14) λr hr=> .some hr.e
 have h3:ar op=3:=by
  have:¬ar op=0:=by unfold ar;split<;>(try split)<;>(try split)<;>(try split)<;>omega
  have:=qC op;omega
 refine Wp.bind (Wp.fa (ahq 0) (by omega) λy _ _=>?_)
 refine Wp.dec (λ_=>Wp.bind (Wp.fa (by omega) (by omega) λz _ _=> .some MK)) λ_=>Wp.bind (Wp.fa (by omega) (by omega) λz _ _=> .some MK)
structure U4(r:Vl×Int):Prop where
 ok:r.2=0->fF r.1.1 r.1.2.1 r.1.2.2
 bad:r.2≠0->r.1=((0,0,0):Int×Int×Int)
 code:r.2=0\/r.2=2\/r.2=3\/r.2=6\/r.2=8\/r.2=12
def Mb{n:Ty}{args:List Vl}{env:ik.den}(he:mY env)(hn:WF ay n)(hl:args.length<=100000):Wp (M.dG aU n args env) U4:=by
 obtain⟨op,m⟩:=n;have hm:=hn.2;unfold M.dG
 have err:∀c:Int,c≠0->(c=2\/c=3\/c=6\/c=8\/c=12)->U4 (((0:Int),((0:Int),(0:Int))),c):=λc h1 h2=>⟨λh=>absurd h h1,λ_=>rfl, .inr h2⟩
 refine Wp.seq (λj=>j=ag->Fm op m/\(args.length:Int)=ar op) ?_ λj hj=>?_
 .refine Wp.seq _ (yL ..) λy hy=>?_
  refine Wp.ite (λ_=> .some λh=>by cases h) λhc=>?_
  rw[pK];exact .some (by grind)
 refine Wp.ite (λ_=> .some (err 2 (by decide) (by omega))) λhc=>?_
 obtain⟨hf,ha⟩:=hj (by simpa using hc)
 refine Wp.seq _ (I0 ..) λy hy=>?_
 refine Wp.ite (λ_=> .some (err 6 (by decide) (by omega))) λAN=>?_
 have hx:=hy (by simpa using AN)
 have NV:op=34->0<=agw.wrap (agN m 8):=λe=>by
  have h0:=(hf.2.2.1 e).1;have h1:(m:Int)<=9223372036854775807:=hm.2;rw[Int.tdiv_eq_ediv_of_nonneg h0];dsimp only[az,Row.den]at h0 h1⊢
  grind [bL]
 refine Wp.seq (λj=>j=ag->VT op m env) ?_ λj5 hj5=>?_
 .refine Wp.seq _ (L9 _ hl (by unfold aU;omega)) λy _=>?_
  refine Wp.ite (λ_=> .some λh=>by cases h) λ_=>?_
  exact Wp.seq _ (Fj hx ha NV) λz hz=> .some λh=>hz (by simpa using h)
 refine Wp.ite (λ_=> .some (err 8 (by decide) (by omega))) λKa=>?_
 have ZK:=hj5 (by simpa using Ka)
 refine Wp.seq _ (Fl he hf hx ha ZK NV) λr hr=>?_
 refine Wp.kK (λh=> .some (err _ h (by unfold Ce at hr;omega))) λ_=>?_
 rw[gA];simp only[agv]
 refine Wp.kK (λ_=> .some (err 3 (by decide) (by omega))) λhp=> .some ⟨λ_=>hp,λh=>absurd rfl h, .inl rfl⟩
end L.P
namespace L.P
abbrev eD(l:List Nat):List Int:=l.map (λn:Nat=>(n:Int))
def u9(a:Int)(i:Nat)(sk:List Nat):Nat:=if a=0 then i else sk.getD (sk.length-a.toNat) 0
def jQ:List Ty->Nat->List Nat->List Nat->(Nat×Int)⊕(List Nat×List Nat)
 |[],_,st,sk=> .inr (st,sk)
 |n::e,i,st,sk=>
  if ar n.1<0 then .inl (i,2)else if(sk.length:Int)<ar n.1 then .inl (i,5)else
  if 12<sk.length-(ar n.1).toNat+1 then .inl (i,16)else jQ e (i+1) (st++[u9 (ar n.1) i sk]) (sk.take (sk.length-(ar n.1).toNat)++[u9 (ar n.1) i sk])
def qt(e:List Ty):Int×Int×List Int:=
 if 48<e.length then(0,4,[])else if e.length=0 then(0,5,[])else match jQ e 0 [] []with
  | .inl (i,c)=>(i,c,[])
  | .inr (st,sk)=>if 1<sk.length then(e.length,4,[])else(0,0,eD st)
def z7(st:List Nat)(m:Nat)(v:Nat):bm (eD st++agE (m+1) (0:Int)) (st.length:Int) (v:Int)=eD (st++[v])++agE m (0:Int):=by
 grind [bm]
def tA(st:List Nat)(m:Nat)(u v:Nat):bm (eD (st++[u])++agE m (0:Int)) (st.length:Int) (v:Int)=eD (st++[v])++agE m (0:Int):=by
 unfold bm
 simp_all
def sv(e:List Ty):M.eT aU e=aa (qt e):=by
 apply Wp.eq;unfold M.eT qt
 refine Wp.dec (λh=> .some ?_) λh1=>?_
 .grind
 rw[ai (show¬48<e.length by omega)]
 refine Wp.dec (λh=> .some ?_) λh2=>?_
 .grind
 rw[ai (show¬e.length=0 by omega)]
 have ND:oM (e.length:Int) (0:Int)=aa (agE e.length 0):=by
  unfold oM;rw[aj (by omega),agD]
 rw[ND];simp only[agv];refine Wp.join (Wp.loop (λs:Int×List Int×List Int=>∃st sk:List Nat,s=((st.length:Int),eD st++agE (e.length-st.length) 0,eD sk)/\st.length<=e.length/\sk.length<=12/\jQ (e.drop st.length) st.length st sk=jQ e 0 [] []) (λs=>(e.length-s.1).toNat) ⟨[],[],by simp,by simp,by simp,by simp⟩ (by simp only;unfold aU;omega) ?_)
 rintro _ ⟨st,sk,rfl,gM,hsk,bz⟩
 simp only
 refine Wp.dec (λhk=>?_) λhk=> .some ?_
 case refine_2=>
  have hd:e.drop st.length=[]:=ahb (by omega);rw[hd]at bz;rw[<-bz]
  have h0:e.length-st.length=0:=by omega
  rw[h0];simp only[jQ,List.replicate_zero,List.append_nil]
  show Wp _ _
  refine Wp.dec (λh=> .some ?_) λh=> .some ?_
  all_goals grind
 have lf:st.length<e.length:=by omega
 have hd:e.drop st.length=e[st.length]::e.drop (st.length+1):=agJ lf
 obtain⟨m,hm⟩:∃m,e.length-st.length=m+1:=⟨e.length-st.length-1,by omega⟩
 rw[hd]at bz;rw[aB lf,hm];simp only[agv,pK];generalize sz:(e[st.length].1:Int)=op;rw[jQ]at bz;rw[sz]at bz;have VH:=qC op
 refine Wp.dec (λh=> .some ?_) λIA=>?_
 .rw[aj h]at bz
  show _=_
  rw[<-bz]
 rw[ai IA]at bz
 refine Wp.dec (λh=> .some ?_) λhlen=>?_
 .rw[aj (by simpa using h)]at bz
  show _=_
  rw[<-bz]
 have hlen:¬(sk.length:Int)<ar op:=by simpa using hlen
 rw[ai hlen]at bz
 obtain⟨a,ha⟩:∃a:Nat,ar op=a:=⟨(ar op).toNat,by omega⟩
 rw[ha]at bz IA hlen VH⊢
 have Zj:a<=sk.length:=by omega
 have e6:idx (eD st++agE (m+1) (0:Int)) (st.length:Int)=aa 0:=by
  rw[aB (by simp)];rw[ahh (by simp)];simp
 rw[e6]
 have hw:agw.wrap (((eD sk).length:Int)-(a:Int))=((sk.length-a:Nat):Int):=by
  rw[List.length_map,bL (by omega) (by omega)];omega
 have hs:u9 (a:Int) st.length sk=(if a=0 then st.length else sk.getD (sk.length-a) 0):=by
  unfold u9;by_cases h0:a=0
  .subst h0;simp
  .grind
 simp only[agv,z7,hw];refine Wp.seq (· =eD (st++[u9 (a:Int) st.length sk])++agE m (0:Int)) ?_ ?_
 .refine Wp.dec (λh=>?_) λh=>?_
  .have aH:sk.length-a<(eD sk).length:=by simp;omega
   rw[aB aH]
   have e9:idx (eD (st++[st.length])++agE m (0:Int)) (st.length:Int)=aa (st.length:Int):=by
    rw[aB (by simp)];rw[ahk (by simp)];simp
   simp only[agv,e9,List.getElem_map,tA];refine .some ?_
   grind
  .refine .some ?_
   grind
 .rintro _ rfl
  generalize u9 (a:Int) st.length sk=s at bz⊢
  have Dw:ga (eD sk) (0:Int) ((sk.length-a:Nat):Int)=aa (eD (sk.take (sk.length-a))):=by
   rw[qe (by simp)];simp
  have Zk:idx (eD (st++[s])++agE m (0:Int)) (st.length:Int)=aa (s:Int):=by
   rw[aB (by simp)];rw[ahk (by simp)];simp
  have Rl:cm (eD (sk.take (sk.length-a))) [(s:Int)]=aa (eD (sk.take (sk.length-a)++[s])):=by
   rw[dW (by simp;omega)];simp
  rw[Dw];simp only[agv,Zk,Rl]
  have hl:(eD (sk.take (sk.length-a)++[s])).length=sk.length-a+1:=by simp
  rw[hl];rw[agD]at bz
  refine Wp.dec (λh=> .some ?_) λh=> .some ?_
  .rw[aj (by omega)]at bz
   show _=_
   rw[<-bz]
  .rw[ai (by omega)]at bz;rw[aP (by omega)];refine⟨⟨st++[s],sk.take (sk.length-a)++[s],?_,by simp;omega,by simp;omega,?_⟩,by grind⟩
   all_goals grind
inductive Ch(st:List Nat):Nat->List Nat->Prop
 |nil:Ch st 0 []
 |snoc {i s:Nat} {l:List Nat} (h:st[i]? =aa s) (hs:s<=i) (c:Ch st s l):Ch st (i+1) (l++[s])
def Ch.mono{st cO:List Nat}(hs:∀i s:Nat,st[i]? =aa s->cO[i]? =aa s){i:Nat}{l:List Nat}(h:Ch st i l):Ch cO i l:=by
 induction h with
 |nil=>exact .nil
 |snoc h1 h2 _ ih=>exact .snoc (hs _ _ h1) h2 ih
def sx{st:List Nat}{x i s:Nat}(h:st[i]? =aa s):(st++[x])[i]? =aa s:=by
 grind
def Ch.lt{st:List Nat}{i:Nat}{l:List Nat}(h:Ch st i l):∀x∈l,x<i:=by
 induction h<;>grind
def Ch.take{st:List Nat}{i:Nat}{l:List Nat}(h:Ch st i l):∀m(hm:m<l.length),Ch st l[m] (l.take m):=by
 induction h<;>grind
def Ch.Lu{st:List Nat}{i:Nat}{l l':List Nat}(h:Ch st i l)(h':Ch st i l'):l=l':=by
 induction h generalizing l' with
 |nil=>cases h'<;>grind
 | @snoc i s l h1 h2 c ih=>
   cases h'<;>grind
structure Dr(e:List Ty)(st:List Nat):Prop where
 len:st.length=e.length
 node:∀p(h:p<e.length),0<=ar e[p].1/\∃l,Ch st p l/\(ar e[p].1).toNat<=l.length/\l.length-(ar e[p].1).toNat+1<=12/\st[p]? =aa (u9 (ar e[p].1) p l)
theorem Dr.nil:Dr [] []:=⟨rfl,λp h=>by simp at h⟩
def Dr.snoc{e:List Ty}{st:List Nat}(v:Dr e st){n:Ty}{sk:List Nat}(h0:0<=ar n.1)(hc:Ch st e.length sk)(ha:(ar n.1).toNat<=sk.length)(hd:sk.length-(ar n.1).toNat+1<=12):Dr (e++[n]) (st++[u9 (ar n.1) e.length sk]):=by
 refine⟨by simp[v.len],λp hp=>?_⟩;by_cases h:p<e.length
 .rw[ahk h];obtain⟨h1,l,h2,h3,h4,h5⟩:=v.node p h;exact⟨h1,l,h2.mono λ_ _ h=>sx h,h3,h4,sx h5⟩
 .have:p=e.length:=by simp at hp;omega
  subst this;rw[ahh (by omega)];simp only[Nat.sub_self,List.getElem_cons_zero];refine⟨h0,sk,hc.mono λ_ _ h=>sx h,ha,hd,?_⟩
  grind [P.Dr.len]
def RM{a:Int}{i:Nat}{st l:List Nat}(h0:0<=a)(hc:Ch st i l)(ha:a.toNat<=l.length):u9 a i l<=i:=by
 unfold u9;split
 .grind
 .have aH:l.length-a.toNat<l.length:=by omega
  simp only[List.getD,agz aH,Option.getD_some];exact ahL (hc.lt _ (agA aH))
def Ch.next{st l:List Nat}{i:Nat}{a:Int}(h0:0<=a)(hc:Ch st i l)(ha:a.toNat<=l.length)(hs:st[i]? =aa (u9 a i l)):Ch st (i+1) (l.take (l.length-a.toNat)++[u9 a i l]):=by
 refine .snoc hs (RM h0 hc ha) ?_;unfold u9;by_cases h:a=0
 .simp_all
 .have aH:l.length-a.toNat<l.length:=by omega
  rw[ai h];simp only[List.getD,agz aH,Option.getD_some];exact hc.take _ aH
def CV:∀(ML pre:List Ty)(st sk cO MF:List Nat),Dr pre st->Ch st pre.length sk->jQ ML pre.length st sk= .inr (cO,MF)->Dr (pre++ML) cO/\Ch cO (pre++ML).length MF
 |[],pre,st,sk,cO,MF,v,c,h=>by
  grind [P.jQ]
 |n::ML,pre,st,sk,cO,MF,v,c,h=>by
  rw[jQ]at h;split at h
  .cases h
  split at h
  .cases h
  split at h
  .cases h
  rename_i h1 h2 h3
  have h0:0<=ar n.1:=by omega
  have ha:(ar n.1).toNat<=sk.length:=by omega
  have v':=v.snoc h0 c ha (by omega)
  have c1:Ch (st++[u9 (ar n.1) pre.length sk]) pre.length sk:=c.mono λ_ _ h=>sx h
  have hs:(st++[u9 (ar n.1) pre.length sk])[pre.length]? =aa (u9 (ar n.1) pre.length sk):=by
   rw[<-v.len,List.getElem?_append_right (by omega)];simp[v.len]
  have c':=c1.next h0 ha hs;have:=CV ML (pre++[n]) _ _ cO MF v' (by simpa using c') (by simpa using h)
  grind
def CW{e:List Ty}{st:List Nat}(v:Dr e st):∀(ML pre:List Ty)(sk:List Nat),pre++ML=e->Ch st pre.length sk->∃MF,jQ ML pre.length (st.take pre.length) sk= .inr (st,MF)/\Ch st e.length MF
 |[],pre,sk,he,c=>by
  rw[List.append_nil]at he;subst he;exact⟨sk,by rw[jQ,<-v.len,List.take_length],c⟩
 |n::ML,pre,sk,he,c=>by
  subst he;obtain⟨h0,l,h1,h2,h3,h4⟩:=v.node pre.length (by simp);rw[ahh (by omega)]at h0 h2 h3 h4;simp only[Nat.sub_self,List.getElem_cons_zero]at h0 h2 h3 h4;obtain rfl:=h1.Lu c;rw[jQ,ai (by omega),ai (by omega),ai (by omega)];have c':=c.next h0 h2 h4;obtain⟨MF,g1,g2⟩:=CW v ML (pre++[n]) _ (by simp) (by simpa using c')
  grind [List.take_succ_eq_append_getElem]
end L.P
namespace L.P
def opsL(st:List Nat):Nat->Nat->List Nat
 |0,_=>[]
 |a+1,i=>opsL st a (st.getD (i-1) 0)++[i-1]
def wR(st:List Nat):∀a i,(opsL st a i).length=a
 |0,_=>rfl
 |a+1,i=>by simp[opsL,wR st a]
def RN{st l:List Nat}{i:Nat}(c:Ch st i l):∀a,a<=l.length->(∀o∈opsL st a i,o<i/\(if h:l.length-a<l.length then l[l.length-a]else i)<=o/\∃s,st[o]? =aa s/\s<=o/\(if h:l.length-a<l.length then l[l.length-a]else i)<=s):=by
 induction c with
 |nil=>intro a ha o ho;simp at ha;subst ha;simp[opsL]at ho
 | @snoc i s l h1 h2 c ih=>
   intro a ha o ho
   cases a with
   |zero=>simp[opsL]at ho
   |succ a=>
    have aH:(l++[s]).length-(a+1)<(l++[s]).length:=by simp;omega
    rw[dif_pos aH]
    have e1:(l++[s])[(l++[s]).length-(a+1)]=(if h:l.length-a<l.length then l[l.length-a]else s):=by
     split
     .grind
     .grind
    rw[e1]
    have hg:st.getD (i+1-1) 0=s:=by simp[List.getD,h1]
    rw[opsL,hg]at ho;simp at ha
    have hle:(if h:l.length-a<l.length then l[l.length-a]else s)<=s:=by
     split
     .rename_i h;exact ahL (c.lt _ (agA h))
     .exact agB _
    grind
def Dr.ops{e:List Ty}{st:List Nat}(v:Dr e st){p:Nat}(h:p<e.length):∀o∈opsL st (ar e[p].1).toNat p,o<p/\∃s t,st[o]? =aa s/\s<=o/\st[p]? =aa t/\t<=s:=by
 obtain⟨h0,l,h1,h2,_,h4⟩:=v.node p h;intro o ho;obtain⟨g1,g2,s,g3,g4,g5⟩:=RN h1 _ h2 o ho;refine⟨g1,s,_,g3,g4,h4,?_⟩
 grind [P.u9]
def z3:Vl:=((0,0,0):Int×Int×Int)
def fN(g:Nat->Vl×Int):List Nat->List Vl⊕Int
 |[]=> .inl []
 |o::os=>if(g o).2=0 then(match fN g os with
  | .inl vs=> .inl ((g o).1::vs)
  | .inr c=> .inr c)else .inr (g o).2
def lS(r:Vl×Int):Vl×Int:=if r.2≠0 then(z3,r.2)else if(r.1.1:Int)=1/\fF r.1.1 r.1.2.1 r.1.2.2 then(r.1,0)else(z3,8)
def yM(g:Nat->Vl×Int)(n:Ty)(ops:List Nat):Vl×Int:=
 if(n.2:Int)≠0 then(z3,2)else
 if(lS (g (ops.getD 0 0))).2≠0 then(z3,(lS (g (ops.getD 0 0))).2)else
 if(n.1:Int)=26/\((lS (g (ops.getD 0 0))).1.2.2:Int)=1 then g (ops.getD 1 0)else
 if(n.1:Int)=26 then g (ops.getD 2 0)else
 if((n.1:Int)=23)=(((lS (g (ops.getD 0 0))).1.2.2:Int)=0)then((lS (g (ops.getD 0 0))).1,0)else lS (g (ops.getD 1 0))
def tI(op:Int):Prop:=op=23\/op=24\/op=26
instance(op:Int):Decidable (tI op):=by unfold tI;infer_instance
noncomputable def lT(ap:Ty->List Vl->Vl×Int)(e:List Ty)(st:List Nat):Nat->Nat->Vl×Int
 |0,_=>(z3,0)
 |f+1,i=>if tI (e.getD i ((0,0):Int×Int)).1 then yM (lT ap e st f) (e.getD i ((0,0):Int×Int)) (opsL st (ar (e.getD i ((0,0):Int×Int)).1).toNat i)
  else match fN (lT ap e st f) (opsL st (ar (e.getD i ((0,0):Int×Int)).1).toNat i)with
   | .inl vs=>ap (e.getD i ((0,0):Int×Int)) vs
   | .inr c=>(z3,c)
def CX{e:List Ty}{st:List Nat}(v:Dr e st)(hl:e.length<=100000)(env:ik.den){i:Nat}(hi:i<e.length):M.dS aU (e,(eD st,env)) (i:Int)=aa (eD (opsL st (ar e[i].1).toNat i)):=by
 apply Wp.eq;obtain⟨h0,l,hc,ha,hd,_⟩:=v.node i hi;unfold M.dS;simp only;rw[aB hi];simp only[agv,pK]
 obtain⟨a,hea⟩:∃a:Nat,ar e[i].1=a:=⟨(ar e[i].1).toNat,by omega⟩
 have hle:=qC e[i].1;rw[hea]at ha hle⊢;rw[agD]at ha⊢
 have ND:oM (a:Int) (0:Int)=aa (agE a 0):=by
  unfold oM;rw[aj (by omega),agD]
 rw[ND];simp only[agv,List.length_replicate];refine Wp.loop (λs:Int×Int×List Int=>∃b p:Nat,∃dn l':List Nat,s=((p:Int)-1,(b:Int)-1,agE b (0:Int)++eD dn)/\b<=a/\p<=i/\opsL st a i=opsL st b p++dn/\Ch st p l'/\b<=l'.length) (λs=>(s.2.1+1).toNat) ⟨a,i,[],l,?_,agB _,agB _,by simp,hc,ha⟩ ?_ ?_
 .rw[bL (by omega) (by omega),bL (by omega) (by omega)];simp
 .simp only;rw[bL (n:=(a:Int)-1) (by omega) (by omega)];unfold aU;omega
 .rintro _ ⟨b,p,dn,l',rfl,h1,h2,h3,h4,h5⟩
  simp only
  refine Wp.dec (λhb=>?_) λhb=> .some ?_
  .obtain⟨b,rfl⟩:∃m,b=m+1:=⟨b-1,by omega⟩
   cases h4 with
   |nil=>simp at h5
   | @snoc p u l' g1 g2 c=>
     simp at h5;have hp:p<st.length:=(agL.1 g1).1
     have e5:idx (agE (b+1) (0:Int)++eD dn) (((b+1:Nat):Int)-1)=aa 0:=by
      rw[show((b+1:Nat):Int)-1=(b:Int) by omega,aB (by simp;omega),ahk (by simp)];simp
     have e6:idx (eD st) (((p+1:Nat):Int)-1)=aa (u:Int):=by
      rw[show((p+1:Nat):Int)-1=(p:Int) by omega,aB (by simpa using hp)];have:=(agL.1 g1).2;simp[this]
     rw[e5,e6];simp only[agv];rw[bL (n:=(u:Int)-1) (by omega) (by omega),bL (n:=(((b+1:Nat):Int)-1)-1) (by omega) (by omega)];refine .some ⟨⟨b,u,p::dn,l',?_,by omega,by omega,?_,c,h5⟩,by simp only;omega⟩
     .have e7:bm (agE (b+1) (0:Int)++eD dn) (((b+1:Nat):Int)-1) (((p+1:Nat):Int)-1)=agE b (0:Int)++eD (p::dn):=by
       unfold bm;rw[show(((b+1:Nat):Int)-1).toNat=b by omega,show((p+1:Nat):Int)-1=(p:Int) by omega,List.replicate_succ',ahr,List.set_append_right _ _ (by simp)];simp
      rw[e7];simp only[Prod.mk.injEq,and_true,true_and];omega
     .rw[h3,opsL]
      have:st.getD (p+1-1) 0=u:=by simp[List.getD,g1]
      rw[this];simp
  .obtain rfl:b=0:=by omega
   show _=_
   rw[h3];simp[opsL]
noncomputable def CY(env:ik.den)(n:Ty)(args:List Vl):Vl×Int:=(M.dG aU n args env).getD (z3,0)
def PC{env:ik.den}(he:mY env){n:Ty}(hn:WF ay n){args:List Vl}(hl:args.length<=100000):M.dG aU n args env=aa (CY env n args):=by
 obtain⟨r,hr,_⟩:=Mb (n:=n) (args:=args) he hn hl;unfold CY;rw[hr];rfl
def wS{N:Nat}{x:bE.den}{o:Int}{r:Vl×Int}(h:M.bN aU N x o=aa r):M.cZ aU (N+1) x o=aa (lS r):=by
 unfold M.cZ lS;rw[h];simp only[agv,gA];by_cases h0:r.2=0
 .by_cases h1:(r.1.1:Int)=1
  .by_cases h2:fF r.1.1 r.1.2.1 r.1.2.2
   .rw[h1]at h2;simp[h0,h1,h2]
   .rw[h1]at h2;simp[h0,h1,h2,z3]
  .simp[h0,h1,z3]
 .simp[h0,z3]
def pL{g:Nat->Vl×Int}:∀(os:List Nat)(k:Nat),k<=os.length->∀vs,fN g (os.take k)= .inl vs->fN g os=(match fN g (os.drop k)with
 | .inl ws=> .inl (vs++ws)
 | .inr c=> .inr c)
 |os,0,_,vs,h=>by
  grind [P.fN]
 |[],k+1,h,_,_=>by simp at h
 |o::os,k+1,hk,vs,h=>by
  rw[List.take_succ_cons,fN]at h;split at h
  .rename_i h0
   cases hq:fN g (os.take k)with
   |inr c=>rw[hq]at h;cases h
   |inl ws=>
    rw[hq]at h;cases h;have:=pL os k (by simpa using hk) ws hq;rw[fN,aj h0,this,List.drop_succ_cons]
    cases fN g (os.drop k)<;>rfl
  .cases h
def yN{g:Nat->Vl×Int}:∀{os:List Nat}{vs:List Vl},fN g os= .inl vs->vs.length=os.length
 |[],vs,h=>by cases h;rfl
 |o::os,vs,h=>by
  rw[fN]at h;split at h
  .cases hq:fN g os with
   |inr c=>rw[hq]at h;cases h
   |inl ws=>rw[hq]at h;cases h;simp[yN hq]
  .cases h
def Oy{e:List Ty}{st:List Nat}(v:Dr e st)(hl:e.length<=100000){env:ik.den}(he:mY env)(hw:∀n∈e,WF ay n):∀(f N i:Nat),i<f->i<e.length->3*f<=N->M.bN aU N (e,(eD st,env)) (i:Int)=aa (lT (CY env) e st f i):=by
 intro f
 induction f with
 |zero=>intro N i h;omega
 |succ f ih=>
  intro N i hif hi hN
  obtain⟨N,rfl⟩:∃m,N=m+3:=⟨N-3,by omega⟩
  have ZL:=v.ops hi
  have hge:e.getD i ((0,0):Int×Int)=e[i]:=by simp[List.getD,hi]
  have hlen:=wR st (ar e[i].1).toNat i;have VH:=qC e[i].1
  have CZ:∀M',3*f<=M'->∀o∈opsL st (ar e[i].1).toNat i,M.bN aU M' (e,(eD st,env)) (o:Int)=aa (lT (CY env) e st f o):=by
   intro M' hM' o ho;obtain⟨g1,_⟩:=ZL o ho;exact ih M' o (by omega) (by omega) hM'
  unfold lT M.bN;rw[hge,CX v hl env hi];simp only;rw[aB hi];simp only[agv];rw[U1];simp only[agv];have hwf:=hw e[i] (agA hi);generalize aeA:opsL st (ar e[i].1).toNat i=ops at*;by_cases hz:tI e[i].1
  .rw[aj hz,aj (by simpa[tI]using hz)]
   have ha2:2<=ops.length/\((e[i].1:Int)=26->3<=ops.length):=by
    have:2<=ar e[i].1/\((e[i].1:Int)=26->ar e[i].1=3):=by
     revert hz;generalize(e[i].1:Int)=op;intro hz
     rcases hz with rfl|rfl|rfl<;>decide
    refine⟨by omega,λh=>?_⟩;have:=this.2 h;omega
   have gd:∀k(hk:k<ops.length),idx (eD ops) (k:Int)=aa ((ops.getD k 0:Nat):Int)/\ops.getD k 0∈ops:=by
    intro k hk
    have:ops.getD k 0=ops[k]:=by simp[List.getD,hk]
    rw[this];refine⟨?_,agA hk⟩;rw[aB (by simpa using hk)];simp
   obtain⟨i0,m0⟩:=gd 0 (by omega);obtain⟨i1,m1⟩:=gd 1 (by omega);unfold M.gR;rw[show((0:Nat):Int)=0 from rfl]at i0;rw[show((1:Nat):Int)=1 from rfl]at i1;rw[i0,i1];simp only[agv];rw[wS (CZ N (by omega) _ m0),wS (CZ N (by omega) _ m1),CZ (N+1) (by omega) _ m1];simp only[agv,bp,mW];unfold yM;generalize hb:lS (lT (CY env) e st f (ops.getD 0 0))=b;by_cases h2:(e[i].2:Int)=0
   .rw[ai (by simp[h2])];by_cases Pk:b.2=0
    .rw[ai (by simp[Pk])];by_cases VV:(e[i].1:Int)=26
     .obtain⟨i2,m2⟩:=gd 2 (by have:=ha2.2 VV;omega);rw[show((2:Nat):Int)=2 from rfl]at i2;rw[i2];simp only[agv];rw[CZ (N+1) (by omega) _ m2];by_cases hn:(b.1.2.2:Int)=1
      .simp[h2,Pk,VV,hn]
      .simp[h2,Pk,VV,hn]
     .by_cases h23:(e[i].1:Int)=23<;>by_cases hn:(b.1.2.2:Int)=0<;>simp[h2,Pk,VV,h23,hn]
    .simp[h2,Pk,z3]
   .simp[h2,z3]
  .rw[ai hz,ai (by simpa[tI]using hz)]
   have ND:oM ((eD ops).length:Int) ((0:Int),((0:Int),(0:Int)))=aa (agE ops.length z3):=by
    unfold oM;rw[aj (by simp;omega)];simp[z3]
   rw[ND];simp only[agv];apply Wp.eq;refine Wp.join (Wp.loop (λs:Int×List Vl=>∃vs:List Vl,s=((vs.length:Int),vs++agE (ops.length-vs.length) z3)/\vs.length<=ops.length/\fN (lT (CY env) e st f) (ops.take vs.length)= .inl vs) (λs=>(ops.length-s.1).toNat) ⟨[],by simp,by simp,by simp[fN]⟩ (by simp only;unfold aU;omega) ?_)
   rintro _ ⟨vs,rfl,Wg,hva⟩
   simp only;have uk:=pL ops vs.length Wg vs hva
   refine Wp.dec (λhk=>?_) λhk=> .some ?_
   .have lf:vs.length<ops.length:=by simp at hk;omega
    have ZM:vs.length<(eD ops).length:=by simpa using lf
    rw[aB ZM];simp only[agv,List.getElem_map];rw[CZ (N+2) (by omega) _ (agA lf)];simp only[agv];have hd:ops.drop vs.length=ops[vs.length]::ops.drop (vs.length+1):=agJ lf;rw[hd,fN]at uk;have ht:ops.take (vs.length+1)=ops.take vs.length++[ops[vs.length]]:=List.take_succ_eq_append_getElem lf
    obtain⟨r,hr⟩:∃r,lT (CY env) e st f ops[vs.length]=r:=⟨_,rfl⟩
    rw[hr]at uk⊢;by_cases h0:r.2=0
    .rw[ai (by simp[h0])]
     obtain⟨m,hm⟩:∃m,ops.length-vs.length=m+1:=⟨ops.length-vs.length-1,by omega⟩
     rw[hm]
     have e8:idx (vs++agE (m+1) z3) (vs.length:Int)=aa z3:=by
      rw[aB (by simp),ahh (by omega)];simp
     have e9:bm (vs++agE (m+1) z3) (vs.length:Int) r.1=(vs++[r.1])++agE m z3:=by
      unfold bm;rw[agD,List.set_append_right _ _ (by omega),List.replicate_succ];simp
     rw[e8];simp only[agv,e9];rw[aP (by omega)]
     have lv:fN (lT (CY env) e st f) [ops[vs.length]]= .inl [r.1]:=by
      simp only[fN,hr];rw[aj h0]
     have M5:=pL (g:=lT (CY env) e st f) (ops.take (vs.length+1)) vs.length (by simp;omega) vs (by rw[List.take_take,ahw (by omega)];exact hva);rw[ht,List.drop_append_of_le_length (by simp;omega),ahb (by simp;omega),List.nil_append,lv]at M5;refine .some ⟨⟨vs++[r.1],?_,by simp;omega,?_⟩,by simp only;omega⟩
     .have:ops.length-(vs++[r.1]).length=m:=by simp;omega
      rw[this];simp
     .rw[show(vs++[r.1]).length=vs.length+1 by simp,ht];exact M5
    .rw[aj (by simp[h0])];rw[ai h0]at uk;refine .some ?_
     show _=_
     rw[uk];rfl
   .have VI:ops.drop vs.length=[]:=ahb (by simp at hk;omega);rw[VI,fN]at uk;rw[uk]
    have h0:ops.length-vs.length=0:=by simp at hk;omega
    rw[h0];simp only[List.replicate_zero,List.append_nil]
    show Wp ((M.dG aU e[i] vs env).bind λUZ=>aa (UZ.1,UZ.2)) _
    rw[PC he hwf (by omega)];exact .some rfl
end L.P
namespace L.P
structure Whole(e:List Ty)(st:List Nat):Prop where
 val:Dr e st
 ne:e≠[]
 le:e.length<=48
 one:st[e.length-1]? =aa 0
 res:qt e=(0,0,eD st)
def yO:∀(e:List Ty)(i:Nat)(st sk:List Nat)(j:Nat)(c:Int),jQ e i st sk= .inl (j,c)->c=2\/c=5\/c=16
 |[],_,_,_,_,_,h=>by rw[jQ]at h;cases h
 |n::e,i,st,sk,j,c,h=>by
  rw[jQ]at h;split at h
  .cases h;exact .inl rfl
  split at h
  .cases h;exact .inr (.inl rfl)
  split at h
  .cases h;exact .inr (.inr rfl)
  exact yO e _ _ _ j c h
def Ch.Oz{st l:List Nat}{n:Nat}(h:Ch st n l)(hl:l=[]):n=0:=by
 cases h with
 |nil=>rfl
 |snoc=>simp at hl
def Ch.Mc{st l:List Nat}{n:Nat}(h:Ch st n l)(hl:n=0):l=[]:=by
 cases h with
 |nil=>rfl
 |snoc=>omega
def Ch.one{st l:List Nat}{n:Nat}(h:Ch st n l)(hn:0<n):l.length<=1↔st[n-1]? =aa 0:=by
 cases h with
 |nil=>omega
 | @snoc i s l h1 h2 c=>
   rw[Nat.add_sub_cancel,h1];constructor
   .intro hl;have:l=[]:=List.length_eq_zero_iff.1 (by rw[List.length_append,List.length_singleton]at hl;omega);rw[c.Oz this]
   .intro hs
    have h0:s=0:=by simpa using hs
    rw[h0]at c;rw[c.Mc rfl];simp
def Md{e:List Ty}{st:List Nat}(v:Dr e st)(du:e≠[])(hl:e.length<=48)(h1:st[e.length-1]? =aa 0):Whole e st:=by
 have oV:0<e.length:=List.length_pos_iff.2 du;refine⟨v,du,hl,h1,?_⟩;obtain⟨sk,g1,g2⟩:=CW v e [] [] rfl .nil;simp only[List.length_nil,List.take_zero]at g1;unfold qt;rw[ai (by omega),ai (by omega),g1];simp only;rw[ai];have:=(g2.one oV).2 h1;omega
def wT(e:List Ty):(qt e).2.1≠0\/∃st,Whole e st:=by
 unfold qt;split
 .left;show(4:Int)≠0;decide
 rename_i hl;split
 .left;show(5:Int)≠0;decide
 rename_i du
 cases hs:jQ e 0 [] []with
 |inl p=>
  left
  obtain⟨j,c⟩:=p
  show c≠0
  have:=yO _ _ _ _ _ _ hs;omega
 |inr p=>
  obtain⟨st,sk⟩:=p;obtain⟨v,c⟩:=CV e [] [] [] st sk Dr.nil .nil hs;simp only[List.nil_append]at v c;by_cases h1:1<sk.length
  .left
   simp only[aj h1];decide
  .right
   exact⟨st,Md v (λh=>du (by rw[h];rfl)) (by omega) ((c.one (by omega)).1 (by omega))⟩
def rq{e:List Ty}{st:List Nat}(w:Whole e st){env:ik.den}(he:mY env)(hw:∀n∈e,WF ay n):M.gJ aU e env=aa (lT (CY env) e st e.length (e.length-1)):=by
 have oV:0<e.length:=List.length_pos_iff.2 w.ne;have hle:=w.le;unfold M.gJ M.mO;rw[sv,w.res];simp only[agv];rw[ai (by simp)];unfold M.ji;rw[show agw.wrap ((e.length:Int)-1)=((e.length-1:Nat):Int) by rw[bL (by omega) (by omega)];omega];rw[Oy w.val (by omega) he hw e.length aU (e.length-1) (by omega) (by omega) (by unfold aU;omega)];rfl
def C0{e:List Ty}(h:(qt e).2.1≠0)(env:ik.den):M.gJ aU e env=aa (z3,(qt e).2.1):=by
 unfold M.gJ M.mO;rw[sv];simp only[agv];rw[aj (by simp[h])];rfl
end L.P
namespace L.P
end L.P
namespace L.P
end L.P
namespace L.P
end L.P
namespace L.P
end L.P
namespace L.P
def C1{g:Nat->Vl×Int}:∀{os:List Nat}{c:Int},fN g os= .inr c->c≠0
 |[],c,h=>by cases h
 |o::os,c,h=>by
  rw[fN]at h;split at h
  .cases hq:fN g os with
   |inl vs=>rw[hq]at h;cases h
   |inr d=>rw[hq]at h;cases h;exact C1 hq
  .rename_i h0;cases h;exact h0
end L.P
namespace L.P
end L.P
namespace L.P
end L.P
namespace L
abbrev Vl:Type:=aA.den
def VW(vs:List Vl)(fs:List Fd):Prop:=vs.length=fs.length/\∀(k:Nat)(v:Vl)(f:Fd),vs[k]? =aa v->fs[k]? =aa f->P.IV v f.2
def VX(l:Lw):Prop:=l.1.length<=8/\∀e∈l.1,e.2.length<=16
def Valid.enl{l:Lw}(h:Valid l):VX l:=by
 obtain⟨h1,_,_,h4,_⟩:=h.scopes;refine⟨h1,λe he=>?_⟩;obtain⟨k,hk,rfl⟩:=agS he;have:=h4 k hk;unfold oL at this;rw[agz hk]at this;dsimp only at this;split at this
 .cases this
 split at this
 .cases this
 split at this
 .cases this
 split at this
 .cases this
 omega
def RO{l:Lw}(hE:VX l){t:Ty}{v:Vl}(h1:(v.1:Int)=t.1)(h2:(v.2.1:Int)=t.2)(h3:¬((v.2.2:Int)<(HR t l.1).1\/(HR t l.1).2<(v.2.2:Int))):P.IV v t:=by
 obtain⟨(a:Int),(b:Int),(n:Int)⟩:=v;obtain⟨(k:Int),(e:Int)⟩:=t;dsimp only[az,Row.den]at*;subst h1 h2;unfold HR at h3;by_cases hv:mT (a,b) l.1.length
 .rw[ai (λg=>g hv)]at h3;refine⟨?_,rfl,rfl⟩;unfold P.fF;unfold mT at hv;dsimp only[az,Row.den]at*;by_cases c1:a=1
  .rw[aj c1]at h3;dsimp only at h3;omega
  rw[ai c1]at h3;by_cases c2:a=2
  .rw[aj c2]at h3;dsimp only at h3;omega
  rw[ai c2]at h3;by_cases c3:a=3
  .rw[aj c3]at h3;dsimp only at h3;omega
  rw[ai c3]at h3;by_cases c4:a=4
  .rw[aj c4]at h3;dsimp only at h3;omega
  rw[ai c4]at h3;by_cases c5:a=5
  .rw[aj c5]at h3;dsimp only at h3;omega
  rw[ai c5]at h3;dsimp only at h3;have h8:=hE.1
  have hb:(0:Int)<=b/\b<(l.1.length:Int):=by omega
  have Zz:b.toNat<l.1.length:=by omega
  have VE:=hE.2 _ (agA Zz);rw[agz Zz]at h3;dsimp only[Option.map_some,Option.getD_some]at h3;rw[bL (by omega) (by omega)]at h3;omega
 .rw[aj hv]at h3;dsimp only at h3;omega
def pM{l:Lw}(hE:VX l)(vs:List Vl)(fs:List Fd)(h1:vs.length<=100000)(h2:fs.length<=100000):Wp (M.dP aU l vs fs) λr=>r.2=0->VW vs fs:=by
 unfold M.dP
 refine Wp.dec (λ_=> .some λh=>by cases h) λc1=>?_
 refine Wp.dec (λ_=> .some λh=>by cases h) λc2=>?_
 have hl:vs.length=fs.length:=by omega
 refine Wp.count (λs=>s) vs.length (λk _=>∀(j:Nat)(v:Vl)(f:Fd),j<k->vs[j]? =aa v->fs[j]? =aa f->P.IV v f.2) (by omega) rfl (λj v f h=>by omega) λk s hk hs hJ=>?_
 obtain rfl:s=_:=hs
 refine Wp.dec (λaH=>?_) λhge=> .some λ_=>⟨hl,λj v f hv hf=>hJ j v f ?_ hv hf⟩
 .have aH:k<vs.length:=by omega
  rw[aB aH,agv,aB (show k<fs.length by omega),agv]
  refine Wp.seq (λj=>j=ag->(vs[k].1:Int)=fs[k].2.1/\(vs[k].2.1:Int)=fs[k].2.2) ?_ λj hj=>?_
  .exact Wp.kK (λ_=> .some λh=>by cases h) λh=> .some λg=>⟨h,by simpa using g⟩
  refine Wp.ite (λ_=> .some λh=>by cases h) λc3=>?_
  obtain⟨g1,g2⟩:=hj (by simpa using c3);rw[zY,agv]
  refine Wp.seq (λj=>j=ag->¬((vs[k].2.2:Int)<(HR fs[k].2 l.1).1\/(HR fs[k].2 l.1).2<(vs[k].2.2:Int))) ?_ λj hj=>?_
  .exact Wp.dec (λ_=> .some λh=>by cases h) λh=> .some λg=>λo=>o.elim h (by simpa using g)
  refine Wp.ite (λ_=> .some λh=>by cases h) λc4=> .some ⟨aH,cy (m:=vs.length) (by omega) aH,λj v f Na hv hf=>?_⟩
  by_cases e:j<k
  .exact hJ j v f e hv hf
  .obtain rfl:j=k:=by omega
   rw[agz aH]at hv;rw[agz (show j<fs.length by omega)]at hf;obtain rfl:=agx hv;obtain rfl:=agx hf;exact RO hE g1 g2 (hj (by simpa using c4))
 .have:=(agL.1 hv).1;omega
structure C2(l:Lw)(x:ie)(c:fi.den):Prop where
 date:(0:Int)<=c.1/\(c.1:Int)<=109572
 inp:VW c.2.1 x.2.2.1
 le:c.2.2.length<=8
 mem:∀vs∈c.2.2,∃k,∃hk:k<l.2.2.length,(x.2.1:Int)=(k:Int)/\VW vs l.2.2[k].2.2.1
def OA{l:Lw}(hE:VX l)(il:gy l){k:Nat}(hk:k<l.2.2.length)(c:fi.den)(h1:c.2.1.length<=14)(h2:c.2.2.length<=10)(h3:∀vs∈c.2.2,vs.length<=14):Wp (M.cQ aU l (k:Int) c) λr=>r.2.2=0->C2 l l.2.2[k] c:=by
 have uv:=il.2.2.2.2.2 _ (agA hk);unfold M.cQ
 refine Wp.seq (λ_=>True) (Wp.dec (λ_=> .some trivial) λ_=> .some trivial) λj1 _=>?_
 refine Wp.ite (λ_=> .some λh=>by cases h) λ_=>?_
 refine Wp.seq (λj=>j=ag->(0:Int)<=c.1/\(c.1:Int)<=109572) ?_ λj2 RY=>?_
 .refine Wp.dec (λ_=> .some λh=>by cases h) λh=> .some λg=>?_
  have g:=of_decide_eq_false g;exact⟨Int.not_lt.1 h,Int.not_lt.1 g⟩
 refine Wp.ite (λ_=> .some λh=>by cases h) λc2=>?_
 have hdt:=RY (by simpa using c2);rw[aB hk,agv]
 refine Wp.seq _ (pM hE c.2.1 l.2.2[k].2.2.1 (by omega) (by have:=uv.2.1;omega)) λy4 hy4=>?_
 refine Wp.kK (λh=> .some λg=>absurd g h) λc4=>?_
 have cG:=hy4 c4
 have PN:Wp (M.ff aU l (k:Int)) λy=>(y.2:Int)<=8/\((y.2:Int)=0\/∃q,∃hq:q<l.2.2.length,(l.2.2[k].2.1:Int)=(q:Int)/\y.1=l.2.2[q].2.2.1)/\y.1.length<=14:=by
  unfold M.ff;rw[aB hk,agv]
  refine Wp.seq (λj=>j=ag->(0:Int)<=l.2.2[k].2.1/\(l.2.2[k].2.1:Int)<(l.2.2.length:Int)) ?_ λj hj=>?_
  .refine Wp.dec (λ_=> .some λh=>by cases h) λh=> .some λg=>?_
   have g:=of_decide_eq_false g;exact⟨Int.not_lt.1 h,Int.not_le.1 g⟩
  refine Wp.ite (λ_=> .some ⟨by show(0:Int)<=8;omega, .inl rfl,by simp⟩) λc=>?_
  obtain⟨g1,g2⟩:=hj (by simpa using c);obtain⟨q,hq⟩:=agF g1;have g3:(q:Int)<(l.2.2.length:Int):=hq▸g2
  have LJ:q<l.2.2.length:=by omega
  have e:idx l.2.2 l.2.2[k].2.1=aa l.2.2[q]:=by
   rw[show idx l.2.2 l.2.2[k].2.1=idx l.2.2 (q:Int)from av _ hq,aB LJ]
  rw[e,agv];exact .some ⟨by show(8:Int)<=8;omega, .inr ⟨q,LJ,hq,rfl⟩,(il.2.2.2.2.2 _ (agA LJ)).2.1⟩
 refine Wp.seq _ PN λy5 hy5=>?_
 obtain⟨i1,i2,i3⟩:=hy5
 refine Wp.dec (λ_=> .some λh=>by cases h) λc5=>?_
 have h8:c.2.2.length<=8:=by omega
 refine Wp.count (λs=>s) c.2.2.length (λm _=>∀j(h:j<c.2.2.length),j<m->VW c.2.2[j] y5.1) (by omega) rfl (λj h g=>by omega) λm s hm hs hJ=>?_
 obtain rfl:s=_:=hs
 refine Wp.dec (λaH=>?_) λhge=> .some λ_=>⟨hdt,cG,h8,λvs Tv=>?_⟩
 .have aH:m<c.2.2.length:=by omega
  rw[aB aH,agv]
  refine Wp.seq _ (pM hE c.2.2[m] y5.1 (by have:=h3 _ (agA aH);omega) (by omega)) λy8 hy8=>?_
  refine Wp.kK (λh=> .some λg=>absurd g h) λc8=> .some ⟨aH,cy (m:=c.2.2.length) (by omega) aH,λj h hj=>?_⟩
  by_cases e:j<m
  .exact hJ j h e
  .obtain rfl:j=m:=by omega
   exact hy8 c8
 .obtain⟨j,hj,rfl⟩:=agS Tv
  rcases i2 with i2|⟨q,hq,e1,e2⟩
  .omega
  .exact⟨q,hq,e1,e2▸hJ j hj (by omega)⟩
abbrev Me:=ik.den
def PD{l:Lw}(hv:Valid l){k:Nat}(hk:k<l.2.2.length)(h:(0:Int)<=l.2.2[k].2.1):∃q,∃hq:q<l.2.2.length,(l.2.2[k].2.1:Int)=(q:Int)/\(l.2.2[q].2.1:Int)= -1:=by
 have hb:=(hv.scope k hk).2.2.1;unfold px at hb;obtain⟨q,e⟩:=agF h;have e':(l.2.2[k].2.1:Int)=(q:Int):=e;by_cases h1:(l.2.2[k].2.1:Int)= -1
 .have DC:((q:Nat):Int)= -1:=e'.symm.trans h1;omega
 .have hb:=λg=>hb ⟨h1,g⟩
  have Vt:q<k:=by
   by_cases g:(k:Int)<=l.2.2[k].2.1
   .exact absurd (.inr (.inl g)) hb
   .have g':¬(k:Int)<=(q:Int):=λz=>g (e'▸z)
    omega
  have hq:q<l.2.2.length:=by omega
  refine⟨q,hq,e',?_⟩;by_cases g:(l.2.2[q].2.1:Int)= -1
  .exact g
  .refine absurd (.inr (.inr ⟨l.2.2[q],?_,g⟩)) hb;rw[e',agD,agz hq]
def vc{α:Type}(n:Nat)(v:α)(h:n<=100000):oM (n:Int) v=aa (agE n v):=by
 unfold oM;rw[aj (by omega),agD]
end L
namespace L
end L
namespace L
def xs(b:Nat->Bool):Nat->Nat
 |0=>0
 |n+1=>xs b n+(if b n=af then 2 ^ n else 0)
def PE(b:Nat->Bool):∀n,xs b n<2 ^ n
 |0=>by simp[xs]
 |n+1=>by
  have:=PE b n;unfold xs;rw[Nat.pow_succ]
  split<;>omega
def orI{a b:Nat}(ha:a<9223372036854775808)(hb:b<9223372036854775808):aG .or .i64 (a:Int) (b:Int)=((a|||b:Nat):Int):=by
 show agw.wrap ((ahf 64 (a:Int)|||ahf 64 (b:Int)).toNat:Int)=_
 have h:a|||b<2 ^ 63:=Nat.or_lt_two_pow (by omega) (by omega)
 grind [wrap_i64]
end L
namespace L
theorem RP{m j:Nat}(h:m.testBit j=af):fP m (2 ^ j)<m:=Nat.lt_of_le_of_ne (E4 _ _) (Gp h)
theorem I3{x m b j:Nat}(h:x&&& m=b):x&&& fP m (2 ^ j)=fP b (2 ^ j):=by
 rw[gz];intro i;rw[cT,cT,<-gz.1 h i,Bool.and_assoc]
def C3{n:Nat}{S:Nat->Prop}{x:Nat}:∀k m b,m=k->pC n S m b->x&&& m=b->∃m' b',Dq n S m' b'/\x&&& m'=b':=by
 intro k
 induction k using Nat.strongRecOn with
 |_ k ih=>
  intro m b hk h hx;by_cases hp:∃j,j<n/\m.testBit j=af/\pC n S (fP m (2 ^ j)) (fP b (2 ^ j))
  .grind [RP,I3]
  .exact⟨m,b,⟨h,(by grind)⟩,hx⟩
def rr{k:Nat}{mem:Nat->Bool}:∀{l:List (Nat×Nat)}{cov:Nat->Bool}{q:Int×Int},q∈fc k mem cov l->∃p∈l,q=pI p.1 p.2
 |[],_,_,h=>by simp[fc]at h
 |p::l,cov,q,h=>by
  rw[jZ]at h;split at h
  .rcases agY.1 h with rfl|h
   .grind
   .obtain⟨p',hp,e⟩:=rr h
    grind
  .obtain⟨p',hp,e⟩:=rr h
   grind
def oE{k:Nat}{mem:Nat->Bool}{x:Nat}(hx:x<k)(hm:mem x=af):∀{l:List (Nat×Nat)}{cov:Nat->Bool},cov x=ag->(∃p∈l,x&&& p.1=p.2)->∃m b,pI m b∈fc k mem cov l/\x&&& m=b
 |[],_,_,h=>by grind
 |p::l,cov,hc,h=>by
  rw[jZ];by_cases hf:fb k mem cov p.1 p.2=af
  .rw[aj hf];by_cases FO:x&&& p.1=p.2
   .grind
   .obtain⟨m,b,h1,h2⟩:=oE hx hm (l:=l) (cov:=λx=>cov x||decide (x&&& p.1=p.2)) (by simp[hc,FO]) (by
     grind)
    grind
  .rw[ai hf];refine oE hx hm hc ?_
   grind [fb]
def Mf{n:Nat}(h:n<=8):Gq (n:Int)=n:=by grind [Gq]
def Mg{l:List Int}{n:Nat}(hn:n<=8){q:Int×Int}(hq:q∈mn l n):∃m b:Nat,q=pI m b/\pC n (λx=>(x:Int)∈l) m b:=by
 unfold mn Cw at hq;rw[Mf hn]at hq;obtain⟨p,hp,e⟩:=rr hq;exact⟨p.1,p.2,e,(nW.1 (ahi.1 hp).2).1⟩
def Mh{l:List Int}{n:Nat}(hn:n<=8){x:Nat}(hx:x<2 ^ n)(hm:(x:Int)∈l):∃m b:Nat,pI m b∈mn l n/\x&&& m=b:=by
 unfold mn Cw;rw[Mf hn]
 obtain⟨m,b,hp,hxm⟩:=C3 (x:=x) _ _ _ rfl (pC.full (n:=n) (S:=λx=>(x:Int)∈l) hx hm) (by
  grind [ij,Ad])
 exact oE hx (by unfold dQ;grind) rfl ⟨(m,b),ahi.2 ⟨(pD hn).2 ⟨hp.1.1,hp.1.2.1⟩,nW.2 hp⟩,hxm⟩
end L
namespace L
theorem Mi{m b c:Nat}{v:Int}(hm:m<256)(hc:c<256):MI (c:Int) (pI m b,v)=decide (c&&& m=b):=by
 grind [MI,IE]
def Gx{O:List Int}{v:Int}{c:Nat}:(c:Int)∈uE O v↔O[c]? =aa v:=by
 grind [uE,se]
def Gy{x v:Int}:∀{l:List xy},(∃r∈l,MI x r=af)->(∀r∈l,MI x r=af->r.2=v)->ri x l=(v,af)
 |[],h,_=>by grind
 |r::l,h,g=>by
  rw[IK];by_cases hr:MI x r=af
  .grind
  .rw[ai hr];refine Gy ?_ (by grind)
   grind
def RQ{rules:List ig}{a d:Int}{r:xy}:r∈RR rules a d->∃v:Int,r.2=v/\r.1∈mn (uE (OO rules a d) v) (CS rules a d).1.length:=by
 unfold RR;rw[List.mem_flatMap]
 grind [dR]
theorem PF{rules:List ig}{a d:Int}{c:Nat}(hc:c<2 ^ (CS rules a d).1.length):(OO rules a d)[c]? =aa (oc (eh rules a d) (di rules a d) (dX rules a d) (BB rules a d) (c:Int)):=by
 grind [OO]
def OB{rules:List ig}{a d:Int}(h:Fit rules a d){c:Nat}(hc:c<2 ^ (CS rules a d).1.length){r:xy}(hr:r∈RR rules a d)(hm:MI (c:Int) r=af):r.2=oc (eh rules a d) (di rules a d) (dX rules a d) (BB rules a d) (c:Int):=by
 have h8:=rc h.n8;obtain⟨v,hv,hp⟩:=RQ hr;obtain⟨m,b,e,hi⟩:=Mg h.n8 hp;have ZN:=hi.1;have e2:r=(pI m b,v):=Prod.ext e hv;rw[e2,Mi (by omega) (by omega),aw]at hm;have:=Gx.1 (hi.2.2 c hc hm)
 grind [PF]
def I4{rules:List ig}{a d:Int}(h:Fit rules a d){c:Nat}(hc:c<2 ^ (CS rules a d).1.length):∃r∈RR rules a d,MI (c:Int) r=af:=by
 have h8:=rc h.n8;have hO:=PF hc;generalize oc (eh rules a d) (di rules a d) (dX rules a d) (BB rules a d) (c:Int)=v at hO;have wZ:=Gx.2 hO;obtain⟨m,b,hp,hx⟩:=Mh h.n8 hc wZ;obtain⟨m',b',e,hi⟩:=Mg h.n8 hp;obtain⟨rfl,rfl⟩:=rb e;have ZN:=hi.1;refine⟨(pI m b,v),?_,by grind [Mi]⟩;unfold RR;refine List.mem_flatMap.2 ⟨v,?_,?_⟩
 all_goals grind [LX,dR]
def RS{rules:List ig}{a d:Int}(h:Fit rules a d){c:Nat}(hc:c<2 ^ (CS rules a d).1.length):ri (c:Int) (RR rules a d)=(oc (eh rules a d) (di rules a d) (dX rules a d) (BB rules a d) (c:Int),af):=
 Gy (I4 h hc) λr hr hm=>OB h hc hr hm
end L
namespace L
noncomputable def ev(env:Me)(e:jR):Vl×Int:=(M.gJ aU e env).getD (P.z3,0)
def vd{env:Me}(he:P.mY env){e:jR}(hw:∀n∈e,WF ay n):M.gJ aU e env=aa (ev env e):=by
 have:∃r,M.gJ aU e env=aa r:=by
  rcases P.wT e with h|⟨st,w⟩
  .exact⟨_,P.C0 h env⟩
  .exact⟨_,P.rq w he hw⟩
 obtain⟨r,hr⟩:=this;unfold ev;rw[hr];rfl
def lG(E:jR->Vl×Int)(g:jR):Int:=if(E g).2≠0 then(E g).2 else if((E g).1.1:Int)=1 then 0 else 8
def C4(E:jR->Vl×Int)(g:jR):Bool:=decide (((E g).1.2.2:Int)=1)
def gH(E:jR->Vl×Int):Nat->Nat->List jR->Int×Int×Int
 |x,_,[]=>((x:Int),((-1:Int),(0:Int)))
 |x,k,g::C=>if lG E g≠0 then((0:Int),((k:Int),lG E g))else gH E (x+if C4 E g=af then 2 ^ k else 0) (k+1) C
def yP{E:jR->Vl×Int}:∀{C:List jR}{x k j:Nat}(hj:j<C.length),lG E C[j]≠0->(∀i(hi:i<j),lG E (C[i]'(by omega))=0)->gH E x k C=((0:Int),(((k+j:Nat):Int),lG E C[j]))
 |g::C,x,k,0,_,h,_=>by
  have h:lG E g≠0:=h;unfold gH;rw[aj h];rfl
 |g::C,x,k,j+1,hj,h,hg=>by
  have h0:=hg 0 (by omega);unfold gH;rw[ai (λg=>g h0),yP (j:=j) (by simpa using hj) h λi hi=>hg (i+1) (by omega)];simp only[List.getElem_cons_succ,Nat.add_assoc,Nat.add_comm 1 j]
def C5{E:jR->Vl×Int}{C:List jR}(h:∀g∈C,lG E g=0):∀n,n<=C.length->gH E 0 0 C=gH E (xs (λk=>C4 E (C[k]?.getD [])) n) n (C.drop n)
 |0,_=>rfl
 |n+1,hn=>by
  have aH:n<C.length:=by omega
  rw[C5 h n (by omega),agJ aH,gH,ai (λg=>g (h _ (agA aH))),xs,agz aH];rfl
def Mj{E:jR->Vl×Int}{C:List jR}(h:∀g∈C,lG E g=0):gH E 0 0 C=(((xs (λk=>C4 E (C[k]?.getD [])) C.length:Nat):Int),((-1:Int),(0:Int))):=by
 rw[C5 h _ (agB _),List.drop_length];rfl
def ud(E:jR->Vl×Int)(C:List jR):
 (∃(j:Nat)(g:jR),C[j]? =aa g/\lG E g≠0/\(∀(i:Nat)(g':jR),i<j->C[i]? =aa g'->lG E g'=0)/\gH E 0 0 C=((0:Int),((j:Int),lG E g)))\/
 ((∀g∈C,lG E g=0)/\gH E 0 0 C=(((xs (λk=>C4 E (C[k]?.getD [])) C.length:Nat):Int),((-1:Int),(0:Int)))):=by
 by_cases h:∀g∈C,lG E g=0
 .exact .inr ⟨h,Mj h⟩
 .have hx:∃g∈C,(λg=>decide (lG E g≠0)) g=af:=by
   grind
  have hl:=List.findIdx_lt_length_of_exists hx;have hp:=al (List.findIdx_getElem (w:=hl))
  have hg:∀i(hi:i<C.findIdx λg=>decide (lG E g≠0)),lG E (C[i]'(by omega))=0:=λi hi=>by
   have:=List.not_of_lt_findIdx hi;simpa using this
  refine .inl ⟨_,_,agz hl,hp,λi g' hi he=>?_,?_⟩
  .rw[agz (by omega)]at he;rw[<-agx he];exact hg i hi
  .have:=yP (E:=E) (x:=0) (k:=0) hl hp hg;rw[ag8]at this;exact this
def pick(E:jR->Vl×Int)(rules:List ig)(o:Int):Vl×Int×Int:=
 if o= -1 then(P.z3,((-1:Int),(10:Int)))else if o= -2 then(P.z3,((-1:Int),(11:Int)))else
  match rules[o.toNat]? with
  |some r=>if(E r.2.2.2.2.2.2.1).2≠0 then(P.z3,(o,(E r.2.2.2.2.2.2.1).2))else((E r.2.2.2.2.2.2.1).1,(o,(0:Int)))
  |none=>(P.z3,((-1:Int),(10:Int)))
def I5{rules:List ig}{a d:Int}(h:rules.length<=100000)(fl:List Bool):Jm (eh rules a d) (uD (di rules a d) (dX rules a d) fl)= -1\/Jm (eh rules a d) (uD (di rules a d) (dX rules a d) fl)= -2\/
 ∃i:Nat,i∈TN rules a d/\∃hi:i<rules.length,Jm (eh rules a d) (uD (di rules a d) (dX rules a d) fl)=(i:Int):=by
 have hl:(di rules a d).length=(TN rules a d).length:=by unfold di TN;simp
 have hT:(TN rules a d).length<=rules.length:=by
  unfold TN;rw[CB];exact mV ..
 obtain⟨_,hr⟩:=sj (di rules a d) (dX rules a d) fl (by omega);generalize uD (di rules a d) (dX rules a d) fl=s at hr⊢;rw[hl]at hr;unfold Jm
 rcases hr with rfl|rfl|⟨h0,h1⟩
 .exact .inl rfl
 .exact .inr (.inl rfl)
 .obtain⟨k,rfl⟩:=agF h0
  have hk:k<(TN rules a d).length:=by omega
  rw[aj h0,oC,agD,List.getElem?_map,agz hk];exact .inr (.inr ⟨_,agA hk,Ff _ (agA hk),rfl⟩)
def uH(dp:List Vl->Int->Vl×Int×Int):List Int->List Vl->List Int->(List Vl×List Int)⊕(Int×Int×Int)
 |[],D,rl=> .inl (D,rl)
 |a::o,D,rl=>if(dp D a).2.2≠0 then .inr ((dp D a).2.2,(a,(dp D a).2.1))else uH dp o (bm D a (dp D a).1) (bm rl a (dp D a).2.1)
end L
namespace L
noncomputable def mC(E:jR->Vl×Int)(rules:List ig)(d a:Int):Vl×Int×Int:=
 if(gH E 0 0 (CS rules a d).1).2.2≠0 then(P.z3,((((CS rules a d).2[(gH E 0 0 (CS rules a d).1).2.1.toNat]?).getD (-1)),(gH E 0 0 (CS rules a d).1).2.2))
 else pick E rules (oc (eh rules a d) (di rules a d) (dX rules a d) (BB rules a d) (gH E 0 0 (CS rules a d).1).1)
def OC{E:jR->Vl×Int}{rules:List ig}{o:Int}(h:(pick E rules o).2.2=0):∃r,rules[o.toNat]? =aa r/\(E r.2.2.2.2.2.2.1).2=0/\pick E rules o=((E r.2.2.2.2.2.2.1).1,(o,(0:Int))):=by
 unfold pick at h⊢;by_cases h1:o= -1
 .rw[aj h1]at h;cases h
 rw[ai h1]at h;by_cases h2:o= -2
 .rw[aj h2]at h;cases h
 rw[ai h2]at h;rw[ai h1,ai h2]
 cases hr:rules[o.toNat]? with
 |none=>rw[hr]at h;cases h
 |some r=>
  rw[hr]at h;dsimp only at h⊢;by_cases g:(E r.2.2.2.2.2.2.1).2≠0
  .rw[aj g]at h;exact absurd h g
  .exact⟨r,rfl,Decidable.not_not.1 g,ai g⟩
end L
namespace L.P
def wU{g g':Nat->Vl×Int}(hg:∀o,(g o).2=0->g' o=g o):∀{os:List Nat}{vs:List Vl},fN g os= .inl vs->fN g' os= .inl vs
 |[],_,h=>h
 |o::os,vs,h=>by
  rw[fN]at h;split at h
  .rename_i h0;rw[fN,hg o h0,aj h0]
   cases hq:fN g os with
   |inl ws=>rw[hq]at h;rw[wU hg hq];exact h
   |inr c=>rw[hq]at h;cases h
  .cases h
def wV{g g':Nat->Vl×Int}(hg:∀o,(g o).2=0->g' o=g o){o:Nat}(h:(lS (g o)).2=0):lS (g' o)=lS (g o):=by
 rw[hg o];unfold lS at h;split at h
 .exact h
 .rename_i h0;exact Decidable.not_not.1 h0
def Fp{g g':Nat->Vl×Int}(hg:∀o,(g o).2=0->g' o=g o){n:Ty}{ops:List Nat}(h:(yM g n ops).2=0):yM g' n ops=yM g n ops:=by
 unfold yM at h⊢;by_cases h1:(n.2:Int)≠0
 .rw[aj h1]at h;cases h
 rw[ai h1]at h;rw[ai h1,ai h1];by_cases h2:(lS (g (ops.getD 0 0))).2≠0
 .rw[aj h2]at h;exact absurd h h2
 have e:=wV hg (Decidable.not_not.1 h2);rw[ai h2]at h;rw[e,ai h2,ai h2];by_cases h3:(n.1:Int)=26/\((lS (g (ops.getD 0 0))).1.2.2:Int)=1
 .rw[aj h3]at h;rw[aj h3,aj h3,hg _ h]
 rw[ai h3]at h;rw[ai h3,ai h3];by_cases h4:(n.1:Int)=26
 .rw[aj h4]at h;rw[aj h4,aj h4,hg _ h]
 rw[ai h4]at h;rw[ai h4,ai h4]
 by_cases h5:((n.1:Int)=23)=(((lS (g (ops.getD 0 0))).1.2.2:Int)=0)
 .rw[aj h5,aj h5]
 rw[ai h5]at h;rw[ai h5,ai h5,wV hg h]
def wW{ap ap':Ty->List Vl->Vl×Int}{e:List Ty}(ha:∀i vs,vs.length<=100000->(ap (e.getD i ((0,0):Int×Int)) vs).2=0->ap' (e.getD i ((0,0):Int×Int)) vs=ap (e.getD i ((0,0):Int×Int)) vs)(st:List Nat):∀f i,(lT ap e st f i).2=0->lT ap' e st f i=lT ap e st f i
 |0,_,_=>rfl
 |f+1,i,h=>by
  have ih:=wW ha st f;unfold lT at h⊢;split at h
  .rename_i hz;rw[aj hz,aj hz,Fp ih h]
  .rename_i hz;rw[ai hz,ai hz]
   cases hq:fN (lT ap e st f) (opsL st (ar (e.getD i ((0,0):Int×Int)).1).toNat i)with
   |inl vs=>
    rw[hq]at h;rw[wU ih hq];have h1:=yN hq;have h2:=wR st (ar (e.getD i ((0,0):Int×Int)).1).toNat i;have h3:=qC (e.getD i ((0,0):Int×Int)).1;exact ha _ _ (by omega) h
   |inr c=>rw[hq]at h;exact absurd h (C1 hq)
def OD{n:Ty}(hn:WF ay n){args:List Vl}(hl:args.length<=100000){d:Int}{inp D D':List Vl}{rs:List (List aA.den)×(List ay.den×List bn.den)}(he:mY (d,(inp,(D,rs))))(h1:D.length=D'.length)(h2:∀(k:Nat)(v:Vl),D[k]? =aa v->(v.1:Int)≠0->D'[k]? =aa v)(h0:(CY (d,(inp,(D,rs))) n args).2=0):CY (d,(inp,(D',rs))) n args=CY (d,(inp,(D,rs))) n args:=by
 obtain⟨(op:Int),(m:Int)⟩:=n
 have key:M.dG aU ((op,m):Int×Int) args (d,(inp,(D',rs)))=M.dG aU ((op,m):Int×Int) args (d,(inp,(D,rs))):=by
  by_cases h8:op=8
  .subst h8;by_cases hm:∃(k:Nat)(v:Vl),m=(k:Int)/\D[k]? =aa v/\(v.1:Int)≠0
   .obtain⟨k,v,rfl,e1,e2⟩:=hm;have e3:=h2 k v e1 e2;obtain⟨l1,e1⟩:=agL.1 e1;obtain⟨l2,e3⟩:=agL.1 e3
    have i1:idx D (k:Int)=aa v:=by rw[aB l1,e1]
    have i2:idx D' (k:Int)=aa v:=by rw[aB l2,e3]
    unfold M.dG M.gj M.iV M.iW M.eN;simp only[i1,i2,h1]
   .have hex:M.gj aU ((8,m):Int×Int) (d,(inp,(D,rs)))=aa ag:=by
     unfold M.gj;dsimp only;rw[ai (by simp),aj (by simp)];by_cases g0:0<=m
     .by_cases g1:m<(D.length:Int)
      .obtain⟨k,rfl⟩:=agF g0
       have hk:k<D.length:=by omega
       rw[aj (an g0),aj (an g1),aB hk,agv]
       have:(D[k].1:Int)=0:=Decidable.byContradiction λg=>hm ⟨k,_,rfl,agz hk,g⟩
       rw[this];rfl
      .rw[aj (an g0),ai (by simpa using g1)];rfl
     .rw[ai (by simpa using g0)];rfl
    have:Wp (M.dG aU ((8,m):Int×Int) args (d,(inp,(D,rs)))) λr=>r.2≠0:=by
     unfold M.dG
     refine Wp.seq (λ_=>True) (Wp.seq _ (yL ..) λy _=>Wp.ite (λ_=> .some trivial) λ_=>?_) λj _=>?_
     .rw[pK];exact .some trivial
     .refine Wp.ite (λ_=> .some (by show(2:Int)≠0;decide)) λ_=>?_
      rw[hex,agv,aj (by decide)];exact .some (by show(6:Int)≠0;decide)
    obtain⟨r,hr,du⟩:=this;rw[PC he hn hl]at hr;rw[agx hr]at h0;exact absurd h0 du
  .unfold M.dG M.gj M.iV M.iW M.eN;simp only[ao h8,agK,if_false]
 unfold CY;exact av (λx=>x.getD (z3,0)) key
end L.P
namespace L
def OE{env RT:Me}(he:P.mY env)(sN:P.mY RT)(ha:∀n vs,WF ay n->vs.length<=100000->(P.CY env n vs).2=0->P.CY RT n vs=P.CY env n vs){e:jR}(hw:∀n∈e,WF ay n)(h:(ev env e).2=0):ev RT e=ev env e:=by
 have h1:=vd he hw;have h2:=vd sN hw
 rcases P.wT e with g|⟨st,w⟩
 .rw[P.C0 g]at h1 h2;exact(agx h2).symm.trans (agx h1)
 .rw[P.rq w he hw]at h1;rw[P.rq w sN hw]at h2;rw[<-agx h1]at h⊢;rw[<-agx h2];refine P.wW (λi vs hl h0=>ha _ vs ?_ hl h0) st _ _ h;simp only[List.getD]
  cases hi:e[i]? with
  |none=>exact⟨⟨by decide,by decide⟩,⟨by decide,by decide⟩⟩
  |some n=>exact hw n (List.mem_of_getElem? hi)
def uI(D D':List Vl):Prop:=D.length=D'.length/\∀(k:Nat)(v:Vl),D[k]? =aa v->(v.1:Int)≠0->D'[k]? =aa v
def uI.refl(D:List Vl):uI D D:=⟨rfl,λ_ _ h _=>h⟩
def uI.trans{A B C:List Vl}(h:uI A B)(g:uI B C):uI A C:=⟨h.1.trans g.1,λk v a b=>g.2 k v (h.2 k v a b) b⟩
def uI.set{D:List Vl}{k:Nat}{w:Vl}(h:∀v,D[k]? =aa v->(v.1:Int)=0):uI D (bm D (k:Int) w):=by
 refine⟨by rw[bX],λj v hv du=>?_⟩;unfold bm;rw[agD,List.getElem?_set_ne]
 .exact hv
 .rintro rfl
  exact du (h v hv)
def yQ{dp:List Vl->Int->Vl×Int×Int}:∀{o:List Int}{D:List Vl}{rl:List Int}{D':List Vl}{Sj:List Int},uH dp o D rl= .inl (D',Sj)->o.Nodup->(∀a∈o,0<=a/\a<(D.length:Int)/\a<(rl.length:Int)/\∀v,D[a.toNat]? =aa v->(v.1:Int)=0)->
 uI D D'/\Sj.length=rl.length/\(∀k:Nat,((k:Nat):Int)∉o->Sj[k]? =rl[k]?)/\∀a∈o,∃D1,uI D D1/\uI D1 D'/\(dp D1 a).2.2=0/\Sj[a.toNat]? =aa (dp D1 a).2.1
 |[],D,rl,D',Sj,h,_,_=>by
  cases h;exact⟨.refl _,rfl,λ_ _=>rfl,λa ha=>by cases ha⟩
 |a::o,D,rl,D',Sj,h,hn,ha=>by
  rw[uH]at h;split at h
  .cases h
  rename_i h0;have h0:=Decidable.not_not.1 h0;obtain⟨AG,GY⟩:=List.nodup_cons.1 hn;obtain⟨a0,a1,a2,a3⟩:=ha a (List.mem_cons_self ..);obtain⟨k,rfl⟩:=agF a0;rw[agD]at a3;have hm:uI D (bm D (k:Int) (dp D (k:Int)).1):= .set a3
  obtain⟨g1,g2,g3,g4⟩:=yQ h GY λb hb=>by
   obtain⟨b0,b1,b2,b3⟩:=ha b (List.mem_cons_of_mem _ hb);refine⟨b0,by rw[bX];exact b1,by rw[bX];exact b2,λv hv=>?_⟩;unfold bm at hv;rw[agD,List.getElem?_set_ne]at hv
   .exact b3 v hv
   .intro e;exact AG (by rw[show(k:Int)=b by omega];exact hb)
  refine⟨hm.trans g1,by rw[g2,bX],λj hj=>?_,λb hb=>?_⟩
  .rw[g3 j λg=>hj (List.mem_cons_of_mem _ g)];unfold bm;rw[agD,List.getElem?_set_ne]
   rintro rfl
   exact hj (List.mem_cons_self ..)
  .rcases agY.1 hb with rfl|hb
   .refine⟨D, .refl _,hm.trans g1,h0,?_⟩;rw[agD,g3 k AG];unfold bm;rw[agD,List.getElem?_set_self (by omega)]
   .obtain⟨D1,q1,q2,q3,q4⟩:=g4 b hb;exact⟨D1,hm.trans q1,q2,q3,q4⟩
end L
namespace L
def RU{x n:Nat}(h:x<2 ^ n)(hn:n<62):aG .or .i64 (x:Int) ((2 ^ n:Nat):Int)=((x+2 ^ n:Nat):Int):=by
 have h2:2 ^ n<=2 ^ 61:=Nat.pow_le_pow_right (by omega) (by omega);rw[orI (by omega) (by omega)];have:=Nat.two_pow_add_eq_or_of_lt h 1;rw[Nat.mul_one]at this;rw[Nat.or_comm,<-this,Nat.add_comm]
def C6{E:jR->Vl×Int}{g:jR}(h:(E g).2≠0):lG E g=(E g).2:=by
 unfold lG;rw[aj h]
def I6{E:jR->Vl×Int}{g:jR}(h:(E g).2=0)(h1:((E g).1.1:Int)≠1):lG E g=8:=by
 unfold lG;rw[ai (λk=>k h),ai h1]
def OF{E:jR->Vl×Int}{g:jR}(h:(E g).2=0)(h1:((E g).1.1:Int)=1):lG E g=0:=by
 unfold lG;rw[ai (λk=>k h),aj h1]
def ru{E:jR->Vl×Int}{x k:Nat}{g:jR}{C:List jR}:gH E x k (g::C)=if lG E g≠0 then((0:Int),((k:Int),lG E g))else gH E (x+if C4 E g=af then 2 ^ k else 0) (k+1) C:=rfl
def yR(t:IJ){env:Me}(he:P.mY env)(hw:∀g∈t.2.1,∀n∈g,WF ay n)(h8:t.2.1.length<=8):M.bS aU t env=aa (gH (ev env) 0 0 t.2.1):=by
 unfold M.bS;rw[ai (by simp;omega)];refine Wp.eq (Wp.count (λs=>s.2) t.2.1.length (λk s=>∃x:Nat,s.1=(x:Int)/\x<2 ^ k/\gH (ev env) 0 0 t.2.1=gH (ev env) x k (t.2.1.drop k)) (by omega) rfl ⟨0,rfl,by simp,rfl⟩ λk s hk hs hJ=>?_);obtain⟨y,c⟩:=s;obtain⟨x,e,hx,hJ⟩:=hJ;dsimp only at hs e;subst hs e;refine .dec (λh=>?_) (λh=> .some ?_)
 .have aH:k<t.2.1.length:=by dsimp only at h;omega
  have hg:=hw _ (agA aH);have h2:2 ^ k*2=2 ^ (k+1):=(Nat.pow_succ ..).symm;rw[agJ aH,ru]at hJ;refine .join (.bind (.idx k rfl aH (.aX (vd he hg) ?_)))
  refine .kK (λh1=> .some ?_) λh1=> .kK (λh3=> .some ?_) λh3=>?_
  .rw[aj (by rw[C6 h1];exact h1),C6 h1]at hJ;exact hJ.symm
  .rw[I6 h1 h3,aj (by decide)]at hJ;exact hJ.symm
  .rw[OF h1 h3,ai (λg=>g rfl)]at hJ;refine .dec (λh4=> .aX (oA (by omega)) (.some (.some ⟨aH,aP (by omega),x+2 ^ k,?_,by omega,?_⟩))) (λh4=> .some (.some ⟨aH,aP (by omega),x,rfl,by omega,?_⟩))
   .exact RU hx (by omega)
   .rw[hJ,aj (show C4 (ev env) t.2.1[k]=af from an h4)]
   .rw[hJ,ai (show¬C4 (ev env) t.2.1[k]=af from λg=>h4 (al g))];rfl
 .have:k=t.2.1.length:=by dsimp only at h;omega
  subst this;rw[List.drop_length]at hJ;exact hJ.symm
def C7{rules:List ig}{a d:Int}(h:Fit rules a d):(RR rules a d).length<=100000000:=by
 have hl:(eh rules a d).length=(TN rules a d).length:=by rw[oC];simp
 have ht:=h.t8
 have key:∀L:List Int,(L.flatMap (dR (OO rules a d) (CS rules a d).1.length)).length<=L.length*65536:=λL=>by
  induction L with
  |nil=>simp
  |cons v L ih=>
   grind [rm]
 have:=key ([-2,-1]++eh rules a d);unfold RR
 have h2:([(-2:Int),-1]++eh rules a d).length<=10:=by simp;omega
 grind
def I7(t:IJ)(j:Nat):M.jb aU t (j:Int)=aa ((t.2.2.1[j]?).getD (-1)):=by
 unfold M.jb;rw[ai (by simp),agv];by_cases h:j<t.2.2.1.length
 .rw[ai (by simp;omega),aB h,agz h];rfl
 .rw[aj (by simp;omega),List.getElem?_eq_none (by omega)];rfl
noncomputable def MM(rules:List ig)(d a:Int):IJ:=(a,((CS rules a d).1,((CS rules a d).2,RR rules a d)))
def C8{rules:List ig}{d a:Int}(hf:Fit rules a d)(E:jR->Vl×Int):
 (∃(j:Nat)(c:Int),c≠0/\gH E 0 0 (CS rules a d).1=((0:Int),((j:Int),c))/\mC E rules d a=(P.z3,(((CS rules a d).2[j]?).getD (-1),c)))\/
 (∃x:Nat,gH E 0 0 (CS rules a d).1=((x:Int),((-1:Int),(0:Int)))/\ri (x:Int) (RR rules a d)=(oc (eh rules a d) (di rules a d) (dX rules a d) (BB rules a d) (x:Int),af)/\
   mC E rules d a=pick E rules (oc (eh rules a d) (di rules a d) (dX rules a d) (BB rules a d) (x:Int))):=by
 unfold mC
 rcases ud E (CS rules a d).1 with⟨j,g,_,h2,_,h4⟩|⟨_,h2⟩
 .refine .inl ⟨j,_,h2,h4,?_⟩;rw[h4];dsimp only;rw[aj h2,agD]
 .refine .inr ⟨_,h2,RS hf (PE _ _),?_⟩;rw[h2];dsimp only;rw[ai (λg=>g rfl)]
def Mk{rules:List ig}{a d:Int}(h:rules.length<=100000)(x:Int):oc (eh rules a d) (di rules a d) (dX rules a d) (BB rules a d) x= -1\/oc (eh rules a d) (di rules a d) (dX rules a d) (BB rules a d) x= -2\/
 ∃i:Nat,∃hi:i<rules.length,oc (eh rules a d) (di rules a d) (dX rules a d) (BB rules a d) x=(i:Int):=by
 rcases I5 (a:=a) (d:=d) h ((BB rules a d).map (flag x))with h|h|⟨i,_,hi,h⟩
 .exact .inl h
 .exact .inr (.inl h)
 .exact .inr (.inr ⟨i,hi,h⟩)
def I8{E:jR->Vl×Int}{rules:List ig}{i:Nat}(hi:i<rules.length):pick E rules (i:Int)=if(E rules[i].2.2.2.2.2.2.1).2≠0 then(P.z3,((i:Int),(E rules[i].2.2.2.2.2.2.1).2))else((E rules[i].2.2.2.2.2.2.1).1,((i:Int),(0:Int))):=by
 unfold pick;rw[ai (by omega),ai (by omega),agD,agz hi]
def Ay{x:ie}{d a:Int}(EX:WF br x)(hf:Fit x.2.2.2.2 a d){o:List Int}{Ts:List IJ}{Cs:List Int}(hT:idx Ts a=aa (MM x.2.2.2.2 d a))(hC:idx Cs a=aa 0){env:Me}(he:P.mY env):
 M.eH aU (x,(o,(Ts,Cs))) a env=aa (mC (ev env) x.2.2.2.2 d a):=by
 have NW:∀r∈x.2.2.2.2,WF cX r:=EX.2.2.2.2.2;have Zf:=hf.len;unfold M.eH;dsimp only;generalize x.2.2.2.2=rules at*
 have U5:∀g∈(CS rules a d).1,∀n∈g,WF ay n:=λg hg=>by
  rcases qj rules (TN rules a d) ([],[]) g hg with h|⟨i,rfl⟩
  .cases h
  .unfold gd;split
   .rename_i r hr;exact(NW _ (List.mem_of_getElem? hr)).2.2.2.2.2.1.2
   .intro n hn;cases hn
 have e:M.bS aU (MM rules d a) env=aa (gH (ev env) 0 0 (CS rules a d).1):=yR (MM rules d a) he U5 hf.n8;refine Wp.eq (.aX hC (.kK (λg=>absurd rfl g) λ_=> .aX hT (.aX e ?_)))
 rcases C8 hf (ev env)with⟨j,c,h1,h2,h3⟩|⟨y,h1,h2,h3⟩
 .rw[h2,h3]
  exact .kK (λ_=> .aX (I7 (MM rules d a) j) (.some rfl)) λg=>absurd g h1
 .rw[h1,h3];have e2:M.dh aU (MM rules d a) (y:Int)=aa (oc (eh rules a d) (di rules a d) (dX rules a d) (BB rules a d) (y:Int),af):=(Cy (MM rules d a) _ (by have:=C7 hf;show(RR rules a d).length<=_;omega)).trans (av aa h2);have hc:=Mk (rules:=rules) (a:=a) (d:=d) (by omega) (y:Int);generalize oc (eh rules a d) (di rules a d) (dX rules a d) (BB rules a d) (y:Int)=v at hc e2⊢
  refine .kK (λg=>absurd rfl g) λ_=> .aX e2 (Wp.seq (λj=>j=decide (v= -1)) (.ite (λh=>by cases h) λ_=> .some rfl) λj hj=>?_)
  subst hj
  rcases hc with rfl|rfl|⟨i,hi,rfl⟩
  .exact .ite (λ_=> .some rfl) λh=>absurd rfl h
  .exact .ite (λh=>absurd h (by decide)) λ_=> .dec (λ_=> .some rfl) λh=>absurd rfl h
  .rw[I8 hi]
   refine .ite (λh=>absurd (al h) (by omega)) λ_=> .dec (λh=>absurd h (by omega)) λ_=> .aX (aB hi) (.aX (vd he (NW _ (agA hi)).2.2.2.2.2.2.1.2) ?_)
   exact .kK (λh=> .some (by rw[aj h];rfl)) λh=> .some (by rw[ai (λg=>g h)])
abbrev Dt:Type:=(jR->Vl×Int)->List ig->Int->Int->Vl×Int×Int
abbrev Ml:aR.den:=((0:Int),((0:Int),((0:Int),(0:Int))))
abbrev ZO:Type:=List (List aA.den)×(List ay.den×List bn.den)
noncomputable def Ds(dt:Dt)(x:ie)(o:List Int)(d:Int)(vs:List Vl)(rs:ZO):(List Vl×List Int)⊕(Int×Int×Int):=
 uH (λD a=>dt (ev (d,(vs,(D,rs)))) x.2.2.2.2 d a) o (agE x.2.2.2.1.length P.z3) (agE x.2.2.2.1.length 0)
def sy(mem:Int):(List Vl×List Int)⊕(Int×Int×Int)->aR.den×List Vl×List Int
 | .inl p=>(Ml,p.1,p.2)
 | .inr q=>((q.1,(mem,(q.2.1,q.2.2))),[],[])
def Az{dp:List Vl->Int->Vl×Int×Int}:∀{o:List Int}{D:List Vl}{rl:List Int}{q:Int×Int×Int},uH dp o D rl= .inr q->q.1≠0
 |a::o,D,rl,q,h=>by
  rw[uH]at h;split at h
  .rename_i g;cases h;exact g
  .exact Az h
structure U6(x:ie)(d:Int)(o:List Int)(p:dx.den):Prop where
 scope:p.1=x
 order:p.2.1=o
 TO:∀a:Nat,a<x.2.2.2.1.length->idx p.2.2.1 (a:Int)=aa (MM x.2.2.2.2 d (a:Int))
 codes:∀a:Nat,a<x.2.2.2.1.length->idx p.2.2.2 (a:Int)=aa 0
def C9{x:ie}{d:Int}{o:List Int}{p:dx.den}(hp:U6 x d o p)(EX:WF br x)(hs:pw x)(hf:∀a,Fit x.2.2.2.2 a d)(ho:∀a∈o,(0:Int)<=a/\a<(x.2.2.2.1.length:Int))(hol:o.length<=100000){vs:List Vl}{rs:ZO}(he:∀D,P.mY (d,(vs,(D,rs))))(D0:List Vl)(mem:Int):
 M.eY aU p (d,(vs,(D0,rs))) mem=aa (sy mem (Ds mC x o d vs rs)):=by
 obtain⟨x',o',Ts,Cs⟩:=p;obtain⟨h1,h2,h3,h4⟩:=hp;dsimp only at h1 h2 h3 h4;subst h1 h2;have Iz:=hs.2.2.1;unfold M.eY;dsimp only;rw[vc _ _ (by omega),agv,vc _ _ (by omega),agv];refine Wp.eq (.join (Wp.count (λs=>s.1) o'.length (λk s=>s.2.1.length=x'.2.2.2.1.length/\s.2.2.length=x'.2.2.2.1.length/\Ds mC x' o' d vs rs=uH (λD a=>mC (ev (d,(vs,(D,rs)))) x'.2.2.2.2 d a) (o'.drop k) s.2.1 s.2.2) (by omega) rfl ⟨by simp,by simp,rfl⟩ λk s hk hs hJ=>?_));obtain⟨c,D,rl⟩:=s;obtain⟨j1,j2,j3⟩:=hJ;dsimp only at hs j1 j2 j3;subst hs;refine .dec (λh=>?_) (λh=> .some ?_)
 .have aH:k<o'.length:=by dsimp only at h;omega
  obtain⟨a0,a1⟩:=ho _ (agA aH);obtain⟨q,hq⟩:=agF a0
  have LJ:q<x'.2.2.2.1.length:=by omega
  rw[agJ aH,uH]at j3;refine .bind (.idx k rfl aH ?_);rw[hq]at j3⊢;refine .aX (Ay EX (hf _) (h3 q LJ) (h4 q LJ) (he D)) (.kK (λh0=> .some ?_) λh0=> .bind (.idx q rfl (show q<D.length by omega) (.bind (.idx q rfl (show q<rl.length by omega) (.some ⟨aH,aP (by omega),by rw[bX];exact j1,by rw[bX];exact j2,?_⟩)))))
  .rw[aj h0]at j3
   show _=sy mem _
   rw[j3];rfl
  .rw[ai (λg=>g h0)]at j3;exact j3
 .have:k=o'.length:=by dsimp only at h;omega
  subst this;rw[List.drop_length,uH]at j3;refine .some ?_;rw[j3];rfl
end L
namespace L
def Mm{l:Lw}(il:gy l)(hv:Valid l){k:Nat}(hk:k<l.2.2.length):∃o,M.bW aU l.2.2[k]=aa ((0:Int),o)/\nX l.2.2[k] o/\o.length=l.2.2[k].2.2.2.1.length:=by
 have uv:=il.2.2.2.2.2 _ (agA hk);have Vv:=hv.scope k hk;obtain⟨r,er,o,h1,h2,hr⟩:=L4 _ uv
 have fh:=IU h1 h2 λd hd hc=>Vv.2.2.2.2.2.2.2 d hd ((Gm _ d d).2 hc)
 rw[ai (by omega)]at hr;subst hr;exact⟨o,er,h1,fh⟩
def Da{α:Type}{l:List α}{k i:Nat}{v:α}(hk:k<l.length):(bm l (k:Int) v)[i]? =if i=k then aa v else l[i]? :=by
 unfold bm;rw[agD,List.getElem?_set]
 grind
def Mn{α:Type}{l:List α}{i:Nat}{v:α}(h:l[i]? =aa v):idx l (i:Int)=aa v:=by
 obtain⟨h1,rfl⟩:=agL.1 h;exact aB h1
def Gz{l:Lw}(hw:WF dv l)(il:gy l)(hv:Valid l){k:Nat}(hk:k<l.2.2.length){d:Int}(h0:0<=d)(h1:d<=109572){o:List Int}(eo:M.bW aU l.2.2[k]=aa ((0:Int),o)):Wp (M.cL aU l (k:Int) d) (U6 l.2.2[k] d o):=by
 have Iz:=(il.2.2.2.2.2 _ (agA hk)).2.2.1;have hp:=qg l hw il;rw[hv.AI]at hp;have hx:=aB hk
 have hf:=λa=>Fit.of hv il hk a d
 unfold M.cL;rw[hx,agv];generalize l.2.2[k]=x at*;rw[vc _ _ (by omega),agv,vc _ _ (by omega),agv,eo,agv]
 refine Wp.seq (λj=>∀a:Nat,a<x.2.2.2.1.length->j.1[a]? =aa (MM x.2.2.2.2 d (a:Int))/\j.2[a]? =aa 0) ?_ λj hj=> .some ⟨rfl,rfl,λa ha=>Mn (hj a ha).1,λa ha=>Mn (hj a ha).2⟩
 refine Wp.count (λs=>s.1) x.2.2.2.1.length (λi s=>s.2.1.length=x.2.2.2.1.length/\s.2.2.length=x.2.2.2.1.length/\∀a:Nat,a<i->s.2.1[a]? =aa (MM x.2.2.2.2 d (a:Int))/\s.2.2[a]? =aa 0) (by omega) rfl ⟨by simp,by simp,λa ha=>by omega⟩ λi s hi hs hJ=>?_
 obtain⟨c,Ts,Cs⟩:=s;obtain⟨j1,j2,j3⟩:=hJ;dsimp only at hs j1 j2 j3;subst hs;refine .dec (λh=>?_) (λh=> .some λa ha=>j3 a ?_)
 .have aH:i<x.2.2.2.1.length:=by dsimp only at h;omega
  refine .aX (tG hp (by omega) (by omega) hx (by omega) (by omega) h0 h1 (hf (i:Int))) (.bind (.idx i rfl (show i<Ts.length by omega) (.bind (.idx i rfl (show i<Cs.length by omega) (.some ⟨aH,aP (by omega),by rw[bX];exact j1,by rw[bX];exact j2,λa ha=>?_⟩)))));dsimp only;rw[Da (by omega),Da (by omega)];by_cases e:a=i
  .subst e;rw[aj rfl,aj rfl];exact⟨rfl,rfl⟩
  .rw[ai e,ai e];exact j3 a (by omega)
 .dsimp only at h;omega
def I9(fs:List Fd)(h:fs.length<=100000)(d:Int)(vs:List Vl)(T:List bn.den):Loop (S:=Int×Int×(List aA.den)×(List bn.den)×List ay.den) (X:=Int×(List aA.den)×(List bn.den)×List ay.den) (λs8=>
(if(decide (s8.1<(fs.length:Int)))=af then
(idx fs s8.1).bind λx9=>
(cm s8.2.2.2.2 ([x9.2]:List ay.den)).bind λl10=>
some (Sum.inl (agw.wrap (s8.1+(1:Int)),s8.2.1,s8.2.2.1,s8.2.2.2.1,l10))
else
some (Sum.inr (s8.2.1,s8.2.2.1,s8.2.2.2.1,s8.2.2.2.2)))) aU ((0:Int),d,vs,T,([]:List ay.den))=aa (d,vs,T,fs.map (·.2)):=by
 apply Wp.eq
 refine Wp.count (λs=>s.1) fs.length (λk s=>s.2=(d,vs,T,(fs.take k).map (·.2))) (by omega) rfl rfl λk s hk hs hJ=>?_
 obtain⟨c,s⟩:=s;dsimp only at hs hJ;subst hs hJ
 refine Wp.dec (λaH=>?_) λhge=>?_
 .have aH:k<fs.length:=by dsimp only at aH;omega
  dsimp only;rw[aB aH,agv,dW (by simp;omega),agv];refine .some ⟨aH,cy (m:=fs.length) (by omega) aH,?_⟩
  show(d,vs,T,(fs.take k).map (·.2)++[fs[k].2])=(d,vs,T,(fs.take (k+1)).map (·.2))
  rw[List.take_add_one,agz aH,List.map_append];rfl
 .have hge:k=fs.length:=by dsimp only at hge;omega
  subst hge;refine .some ?_;rw[List.take_length];rfl
def Mo{l:Lw}(hw:WF dv l){d:Int}{vs D:List Vl}{ms:List (List Vl)}{mts:List Ty}(h:ms.length<=100):P.mY (d,(vs,(D,(ms,(mts,l.2.1))))):=by
 refine⟨h,λt ht=>?_⟩;have:=(hw.2.1.2 t ht).2.2.2.1;unfold maxLen at this;exact this
abbrev RV:Type:=List aE.den
abbrev Rs:Type:=aR.den×List aA.den×List Int×List aE.den
def uJ(f:Nat->List Vl->aR.den×List Vl×List Int):Nat->List (List Vl)->RV->aR.den⊕RV
 |_,[],acc=> .inr acc
 |k,vs::t,acc=>if((f k vs).1.1:Int)≠0 then .inl (f k vs).1 else uJ f (k+1) t (acc++[((f k vs).2.1,(f k vs).2.2)])
def GA{f:Nat->List Vl->aR.den×List Vl×List Int}(hf:∀m vs,(f m vs).1=Ml\/((f m vs).1.1:Int)≠0):∀{ms:List (List Vl)}{k:Nat}{acc:RV}{e:aR.den},uJ f k ms acc= .inl e->(e.1:Int)≠0
 |vs::ms,k,acc,e,h=>by
  rw[uJ]at h;split at h
  .rename_i g;cases h;exact g
  .exact GA hf h
def Db{f:Nat->List Vl->aR.den×List Vl×List Int}:∀{ms:List (List Vl)}{k:Nat}{acc MR:RV},uJ f k ms acc= .inr MR->MR.length=acc.length+ms.length
 |[],_,_,_,h=>by cases h;simp
 |vs::ms,k,acc,MR,h=>by
  rw[uJ]at h;split at h
  .cases h
  .rw[Db h];simp;omega
noncomputable def AA(dt:Dt)(x q:ie)(o oq:List Int)(mts:List Ty)(c:fi.den)(tbs:List bn.den):Rs:=
 match uJ (λm vs=>sy (m:Int) (Ds dt q oq c.1 vs ([],([],tbs)))) 0 c.2.2 []with
 | .inl e=>(e,[],[],[])
 | .inr MR=>if((sy (-1) (Ds dt x o c.1 c.2.1 (MR.map (·.1),(mts,tbs)))).1.1:Int)≠0 then((sy (-1) (Ds dt x o c.1 c.2.1 (MR.map (·.1),(mts,tbs)))).1,[],[],[])
   else(Ml,(sy (-1) (Ds dt x o c.1 c.2.1 (MR.map (·.1),(mts,tbs)))).2.1,(sy (-1) (Ds dt x o c.1 c.2.1 (MR.map (·.1),(mts,tbs)))).2.2,MR)
def rv(dt:Dt)(x:ie)(o:List Int)(d:Int)(vs:List Vl)(rs:ZO)(mem:Int):(sy mem (Ds dt x o d vs rs)).1=Ml\/((sy mem (Ds dt x o d vs rs)).1.1:Int)≠0:=by
 unfold Ds
 cases h:uH (λD a=>dt (ev (d,(vs,(D,rs)))) x.2.2.2.2 d a) o (agE x.2.2.2.1.length P.z3) (agE x.2.2.2.1.length 0)with
 |inl p=>exact .inl rfl
 |inr q=>exact .inr (Az h)
def GB(l:Lw)(x:ie)(c:fi.den)(q:ie)(oq:List Int)(mts:List Ty):Prop:=
 (¬(0:Int)<=x.2.1/\mts=[]/\c.2.2=[])\/∃j,∃hj:j<l.2.2.length,(x.2.1:Int)=(j:Int)/\q=l.2.2[j]/\M.bW aU q=aa ((0:Int),oq)/\nX q oq/\oq.length=q.2.2.2.1.length/\mts=q.2.2.2.1.map (λf:Fd=>f.2)
def eqE{e:aR.den}(h:e=Ml\/(e.1:Int)≠0):lH aR e Ml=decide ((e.1:Int)=0):=by
 rcases h with rfl|h
 .rw[mA];rfl
 .rw[ao h]
  refine nw.2 λg=>h ?_
  rw[g]
def ZP{l:Lw}(hw:WF dv l)(il:gy l)(hv:Valid l){k:Nat}(hk:k<l.2.2.length){c:fi.den}(hC:C2 l l.2.2[k] c){y:Int×Int×Int}(hy:M.cQ aU l (k:Int) c=aa y)(hy0:y.2.2=0)
 {o:List Int}(eo:M.bW aU l.2.2[k]=aa ((0:Int),o))(ho:nX l.2.2[k] o)(hol:o.length=l.2.2[k].2.2.2.1.length){q:ie}{oq:List Int}{mts:List Ty}(hA:GB l l.2.2[k] c q oq mts):
 M.ct aU l (k:Int) c=aa (AA mC l.2.2[k] q o oq mts c l.2.1):=by
 have hp:=qg l hw il;rw[hv.AI]at hp;have uv:=il.2.2.2.2.2 _ (agA hk);have EX:=hw.2.2.2 _ (agA hk);have Iz:=uv.2.2.1;have h8:=hC.le;unfold M.ct;rw[hp,agv,ai (by rw[show AI=Ml from rfl,mA];decide)]
 have hj:((if(decide ((k:Int)<(0:Int)))=af then aa af else aa (decide ((l.2.2.length:Int)<=(k:Int)))):Option Bool)=aa ag:=by
  rw[ai (by rw[aw];omega),ao (by omega)]
 rw[hj,agv,ai (by decide),hy,agv,ai (by simpa using hy0)]
 obtain⟨f,hf⟩:∃f,f=λ(m:Nat)(vs:List Vl)=>sy (m:Int) (Ds mC q oq c.1 vs ([],([],l.2.1))):=⟨_,rfl⟩
 refine Wp.eq (.join (Wp.mono (Q:=λu=>(∃e,uJ f 0 c.2.2 []= .inl e/\u=Sum.inr (e,[],[],[]))\/∃MR,uJ f 0 c.2.2 []= .inr MR/\MR.length<=100/\u=Sum.inl (c.1,c.2.1,l.2.1,MR,MR.map (λr:aE.den=>r.1),mts)) ?_ λu hu=>?_))
 .rw[aB hk,agv]
  rcases hA with⟨g1,rfl,g3⟩|⟨j,hj,g1,rfl,g3,g4,g5,rfl⟩
  .rw[ai (by simpa using g1),agv,ai (by decide),g3];exact .some (.inr ⟨[],rfl,by simp,rfl⟩)
  .have hsq:=il.2.2.2.2.2 _ (agA hj);have hwq:=hw.2.2.2 _ (agA hj);have aeN:=hsq.2.2.1
   have ei:idx l.2.2 l.2.2[k].2.1=aa l.2.2[j]:=by
    rw[show idx l.2.2 l.2.2[k].2.1=idx l.2.2 (j:Int)from av _ g1,aB hj]
   have aH:(l.2.2[k].2.1:Int)<(l.2.2.length:Int):=by
    have:((j:Nat):Int)<(l.2.2.length:Int):=by omega
    exact g1▸this
   rw[aj (an (show(0:Int)<=l.2.2[k].2.1 from g1▸Int.natCast_nonneg j)),an aH,agv,aj rfl,ei,agv,I9 _ (by omega),agv]
   refine .dec (λh0=>?_) λh0=>?_
   .rw[show M.cL aU l l.2.2[k].2.1 c.1=M.cL aU l (j:Int) c.1 by rw[g1]]
    refine Wp.seq _ (Gz hw il hv hj hC.date.1 hC.date.2 g3) λp hP=>?_
    refine Wp.count (λs=>s.1) c.2.2.length (λi s=>∃MR:RV,s.2=(c.1,c.2.1,l.2.1,l.2.2[j].2.2.2.1.map (λf:Fd=>f.2),MR,MR.map (λr:aE.den=>r.1))/\MR.length=i/\uJ f 0 c.2.2 []=uJ f i (c.2.2.drop i) MR) (by omega) rfl ⟨[],rfl,rfl,rfl⟩ λi s hi hs hJ=>?_
    obtain⟨ii,s⟩:=s;obtain⟨MR,rfl,j2,j3⟩:=hJ;dsimp only at hs;subst hs;refine .dec (λh=>?_) (λh=> .some (.inr ⟨MR,?_,by omega,rfl⟩))
    .have aH:i<c.2.2.length:=by dsimp only at h;omega
     rw[agJ aH,uJ]at j3
     have hr:=C9 (p:=p) (mem:=(i:Int)) (D0:=[]) (vs:=c.2.2[i]) (rs:=([],([],l.2.1))) hP hwq hsq (λa=>Fit.of hv il hj a c.1) (λa ha=>(g4.mem ha).1) (by omega) λD=>Mo hw (by simp)
     have hfi:f i c.2.2[i]=sy (i:Int) (Ds mC l.2.2[j] oq c.1 c.2.2[i] ([],([],l.2.1))):=by rw[hf]
     have pP:=rv mC l.2.2[j] oq c.1 c.2.2[i] ([],([],l.2.1)) (i:Int);rw[hfi]at j3;generalize sy (i:Int) (Ds mC l.2.2[j] oq c.1 c.2.2[i] ([],([],l.2.1)))=r at hr j3 pP;refine .bind (.idx i rfl aH (.aX hr ?_));dsimp only;rw[eqE pP]
     refine .kK (λhz=> .some (.inl ⟨_,?_,rfl⟩)) λhz=> .bind (.tW (by simp;omega) (.bind (.tW (by simp;omega) (.some ⟨aH,aP (by omega),MR++[(r.2.1,r.2.2)],by simp,by simp[j2],?_⟩))))
     .rw[j3,aj hz]
     .rw[j3,ai (λg=>g hz)]
    .have:i=c.2.2.length:=by dsimp only at h;omega
     rw[j3,this,List.drop_length];rfl
   .have:c.2.2=[]:=List.length_eq_zero_iff.1 (by omega);rw[this];exact .some (.inr ⟨[],rfl,by simp,rfl⟩)
 .unfold AA
  rcases hu with⟨e,he,rfl⟩|⟨MR,he,hl,rfl⟩
  .rw[hf]at he;rw[he];rfl
  .rw[hf]at he;rw[he]
   show Wp _ _
   dsimp only
   refine Wp.seq _ (Gz hw il hv hk hC.date.1 hC.date.2 eo) λp hP=>?_
   refine .aX (C9 (p:=p) (mem:= -1) (D0:=[]) hP EX uv (λa=>Fit.of hv il hk a c.1) (λa ha=>(ho.mem ha).1) (by omega) λD=>Mo hw (by simpa using hl)) ?_;rw[eqE (rv ..)]
   exact .kK (λhz=> .some (by rw[aj hz])) λhz=> .some (by rw[ai (λg=>g hz)])
end L
namespace L
def yS(l:List Int)(h:l.length<=100000):M.me aU l l=aa af:=by
 apply Wp.eq;unfold M.me;rw[ai (by simp)]
 refine Wp.count (λs=>s) l.length (λ_ _=>True) (by omega) rfl trivial λk s hk hs _=>?_
 obtain rfl:s=_:=hs
 refine Wp.seq (λj=>j=decide (k<l.length)) ?_ λj hj=>?_
 .refine Wp.dec (λh=> .some ?_) λh=> .some ?_
  .simp
  .simp;omega
 .subst hj
  refine Wp.dec (λaH=>?_) λ_=> .some rfl
  rw[aB aH,agv,agv,ai (by simp)];exact .some ⟨aH,cy (m:=l.length) (by omega) aH,trivial⟩
def ue(l:List Vl)(h:l.length<=100000):M.lC aU l l=aa af:=by
 apply Wp.eq;unfold M.lC;rw[ai (by simp)]
 refine Wp.count (λs=>s) l.length (λ_ _=>True) (by omega) rfl trivial λk s hk hs _=>?_
 obtain rfl:s=_:=hs
 refine Wp.seq (λj=>j=decide (k<l.length)) ?_ λj hj=>?_
 .refine Wp.dec (λh=> .some ?_) λh=> .some ?_
  .simp
  .simp;omega
 .subst hj
  refine Wp.dec (λaH=>?_) λ_=> .some rfl
  rw[aB aH,agv,agv,ai (by rw[mA];decide)];exact .some ⟨aH,cy (m:=l.length) (by omega) aH,trivial⟩
def Ja(l:List aE.den)(h:l.length<=100000)(hm:∀r∈l,r.1.length<=100000/\r.2.length<=100000):M.gw aU l l=aa af:=by
 apply Wp.eq;unfold M.gw;rw[ai (by simp)]
 refine Wp.count (λs=>s) l.length (λ_ _=>True) (by omega) rfl trivial λk s hk hs _=>?_
 obtain rfl:s=_:=hs
 refine Wp.seq (λj=>j=decide (k<l.length)) ?_ λj hj=>?_
 .refine Wp.dec (λh=> .some ?_) λh=> .some ?_
  .simp
  .simp;omega
 .subst hj
  refine Wp.dec (λaH=>?_) λ_=> .some rfl
  have:=hm _ (agA aH)
  have e:M.ic aU l[k] l[k]=aa af:=by
   unfold M.ic;rw[ue _ this.1,agv,aj rfl,yS _ this.2];rfl
  rw[aB aH,agv,agv,e,agv,ai (by simp)];exact .some ⟨aH,cy (m:=l.length) (by omega) aH,trivial⟩
def Dc{dp:List Vl->Int->Vl×Int×Int}:∀{o:List Int}{D:List Vl}{rl:List Int}{p:List Vl×List Int},uH dp o D rl= .inl p->p.1.length=D.length/\p.2.length=rl.length
 |[],D,rl,p,h=>by cases h;exact⟨rfl,rfl⟩
 |a::o,D,rl,p,h=>by
  rw[uH]at h;split at h
  .cases h
  .have:=Dc h;rw[bX,bX]at this;exact this
def Bd(p:Rs):Prop:=p.2.1.length<=100000/\p.2.2.1.length<=100000/\p.2.2.2.length<=100000/\∀r∈p.2.2.2,r.1.length<=100000/\r.2.length<=100000
def RW(e:aR.den):Bd (e,([],([],[]))):=⟨by simp,by simp,by simp,λr h=>by cases h⟩
def Mp{p:Rs}(hb:Bd p):M.jY aU (p.2.1,(p.2.2.1,p.2.2.2)) (p.2.1,(p.2.2.1,p.2.2.2))=aa af:=by
 unfold M.jY;rw[ue _ hb.1,agv,aj rfl,yS _ hb.2.1,agv,aj rfl,Ja _ hb.2.2.1 hb.2.2.2];rfl
def Mq{dt:Dt}{x q:ie}{o oq:List Int}{mts:List Ty}{c:fi.den}{tbs:List bn.den}(h:((AA dt x q o oq mts c tbs).1.1:Int)≠0):(AA dt x q o oq mts c tbs).2=([],([],[])):=by
 unfold AA at h⊢;split at h
 .rfl
 .split at h
  .rename_i g;rw[aj g]
  .exact absurd rfl h
def AB(c:fi.den):Wp (M.kF aU c) λr=>r=af->c.2.1.length<=14/\c.2.2.length<=10/\∀vs∈c.2.2,vs.length<=14:=by
 unfold M.kF
 refine Wp.seq (λj=>j=ag->c.2.1.length<=14/\c.2.2.length<=10) ?_ λj hj=>?_
 .refine Wp.dec (λ_=> .some λh=>by cases h) λh=> .some λg=>?_
  have g:=of_decide_eq_false g;exact⟨by omega,by omega⟩
 refine Wp.ite (λ_=> .some λh=>by cases h) λhc=>?_
 obtain⟨g1,g2⟩:=hj (by simpa using hc)
 refine Wp.count (λs=>s) c.2.2.length (λk _=>∀i(h:i<c.2.2.length),i<k->c.2.2[i].length<=14) (by omega) rfl (λi h g=>by omega) λk s hk hs hJ=>?_
 obtain rfl:s=_:=hs
 refine Wp.dec (λaH=>?_) λhge=> .some λ_=>⟨g1,g2,λvs Tv=>?_⟩
 .have aH:k<c.2.2.length:=by omega
  rw[aB aH,agv]
  refine Wp.dec (λ_=> .some λh=>by cases h) λh=> .some ⟨aH,cy (m:=c.2.2.length) (by omega) aH,λi hi Vo=>?_⟩
  by_cases e:i<k
  .exact hJ i hi e
  .obtain rfl:i=k:=by omega
   omega
 .obtain⟨i,hi,rfl⟩:=agS Tv;exact hJ i hi (by omega)
def Mr{l:Lw}(il:gy l)(hv:Valid l){k:Nat}(hk:k<l.2.2.length){c:fi.den}(hC:C2 l l.2.2[k] c):∃q oq mts,GB l l.2.2[k] c q oq mts/\q.2.2.2.1.length<=14:=by
 have Iz:=(il.2.2.2.2.2 _ (agA hk)).2.2.1;by_cases h:(0:Int)<=l.2.2[k].2.1
 .obtain⟨j,hj,e,_⟩:=PD hv hk h;obtain⟨oq,e1,e2,e3⟩:=Mm il hv hj;exact⟨_,oq,_, .inr ⟨j,hj,e,rfl,e1,e2,e3,rfl⟩,(il.2.2.2.2.2 _ (agA hj)).2.2.1⟩
 .refine⟨l.2.2[k],[],[], .inl ⟨h,rfl,?_⟩,Iz⟩
  rcases hc:c.2.2 with _|⟨vs,t⟩
  .rfl
  .obtain⟨q,_,e,_⟩:=hC.mem vs (by rw[hc];exact List.mem_cons_self ..);exact absurd (show(0:Int)<=l.2.2[k].2.1 from e▸Int.natCast_nonneg q) h
def Mt{n:Nat}{a:Int}(h:a<0\/(n:Int)<=a):((if(decide (a<(0:Int)))=af then aa af else aa (decide ((n:Int)<=a))):Option Bool)=aa af:=by
 by_cases g:a<0
 .rw[aj (an g)]
 .rw[ai (by simpa using g),an (h.resolve_left g)]
def Dd{n k:Nat}(h:k<n):((if(decide ((k:Int)<(0:Int)))=af then aa af else aa (decide ((n:Int)<=(k:Int)))):Option Bool)=aa ag:=by
 rw[ai (by rw[aw];omega),ao (by omega)]
inductive Mu(l:Lw)(a:Int)(c:fi.den):Prop
 |bad:¬Valid l->Mu l a c
 |out:Valid l->a<0\/(l.2.2.length:Int)<=a->Mu l a c
 |err (k:Nat) (y:Int×Int×Int):Valid l->k<l.2.2.length->a=(k:Int)->M.cQ aU l (k:Int) c=aa y->(y.2.2:Int)≠0->Mu l a c
 |ok (k:Nat) (hk:k<l.2.2.length) (y:Int×Int×Int) (o:List Int) (q:ie) (oq:List Int) (mts:List Ty):Valid l->a=(k:Int)->M.cQ aU l (k:Int) c=aa y->(y.2.2:Int)=0->C2 l l.2.2[k] c->M.bW aU l.2.2[k]=aa ((0:Int),o)->nX l.2.2[k] o->o.length=l.2.2[k].2.2.2.1.length->GB l l.2.2[k] c q oq mts->q.2.2.2.1.length<=14->Mu l a c
def ZQ(l:Lw)(il:gy l)(a:Int)(c:fi.den)(h1:c.2.1.length<=14)(h2:c.2.2.length<=10)(h3:∀vs∈c.2.2,vs.length<=14):Mu l a c:=by
 by_cases hv:Valid l
 rotate_left
 .exact .bad hv
 by_cases ho:a<0\/(l.2.2.length:Int)<=a
 .exact .out hv ho
 obtain⟨k,rfl⟩:=agF (show 0<=a by omega)
 have hk:k<l.2.2.length:=by omega
 obtain⟨y,hy,hyc⟩:=OA hv.enl il hk c h1 h2 h3;by_cases h0:(y.2.2:Int)=0
 rotate_left
 .exact .err k y hv hk rfl hy h0
 obtain⟨o,e1,e2,e3⟩:=Mm il hv hk;obtain⟨q,oq,mts,hA,hq⟩:=Mr il hv hk (hyc h0);exact .ok k hk y o q oq mts hv rfl hy h0 (hyc h0) e1 e2 e3 hA hq
def U7{l:Lw}(hw:WF dv l)(il:gy l)(a:Int)(c:fi.den)(h:¬Valid l):M.ct aU l a c=aa (((1:Int),((-1:Int),((-1:Int),(-1:Int)))),([],([],[]))):=by
 unfold M.ct;rw[qg l hw il,agv,aj];rw[Bool.not_eq_true',nw];intro g;exact h (by unfold Valid;rw[g])
def U8{l:Lw}(hw:WF dv l)(il:gy l){a:Int}(c:fi.den)(hv:Valid l)(h:a<0\/(l.2.2.length:Int)<=a):M.ct aU l a c=aa (((6:Int),((-1:Int),((-1:Int),(-1:Int)))),([],([],[]))):=by
 unfold M.ct;rw[qg l hw il,hv.AI,agv,ai (by rw[show AI=Ml from rfl,mA];decide),Mt h,agv,aj rfl]
def U9{l:Lw}(hw:WF dv l)(il:gy l)(c:fi.den)(hv:Valid l){k:Nat}(hk:k<l.2.2.length){y:Int×Int×Int}(hy:M.cQ aU l (k:Int) c=aa y)(h0:(y.2.2:Int)≠0):M.ct aU l (k:Int) c=aa ((y.2.2,(y.1,((-1:Int),(-1:Int)))),([],([],[]))):=by
 unfold M.ct;rw[qg l hw il,hv.AI,agv,ai (by rw[show AI=Ml from rfl,mA];decide),Dd hk,agv,ai (by decide),hy,agv,aj (by simpa using h0)]
end L
namespace L
def Fq(fs:List Fd)(h:fs.length<=100000)(d:Int)(vs:List Vl)(Ms:List (List Vl))(T:List bn.den):Loop (S:=Int×Int×(List aA.den)×(List (List aA.den))×(List bn.den)×List ay.den) (X:=Int×(List aA.den)×(List (List aA.den))×(List bn.den)×List ay.den) (λs3=>
(if(decide (s3.1<(fs.length:Int)))=af then
(idx fs s3.1).bind λx4=>
(cm s3.2.2.2.2.2 ([x4.2]:List ay.den)).bind λl5=>
some (Sum.inl (agw.wrap (s3.1+(1:Int)),s3.2.1,s3.2.2.1,s3.2.2.2.1,s3.2.2.2.2.1,l5))
else
some (Sum.inr (s3.2.1,s3.2.2.1,s3.2.2.2.1,s3.2.2.2.2.1,s3.2.2.2.2.2)))) aU ((0:Int),d,vs,Ms,T,([]:List ay.den))=aa (d,vs,Ms,T,fs.map (·.2)):=by
 apply Wp.eq
 refine Wp.count (λs=>s.1) fs.length (λk s=>s.2=(d,vs,Ms,T,(fs.take k).map (·.2))) (by omega) rfl rfl λk s hk hs hJ=>?_
 obtain⟨c,s⟩:=s;dsimp only at hs hJ;subst hs hJ
 refine Wp.dec (λaH=>?_) λhge=>?_
 .have aH:k<fs.length:=by dsimp only at aH;omega
  dsimp only;rw[aB aH,agv,dW (by simp;omega),agv];refine .some ⟨aH,cy (m:=fs.length) (by omega) aH,?_⟩
  show(d,vs,Ms,T,(fs.take k).map (·.2)++[fs[k].2])=(d,vs,Ms,T,(fs.take (k+1)).map (·.2))
  rw[List.take_add_one,agz aH,List.map_append];rfl
 .have hge:k=fs.length:=by dsimp only at hge;omega
  subst hge;refine .some ?_;rw[List.take_length];rfl
def Va{l:Lw}(il:gy l)(hv:Valid l){k:Nat}(hk:k<l.2.2.length):∃ms:ie,M.hZ aU l (k:Int)=aa ms/\ms.2.2.2.1.length<=14/\((¬(0:Int)<=l.2.2[k].2.1/\ms.2.2.2.1=[])\/∃q,∃hq:q<l.2.2.length,(l.2.2[k].2.1:Int)=(q:Int)/\(l.2.2[q].2.1:Int)= -1/\ms=l.2.2[q]):=by
 unfold M.hZ;rw[aB hk,agv];by_cases h:(0:Int)<=l.2.2[k].2.1
 .obtain⟨q,hq,e,e1⟩:=PD hv hk h;have q14:=(il.2.2.2.2.2 _ (agA hq)).2.2.1;refine⟨l.2.2[q],?_,q14, .inr ⟨q,hq,e,e1,rfl⟩⟩
  have ei:idx l.2.2 l.2.2[k].2.1=aa l.2.2[q]:=by
   rw[show idx l.2.2 l.2.2[k].2.1=idx l.2.2 (q:Int)from av _ e,aB hq]
  have aH:¬(l.2.2.length:Int)<=l.2.2[k].2.1:=λg=>by
   have g:(l.2.2.length:Int)<=(q:Int):=e▸g;omega
  rw[ai (by rw[aw];exact Int.not_lt.2 h),ao aH,agv,ai (by decide),ei,agv]
 .refine⟨(ahK,((0:Int),(([]:List Fd),(([]:List Fd),([]:List ig))))),?_,by simp, .inl ⟨h,rfl⟩⟩;rw[aj (an (Int.not_le.1 h)),agv,aj rfl]
def OG{l:Lw}(il:gy l)(hv:Valid l){k:Nat}(hk:k<l.2.2.length){c:fi.den}{q:ie}{oq:List Int}{mts:List Ty}(hA:GB l l.2.2[k] c q oq mts)(Ms:List (List Vl)):M.qd aU l (k:Int) c Ms=aa (c.1,c.2.1,Ms,l.2.1,mts):=by
 obtain⟨ms,en,m14,NE⟩:=Va il hv hk
 have hmt:ms.2.2.2.1.map (λf:Fd=>f.2)=mts:=by
  rcases hA with⟨g1,rfl,_⟩|⟨j,hj,g1,rfl,_,_,_,rfl⟩
  .rcases NE with⟨_,g⟩|⟨q,_,g,_⟩
   .rw[g];rfl
   .exact absurd (show(0:Int)<=l.2.2[k].2.1 from g▸Int.natCast_nonneg q) g1
  .rcases NE with⟨g,_⟩|⟨q,hq,g,_,rfl⟩
   .exact absurd (show(0:Int)<=l.2.2[k].2.1 from g1▸Int.natCast_nonneg j) g
   .obtain rfl:q=j:=by
     have:((q:Nat):Int)=(j:Int):=g.symm.trans g1;omega
    rfl
 unfold M.qd;rw[en,agv,Fq _ (by omega),agv,hmt]
end L
namespace L
abbrev Vb:List br.den:=[((⟨#[104,111,117,115,101]⟩:ByteArray),((-1:Int),(([((⟨#[97]⟩:ByteArray),((3:Int),(0:Int)))]:List bB.den),(([((⟨#[100]⟩:ByteArray),((3:Int),(0:Int)))]:List bB.den),([((⟨#[98,97,115,101]⟩:ByteArray),((0:Int),((-1:Int),((0:Int),(((0:Int),(109573:Int)),(([]:List ay.den),(([((7:Int),(0:Int))]:List ay.den),ahK)))))))]:List cX.den)))))]
abbrev OH:Lw:=(([]:List dD.den),(([]:List bn.den),Vb))
abbrev ZR:IJ:=((0:Int),(([]:List (List ay.den)),(([]:List Int),([(((0:Int),(0:Int)),(0:Int))]:List aK.den))))
def Mv:M.fB aU OH=aa ((0:Int),((0:Int),((0:Int),(0:Int)))):=by kernel_rfl
def ZS:M.eX aU OH 0 0 36525=aa ((0:Int),(0:Int),([]:List (List ay.den)),([]:List Int),([(((0:Int),(0:Int)),(0:Int))]:List aK.den)):=by
 have hx:idx OH.2.2 0=aa OH.2.2[0]:=rfl
 have hf:Fit OH.2.2[0].2.2.2.2 0 36525:=by
  refine⟨by decide,λr hr=>?_,?_⟩
  .grind
  .grind [TN,jw]
 have h1:=tG Mv (by decide) (by decide) hx (by decide) (by decide) (by decide) (by decide) hf;have h2:=LZ (l:=OH) (a1:=0) hx hf
 have h3:M.k9 aU OH 0 0 36525=aa ((0:Int),([]:List (List ay.den)),([]:List Int),([(((0:Int),(0:Int)),(0:Int))]:List aK.den)):=by kernel_rfl
 grind
def Vc:M.cL aU OH 0 36525=aa (Vb[0],[0],[ZR],[0]):=by
 unfold M.cL;refine Wp.eq (.aX (x:=Vb[0]) rfl (.aX (x:=[((0:Int),(([]:List (List ay.den)),(([]:List Int),([]:List aK.den))))]) rfl (.aX (x:=[(0:Int)]) rfl (.aX (x:=((0:Int),[(0:Int)])) (by kernel_rfl) (Wp.seq (λj=>j=([ZR],[(0:Int)])) ?_ λj hj=> .some (by rw[hj]))))))
 refine Wp.count (λs=>s.1) 1 (λk s=>s.2.1.length=1/\s.2.2.length=1/\(k=1->s.2=([ZR],[(0:Int)]))) (by omega) rfl ⟨rfl,rfl,λh=>by cases h⟩ λk s hk hs hJ=>?_
 obtain⟨c,A,B⟩:=s;obtain⟨j1,j2,j3⟩:=hJ;dsimp only at hs j1 j2 j3;subst hs
 refine .dec (λh=>?_) λh=> .some (j3 ?_)
 .have h:(k:Int)<1:=h
  obtain rfl:k=0:=by omega
  obtain⟨a,rfl⟩:=List.length_eq_one_iff.1 j1;obtain⟨b,rfl⟩:=List.length_eq_one_iff.1 j2;exact .aX ZS (.aX (x:=a) rfl (.aX (x:=b) rfl (.some ⟨by omega,rfl,rfl,rfl,λ_=>rfl⟩)))
 .have h:¬(k:Int)<1:=h;omega
def runT:M.ct aU OH 0 ((36525:Int),(([((3:Int),((0:Int),(1250:Int)))]:List aA.den),([]:List (List aA.den))))=aa (((0:Int),((0:Int),((0:Int),(0:Int)))),[((3:Int),((0:Int),(1250:Int)))],[(0:Int)],[]):=by
 unfold M.ct;refine Wp.eq (.aX Mv (.ite (λh=>absurd h (by rw[mA];decide)) λ_=> .aX (x:=ag) rfl (.ite (λh=>absurd h (by decide)) λ_=> .aX (x:=((0:Int),(0:Int),(0:Int))) (by kernel_rfl) (.ite (λh=>absurd h (by decide)) λ_=> .join (.aX (x:=Vb[0]) rfl (.aX (x:=ag) rfl (.ite (λh=>absurd h (by decide)) λ_=> .some ?_)))))))
 show Wp _ _
 exact .aX Vc (.aX (x:=(((0:Int),((0:Int),((0:Int),(0:Int)))),[((3:Int),((0:Int),(1250:Int)))],[(0:Int)])) (by kernel_rfl) (.ite (λh=>absurd h (by rw[mA];decide)) λ_=> .some rfl))
def AD:M.iP aU=aa af:=by
 unfold M.iP;exact Wp.eq (.aX (x:=((1:Int),((-1:Int),(0:Int)))) (by kernel_rfl) (.aX (x:=((0:Int),((1:Int),(8:Int)))) (by kernel_rfl) (.aX (x:=Vb) (by kernel_rfl) (.aX runT (.of (x:=af) (by kernel_rfl) rfl)))))
end L
namespace L
def uf{E E':jR->Vl×Int}:∀{C:List jR}{x k:Nat},(∀g∈C,E' g=E g)->gH E' x k C=gH E x k C
 |[],_,_,_=>rfl
 |g::C,x,k,h=>by
  have h0:=h g (List.mem_cons_self ..);rw[ru,ru,uf λg hg=>h g (List.mem_cons_of_mem _ hg)];unfold lG C4;rw[h0]
def OI{s:ie}{o:List Int}(h:nX s o)(hl:o.length=s.2.2.2.1.length){i:Nat}(hi:i<s.2.2.2.1.length):((i:Nat):Int)∈o:=Classical.byContradiction λhn=>by
 have:=ql (n:=s.2.2.2.1.length) (l:=(i:Int)::o) (List.nodup_cons.2 ⟨hn,h.nodup⟩) λx hx=>by
  rcases agY.1 hx with rfl|hx
  .omega
  .exact(h.mem hx).1
 simp only[List.length_cons]at this;omega
def again{x:ie}{d:Int}{a:Int}(EX:WF br x)(hf:Fit x.2.2.2.2 a d){E E':jR->Vl×Int}(hE:∀g,(∀n∈g,WF ay n)->(E g).2=0->E' g=E g)(h0:(mC E x.2.2.2.2 d a).2.2=0):
 ∃y:Nat,gH E' 0 0 (CS x.2.2.2.2 a d).1=((y:Int),((-1:Int),(0:Int)))/\ri (y:Int) (RR x.2.2.2.2 a d)=((mC E x.2.2.2.2 d a).2.1,af):=by
 have NW:∀r∈x.2.2.2.2,WF cX r:=EX.2.2.2.2.2;generalize x.2.2.2.2=rules at*
 have U5:∀g∈(CS rules a d).1,∀n∈g,WF ay n:=λg hg=>by
  rcases qj rules (TN rules a d) ([],[]) g hg with h|⟨i,rfl⟩
  .cases h
  .unfold gd;split
   .rename_i r hr;exact(NW _ (List.mem_of_getElem? hr)).2.2.2.2.2.1.2
   .intro n hn;cases hn
 rcases C8 hf E with⟨j,c,h1,h2,h3⟩|⟨y,h1,h2,h3⟩
 .rw[h3]at h0;exact absurd h0 h1
 .refine⟨y,?_,?_⟩
  .rw[<-h1]
   refine uf λg hg=>hE g (U5 g hg) ?_
   rcases ud E (CS rules a d).1 with⟨j,g',_,g2,_,g4⟩|⟨g1,_⟩
   .rw[h1]at g4;have:=av (λz:Int×Int×Int=>z.2.2) g4;exact absurd this.symm g2
   .have hk:=g1 g hg;unfold lG at hk;split at hk
    .exact hk
    .rename_i q;exact Decidable.not_not.1 q
  .rw[h3]at h0⊢;obtain⟨r,_,_,e⟩:=OC h0;rw[e,h2]
def De(MR:RV)(h:MR.length<=100000):Loop (S:=Int×List (List aA.den)) (X:=List (List aA.den)) (λVd=>
(if(decide (Vd.1<(MR.length:Int)))=af then
(idx MR Vd.1).bind λx12=>
(cm Vd.2 ([x12.1]:List (List aA.den))).bind λl13=>
some (Sum.inl (agw.wrap (Vd.1+(1:Int)),l13))
else
some (Sum.inr Vd.2))) aU ((0:Int),([]:List (List aA.den)))=aa (MR.map λr:aE.den=>r.1):=by
 refine Wp.eq (Wp.count (λs=>s.1) MR.length (λk s=>s.2=(MR.take k).map λr:aE.den=>r.1) (by omega) rfl rfl λk s hk hs hJ=>?_);obtain⟨c,s⟩:=s;dsimp only at hs hJ;subst hs hJ
 refine .dec (λh1=>?_) λh1=> .some ?_
 .have aH:k<MR.length:=by dsimp only at h1;omega
  refine .bind (.idx k rfl aH (.bind (.tW (by simp;omega) (.some ⟨aH,aP (by omega),?_⟩))))
  show _++[_]=_
  rw[List.take_add_one,agz aH,List.map_append];rfl
 .have:k=MR.length:=by dsimp only at h1;omega
  subst this;rw[List.take_length];rfl
def OJ{rules:List ig}{d a:Int}(hf:Fit rules a d)(y:Int):M.dh aU (a,((CS rules a d).1,((CS rules a d).2,RR rules a d))) y=aa (ri y (RR rules a d)):=by
 have Pm:=C7 hf;generalize RR rules a d=R at Pm⊢;exact Cy (a,((CS rules a d).1,((CS rules a d).2,R))) y (agW Pm (by decide))
def AE{l:Lw}(hw:WF dv l)(il:gy l)(hv:Valid l){k:Nat}(hk:k<l.2.2.length){c:fi.den}(hC:C2 l l.2.2[k] c){o:List Int}(e2:nX l.2.2[k] o)(e3:o.length=l.2.2[k].2.2.2.1.length){MR:RV}{mts:List Ty}(hM:MR.length<=100){D:List Vl}{rl:List Int}(l2:rl.length=l.2.2[k].2.2.2.1.length)(Iz:l.2.2[k].2.2.2.1.length<=14)
 (m4:∀a∈o,∃D1,(D1.length=D.length/\∀(j:Nat)(v:Vl),D1[j]? =aa v->(v.1:Int)≠0->D[j]? =aa v)/\(mC (ev (c.1,(c.2.1,(D1,(MR.map (λr:aE.den=>r.1),(mts,l.2.1)))))) l.2.2[k].2.2.2.2 c.1 a).2.2=0/\rl[a.toNat]? =aa (mC (ev (c.1,(c.2.1,(D1,(MR.map (λr:aE.den=>r.1),(mts,l.2.1)))))) l.2.2[k].2.2.2.2 c.1 a).2.1){Q:Unit⊕Bool->Prop}(hQ:Q (Sum.inl ())):
 Wp (Loop (S:=Int) (X:=(Unit)⊕(Bool)) (λVY=>
(if(decide (VY<(rl.length:Int)))=af then
(M.eX aU l (k:Int) VY c.1).bind λOK=>
(M.bS aU (OK.1,(OK.2.2.1,(OK.2.2.2.1,OK.2.2.2.2))) (c.1,(c.2.1,(D,(MR.map (λr:aE.den=>r.1),(mts,l.2.1)))))).bind λy20=>
(M.dh aU (OK.1,(OK.2.2.1,(OK.2.2.2.1,OK.2.2.2.2))) y20.1).bind λy21=>
((if(!decide (OK.2.1=(0:Int)))=af then
some af
else
(if(!decide (y20.2.2=(0:Int)))=af then
some af
else
(if(!y21.2)=af then
some af
else
(idx rl VY).bind λx23=>
some (!decide (y21.1=x23))))):Option (Bool)).bind λj22=>
(if j22=af then
some (Sum.inr (Sum.inr ag))
else
some (Sum.inl (agw.wrap (VY+(1:Int)))))
else
some (Sum.inr (Sum.inl ())))) aU (0:Int)) Q:=by
 have EX:=hw.2.2.2 _ (agA hk);have hp:=qg l hw il;rw[hv.AI]at hp
 refine Wp.count (λs=>s) rl.length (λ_ _=>True) (by omega) rfl trivial λi s hi hs _=>?_
 subst hs
 refine .dec (λaH=>?_) λ_=> .some hQ
 have aH:i<rl.length:=by omega
 have hf:=Fit.of hv il hk (i:Int) c.1;obtain⟨D1,n2,n3,n4⟩:=m4 _ (OI e2 e3 (show i<l.2.2[k].2.2.2.1.length by omega))
 have VZ:∀D':List Vl,P.mY (c.1,(c.2.1,(D',(MR.map (λr:aE.den=>r.1),(mts,l.2.1))))):=λD'=>Mo hw (by simpa using hM)
 obtain⟨y,c1,c2⟩:=again (E':=ev (c.1,(c.2.1,(D,(MR.map (λr:aE.den=>r.1),(mts,l.2.1)))))) EX hf (λg hg h0=>OE (VZ D1) (VZ D) (λn vs hn hl h0=>P.OD hn hl (VZ D1) n2.1 n2.2 h0) hg h0) n3;refine .aX (tG hp (by omega) (by omega) (aB hk) (by omega) (by omega) hC.date.1 hC.date.2 hf) ?_
 have U5:∀g∈(CS l.2.2[k].2.2.2.2 (i:Int) c.1).1,∀n∈g,WF ay n:=λg hg=>by
  rcases qj l.2.2[k].2.2.2.2 (TN l.2.2[k].2.2.2.2 (i:Int) c.1) ([],[]) g hg with h|⟨j,rfl⟩
  .cases h
  .unfold gd;split
   .rename_i r hr;exact(EX.2.2.2.2.2 _ (List.mem_of_getElem? hr)).2.2.2.2.2.1.2
   .intro n hn;cases hn
 have q1:M.bS aU ((i:Int),((CS l.2.2[k].2.2.2.2 (i:Int) c.1).1,((CS l.2.2[k].2.2.2.2 (i:Int) c.1).2,RR l.2.2[k].2.2.2.2 (i:Int) c.1))) (c.1,(c.2.1,(D,(MR.map (λr:aE.den=>r.1),(mts,l.2.1)))))=aa ((y:Int),((-1:Int),(0:Int))):=(yR (MM l.2.2[k].2.2.2.2 c.1 (i:Int)) (VZ D) U5 hf.n8).trans (av aa c1);have n5:aa rl[i]=_:=(agz aH).symm.trans n4;have c2:=c2.trans (av (λz=>(z,af)) (agx n5).symm);have q2:=OJ hf (y:Int);rw[c2]at q2;dsimp only;rw[q1,agv];dsimp only;rw[q2,agv]
 refine Wp.seq (λj=>j=ag) (.kK (λg=>absurd rfl g) λ_=> .kK (λg=>absurd rfl g) λ_=> .ite (λh=>by cases h) λ_=> .bind (.idx i rfl aH (.some (by simp)))) λj hj=> .ite (λh=>by rw[hj]at h;cases h) λ_=> .some ⟨aH,aP (by omega),trivial⟩
def oU(l:Lw)(scope:Int)(c:fi.den)(hw:WF dv l)(_:WF az scope)(_:WF fi c):M.gx aU l scope c=aa af:=by
 unfold M.gx;refine Wp.eq (Wp.seq (λj=>j=ag->gy l/\c.2.1.length<=14/\c.2.2.length<=10/\∀vs∈c.2.2,vs.length<=14) (Wp.seq _ (Ir l hw) λy hy=> .ite (λ_=> .some λh=>by cases h) λh=>Wp.seq _ (AB c) λz hz=> .some λg=>⟨hy (by simpa using h),hz (by simpa using g)⟩) λj hj=> .ite (λ_=> .aX AD (.some rfl)) λh=>?_);obtain⟨il,g1,g2,g3⟩:=hj (by simpa using h)
 have fin:((M.jY aU (([]:List aA.den),(([]:List Int),([]:List aE.den))) (([]:List aA.den),(([]:List Int),([]:List aE.den)))).bind λy7=>
  (if y7=af then
  (M.iP aU).bind λy8=>
  some y8
  else
  some ag):Option (Bool))=aa af:=by
  rw[show M.jY aU (([]:List aA.den),(([]:List Int),([]:List aE.den))) (([]:List aA.den),(([]:List Int),([]:List aE.den)))=aa af from Mp (RW Ml),agv,aj rfl,AD,agv]
 rcases ZQ l il scope c g1 g2 g3 with hv|⟨hv,ho⟩|⟨k,y,hv,hk,rfl,hy,h0⟩|⟨k,hk,y,o,q,oq,mts,hv,rfl,hy,h0,hC,e1,e2,e3,hA,hq⟩
 .rw[U7 hw il scope c hv,agv,aj (by simp)];exact .aX fin (.some rfl)
 .rw[U8 hw il c hv ho,agv,aj (by simp)];exact .aX fin (.some rfl)
 .rw[U9 hw il c hv hk hy h0,agv,aj (by simpa using h0)];exact .aX fin (.some rfl)
 have Iz:=(il.2.2.2.2.2 _ (agA hk)).2.2.1;have EX:=hw.2.2.2 _ (agA hk);have hT:=ZP hw il hv hk hC hy h0 e1 e2 e3 hA;have ZT:=Mq (dt:=mC) (x:=l.2.2[k]) (q:=q) (o:=o) (oq:=oq) (mts:=mts) (c:=c) (tbs:=l.2.1);have h8:=hC.le;by_cases hz:((AA mC l.2.2[k] q o oq mts c l.2.1).1.1:Int)=0
 rotate_left
 .rw[hT.trans (av aa (show _=((AA mC l.2.2[k] q o oq mts c l.2.1).1,(([]:List aA.den),(([]:List Int),([]:List aE.den))))from Prod.ext rfl (ZT hz))),agv,aj (by simpa using hz)];exact .aX fin (.some rfl)
 obtain⟨D,rl,MR,hR,hS,hM⟩:∃D rl MR,AA mC l.2.2[k] q o oq mts c l.2.1=(Ml,(D,(rl,MR)))/\Ds mC l.2.2[k] o c.1 c.2.1 (MR.map (λr:aE.den=>r.1),(mts,l.2.1))= .inl (D,rl)/\MR.length<=100:=by
  unfold AA at hz⊢
  cases hm:uJ (λm vs=>sy (m:Int) (Ds mC q oq c.1 vs ([],([],l.2.1)))) 0 c.2.2 []with
  |inl e=>rw[hm]at hz;exact absurd hz (GA (λm vs=>rv ..) hm)
  |inr MR=>
   rw[hm]at hz;dsimp only at hz⊢;have hl:=Db hm;simp only[List.length_nil]at hl
   cases hs:Ds mC l.2.2[k] o c.1 c.2.1 (MR.map (λr:aE.den=>r.1),(mts,l.2.1))with
   |inr q'=>
    have du:=Az hs;rw[hs]at hz;rw[aj (show((sy (-1) (.inr q')).1.1:Int)≠0 from du)]at hz;exact absurd hz du
   |inl p=>exact⟨p.1,p.2,MR,by rw[ai (λg=>g rfl)];rfl,hs,by omega⟩
 rw[hR]at hT;rw[hT,agv]
 obtain⟨m1,m2,_,m4⟩:=yQ hS e2.nodup λa ha=>by
  have:=(e2.mem ha).1;refine⟨this.1,by simpa using this.2,by simpa using this.2,λv hv=>?_⟩;rw[List.getElem?_replicate]at hv;split at hv
  .obtain rfl:=agx hv;rfl
  .cases hv
 have l1:D.length=l.2.2[k].2.2.2.1.length:=by
  have:=(Dc hS).1;simpa using this
 have l2:rl.length=l.2.2[k].2.2.2.1.length:=by simpa using m2
 refine .kK (λg=>absurd rfl g) λ_=>?_
 rw[Dd hk];refine .aX (x:=ag) rfl (.ite (λh=>by cases h) λ_=> .aX (De MR (by omega)) (.aX (OG il hv hk hA _) (.aX (x:=ag) ?_ (.ite (λh=>by cases h) λ_=> .join ?_))))
 .rw[aB hk,agv,ai (by simp[l2]),an (by show((D.length:Nat):Int)=((rl.length:Nat):Int);omega)];rfl
 refine(AE hw il hv hk hC e2 e3 hM l2 Iz (λa ha=>?_) (show rY _ _ (Sum.inl ())from ?_)).mono λu hu=>hu
 .obtain⟨D1,_,n2,n3⟩:=m4 a ha;exact⟨D1,n2,n3⟩
 .show Wp _ _
  exact .aX AD (.some rfl)
end L
end Go.Proofs.YtfeahmiobbjklaaGreatDoor
