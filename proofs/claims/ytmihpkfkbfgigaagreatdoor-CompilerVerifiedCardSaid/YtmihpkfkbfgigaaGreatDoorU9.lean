/- Joined texts: PT3 PX PX3 PX5 PS PM PX6 PY PX7. -/
import Derived.Test.YtmihpkfkbfgigaaGreatDoorU8
section
open _root_.Bool renaming and_eq_true->akD
open _root_.Int renaming le_refl->akA,tdiv->ajE,tdiv_eq_ediv_of_nonneg->aki,tmod->ajY
open _root_.Go.IntKind renaming i64->ajj
open _root_.List renaming getElem_mem->ajs,mem_append->ajL,mem_singleton->ajz
open _root_.Nat renaming zero_le->ajI
open _root_.Option renaming bind_some->aji,some->ak6
open _root_.Option.some renaming inj->ajk
namespace Go.Proofs.YtmihpkfkbfgigaaGreatDoor
open Go Go.RowKit
set_option maxRecDepth 100000
namespace L.P
theorem oy(x a b:Int):(if decide (x=a)=true then some (decide (x=a))else some (decide (x=b)))=some (decide (x=a\/x=b)):=by
 by_cases h:x=a<;>simp[h]
theorem uk(x a b c:Int):(if decide (x=a)=true then some (decide (x=a))else(if decide (x=b)=true then some (decide (x=b))else some (decide (x=c))))=some (decide (x=a\/x=b\/x=c)):=by
 rw[oy]
 by_cases h:x=a<;>simp[h]
theorem pX(x a b c d:Int):(if decide (x=a)=true then some (decide (x=a))else(if decide (x=b)=true then some (decide (x=b))else(if decide (x=c)=true then some (decide (x=c))else some (decide (x=d)))))=some (decide (x=a\/x=b\/x=c\/x=d)):=by
 rw[uk]
 by_cases h:x=a<;>simp[h]
theorem BW(x a b c d e:Int):(if decide (x=a)=true then some (decide (x=a))else(if decide (x=b)=true then some (decide (x=b))else(if decide (x=c)=true then some (decide (x=c))else(if decide (x=d)=true then some (decide (x=d))else some (decide (x=e))))))=some (decide (x=a\/x=b\/x=c\/x=d\/x=e)):=by
 rw[pX]
 by_cases h:x=a<;>simp[h]
theorem Wp.fb{α:Type}{l:List α}{i:Int}{Q:α->Prop}(h0:0<=i)(h1:i<l.length)(h:∀x,x∈l->idx l i=ak6 x->Q x):Wp (idx l i) Q:=by
 obtain⟨k,rfl⟩:∃k:Nat,i=k:=⟨i.toNat,by omega⟩
 have hk:k<l.length:=by omega
 exact⟨_,ah hk,h _ (ajs hk) (ah hk)⟩
def ar(op:Int):Int:=
 if(1<=op/\op<=9)\/(35<=op/\op<=39)then 0 else if op=10\/op=25\/(31<=op/\op<=34)then 1 else if(11<=op/\op<=24)\/(27<=op/\op<=30)then 2 else if op=26 then 3 else-1
theorem cw(N:Nat)(op:Int):M.dh N op=some (ar op):=by
 by_cases h:1<=op/\op<=39
 .have:op=1\/op=2\/op=3\/op=4\/op=5\/op=6\/op=7\/op=8\/op=9\/op=10\/op=11\/op=12\/op=13\/op=14\/op=15\/op=16\/op=17\/op=18\/op=19\/op=20\/op=21\/op=22\/op=23\/op=24\/op=25\/op=26\/op=27\/op=28\/op=29\/op=30\/op=31\/op=32\/op=33\/op=34\/op=35\/op=36\/op=37\/op=38\/op=39:=by omega
  rcases this with rfl|rfl|rfl|rfl|rfl|rfl|rfl|rfl|rfl|rfl|rfl|rfl|rfl|rfl|rfl|rfl|rfl|rfl|rfl|rfl|rfl|rfl|rfl|rfl|rfl|rfl|rfl|rfl|rfl|rfl|rfl|rfl|rfl|rfl|rfl|rfl|rfl|rfl|rfl<;>(show(_:Option Int)=_;kernel_rfl)
 .have ha:ar op= -1:=by unfold ar;rw[if_neg (by omega),if_neg (by omega),if_neg (by omega),if_neg (by omega)]
  rw[ha]
  have ne:∀k:Int,1<=k->k<=39->decide (op=k)=false:=fun k h1 h2=>by simp;omega
  unfold M.dh;simp[ne]
theorem jP(op:Int):ar op<=3:=by unfold ar;split<;>(try split)<;>(try split)<;>(try split)<;>omega
def iC(env:cE.den):Prop:=env.2.2.2.1.length<=100/\∀t∈env.2.2.2.2.2,t.2.2.2.length<=9223372036854775807
def Fm(op m:Int):Prop:=0<=ar op/\(op=14\/op=15\/op=16->0<=m/\m<=5)/\(op=34->0<=m/\ajY m 8<=5)/\(op=6->0<=m)
theorem KY(N:Nat)(op:Int):Wp (M.fD N op) fun _=>True:=by
 unfold M.fD;simp only[aC,aji];exact .some trivial
theorem sY(N:Nat)(op m:Int):Wp (M.cM N (op,m)) fun b=>b=true->Fm op m:=by
 unfold M.cM;simp only[cw,aji]
 refine Wp.seq (fun j=>j=false->0<=ar op) ?_ fun j hj=>?_
 .refine Wp.dec (fun _=> .some fun h=>by cases h) fun h=>?_
  refine Wp.jV (fun _=>Wp.seq _ (KY ..) fun y _=> .some fun _=>by omega) fun _=> .some fun _=>by omega
 .refine Wp.ite (fun _=> .some fun h=>by cases h) fun hc=>?_
  have ha:=hj (by simpa using hc);rw[uk];simp only[aji,aC,lP]
  refine .some fun hb=>?_
  unfold Fm;by_cases h1:op=14\/op=15\/op=16
  .rw[if_pos (by simpa using h1)]at hb;simp at hb;exact⟨ha,fun _=>hb,fun e=>by omega,fun e=>by omega⟩
  .rw[if_neg (by simpa using h1)]at hb;by_cases h2:op=34
   .rw[if_pos (by simpa using h2)]at hb;simp at hb;exact⟨ha,fun e=>absurd e h1,fun _=>hb,fun e=>by omega⟩
   .rw[if_neg (by simpa using h2)]at hb;by_cases h3:op=6
    .rw[if_pos (by simpa using h3)]at hb;simp at hb;exact⟨ha,fun e=>absurd e h1,fun e=>absurd e h2,fun _=>hb⟩
    .exact⟨ha,fun e=>absurd e h1,fun e=>absurd e h2,fun e=>absurd e h3⟩
def UR(op m:Int)(env:cE.den):Prop:=
 (op=7->0<=m/\m<env.2.1.length)/\(op=8->0<=m/\m<env.2.2.1.length)/\(op=33->0<=m/\m<env.2.2.2.2.2.length)/\(op=34->ajj.wrap (ajE m 8)<env.2.2.2.2.2.length)/\(op=36\/op=37\/op=38\/op=39->0<=m/\m<env.2.2.2.2.1.length)
theorem sZ(N:Nat)(op m:Int)(env:cE.den):Wp (M.dD N (op,m) env) fun b=>b=true->UR op m env:=by
 unfold M.dD UR;simp only
 refine Wp.dec (fun h=>?_) fun h7=>?_
 .subst h;simp only[aC,aji,lP]
  exact .some fun hb=>⟨fun _=>by simpa using hb,fun e=>by omega,fun e=>by omega,fun e=>by omega,fun e=>by omega⟩
 refine Wp.dec (fun h=>?_) fun h8=>?_
 .subst h
  refine Wp.seq (fun j=>j=true->0<=m/\m<env.2.2.1.length) ?_ fun j hj=> .some fun hb=>⟨fun e=>by omega,fun _=>hj hb,fun e=>by omega,fun e=>by omega,fun e=>by omega⟩
  refine Wp.dec (fun h0=>Wp.dec (fun h1=>Wp.bind (Wp.fb h0 h1 fun x _ _=> .some fun _=>⟨h0,h1⟩)) fun _=> .some fun h=>by cases h) fun _=> .some fun h=>by cases h
 refine Wp.dec (fun h=>?_) fun Mm=>?_
 .subst h;simp only[aC,aji,lP]
  exact .some fun hb=>⟨fun e=>by omega,fun e=>by omega,fun _=>by simpa using hb,fun e=>by omega,fun e=>by omega⟩
 refine Wp.dec (fun h=>?_) fun sd=>?_
 .subst h
  exact .some fun hb=>⟨fun e=>by omega,fun e=>by omega,fun e=>by omega,fun _=>by simpa using hb,fun e=>by omega⟩
 rw[pX];simp only[aji]
 refine Wp.dec (fun h=>?_) fun QU=> .some fun _=>⟨fun e=>absurd e h7,fun e=>absurd e h8,fun e=>absurd e Mm,fun e=>absurd e sd,fun e=>absurd e QU⟩
 simp only[aC,aji,lP]
 exact .some fun hb=>⟨fun e=>absurd e h7,fun e=>absurd e h8,fun e=>absurd e Mm,fun e=>absurd e sd,fun _=>by simpa using hb⟩
theorem BX{N:Nat}(l:List Vl)(hl:l.length<=100000)(hN:100001<=N):Wp (M.cZ N l) fun b=>b=true->∀v∈l,da v.1 v.2.1 v.2.2:=by
 unfold M.cZ;refine Wp.loop (fun s:Int=>∃i:Nat,s=i/\i<=l.length/\∀v∈l.take i,da v.1 v.2.1 v.2.2) (fun s=>(l.length-s).toNat) ⟨0,rfl,ajI _,by simp⟩ (by omega) ?_
 rintro _ ⟨i,rfl,hi,hp⟩
 refine Wp.dec (fun h=>?_) fun h=> .some fun _=>?_
 .have gj:i<l.length:=by omega
  rw[ah gj];simp only[aji,cR]
  refine Wp.jV (fun _=> .some fun h=>by cases h) fun hq=> .some ?_
  rw[az (by omega)];refine⟨⟨i+1,rfl,gj,fun v hv=>?_⟩,by simp only;omega⟩;rw[List.take_succ_eq_append_getElem gj]at hv
  rcases ajL.1 hv with hv|hv
  .exact hp v hv
  .rw[ajz.1 hv];exact hq
 .rw[List.take_of_length_le (by omega)]at hp;exact hp
theorem BY(N:Nat)(a b:Vl):Wp (M.c9 N a b) fun _=>True:=by
 unfold M.c9;simp only[aC,aji];exact .some trivial
theorem QV(N:Nat)(a b:Int):Wp (M.cC N a b) fun _=>True:=by
 unfold M.cC;simp only[lv,aC,aji];exact .some trivial
theorem ND(N:Nat)(op:Int)(a b:Vl):Wp (M.cK N op a b) fun _=>True:=by
 unfold M.cK M.c9;simp only[lv,aC,aji];exact .some trivial
def US(op m:Int)(env:cE.den):Prop:=
 (op=34->∀t,idx env.2.2.2.2.2 (ajj.wrap (ajE m 8))=some t->t.2.1=((3,0):Int×Int)/\t.2.2.1=((4,0):Int×Int))/\(op=36\/op=37\/op=38\/op=39->∀t,idx env.2.2.2.2.1 m=some t->RU op t)
theorem wh{N:Nat}{op m:Int}{args:List Vl}{env:cE.den}(hx:UR op m env)(ha:(args.length:Int)=ar op)(sd:op=34->0<=ajj.wrap (ajE m 8)):Wp (M.bt N (op,m) args env) fun b=>b=true->US op m env:=by
 obtain⟨x7,x8,Mi,TQ,x36⟩:=hx;unfold M.bt US;dsimp only[ae,Row.den]
 have no:∀{b:Bool},¬op=34->¬(op=36\/op=37\/op=38\/op=39)->b=true->(op=34->∀t,idx env.2.2.2.2.2 (ajj.wrap (ajE m 8))=some t->t.2.1=((3,0):Int×Int)/\t.2.2.1=((4,0):Int×Int))/\(op=36\/op=37\/op=38\/op=39->∀t,idx env.2.2.2.2.1 m=some t->RU op t):=fun h1 h2 _=>⟨fun e=>absurd e h1,fun e=>absurd e h2⟩
 refine Wp.dec (fun h=>?_) fun h7=>?_
 .obtain⟨a,b⟩:=x7 h;exact Wp.bind (Wp.fb a b fun x _ _=>by rw[cR];exact .some (no (by omega) (by omega)))
 refine Wp.dec (fun h=>?_) fun h8=>?_
 .obtain⟨a,b⟩:=x8 h;exact Wp.bind (Wp.fb a b fun x _ _=>by rw[cR];exact .some (no (by omega) (by omega)))
 have ag9:1<=ar op->0<args.length:=fun h=>by omega
 refine Wp.dec (fun h=>?_) fun Mm=>?_
 .obtain⟨a,b⟩:=Mi h
  have h1:ar op=1:=by rw[h];decide
  refine Wp.bind (Wp.fb a b fun x _ _=>?_)
  refine Wp.seq (fun _=>True) ?_ fun j _=> .some (no (by omega) (by omega))
  refine Wp.bind (Wp.fb (akA 0) (by omega) fun y _ _=>?_);rw[qK];simp only[aji,aC];exact .some trivial
 refine Wp.dec (fun h=>?_) fun UT=>?_
 .have b:=TQ h
  have h1:ar op=1:=by rw[h];decide
  refine Wp.bind (Wp.fb (sd h) b fun x _ UW=>?_)
  refine Wp.seq (fun j=>j=true->x.2.1=((3,0):Int×Int)/\x.2.2.1=((4,0):Int×Int)) ?_ fun j hj=> .some fun hb=>⟨fun _ t ht=>?_,fun e=>by omega⟩
  .refine Wp.bind (Wp.fb (akA 0) (by omega) fun y _ _=>?_);simp only[aC,lP]
   refine .some fun hb=>?_
   simp only[akD,oD,decide_eq_true_eq]at hb;exact⟨hb.2.1,hb.2.2⟩
  .rw[UW]at ht;obtain rfl:=ajk ht;exact hj hb
 rw[pX];simp only[aji]
 refine Wp.dec (fun h=>?_) fun QU=>?_
 .obtain⟨a,b⟩:=x36 h;refine Wp.bind (Wp.fb a b fun x _ UW=>?_);rw[nL]
  refine .some fun hb=>⟨fun e=>absurd e UT,fun _ t ht=>?_⟩
  rw[UW]at ht;obtain rfl:=ajk ht;simpa using hb
 have VJ:∀b:Bool,b=true->_:=fun b=>no (b:=b) UT QU
 refine Wp.dec (fun h=>?_) fun _=>?_
 .refine Wp.bind (Wp.fb (akA 0) (by omega) fun y _ _=>?_)
  exact Wp.seq _ (QV ..) fun b _=> .some (VJ b)
 refine Wp.dec (fun h=>?_) fun _=>?_
 .refine Wp.bind (Wp.fb (akA 0) (by omega) fun y _ _=>?_);refine Wp.bind (Wp.fb (by omega) (by omega) fun z _ _=>?_)
  exact Wp.seq _ (ND ..) fun b _=> .some (VJ b)
 refine Wp.dec (fun h=>?_) fun _=> .some (VJ _)
 refine Wp.seq (fun _=>True) ?_ fun b _=> .some (VJ b)
 refine Wp.bind (Wp.fb (akA 0) (by omega) fun y _ _=>?_)
 refine Wp.dec (fun _=>?_) fun _=> .some trivial
 refine Wp.bind (Wp.fb (by omega) (by omega) fun z _ _=>?_);refine Wp.bind (Wp.fb (by omega) (by omega) fun z' _ _=>?_)
 exact Wp.seq _ (BY ..) fun b _=> .some trivial
def Ce(c:Int):Prop:=c=0\/c=3\/c=12\/c=6\/c=8
theorem Cd.e{c:Int}(h:Cd c):Ce c:=by unfold Cd at h;unfold Ce;omega
theorem BZ{op:Int}{t:Ty}{j:Nat}:{ms:List (List Vl)}->{first:Bool}->{acc c:Int}->nM op t j ms first acc= .inr c->c=3\/c=6\/c=8
 |[],_,_,_,h=>by cases h
 |l::ms,first,acc,c,h=>by
  rw[nM]at h;split at h
  .cases h;exact .inr (.inl rfl)
  .split at h
   .cases h;exact .inr (.inl rfl)
   .split at h
    .split at h
     .exact BZ h
     .cases h;exact .inl rfl
    .cases h;exact .inr (.inr rfl)
theorem NE(op:Int)(t:Ty)(j:Nat)(ms:List (List Vl)):Ce (HY op t j ms).2:=by
 unfold HY;split
 .unfold Ce;omega
 .split
  .unfold Ce;omega
  .rename_i c hc;have:=BZ hc
   show Ce c
   unfold Ce;omega
theorem kG(N:Nat)(b:Bool):Wp (M.dx N b) fun _=>True:=by
 unfold M.dx;simp only[aC];exact .some trivial
theorem KZ(op:Int)(a:Vl):Wp (M.jA aE op a) fun _=>True:=by
 unfold M.jA
 refine Wp.dec (fun _=> .some trivial) fun _=>?_
 refine Wp.dec (fun _=>Wp.seq _ (kG ..) fun _ _=> .some trivial) fun _=>?_
 refine Wp.seq _ (o9 ..) fun y _=>?_
 simp only[aC];exact .some trivial
theorem wi(N:Nat)(a b:Int):Wp (M.lU N a b) fun r=>Cd r.2:=by
 unfold M.lU
 refine Wp.seq _ (rL ..) fun r _=>?_
 simp only[aC,aji];exact .some (zM (Cd3 _) (zM (yk _) (yk _)))
theorem Ib{op m:Int}{a b:Vl}(hm:op=14\/op=15\/op=16->0<=m/\m<=5)(fM:13<=op/\op<=16):Wp (M.jK aE (op,m) a b) fun r=>Cd r.2:=by
 unfold M.jK;dsimp only[ae,Row.den]
 refine Wp.seq (fun j=>Cd j.1) ?_ fun j hj=> .some hj
 refine Wp.dec (fun _=>Wp.seq _ (wi ..) fun r hr=> .some hr) fun Tj=>?_
 have Ak:=hm (by omega);simp only[aC,aji,lP]
 refine Wp.ite (fun _=>Wp.seq _ (yo Ak) fun r hr=> .some hr) fun _=>?_
 refine Wp.dec (fun _=>Wp.seq _ (FH Ak) fun r hr=> .some hr) fun _=>?_
 refine Wp.dec (fun _=>Wp.seq _ (wc Ak) fun r hr=> .some hr) fun _=>?_
 refine Wp.dec (fun _=>Wp.seq _ (lz _ Ak) fun r hr=> .some hr) fun _=>?_
 exact Wp.seq _ (rM Ak) fun r hr=> .some hr
theorem Ic{op m:Int}{a b:Vl}(hm:op=14\/op=15\/op=16->0<=m/\m<=5):Wp (M.fA aE (op,m) a b) fun r=>Cd r.2:=by
 unfold M.fA;dsimp only[ae,Row.den];rw[oy,pX,oy];simp only[aji]
 refine Wp.ite (fun _=> .some (yk 0)) fun _=>?_
 refine Wp.dec (fun _=> .some (yk 0)) fun _=>?_
 refine Wp.dec (fun h=>Wp.seq _ (Ib hm (by omega)) fun r hr=> .some hr) fun _=>?_
 refine Wp.dec (fun _=>?_) fun _=>?_
 .simp only[aC];exact .some (by split<;>exact yk 0)
 refine Wp.dec (fun _=>Wp.seq _ (kG ..) fun _ _=> .some (yk 0)) fun _=>?_
 refine Wp.dec (fun _=>Wp.seq _ (kG ..) fun _ _=> .some (yk 0)) fun _=>?_
 refine Wp.dec (fun _=>Wp.seq _ (kG ..) fun _ _=> .some (yk 0)) fun _=>?_
 refine Wp.dec (fun _=>Wp.seq _ (kG ..) fun _ _=> .some (yk 0)) fun _=>?_
 refine Wp.dec (fun _=>Wp.seq (fun j=>j.1=0) (Wp.dec (fun _=>Wp.seq _ (kG ..) fun _ _=> .some rfl) fun _=>Wp.seq _ (kG ..) fun _ _=> .some rfl) fun j hj=> .some (.inl hj)) fun _=>?_
 refine Wp.dec (fun _=>Wp.seq (fun j=>j.1=0) (Wp.dec (fun _=>Wp.seq _ (kG ..) fun _ _=> .some rfl) fun _=>Wp.seq _ (kG ..) fun _ _=> .some rfl) fun j hj=> .some (.inl hj)) fun _=>?_
 refine Wp.dec (fun _=>Wp.seq _ (od ..) fun r hr=> .some hr) fun _=>?_
 refine Wp.dec (fun _=> .some (yk 0)) fun _=>?_
 exact Wp.seq _ (ou ..) fun r _=> .some (yk 0)
theorem wj{op m:Int}{args:List Vl}{env:cE.den}(he:iC env)(hf:Fm op m)(hx:UR op m env)(ha:(args.length:Int)=ar op)(UX:US op m env)(sd:op=34->0<=ajj.wrap (ajE m 8)):Wp (M.bB aE (op,m) args env) fun r=>Ce r.2:=by
 obtain⟨x7,x8,Mi,TQ,x36⟩:=hx;obtain⟨f0,f14,f34,_⟩:=hf;obtain⟨w34,w36⟩:=UX;have Mo:Ce 0:= .inl rfl;unfold M.bB;dsimp only[ae,Row.den];rw[BW,pX];simp only[aji]
 refine Wp.dec (fun _=> .some Mo) fun _=>?_
 refine Wp.dec (fun _=> .some Mo) fun _=>?_
 refine Wp.dec (fun h=>Wp.bind (Wp.fb (x7 h).1 (x7 h).2 fun x _ _=> .some Mo)) fun _=>?_
 refine Wp.dec (fun h=>Wp.bind (Wp.fb (x8 h).1 (x8 h).2 fun x _ _=> .some Mo)) fun _=>?_
 refine Wp.dec (fun _=> .some Mo) fun _=>?_
 refine Wp.dec (fun _=> .some Mo) fun _=>?_
 refine Wp.dec (fun h=>?_) fun _=>?_
 .obtain⟨a,b⟩:=x36 h
  obtain⟨j,rfl⟩:∃j:Nat,m=j:=⟨m.toNat,by omega⟩
  have hj:j<env.2.2.2.2.1.length:=by omega
  rw[o8 (by unfold aE;omega) h hj he.1 (w36 h _ (ah hj))];exact .some (NE ..)
 refine Wp.dec (fun h=>?_) fun _=>?_
 .have h1:ar op=1:=by rw[h];decide
  refine Wp.bind (Wp.fb (Mi h).1 (Mi h).2 fun x hx _=>?_);refine Wp.bind (Wp.fb (akA 0) (by omega) fun y _ _=>?_)
  refine Wp.seq _ (yp _ _ _ (he.2 x hx)) fun r hr=>?_
  refine Wp.ite (fun _=> .some (by unfold Ce;omega)) fun hc=>?_
  obtain⟨a,b⟩:=hr (by simpa using hc);exact Wp.bind (Wp.fb a b fun z _ _=> .some Mo)
 refine Wp.dec (fun h=>?_) fun _=>?_
 .have h1:ar op=1:=by rw[h];decide
  refine Wp.bind (Wp.fb (sd h) (TQ h) fun x hx UW=>?_);refine Wp.bind (Wp.fb (akA 0) (by omega) fun y _ _=>?_);obtain⟨k1,k2⟩:=w34 h x UW;obtain⟨m1,m2⟩:=f34 h
  have:0<=ajY m 8:=by rw[Int.tmod_eq_emod_of_nonneg m1];omega
  exact Wp.seq _ (tQ ⟨this,m2⟩ k1 k2 (he.2 x hx)) fun r hr=> .some hr.e
 refine Wp.dec (fun h=>?_) fun _=>?_
 .refine Wp.bind (Wp.fb (akA 0) (by omega) fun y _ _=>?_)
  exact Wp.seq _ (KZ ..) fun r _=> .some Mo
 refine Wp.dec (fun h=>?_) fun _=>?_
 .refine Wp.bind (Wp.fb (akA 0) (by omega) fun y _ _=>?_);refine Wp.bind (Wp.fb (by omega) (by omega) fun z _ _=>?_)
  exact Wp.seq _ (Ic f14) fun r hr=> .some hr.e
 have h3:ar op=3:=by
  have:¬ar op=0:=by unfold ar;split<;>(try split)<;>(try split)<;>(try split)<;>omega
  have:=jP op;omega
 refine Wp.bind (Wp.fb (akA 0) (by omega) fun y _ _=>?_)
 refine Wp.dec (fun _=>Wp.bind (Wp.fb (by omega) (by omega) fun z _ _=> .some Mo)) fun _=>Wp.bind (Wp.fb (by omega) (by omega) fun z _ _=> .some Mo)
structure NF(r:Vl×Int):Prop where
 ok:r.2=0->da r.1.1 r.1.2.1 r.1.2.2
 bad:r.2≠0->r.1=((0,0,0):Int×Int×Int)
 code:r.2=0\/r.2=2\/r.2=3\/r.2=6\/r.2=8\/r.2=12
theorem pb{n:Ty}{args:List Vl}{env:cE.den}(he:iC env)(hn:WF aa n)(hl:args.length<=100000):Wp (M.bI aE n args env) NF:=by
 obtain⟨op,m⟩:=n;have hm:=hn.2;unfold M.bI
 have err:∀c:Int,c≠0->(c=2\/c=3\/c=6\/c=8\/c=12)->NF (((0:Int),((0:Int),(0:Int))),c):=fun c h1 h2=>⟨fun h=>absurd h h1,fun _=>rfl, .inr h2⟩
 refine Wp.seq (fun j=>j=false->Fm op m/\(args.length:Int)=ar op) ?_ fun j hj=>?_
 .refine Wp.seq _ (sY ..) fun y hy=>?_
  refine Wp.ite (fun _=> .some fun h=>by cases h) fun hc=>?_
  rw[cw]
  exact .some fun h=>⟨hy (by simpa using hc),by simpa using h⟩
 refine Wp.ite (fun _=> .some (err 2 (by decide) (by omega))) fun hc=>?_
 obtain⟨hf,ha⟩:=hj (by simpa using hc)
 refine Wp.seq _ (sZ ..) fun y hy=>?_
 refine Wp.ite (fun _=> .some (err 6 (by decide) (by omega))) fun uv=>?_
 have hx:=hy (by simpa using uv)
 have sd:op=34->0<=ajj.wrap (ajE m 8):=fun e=>by
  have h0:=(hf.2.2.1 e).1;have h1:(m:Int)<=9223372036854775807:=hm.2;rw[aki h0];dsimp only[ae,Row.den]at h0 h1⊢;rw[aM (by omega) (by omega)];omega
 refine Wp.seq (fun j=>j=false->US op m env) ?_ fun j5 hj5=>?_
 .refine Wp.seq _ (BX _ hl (by unfold aE;omega)) fun y _=>?_
  refine Wp.ite (fun _=> .some fun h=>by cases h) fun _=>?_
  exact Wp.seq _ (wh hx ha sd) fun z hz=> .some fun h=>hz (by simpa using h)
 refine Wp.ite (fun _=> .some (err 8 (by decide) (by omega))) fun JQ=>?_
 have UX:=hj5 (by simpa using JQ)
 refine Wp.seq _ (wj he hf hx ha UX sd) fun r hr=>?_
 refine Wp.jV (fun h=> .some (err _ h (by unfold Ce at hr;omega))) fun _=>?_
 rw[cR];simp only[aji]
 refine Wp.jV (fun _=> .some (err 3 (by decide) (by omega))) fun hp=> .some ⟨fun _=>hp,fun h=>absurd rfl h, .inl rfl⟩
end L.P
end Go.Proofs.YtmihpkfkbfgigaaGreatDoor
end
section
open _root_.Int renaming toNat_natCast->ajr
open _root_.Go.IntKind renaming i64->ajj
open _root_.List renaming append_nil->akd,drop_eq_getElem_cons->ajX,drop_of_length_le->aj1,getD->ajN,getElem?_append_left->ajQ,getElem?_append_right->aj6,getElem?_drop->ajF,getElem?_eq_getElem->ajl,getElem?_eq_some_iff->ajn,getElem?_map->akj,getElem_append_left->ajv,getElem_append_right->ajA,getElem_mem->ajs,length_append->ajm,length_map->ajM,length_singleton->ajw,mem_append->ajL,mem_singleton->ajz,replicate->ajq,replicate_succ->ako,set_append_right->aj4,take_append_of_le_length->ajK,take_length->ajD
open _root_.Nat renaming le_of_lt->akV,le_refl->ajo
open _root_.Option renaming bind_some->aji,getD_some->ajW
open _root_.Option.some renaming inj->ajk
namespace Go.Proofs.YtmihpkfkbfgigaaGreatDoor
open Go Go.RowKit
set_option maxRecDepth 100000
namespace L.P
abbrev dq(l:List Nat):List Int:=l.map (fun n:Nat=>(n:Int))
def mi(a:Int)(i:Nat)(sk:List Nat):Nat:=if a=0 then i else sk.getD (sk.length-a.toNat) 0
def jC:List Ty->Nat->List Nat->List Nat->(Nat×Int)⊕(List Nat×List Nat)
 |[],_,st,sk=> .inr (st,sk)
 |n::e,i,st,sk=>
  if ar n.1<0 then .inl (i,2)else if(sk.length:Int)<ar n.1 then .inl (i,5)else
  if 12<sk.length-(ar n.1).toNat+1 then .inl (i,16)else jC e (i+1) (st++[mi (ar n.1) i sk]) (sk.take (sk.length-(ar n.1).toNat)++[mi (ar n.1) i sk])
def pY(e:List Ty):Int×Int×List Int:=
 if 48<e.length then(0,4,[])else if e.length=0 then(0,5,[])else match jC e 0 [] []with
  | .inl (i,c)=>(i,c,[])
  | .inr (st,sk)=>if 1<sk.length then(e.length,4,[])else(0,0,dq st)
theorem zN(st:List Nat)(m:Nat)(v:Nat):aQ (dq st++ajq (m+1) (0:Int)) (st.length:Int) (v:Int)=dq (st++[v])++ajq m (0:Int):=by
 unfold aQ;rw[ajr,aj4 _ _ (by simp),ako];simp
theorem ta(st:List Nat)(m:Nat)(u v:Nat):aQ (dq (st++[u])++ajq m (0:Int)) (st.length:Int) (v:Int)=dq (st++[v])++ajq m (0:Int):=by
 unfold aQ;rw[ajr,List.set_append_left _ _ (by simp)]
 congr 1
 simp only[dq,List.map_append];rw[aj4 _ _ (by simp)];simp
theorem ma(e:List Ty):M.eQ aE e=some (pY e):=by
 apply Wp.eq;unfold M.eQ pY
 refine Wp.dec (fun h=> .some ?_) fun h1=>?_
 .rw[if_pos (by omega)]
 rw[if_neg (show¬48<e.length by omega)]
 refine Wp.dec (fun h=> .some ?_) fun h2=>?_
 .rw[if_pos (show e.length=0 by omega)]
 rw[if_neg (show¬e.length=0 by omega)]
 have uI:mI (e.length:Int) (0:Int)=some (ajq e.length 0):=by
  unfold mI;rw[if_pos (by omega),ajr]
 rw[uI];simp only[aji];refine Wp.join (Wp.loop (fun s:Int×List Int×List Int=>∃st sk:List Nat,s=((st.length:Int),dq st++ajq (e.length-st.length) 0,dq sk)/\st.length<=e.length/\sk.length<=12/\jC (e.drop st.length) st.length st sk=jC e 0 [] []) (fun s=>(e.length-s.1).toNat) ⟨[],[],by simp,by simp,by simp,by simp⟩ (by simp only;unfold aE;omega) ?_)
 rintro _ ⟨st,sk,rfl,eM,Mp,bw⟩
 simp only
 refine Wp.dec (fun hk=>?_) fun hk=> .some ?_
 case refine_2=>
  have hd:e.drop st.length=[]:=aj1 (by omega);rw[hd]at bw;rw[<-bw]
  have h0:e.length-st.length=0:=by omega
  rw[h0];simp only[jC,List.replicate_zero,akd]
  show Wp _ _
  refine Wp.dec (fun h=> .some ?_) fun h=> .some ?_
  .rw[if_pos (by simp at h;omega)]
  .rw[if_neg (by simp at h;omega)]
 have dO:st.length<e.length:=by omega
 have hd:e.drop st.length=e[st.length]::e.drop (st.length+1):=ajX dO
 obtain⟨m,hm⟩:∃m,e.length-st.length=m+1:=⟨e.length-st.length-1,by omega⟩
 rw[hd]at bw;rw[ah dO,hm];simp only[aji,cw];generalize fM:(e[st.length].1:Int)=op;rw[jC]at bw;rw[fM]at bw;have Ie:=jP op
 refine Wp.dec (fun h=> .some ?_) fun Ef=>?_
 .rw[if_pos h]at bw
  show _=_
  rw[<-bw]
 rw[if_neg Ef]at bw
 refine Wp.dec (fun h=> .some ?_) fun hlen=>?_
 .rw[if_pos (by simpa using h)]at bw
  show _=_
  rw[<-bw]
 have hlen:¬(sk.length:Int)<ar op:=by simpa using hlen
 rw[if_neg hlen]at bw
 obtain⟨a,ha⟩:∃a:Nat,ar op=a:=⟨(ar op).toNat,by omega⟩
 rw[ha]at bw Ef hlen Ie⊢
 have abf:a<=sk.length:=by omega
 have e6:idx (dq st++ajq (m+1) (0:Int)) (st.length:Int)=some 0:=by
  rw[ah (by simp)];rw[ajA (by simp)];simp
 rw[e6]
 have hw:ajj.wrap (((dq sk).length:Int)-(a:Int))=((sk.length-a:Nat):Int):=by
  rw[ajM,aM (by omega) (by omega)];omega
 have hs:mi (a:Int) st.length sk=(if a=0 then st.length else sk.getD (sk.length-a) 0):=by
  unfold mi;by_cases h0:a=0
  .subst h0;simp
  .rw[if_neg (by omega),if_neg h0,ajr]
 simp only[aji,zN,hw];refine Wp.seq (· =dq (st++[mi (a:Int) st.length sk])++ajq m (0:Int)) ?_ ?_
 .refine Wp.dec (fun h=>?_) fun h=>?_
  .have ao:sk.length-a<(dq sk).length:=by simp;omega
   rw[ah ao]
   have e9:idx (dq (st++[st.length])++ajq m (0:Int)) (st.length:Int)=some (st.length:Int):=by
    rw[ah (by simp)];rw[ajv (by simp)];simp
   simp only[aji,e9,List.getElem_map,ta];refine .some ?_;rw[hs,if_neg (by omega),show sk.getD (sk.length-a) 0=sk[sk.length-a]'(by simpa using ao) by simp[ajN,show sk.length-a<sk.length by omega]]
  .refine .some ?_;rw[hs,if_pos (by omega)]
 .rintro _ rfl
  generalize mi (a:Int) st.length sk=s at bw⊢
  have wV:fa (dq sk) (0:Int) ((sk.length-a:Nat):Int)=some (dq (sk.take (sk.length-a))):=by
   rw[fW (by simp)];simp
  have e11:idx (dq (st++[s])++ajq m (0:Int)) (st.length:Int)=some (s:Int):=by
   rw[ah (by simp)];rw[ajv (by simp)];simp
  have QW:bZ (dq (sk.take (sk.length-a))) [(s:Int)]=some (dq (sk.take (sk.length-a)++[s])):=by
   rw[bL (by simp;omega)];simp
  rw[wV];simp only[aji,e11,QW]
  have hl:(dq (sk.take (sk.length-a)++[s])).length=sk.length-a+1:=by simp
  rw[hl];rw[ajr]at bw
  refine Wp.dec (fun h=> .some ?_) fun h=> .some ?_
  .rw[if_pos (by omega)]at bw
   show _=_
   rw[<-bw]
  .rw[if_neg (by omega)]at bw;rw[az (by omega)];refine⟨⟨st++[s],sk.take (sk.length-a)++[s],?_,by simp;omega,by simp;omega,?_⟩,by simp only;omega⟩
   .have:e.length-(st++[s]).length=m:=by simp;omega
    rw[this];simp
   .rw[ajm];exact bw
inductive Ch(st:List Nat):Nat->List Nat->Prop
 |nil:Ch st 0 []
 |snoc {i s:Nat} {l:List Nat} (h:st[i]? =some s) (hs:s<=i) (c:Ch st s l):Ch st (i+1) (l++[s])
theorem Ch.mono{st bX:List Nat}(hs:∀i s:Nat,st[i]? =some s->bX[i]? =some s){i:Nat}{l:List Nat}(h:Ch st i l):Ch bX i l:=by
 induction h with
 |nil=>exact .nil
 |snoc h1 h2 _ ih=>exact .snoc (hs _ _ h1) h2 ih
theorem rN{st:List Nat}{x i s:Nat}(h:st[i]? =some s):(st++[x])[i]? =some s:=by
 obtain⟨hi,_⟩:=ajn.1 h;rw[ajQ hi,h]
theorem Ch.lt{st:List Nat}{i:Nat}{l:List Nat}(h:Ch st i l):∀x∈l,x<i:=by
 induction h with
 |nil=>simp
 |snoc h1 h2 _ ih=>
  intro x hx
  rcases ajL.1 hx with hx|hx
  .have:=ih x hx;omega
  .rw[ajz.1 hx];omega
theorem Ch.take{st:List Nat}{i:Nat}{l:List Nat}(h:Ch st i l):∀m(hm:m<l.length),Ch st l[m] (l.take m):=by
 induction h with
 |nil=>intro m hm;simp at hm
 | @snoc i s l h1 h2 c ih=>
   intro m hm;by_cases G3:m<l.length
   .rw[ajv G3,ajK (by omega)];exact ih m G3
   .have:m=l.length:=by simp at hm;omega
    subst this;rw[ajA (by omega),ajK (by omega),ajD];simpa using c
theorem Ch.NG{st:List Nat}{i:Nat}{l l':List Nat}(h:Ch st i l)(h':Ch st i l'):l=l':=by
 induction h generalizing l' with
 |nil=>cases h' with
  |nil=>rfl
 | @snoc i s l h1 h2 c ih=>
   cases h' with
   |snoc g1 g2 c'=>
    rw[h1]at g1;obtain rfl:=ajk g1;rw[ih c']
theorem Ch.pos{st:List Nat}{i:Nat}{l:List Nat}(h:Ch st i l)(hi:0<i):l≠[]:=by
 cases h with
 |nil=>omega
 |snoc=>simp
structure wT(e:List Ty)(st:List Nat):Prop where
 len:st.length=e.length
 node:∀p(h:p<e.length),0<=ar e[p].1/\∃l,Ch st p l/\(ar e[p].1).toNat<=l.length/\l.length-(ar e[p].1).toNat+1<=12/\st[p]? =some (mi (ar e[p].1) p l)
theorem wT.nil:wT [] []:=⟨rfl,fun p h=>by simp at h⟩
theorem wT.snoc{e:List Ty}{st:List Nat}(v:wT e st){n:Ty}{sk:List Nat}(h0:0<=ar n.1)(hc:Ch st e.length sk)(ha:(ar n.1).toNat<=sk.length)(hd:sk.length-(ar n.1).toNat+1<=12):wT (e++[n]) (st++[mi (ar n.1) e.length sk]):=by
 refine⟨by simp[v.len],fun p hp=>?_⟩;by_cases h:p<e.length
 .rw[ajv h];obtain⟨h1,l,h2,h3,h4,h5⟩:=v.node p h;exact⟨h1,l,h2.mono fun _ _ h=>rN h,h3,h4,rN h5⟩
 .have:p=e.length:=by simp at hp;omega
  subst this;rw[ajA (by omega)];simp only[Nat.sub_self,List.getElem_cons_zero];refine⟨h0,sk,hc.mono fun _ _ h=>rN h,ha,hd,?_⟩;rw[<-v.len,aj6 (by omega)];simp[v.len]
theorem zO{a:Int}{i:Nat}{st l:List Nat}(h0:0<=a)(hc:Ch st i l)(ha:a.toNat<=l.length):mi a i l<=i:=by
 unfold mi;split
 .exact ajo _
 .have ao:l.length-a.toNat<l.length:=by omega
  simp only[ajN,ajl ao,ajW];exact akV (hc.lt _ (ajs ao))
theorem Ch.next{st l:List Nat}{i:Nat}{a:Int}(h0:0<=a)(hc:Ch st i l)(ha:a.toNat<=l.length)(hs:st[i]? =some (mi a i l)):Ch st (i+1) (l.take (l.length-a.toNat)++[mi a i l]):=by
 refine .snoc hs (zO h0 hc ha) ?_;unfold mi;by_cases h:a=0
 .rw[if_pos h];subst h;simpa using hc
 .have ao:l.length-a.toNat<l.length:=by omega
  rw[if_neg h];simp only[ajN,ajl ao,ajW];exact hc.take _ ao
theorem B3:∀(Mq pre:List Ty)(st sk bX K0:List Nat),wT pre st->Ch st pre.length sk->jC Mq pre.length st sk= .inr (bX,K0)->wT (pre++Mq) bX/\Ch bX (pre++Mq).length K0
 |[],pre,st,sk,bX,K0,v,c,h=>by
  rw[jC]at h;cases h;rw[akd];exact⟨v,c⟩
 |n::Mq,pre,st,sk,bX,K0,v,c,h=>by
  rw[jC]at h;split at h
  .cases h
  split at h
  .cases h
  split at h
  .cases h
  rename_i h1 h2 h3
  have h0:0<=ar n.1:=by omega
  have ha:(ar n.1).toNat<=sk.length:=by omega
  have v':=v.snoc h0 c ha (by omega)
  have c1:Ch (st++[mi (ar n.1) pre.length sk]) pre.length sk:=c.mono fun _ _ h=>rN h
  have hs:(st++[mi (ar n.1) pre.length sk])[pre.length]? =some (mi (ar n.1) pre.length sk):=by
   rw[<-v.len,aj6 (by omega)];simp[v.len]
  have c':=c1.next h0 ha hs;have:=B3 Mq (pre++[n]) _ _ bX K0 v' (by simpa using c') (by simpa using h);simpa using this
theorem B4{e:List Ty}{st:List Nat}(v:wT e st):∀(Mq pre:List Ty)(sk:List Nat),pre++Mq=e->Ch st pre.length sk->∃K0,jC Mq pre.length (st.take pre.length) sk= .inr (st,K0)/\Ch st e.length K0
 |[],pre,sk,he,c=>by
  rw[akd]at he;subst he;exact⟨sk,by rw[jC,<-v.len,ajD],c⟩
 |n::Mq,pre,sk,he,c=>by
  subst he;obtain⟨h0,l,h1,h2,h3,h4⟩:=v.node pre.length (by simp);rw[ajA (by omega)]at h0 h2 h3 h4;simp only[Nat.sub_self,List.getElem_cons_zero]at h0 h2 h3 h4;obtain rfl:=h1.NG c;rw[jC,if_neg (by omega),if_neg (by omega),if_neg (by omega)];have c':=c.next h0 h2 h4;obtain⟨K0,g1,g2⟩:=B4 v Mq (pre++[n]) _ (by simp) (by simpa using c');refine⟨K0,?_,g2⟩;rw[<-g1]
  have:(st.take pre.length++[mi (ar n.1) pre.length l])=st.take (pre++[n]).length:=by
   obtain⟨hi,hg⟩:=ajn.1 h4;rw[ajm,ajw,List.take_succ_eq_append_getElem hi,hg]
  rw[this];simp
theorem K2{st:List Nat}{P:Nat}(IH:∀p:Nat,p<P->∀q s:Nat,st[p]? =some s->s<=q->q<=p->∃s':Nat,st[q]? =some s'/\s<=s'){i:Nat}{l:List Nat}(c:Ch st i l):i<=P->∀m(hm:m<l.length)q,l[m]<=q->q<i->∃s',st[q]? =some s'/\l[m]<=s':=by
 induction c with
 |nil=>intro _ m hm;simp at hm
 | @snoc i s l h1 h2 c ih=>
   intro hP m hm q hq hqi;by_cases hs:s<=q
   .obtain⟨s',g1,g2⟩:=IH i (by omega) q s h1 hs (by omega);refine⟨s',g1,?_⟩;by_cases G3:m<l.length
    .rw[ajv G3];have:=c.lt _ (ajs G3);omega
    .have:m=l.length:=by simp at hm;omega
     subst this;simpa using g2
   .have G3:m<l.length:=by
     by_cases G3:m<l.length
     .exact G3
     .have:m=l.length:=by simp at hm;omega
      subst this;simp at hq;omega
    rw[ajv G3]at hq⊢;exact ih (by omega) m G3 q hq (by omega)
theorem wT.nest{e:List Ty}{st:List Nat}(v:wT e st):∀p q s:Nat,st[p]? =some s->s<=q->q<=p->∃s':Nat,st[q]? =some s'/\s<=s':=by
 intro p
 induction p using Nat.strongRecOn with
 |_ p IH=>
  intro q s hp hsq hqp;by_cases hq:q=p
  .subst hq;exact⟨s,hp,ajo _⟩
  .have ao:p<e.length:=by rw[<-v.len];exact(ajn.1 hp).1
   obtain⟨h0,l,h1,h2,h3,h4⟩:=v.node p ao;rw[hp]at h4;have h4:=ajk h4;unfold mi at h4;split at h4
   .omega
   .rename_i bP
    have hm:l.length-(ar e[p].1).toNat<l.length:=by omega
    simp only[ajN,ajl hm,ajW]at h4;have:=K2 (P:=p) IH h1 (ajo _) _ hm q (by rw[<-h4];exact hsq) (by omega);rw[<-h4]at this;exact this
def If(st:List Nat)(s P:Nat):List Nat:=((st.take (P+1)).drop s).map (· -s)
theorem wk{st:List Nat}{s P q t:Nat}(h:st[q]? =some t)(hs:s<=q)(hq:q<=P):(If st s P)[q-s]? =some (t-s):=by
 unfold If;rw[akj,ajF,show s+(q-s)=q by omega,List.getElem?_take_of_lt (by omega),h];rfl
theorem Ch.cut{e:List Ty}{st:List Nat}(v:wT e st){P s:Nat}(hP:st[P]? =some s){i:Nat}{l:List Nat}(c:Ch st i l):s<=i->i<=P+1->∃l0 l1,l=l0++l1/\Ch st s l0/\(∀x∈l1,s<=x)/\Ch (If st s P) (i-s) (l1.map (· -s)):=by
 induction c with
 |nil=>
  intro h1 _
  obtain rfl:s=0:=by omega
  exact⟨[],[],rfl, .nil,by simp, .nil⟩
 | @snoc i t l h1 h2 c ih=>
   intro h3 h4;by_cases hs:s=i+1
   .subst hs;exact⟨l++[t],[],by simp, .snoc h1 h2 c,by simp,by simpa using .nil⟩
   .obtain⟨t',g1,g2⟩:=v.nest P i s hP (by omega) (by omega);rw[h1]at g1;obtain rfl:=ajk g1;obtain⟨l0,l1,rfl,k1,k2,k3⟩:=ih g2 (by omega);refine⟨l0,l1++[t],by simp,k1,fun x hx=>?_,?_⟩
    .rcases ajL.1 hx with hx|hx
     .exact k2 x hx
     .rw[ajz.1 hx];exact g2
    .rw[show i+1-s=(i-s)+1 by omega,List.map_append];exact .snoc (wk h1 (by omega) (by omega)) (by simp only;omega) k3
theorem wT.cut{e:List Ty}{st:List Nat}(v:wT e st){P s:Nat}(hP:st[P]? =some s):wT ((e.take (P+1)).drop s) (If st s P):=by
 have ao:P<e.length:=by rw[<-v.len];exact(ajn.1 hP).1
 refine⟨by simp[If,v.len],fun p hp=>?_⟩
 have hp':s+p<P+1:=by simp at hp;omega
 have GD:((e.take (P+1)).drop s)[p]=e[s+p]:=by simp
 rw[GD];obtain⟨h0,l,h1,h2,h3,h4⟩:=v.node (s+p) (by omega);obtain⟨l0,l1,rfl,k1,k2,k3⟩:=h1.cut v hP (by omega) (by omega);rw[Nat.add_sub_cancel_left]at k3;obtain⟨t,g1,g2⟩:=v.nest P (s+p) s hP (by omega) (by omega);have e4:=g1;rw[h4]at g1;have g1:=ajk g1
 have Aj:(ar e[s+p].1).toNat<=l1.length:=by
  by_cases ha:ar e[s+p].1=0
  .omega
  .unfold mi at g1;rw[if_neg ha]at g1
   have hm:(l0++l1).length-(ar e[s+p].1).toNat<(l0++l1).length:=by omega
   simp only[ajN,ajl hm,ajW]at g1
   rcases Nat.lt_or_ge ((l0++l1).length-(ar e[s+p].1).toNat) l0.length with hc|hc
   .rw[ajv hc]at g1;have:=k1.lt _ (ajs hc);omega
   .simp at hc h2;omega
 refine⟨h0,l1.map (· -s),k3,by simpa using Aj,by simp at h3⊢;omega,?_⟩;have wV:=wk (s:=s) (P:=P) e4 (by omega) (by omega);rw[Nat.add_sub_cancel_left]at wV;rw[wV,<-g1];refine congrArg some ?_;unfold mi;by_cases ha:ar e[s+p].1=0
 .rw[if_pos ha,if_pos ha];omega
 .rw[if_neg ha,if_neg ha]
  have hm:(l0++l1).length-(ar e[s+p].1).toNat<(l0++l1).length:=by omega
  have W9:l1.length-(ar e[s+p].1).toNat<l1.length:=by omega
  simp only[ajN,ajl hm,ajW,ajM,akj,ajl W9,Option.map_some];rw[ajA (by simp;omega)]
  congr 2
  simp;omega
end L.P
end Go.Proofs.YtmihpkfkbfgigaaGreatDoor
end
section
open _root_.Int renaming toNat_natCast->ajr
open _root_.List renaming append_assoc->ajH,append_nil->akd,drop_append_of_le_length->aj5,drop_eq_getElem_cons->ajX,drop_of_length_le->aj1,getD->ajN,getElem?_eq_getElem->ajl,getElem?_eq_some_iff->ajn,getElem_append_left->ajv,getElem_append_right->ajA,getElem_mem->ajs,mem_append->ajL,mem_singleton->ajz,replicate->ajq,replicate_succ->ako,set_append_right->aj4
open _root_.Nat renaming le_of_lt->akV,le_refl->ajo,min_eq_left->aj3
open _root_.Option renaming bind_some->aji
open _root_.Prod.mk renaming injEq->akl
namespace Go.Proofs.YtmihpkfkbfgigaaGreatDoor
open Go Go.RowKit
namespace L.P
def opsL(st:List Nat):Nat->Nat->List Nat
 |0,_=>[]
 |a+1,i=>opsL st a (st.getD (i-1) 0)++[i-1]
theorem cT(st:List Nat):∀a i,(opsL st a i).length=a
 |0,_=>rfl
 |a+1,i=>by simp[opsL,cT st a]
theorem K3{st l:List Nat}{i:Nat}(c:Ch st i l):∀a,a<=l.length->(∀o∈opsL st a i,o<i/\(if h:l.length-a<l.length then l[l.length-a]else i)<=o/\∃s,st[o]? =some s/\s<=o/\(if h:l.length-a<l.length then l[l.length-a]else i)<=s):=by
 induction c with
 |nil=>intro a ha o ho;simp at ha;subst ha;simp[opsL]at ho
 | @snoc i s l h1 h2 c ih=>
   intro a ha o ho
   cases a with
   |zero=>simp[opsL]at ho
   |succ a=>
    have ao:(l++[s]).length-(a+1)<(l++[s]).length:=by simp;omega
    rw[dif_pos ao]
    have e1:(l++[s])[(l++[s]).length-(a+1)]=(if h:l.length-a<l.length then l[l.length-a]else s):=by
     split
     .rename_i h;rw[ajv (by simp;omega)]
      congr 1
      simp
     .rename_i h;rw[ajA (by simp;omega)];simp
    rw[e1]
    have hg:st.getD (i+1-1) 0=s:=by simp[ajN,h1]
    rw[opsL,hg]at ho;simp at ha
    have hle:(if h:l.length-a<l.length then l[l.length-a]else s)<=s:=by
     split
     .rename_i h;exact akV (c.lt _ (ajs h))
     .exact ajo _
    rcases ajL.1 ho with ho|ho
    .obtain⟨g1,g2,t,g3,g4,g5⟩:=ih a ha o ho;exact⟨by omega,g2,t,g3,g4,g5⟩
    .rw[ajz.1 ho,Nat.add_sub_cancel];exact⟨by omega,by omega,s,h1,h2,hle⟩
theorem wT.ops{e:List Ty}{st:List Nat}(v:wT e st){p:Nat}(h:p<e.length):∀o∈opsL st (ar e[p].1).toNat p,o<p/\∃s t,st[o]? =some s/\s<=o/\st[p]? =some t/\t<=s:=by
 obtain⟨h0,l,h1,h2,_,h4⟩:=v.node p h;intro o ho;obtain⟨g1,g2,s,g3,g4,g5⟩:=K3 h1 _ h2 o ho;refine⟨g1,s,_,g3,g4,h4,?_⟩;unfold mi;split
 .rename_i hz;rw[hz]at ho;simp[opsL]at ho
 .have hm:l.length-(ar e[p].1).toNat<l.length:=by omega
  rw[dif_pos hm]at g5;simpa[ajN,ajl hm]using g5
def z3:Vl:=((0,0,0):Int×Int×Int)
def ee(g:Nat->Vl×Int):List Nat->List Vl⊕Int
 |[]=> .inl []
 |o::os=>if(g o).2=0 then(match ee g os with
  | .inl vs=> .inl ((g o).1::vs)
  | .inr c=> .inr c)else .inr (g o).2
def fX(r:Vl×Int):Vl×Int:=if r.2≠0 then(z3,r.2)else if(r.1.1:Int)=1/\da r.1.1 r.1.2.1 r.1.2.2 then(r.1,0)else(z3,8)
def B5(g:Nat->Vl×Int)(n:Ty)(ops:List Nat):Vl×Int:=
 if(n.2:Int)≠0 then(z3,2)else
 if(fX (g (ops.getD 0 0))).2≠0 then(z3,(fX (g (ops.getD 0 0))).2)else
 if(n.1:Int)=26/\((fX (g (ops.getD 0 0))).1.2.2:Int)=1 then g (ops.getD 1 0)else
 if(n.1:Int)=26 then g (ops.getD 2 0)else
 if((n.1:Int)=23)=(((fX (g (ops.getD 0 0))).1.2.2:Int)=0)then((fX (g (ops.getD 0 0))).1,0)else fX (g (ops.getD 1 0))
def bJ(op:Int):Prop:=op=23\/op=24\/op=26
instance(op:Int):Decidable (bJ op):=by unfold bJ;infer_instance
noncomputable def eH(ap:Ty->List Vl->Vl×Int)(e:List Ty)(st:List Nat):Nat->Nat->Vl×Int
 |0,_=>(z3,0)
 |f+1,i=>if bJ (e.getD i ((0,0):Int×Int)).1 then B5 (eH ap e st f) (e.getD i ((0,0):Int×Int)) (opsL st (ar (e.getD i ((0,0):Int×Int)).1).toNat i)
  else match ee (eH ap e st f) (opsL st (ar (e.getD i ((0,0):Int×Int)).1).toNat i)with
   | .inl vs=>ap (e.getD i ((0,0):Int×Int)) vs
   | .inr c=>(z3,c)
theorem tR{e:List Ty}{st:List Nat}(v:wT e st)(hl:e.length<=100000)(env:cE.den){i:Nat}(hi:i<e.length):M.fU aE (e,(dq st,env)) (i:Int)=some (dq (opsL st (ar e[i].1).toNat i)):=by
 apply Wp.eq;obtain⟨h0,l,hc,ha,hd,_⟩:=v.node i hi;unfold M.fU;simp only;rw[ah hi];simp only[aji,cw]
 obtain⟨a,hea⟩:∃a:Nat,ar e[i].1=a:=⟨(ar e[i].1).toNat,by omega⟩
 have hle:=jP e[i].1;rw[hea]at ha hle⊢;rw[ajr]at ha⊢
 have uI:mI (a:Int) (0:Int)=some (ajq a 0):=by
  unfold mI;rw[if_pos (by omega),ajr]
 rw[uI];simp only[aji,List.length_replicate];refine Wp.loop (fun s:Int×Int×List Int=>∃b p:Nat,∃dn l':List Nat,s=((p:Int)-1,(b:Int)-1,ajq b (0:Int)++dq dn)/\b<=a/\p<=i/\opsL st a i=opsL st b p++dn/\Ch st p l'/\b<=l'.length) (fun s=>(s.2.1+1).toNat) ⟨a,i,[],l,?_,ajo _,ajo _,by simp,hc,ha⟩ ?_ ?_
 .rw[aM (by omega) (by omega),aM (by omega) (by omega)];simp
 .simp only;rw[aM (n:=(a:Int)-1) (by omega) (by omega)];unfold aE;omega
 .rintro _ ⟨b,p,dn,l',rfl,h1,h2,h3,h4,h5⟩
  simp only
  refine Wp.dec (fun hb=>?_) fun hb=> .some ?_
  .obtain⟨b,rfl⟩:∃m,b=m+1:=⟨b-1,by omega⟩
   cases h4 with
   |nil=>simp at h5
   | @snoc p u l' g1 g2 c=>
     simp at h5;have hp:p<st.length:=(ajn.1 g1).1
     have e5:idx (ajq (b+1) (0:Int)++dq dn) (((b+1:Nat):Int)-1)=some 0:=by
      rw[show((b+1:Nat):Int)-1=(b:Int) by omega,ah (by simp;omega),ajv (by simp)];simp
     have e6:idx (dq st) (((p+1:Nat):Int)-1)=some (u:Int):=by
      rw[show((p+1:Nat):Int)-1=(p:Int) by omega,ah (by simpa using hp)];have:=(ajn.1 g1).2;simp[this]
     rw[e5,e6];simp only[aji];rw[aM (n:=(u:Int)-1) (by omega) (by omega),aM (n:=(((b+1:Nat):Int)-1)-1) (by omega) (by omega)];refine .some ⟨⟨b,u,p::dn,l',?_,by omega,by omega,?_,c,h5⟩,by simp only;omega⟩
     .have e7:aQ (ajq (b+1) (0:Int)++dq dn) (((b+1:Nat):Int)-1) (((p+1:Nat):Int)-1)=ajq b (0:Int)++dq (p::dn):=by
       unfold aQ;rw[show(((b+1:Nat):Int)-1).toNat=b by omega,show((p+1:Nat):Int)-1=(p:Int) by omega,List.replicate_succ',ajH,aj4 _ _ (by simp)];simp
      rw[e7];simp only[akl,and_true,true_and];omega
     .rw[h3,opsL]
      have:st.getD (p+1-1) 0=u:=by simp[ajN,g1]
      rw[this];simp
  .obtain rfl:b=0:=by omega
   show _=_
   rw[h3];simp[opsL]
noncomputable def iX(env:cE.den)(n:Ty)(args:List Vl):Vl×Int:=(M.bI aE n args env).getD (z3,0)
theorem yq{env:cE.den}(he:iC env){n:Ty}(hn:WF aa n){args:List Vl}(hl:args.length<=100000):M.bI aE n args env=some (iX env n args):=by
 obtain⟨r,hr,_⟩:=pb (n:=n) (args:=args) he hn hl;unfold iX;rw[hr];rfl
theorem FI{env:cE.den}(he:iC env){n:Ty}(hn:WF aa n){args:List Vl}(hl:args.length<=100000):NF (iX env n args):=by
 obtain⟨r,hr,h⟩:=pb (n:=n) (args:=args) he hn hl;unfold iX;rw[hr];exact h
theorem wm{N:Nat}{x:dB.den}{o:Int}{r:Vl×Int}(h:M.bR aE N x o=some r):M.dR aE (N+1) x o=some (fX r):=by
 unfold M.dR fX;rw[h];simp only[aji,cR];by_cases h0:r.2=0
 .by_cases h1:(r.1.1:Int)=1
  .by_cases h2:da r.1.1 r.1.2.1 r.1.2.2
   .rw[h1]at h2;simp[h0,h1,h2]
   .rw[h1]at h2;simp[h0,h1,h2,z3]
  .simp[h0,h1,z3]
 .simp[h0,z3]
theorem pc{g:Nat->Vl×Int}:∀(os:List Nat)(k:Nat),k<=os.length->∀vs,ee g (os.take k)= .inl vs->ee g os=(match ee g (os.drop k)with
 | .inl ws=> .inl (vs++ws)
 | .inr c=> .inr c)
 |os,0,_,vs,h=>by
  rw[List.take_zero,ee]at h;cases h;rw[List.drop_zero]
  cases ee g os<;>rfl
 |[],k+1,h,_,_=>by simp at h
 |o::os,k+1,hk,vs,h=>by
  rw[List.take_succ_cons,ee]at h;split at h
  .rename_i h0
   cases hq:ee g (os.take k)with
   |inr c=>rw[hq]at h;cases h
   |inl ws=>
    rw[hq]at h;cases h;have:=pc os k (by simpa using hk) ws hq;rw[ee,if_pos h0,this,List.drop_succ_cons]
    cases ee g (os.drop k)<;>rfl
  .cases h
theorem tc{g:Nat->Vl×Int}:∀{os:List Nat}{vs:List Vl},ee g os= .inl vs->vs.length=os.length
 |[],vs,h=>by cases h;rfl
 |o::os,vs,h=>by
  rw[ee]at h;split at h
  .cases hq:ee g os with
   |inr c=>rw[hq]at h;cases h
   |inl ws=>rw[hq]at h;cases h;simp[tc hq]
  .cases h
theorem NH{e:List Ty}{st:List Nat}(v:wT e st)(hl:e.length<=100000){env:cE.den}(he:iC env)(hw:∀n∈e,WF aa n):∀(f N i:Nat),i<f->i<e.length->3*f<=N->M.bR aE N (e,(dq st,env)) (i:Int)=some (eH (iX env) e st f i):=by
 intro f
 induction f with
 |zero=>intro N i h;omega
 |succ f ih=>
  intro N i FJ hi hN
  obtain⟨N,rfl⟩:∃m,N=m+3:=⟨N-3,by omega⟩
  have abh:=v.ops hi
  have hge:e.getD i ((0,0):Int×Int)=e[i]:=by simp[ajN,hi]
  have hlen:=cT st (ar e[i].1).toNat i;have Ie:=jP e[i].1
  have B6:∀M',3*f<=M'->∀o∈opsL st (ar e[i].1).toNat i,M.bR aE M' (e,(dq st,env)) (o:Int)=some (eH (iX env) e st f o):=by
   intro M' hM' o ho;obtain⟨g1,_⟩:=abh o ho;exact ih M' o (by omega) (by omega) hM'
  unfold eH M.bR;rw[hge,tR v hl env hi];simp only;rw[ah hi];simp only[aji];rw[uk];simp only[aji];have Mr:=hw e[i] (ajs hi);generalize ahf:opsL st (ar e[i].1).toNat i=ops at*;by_cases hz:bJ e[i].1
  .rw[if_pos hz,if_pos (by simpa[bJ]using hz)]
   have ha2:2<=ops.length/\((e[i].1:Int)=26->3<=ops.length):=by
    have:2<=ar e[i].1/\((e[i].1:Int)=26->ar e[i].1=3):=by
     revert hz;generalize(e[i].1:Int)=op;intro hz
     rcases hz with rfl|rfl|rfl<;>decide
    refine⟨by omega,fun h=>?_⟩;have:=this.2 h;omega
   have gd:∀k(hk:k<ops.length),idx (dq ops) (k:Int)=some ((ops.getD k 0:Nat):Int)/\ops.getD k 0∈ops:=by
    intro k hk
    have:ops.getD k 0=ops[k]:=by simp[ajN,hk]
    rw[this];refine⟨?_,ajs hk⟩;rw[ah (by simpa using hk)];simp
   obtain⟨i0,m0⟩:=gd 0 (by omega);obtain⟨i1,m1⟩:=gd 1 (by omega);unfold M.kV;rw[show((0:Nat):Int)=0 from rfl]at i0;rw[show((1:Nat):Int)=1 from rfl]at i1;rw[i0,i1];simp only[aji];rw[wm (B6 N (by omega) _ m0),wm (B6 N (by omega) _ m1),B6 (N+1) (by omega) _ m1];simp only[aji,aC,lP];unfold B5;generalize hb:fX (eH (iX env) e st f (ops.getD 0 0))=b;by_cases h2:(e[i].2:Int)=0
   .rw[if_neg (by simp[h2])];by_cases Pb:b.2=0
    .rw[if_neg (by simp[Pb])];by_cases VK:(e[i].1:Int)=26
     .obtain⟨i2,m2⟩:=gd 2 (by have:=ha2.2 VK;omega);rw[show((2:Nat):Int)=2 from rfl]at i2;rw[i2];simp only[aji];rw[B6 (N+1) (by omega) _ m2];by_cases hn:(b.1.2.2:Int)=1
      .simp[h2,Pb,VK,hn]
      .simp[h2,Pb,VK,hn]
     .by_cases h23:(e[i].1:Int)=23<;>by_cases hn:(b.1.2.2:Int)=0<;>simp[h2,Pb,VK,h23,hn]
    .simp[h2,Pb,z3]
   .simp[h2,z3]
  .rw[if_neg hz,if_neg (by simpa[bJ]using hz)]
   have uI:mI ((dq ops).length:Int) ((0:Int),((0:Int),(0:Int)))=some (ajq ops.length z3):=by
    unfold mI;rw[if_pos (by simp;omega)];simp[z3]
   rw[uI];simp only[aji];apply Wp.eq;refine Wp.join (Wp.loop (fun s:Int×List Vl=>∃vs:List Vl,s=((vs.length:Int),vs++ajq (ops.length-vs.length) z3)/\vs.length<=ops.length/\ee (eH (iX env) e st f) (ops.take vs.length)= .inl vs) (fun s=>(ops.length-s.1).toNat) ⟨[],by simp,by simp,by simp[ee]⟩ (by simp only;unfold aE;omega) ?_)
   rintro _ ⟨vs,rfl,IQ,hva⟩
   simp only;have r8:=pc ops vs.length IQ vs hva
   refine Wp.dec (fun hk=>?_) fun hk=> .some ?_
   .have dO:vs.length<ops.length:=by simp at hk;omega
    have abi:vs.length<(dq ops).length:=by simpa using dO
    rw[ah abi];simp only[aji,List.getElem_map];rw[B6 (N+2) (by omega) _ (ajs dO)];simp only[aji];have hd:ops.drop vs.length=ops[vs.length]::ops.drop (vs.length+1):=ajX dO;rw[hd,ee]at r8;have ht:ops.take (vs.length+1)=ops.take vs.length++[ops[vs.length]]:=List.take_succ_eq_append_getElem dO
    obtain⟨r,hr⟩:∃r,eH (iX env) e st f ops[vs.length]=r:=⟨_,rfl⟩
    rw[hr]at r8⊢;by_cases h0:r.2=0
    .rw[if_neg (by simp[h0])]
     obtain⟨m,hm⟩:∃m,ops.length-vs.length=m+1:=⟨ops.length-vs.length-1,by omega⟩
     rw[hm]
     have e8:idx (vs++ajq (m+1) z3) (vs.length:Int)=some z3:=by
      rw[ah (by simp),ajA (by omega)];simp
     have e9:aQ (vs++ajq (m+1) z3) (vs.length:Int) r.1=(vs++[r.1])++ajq m z3:=by
      unfold aQ;rw[ajr,aj4 _ _ (by omega),ako];simp
     rw[e8];simp only[aji,e9];rw[az (by omega)]
     have kN:ee (eH (iX env) e st f) [ops[vs.length]]= .inl [r.1]:=by
      simp only[ee,hr];rw[if_pos h0]
     have JI:=pc (g:=eH (iX env) e st f) (ops.take (vs.length+1)) vs.length (by simp;omega) vs (by rw[List.take_take,aj3 (by omega)];exact hva);rw[ht,aj5 (by simp;omega),aj1 (by simp;omega),List.nil_append,kN]at JI;refine .some ⟨⟨vs++[r.1],?_,by simp;omega,?_⟩,by simp only;omega⟩
     .have:ops.length-(vs++[r.1]).length=m:=by simp;omega
      rw[this];simp
     .rw[show(vs++[r.1]).length=vs.length+1 by simp,ht];exact JI
    .rw[if_pos (by simp[h0])];rw[if_neg h0]at r8;refine .some ?_
     show _=_
     rw[r8];rfl
   .have VL:ops.drop vs.length=[]:=aj1 (by simp at hk;omega);rw[VL,ee]at r8;rw[r8]
    have h0:ops.length-vs.length=0:=by simp at hk;omega
    rw[h0];simp only[List.replicate_zero,akd]
    show Wp ((M.bI aE e[i] vs env).bind fun qi=>some (qi.1,qi.2)) _
    rw[yq he Mr (by omega)];exact .some rfl
end L.P
end Go.Proofs.YtmihpkfkbfgigaaGreatDoor
end
section
open _root_.Go.IntKind renaming i64->ajj
open _root_.List renaming getElem?_eq_some_iff->ajn,length_append->ajm,length_eq_zero_iff->akn,length_singleton->ajw
open _root_.Nat renaming le_refl->ajo
open _root_.Option renaming bind_some->aji
namespace Go.Proofs.YtmihpkfkbfgigaaGreatDoor
open Go Go.RowKit
set_option maxRecDepth 100000
namespace L.P
structure Whole(e:List Ty)(st:List Nat):Prop where
 val:wT e st
 ne:e≠[]
 le:e.length<=48
 one:st[e.length-1]? =some 0
 res:pY e=(0,0,dq st)
theorem yr:∀(e:List Ty)(i:Nat)(st sk:List Nat)(j:Nat)(c:Int),jC e i st sk= .inl (j,c)->c=2\/c=5\/c=16
 |[],_,_,_,_,_,h=>by rw[jC]at h;cases h
 |n::e,i,st,sk,j,c,h=>by
  rw[jC]at h;split at h
  .cases h;exact .inl rfl
  split at h
  .cases h;exact .inr (.inl rfl)
  split at h
  .cases h;exact .inr (.inr rfl)
  exact yr e _ _ _ j c h
theorem Ch.NI{st l:List Nat}{n:Nat}(h:Ch st n l)(hl:l=[]):n=0:=by
 cases h with
 |nil=>rfl
 |snoc=>simp at hl
theorem Ch.K4{st l:List Nat}{n:Nat}(h:Ch st n l)(hl:n=0):l=[]:=by
 cases h with
 |nil=>rfl
 |snoc=>omega
theorem Ch.one{st l:List Nat}{n:Nat}(h:Ch st n l)(hn:0<n):l.length<=1↔st[n-1]? =some 0:=by
 cases h with
 |nil=>omega
 | @snoc i s l h1 h2 c=>
   rw[Nat.add_sub_cancel,h1];constructor
   .intro hl;have:l=[]:=akn.1 (by rw[ajm,ajw]at hl;omega);rw[c.NI this]
   .intro hs
    have h0:s=0:=by simpa using hs
    rw[h0]at c;rw[c.K4 rfl];simp
theorem B7{e:List Ty}{st:List Nat}(v:wT e st)(bP:e≠[])(hl:e.length<=48)(h1:st[e.length-1]? =some 0):Whole e st:=by
 have nl:0<e.length:=List.length_pos_iff.2 bP;refine⟨v,bP,hl,h1,?_⟩;obtain⟨sk,g1,g2⟩:=B4 v e [] [] rfl .nil;simp only[List.length_nil,List.take_zero]at g1;unfold pY;rw[if_neg (by omega),if_neg (by omega),g1];simp only;rw[if_neg];have:=(g2.one nl).2 h1;omega
theorem Eg(e:List Ty):(pY e).2.1≠0\/∃st,Whole e st:=by
 unfold pY;split
 .left;show(4:Int)≠0;decide
 rename_i hl;split
 .left;show(5:Int)≠0;decide
 rename_i bP
 cases hs:jC e 0 [] []with
 |inl p=>
  left
  obtain⟨j,c⟩:=p
  show c≠0
  have:=yr _ _ _ _ _ _ hs;omega
 |inr p=>
  obtain⟨st,sk⟩:=p;obtain⟨v,c⟩:=B3 e [] [] [] st sk wT.nil .nil hs;simp only[List.nil_append]at v c;by_cases h1:1<sk.length
  .left
   simp only[if_pos h1];decide
  .right
   exact⟨st,B7 v (fun h=>bP (by rw[h];rfl)) (by omega) ((c.one (by omega)).1 (by omega))⟩
theorem Whole.sub{e:List Ty}{st:List Nat}(w:Whole e st){o s:Nat}(ho:st[o]? =some s)(hs:s<=o):Whole ((e.take (o+1)).drop s) (If st s o):=by
 have ao:o<e.length:=by rw[<-w.val.len];exact(ajn.1 ho).1
 have hlen:((e.take (o+1)).drop s).length=o+1-s:=by simp;omega
 have hle:=w.le;refine B7 (w.val.cut ho) (fun h=>?_) (by omega) ?_
 .rw[h]at hlen;simp at hlen;omega
 .rw[hlen,show o+1-s-1=o-s by omega,wk ho hs (ajo _),Nat.sub_self]
theorem Eh{e:List Ty}{st:List Nat}(w:Whole e st){env:cE.den}(he:iC env)(hw:∀n∈e,WF aa n):M.sX aE e env=some (eH (iX env) e st e.length (e.length-1)):=by
 have nl:0<e.length:=List.length_pos_iff.2 w.ne;have hle:=w.le;unfold M.sX M.gi;rw[ma,w.res];simp only[aji];rw[if_neg (by simp)];unfold M.lO;rw[show ajj.wrap ((e.length:Int)-1)=((e.length-1:Nat):Int) by rw[aM (by omega) (by omega)];omega];rw[NH w.val (by omega) he hw e.length aE (e.length-1) (by omega) (by omega) (by unfold aE;omega)];rfl
end L.P
end Go.Proofs.YtmihpkfkbfgigaaGreatDoor
end
section
namespace Go.Proofs.YtmihpkfkbfgigaaGreatDoor
open Go Go.RowKit
set_option maxRecDepth 100000
namespace L.P
end L.P
end Go.Proofs.YtmihpkfkbfgigaaGreatDoor
end
section
open _root_.Bool renaming false_eq_true->ajp,not_true->akr
open _root_.Int renaming toNat_natCast->ajr
open _root_.Go.IntKind renaming i64->ajj
open _root_.List renaming getD->ajN,getElem?_eq_some_iff->ajn,length_append->ajm,length_singleton->ajw,mem_of_getElem?->aka,replicate->ajq,take_append_of_le_length->ajK,take_length->ajD
open _root_.Nat renaming le_refl->ajo,zero_le->ajI
open _root_.Option renaming bind_some->aji
namespace Go.Proofs.YtmihpkfkbfgigaaGreatDoor
open Go Go.RowKit
set_option maxRecDepth 100000
namespace L.P
theorem k8(N:Nat)(op:Int):M.eh N op=some (decide (50<=op/\op<=53)):=by
 unfold M.eh
 by_cases h:50<=op<;>simp[h]
theorem mC(N:Nat)(op:Int):M.cP N op=some (decide (¬bJ op/\(50<=op/\op<=53\/0<=ar op))):=by
 unfold M.cP;rw[uk,k8,cw];simp only[aji];unfold bJ;by_cases h:op=23\/op=24\/op=26
 .simp[h]
 .by_cases h2:50<=op/\op<=53
  .simp[h,h2]
  .simp[h,h2]
theorem jQ(N:Nat)(op:Int):M.eJ N op=some (decide (op=50\/op=52\/op=53)):=by
 unfold M.eJ;by_cases h:op=50
 .simp[h]
 .by_cases h2:op=52
  .simp[h2]
  .simp[h,h2]
def gd(D:List Int)(k:Nat):Int:=D.getD k (-1)
theorem gK{D:List Int}{t:Nat}(ht:t<D.length)(d:Int)(k:Nat):gd (D.set t d) k=if k=t then d else gd D k:=by
 unfold gd ajN;by_cases h:k=t
 .subst h;rw[if_pos rfl,List.getElem?_set_self ht];rfl
 .rw[if_neg h,List.getElem?_set_ne (by omega)]
theorem jD{D:List Int}{t:Nat}(ht:t<D.length):idx D (t:Int)=some (gd D t):=by
 rw[ah ht];simp[gd,ajN,ht]
def Bd(D:List Int):Prop:=∀k,-1<=gd D k/\gd D k<=12
structure Mn(D D':List Int)(i:Nat):Prop where
 len:D'.length=D.length
 keep:∀k,0<=gd D k->gd D' k=gd D k
 low:∀k,k<=i->gd D' k=gd D k
theorem Mn.refl(D:List Int)(i:Nat):Mn D D i:=⟨rfl,fun _ _=>rfl,fun _ _=>rfl⟩
theorem Mn.trans{A B C:List Int}{i:Nat}(h:Mn A B i)(h':Mn B C i):Mn A C i:=
 ⟨h'.len.trans h.len,fun k hk=>by rw[h'.keep k (by rw[h.keep k hk];exact hk),h.keep k hk],fun k hk=>by rw[h'.low k hk,h.low k hk]⟩
theorem kH{N:Nat}{D:List Int}{t i:Nat}{d:Int}(ht:t<D.length)(u6:i<t)(hd:0<=d/\d<=12)(hB:Bd D):Wp (M.aT N (t:Int) d D) fun r=>(r.1=0->Mn D r.2 i/\Bd r.2/\gd r.2 t=d)/\(gd D t= -1->r=(0,D.set t d)):=by
 unfold M.aT;rw[jD ht];simp only[aji,aC];by_cases h0:0<=gd D t
 .rw[decide_eq_true h0];simp only[if_true];by_cases h1:gd D t=d
  .rw[if_neg (by simp[h1])]
   refine .some ⟨fun _=>⟨⟨by simp[aQ],fun k _=>?_,fun k hk=>?_⟩,fun k=>?_,?_⟩,fun h=>by omega⟩<;>simp only[aQ,ajr,gK ht]
   .split
    .rename_i h;rw[h,h1]
    .rfl
   .rw[if_neg (by omega)]
   .split
    .omega
    .exact hB k
   .simp
  .rw[if_pos (by simp[h1])];exact .some ⟨fun h=>by simp at h,fun h=>by omega⟩
 .rw[decide_eq_false h0];simp only[ajp,if_false]
  refine .some ⟨fun _=>⟨⟨by simp[aQ],fun k hk=>?_,fun k hk=>?_⟩,fun k=>?_,?_⟩,fun h=>by simp[aQ]⟩<;>simp only[aQ,ajr,gK ht]
  .rw[if_neg (fun h=>by rw[h]at hk;exact h0 hk)]
  .rw[if_neg (by omega)]
  .split
   .omega
   .exact hB k
  .simp
def iW(len:Nat)(D:List Int)(j:Nat)(n:Ty):Prop:=
 ((n.1:Int)=51/\∃t:Nat,(n.2:Int)=t/\j<t/\t<=len/\gd D t=gd D j)\/
 (((n.1:Int)=50\/(n.1:Int)=52\/(n.1:Int)=53)/\1<=gd D j/\gd D (j+1)=gd D j-1/\∃t:Nat,(n.2:Int)=t/\j<t/\t<=len/\gd D t=if(n.1:Int)=50 then gd D j-1 else gd D j)\/
 ((n.1:Int)≠51/\¬((n.1:Int)=50\/(n.1:Int)=52\/(n.1:Int)=53)/\0<=ar n.1/\ar n.1<=gd D j/\gd D (j+1)=gd D j-ar n.1+1/\gd D j-ar n.1+1<=12)
theorem iW.mono{len j i:Nat}{D D':List Int}{n:Ty}(h:iW len D j n)(hj:0<=gd D j)(m:Mn D D' i):iW len D' j n:=by
 have e:=m.keep j hj
 rcases h with⟨h1,t,h2,h3,h4,h5⟩|⟨h1,h2,h3,t,h4,h5,h6,h7⟩|⟨h1,h2,h3,h4,h5,h6⟩
 .exact .inl ⟨h1,t,h2,h3,h4,by rw[m.keep t (by omega),h5,e]⟩
 .have e1:=m.keep (j+1) (by omega);have e2:=m.keep t (by rw[h7];split<;>omega);exact .inr (.inl ⟨h1,by omega,by omega,t,h4,h5,h6,by rw[e2,e];exact h7⟩)
 .have e1:=m.keep (j+1) (by omega);exact .inr (.inr ⟨h1,h2,h3,by omega,by omega,by omega⟩)
theorem FK{N:Nat}{code:List Ty}{D:List Int}{i:Nat}(hl:code.length<=128)(hi:i<code.length)(hD:D.length=code.length+1)(hB:Bd D)(h0:0<=gd D i):Wp (M.bA N code (i:Int) code[i] D) fun r=>(r.1=0->Mn D r.2 i/\Bd r.2/\iW code.length r.2 i code[i])/\((code[i].1:Int)<=39->¬bJ code[i].1->0<=ar code[i].1->ar code[i].1<=gd D i->gd D i-ar code[i].1+1<=12->gd D (i+1)= -1->r=(0,D.set (i+1) (gd D i-ar code[i].1+1))):=by
 unfold M.bA;generalize code[i]=n;obtain⟨(op:Int),(m:Int)⟩:=n;dsimp only[ae,Row.den]at*;have Ie:=jP op;have hBi:=hB i;rw[mC,k8,jD (by omega),cw,uk];simp only[aji,aC];by_cases c1:¬bJ op/\(50<=op/\op<=53\/0<=ar op)
 case neg=>
  rw[decide_eq_false c1];simp only[Bool.not_false,if_true];refine .some ⟨fun h=>by simp at h,fun h1 h2 h3=>absurd ⟨h2, .inr h3⟩ c1⟩
 rw[decide_eq_true c1];simp only[akr,ajp,if_false];by_cases c2:50<=op/\op<=53
 .rw[decide_eq_true c2];simp only[if_true];by_cases c3:m<=i\/(code.length:Int)<m
  .have:(if decide (m<=(i:Int))=true then true else decide ((code.length:Int)<m))=true:=by
    rcases c3 with c|c<;>simp[c]
   rw[if_pos this];exact .some ⟨fun h=>by simp at h,fun h=>by omega⟩
  have hc:(if decide (m<=(i:Int))=true then true else decide ((code.length:Int)<m))=false:=by
   rw[if_neg (by simp;omega)];simp;omega
  rw[if_neg (by rw[hc];simp)]
  obtain⟨t,rfl⟩:∃t:Nat,m=t:=⟨m.toNat,by omega⟩
  refine Wp.dec (fun c4=>?_) fun c4=>?_
  .refine Wp.seq _ (kH (t:=t) (i:=i) (by omega) (by omega) (by omega) hB) fun r hr=> .some ⟨fun h=>?_,fun h=>by omega⟩
   obtain⟨a1,a2,a3⟩:=hr.1 h;exact⟨a1,a2, .inl ⟨c4,t,rfl,by omega,by omega,by rw[a3,a1.low i (ajo _)]⟩⟩
  refine Wp.dec (fun c5=>?_) fun c5=>by omega
  refine Wp.dec (fun c6=> .some ⟨fun h=>by simp at h,fun h=>by omega⟩) fun c6=>?_
  have w1:ajj.wrap (gd D i-1)=gd D i-1:=aM (by omega) (by omega);rw[w1,az (by omega)]
  refine Wp.seq _ (kH (t:=i+1) (i:=i) (by omega) (by omega) (by omega) hB) fun r hr=>?_
  refine Wp.jV (fun c7=> .some ⟨fun h=>absurd h c7,fun h=>by omega⟩) fun c7=>?_
  obtain⟨a1,a2,a3⟩:=hr.1 c7;have rO:=a1.low i (ajo _)
  refine Wp.seq _ (kH (D:=r.2) (t:=t) (i:=i) (by rw[a1.len];omega) (by omega) (by split<;>omega) a2) fun r' py=> .some ⟨fun h=>?_,fun h=>by omega⟩
  obtain⟨b1,b2,b3⟩:=py.1 h;refine⟨a1.trans b1,b2, .inr (.inl ⟨c5,?_,?_,t,rfl,by omega,by omega,?_⟩)⟩
  .rw[b1.low i (ajo _)];show 1<=gd r.2 i;omega
  .show gd r'.2 (i+1)=gd r'.2 i-1
   rw[b1.low i (ajo _),b1.keep (i+1) (by omega)];omega
  .show gd r'.2 t=if op=50 then gd r'.2 i-1 else gd r'.2 i
   rw[b1.low i (ajo _),b3,rO]
   by_cases An:op=50<;>simp[An]
 .rw[decide_eq_false c2];simp only[ajp,if_false]
  refine Wp.dec (fun c4=>by omega) fun c4=>?_
  refine Wp.dec (fun c5=>by omega) fun c5=>?_
  refine Wp.dec (fun c6=> .some ⟨fun h=>by simp at h,fun _ _ _ h=>by omega⟩) fun c6=>?_
  have w1:ajj.wrap (gd D i-ar op)=gd D i-ar op:=aM (by omega) (by omega);have w2:ajj.wrap (gd D i-ar op+1)=gd D i-ar op+1:=aM (by omega) (by omega);rw[w1,w2]
  refine Wp.dec (fun c7=> .some ⟨fun h=>by simp at h,fun _ _ _ _ h=>by omega⟩) fun c7=>?_
  rw[az (by omega)]
  refine Wp.seq _ (kH (t:=i+1) (i:=i) (by omega) (by omega) (by omega) hB) fun r hr=> .some ⟨fun h=>?_,fun _ _ _ _ _ h=>hr.2 h⟩
  obtain⟨a1,a2,a3⟩:=hr.1 h;have rO:=a1.low i (ajo _);exact⟨a1,a2, .inr (.inr ⟨c4,c5,by show 0<=ar op;omega,by show ar op<=gd r.2 i;omega,by show gd r.2 (i+1)=gd r.2 i-ar op+1;omega,by show gd r.2 i-ar op+1<=12;omega⟩)⟩
structure acT(code:List Ty)(D:List Int):Prop where
 pos:0<code.length
 le:code.length<=128
 len:D.length=code.length+1
 bd:Bd D
 first:gd D 0=0
 last:gd D code.length=1
 step:∀j(h:j<code.length),0<=gd D j->iW code.length D j code[j]
theorem zP(n k:Nat):gd (ajq n (-1)) k= -1:=by
 unfold gd ajN;by_cases h:k<n
 .simp[h]
 .rw[List.getElem?_eq_none (by simp;omega)];rfl
theorem rP{α:Type}(p:List α)(x:α):idx (p++[x]) (p.length:Int)=some x:=by
 rw[ah (by simp)];simp
def uK(n:Ty)(top:Vl):Bool:=decide (decide ((top.2.2:Int)=1)=decide ((n.1:Int)=53))
inductive cq(code:List Ty)(env:cE.den):Nat->List Vl->Vl×Int->Prop
 |done {v:Vl} {S:List Vl}:cq code env code.length (v::S) (v,0)
 |jump {p t:Nat} {S:List Vl} {r:Vl×Int} {n:Ty} (h:code[p]? =some n) (oz:(n.1:Int)=51) (ht:(n.2:Int)=t) (B8:p<t) (ue:t<=code.length) (next:cq code env t S r):cq code env p S r
 |op {p a:Nat} {S:List Vl} {r:Vl×Int} {n:Ty} (h:code[p]? =some n) (bP:¬(50<=(n.1:Int)/\(n.1:Int)<=53)) (ha:ar n.1=a) (hs:a<=S.length) (h0:(iX env n (S.drop (S.length-a))).2=0) (next:cq code env (p+1) (S.take (S.length-a)++[(iX env n (S.drop (S.length-a))).1]) r):cq code env p S r
 |fail {p a:Nat} {S:List Vl} {n:Ty} (h:code[p]? =some n) (bP:¬(50<=(n.1:Int)/\(n.1:Int)<=53)) (ha:ar n.1=a) (hs:a<=S.length) (h0:(iX env n (S.drop (S.length-a))).2≠0):cq code env p S (z3,(iX env n (S.drop (S.length-a))).2)
 |cond {p t:Nat} {S:List Vl} {r:Vl×Int} {n:Ty} {top:Vl} (h:code[p]? =some n) (fM:(n.1:Int)=50\/(n.1:Int)=52\/(n.1:Int)=53) (ht:(n.2:Int)=t) (B8:p<t) (ue:t<=code.length) (hk:(top.1:Int)=1) (hv:(top.2.2:Int)=0\/(top.2.2:Int)=1) (next:cq code env (if uK n top=true then t else p+1) (if uK n top=false\/(n.1:Int)=50 then S else S++[top]) r):cq code env p (S++[top]) r
theorem B9{code:List Ty}{env:cE.den}{r:Vl×Int}(he:iC env)(hw:∀n∈code,WF aa n)(hl:code.length<=128)(QX:Wp (M.bH aE code) fun y=>y.2=0)(hr:cq code env 0 [] r):Wp (M.n8 aE code env) fun x=>x.1=r.1/\x.2.2=r.2:=by
 unfold M.n8
 refine Wp.seq _ QX fun y hy=>?_
 refine Wp.jV (fun h=>absurd hy h) fun _=>?_
 refine Wp.join (Wp.loop (fun s:Int×Int×List Vl=>∃q k:Nat,s.1=q/\s.2.1=k/\k<=code.length/\q<=k/\s.2.2.length<=k/\cq code env k s.2.2 r) (fun s=>(code.length-s.2.1).toNat) ⟨0,0,rfl,rfl,ajI _,ajo _,ajo _,hr⟩ (by unfold aE;simp only;omega) ?_)
 rintro⟨_,_,gB⟩ ⟨q,k,rfl,rfl,hk,hq,Mp,bw⟩
 dsimp only at Mp bw⊢
 cases bw with
 | @done v S=>
   refine Wp.dec (fun h=>by omega) fun _=> .some ?_
   show Wp ((idx (v::S) (0:Int)).bind _) _
   exact .some ⟨rfl,rfl⟩
 | @jump _ t _ _ n h oz ht B8 ue next=>
   obtain⟨ao,hn⟩:=ajn.1 h
   refine Wp.dec (fun _=>?_) fun h=>by omega
   rw[ah ao,hn];simp only[aji];rw[az (k:=q) (by omega)];refine Wp.join (Wp.dec (fun _=> .some ?_) fun h=>absurd oz h);refine Wp.some ⟨⟨q+1,t,rfl,ht,ue,by omega,by show gB.length<=t;omega,next⟩,?_⟩;simp only[ht];omega
 | @op _ a _ _ n h bP ha hs h0 next=>
   obtain⟨ao,hn⟩:=ajn.1 h;have Ao:WF aa n:=hw n (aka h)
   refine Wp.dec (fun _=>?_) fun h=>by omega
   rw[ah ao,hn];simp only[aji,jQ,cw,aC];rw[az (k:=q) (by omega)]
   have n1:¬(n.1:Int)=51:=fun h=>bP (by rw[h];decide)
   have n2:¬((n.1:Int)=50\/(n.1:Int)=52\/(n.1:Int)=53):=fun h=>bP (by rcases h with h|h|h<;>rw[h]<;>decide)
   refine Wp.join (Wp.dec (fun h=>absurd h n1) fun _=>?_);rw[decide_eq_false n2];simp only[Bool.not_false,if_true]
   have wl:ajj.wrap ((gB.length:Int)-(a:Int))=((gB.length-a:Nat):Int):=by rw[aM (by omega) (by omega)];omega
   rw[ha,wl,lm (gB.length-a) gB.length rfl rfl (by omega) (ajo _),fW (by omega),ajD,az (k:=k) (by omega)];simp only[aji];rw[yq he Ao (by simp;omega)];simp only[aji]
   refine Wp.jV (fun h=>absurd h0 h) fun _=>?_
   rw[bL (by simp;omega)];simp only[aji];refine .some (Wp.some ⟨⟨q+1,k+1,rfl,rfl,ao,by omega,?_,next⟩,by simp only;omega⟩);simp;omega
 | @fail _ a _ n h bP ha hs h0=>
   obtain⟨ao,hn⟩:=ajn.1 h;have Ao:WF aa n:=hw n (aka h)
   refine Wp.dec (fun _=>?_) fun h=>by omega
   rw[ah ao,hn];simp only[aji,jQ,cw,aC]
   have n1:¬(n.1:Int)=51:=fun h=>bP (by rw[h];decide)
   have n2:¬((n.1:Int)=50\/(n.1:Int)=52\/(n.1:Int)=53):=fun h=>bP (by rcases h with h|h|h<;>rw[h]<;>decide)
   refine Wp.join (Wp.dec (fun h=>absurd h n1) fun _=>?_);rw[decide_eq_false n2];simp only[Bool.not_false,if_true]
   have wl:ajj.wrap ((gB.length:Int)-(a:Int))=((gB.length-a:Nat):Int):=by rw[aM (by omega) (by omega)];omega
   rw[ha,wl,lm (gB.length-a) gB.length rfl rfl (by omega) (ajo _),ajD];simp only[aji];rw[yq he Ao (by simp;omega)];simp only[aji]
   refine Wp.jV (fun _=> .some ?_) fun h=>absurd h h0
   exact⟨rfl,rfl⟩
 | @cond _ t S _ n top h fM ht B8 ue hkd hv next=>
   obtain⟨ao,hn⟩:=ajn.1 h
   refine Wp.dec (fun _=>?_) fun h=>by omega
   rw[ah ao,hn];simp only[aji,jQ,cw,aC];rw[az (k:=q) (by omega)]
   have n1:¬(n.1:Int)=51:=fun h=>by rcases fM with g|g|g<;>(rw[h]at g;exact absurd g (by decide))
   refine Wp.join (Wp.dec (fun h=>absurd h n1) fun _=>?_);rw[decide_eq_true fM];simp only[akr,ajp,if_false];rw[ajm,ajw]at Mp⊢
   have wl:ajj.wrap (((S.length+1:Nat):Int)-1)=(S.length:Int):=by rw[aM (by omega) (by omega)];omega
   rw[wl,rP S top];simp only[aji];rw[if_neg (by rw[hkd];rcases hv with g|g<;>rw[g]<;>simp)];rw[fW (by simp),az (k:=k) (by omega),ajK (ajo _),ajD];simp only[aji]
   have Pd:∀b:Bool,(if b=true then n.2 else((k+1:Nat):Int))=((if b=true then t else k+1:Nat):Int):=fun b=>by cases b<;>simp[ht]
   rw[Pd];have hb:decide (decide ((top.2.2:Int)=1)=decide ((n.1:Int)=53))=uK n top:=rfl;rw[hb];generalize uK n top=b at*
   have fin:∀(S':List Vl),S'.length<=k->cq code env (if b=true then t else k+1) S' r->vX (fun s:Int×Int×List Vl=>∃q k:Nat,s.1=q/\s.2.1=k/\k<=code.length/\q<=k/\s.2.2.length<=k/\cq code env k s.2.2 r) (fun s=>(code.length-s.2.1).toNat) ((q:Int),(k:Int),S++[top]) (o6 (fun j2:Int×List Vl=>(idx j2.2 0).bind fun IS=>some (IS,j2.1,0)) fun x:Vl×Int×Int=>x.1=r.1/\x.2.2=r.2) (Sum.inl (((q+1:Nat):Int),((if b=true then t else k+1:Nat):Int),S')):=by
    intro S' hS hR;refine⟨⟨q+1,if b=true then t else k+1,rfl,rfl,by split<;>omega,by split<;>omega,by show S'.length<=_;split<;>omega,hR⟩,?_⟩
    simp only;split<;>omega
   refine Wp.ite (fun hp=> .some ?_) fun hp=> .some ?_
   .have hx:b=false\/(n.1:Int)=50:=by
     cases b with
     |false=>exact .inl rfl
     |true=>exact .inr (by simpa using hp)
    have ex:(if b=false\/(n.1:Int)=50 then S else S++[top])=S:=if_pos hx
    rw[ex]at next
    exact Wp.some (fin S (by omega) next)
   .have hx:¬(b=false\/(n.1:Int)=50):=by
     cases b with
     |false=>simp at hp
     |true=>simpa using hp
    have ex:(if b=false\/(n.1:Int)=50 then S else S++[top])=S++[top]:=if_neg hx
    rw[ex]at next
    exact Wp.some (fin (S++[top]) (by rw[ajm,ajw];exact Mp) next)
end L.P
end Go.Proofs.YtmihpkfkbfgigaaGreatDoor
end
section
open _root_.Option renaming bind_some->aji
namespace Go.Proofs.YtmihpkfkbfgigaaGreatDoor
open Go Go.RowKit
set_option maxRecDepth 100000
namespace L.P
theorem Ca{e:List Ty}{st:List Nat}(w:Whole e st){i:Nat}(hi:i<e.length):M.lj aE e (i:Int)=some (dq (opsL st (ar e[i].1).toNat i)):=by
 have hle:=w.le;have h:=tR w.val (by omega) ((0:Int),(([]:List Vl),(([]:List Vl),(([]:List (List Vl)),(([]:List Ty),([]:List ay.den)))))) hi;unfold M.lj M.gi;rw[ma,w.res];simp only[aji,aC,o7];rw[if_neg (by simp;omega)];exact h
end L.P
end Go.Proofs.YtmihpkfkbfgigaaGreatDoor
end
section
open _root_.Bool renaming eq_iff_iff->akC,false_eq_true->ajp
open _root_.Int renaming tdiv->ajE,tdiv_eq_ediv_of_nonneg->aki,tmod->ajY
open _root_.Go.IntKind renaming i64->ajj
open _root_.List renaming getElem?_eq_getElem->ajl
open _root_.Option renaming bind_some->aji
namespace Go.Proofs.YtmihpkfkbfgigaaGreatDoor
open Go Go.RowKit
set_option maxRecDepth 100000
namespace L.P
abbrev Sg:Type:=aR.den
def us(op:Int):Prop:=(1<=op/\op<=8)\/(14<=op/\op<=16)\/op=33\/op=34\/(36<=op/\op<=39)
theorem FL(N:Nat)(op:Int):Wp (M.fD N op) fun b=>b=true↔us op:=by
 by_cases h:us op
 .have:op=1\/op=2\/op=3\/op=4\/op=5\/op=6\/op=7\/op=8\/op=14\/op=15\/op=16\/op=33\/op=34\/op=36\/op=37\/op=38\/op=39:=by unfold us at h;omega
  refine⟨true,?_,by simp[h]⟩
  rcases this with rfl|rfl|rfl|rfl|rfl|rfl|rfl|rfl|rfl|rfl|rfl|rfl|rfl|rfl|rfl|rfl|rfl<;>(show(_:Option Bool)=_;kernel_rfl)
 .refine⟨false,?_,by simp[h]⟩
  have ne:∀k:Int,us k->decide (op=k)=false:=fun k hk=>by simp;rintro rfl;exact h hk
  unfold M.fD;rw[ne 1 (by unfold us;omega),ne 2 (by unfold us;omega),ne 3 (by unfold us;omega),ne 4 (by unfold us;omega),ne 5 (by unfold us;omega),ne 6 (by unfold us;omega),ne 7 (by unfold us;omega),ne 8 (by unfold us;omega),ne 14 (by unfold us;omega),ne 15 (by unfold us;omega),ne 16 (by unfold us;omega),ne 33 (by unfold us;omega),ne 34 (by unfold us;omega),ne 36 (by unfold us;omega),ne 37 (by unfold us;omega),ne 38 (by unfold us;omega),ne 39 (by unfold us;omega)];rfl
abbrev FM(k:Int):Prop:=k=2\/k=3\/k=4
theorem pd(N:Nat)(k:Int):M.dt N k=some (decide (FM k)):=by
 unfold M.dt FM;by_cases h:k=2
 .simp[h]
 .by_cases h2:k=3
  .simp[h2]
  .simp[h,h2]
theorem FN(N:Nat)(m:Int):M.eR N m=some (decide (0<=m/\m<=5)):=by
 unfold M.eR
 by_cases h:0<=m<;>simp[h]
def RT(op:Int)(ts:List Ty)(t:Ty):Prop:=
 (op=10/\∃a:Ty,ts=[a]/\FM a.1/\t=a)\/
 (op=25/\∃a:Ty,ts=[a]/\(a.1:Int)=1/\t=((1:Int),(0:Int)))\/
 ((op=31\/op=32)/\∃a:Ty,ts=[a]/\(a.1:Int)=5/\t=((2:Int),(0:Int)))\/
 ((op=11\/op=12)/\∃a:Ty,ts=[a,a]/\FM a.1/\t=a)\/
 (op=13/\∃a b:Ty,ts=[a,b]/\(b.1:Int)=2/\((a.1:Int)=2\/(a.1:Int)=3)/\t=(a.1,(0:Int)))\/
 (op=14/\∃a b:Ty,ts=[a,b]/\(b.1:Int)=4/\((a.1:Int)=3\/(a.1:Int)=4)/\t=(a.1,(0:Int)))\/
 (op=15/\∃a b:Ty,ts=[a,b]/\(((b.1:Int)=2/\((a.1:Int)=2\/(a.1:Int)=3)/\t=(a.1,(0:Int)))\/((a.1:Int)=3/\(b.1:Int)=3/\t=((4:Int),(0:Int)))))\/
 (op=16/\∃a b:Ty,ts=[a,b]/\(a.1:Int)=3/\(b.1:Int)=3/\t=a)\/
 ((op=17\/op=18)/\∃a:Ty,ts=[a,a]/\(FM a.1\/(a.1:Int)=5)/\t=a)\/
 ((op=19\/op=20)/\∃a:Ty,ts=[a,a]/\t=((1:Int),(0:Int)))\/
 ((op=21\/op=22)/\∃a:Ty,ts=[a,a]/\(FM a.1\/(a.1:Int)=5)/\t=((1:Int),(0:Int)))\/
 ((op=23\/op=24)/\∃a b:Ty,ts=[a,b]/\(a.1:Int)=1/\(b.1:Int)=1/\t=((1:Int),(0:Int)))\/
 (op=26/\∃a b:Ty,ts=[a,b,b]/\(a.1:Int)=1/\t=b)\/
 ((op=27\/op=28)/\∃a b:Ty,ts=[a,b]/\(a.1:Int)=5/\(b.1:Int)=2/\t=a)\/
 ((op=29\/op=30)/\∃a b:Ty,ts=[a,b]/\(a.1:Int)=5/\(b.1:Int)=5/\t=((2:Int),(0:Int)))
theorem zQ(a b:Ty):oD aa a b=decide (a=b):=by
 obtain⟨a1,a2⟩:=a;obtain⟨b1,b2⟩:=b;rw[akC];simp[oD]
theorem mb{α:Type}{a:α}{l:List α}:idx (a::l) (0:Int)=some a:=rfl
theorem rQ{α:Type}{a b:α}{l:List α}:idx (a::b::l) (1:Int)=some b:=rfl
theorem QY{α:Type}{a b c:α}{l:List α}:idx (a::b::c::l) (2:Int)=some c:=rfl
theorem UY{α:Type}{l:List α}(h:l.length=1):∃a,l=[a]:=by
 match l,h with
 |[a],_=>exact⟨a,rfl⟩
theorem Ei{α:Type}{l:List α}(h:l.length=2):∃a b,l=[a,b]:=by
 match l,h with
 |[a,b],_=>exact⟨a,b,rfl⟩
theorem Cb{α:Type}{l:List α}(h:l.length=3):∃a b c,l=[a,b,c]:=by
 match l,h with
 |[a,b,c],_=>exact⟨a,b,c,rfl⟩
theorem Ej(N:Nat)(op:Int)(a b:Int):Wp (M.fS N op a b) fun r=>r.2=true->(op=14/\b=4/\(a=3\/a=4)/\r.1=(a,(0:Int)))\/(op≠14/\b=2/\(a=2\/a=3)/\r.1=(a,(0:Int)))\/(op=15/\a=3/\b=3/\r.1=((4:Int),(0:Int))):=by
 unfold M.fS
 refine Wp.dec (fun h=>?_) fun h=>?_
 .by_cases h1:b=4
  .by_cases h2:a=3
   .simp only[decide_eq_true h1,decide_eq_true h2,if_true,aji];exact .some fun _=> .inl ⟨h,h1, .inl h2,rfl⟩
   .simp only[decide_eq_true h1,decide_eq_false h2,if_true,ajp,if_false,aji];exact .some fun h3=> .inl ⟨h,h1, .inr (by simpa using h3),rfl⟩
  .simp only[decide_eq_false h1,ajp,if_false,aji];exact .some fun h=>by cases h
 .refine Wp.dec (fun h1=>?_) fun h1=>?_
  .by_cases h2:a=2
   .simp only[decide_eq_true h2,if_true,aji];exact .some fun _=> .inr (.inl ⟨h,h1, .inl h2,rfl⟩)
   .simp only[decide_eq_false h2,ajp,if_false,aji];exact .some fun h3=> .inr (.inl ⟨h,h1, .inr (by simpa using h3),rfl⟩)
  .by_cases h3:op=15/\a=3/\b=3
   .obtain⟨g1,g2,g3⟩:=h3;simp only[decide_eq_true g1,decide_eq_true g2,decide_eq_true g3,if_true,aji]
    exact .some fun _=> .inr (.inr ⟨g1,g2,g3,rfl⟩)
   .have:(if decide (op=15)=true then(if decide (a=3)=true then some (decide (b=3))else some false)else some false)=some false:=by
     by_cases g1:op=15<;>by_cases g2:a=3<;>by_cases g3:b=3<;>simp_all
    rw[this]
    exact .some fun h=>by cases h
theorem Ig(N:Nat)(op:Int)(ts:List Ty)(hl:(ts.length:Int)=ar op):Wp (M.cu N op ts) fun r=>r.2=true->RT op ts r.1:=by
 unfold M.cu
 have one:ar op=1->∃a,ts=[a]:=fun h=>UY (by omega)
 have two:ar op=2->∃a b,ts=[a,b]:=fun h=>Ei (by omega)
 refine Wp.dec (fun h=>?_) fun h1=>?_
 .obtain⟨a,rfl⟩:=one (by rw[h];rfl);simp only[mb,aji,pd]
  exact .some fun h'=> .inl ⟨h,a,rfl,by simpa using h',rfl⟩
 refine Wp.dec (fun h=>?_) fun h2=>?_
 .obtain⟨a,rfl⟩:=one (by rw[h];rfl);simp only[mb,aji]
  exact .some fun h'=> .inr (.inl ⟨h,a,rfl,by simpa using h',rfl⟩)
 rw[oy];simp only[aji]
 refine Wp.dec (fun h=>?_) fun h3=>?_
 .obtain⟨a,b,rfl⟩:=two (by rcases h with h|h<;>rw[h]<;>rfl);simp only[mb,rQ,aji,pd,zQ];by_cases vg:a=b
  .subst vg;simp only[decide_true,if_true,aji]
   exact .some fun h'=> .inr (.inr (.inr (.inl ⟨h,a,rfl,by simpa using h',rfl⟩)))
  .simp only[decide_eq_false vg,ajp,if_false,aji]
   exact .some fun h'=>by cases h'
 rw[uk];simp only[aji]
 refine Wp.dec (fun h=>?_) fun h4=>?_
 .obtain⟨a,b,rfl⟩:=two (by rcases h with h|h|h<;>rw[h]<;>rfl);simp only[mb,rQ,aji]
  refine Wp.seq _ (Ej ..) fun r hr=> .some fun h'=>?_
  rcases hr h' with⟨g1,g2,g3,g4⟩|⟨g1,g2,g3,g4⟩|⟨g1,g2,g3,g4⟩
  .exact .inr (.inr (.inr (.inr (.inr (.inl ⟨g1,a,b,rfl,g2,g3,g4⟩)))))
  .rcases h with h|h|h
   .exact .inr (.inr (.inr (.inr (.inl ⟨h,a,b,rfl,g2,g3,g4⟩))))
   .exact absurd h g1
   .exact .inr (.inr (.inr (.inr (.inr (.inr (.inl ⟨h,a,b,rfl, .inl ⟨g2,g3,g4⟩⟩))))))
  .exact .inr (.inr (.inr (.inr (.inr (.inr (.inl ⟨g1,a,b,rfl, .inr ⟨g2,g3,g4⟩⟩))))))
 refine Wp.dec (fun h=>?_) fun h5=>?_
 .obtain⟨a,b,rfl⟩:=two (by rw[h];rfl);simp only[mb,rQ,aji];by_cases g1:(a.1:Int)=3
  .simp only[decide_eq_true g1,if_true,aji]
   exact .some fun h'=> .inr (.inr (.inr (.inr (.inr (.inr (.inr (.inl ⟨h,a,b,rfl,g1,by simpa using h',rfl⟩)))))))
  .simp only[decide_eq_false g1,ajp,if_false,aji]
   exact .some fun h'=>by cases h'
 rw[oy];simp only[aji]
 refine Wp.dec (fun h=>?_) fun h6=>?_
 .obtain⟨a,b,rfl⟩:=two (by rcases h with h|h<;>rw[h]<;>rfl);simp only[mb,rQ,aji,pd,zQ];by_cases vg:a=b
  .subst vg;simp only[decide_true,if_true]
   have mk:(FM a.1\/(a.1:Int)=5)->RT op [a,a] a:=fun h'=> .inr (.inr (.inr (.inr (.inr (.inr (.inr (.inr (.inl ⟨h,a,rfl,h',rfl⟩))))))))
   by_cases hn:FM a.1
   .simp only[decide_eq_true hn,if_true,aji]
    exact .some fun _=>mk (.inl hn)
   .simp only[decide_eq_false hn,ajp,if_false,aji]
    exact .some fun h'=>mk (.inr (by simpa using h'))
  .simp only[decide_eq_false vg,ajp,if_false,aji]
   exact .some fun h'=>by cases h'
 rw[oy];simp only[aji]
 refine Wp.dec (fun h=>?_) fun h7=>?_
 .obtain⟨a,b,rfl⟩:=two (by rcases h with h|h<;>rw[h]<;>rfl);simp only[mb,rQ,aji,zQ]
  refine .some fun h'=> .inr (.inr (.inr (.inr (.inr (.inr (.inr (.inr (.inr (.inl ⟨h,a,?_,rfl⟩)))))))))
  have:a=b:=by simpa using h'
  rw[this]
 rw[oy];simp only[aji]
 refine Wp.dec (fun h=>?_) fun h8=>?_
 .obtain⟨a,b,rfl⟩:=two (by rcases h with h|h<;>rw[h]<;>rfl);simp only[mb,rQ,aji,pd,zQ];by_cases vg:a=b
  .subst vg;simp only[decide_true,if_true]
   have mk:(FM a.1\/(a.1:Int)=5)->RT op [a,a] ((1:Int),(0:Int)):=fun h'=> .inr (.inr (.inr (.inr (.inr (.inr (.inr (.inr (.inr (.inr (.inl ⟨h,a,rfl,h',rfl⟩))))))))))
   by_cases hn:FM a.1
   .simp only[decide_eq_true hn,if_true,aji]
    exact .some fun _=>mk (.inl hn)
   .simp only[decide_eq_false hn,ajp,if_false,aji]
    exact .some fun h'=>mk (.inr (by simpa using h'))
  .simp only[decide_eq_false vg,ajp,if_false,aji]
   exact .some fun h'=>by cases h'
 rw[oy];simp only[aji]
 refine Wp.dec (fun h=>?_) fun h9=>?_
 .obtain⟨a,b,rfl⟩:=two (by rcases h with h|h<;>rw[h]<;>rfl);simp only[mb,rQ,aji];by_cases g1:(a.1:Int)=1
  .simp only[decide_eq_true g1,if_true,aji]
   exact .some fun h'=> .inr (.inr (.inr (.inr (.inr (.inr (.inr (.inr (.inr (.inr (.inr (.inl ⟨h,a,b,rfl,g1,by simpa using h',rfl⟩)))))))))))
  .simp only[decide_eq_false g1,ajp,if_false,aji]
   exact .some fun h'=>by cases h'
 refine Wp.dec (fun h=>?_) fun UZ=>?_
 .obtain⟨a,b,c,rfl⟩:=Cb (l:=ts) (by rw[h]at hl;have:ar 26=3:=rfl;omega);simp only[mb,rQ,QY,aji,zQ];by_cases g1:(a.1:Int)=1
  .simp only[decide_eq_true g1,if_true,aji]
   refine .some fun h'=> .inr (.inr (.inr (.inr (.inr (.inr (.inr (.inr (.inr (.inr (.inr (.inr (.inl ⟨h,a,b,?_,g1,rfl⟩))))))))))))
   have:b=c:=by simpa using h'
   rw[this]
  .simp only[decide_eq_false g1,ajp,if_false,aji]
   exact .some fun h'=>by cases h'
 rw[oy];simp only[aji]
 refine Wp.dec (fun h=>?_) fun h11=>?_
 .obtain⟨a,b,rfl⟩:=two (by rcases h with h|h<;>rw[h]<;>rfl);simp only[mb,rQ,aji];by_cases g1:(a.1:Int)=5
  .simp only[decide_eq_true g1,if_true,aji]
   exact .some fun h'=> .inr (.inr (.inr (.inr (.inr (.inr (.inr (.inr (.inr (.inr (.inr (.inr (.inr (.inl ⟨h,a,b,rfl,g1,by simpa using h',rfl⟩)))))))))))))
  .simp only[decide_eq_false g1,ajp,if_false,aji]
   exact .some fun h'=>by cases h'
 rw[oy];simp only[aji]
 refine Wp.dec (fun h=>?_) fun Pe=>?_
 .obtain⟨a,b,rfl⟩:=two (by rcases h with h|h<;>rw[h]<;>rfl);simp only[mb,rQ,aji];by_cases g1:(a.1:Int)=5
  .simp only[decide_eq_true g1,if_true,aji]
   exact .some fun h'=> .inr (.inr (.inr (.inr (.inr (.inr (.inr (.inr (.inr (.inr (.inr (.inr (.inr (.inr ⟨h,a,b,rfl,g1,by simpa using h',rfl⟩)))))))))))))
  .simp only[decide_eq_false g1,ajp,if_false,aji]
   exact .some fun h'=>by cases h'
 rw[oy];simp only[aji]
 refine Wp.dec (fun h=>?_) fun Tj=> .some fun h'=>by cases h'
 .obtain⟨a,rfl⟩:=one (by rcases h with h|h<;>rw[h]<;>rfl);simp only[mb,aji]
  exact .some fun h'=> .inr (.inr (.inl ⟨h,a,rfl,by simpa using h',rfl⟩))
def jo(t:Ty)(n:Nat):Prop:=(1<=(t.1:Int)/\(t.1:Int)<=5/\(t.2:Int)=0)\/((t.1:Int)=6/\0<=(t.2:Int)/\(t.2:Int)<n)
instance(t:Ty)(n:Nat):Decidable (jo t n):=by unfold jo;exact inferInstance
theorem wo(N:Nat)(t:Ty)(E:List bp.den):M.bY N t E=some (decide (jo t E.length)):=by
 obtain⟨(k:Int),(u:Int)⟩:=t;unfold M.bY;dsimp only[ae,Row.den];rw[BW];simp only[aji]
 have cast:∀{p q:Prop}[Decidable p][Decidable q],(p↔q)->some (decide p)=some (decide q):=fun h=>by simp[h]
 have no:¬((1<=k/\k<=5/\u=0)\/(k=6/\0<=u/\u<(E.length:Int)))->some false=some (decide (jo (k,u) E.length)):=fun h=>by rw[decide_eq_false (p:=jo (k,u) E.length) h]
 by_cases h:k=1\/k=2\/k=3\/k=4\/k=5
 .rw[decide_eq_true h,if_pos rfl];exact cast (show(u=0↔(1<=k/\k<=5/\u=0)\/(k=6/\0<=u/\u<(E.length:Int))) by omega)
 .rw[decide_eq_false h,if_neg (by simp)];by_cases h6:k=6
  .rw[decide_eq_true h6,if_pos rfl];by_cases hu:0<=u
   .rw[decide_eq_true hu,if_pos rfl,aji];exact cast (show(u<(E.length:Int)↔(1<=k/\k<=5/\u=0)\/(k=6/\0<=u/\u<(E.length:Int))) by omega)
   .rw[decide_eq_false hu,if_neg (by simp),aji];exact no (by omega)
  .rw[decide_eq_false h6,if_neg (by simp)];exact no (by omega)
theorem mD(N:Nat)(n k:Int)(s:Sg)(hk:1<=k/\k<=5):Wp (M.cy N n k s) fun r=>r.2=0->r.1=(k,(0:Int)):=by
 unfold M.cy
 refine Wp.seq (fun _=>True) ?_ fun y _=>?_
 .unfold M.fo;dsimp only[ae,Row.den];rw[wo];simp only[aji]
  refine Wp.ite (fun _=> .some trivial) fun _=>?_
  refine Wp.dec (fun _=> .some trivial) fun _=>?_
  refine Wp.dec (fun _=> .some trivial) fun _=>?_
  refine Wp.dec (fun _=> .some trivial) fun _=>?_
  refine Wp.dec (fun _=> .some trivial) fun _=>?_
  refine Wp.dec (fun _=> .some trivial) fun _=>by omega
 refine Wp.seq (fun _=>True) (Wp.ite (fun _=> .some trivial) fun _=> .some trivial) fun j _=>?_
 refine Wp.ite (fun _=> .some ?_) fun _=> .some ?_
 .exact fun h=>by cases h
 .exact fun _=>rfl
theorem NJ(N:Nat)(m:Int)(hm:m<=9223372036854775807)(s:Sg):Wp (M.bF N m s) fun r=>r.2=0->0<=m/\r.1=((6:Int),ajj.wrap (ajE m 16)):=by
 unfold M.bF
 refine Wp.dec (fun _=> .some fun h=>by cases h) fun h0=>?_
 have e:ajE m 16=m/16:=aki (by omega)
 have w:ajj.wrap (ajE m 16)=m/16:=by rw[e,aM (by omega) (by omega)]
 refine Wp.seq (fun _=>True) ?_ fun j _=>Wp.ite (fun _=> .some fun h=>by cases h) fun _=> .some fun _=>⟨by omega,rfl⟩
 refine Wp.dec (fun _=> .some trivial) fun h1=>?_
 rw[w]at h1⊢
 exact Wp.seq (fun _=>True) (Wp.fb (by omega) (by omega) fun _ _ _=>trivial) fun _ _=> .some trivial
def VM(n:Int)(ts:List Ty)(s:Sg)(t:Ty):Prop:=∃k:Nat,n=k/\ts[k]? =some t/\jo t s.1.length
theorem td(N:Nat)(n:Int)(ts:List Ty)(s:Sg):Wp (M.dC N n ts s) fun r=>r.2=0->VM n ts s r.1:=by
 unfold M.dC;simp only[aC,aji,o7]
 refine Wp.ite (fun _=> .some fun h=>by cases h) fun h=>?_
 simp only[Bool.or_eq_true,decide_eq_true_eq,not_or]at h
 obtain⟨k,rfl⟩:∃k:Nat,n=k:=⟨n.toNat,by omega⟩
 have hk:k<ts.length:=by omega
 rw[ah hk];simp only[aji,wo]
 refine Wp.ite (fun _=> .some fun h=>by cases h) fun hv=> .some fun _=>⟨k,rfl,ajl hk,by rw[Bool.not_eq_true',Bool.not_eq_false]at hv;exact of_decide_eq_true hv⟩
def Tb(op m:Int)(a:Ty)(s:Sg)(t:Ty):Prop:=∃(k:Nat)(T:ay.den),s.2.1[k]? =some T/\jo T.2.1 s.1.length/\jo T.2.2.1 s.1.length/\a=T.2.1/\((op=34/\0<=m/\0<=ajY m 8/\ajY m 8<=5/\ajj.wrap (ajE m 8)=k/\(T.2.1.1:Int)=3/\(T.2.2.1.1:Int)=4/\t=T.2.1)\/(op≠34/\m=k/\t=T.2.2.1))
theorem K5(N:Nat)(op m:Int)(a:Ty)(s:Sg):Wp (M.fR N (op,m) a s) fun r=>r.2=0->Tb op m a s r.1:=by
 unfold M.fR;dsimp only[ae,Row.den];refine Wp.join (Wp.mono (Q:=fun x=>(∃j,x=Sum.inl j/\((op=34/\0<=m/\0<=ajY m 8/\ajY m 8<=5/\ajj.wrap (ajE m 8)=j)\/(op≠34/\m=j)))\/∃r,x=Sum.inr r/\r.2≠0) ?_ ?_)
 .refine Wp.dec (fun h=>?_) fun h=> .some (.inl ⟨_,rfl, .inr ⟨h,rfl⟩⟩)
  rw[FN];simp only[aji]
  refine Wp.seq (fun j=>j=false->0<=m/\0<=ajY m 8/\ajY m 8<=5) ?_ fun j hj=>?_
  .refine Wp.dec (fun _=> .some fun h=>by cases h) fun h=> .some fun h'=>⟨by omega,?_⟩
   rw[Bool.not_eq_false']at h';exact of_decide_eq_true h'
  .refine Wp.ite (fun _=> .some (.inr ⟨_,rfl,by simp⟩)) fun hc=>?_
   obtain⟨g1,g2,g3⟩:=hj (by simpa using hc);exact .some (.inl ⟨_,rfl, .inl ⟨h,g1,g2,g3,rfl⟩⟩)
 rintro _ (⟨j,rfl,hj⟩|⟨r,rfl,hr⟩)
 case inr=>exact fun h=>absurd h hr
 show Wp _ _
 refine Wp.seq (fun b=>b=false->0<=j/\j<s.2.1.length) ?_ fun b hb=>?_
 .exact Wp.dec (fun _=> .some fun h=>by cases h) fun h=> .some fun h'=>by simp at h';omega
 refine Wp.ite (fun _=> .some fun h=>by cases h) fun hc=>?_
 obtain⟨j0,j1⟩:=hb (by simpa using hc)
 obtain⟨k,rfl⟩:∃k:Nat,j=k:=⟨j.toNat,by omega⟩
 have hk:k<s.2.1.length:=by omega
 have get:=ajl hk;rw[ah hk];generalize s.2.1[k]=T at get;simp only[aji,wo,zQ]
 refine Wp.seq (fun b=>b=false->jo T.2.1 s.1.length/\jo T.2.2.1 s.1.length/\a=T.2.1) ?_ fun b hb=>?_
 .refine Wp.ite (fun _=> .some fun h=>by cases h) fun h1=>?_
  refine Wp.ite (fun _=> .some fun h=>by cases h) fun h2=> .some fun h3=>⟨by simpa using h1,by simpa using h2,by simpa using h3⟩
 refine Wp.ite (fun _=> .some fun h=>by cases h) fun hc=>?_
 obtain⟨v1,v2,v3⟩:=hb (by simpa using hc)
 refine Wp.dec (fun sd=>?_) fun sd=> .some fun _=>?_
 .refine Wp.seq (fun b=>b=false->(T.2.1.1:Int)=3/\(T.2.2.1.1:Int)=4) ?_ fun b hb=>?_
  .exact Wp.jV (fun _=> .some fun h=>by cases h) fun h=> .some fun h'=>⟨h,by simpa using h'⟩
  refine Wp.ite (fun _=> .some fun h=>by cases h) fun hc=> .some fun _=>?_
  obtain⟨w1,w2⟩:=hb (by simpa using hc)
  rcases hj with⟨_,g1,g2,g3,g4⟩|⟨g,_⟩
  .exact⟨k,T,get,v1,v2,v3, .inl ⟨sd,g1,g2,g3,g4,w1,w2,rfl⟩⟩
  .exact absurd sd g
 .rcases hj with⟨g,_⟩|⟨_,g⟩
  .exact absurd g sd
  .exact⟨k,T,get,v1,v2,v3, .inr ⟨sd,g,rfl⟩⟩
def Mb(op m:Int)(s:Sg)(t:Ty):Prop:=VM m s.2.2.2.2.1 s t/\(op=36->(t.1:Int)=2\/(t.1:Int)=3)/\(op=37\/op=38->(t.1:Int)=1)/\(op=39->FM t.1\/(t.1:Int)=5)
theorem Ih(N:Nat)(op m:Int)(s:Sg):Wp (M.bn N (op,m) s) fun r=>r.2=0->(op=35/\r.1=((2:Int),(0:Int)))\/(op≠35/\Mb op m s r.1):=by
 unfold M.bn;dsimp only[ae,Row.den];simp only[oy,pd,aji]
 refine Wp.ite (fun _=> .some fun h=>by cases h) fun _=>?_
 refine Wp.dec (fun h=> .some fun _=> .inl ⟨h,rfl⟩) fun h35=>?_
 refine Wp.seq _ (td ..) fun y hy=>?_
 refine Wp.jV (fun h=> .some ?_) fun h0=>?_
 .exact fun h'=>absurd h' h
 have hL:=hy h0
 refine Wp.seq (fun b=>b=true->(op=36->(y.1.1:Int)=2\/(y.1.1:Int)=3)/\(op=37\/op=38->(y.1.1:Int)=1)/\(op=39->FM y.1.1\/(y.1.1:Int)=5)) ?_ fun b hb=>?_
 .refine Wp.dec (fun h=>?_) fun QU=>?_
  .refine Wp.dec (fun h2=> .some fun _=>⟨fun _=> .inl h2,fun g=>by omega,fun g=>by omega⟩) fun _=> .some fun h3=>⟨fun _=> .inr (by simpa using h3),fun g=>by omega,fun g=>by omega⟩
  refine Wp.dec (fun h=> .some fun h1=>⟨fun g=>absurd g QU,fun _=>by simpa using h1,fun g=>by omega⟩) fun h37=>?_
  refine Wp.dec (fun h=>?_) fun _=> .some fun h=>by cases h
  refine Wp.dec (fun h2=> .some fun _=>⟨fun g=>absurd g QU,fun g=>absurd g h37,fun _=> .inl h2⟩) fun _=> .some fun h3=>⟨fun g=>absurd g QU,fun g=>absurd g h37,fun _=> .inr (by simpa using h3)⟩
 refine Wp.ite (fun _=> .some fun h=>by cases h) fun hc=> .some fun _=> .inr ⟨h35,hL,hb (by simpa using hc)⟩
def NT(op m:Int)(ts:List Ty)(s:Sg)(t:Ty):Prop:=
 ((1<=op/\op<=5)/\t=(op,(0:Int)))\/
 (op=6/\0<=m/\t=((6:Int),ajj.wrap (ajE m 16)))\/
 (op=7/\VM m s.2.2.1 s t)\/
 (op=8/\VM m s.2.2.2.1 s t)\/
 (op=9/\t=((5:Int),(0:Int)))\/
 ((op=33\/op=34)/\∃a,ts=[a]/\Tb op m a s t)\/
 (op=35/\t=((2:Int),(0:Int)))\/
 ((op=36\/op=37\/op=38\/op=39)/\Mb op m s t)\/
 ((op=14\/op=15\/op=16->0<=m/\m<=5)/\RT op ts t)
theorem NK(N:Nat)(op m:Int)(hm:m<=9223372036854775807)(ts:List Ty)(s:Sg)(hl:(ts.length:Int)=ar op):Wp (M.aK N (op,m) ts s) fun r=>r.2=0->NT op m ts s r.1:=by
 unfold M.aK;dsimp only[ae,Row.den];simp only[oy op 33 34,uk op 14 15 16,BW op 35 36 37 38 39,FN,aji]
 have fin:∀Q:Ty×Int->Prop,((op=14\/op=15\/op=16->0<=m/\m<=5)->∀t,RT op ts t->Q (t,0))->Q (((0:Int),(0:Int)),8)->((op=14\/op=15\/op=16)->0<=m/\m<=5)->Wp ((M.cu N op ts).bind fun wS=>if(!wS.2)=true then some (((0:Int),(0:Int)),(8:Int))else some (wS.1,(0:Int))) Q:=by
  intro Q hq h8 MB
  refine Wp.seq _ (Ig N op ts hl) fun y hy=>?_
  refine Wp.ite (fun _=> .some h8) fun h=> .some (hq MB _ (hy (by simpa using h)))
 refine Wp.join ?_
 refine Wp.dec (fun h=>Wp.seq _ (mD _ _ 1 _ (by omega)) fun r hr=> .some fun h'=> .inl ⟨by omega,by rw[h];exact hr h'⟩) fun h1=>?_
 refine Wp.dec (fun h=>Wp.seq _ (mD _ _ 2 _ (by omega)) fun r hr=> .some fun h'=> .inl ⟨by omega,by rw[h];exact hr h'⟩) fun h2=>?_
 refine Wp.dec (fun h=>Wp.seq _ (mD _ _ 3 _ (by omega)) fun r hr=> .some fun h'=> .inl ⟨by omega,by rw[h];exact hr h'⟩) fun h3=>?_
 refine Wp.dec (fun h=>Wp.seq _ (mD _ _ 4 _ (by omega)) fun r hr=> .some fun h'=> .inl ⟨by omega,by rw[h];exact hr h'⟩) fun h4=>?_
 refine Wp.dec (fun h=>Wp.seq _ (mD _ _ 5 _ (by omega)) fun r hr=> .some fun h'=> .inl ⟨by omega,by rw[h];exact hr h'⟩) fun h5=>?_
 refine Wp.dec (fun h=>Wp.seq _ (NJ _ _ hm _) fun r hr=> .some fun h'=> .inr (.inl ⟨h,hr h'⟩)) fun h6=>?_
 refine Wp.dec (fun h=>Wp.seq _ (td ..) fun r hr=> .some fun h'=> .inr (.inr (.inl ⟨h,hr h'⟩))) fun h7=>?_
 refine Wp.dec (fun h=>Wp.seq _ (td ..) fun r hr=> .some fun h'=> .inr (.inr (.inr (.inl ⟨h,hr h'⟩)))) fun h8=>?_
 refine Wp.dec (fun h=> .some fun h'=> .inr (.inr (.inr (.inr (.inl ⟨h,rfl⟩))))) fun h9=>?_
 refine Wp.dec (fun h=>?_) fun Mm=>?_
 .obtain⟨a,rfl⟩:=UY (l:=ts) (by have:ar op=1:=by rcases h with h|h<;>rw[h]<;>rfl
                                omega)
  simp only[mb,aji]
  exact Wp.seq _ (K5 ..) fun r hr=> .some fun h'=> .inr (.inr (.inr (.inr (.inr (.inl ⟨h,a,rfl,hr h'⟩)))))
 refine Wp.dec (fun h=>?_) fun h35=>?_
 .refine Wp.seq _ (Ih ..) fun r hr=> .some fun h'=>?_
  rcases hr h' with⟨g1,g2⟩|⟨g1,g2⟩
  .exact .inr (.inr (.inr (.inr (.inr (.inr (.inl ⟨g1,g2⟩))))))
  .exact .inr (.inr (.inr (.inr (.inr (.inr (.inr (.inl ⟨by omega,g2⟩)))))))
 refine Wp.dec (fun h=>?_) fun K6=>?_
 .refine Wp.ite (fun _=> .some fun h=>by cases h) fun hmo=> .some ?_
  exact fin _ (fun MB t ht _=> .inr (.inr (.inr (.inr (.inr (.inr (.inr (.inr ⟨MB,ht⟩)))))))) (fun h=>by cases h) fun _=>by simpa using hmo
 .refine .some ?_
  exact fin _ (fun MB t ht _=> .inr (.inr (.inr (.inr (.inr (.inr (.inr (.inr ⟨MB,ht⟩)))))))) (fun h=>by cases h) fun h=>absurd h K6
end L.P
end Go.Proofs.YtmihpkfkbfgigaaGreatDoor
end
section
open _root_.Int renaming toNat_natCast->ajr
open _root_.List renaming append_assoc->ajH,getD->ajN,getElem?_append_left->ajQ,length_append->ajm,length_singleton->ajw
namespace Go.Proofs.YtmihpkfkbfgigaaGreatDoor
open Go Go.RowKit
set_option maxRecDepth 100000
namespace L.P
theorem wq{g:Nat->Vl×Int}:∀{os:List Nat}{c:Int},ee g os= .inr c->c≠0
 |[],c,h=>by cases h
 |o::os,c,h=>by
  rw[ee]at h;split at h
  .cases hq:ee g os with
   |inl vs=>rw[hq]at h;cases h
   |inr d=>rw[hq]at h;cases h;exact wq hq
  .rename_i h0;cases h;exact h0
theorem Ek{st:List Nat}:∀{i:Nat}{l:List Nat},Ch st i l->∀a:Nat,a<=l.length->opsL st l.length i=opsL st (l.length-a) (mi (a:Int) i l)++opsL st a i:=by
 intro i l c
 induction c with
 |nil=>
  intro a ha
  obtain rfl:a=0:=by simpa using ha
  simp[opsL]
 | @snoc j s l h1 h2 c ih=>
   intro a ha;rw[ajm,ajw]at ha⊢
   have hg:st.getD (j+1-1) 0=s:=by simp[ajN,h1]
   cases a with
   |zero=>simp[mi,opsL]
   |succ a=>
    have e1:opsL st (l.length+1) (j+1)=opsL st l.length s++[j]:=by rw[opsL,hg];rfl
    have e2:opsL st (a+1) (j+1)=opsL st a s++[j]:=by rw[opsL,hg];rfl
    rw[e1,e2,ih a (by omega),ajH]
    have e3:l.length+1-(a+1)=l.length-a:=by omega
    rw[e3]
    congr 1
    have en:((a+1:Nat):Int).toNat=a+1:=by omega
    have s1:mi ((a+1:Nat):Int) (j+1) (l++[s])=(l++[s]).getD (l.length-a) 0:=by
     unfold mi;rw[if_neg (by omega),ajm,ajw,en,e3]
    rw[s1];unfold mi;by_cases h0:(a:Int)=0
    .rw[if_pos h0]
     have:a=0:=by omega
     subst this;simp[ajN]
    .rw[if_neg h0,ajr]
     have ao:l.length-a<l.length:=by omega
     simp[ajN,ajQ ao]
theorem NL{e:List Ty}{st:List Nat}(w:Whole e st){l:List Nat}(c:Ch st e.length l):opsL st l.length e.length=[e.length-1]:=by
 have hp:0<e.length:=List.length_pos_iff.2 w.ne
 have h1:l.length=1:=by
  have:=(c.one hp).2 w.one;have:=List.length_pos_iff.2 (c.pos hp);omega
 rw[h1,opsL];rfl
end L.P
end Go.Proofs.YtmihpkfkbfgigaaGreatDoor
end
