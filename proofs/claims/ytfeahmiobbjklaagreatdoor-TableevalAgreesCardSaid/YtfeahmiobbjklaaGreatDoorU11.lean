/- Joined texts: PT3 PX PX3 PX5 PS PY PY3 PY5 PX7 PY6 VB TP VA TK TM VC VD VF. -/
import Derived.Test.YtfeahmiobbjklaaGreatDoorU10
open _root_.Bool renaming false->ah,true->af,and_eq_true->ajB,false_eq_true->aiK,not_true->ajR
open _root_.Option renaming some->aa,bind_some->aiA,some->aj8,map_eq_some_iff->ajp
open _root_.Int renaming le_refl->ajz,tdiv->aiR,tmod->ai3,toNat_natCast->aiI,eq_ofNat_of_zero_le->aiL
open _root_.Go.IntKind renaming i64->aiB
open _root_.List renaming getElem_mem->aiF,drop_eq_getElem_cons->aiN,getElem?_eq_getElem->aiE,getElem_append_left->ajq,getElem_append_right->ajm,length_map->ajn,replicate->aiG,getElem?_eq_some_iff->aiP,mem_cons->ai7,getElem?_append_left->ajw,getElem_of_mem->aiV,mem_singleton->aiZ,mem_filter->aji
open _root_.Option.some renaming inj->aiC
open _root_.Nat renaming le_of_lt->ajT,le_refl->aiH,min_eq_left->ajD,zero_add->aje
open _root_.Sum renaming inr->ajy
open _root_.List.cons renaming injEq->ajt
open _root_.BitVec renaming ofInt->ajk
namespace Go.Proofs.YtfeahmiobbjklaaGreatDoor
open Go Go.RowKit
set_option maxRecDepth 100000
set_option linter.unusedSimpArgs false
set_option linter.unusedVariables false
set_option linter.defProp false
namespace L.P
def rc(x a b:Int):(if decide (x=a)=af then aa (decide (x=a))else aa (decide (x=b)))=aa (decide (x=a\/x=b)):=by
 grind
def Np(x a b c:Int):(if decide (x=a)=af then aa (decide (x=a))else(if decide (x=b)=af then aa (decide (x=b))else aa (decide (x=c))))=aa (decide (x=a\/x=b\/x=c)):=by
 grind
def ta(x a b c d:Int):(if decide (x=a)=af then aa (decide (x=a))else(if decide (x=b)=af then aa (decide (x=b))else(if decide (x=c)=af then aa (decide (x=c))else aa (decide (x=d)))))=aa (decide (x=a\/x=b\/x=c\/x=d)):=by
 grind
def DK(x a b c d e:Int):(if decide (x=a)=af then aa (decide (x=a))else(if decide (x=b)=af then aa (decide (x=b))else(if decide (x=c)=af then aa (decide (x=c))else(if decide (x=d)=af then aa (decide (x=d))else aa (decide (x=e))))))=aa (decide (x=a\/x=b\/x=c\/x=d\/x=e)):=by
 grind
theorem Wp.ff{α:Type}{l:List α}{i:Int}{Q:α->Prop}(h0:0<=i)(h1:i<l.length)(h:∀x,x∈l->idx l i=aj8 x->Q x):Wp (idx l i) Q:=by
 obtain⟨k,rfl⟩:∃k:Nat,i=k:=⟨i.toNat,by omega⟩
 have hk:k<l.length:=by omega
 exact⟨_,aC hk,h _ (aiF hk) (aC hk)⟩
def ar(op:Int):Int:=
 if(1<=op/\op<=9)\/(35<=op/\op<=39)then 0 else if op=10\/op=25\/(31<=op/\op<=34)then 1 else if(11<=op/\op<=24)\/(27<=op/\op<=30)then 2 else if op=26 then 3 else-1
def nh(N:Nat)(op:Int):M.gj N op=aa (ar op):=by
 by_cases h:1<=op/\op<=39
 .have:op=1\/op=2\/op=3\/op=4\/op=5\/op=6\/op=7\/op=8\/op=9\/op=10\/op=11\/op=12\/op=13\/op=14\/op=15\/op=16\/op=17\/op=18\/op=19\/op=20\/op=21\/op=22\/op=23\/op=24\/op=25\/op=26\/op=27\/op=28\/op=29\/op=30\/op=31\/op=32\/op=33\/op=34\/op=35\/op=36\/op=37\/op=38\/op=39:=by omega
  rcases this with rfl|rfl|rfl|rfl|rfl|rfl|rfl|rfl|rfl|rfl|rfl|rfl|rfl|rfl|rfl|rfl|rfl|rfl|rfl|rfl|rfl|rfl|rfl|rfl|rfl|rfl|rfl|rfl|rfl|rfl|rfl|rfl|rfl|rfl|rfl|rfl|rfl|rfl|rfl<;>(show(_:Option Int)=_;kernel_rfl)
 .have ha:ar op= -1:=by unfold ar;rw[aj (by omega),aj (by omega),aj (by omega),aj (by omega)]
  rw[ha]
  have ne:∀k:Int,1<=k->k<=39->decide (op=k)=ah:=λk h1 h2=>by simp;omega
  unfold M.gj;simp[ne]
def p8(op:Int):ar op<=3:=by grind [P.ar]
def lv(env:eN.den):Prop:=env.2.2.2.1.length<=100/\∀t∈env.2.2.2.2.2,t.2.2.2.length<=9223372036854775807
def Fm(op m:Int):Prop:=0<=ar op/\(op=14\/op=15\/op=16->0<=m/\m<=5)/\(op=34->0<=m/\ai3 m 8<=5)/\(op=6->0<=m)
def Nq(N:Nat)(op:Int):Wp (M.gP N op) λ_=>True:=by
 unfold M.gP;simp only[bi,aiA];exact .some trivial
def J9(N:Nat)(op m:Int):Wp (M.dN N (op,m)) λb=>b=af->Fm op m:=by
 unfold M.dN;simp only[nh,aiA]
 refine Wp.seq (λj=>j=ah->0<=ar op) ?_ λj hj=>?_
 .refine Wp.dec (λ_=> .some λh=>by cases h) λh=>?_
  refine Wp.iM (λ_=>Wp.seq _ (Nq ..) λy _=> .some λ_=>by omega) λ_=> .some λ_=>by omega
 .refine Wp.ite (λ_=> .some λh=>by cases h) λhc=>?_
  have ha:=hj (by simpa using hc);rw[Np];simp only[aiA,bi,mB]
  refine .some λhb=>?_
  grind [P.Fm]
def W4(op m:Int)(env:eN.den):Prop:=
 (op=7->0<=m/\m<env.2.1.length)/\(op=8->0<=m/\m<env.2.2.1.length)/\(op=33->0<=m/\m<env.2.2.2.2.2.length)/\(op=34->aiB.wrap (aiR m 8)<env.2.2.2.2.2.length)/\(op=36\/op=37\/op=38\/op=39->0<=m/\m<env.2.2.2.2.1.length)
def zK(N:Nat)(op m:Int)(env:eN.den):Wp (M.iW N (op,m) env) λb=>b=af->W4 op m env:=by
 unfold M.iW W4;simp only
 refine Wp.dec (λh=>?_) λh7=>?_
 .subst h;simp only[bi,aiA,mB];exact .some (by grind)
 refine Wp.dec (λh=>?_) λh8=>?_
 .subst h
  refine Wp.seq (λj=>j=af->0<=m/\m<env.2.2.1.length) ?_ λj hj=> .some (by grind)
  refine Wp.dec (λh0=>Wp.dec (λh1=>Wp.bind (Wp.ff h0 h1 λx _ _=> .some λ_=>⟨h0,h1⟩)) λ_=> .some λh=>by cases h) λ_=> .some λh=>by cases h
 refine Wp.dec (λh=>?_) λh33=>?_
 .subst h;simp only[bi,aiA,mB];exact .some (by grind)
 refine Wp.dec (λh=>?_) λJJ=>?_
 .subst h;exact .some (by grind)
 rw[ta];simp only[aiA]
 refine Wp.dec (λh=>?_) λXZ=> .some (by grind)
 simp only[bi,aiA,mB];exact .some (by grind)
def Nr{N:Nat}(l:List Vl)(hl:l.length<=100000)(hN:100001<=N):Wp (M.eD N l) λb=>b=af->∀v∈l,eY v.1 v.2.1 v.2.2:=by
 unfold M.eD;refine Wp.loop (λs:Int=>∃i:Nat,s=i/\i<=l.length/\∀v∈l.take i,eY v.1 v.2.1 v.2.2) (λs=>(l.length-s).toNat) ⟨0,rfl,Nat.zero_le _,by simp⟩ (by omega) ?_
 rintro _ ⟨i,rfl,hi,hp⟩
 refine Wp.dec (λh=>?_) λh=> .some λ_=>?_
 .have kF:i<l.length:=by omega
  rw[aC kF];simp only[aiA,dI]
  refine Wp.iM (λ_=> .some λh=>by cases h) λhq=> .some ?_
  rw[aQ (by omega)];refine⟨⟨i+1,rfl,kF,λv hv=>?_⟩,by grind⟩
  grind [List.take_succ_eq_append_getElem]
 grind
def DL(N:Nat)(a b:Vl):Wp (M.dl N a b) λ_=>True:=by
 unfold M.dl;simp only[bi,aiA];exact .some trivial
def TO(N:Nat)(a b:Int):Wp (M.cJ N a b) λ_=>True:=by
 unfold M.cJ;simp only[mc,bi,aiA];exact .some trivial
def Qc(N:Nat)(op:Int)(a b:Vl):Wp (M.cO N op a b) λ_=>True:=by
 unfold M.cO M.dl;simp only[mc,bi,aiA];exact .some trivial
def X0(op m:Int)(env:eN.den):Prop:=
 (op=34->∀t,idx env.2.2.2.2.2 (aiB.wrap (aiR m 8))=aa t->t.2.1=((3,0):Int×Int)/\t.2.2.1=((4,0):Int×Int))/\(op=36\/op=37\/op=38\/op=39->∀t,idx env.2.2.2.2.1 m=aa t->Us op t)
def Gk{N:Nat}{op m:Int}{args:List Vl}{env:eN.den}(hx:W4 op m env)(ha:(args.length:Int)=ar op)(JJ:op=34->0<=aiB.wrap (aiR m 8)):Wp (M.bW N (op,m) args env) λb=>b=af->X0 op m env:=by
 obtain⟨x7,x8,Q3,V7,x36⟩:=hx;unfold M.bW X0;dsimp only[aA,Row.den]
 have no:∀{b:Bool},¬op=34->¬(op=36\/op=37\/op=38\/op=39)->b=af->(op=34->∀t,idx env.2.2.2.2.2 (aiB.wrap (aiR m 8))=aa t->t.2.1=((3,0):Int×Int)/\t.2.2.1=((4,0):Int×Int))/\(op=36\/op=37\/op=38\/op=39->∀t,idx env.2.2.2.2.1 m=aa t->Us op t):=λh1 h2 _=>⟨λe=>absurd e h1,λe=>absurd e h2⟩
 refine Wp.dec (λh=>?_) λh7=>?_
 .obtain⟨a,b⟩:=x7 h;exact Wp.bind (Wp.ff a b λx _ _=>by rw[dI];exact .some (no (by omega) (by omega)))
 refine Wp.dec (λh=>?_) λh8=>?_
 .obtain⟨a,b⟩:=x8 h;exact Wp.bind (Wp.ff a b λx _ _=>by rw[dI];exact .some (no (by omega) (by omega)))
 have agy:1<=ar op->0<args.length:=λh=>by omega
 refine Wp.dec (λh=>?_) λh33=>?_
 .obtain⟨a,b⟩:=Q3 h
  have h1:ar op=1:=by rw[h];decide
  refine Wp.bind (Wp.ff a b λx _ _=>?_)
  refine Wp.seq (λ_=>True) ?_ λj _=> .some (no (by omega) (by omega))
  refine Wp.bind (Wp.ff (ajz 0) (by omega) λy _ _=>?_);rw[r7];simp only[aiA,bi];exact .some trivial
 refine Wp.dec (λh=>?_) λW5=>?_
 .have b:=V7 h
  have h1:ar op=1:=by rw[h];decide
  refine Wp.bind (Wp.ff (JJ h) b λx _ W7=>?_)
  refine Wp.seq (λj=>j=af->x.2.1=((3,0):Int×Int)/\x.2.2.1=((4,0):Int×Int)) ?_ λj hj=> .some λhb=>⟨λ_ t ht=>?_,λe=>by omega⟩
  .refine Wp.bind (Wp.ff (ajz 0) (by omega) λy _ _=>?_);simp only[bi,mB]
   refine .some λhb=>?_
   simp only[ajB,lA,ax]at hb;exact⟨hb.2.1,hb.2.2⟩
  .rw[W7]at ht;obtain rfl:=aiC ht;exact hj hb
 rw[ta];simp only[aiA]
 refine Wp.dec (λh=>?_) λXZ=>?_
 .obtain⟨a,b⟩:=x36 h;refine Wp.bind (Wp.ff a b λx _ W7=>?_);rw[oI]
  refine .some λhb=>⟨λe=>absurd e W5,λ_ t ht=>?_⟩
  rw[W7]at ht;obtain rfl:=aiC ht;simpa using hb
 have X1:∀b:Bool,b=af->_:=λb=>no (b:=b) W5 XZ
 refine Wp.dec (λh=>?_) λ_=>?_
 .refine Wp.bind (Wp.ff (ajz 0) (by omega) λy _ _=>?_)
  exact Wp.seq _ (TO ..) λb _=> .some (X1 b)
 refine Wp.dec (λh=>?_) λ_=>?_
 .refine Wp.bind (Wp.ff (ajz 0) (by omega) λy _ _=>?_);refine Wp.bind (Wp.ff (by omega) (by omega) λz _ _=>?_)
  exact Wp.seq _ (Qc ..) λb _=> .some (X1 b)
 refine Wp.dec (λh=>?_) λ_=> .some (X1 _)
 refine Wp.seq (λ_=>True) ?_ λb _=> .some (X1 b)
 refine Wp.bind (Wp.ff (ajz 0) (by omega) λy _ _=>?_)
 refine Wp.dec (λ_=>?_) λ_=> .some trivial
 refine Wp.bind (Wp.ff (by omega) (by omega) λz _ _=>?_);refine Wp.bind (Wp.ff (by omega) (by omega) λz' _ _=>?_)
 exact Wp.seq _ (DL ..) λb _=> .some trivial
def Ce(c:Int):Prop:=c=0\/c=3\/c=12\/c=6\/c=8
def Cd.e{c:Int}(h:Cd c):Ce c:=by unfold Cd at h;unfold Ce;omega
theorem DM{op:Int}{t:Ty}{j:Nat}:{ms:List (List Vl)}->{first:Bool}->{acc c:Int}->oJ op t j ms first acc= .inr c->c=3\/c=6\/c=8
 |[],_,_,_,h=>by cases h
 |l::ms,first,acc,c,h=>by
  rw[oJ]at h;split at h
  .grind
  .split at h
   .grind
   .split at h
    .split at h
     .exact DM h
     grind
    grind
def Qd(op:Int)(t:Ty)(j:Nat)(ms:List (List Vl)):Ce (J6 op t j ms).2:=by
 grind [P.J6,P.Ce,P.DM]
def lm(N:Nat)(b:Bool):Wp (M.dD N b) λ_=>True:=by
 unfold M.dD;simp only[bi];exact .some trivial
def Ns(op:Int)(a:Vl):Wp (M.kj aU op a) λ_=>True:=by
 unfold M.kj
 refine Wp.dec (λ_=> .some trivial) λ_=>?_
 refine Wp.dec (λ_=>Wp.seq _ (lm ..) λ_ _=> .some trivial) λ_=>?_
 refine Wp.seq _ (qm ..) λy _=>?_
 simp only[bi];exact .some trivial
def xx(N:Nat)(a b:Int):Wp (M.mD N a b) λr=>Cd r.2:=by
 unfold M.mD
 refine Wp.seq _ (s7 ..) λr _=>?_
 simp only[bi,aiA];exact .some (Bm (Cd3 _) (Bm (zF _) (zF _)))
def Ka{op m:Int}{a b:Vl}(hm:op=14\/op=15\/op=16->0<=m/\m<=5)(q7:13<=op/\op<=16):Wp (M.kD aU (op,m) a b) λr=>Cd r.2:=by
 unfold M.kD;dsimp only[aA,Row.den]
 refine Wp.seq (λj=>Cd j.1) ?_ λj hj=> .some hj
 refine Wp.dec (λ_=>Wp.seq _ (xx ..) λr hr=> .some hr) λVx=>?_
 have Jc:=hm (by omega);simp only[bi,aiA,mB]
 refine Wp.ite (λ_=>Wp.seq _ (zI Jc) λr hr=> .some hr) λ_=>?_
 refine Wp.dec (λ_=>Wp.seq _ (Hy Jc) λr hr=> .some hr) λ_=>?_
 refine Wp.dec (λ_=>Wp.seq _ (xv Jc) λr hr=> .some hr) λ_=>?_
 refine Wp.dec (λ_=>Wp.seq _ (me _ Jc) λr hr=> .some hr) λ_=>?_
 exact Wp.seq _ (s9 Jc) λr hr=> .some hr
def Kb{op m:Int}{a b:Vl}(hm:op=14\/op=15\/op=16->0<=m/\m<=5):Wp (M.fR aU (op,m) a b) λr=>Cd r.2:=by
 unfold M.fR;dsimp only[aA,Row.den];rw[rc,ta,rc];simp only[aiA]
 refine Wp.ite (λ_=> .some (zF 0)) λ_=>?_
 refine Wp.dec (λ_=> .some (zF 0)) λ_=>?_
 refine Wp.dec (λh=>Wp.seq _ (Ka hm (by omega)) λr hr=> .some hr) λ_=>?_
 refine Wp.dec (λ_=>?_) λ_=>?_
 .simp only[bi];exact .some (by split<;>exact zF 0)
 refine Wp.dec (λ_=>Wp.seq _ (lm ..) λ_ _=> .some (zF 0)) λ_=>?_
 refine Wp.dec (λ_=>Wp.seq _ (lm ..) λ_ _=> .some (zF 0)) λ_=>?_
 refine Wp.dec (λ_=>Wp.seq _ (lm ..) λ_ _=> .some (zF 0)) λ_=>?_
 refine Wp.dec (λ_=>Wp.seq _ (lm ..) λ_ _=> .some (zF 0)) λ_=>?_
 refine Wp.dec (λ_=>Wp.seq (λj=>j.1=0) (Wp.dec (λ_=>Wp.seq _ (lm ..) λ_ _=> .some rfl) λ_=>Wp.seq _ (lm ..) λ_ _=> .some rfl) λj hj=> .some (.inl hj)) λ_=>?_
 refine Wp.dec (λ_=>Wp.seq (λj=>j.1=0) (Wp.dec (λ_=>Wp.seq _ (lm ..) λ_ _=> .some rfl) λ_=>Wp.seq _ (lm ..) λ_ _=> .some rfl) λj hj=> .some (.inl hj)) λ_=>?_
 refine Wp.dec (λ_=>Wp.seq _ (pd ..) λr hr=> .some hr) λ_=>?_
 refine Wp.dec (λ_=> .some (zF 0)) λ_=>?_
 exact Wp.seq _ (pt ..) λr _=> .some (zF 0)
def Gl{op m:Int}{args:List Vl}{env:eN.den}(he:lv env)(hf:Fm op m)(hx:W4 op m env)(ha:(args.length:Int)=ar op)(haw:X0 op m env)(JJ:op=34->0<=aiB.wrap (aiR m 8)):Wp (M.bY aU (op,m) args env) λr=>Ce r.2:=by
 obtain⟨x7,x8,Q3,V7,x36⟩:=hx;obtain⟨f0,f14,f34,_⟩:=hf;obtain⟨w34,w36⟩:=haw;have Oq:Ce 0:= .inl rfl;unfold M.bY;dsimp only[aA,Row.den];rw[DK,ta];simp only[aiA]
 refine Wp.dec (λ_=> .some Oq) λ_=>?_
 refine Wp.dec (λ_=> .some Oq) λ_=>?_
 refine Wp.dec (λh=>Wp.bind (Wp.ff (x7 h).1 (x7 h).2 λx _ _=> .some Oq)) λ_=>?_
 refine Wp.dec (λh=>Wp.bind (Wp.ff (x8 h).1 (x8 h).2 λx _ _=> .some Oq)) λ_=>?_
 refine Wp.dec (λ_=> .some Oq) λ_=>?_
 refine Wp.dec (λ_=> .some Oq) λ_=>?_
 refine Wp.dec (λh=>?_) λ_=>?_
 .obtain⟨a,b⟩:=x36 h
  obtain⟨j,rfl⟩:∃j:Nat,m=j:=⟨m.toNat,by omega⟩
  have hj:j<env.2.2.2.2.1.length:=by omega
  rw[ql (by unfold aU;omega) h hj he.1 (w36 h _ (aC hj))];exact .some (Qd ..)
 refine Wp.dec (λh=>?_) λ_=>?_
 .have h1:ar op=1:=by rw[h];decide
  refine Wp.bind (Wp.ff (Q3 h).1 (Q3 h).2 λx hx _=>?_);refine Wp.bind (Wp.ff (ajz 0) (by omega) λy _ _=>?_)
  refine Wp.seq _ (zJ _ _ _ (he.2 x hx)) λr hr=>?_
  refine Wp.ite (λ_=> .some (by unfold Ce;omega)) λhc=>?_
  obtain⟨a,b⟩:=hr (by simpa using hc);exact Wp.bind (Wp.ff a b λz _ _=> .some Oq)
 refine Wp.dec (λh=>?_) λ_=>?_
 .have h1:ar op=1:=by rw[h];decide
  refine Wp.bind (Wp.ff (JJ h) (V7 h) λx hx W7=>?_);refine Wp.bind (Wp.ff (ajz 0) (by omega) λy _ _=>?_);obtain⟨k1,k2⟩:=w34 h x W7;obtain⟨m1,m2⟩:=f34 h
  have:0<=ai3 m 8:=by rw[Int.tmod_eq_emod_of_nonneg m1];omega
  exact Wp.seq _ (uU ⟨this,m2⟩ k1 k2 (he.2 x hx)) λr hr=> .some hr.e
 refine Wp.dec (λh=>?_) λ_=>?_
 .refine Wp.bind (Wp.ff (ajz 0) (by omega) λy _ _=>?_)
  exact Wp.seq _ (Ns ..) λr _=> .some Oq
 refine Wp.dec (λh=>?_) λ_=>?_
 .refine Wp.bind (Wp.ff (ajz 0) (by omega) λy _ _=>?_);refine Wp.bind (Wp.ff (by omega) (by omega) λz _ _=>?_)
  exact Wp.seq _ (Kb f14) λr hr=> .some hr.e
 have h3:ar op=3:=by
  have:¬ar op=0:=by unfold ar;split<;>(try split)<;>(try split)<;>(try split)<;>omega
  have:=p8 op;omega
 refine Wp.bind (Wp.ff (ajz 0) (by omega) λy _ _=>?_)
 refine Wp.dec (λ_=>Wp.bind (Wp.ff (by omega) (by omega) λz _ _=> .some Oq)) λ_=>Wp.bind (Wp.ff (by omega) (by omega) λz _ _=> .some Oq)
structure W8(r:Vl×Int):Prop where
 ok:r.2=0->eY r.1.1 r.1.2.1 r.1.2.2
 bad:r.2≠0->r.1=((0,0,0):Int×Int×Int)
 code:r.2=0\/r.2=2\/r.2=3\/r.2=6\/r.2=8\/r.2=12
def Nt{n:Ty}{args:List Vl}{env:eN.den}(he:lv env)(hn:WF az n)(hl:args.length<=100000):Wp (M.fu aU n args env) W8:=by
 obtain⟨op,m⟩:=n;have hm:=hn.2;unfold M.fu
 have err:∀c:Int,c≠0->(c=2\/c=3\/c=6\/c=8\/c=12)->W8 (((0:Int),((0:Int),(0:Int))),c):=λc h1 h2=>⟨λh=>absurd h h1,λ_=>rfl, .inr h2⟩
 refine Wp.seq (λj=>j=ah->Fm op m/\(args.length:Int)=ar op) ?_ λj hj=>?_
 .refine Wp.seq _ (J9 ..) λy hy=>?_
  refine Wp.ite (λ_=> .some λh=>by cases h) λhc=>?_
  rw[nh];exact .some (by grind)
 refine Wp.ite (λ_=> .some (err 2 (by decide) (by omega))) λhc=>?_
 obtain⟨hf,ha⟩:=hj (by simpa using hc)
 refine Wp.seq _ (zK ..) λy hy=>?_
 refine Wp.ite (λ_=> .some (err 6 (by decide) (by omega))) λBF=>?_
 have hx:=hy (by simpa using BF)
 have JJ:op=34->0<=aiB.wrap (aiR m 8):=λe=>by
  have h0:=(hf.2.2.1 e).1;have h1:(m:Int)<=9223372036854775807:=hm.2;rw[Int.tdiv_eq_ediv_of_nonneg h0];dsimp only[aA,Row.den]at h0 h1⊢
  grind [bH]
 refine Wp.seq (λj=>j=ah->X0 op m env) ?_ λj5 hj5=>?_
 .refine Wp.seq _ (Nr _ hl (by unfold aU;omega)) λy _=>?_
  refine Wp.ite (λ_=> .some λh=>by cases h) λ_=>?_
  exact Wp.seq _ (Gk hx ha JJ) λz hz=> .some λh=>hz (by simpa using h)
 refine Wp.ite (λ_=> .some (err 8 (by decide) (by omega))) λLr=>?_
 have haw:=hj5 (by simpa using Lr)
 refine Wp.seq _ (Gl he hf hx ha haw JJ) λr hr=>?_
 refine Wp.iM (λh=> .some (err _ h (by unfold Ce at hr;omega))) λ_=>?_
 rw[dI];simp only[aiA]
 refine Wp.iM (λ_=> .some (err 3 (by decide) (by omega))) λhp=> .some ⟨λ_=>hp,λh=>absurd rfl h, .inl rfl⟩
end L.P
namespace L.P
abbrev eX(l:List Nat):List Int:=l.map (λn:Nat=>(n:Int))
def p9(a:Int)(i:Nat)(sk:List Nat):Nat:=if a=0 then i else sk.getD (sk.length-a.toNat) 0
def kq:List Ty->Nat->List Nat->List Nat->(Nat×Int)⊕(List Nat×List Nat)
 |[],_,st,sk=> .inr (st,sk)
 |n::e,i,st,sk=>
  if ar n.1<0 then .inl (i,2)else if(sk.length:Int)<ar n.1 then .inl (i,5)else
  if 12<sk.length-(ar n.1).toNat+1 then .inl (i,16)else kq e (i+1) (st++[p9 (ar n.1) i sk]) (sk.take (sk.length-(ar n.1).toNat)++[p9 (ar n.1) i sk])
def q8(e:List Ty):Int×Int×List Int:=
 if 48<e.length then(0,4,[])else if e.length=0 then(0,5,[])else match kq e 0 [] []with
  | .inl (i,c)=>(i,c,[])
  | .inr (st,sk)=>if 1<sk.length then(e.length,4,[])else(0,0,eX st)
def AX(st:List Nat)(m:Nat)(v:Nat):bg (eX st++aiG (m+1) (0:Int)) (st.length:Int) (v:Int)=eX (st++[v])++aiG m (0:Int):=by
 grind [bg]
def uj(st:List Nat)(m:Nat)(u v:Nat):bg (eX (st++[u])++aiG m (0:Int)) (st.length:Int) (v:Int)=eX (st++[v])++aiG m (0:Int):=by
 unfold bg
 simp_all
def pe(e:List Ty):M.fm aU e=aa (q8 e):=by
 apply Wp.eq;unfold M.fm q8
 refine Wp.dec (λh=> .some ?_) λh1=>?_
 .grind
 rw[aj (show¬48<e.length by omega)]
 refine Wp.dec (λh=> .some ?_) λh2=>?_
 .grind
 rw[aj (show¬e.length=0 by omega)]
 have Pp:nu (e.length:Int) (0:Int)=aa (aiG e.length 0):=by
  unfold nu;rw[al (by omega),aiI]
 rw[Pp];simp only[aiA];refine Wp.join (Wp.loop (λs:Int×List Int×List Int=>∃st sk:List Nat,s=((st.length:Int),eX st++aiG (e.length-st.length) 0,eX sk)/\st.length<=e.length/\sk.length<=12/\kq (e.drop st.length) st.length st sk=kq e 0 [] []) (λs=>(e.length-s.1).toNat) ⟨[],[],by simp,by simp,by simp,by simp⟩ (by simp only;unfold aU;omega) ?_)
 rintro _ ⟨st,sk,rfl,iq,hsk,bD⟩
 simp only
 refine Wp.dec (λhk=>?_) λhk=> .some ?_
 case refine_2=>
  have hd:e.drop st.length=[]:=List.drop_of_length_le (by omega);rw[hd]at bD;rw[<-bD]
  have h0:e.length-st.length=0:=by omega
  rw[h0];simp only[kq,List.replicate_zero,List.append_nil]
  show Wp _ _
  refine Wp.dec (λh=> .some ?_) λh=> .some ?_
  all_goals grind
 have kG:st.length<e.length:=by omega
 have hd:e.drop st.length=e[st.length]::e.drop (st.length+1):=aiN kG
 obtain⟨m,hm⟩:∃m,e.length-st.length=m+1:=⟨e.length-st.length-1,by omega⟩
 rw[hd]at bD;rw[aC kG,hm];simp only[aiA,nh];generalize q7:(e[st.length].1:Int)=op;rw[kq]at bD;rw[q7]at bD;have Uo:=p8 op
 refine Wp.dec (λh=> .some ?_) λJM=>?_
 .rw[al h]at bD
  show _=_
  rw[<-bD]
 rw[aj JM]at bD
 refine Wp.dec (λh=> .some ?_) λhlen=>?_
 .rw[al (by simpa using h)]at bD
  show _=_
  rw[<-bD]
 have hlen:¬(sk.length:Int)<ar op:=by simpa using hlen
 rw[aj hlen]at bD
 obtain⟨a,ha⟩:∃a:Nat,ar op=a:=⟨(ar op).toNat,by omega⟩
 rw[ha]at bD JM hlen Uo⊢
 have abo:a<=sk.length:=by omega
 have e6:idx (eX st++aiG (m+1) (0:Int)) (st.length:Int)=aa 0:=by
  rw[aC (by simp)];rw[ajm (by simp)];simp
 rw[e6]
 have hw:aiB.wrap (((eX sk).length:Int)-(a:Int))=((sk.length-a:Nat):Int):=by
  rw[ajn,bH (by omega) (by omega)];omega
 have hs:p9 (a:Int) st.length sk=(if a=0 then st.length else sk.getD (sk.length-a) 0):=by
  unfold p9;by_cases h0:a=0
  .subst h0;simp
  .grind
 simp only[aiA,AX,hw];refine Wp.seq (· =eX (st++[p9 (a:Int) st.length sk])++aiG m (0:Int)) ?_ ?_
 .refine Wp.dec (λh=>?_) λh=>?_
  .have aH:sk.length-a<(eX sk).length:=by simp;omega
   rw[aC aH]
   have e9:idx (eX (st++[st.length])++aiG m (0:Int)) (st.length:Int)=aa (st.length:Int):=by
    rw[aC (by simp)];rw[ajq (by simp)];simp
   simp only[aiA,e9,List.getElem_map,uj];refine .some ?_
   grind
  .refine .some ?_
   grind
 .rintro _ rfl
  generalize p9 (a:Int) st.length sk=s at bD⊢
  have Eu:gI (eX sk) (0:Int) ((sk.length-a:Nat):Int)=aa (eX (sk.take (sk.length-a))):=by
   rw[oB (by simp)];simp
  have e11:idx (eX (st++[s])++aiG m (0:Int)) (st.length:Int)=aa (s:Int):=by
   rw[aC (by simp)];rw[ajq (by simp)];simp
  have Tn:cz (eX (sk.take (sk.length-a))) [(s:Int)]=aa (eX (sk.take (sk.length-a)++[s])):=by
   rw[eJ (by simp;omega)];simp
  rw[Eu];simp only[aiA,e11,Tn]
  have hl:(eX (sk.take (sk.length-a)++[s])).length=sk.length-a+1:=by simp
  rw[hl];rw[aiI]at bD
  refine Wp.dec (λh=> .some ?_) λh=> .some ?_
  .rw[al (by omega)]at bD
   show _=_
   rw[<-bD]
  .rw[aj (by omega)]at bD;rw[aQ (by omega)];refine⟨⟨st++[s],sk.take (sk.length-a)++[s],?_,by simp;omega,by simp;omega,?_⟩,by grind⟩
   all_goals grind
inductive Ch(st:List Nat):Nat->List Nat->Prop
 |nil:Ch st 0 []
 |snoc {i s:Nat} {l:List Nat} (h:st[i]? =aa s) (hs:s<=i) (c:Ch st s l):Ch st (i+1) (l++[s])
def Ch.mono{st c9:List Nat}(hs:∀i s:Nat,st[i]? =aa s->c9[i]? =aa s){i:Nat}{l:List Nat}(h:Ch st i l):Ch c9 i l:=by
 induction h with
 |nil=>exact .nil
 |snoc h1 h2 _ ih=>exact .snoc (hs _ _ h1) h2 ih
def tc{st:List Nat}{x i s:Nat}(h:st[i]? =aa s):(st++[x])[i]? =aa s:=by
 grind
def Ch.lt{st:List Nat}{i:Nat}{l:List Nat}(h:Ch st i l):∀x∈l,x<i:=by
 induction h<;>grind
def Ch.take{st:List Nat}{i:Nat}{l:List Nat}(h:Ch st i l):∀m(hm:m<l.length),Ch st l[m] (l.take m):=by
 induction h<;>grind
def Ch.JR{st:List Nat}{i:Nat}{l l':List Nat}(h:Ch st i l)(h':Ch st i l'):l=l':=by
 induction h generalizing l' with
 |nil=>cases h'<;>grind
 | @snoc i s l h1 h2 c ih=>
   cases h'<;>grind
def Ch.pos{st:List Nat}{i:Nat}{l:List Nat}(h:Ch st i l)(hi:0<i):l≠[]:=by
 cases h<;>simp_all
structure DN(e:List Ty)(st:List Nat):Prop where
 len:st.length=e.length
 node:∀p(h:p<e.length),0<=ar e[p].1/\∃l,Ch st p l/\(ar e[p].1).toNat<=l.length/\l.length-(ar e[p].1).toNat+1<=12/\st[p]? =aa (p9 (ar e[p].1) p l)
theorem DN.nil:DN [] []:=⟨rfl,λp h=>by simp at h⟩
def DN.snoc{e:List Ty}{st:List Nat}(v:DN e st){n:Ty}{sk:List Nat}(h0:0<=ar n.1)(hc:Ch st e.length sk)(ha:(ar n.1).toNat<=sk.length)(hd:sk.length-(ar n.1).toNat+1<=12):DN (e++[n]) (st++[p9 (ar n.1) e.length sk]):=by
 refine⟨by simp[v.len],λp hp=>?_⟩;by_cases h:p<e.length
 .rw[ajq h];obtain⟨h1,l,h2,h3,h4,h5⟩:=v.node p h;exact⟨h1,l,h2.mono λ_ _ h=>tc h,h3,h4,tc h5⟩
 .have:p=e.length:=by simp at hp;omega
  subst this;rw[ajm (by omega)];simp only[Nat.sub_self,List.getElem_cons_zero];refine⟨h0,sk,hc.mono λ_ _ h=>tc h,ha,hd,?_⟩
  grind [P.DN.len]
def TP{a:Int}{i:Nat}{st l:List Nat}(h0:0<=a)(hc:Ch st i l)(ha:a.toNat<=l.length):p9 a i l<=i:=by
 unfold p9;split
 .grind
 .have aH:l.length-a.toNat<l.length:=by omega
  simp only[List.getD,aiE aH,Option.getD_some];exact ajT (hc.lt _ (aiF aH))
def Ch.next{st l:List Nat}{i:Nat}{a:Int}(h0:0<=a)(hc:Ch st i l)(ha:a.toNat<=l.length)(hs:st[i]? =aa (p9 a i l)):Ch st (i+1) (l.take (l.length-a.toNat)++[p9 a i l]):=by
 refine .snoc hs (TP h0 hc ha) ?_;unfold p9;by_cases h:a=0
 .simp_all
 .have aH:l.length-a.toNat<l.length:=by omega
  rw[aj h];simp only[List.getD,aiE aH,Option.getD_some];exact hc.take _ aH
def DO:∀(Ot pre:List Ty)(st sk c9 Ol:List Nat),DN pre st->Ch st pre.length sk->kq Ot pre.length st sk= .inr (c9,Ol)->DN (pre++Ot) c9/\Ch c9 (pre++Ot).length Ol
 |[],pre,st,sk,c9,Ol,v,c,h=>by
  grind [P.kq]
 |n::Ot,pre,st,sk,c9,Ol,v,c,h=>by
  rw[kq]at h;split at h
  .cases h
  split at h
  .cases h
  split at h
  .cases h
  rename_i h1 h2 h3
  have h0:0<=ar n.1:=by omega
  have ha:(ar n.1).toNat<=sk.length:=by omega
  have v':=v.snoc h0 c ha (by omega)
  have c1:Ch (st++[p9 (ar n.1) pre.length sk]) pre.length sk:=c.mono λ_ _ h=>tc h
  have hs:(st++[p9 (ar n.1) pre.length sk])[pre.length]? =aa (p9 (ar n.1) pre.length sk):=by
   rw[<-v.len,List.getElem?_append_right (by omega)];simp[v.len]
  have c':=c1.next h0 ha hs;have:=DO Ot (pre++[n]) _ _ c9 Ol v' (by simpa using c') (by simpa using h)
  grind
def DP{e:List Ty}{st:List Nat}(v:DN e st):∀(Ot pre:List Ty)(sk:List Nat),pre++Ot=e->Ch st pre.length sk->∃Ol,kq Ot pre.length (st.take pre.length) sk= .inr (st,Ol)/\Ch st e.length Ol
 |[],pre,sk,he,c=>by
  rw[List.append_nil]at he;subst he;exact⟨sk,by rw[kq,<-v.len,List.take_length],c⟩
 |n::Ot,pre,sk,he,c=>by
  subst he;obtain⟨h0,l,h1,h2,h3,h4⟩:=v.node pre.length (by simp);rw[ajm (by omega)]at h0 h2 h3 h4;simp only[Nat.sub_self,List.getElem_cons_zero]at h0 h2 h3 h4;obtain rfl:=h1.JR c;rw[kq,aj (by omega),aj (by omega),aj (by omega)];have c':=c.next h0 h2 h4;obtain⟨Ol,g1,g2⟩:=DP v Ot (pre++[n]) _ (by simp) (by simpa using c')
  grind [List.take_succ_eq_append_getElem]
end L.P
namespace L.P
def opsL(st:List Nat):Nat->Nat->List Nat
 |0,_=>[]
 |a+1,i=>opsL st a (st.getD (i-1) 0)++[i-1]
def jP(st:List Nat):∀a i,(opsL st a i).length=a
 |0,_=>rfl
 |a+1,i=>by simp[opsL,jP st a]
def Nu{st l:List Nat}{i:Nat}(c:Ch st i l):∀a,a<=l.length->(∀o∈opsL st a i,o<i/\(if h:l.length-a<l.length then l[l.length-a]else i)<=o/\∃s,st[o]? =aa s/\s<=o/\(if h:l.length-a<l.length then l[l.length-a]else i)<=s):=by
 induction c with
 |nil=>intro a ha o ho;simp at ha;subst ha;simp[opsL]at ho
 | @snoc i s l h1 h2 c ih=>
   intro a ha o ho
   cases a with
   |zero=>simp[opsL]at ho
   |succ a=>
    have aH:(l++[s]).length-(a+1)<(l++[s]).length:=by simp;omega
    rw[dif_pos aH]
    have e1:(l++[s])[(l++[s]).length-(a+1)]=(if h:l.length-a<l.length then l[l.length-a]else s):=by
     split
     .grind
     .grind
    rw[e1]
    have hg:st.getD (i+1-1) 0=s:=by simp[List.getD,h1]
    rw[opsL,hg]at ho;simp at ha
    have hle:(if h:l.length-a<l.length then l[l.length-a]else s)<=s:=by
     split
     .rename_i h;exact ajT (c.lt _ (aiF h))
     .exact aiH _
    grind
def DN.ops{e:List Ty}{st:List Nat}(v:DN e st){p:Nat}(h:p<e.length):∀o∈opsL st (ar e[p].1).toNat p,o<p/\∃s t,st[o]? =aa s/\s<=o/\st[p]? =aa t/\t<=s:=by
 obtain⟨h0,l,h1,h2,_,h4⟩:=v.node p h;intro o ho;obtain⟨g1,g2,s,g3,g4,g5⟩:=Nu h1 _ h2 o ho;refine⟨g1,s,_,g3,g4,h4,?_⟩
 grind [P.p9]
def z3:Vl:=((0,0,0):Int×Int×Int)
def iJ(g:Nat->Vl×Int):List Nat->List Vl⊕Int
 |[]=> .inl []
 |o::os=>if(g o).2=0 then(match iJ g os with
  | .inl vs=> .inl ((g o).1::vs)
  | .inr c=> .inr c)else .inr (g o).2
def iK(r:Vl×Int):Vl×Int:=if r.2≠0 then(z3,r.2)else if(r.1.1:Int)=1/\eY r.1.1 r.1.2.1 r.1.2.2 then(r.1,0)else(z3,8)
def Nv(g:Nat->Vl×Int)(n:Ty)(ops:List Nat):Vl×Int:=
 if(n.2:Int)≠0 then(z3,2)else
 if(iK (g (ops.getD 0 0))).2≠0 then(z3,(iK (g (ops.getD 0 0))).2)else
 if(n.1:Int)=26/\((iK (g (ops.getD 0 0))).1.2.2:Int)=1 then g (ops.getD 1 0)else
 if(n.1:Int)=26 then g (ops.getD 2 0)else
 if((n.1:Int)=23)=(((iK (g (ops.getD 0 0))).1.2.2:Int)=0)then((iK (g (ops.getD 0 0))).1,0)else iK (g (ops.getD 1 0))
def ni(op:Int):Prop:=op=23\/op=24\/op=26
instance(op:Int):Decidable (ni op):=by unfold ni;infer_instance
noncomputable def nk(ap:Ty->List Vl->Vl×Int)(e:List Ty)(st:List Nat):Nat->Nat->Vl×Int
 |0,_=>(z3,0)
 |f+1,i=>if ni (e.getD i ((0,0):Int×Int)).1 then Nv (nk ap e st f) (e.getD i ((0,0):Int×Int)) (opsL st (ar (e.getD i ((0,0):Int×Int)).1).toNat i)
  else match iJ (nk ap e st f) (opsL st (ar (e.getD i ((0,0):Int×Int)).1).toNat i)with
   | .inl vs=>ap (e.getD i ((0,0):Int×Int)) vs
   | .inr c=>(z3,c)
def DQ{e:List Ty}{st:List Nat}(v:DN e st)(hl:e.length<=100000)(env:eN.den){i:Nat}(hi:i<e.length):M.eC aU (e,(eX st,env)) (i:Int)=aa (eX (opsL st (ar e[i].1).toNat i)):=by
 apply Wp.eq;obtain⟨h0,l,hc,ha,hd,_⟩:=v.node i hi;unfold M.eC;simp only;rw[aC hi];simp only[aiA,nh]
 obtain⟨a,hea⟩:∃a:Nat,ar e[i].1=a:=⟨(ar e[i].1).toNat,by omega⟩
 have hle:=p8 e[i].1;rw[hea]at ha hle⊢;rw[aiI]at ha⊢
 have Pp:nu (a:Int) (0:Int)=aa (aiG a 0):=by
  unfold nu;rw[al (by omega),aiI]
 rw[Pp];simp only[aiA,List.length_replicate];refine Wp.loop (λs:Int×Int×List Int=>∃b p:Nat,∃dn l':List Nat,s=((p:Int)-1,(b:Int)-1,aiG b (0:Int)++eX dn)/\b<=a/\p<=i/\opsL st a i=opsL st b p++dn/\Ch st p l'/\b<=l'.length) (λs=>(s.2.1+1).toNat) ⟨a,i,[],l,?_,aiH _,aiH _,by simp,hc,ha⟩ ?_ ?_
 .rw[bH (by omega) (by omega),bH (by omega) (by omega)];simp
 .simp only;rw[bH (n:=(a:Int)-1) (by omega) (by omega)];unfold aU;omega
 .rintro _ ⟨b,p,dn,l',rfl,h1,h2,h3,h4,h5⟩
  simp only
  refine Wp.dec (λhb=>?_) λhb=> .some ?_
  .obtain⟨b,rfl⟩:∃m,b=m+1:=⟨b-1,by omega⟩
   cases h4 with
   |nil=>simp at h5
   | @snoc p u l' g1 g2 c=>
     simp at h5;have hp:p<st.length:=(aiP.1 g1).1
     have e5:idx (aiG (b+1) (0:Int)++eX dn) (((b+1:Nat):Int)-1)=aa 0:=by
      rw[show((b+1:Nat):Int)-1=(b:Int) by omega,aC (by simp;omega),ajq (by simp)];simp
     have e6:idx (eX st) (((p+1:Nat):Int)-1)=aa (u:Int):=by
      rw[show((p+1:Nat):Int)-1=(p:Int) by omega,aC (by simpa using hp)];have:=(aiP.1 g1).2;simp[this]
     rw[e5,e6];simp only[aiA];rw[bH (n:=(u:Int)-1) (by omega) (by omega),bH (n:=(((b+1:Nat):Int)-1)-1) (by omega) (by omega)];refine .some ⟨⟨b,u,p::dn,l',?_,by omega,by omega,?_,c,h5⟩,by simp only;omega⟩
     .have e7:bg (aiG (b+1) (0:Int)++eX dn) (((b+1:Nat):Int)-1) (((p+1:Nat):Int)-1)=aiG b (0:Int)++eX (p::dn):=by
       unfold bg;rw[show(((b+1:Nat):Int)-1).toNat=b by omega,show((p+1:Nat):Int)-1=(p:Int) by omega,List.replicate_succ',List.append_assoc,List.set_append_right _ _ (by simp)];simp
      rw[e7];simp only[Prod.mk.injEq,and_true,true_and];omega
     .rw[h3,opsL]
      have:st.getD (p+1-1) 0=u:=by simp[List.getD,g1]
      rw[this];simp
  .obtain rfl:b=0:=by omega
   show _=_
   rw[h3];simp[opsL]
noncomputable def Kc(env:eN.den)(n:Ty)(args:List Vl):Vl×Int:=(M.fu aU n args env).getD (z3,0)
def Xa{env:eN.den}(he:lv env){n:Ty}(hn:WF az n){args:List Vl}(hl:args.length<=100000):M.fu aU n args env=aa (Kc env n args):=by
 obtain⟨r,hr,_⟩:=Nt (n:=n) (args:=args) he hn hl;unfold Kc;rw[hr];rfl
def xy{N:Nat}{x:bK.den}{o:Int}{r:Vl×Int}(h:M.bQ aU N x o=aa r):M.dm aU (N+1) x o=aa (iK r):=by
 unfold M.dm iK;rw[h];simp only[aiA,dI];by_cases h0:r.2=0
 .by_cases h1:(r.1.1:Int)=1
  .by_cases h2:eY r.1.1 r.1.2.1 r.1.2.2
   .rw[h1]at h2;simp[h0,h1,h2]
   .rw[h1]at h2;simp[h0,h1,h2,z3]
  .simp[h0,h1,z3]
 .simp[h0,z3]
def qn{g:Nat->Vl×Int}:∀(os:List Nat)(k:Nat),k<=os.length->∀vs,iJ g (os.take k)= .inl vs->iJ g os=(match iJ g (os.drop k)with
 | .inl ws=> .inl (vs++ws)
 | .inr c=> .inr c)
 |os,0,_,vs,h=>by
  grind [P.iJ]
 |[],k+1,h,_,_=>by simp at h
 |o::os,k+1,hk,vs,h=>by
  rw[List.take_succ_cons,iJ]at h;split at h
  .rename_i h0
   cases hq:iJ g (os.take k)with
   |inr c=>rw[hq]at h;cases h
   |inl ws=>
    rw[hq]at h;cases h;have:=qn os k (by simpa using hk) ws hq;rw[iJ,al h0,this,List.drop_succ_cons]
    cases iJ g (os.drop k)<;>rfl
  .cases h
def Qe{e:List Ty}{st:List Nat}(v:DN e st)(hl:e.length<=100000){env:eN.den}(he:lv env)(hw:∀n∈e,WF az n):∀(f N i:Nat),i<f->i<e.length->3*f<=N->M.bQ aU N (e,(eX st,env)) (i:Int)=aa (nk (Kc env) e st f i):=by
 intro f
 induction f with
 |zero=>intro N i h;omega
 |succ f ih=>
  intro N i hif hi hN
  obtain⟨N,rfl⟩:∃m,N=m+3:=⟨N-3,by omega⟩
  have abO:=v.ops hi
  have hge:e.getD i ((0,0):Int×Int)=e[i]:=by simp[List.getD,hi]
  have hlen:=jP st (ar e[i].1).toNat i;have Uo:=p8 e[i].1
  have DS:∀M',3*f<=M'->∀o∈opsL st (ar e[i].1).toNat i,M.bQ aU M' (e,(eX st,env)) (o:Int)=aa (nk (Kc env) e st f o):=by
   intro M' hM' o ho;obtain⟨g1,_⟩:=abO o ho;exact ih M' o (by omega) (by omega) hM'
  unfold nk M.bQ;rw[hge,DQ v hl env hi];simp only;rw[aC hi];simp only[aiA];rw[Np];simp only[aiA];have Ut:=hw e[i] (aiF hi);generalize agE:opsL st (ar e[i].1).toNat i=ops at*;by_cases hz:ni e[i].1
  .rw[al hz,al (by simpa[ni]using hz)]
   have ha2:2<=ops.length/\((e[i].1:Int)=26->3<=ops.length):=by
    have:2<=ar e[i].1/\((e[i].1:Int)=26->ar e[i].1=3):=by
     revert hz;generalize(e[i].1:Int)=op;intro hz
     rcases hz with rfl|rfl|rfl<;>decide
    refine⟨by omega,λh=>?_⟩;have:=this.2 h;omega
   have gd:∀k(hk:k<ops.length),idx (eX ops) (k:Int)=aa ((ops.getD k 0:Nat):Int)/\ops.getD k 0∈ops:=by
    intro k hk
    have:ops.getD k 0=ops[k]:=by simp[List.getD,hk]
    rw[this];refine⟨?_,aiF hk⟩;rw[aC (by simpa using hk)];simp
   obtain⟨i0,m0⟩:=gd 0 (by omega);obtain⟨i1,m1⟩:=gd 1 (by omega);unfold M.iz;rw[show((0:Nat):Int)=0 from rfl]at i0;rw[show((1:Nat):Int)=1 from rfl]at i1;rw[i0,i1];simp only[aiA];rw[xy (DS N (by omega) _ m0),xy (DS N (by omega) _ m1),DS (N+1) (by omega) _ m1];simp only[aiA,bi,mB];unfold Nv;generalize hb:iK (nk (Kc env) e st f (ops.getD 0 0))=b;by_cases h2:(e[i].2:Int)=0
   .rw[aj (by simp[h2])];by_cases Q9:b.2=0
    .rw[aj (by simp[Q9])];by_cases X2:(e[i].1:Int)=26
     .obtain⟨i2,m2⟩:=gd 2 (by have:=ha2.2 X2;omega);rw[show((2:Nat):Int)=2 from rfl]at i2;rw[i2];simp only[aiA];rw[DS (N+1) (by omega) _ m2];by_cases hn:(b.1.2.2:Int)=1
      .simp[h2,Q9,X2,hn]
      .simp[h2,Q9,X2,hn]
     .by_cases h23:(e[i].1:Int)=23<;>by_cases hn:(b.1.2.2:Int)=0<;>simp[h2,Q9,X2,h23,hn]
    .simp[h2,Q9,z3]
   .simp[h2,z3]
  .rw[aj hz,aj (by simpa[ni]using hz)]
   have Pp:nu ((eX ops).length:Int) ((0:Int),((0:Int),(0:Int)))=aa (aiG ops.length z3):=by
    unfold nu;rw[al (by simp;omega)];simp[z3]
   rw[Pp];simp only[aiA];apply Wp.eq;refine Wp.join (Wp.loop (λs:Int×List Vl=>∃vs:List Vl,s=((vs.length:Int),vs++aiG (ops.length-vs.length) z3)/\vs.length<=ops.length/\iJ (nk (Kc env) e st f) (ops.take vs.length)= .inl vs) (λs=>(ops.length-s.1).toNat) ⟨[],by simp,by simp,by simp[iJ]⟩ (by simp only;unfold aU;omega) ?_)
   rintro _ ⟨vs,rfl,Yo,hva⟩
   simp only;have u7:=qn ops vs.length Yo vs hva
   refine Wp.dec (λhk=>?_) λhk=> .some ?_
   .have kG:vs.length<ops.length:=by simp at hk;omega
    have abP:vs.length<(eX ops).length:=by simpa using kG
    rw[aC abP];simp only[aiA,List.getElem_map];rw[DS (N+2) (by omega) _ (aiF kG)];simp only[aiA];have hd:ops.drop vs.length=ops[vs.length]::ops.drop (vs.length+1):=aiN kG;rw[hd,iJ]at u7;have ht:ops.take (vs.length+1)=ops.take vs.length++[ops[vs.length]]:=List.take_succ_eq_append_getElem kG
    obtain⟨r,hr⟩:∃r,nk (Kc env) e st f ops[vs.length]=r:=⟨_,rfl⟩
    rw[hr]at u7⊢;by_cases h0:r.2=0
    .rw[aj (by simp[h0])]
     obtain⟨m,hm⟩:∃m,ops.length-vs.length=m+1:=⟨ops.length-vs.length-1,by omega⟩
     rw[hm]
     have e8:idx (vs++aiG (m+1) z3) (vs.length:Int)=aa z3:=by
      rw[aC (by simp),ajm (by omega)];simp
     have e9:bg (vs++aiG (m+1) z3) (vs.length:Int) r.1=(vs++[r.1])++aiG m z3:=by
      unfold bg;rw[aiI,List.set_append_right _ _ (by omega),List.replicate_succ];simp
     rw[e8];simp only[aiA,e9];rw[aQ (by omega)]
     have lW:iJ (nk (Kc env) e st f) [ops[vs.length]]= .inl [r.1]:=by
      simp only[iJ,hr];rw[al h0]
     have OM:=qn (g:=nk (Kc env) e st f) (ops.take (vs.length+1)) vs.length (by simp;omega) vs (by rw[List.take_take,ajD (by omega)];exact hva);rw[ht,List.drop_append_of_le_length (by simp;omega),List.drop_of_length_le (by simp;omega),List.nil_append,lW]at OM;refine .some ⟨⟨vs++[r.1],?_,by simp;omega,?_⟩,by simp only;omega⟩
     .have:ops.length-(vs++[r.1]).length=m:=by simp;omega
      rw[this];simp
     .rw[show(vs++[r.1]).length=vs.length+1 by simp,ht];exact OM
    .rw[al (by simp[h0])];rw[aj h0]at u7;refine .some ?_
     show _=_
     rw[u7];rfl
   .have XQ:ops.drop vs.length=[]:=List.drop_of_length_le (by simp at hk;omega);rw[XQ,iJ]at u7;rw[u7]
    have h0:ops.length-vs.length=0:=by simp at hk;omega
    rw[h0];simp only[List.replicate_zero,List.append_nil]
    show Wp ((M.fu aU e[i] vs env).bind λQa=>aa (Qa.1,Qa.2)) _
    rw[Xa he Ut (by omega)];exact .some rfl
end L.P
namespace L.P
structure Whole(e:List Ty)(st:List Nat):Prop where
 val:DN e st
 ne:e≠[]
 le:e.length<=48
 one:st[e.length-1]? =aa 0
 res:q8 e=(0,0,eX st)
def zL:∀(e:List Ty)(i:Nat)(st sk:List Nat)(j:Nat)(c:Int),kq e i st sk= .inl (j,c)->c=2\/c=5\/c=16
 |[],_,_,_,_,_,h=>by rw[kq]at h;cases h
 |n::e,i,st,sk,j,c,h=>by
  rw[kq]at h;split at h
  .cases h;exact .inl rfl
  split at h
  .cases h;exact .inr (.inl rfl)
  split at h
  .cases h;exact .inr (.inr rfl)
  exact zL e _ _ _ j c h
def Ch.Qf{st l:List Nat}{n:Nat}(h:Ch st n l)(hl:l=[]):n=0:=by
 cases h with
 |nil=>rfl
 |snoc=>simp at hl
def Ch.Nw{st l:List Nat}{n:Nat}(h:Ch st n l)(hl:n=0):l=[]:=by
 cases h with
 |nil=>rfl
 |snoc=>omega
def Ch.one{st l:List Nat}{n:Nat}(h:Ch st n l)(hn:0<n):l.length<=1↔st[n-1]? =aa 0:=by
 cases h with
 |nil=>omega
 | @snoc i s l h1 h2 c=>
   rw[Nat.add_sub_cancel,h1];constructor
   .intro hl;have:l=[]:=List.length_eq_zero_iff.1 (by rw[List.length_append,List.length_singleton]at hl;omega);rw[c.Qf this]
   .intro hs
    have h0:s=0:=by simpa using hs
    rw[h0]at c;rw[c.Nw rfl];simp
def Nx{e:List Ty}{st:List Nat}(v:DN e st)(dA:e≠[])(hl:e.length<=48)(h1:st[e.length-1]? =aa 0):Whole e st:=by
 have pw:0<e.length:=List.length_pos_iff.2 dA;refine⟨v,dA,hl,h1,?_⟩;obtain⟨sk,g1,g2⟩:=DP v e [] [] rfl .nil;simp only[List.length_nil,List.take_zero]at g1;unfold q8;rw[aj (by omega),aj (by omega),g1];simp only;rw[aj];have:=(g2.one pw).2 h1;omega
def xz(e:List Ty):(q8 e).2.1≠0\/∃st,Whole e st:=by
 unfold q8;split
 .left;show(4:Int)≠0;decide
 rename_i hl;split
 .left;show(5:Int)≠0;decide
 rename_i dA
 cases hs:kq e 0 [] []with
 |inl p=>
  left
  obtain⟨j,c⟩:=p
  show c≠0
  have:=zL _ _ _ _ _ _ hs;omega
 |inr p=>
  obtain⟨st,sk⟩:=p;obtain⟨v,c⟩:=DO e [] [] [] st sk DN.nil .nil hs;simp only[List.nil_append]at v c;by_cases h1:1<sk.length
  .left
   simp only[al h1];decide
  .right
   exact⟨st,Nx v (λh=>dA (by rw[h];rfl)) (by omega) ((c.one (by omega)).1 (by omega))⟩
def xA{e:List Ty}{st:List Nat}(w:Whole e st){env:eN.den}(he:lv env)(hw:∀n∈e,WF az n):M.dW aU e env=aa (nk (Kc env) e st e.length (e.length-1)):=by
 have pw:0<e.length:=List.length_pos_iff.2 w.ne;have hle:=w.le;unfold M.dW M.nF;rw[pe,w.res];simp only[aiA];rw[aj (by simp)];unfold M.jD;rw[show aiB.wrap ((e.length:Int)-1)=((e.length-1:Nat):Int) by rw[bH (by omega) (by omega)];omega];rw[Qe w.val (by omega) he hw e.length aU (e.length-1) (by omega) (by omega) (by unfold aU;omega)];rfl
def Ny{e:List Ty}(h:(q8 e).2.1≠0)(env:eN.den):M.dW aU e env=aa (z3,(q8 e).2.1):=by
 unfold M.dW M.nF;rw[pe];simp only[aiA];rw[al (by simp[h])];rfl
end L.P
namespace L.P
end L.P
namespace L.P
abbrev Sg:Type:=bI.den
def us(op:Int):Prop:=(1<=op/\op<=8)\/(14<=op/\op<=16)\/op=33\/op=34\/(36<=op/\op<=39)
def Hz(N:Nat)(op:Int):Wp (M.gP N op) λb=>b=af↔us op:=by
 by_cases h:us op
 .have:op=1\/op=2\/op=3\/op=4\/op=5\/op=6\/op=7\/op=8\/op=14\/op=15\/op=16\/op=33\/op=34\/op=36\/op=37\/op=38\/op=39:=by unfold us at h;omega
  refine⟨af,?_,by simp[h]⟩
  rcases this with rfl|rfl|rfl|rfl|rfl|rfl|rfl|rfl|rfl|rfl|rfl|rfl|rfl|rfl|rfl|rfl|rfl<;>(show(_:Option Bool)=_;kernel_rfl)
 .refine⟨ah,?_,by simp[h]⟩
  have ne:∀k:Int,us k->decide (op=k)=ah:=(by grind)
  unfold M.gP;rw[ne 1 (by unfold us;omega),ne 2 (by unfold us;omega),ne 3 (by unfold us;omega),ne 4 (by unfold us;omega),ne 5 (by unfold us;omega),ne 6 (by unfold us;omega),ne 7 (by unfold us;omega),ne 8 (by unfold us;omega),ne 14 (by unfold us;omega),ne 15 (by unfold us;omega),ne 16 (by unfold us;omega),ne 33 (by unfold us;omega),ne 34 (by unfold us;omega),ne 36 (by unfold us;omega),ne 37 (by unfold us;omega),ne 38 (by unfold us;omega),ne 39 (by unfold us;omega)];rfl
abbrev HA(k:Int):Prop:=k=2\/k=3\/k=4
def qp(N:Nat)(k:Int):M.dC N k=aa (decide (HA k)):=by
 unfold M.dC HA
 grind
def HB(N:Nat)(m:Int):M.fx N m=aa (decide (0<=m/\m<=5)):=by
 grind [M.fx]
def RT(op:Int)(ts:List Ty)(t:Ty):Prop:=
 (op=10/\∃a:Ty,ts=[a]/\HA a.1/\t=a)\/
 (op=25/\∃a:Ty,ts=[a]/\(a.1:Int)=1/\t=((1:Int),(0:Int)))\/
 ((op=31\/op=32)/\∃a:Ty,ts=[a]/\(a.1:Int)=5/\t=((2:Int),(0:Int)))\/
 ((op=11\/op=12)/\∃a:Ty,ts=[a,a]/\HA a.1/\t=a)\/
 (op=13/\∃a b:Ty,ts=[a,b]/\(b.1:Int)=2/\((a.1:Int)=2\/(a.1:Int)=3)/\t=(a.1,(0:Int)))\/
 (op=14/\∃a b:Ty,ts=[a,b]/\(b.1:Int)=4/\((a.1:Int)=3\/(a.1:Int)=4)/\t=(a.1,(0:Int)))\/
 (op=15/\∃a b:Ty,ts=[a,b]/\(((b.1:Int)=2/\((a.1:Int)=2\/(a.1:Int)=3)/\t=(a.1,(0:Int)))\/((a.1:Int)=3/\(b.1:Int)=3/\t=((4:Int),(0:Int)))))\/
 (op=16/\∃a b:Ty,ts=[a,b]/\(a.1:Int)=3/\(b.1:Int)=3/\t=a)\/
 ((op=17\/op=18)/\∃a:Ty,ts=[a,a]/\(HA a.1\/(a.1:Int)=5)/\t=a)\/
 ((op=19\/op=20)/\∃a:Ty,ts=[a,a]/\t=((1:Int),(0:Int)))\/
 ((op=21\/op=22)/\∃a:Ty,ts=[a,a]/\(HA a.1\/(a.1:Int)=5)/\t=((1:Int),(0:Int)))\/
 ((op=23\/op=24)/\∃a b:Ty,ts=[a,b]/\(a.1:Int)=1/\(b.1:Int)=1/\t=((1:Int),(0:Int)))\/
 (op=26/\∃a b:Ty,ts=[a,b,b]/\(a.1:Int)=1/\t=b)\/
 ((op=27\/op=28)/\∃a b:Ty,ts=[a,b]/\(a.1:Int)=5/\(b.1:Int)=2/\t=a)\/
 ((op=29\/op=30)/\∃a b:Ty,ts=[a,b]/\(a.1:Int)=5/\(b.1:Int)=5/\t=((2:Int),(0:Int)))
def AQ(a b:Ty):lA az a b=decide (a=b):=by
 grind [lA]
def mM{α:Type}{a:α}{l:List α}:idx (a::l) (0:Int)=aa a:=rfl
def td{α:Type}{a b:α}{l:List α}:idx (a::b::l) (1:Int)=aa b:=rfl
def TQ{α:Type}{a b c:α}{l:List α}:idx (a::b::c::l) (2:Int)=aa c:=rfl
def Xb{α:Type}{l:List α}(h:l.length=1):∃a,l=[a]:=by
 match l,h with
 |[a],_=>grind
def Xc{α:Type}{l:List α}(h:l.length=2):∃a b,l=[a,b]:=by
 match l,h with
 |[a,b],_=>grind
def Xd{α:Type}{l:List α}(h:l.length=3):∃a b c,l=[a,b,c]:=by
 match l,h with
 |[a,b,c],_=>grind
def Gm(N:Nat)(op:Int)(a b:Int):Wp (M.gA N op a b) λr=>r.2=af->(op=14/\b=4/\(a=3\/a=4)/\r.1=(a,(0:Int)))\/(op≠14/\b=2/\(a=2\/a=3)/\r.1=(a,(0:Int)))\/(op=15/\a=3/\b=3/\r.1=((4:Int),(0:Int))):=by
 unfold M.gA
 refine Wp.dec (λh=>?_) λh=>?_
 .by_cases h1:b=4
  .by_cases h2:a=3
   .simp only[ao h1,ao h2,if_true,aiA];exact .some λ_=> .inl ⟨h,h1, .inl h2,rfl⟩
   .simp only[ao h1,aq h2,if_true,aiK,if_false,aiA];exact .some (by grind)
  .simp only[aq h1,aiK,if_false,aiA];exact .some λh=>by cases h
 .refine Wp.dec (λh1=>?_) λh1=>?_
  .by_cases h2:a=2
   .simp only[ao h2,if_true,aiA];exact .some (by grind)
   .simp only[aq h2,aiK,if_false,aiA];exact .some (by grind)
  .by_cases h3:op=15/\a=3/\b=3
   .obtain⟨g1,g2,g3⟩:=h3;simp only[ao g1,ao g2,ao g3,if_true,aiA];exact .some (by grind)
   .have:(if decide (op=15)=af then(if decide (a=3)=af then aa (decide (b=3))else aa ah)else aa ah)=aa ah:=by
     by_cases g1:op=15<;>by_cases g2:a=3<;>by_cases g3:b=3<;>simp_all
    rw[this]
    exact .some λh=>by cases h
def Kd(N:Nat)(op:Int)(ts:List Ty)(hl:(ts.length:Int)=ar op):Wp (M.cB N op ts) λr=>r.2=af->RT op ts r.1:=by
 unfold M.cB
 have one:ar op=1->∃a,ts=[a]:=λh=>Xb (by omega)
 have two:ar op=2->∃a b,ts=[a,b]:=λh=>Xc (by omega)
 refine Wp.dec (λh=>?_) λh1=>?_
 .obtain⟨a,rfl⟩:=one (by rw[h];rfl);simp only[mM,aiA,qp]
  exact .some λh'=> .inl ⟨h,a,rfl,by simpa using h',rfl⟩
 refine Wp.dec (λh=>?_) λh2=>?_
 .obtain⟨a,rfl⟩:=one (by rw[h];rfl);simp only[mM,aiA]
  exact .some λh'=> .inr (.inl ⟨h,a,rfl,by simpa using h',rfl⟩)
 rw[rc];simp only[aiA]
 refine Wp.dec (λh=>?_) λh3=>?_
 .obtain⟨a,b,rfl⟩:=two (by rcases h with h|h<;>rw[h]<;>rfl);simp only[mM,td,aiA,qp,AQ];by_cases yD:a=b
  .subst yD;simp only[decide_true,if_true,aiA]
   exact .some λh'=> .inr (.inr (.inr (.inl ⟨h,a,rfl,by simpa using h',rfl⟩)))
  .simp only[aq yD,aiK,if_false,aiA]
   exact .some λh'=>by cases h'
 rw[Np];simp only[aiA]
 refine Wp.dec (λh=>?_) λh4=>?_
 .obtain⟨a,b,rfl⟩:=two (by rcases h with h|h|h<;>rw[h]<;>rfl);simp only[mM,td,aiA]
  refine Wp.seq _ (Gm ..) λr hr=> .some λh'=>?_
  rcases hr h' with⟨g1,g2,g3,g4⟩|⟨g1,g2,g3,g4⟩|⟨g1,g2,g3,g4⟩
  .exact .inr (.inr (.inr (.inr (.inr (.inl ⟨g1,a,b,rfl,g2,g3,g4⟩)))))
  .rcases h with h|h|h
   .exact .inr (.inr (.inr (.inr (.inl ⟨h,a,b,rfl,g2,g3,g4⟩))))
   .exact absurd h g1
   .exact .inr (.inr (.inr (.inr (.inr (.inr (.inl ⟨h,a,b,rfl, .inl ⟨g2,g3,g4⟩⟩))))))
  .exact .inr (.inr (.inr (.inr (.inr (.inr (.inl ⟨g1,a,b,rfl, .inr ⟨g2,g3,g4⟩⟩))))))
 refine Wp.dec (λh=>?_) λh5=>?_
 .obtain⟨a,b,rfl⟩:=two (by rw[h];rfl);simp only[mM,td,aiA];by_cases g1:(a.1:Int)=3
  .simp only[ao g1,if_true,aiA]
   exact .some λh'=> .inr (.inr (.inr (.inr (.inr (.inr (.inr (.inl ⟨h,a,b,rfl,g1,by simpa using h',rfl⟩)))))))
  .simp only[aq g1,aiK,if_false,aiA]
   exact .some λh'=>by cases h'
 rw[rc];simp only[aiA]
 refine Wp.dec (λh=>?_) λh6=>?_
 .obtain⟨a,b,rfl⟩:=two (by rcases h with h|h<;>rw[h]<;>rfl);simp only[mM,td,aiA,qp,AQ];by_cases yD:a=b
  .subst yD;simp only[decide_true,if_true]
   have mk:(HA a.1\/(a.1:Int)=5)->RT op [a,a] a:=λh'=> .inr (.inr (.inr (.inr (.inr (.inr (.inr (.inr (.inl ⟨h,a,rfl,h',rfl⟩))))))))
   by_cases hn:HA a.1
   .simp only[ao hn,if_true,aiA]
    exact .some λ_=>mk (.inl hn)
   .simp only[aq hn,aiK,if_false,aiA]
    exact .some λh'=>mk (.inr (by simpa using h'))
  .simp only[aq yD,aiK,if_false,aiA]
   exact .some λh'=>by cases h'
 rw[rc];simp only[aiA]
 refine Wp.dec (λh=>?_) λh7=>?_
 .obtain⟨a,b,rfl⟩:=two (by rcases h with h|h<;>rw[h]<;>rfl);simp only[mM,td,aiA,AQ]
  refine .some λh'=> .inr (.inr (.inr (.inr (.inr (.inr (.inr (.inr (.inr (.inl ⟨h,a,?_,rfl⟩)))))))))
  have:a=b:=by simpa using h'
  rw[this]
 rw[rc];simp only[aiA]
 refine Wp.dec (λh=>?_) λh8=>?_
 .obtain⟨a,b,rfl⟩:=two (by rcases h with h|h<;>rw[h]<;>rfl);simp only[mM,td,aiA,qp,AQ];by_cases yD:a=b
  .subst yD;simp only[decide_true,if_true]
   have mk:(HA a.1\/(a.1:Int)=5)->RT op [a,a] ((1:Int),(0:Int)):=λh'=> .inr (.inr (.inr (.inr (.inr (.inr (.inr (.inr (.inr (.inr (.inl ⟨h,a,rfl,h',rfl⟩))))))))))
   by_cases hn:HA a.1
   .simp only[ao hn,if_true,aiA]
    exact .some λ_=>mk (.inl hn)
   .simp only[aq hn,aiK,if_false,aiA]
    exact .some λh'=>mk (.inr (by simpa using h'))
  .simp only[aq yD,aiK,if_false,aiA]
   exact .some λh'=>by cases h'
 rw[rc];simp only[aiA]
 refine Wp.dec (λh=>?_) λh9=>?_
 .obtain⟨a,b,rfl⟩:=two (by rcases h with h|h<;>rw[h]<;>rfl);simp only[mM,td,aiA];by_cases g1:(a.1:Int)=1
  .simp only[ao g1,if_true,aiA]
   exact .some λh'=> .inr (.inr (.inr (.inr (.inr (.inr (.inr (.inr (.inr (.inr (.inr (.inl ⟨h,a,b,rfl,g1,by simpa using h',rfl⟩)))))))))))
  .simp only[aq g1,aiK,if_false,aiA]
   exact .some λh'=>by cases h'
 refine Wp.dec (λh=>?_) λh10=>?_
 .obtain⟨a,b,c,rfl⟩:=Xd (l:=ts) (by rw[h]at hl;have:ar 26=3:=rfl;omega);simp only[mM,td,TQ,aiA,AQ];by_cases g1:(a.1:Int)=1
  .simp only[ao g1,if_true,aiA]
   refine .some λh'=> .inr (.inr (.inr (.inr (.inr (.inr (.inr (.inr (.inr (.inr (.inr (.inr (.inl ⟨h,a,b,?_,g1,rfl⟩))))))))))))
   have:b=c:=by simpa using h'
   rw[this]
  .simp only[aq g1,aiK,if_false,aiA]
   exact .some λh'=>by cases h'
 rw[rc];simp only[aiA]
 refine Wp.dec (λh=>?_) λh11=>?_
 .obtain⟨a,b,rfl⟩:=two (by rcases h with h|h<;>rw[h]<;>rfl);simp only[mM,td,aiA];by_cases g1:(a.1:Int)=5
  .simp only[ao g1,if_true,aiA]
   exact .some λh'=> .inr (.inr (.inr (.inr (.inr (.inr (.inr (.inr (.inr (.inr (.inr (.inr (.inr (.inl ⟨h,a,b,rfl,g1,by simpa using h',rfl⟩)))))))))))))
  .simp only[aq g1,aiK,if_false,aiA]
   exact .some λh'=>by cases h'
 rw[rc];simp only[aiA]
 refine Wp.dec (λh=>?_) λh12=>?_
 .obtain⟨a,b,rfl⟩:=two (by rcases h with h|h<;>rw[h]<;>rfl);simp only[mM,td,aiA];by_cases g1:(a.1:Int)=5
  .simp only[ao g1,if_true,aiA]
   exact .some λh'=> .inr (.inr (.inr (.inr (.inr (.inr (.inr (.inr (.inr (.inr (.inr (.inr (.inr (.inr ⟨h,a,b,rfl,g1,by simpa using h',rfl⟩)))))))))))))
  .simp only[aq g1,aiK,if_false,aiA]
   exact .some λh'=>by cases h'
 rw[rc];simp only[aiA]
 refine Wp.dec (λh=>?_) λVx=> .some λh'=>by cases h'
 .obtain⟨a,rfl⟩:=one (by rcases h with h|h<;>rw[h]<;>rfl);simp only[mM,aiA]
  exact .some λh'=> .inr (.inr (.inl ⟨h,a,rfl,by simpa using h',rfl⟩))
def lq(t:Ty)(n:Nat):Prop:=(1<=(t.1:Int)/\(t.1:Int)<=5/\(t.2:Int)=0)\/((t.1:Int)=6/\0<=(t.2:Int)/\(t.2:Int)<n)
instance(t:Ty)(n:Nat):Decidable (lq t n):=by unfold lq;exact inferInstance
def xB(N:Nat)(t:Ty)(E:List dL.den):M.cm N t E=aa (decide (lq t E.length)):=by
 obtain⟨(k:Int),(u:Int)⟩:=t;unfold M.cm;dsimp only[aA,Row.den];rw[DK];simp only[aiA]
 grind [P.lq]
def nl(N:Nat)(n k:Int)(s:Sg)(hk:1<=k/\k<=5):Wp (M.cF N n k s) λr=>r.2=0->r.1=(k,(0:Int)):=by
 unfold M.cF
 refine Wp.seq (λ_=>True) ?_ λy _=>?_
 .unfold M.fS;dsimp only[aA,Row.den];rw[xB];simp only[aiA]
  refine Wp.ite (λ_=> .some trivial) λ_=>?_
  refine Wp.dec (λ_=> .some trivial) λ_=>?_
  refine Wp.dec (λ_=> .some trivial) λ_=>?_
  refine Wp.dec (λ_=> .some trivial) λ_=>?_
  refine Wp.dec (λ_=> .some trivial) λ_=>?_
  refine Wp.dec (λ_=> .some trivial) λ_=>by omega
 refine Wp.seq (λ_=>True) (Wp.ite (λ_=> .some trivial) λ_=> .some trivial) λj _=>?_
 refine Wp.ite (λ_=> .some ?_) λ_=> .some ?_
 all_goals grind
def Qg(N:Nat)(m:Int)(hm:m<=9223372036854775807)(s:Sg):Wp (M.bR N m s) λr=>r.2=0->0<=m/\r.1=((6:Int),aiB.wrap (aiR m 16)):=by
 unfold M.bR
 refine Wp.dec (λ_=> .some λh=>by cases h) λh0=>?_
 have e:aiR m 16=m/16:=Int.tdiv_eq_ediv_of_nonneg (by omega)
 have w:aiB.wrap (aiR m 16)=m/16:=by rw[e,bH (by omega) (by omega)]
 refine Wp.seq (λ_=>True) ?_ λj _=>Wp.ite (λ_=> .some λh=>by cases h) λ_=> .some λ_=>⟨by omega,rfl⟩
 refine Wp.dec (λ_=> .some trivial) λh1=>?_
 rw[w]at h1⊢
 exact Wp.seq (λ_=>True) (Wp.ff (by omega) (by omega) λ_ _ _=>trivial) λ_ _=> .some trivial
def X3(n:Int)(ts:List Ty)(s:Sg)(t:Ty):Prop:=∃k:Nat,n=k/\ts[k]? =aa t/\lq t s.1.length
def ux(N:Nat)(n:Int)(ts:List Ty)(s:Sg):Wp (M.dQ N n ts s) λr=>r.2=0->X3 n ts s r.1:=by
 unfold M.dQ;simp only[bi,aiA,rb]
 refine Wp.ite (λ_=> .some λh=>by cases h) λh=>?_
 simp only[Bool.or_eq_true,ax,not_or]at h
 obtain⟨k,rfl⟩:∃k:Nat,n=k:=⟨n.toNat,by omega⟩
 have hk:k<ts.length:=by omega
 rw[aC hk];simp only[aiA,xB]
 refine Wp.ite (λ_=> .some λh=>by cases h) λhv=> .some λ_=>⟨k,rfl,aiE hk,by grind⟩
def Tb(op m:Int)(a:Ty)(s:Sg)(t:Ty):Prop:=∃(k:Nat)(T:aT.den),s.2.1[k]? =aa T/\lq T.2.1 s.1.length/\lq T.2.2.1 s.1.length/\a=T.2.1/\((op=34/\0<=m/\0<=ai3 m 8/\ai3 m 8<=5/\aiB.wrap (aiR m 8)=k/\(T.2.1.1:Int)=3/\(T.2.2.1.1:Int)=4/\t=T.2.1)\/(op≠34/\m=k/\t=T.2.2.1))
def Nz(N:Nat)(op m:Int)(a:Ty)(s:Sg):Wp (M.gz N (op,m) a s) λr=>r.2=0->Tb op m a s r.1:=by
 unfold M.gz;dsimp only[aA,Row.den];refine Wp.join (Wp.mono (Q:=λx=>(∃j,x=Sum.inl j/\((op=34/\0<=m/\0<=ai3 m 8/\ai3 m 8<=5/\aiB.wrap (aiR m 8)=j)\/(op≠34/\m=j)))\/∃r,x=ajy r/\r.2≠0) ?_ ?_)
 .refine Wp.dec (λh=>?_) λh=> .some (.inl ⟨_,rfl, .inr ⟨h,rfl⟩⟩)
  rw[HB];simp only[aiA]
  refine Wp.seq (λj=>j=ah->0<=m/\0<=ai3 m 8/\ai3 m 8<=5) ?_ λj hj=>?_
  .refine Wp.dec (λ_=> .some λh=>by cases h) λh=> .some λh'=>⟨by omega,?_⟩
   grind
  .refine Wp.ite (λ_=> .some (.inr ⟨_,rfl,by simp⟩)) λhc=>?_
   obtain⟨g1,g2,g3⟩:=hj (by simpa using hc);exact .some (by grind)
 rintro _ (⟨j,rfl,hj⟩|⟨r,rfl,hr⟩)
 case inr=>exact λh=>absurd h hr
 show Wp _ _
 refine Wp.seq (λb=>b=ah->0<=j/\j<s.2.1.length) ?_ λb hb=>?_
 .exact Wp.dec (λ_=> .some λh=>by cases h) λh=> .some λh'=>by grind
 refine Wp.ite (λ_=> .some λh=>by cases h) λhc=>?_
 obtain⟨j0,j1⟩:=hb (by simpa using hc)
 obtain⟨k,rfl⟩:∃k:Nat,j=k:=⟨j.toNat,by omega⟩
 have hk:k<s.2.1.length:=by omega
 have get:=aiE hk;rw[aC hk];generalize s.2.1[k]=T at get;simp only[aiA,xB,AQ]
 refine Wp.seq (λb=>b=ah->lq T.2.1 s.1.length/\lq T.2.2.1 s.1.length/\a=T.2.1) ?_ λb hb=>?_
 .refine Wp.ite (λ_=> .some λh=>by cases h) λh1=>?_
  refine Wp.ite (λ_=> .some λh=>by cases h) λh2=> .some (by grind)
 refine Wp.ite (λ_=> .some λh=>by cases h) λhc=>?_
 obtain⟨v1,v2,v3⟩:=hb (by simpa using hc)
 refine Wp.dec (λJJ=>?_) λJJ=> .some λ_=>?_
 .refine Wp.seq (λb=>b=ah->(T.2.1.1:Int)=3/\(T.2.2.1.1:Int)=4) ?_ λb hb=>?_
  .exact Wp.iM (λ_=> .some λh=>by cases h) λh=> .some λh'=>⟨h,by simpa using h'⟩
  refine Wp.ite (λ_=> .some λh=>by cases h) λhc=> .some λ_=>?_
  obtain⟨w1,w2⟩:=hb (by simpa using hc)
  rcases hj with⟨_,g1,g2,g3,g4⟩|⟨g,_⟩
  .exact⟨k,T,get,v1,v2,v3,(by grind)⟩
  grind
 .rcases hj with⟨g,_⟩|⟨_,g⟩
  .grind
  .exact⟨k,T,get,v1,v2,v3, .inr ⟨JJ,g,rfl⟩⟩
def Mb(op m:Int)(s:Sg)(t:Ty):Prop:=X3 m s.2.2.2.2.1 s t/\(op=36->(t.1:Int)=2\/(t.1:Int)=3)/\(op=37\/op=38->(t.1:Int)=1)/\(op=39->HA t.1\/(t.1:Int)=5)
def Ke(N:Nat)(op m:Int)(s:Sg):Wp (M.bB N (op,m) s) λr=>r.2=0->(op=35/\r.1=((2:Int),(0:Int)))\/(op≠35/\Mb op m s r.1):=by
 unfold M.bB;dsimp only[aA,Row.den];simp only[rc,qp,aiA]
 refine Wp.ite (λ_=> .some λh=>by cases h) λ_=>?_
 refine Wp.dec (λh=> .some λ_=> .inl ⟨h,rfl⟩) λh35=>?_
 refine Wp.seq _ (ux ..) λy hy=>?_
 refine Wp.iM (λh=> .some ?_) λh0=>?_
 .grind
 have hL:=hy h0
 refine Wp.seq (λb=>b=af->(op=36->(y.1.1:Int)=2\/(y.1.1:Int)=3)/\(op=37\/op=38->(y.1.1:Int)=1)/\(op=39->HA y.1.1\/(y.1.1:Int)=5)) ?_ λb hb=>?_
 .refine Wp.dec (λh=>?_) λXZ=>?_
  .refine Wp.dec (λh2=> .some λ_=>⟨λ_=> .inl h2,λg=>by omega,λg=>by omega⟩) λ_=> .some (by grind)
  refine Wp.dec (λh=> .some (by grind)) λh37=>?_
  refine Wp.dec (λh=>?_) λ_=> .some λh=>by cases h
  refine Wp.dec (λh2=> .some λ_=>⟨λg=>absurd g XZ,λg=>absurd g h37,λ_=> .inl h2⟩) λ_=> .some (by grind)
 refine Wp.ite (λ_=> .some λh=>by cases h) λhc=> .some λ_=> .inr ⟨h35,hL,hb (by simpa using hc)⟩
def NT(op m:Int)(ts:List Ty)(s:Sg)(t:Ty):Prop:=
 ((1<=op/\op<=5)/\t=(op,(0:Int)))\/
 (op=6/\0<=m/\t=((6:Int),aiB.wrap (aiR m 16)))\/
 (op=7/\X3 m s.2.2.1 s t)\/
 (op=8/\X3 m s.2.2.2.1 s t)\/
 (op=9/\t=((5:Int),(0:Int)))\/
 ((op=33\/op=34)/\∃a,ts=[a]/\Tb op m a s t)\/
 (op=35/\t=((2:Int),(0:Int)))\/
 ((op=36\/op=37\/op=38\/op=39)/\Mb op m s t)\/
 ((op=14\/op=15\/op=16->0<=m/\m<=5)/\RT op ts t)
def Qh(N:Nat)(op m:Int)(hm:m<=9223372036854775807)(ts:List Ty)(s:Sg)(hl:(ts.length:Int)=ar op):Wp (M.aY N (op,m) ts s) λr=>r.2=0->NT op m ts s r.1:=by
 unfold M.aY;dsimp only[aA,Row.den];simp only[rc op 33 34,Np op 14 15 16,DK op 35 36 37 38 39,HB,aiA]
 have fin:∀Q:Ty×Int->Prop,((op=14\/op=15\/op=16->0<=m/\m<=5)->∀t,RT op ts t->Q (t,0))->Q (((0:Int),(0:Int)),8)->((op=14\/op=15\/op=16)->0<=m/\m<=5)->Wp ((M.cB N op ts).bind λy17=>if(!y17.2)=af then aa (((0:Int),(0:Int)),(8:Int))else aa (y17.1,(0:Int))) Q:=by
  intro Q hq h8 Rz
  refine Wp.seq _ (Kd N op ts hl) λy hy=>?_
  refine Wp.ite (λ_=> .some h8) λh=> .some (hq Rz _ (hy (by simpa using h)))
 refine Wp.join ?_
 refine Wp.dec (λh=>Wp.seq _ (nl _ _ 1 _ (by omega)) λr hr=> .some λh'=> .inl ⟨by omega,by grind⟩) λh1=>?_
 refine Wp.dec (λh=>Wp.seq _ (nl _ _ 2 _ (by omega)) λr hr=> .some λh'=> .inl ⟨by omega,by grind⟩) λh2=>?_
 refine Wp.dec (λh=>Wp.seq _ (nl _ _ 3 _ (by omega)) λr hr=> .some λh'=> .inl ⟨by omega,by grind⟩) λh3=>?_
 refine Wp.dec (λh=>Wp.seq _ (nl _ _ 4 _ (by omega)) λr hr=> .some λh'=> .inl ⟨by omega,by grind⟩) λh4=>?_
 refine Wp.dec (λh=>Wp.seq _ (nl _ _ 5 _ (by omega)) λr hr=> .some λh'=> .inl ⟨by omega,by grind⟩) λh5=>?_
 refine Wp.dec (λh=>Wp.seq _ (Qg _ _ hm _) λr hr=> .some λh'=> .inr (.inl ⟨h,hr h'⟩)) λh6=>?_
 refine Wp.dec (λh=>Wp.seq _ (ux ..) λr hr=> .some λh'=> .inr (.inr (.inl ⟨h,hr h'⟩))) λh7=>?_
 refine Wp.dec (λh=>Wp.seq _ (ux ..) λr hr=> .some λh'=> .inr (.inr (.inr (.inl ⟨h,hr h'⟩)))) λh8=>?_
 refine Wp.dec (λh=> .some λh'=> .inr (by grind)) λh9=>?_
 refine Wp.dec (λh=>?_) λh33=>?_
 .obtain⟨a,rfl⟩:=Xb (l:=ts) (by grind [P.ar]);simp only[mM,aiA]
  exact Wp.seq _ (Nz ..) λr hr=> .some λh'=> .inr (by grind)
 refine Wp.dec (λh=>?_) λh35=>?_
 .refine Wp.seq _ (Ke ..) λr hr=> .some λh'=>?_
  rcases hr h' with⟨g1,g2⟩|⟨g1,g2⟩
  .exact .inr (by grind)
  .exact .inr (by grind)
 refine Wp.dec (λh=>?_) λyk=>?_
 .refine Wp.ite (λ_=> .some λh=>by cases h) λhmo=> .some ?_
  exact fin _ (λRz t ht _=> .inr (by grind)) (λh=>by cases h) λ_=>by simpa using hmo
 .refine .some ?_
  exact fin _ (λRz t ht _=> .inr (by grind)) (λh=>by cases h) λh=>absurd h yk
end L.P
namespace L.P
def uy:List Vl->List Ty->Prop
 |[],[]=>True
 |v::vs,t::ts=>jO v t/\uy vs ts
 |[],_::_=>False
 |_::_,[]=>False
theorem uy.len:∀{vs:List Vl}{ts:List Ty},uy vs ts->vs.length=ts.length
 |[],[],_=>rfl
 |_::_,_::_,h=>by simp[uy.len h.2]
 |[],_::_,h=>h.elim
 |_::_,[],h=>h.elim
def uy.pl:∀{vs:List Vl}{ts:List Ty},uy vs ts->∀v∈vs,eY v.1 v.2.1 v.2.2
 |[],[],_,v,h=>by simp at h
 |w::vs,t::ts,h,v,hv=>by
  rcases ai7.1 hv with rfl|hv
  .exact h.1.1
  .exact uy.pl h.2 v hv
 |[],_::_,h,_,_=>h.elim
 |_::_,[],h,_,_=>h.elim
theorem HC{vs:List Vl}{a:Ty}(h:uy vs [a]):∃v,vs=[v]/\jO v a:=by
 match vs,h with
 |[v],h=>exact⟨v,rfl,h.1⟩
def pu{vs:List Vl}{a b:Ty}(h:uy vs [a,b]):∃v w,vs=[v,w]/\jO v a/\jO w b:=by
 match vs,h with
 |[v,w],h=>exact⟨v,w,rfl,h.1,h.2.1⟩
def Xe{vs:List Vl}{a b c:Ty}(h:uy vs [a,b,c]):∃v w x,vs=[v,w,x]/\jO v a/\jO w b/\jO x c:=by
 match vs,h with
 |[v,w,x],h=>exact⟨v,w,x,rfl,h.1,h.2.1,h.2.2.1⟩
def Ep(op:Int):Prop:=10<=op/\op<=32
def Uu{op:Int}(h:Ep op):¬op=7/\¬op=8/\¬op=33/\¬op=34/\¬(op=36\/op=37\/op=38\/op=39)/\¬(op=1\/op=2\/op=3\/op=4\/op=5)/\¬op=6/\¬op=9/\¬op=35:=by unfold Ep at h;omega
def NA{N:Nat}{op m:Int}{v:Vl}{env:eN.den}(h:Ep op):M.bW N (op,m) [v] env=M.cJ N op v.1:=by
 obtain⟨h1,h2,h3,h4,h5,_⟩:=Uu h;unfold M.bW;dsimp only[aA,Row.den];rw[ta,aq h1,aq h2,aq h3,aq h4,aq h5];simp[mM]
def DT{N:Nat}{op m:Int}{v w:Vl}{env:eN.den}(h:Ep op):M.bW N (op,m) [v,w] env=M.cO N op v w:=by
 obtain⟨h1,h2,h3,h4,h5,_⟩:=Uu h;unfold M.bW;dsimp only[aA,Row.den];rw[ta,aq h1,aq h2,aq h3,aq h4,aq h5];simp[mM,td]
def NB{N:Nat}{op m:Int}{v w x:Vl}{env:eN.den}(h:Ep op)(hv:(v.1:Int)=1):M.bW N (op,m) [v,w,x] env=M.dl N w x:=by
 obtain⟨h1,h2,h3,h4,h5,_⟩:=Uu h;unfold M.bW;dsimp only[aA,Row.den];rw[ta,aq h1,aq h2,aq h3,aq h4,aq h5];simp[mM,td,TQ,hv]
def NC{N:Nat}{op m:Int}{v:Vl}{env:eN.den}(h:Ep op):M.bY N (op,m) [v] env=(M.kj N op v).bind λy=>aa (y,(0:Int)):=by
 obtain⟨h1,h2,h3,h4,h5,h6,h7,h8,h9⟩:=Uu h;unfold M.bY;dsimp only[aA,Row.den];rw[DK,ta,aq h1,aq h2,aq h3,aq h4,aq h5,aq h6,aq h7,aq h8,aq h9];simp[mM]
def DU{N:Nat}{op m:Int}{v w:Vl}{env:eN.den}(h:Ep op):M.bY N (op,m) [v,w] env=(M.fR N (op,m) v w).bind λy=>aa (y.1,y.2):=by
 obtain⟨h1,h2,h3,h4,h5,h6,h7,h8,h9⟩:=Uu h;unfold M.bY;dsimp only[aA,Row.den];rw[DK,ta,aq h1,aq h2,aq h3,aq h4,aq h5,aq h6,aq h7,aq h8,aq h9];simp[mM,td]
def ND{N:Nat}{op m:Int}{v w x:Vl}{env:eN.den}(h:Ep op):M.bY N (op,m) [v,w,x] env=if(v.2.2:Int)=1 then aa (w,(0:Int))else aa (x,(0:Int)):=by
 obtain⟨h1,h2,h3,h4,h5,h6,h7,h8,h9⟩:=Uu h;unfold M.bY;dsimp only[aA,Row.den];rw[DK,ta,aq h1,aq h2,aq h3,aq h4,aq h5,aq h6,aq h7,aq h8,aq h9];simp[mM,td,TQ]
def ln(N:Nat)(b:Bool):Wp (M.dD N b) λy=>(y.1:Int)=1/\(y.2.1:Int)=0:=by
 unfold M.dD
 exact Wp.ite (λ_=> .some ⟨rfl,rfl⟩) λ_=> .some ⟨rfl,rfl⟩
def NE(op:Int)(a:Vl):Wp (M.kj aU op a) λy=>(y.2.1:Int)=0/\(op=10->(y.1:Int)=a.1)/\(op=25->(y.1:Int)=1)/\(op=31\/op=32->(y.1:Int)=2):=by
 unfold M.kj
 refine Wp.dec (λh=> .some (by grind)) λh=>?_
 refine Wp.dec (λh=>Wp.seq _ (ln ..) λy hy=> .some (by grind)) λh'=>?_
 refine Wp.seq _ (qm ..) λy _=>?_
 exact Wp.dec (λ_=> .some ⟨rfl,λg=>absurd g h,λg=>absurd g h',λ_=>rfl⟩) λ_=> .some (by grind)
def Kf{op m:Int}{a b:Vl}(hm:op=14\/op=15\/op=16->0<=m/\m<=5)(q7:13<=op/\op<=16):Wp (M.kD aU (op,m) a b) λr=>Cd r.2/\(r.1.2.1:Int)=0/\(r.1.1:Int)=if op=15/\¬(b.1:Int)=2 then 4 else a.1:=by
 unfold M.kD;dsimp only[aA,Row.den]
 refine Wp.seq (λj=>Cd j.1/\(j.2.2.1:Int)=0/\(j.2.1:Int)=if op=15/\¬(b.1:Int)=2 then 4 else a.1) ?_ λj hj=> .some hj
 refine Wp.dec (λh=>Wp.seq _ (xx ..) λr hr=> .some (by grind)) λVx=>?_
 have Jc:=hm (by omega);simp only[bi,aiA,mB]
 refine Wp.ite (λh=>Wp.seq _ (zI Jc) λr hr=> .some (by grind)) λ_=>?_
 refine Wp.dec (λh=>Wp.seq _ (Hy Jc) λr hr=> .some (by grind)) λyk=>?_
 refine Wp.dec (λh=>Wp.seq _ (xv Jc) λr hr=> .some (by grind)) λWr=>?_
 refine Wp.dec (λh=>Wp.seq _ (me _ Jc) λr hr=> .some (by grind)) λh2=>?_
 exact Wp.seq _ (s9 Jc) λr hr=> .some (by grind)
def bk(op p q:Int):Int:=
 if op=15/\¬q=2 then 4 else if op=11\/op=27\/op=12\/(13<=op/\op<=16)then p else if 19<=op/\op<=24 then 1 else if op=28 then 5 else 2
theorem Qi{op p q:Int}(h:op=11\/op=27\/op=12):bk op p q=p:=by grind [P.bk]
theorem Kg{op p q:Int}(h:13<=op/\op<=16):bk op p q=if op=15/\¬q=2 then 4 else p:=by grind [P.bk]
def Bn{op p q:Int}(h:19<=op/\op<=24):bk op p q=1:=by grind [P.bk]
theorem Xf{op p q:Int}(h:op=28):bk op p q=5:=by grind [P.bk]
def TR{op p q:Int}(h:op=29\/op=30):bk op p q=2:=by grind [P.bk]
def Kh{op m:Int}{a b:Vl}(hm:op=14\/op=15\/op=16->0<=m/\m<=5)(q7:¬(op=17\/op=18))(Yx:11<=op/\op<=30/\¬op=25/\¬op=26):Wp (M.fR aU (op,m) a b) λr=>Cd r.2/\(r.1.2.1:Int)=0/\(r.1.1:Int)=bk op a.1 b.1:=by
 unfold M.fR;dsimp only[aA,Row.den];rw[rc,ta,rc];simp only[aiA]
 refine Wp.dec (λh=> .some ⟨zF 0,rfl,(Qi (by omega)).symm⟩) λ_=>?_
 refine Wp.dec (λh=> .some ⟨zF 0,rfl,(Qi (by omega)).symm⟩) λ_=>?_
 refine Wp.dec (λh=>Wp.seq _ (Kf hm (by omega)) λr hr=> .some ⟨hr.1,hr.2.1,hr.2.2.trans (Kg (by omega)).symm⟩) λ_=>?_
 refine Wp.dec (λh=>absurd h q7) λ_=>?_
 refine Wp.dec (λh=>Wp.seq _ (ln ..) λy hy=> .some ⟨zF 0,hy.2,hy.1.trans (Bn (by omega)).symm⟩) λ_=>?_
 refine Wp.dec (λh=>Wp.seq _ (ln ..) λy hy=> .some ⟨zF 0,hy.2,hy.1.trans (Bn (by omega)).symm⟩) λ_=>?_
 refine Wp.dec (λh=>Wp.seq _ (ln ..) λy hy=> .some ⟨zF 0,hy.2,hy.1.trans (Bn (by omega)).symm⟩) λ_=>?_
 refine Wp.dec (λh=>Wp.seq _ (ln ..) λy hy=> .some ⟨zF 0,hy.2,hy.1.trans (Bn (by omega)).symm⟩) λ_=>?_
 refine Wp.dec (λh=>Wp.seq (λj:Int×Vl=>j.1=0/\(j.2.1:Int)=1/\(j.2.2.1:Int)=0) (Wp.dec (λ_=>Wp.seq _ (ln ..) λ_ hy=> .some ⟨rfl,hy⟩) λ_=>Wp.seq _ (ln ..) λ_ hy=> .some ⟨rfl,hy⟩) λj hj=> .some ⟨.inl hj.1,hj.2.2,hj.2.1.trans (Bn (by omega)).symm⟩) λ_=>?_
 refine Wp.dec (λh=>Wp.seq (λj:Int×Vl=>j.1=0/\(j.2.1:Int)=1/\(j.2.2.1:Int)=0) (Wp.dec (λ_=>Wp.seq _ (ln ..) λ_ hy=> .some ⟨rfl,hy⟩) λ_=>Wp.seq _ (ln ..) λ_ hy=> .some ⟨rfl,hy⟩) λj hj=> .some ⟨.inl hj.1,hj.2.2,hj.2.1.trans (Bn (by omega)).symm⟩) λ_=>?_
 refine Wp.dec (λh=>Wp.seq _ (pd ..) λr hr=> .some ⟨hr,rfl,(Xf h).symm⟩) λh28=>?_
 refine Wp.dec (λh=> .some ⟨zF 0,rfl,(TR (by omega)).symm⟩) λh29=>?_
 exact Wp.seq _ (pt ..) λr _=> .some ⟨zF 0,rfl,(TR (by omega)).symm⟩
def Ki{op m:Int}{a b:Vl}(q7:op=17\/op=18):Wp (M.fR aU (op,m) a b) λr=>r.2=0/\(r.1=a\/r.1=b):=by
 unfold M.fR;dsimp only[aA,Row.den];rw[rc,ta,rc];simp only[aiA]
 refine Wp.dec (λh=>by omega) λ_=>?_
 refine Wp.dec (λh=>by omega) λ_=>?_
 refine Wp.dec (λh=>by omega) λ_=>?_
 refine Wp.dec (λh=>?_) λh=>absurd q7 h
 exact Wp.ite (λ_=> .some ⟨rfl, .inr rfl⟩) λ_=> .some ⟨rfl, .inl rfl⟩
def C3(c:Int):Prop:=c=0\/c=3\/c=6\/c=12
def Cd.c3{c:Int}(h:Cd c):C3 c:=by unfold Cd at h;unfold C3;omega
def NF(t:Ty)(y:Vl×Int):Prop:=C3 y.2/\(y.2=0->(y.1.1:Int)=t.1/\(y.1.2.1:Int)=t.2)
def DV{v:Vl}{a:Ty}(h:jO v a)(h6:(a.1:Int)≠6):(a.2:Int)=0:=by
 obtain⟨(k:Int),(e:Int),(n:Int)⟩:=v;obtain⟨(p:Int),(q:Int)⟩:=a;obtain⟨h1,h2,h3⟩:=h;dsimp only[aA,Row.den]at*;unfold eY at h1;omega
def HD(N:Nat)(v w:Vl):M.dl N v w=aa (decide ((v.1:Int)=w.1/\(v.2.1:Int)=w.2.1)):=by
 grind [M.dl]
def vp{op:Int}{v w:Vl}{a b:Ty}(hv:jO v a)(hw:jO w b)
 (h:((op=11\/op=12)/\a=b/\HA a.1)\/(op=13/\(b.1:Int)=2/\((a.1:Int)=2\/(a.1:Int)=3))\/(op=14/\(b.1:Int)=4/\((a.1:Int)=3\/(a.1:Int)=4))\/(op=15/\(((b.1:Int)=2/\((a.1:Int)=2\/(a.1:Int)=3))\/((a.1:Int)=3/\(b.1:Int)=3)))\/(op=16/\(a.1:Int)=3/\(b.1:Int)=3)\/((op=17\/op=18\/op=21\/op=22)/\a=b/\(HA a.1\/(a.1:Int)=5))\/((op=19\/op=20)/\a=b)\/((op=23\/op=24)/\(a.1:Int)=1/\(b.1:Int)=1)\/((op=27\/op=28)/\(a.1:Int)=5/\(b.1:Int)=2)\/((op=29\/op=30)/\(a.1:Int)=5/\(b.1:Int)=5)):M.cO aU op v w=aa af:=by
 obtain⟨(k:Int),(e:Int),(n:Int)⟩:=v;obtain⟨(k':Int),(e':Int),(n':Int)⟩:=w;obtain⟨(p:Int),(q:Int)⟩:=a;obtain⟨(p':Int),(q':Int)⟩:=b;obtain⟨_,h2,h3⟩:=hv;obtain⟨_,h5,h6⟩:=hw;dsimp only[aA,Row.den]at*;subst h2 h3 h5 h6;unfold M.cO;dsimp only[aA,Row.den];simp only[HD,mc]
 rcases h with⟨ho,yD,hn⟩|⟨ho,hb,ha⟩|⟨ho,hb,ha⟩|⟨ho,⟨hb,ha⟩|⟨ha,hb⟩⟩|⟨ho,ha,hb⟩|⟨ho,yD,hn⟩|⟨ho,yD⟩|⟨ho,ha,hb⟩|⟨ho,ha,hb⟩|⟨ho,ha,hb⟩
 .grind
 .grind
 .grind
 .grind
 .grind
 .grind
 .obtain⟨rfl,rfl⟩:k=k'/\e=e':=by simpa using yD
  rcases ho with rfl|rfl|rfl|rfl<;>rcases hn with(rfl|rfl|rfl)|rfl<;>simp
 .obtain⟨rfl,rfl⟩:k=k'/\e=e':=by simpa using yD
  rcases ho with rfl|rfl<;>simp
 .subst hb ha;rcases ho with rfl|rfl<;>simp
 .subst hb ha;rcases ho with rfl|rfl<;>simp
 .subst hb ha;rcases ho with rfl|rfl<;>simp
def NG{op m:Int}{ts:List Ty}{t:Ty}{args:List Vl}{env:eN.den}(hm:op=14\/op=15\/op=16->0<=m/\m<=5)(h:RT op ts t)(ha:uy args ts):Wp (M.bW aU (op,m) args env) (· =af)/\Wp (M.bY aU (op,m) args env) (NF t):=by
 have c0:C3 0:= .inl rfl
 have un:∀{v:Vl}{a:Ty},Ep op->jO v a->M.cJ aU op a.1=aa af->(∀y:Vl,(y.2.1:Int)=0/\(op=10->(y.1:Int)=v.1)/\(op=25->(y.1:Int)=1)/\(op=31\/op=32->(y.1:Int)=2)->(y.1:Int)=t.1/\(y.2.1:Int)=t.2)->Wp (M.bW aU (op,m) [v] env) (· =af)/\Wp (M.bY aU (op,m) [v] env) (NF t):=by
  intro v a hp hv h1 h2;rw[NA hp,NC hp,show v.1=a.1 from hv.2.1,h1];exact⟨.some rfl,Wp.seq _ (NE ..) λy hy=> .some ⟨c0,λ_=>h2 y hy⟩⟩
 have bin:∀{v w:Vl}{a b:Ty},Ep op->jO v a->jO w b->¬(op=17\/op=18)->(11<=op/\op<=30/\¬op=25/\¬op=26)->M.cO aU op v w=aa af->(t.2:Int)=0->bk op a.1 b.1=t.1->Wp (M.bW aU (op,m) [v,w] env) (· =af)/\Wp (M.bY aU (op,m) [v,w] env) (NF t):=by
  intro v w a b hp hv hw h17 Yx h1 h2 h3;rw[DT hp,DU hp,h1];refine⟨.some rfl,Wp.seq _ (Kh hm h17 Yx) λy hy=> .some ⟨hy.1.c3,λ_=>⟨?_,hy.2.1.trans h2.symm⟩⟩⟩;rw[<-h3,<-show v.1=a.1 from hv.2.1,<-show w.1=b.1 from hw.2.1];exact hy.2.2
 have p:10<=op/\op<=32->Ep op:=λh=>h
 rcases h with⟨ho,a,rfl,hn,rfl⟩|⟨ho,a,rfl,hn,rfl⟩|⟨ho,a,rfl,hn,rfl⟩|⟨ho,a,rfl,hn,rfl⟩|⟨ho,a,b,rfl,hb,hk,rfl⟩|⟨ho,a,b,rfl,hb,hk,rfl⟩|⟨ho,a,b,rfl,⟨hb,hk,rfl⟩|⟨hk,hb,rfl⟩⟩|⟨ho,a,b,rfl,hk,hb,rfl⟩|⟨ho,a,rfl,hn,rfl⟩|⟨ho,a,rfl,rfl⟩|⟨ho,a,rfl,hn,rfl⟩|⟨ho,a,b,rfl,hk,hb,rfl⟩|⟨ho,a,b,rfl,hk,rfl⟩|⟨ho,a,b,rfl,hk,hb,rfl⟩|⟨ho,a,b,rfl,hk,hb,rfl⟩
 .obtain⟨v,rfl,hv⟩:=HC ha
  refine un (p (by omega)) hv ?_ λy hy=>⟨(hy.2.1 ho).trans hv.2.1,hy.1.trans (DV hv (by grind)).symm⟩
  grind [M.cJ,P.mc]
 .grind [P.HC,M.cJ]
 .grind [P.HC,M.cJ]
 .obtain⟨v,w,rfl,hv,hw⟩:=pu ha;exact bin (p (by omega)) hv hw (by omega) (by omega) (vp hv hw (.inl ⟨ho,rfl,hn⟩)) (DV hv (by rcases hn with h|h|h<;>rw[h]<;>decide)) (Qi (by omega))
 .obtain⟨v,w,rfl,hv,hw⟩:=pu ha;exact bin (p (by omega)) hv hw (by omega) (by omega) (vp hv hw (.inr (.inl ⟨ho,hb,hk⟩))) rfl (by rw[Kg (by omega),aj (by omega)])
 .obtain⟨v,w,rfl,hv,hw⟩:=pu ha;exact bin (p (by omega)) hv hw (by omega) (by omega) (vp hv hw (.inr (.inr (.inl ⟨ho,hb,hk⟩)))) rfl (by rw[Kg (by omega),aj (by omega)])
 .obtain⟨v,w,rfl,hv,hw⟩:=pu ha;exact bin (p (by omega)) hv hw (by omega) (by omega) (vp hv hw (.inr (.inr (.inr (.inl ⟨ho, .inl ⟨hb,hk⟩⟩))))) rfl (by grind [P.Kg])
 .obtain⟨v,w,rfl,hv,hw⟩:=pu ha;exact bin (p (by omega)) hv hw (by omega) (by omega) (vp hv hw (by grind)) rfl (by rw[Kg (by omega),al ⟨ho,by rw[hb];decide⟩])
 .obtain⟨v,w,rfl,hv,hw⟩:=pu ha;exact bin (p (by omega)) hv hw (by omega) (by omega) (vp hv hw (by grind)) (DV hv (by rw[hk];decide)) (by rw[Kg (by omega),aj (by omega)])
 .obtain⟨v,w,rfl,hv,hw⟩:=pu ha;have hp:Ep op:=p (by omega);rw[DT hp,DU hp,vp hv hw (.inr (.inr (.inr (.inr (.inr (.inl ⟨by omega,rfl,hn⟩))))))];refine⟨.some rfl,Wp.seq _ (Ki ho) λy hy=> .some ⟨.inl hy.1,λ_=>?_⟩⟩
  rcases hy.2 with h|h<;>simp only[h]
  .exact hv.2
  .exact hw.2
 .obtain⟨v,w,rfl,hv,hw⟩:=pu ha;exact bin (p (by omega)) hv hw (by omega) (by omega) (vp hv hw (by grind)) rfl (Bn (by omega))
 .obtain⟨v,w,rfl,hv,hw⟩:=pu ha;exact bin (p (by omega)) hv hw (by omega) (by omega) (vp hv hw (.inr (.inr (.inr (.inr (.inr (.inl ⟨by omega,rfl,hn⟩))))))) rfl (Bn (by omega))
 .obtain⟨v,w,rfl,hv,hw⟩:=pu ha;exact bin (p (by omega)) hv hw (by omega) (by omega) (vp hv hw (by grind)) rfl (Bn (by omega))
 .obtain⟨v,w,x,rfl,hv,hw,hx⟩:=Xe ha;have hp:Ep op:=p (by omega);rw[NB hp (hv.2.1.trans hk),ND hp,HD];refine⟨.some ?_,Wp.ite (λ_=> .some ⟨c0,λ_=>hw.2⟩) λ_=> .some ⟨c0,λ_=>hx.2⟩⟩;exact ao ⟨hw.2.1.trans hx.2.1.symm,hw.2.2.trans hx.2.2.symm⟩
 .obtain⟨v,w,rfl,hv,hw⟩:=pu ha;refine bin (p (by omega)) hv hw (by omega) (by omega) (vp hv hw (by grind)) (DV hv (by rw[hk];decide)) ?_
  grind [P.Qi,P.Xf]
 .obtain⟨v,w,rfl,hv,hw⟩:=pu ha;exact bin (p (by omega)) hv hw (by omega) (by omega) (vp hv hw (by grind)) rfl (TR ho)
end L.P
namespace L.P
structure X4(s:Sg)(env:eN.den):Prop where
 inp:∀(k:Nat)(t:Ty),s.2.2.1[k]? =aa t->∃v,env.2.1[k]? =aa v/\jO v t
 dfs:∀(k:Nat)(t:Ty),s.2.2.2.1[k]? =aa t->∃v,env.2.2.1[k]? =aa v/\(jO v t\/(v.1:Int)=0)
 mts:∀(k:Nat)(t:Ty),s.2.2.2.2.1[k]? =aa t->env.2.2.2.2.1[k]? =aa t
 mem:∀l∈env.2.2.2.1,∀(k:Nat)(t:Ty),s.2.2.2.2.1[k]? =aa t->∃v,l[k]? =aa v/\(jO v t\/(v.1:Int)=0)
 tbs:∀(k:Nat)(T:aT.den),s.2.1[k]? =aa T->∃T':aT.den,env.2.2.2.2.2[k]? =aa T'/\T'.2.1=T.2.1/\T'.2.2.1=T.2.2.1
def mq(t:Ty)(r:Vl×Int):Prop:=C3 r.2/\(r.2=0->jO r.1 t)
def Gn{l:List Vl}(hl:l.length<=100000)(h:∀v∈l,eY v.1 v.2.1 v.2.2):M.eD aU l=aa af:=by
 apply Wp.eq;unfold M.eD;refine Wp.loop (λs:Int=>∃i:Nat,s=i/\i<=l.length) (λs=>(l.length-s).toNat) ⟨0,rfl,Nat.zero_le _⟩ (by unfold aU;omega) ?_
 rintro _ ⟨i,rfl,hi⟩
 refine Wp.dec (λaH=>?_) λ_=> .some rfl
 have kF:i<l.length:=by omega
 rw[aC kF];simp only[aiA,dI];rw[ao (h _ (aiF kF))];simp only[ajR,aiK,if_false];rw[aQ (by omega)];exact .some ⟨⟨i+1,rfl,kF⟩,by simp only;omega⟩
def DW{op m:Int}(h0:0<=ar op)(hu:m=0\/us op)(yk:op=14\/op=15\/op=16->0<=m/\m<=5)(JJ:op=34->0<=m/\ai3 m 8<=5)(h6:op=6->0<=m):M.dN aU (op,m)=aa af:=by
 apply Wp.eq;unfold M.dN;dsimp only[aA,Row.den];rw[nh,Np];simp only[aiA,bi,mB]
 refine Wp.seq (· =ah) ?_ λj hj=>?_
 .refine Wp.dec (λh=>by omega) λ_=>?_
  refine Wp.iM (λh=>Wp.seq _ (Hz ..) λy hy=> .some ?_) λ_=> .some rfl
  grind
 .subst hj;simp only[aiK,if_false];refine .some ?_
  grind
def ry{op m:Int}{args:List Vl}{env:eN.den}{t:Ty}(Ut:M.dN aU (op,m)=aa af)(ha:(args.length:Int)=ar op)(vd:∀v∈args,eY v.1 v.2.1 v.2.2)(hx:Wp (M.iW aU (op,m) env) λx=>x=af->Wp (M.bW aU (op,m) args env) (· =af)/\Wp (M.bY aU (op,m) args env) (NF t)):Wp (M.fu aU (op,m) args env) (mq t):=by
 have Uo:=p8 op;unfold M.fu;dsimp only[aA,Row.den];rw[Ut];simp only[aiA,nh,ajR,aiK,if_false];rw[ao ha];simp only[ajR,aiK,if_false]
 refine Wp.seq _ hx λx hx=>?_
 refine Wp.ite (λ_=> .some ⟨.inr (.inr (.inl rfl)),λh=>by cases h⟩) λhc=>?_
 obtain⟨h1,h2⟩:=hx (by simpa using hc);rw[Gn (by omega) vd,Wp.eq h1];simp only[aiA,ajR,aiK,if_false]
 refine Wp.seq _ h2 λy hy=>?_
 refine Wp.iM (λh=> .some ⟨hy.1,λg=>absurd g h⟩) λh=>?_
 rw[dI];simp only[aiA]
 exact Wp.iM (λ_=> .some ⟨.inr (.inl rfl),λh=>by cases h⟩) λhp=> .some ⟨.inl rfl,λ_=>⟨hp,hy.2 h⟩⟩
def tf{N:Nat}{op m:Int}{env:eN.den}(h1:¬op=7)(h2:¬op=8)(h3:¬op=33)(h4:¬op=34)(h5:¬(op=36\/op=37\/op=38\/op=39)):M.bW N (op,m) [] env=aa af:=by
 unfold M.bW
 grind
def lK{α:Type}{l:List α}{k:Nat}{x:α}(h:l[k]? =aa x):idx l (k:Int)=aa x:=by
 grind [aC]
def DX{op:Int}{t:Ty}{j:Nat}:{ms:List (List Vl)}->(∀l∈ms,∃v,l[j]? =aa v/\(jO v t\/(v.1:Int)=0))->{first:Bool}->{acc c:Int}->oJ op t j ms first acc= .inr c->c=3\/c=6
 |[],_,_,_,_,h=>by cases h
 |l::ms,hv,first,acc,c,h=>by
  obtain⟨v,h1,h2⟩:=hv l (List.mem_cons_self ..);rw[oJ,h1]at h;simp only at h;split at h
  .grind
  .rename_i hn;rw[al (h2.resolve_right hn)]at h;split at h
   .exact DX (by grind) h
   grind
def Qj{op:Int}{t:Ty}{j:Nat}{ms:List (List Vl)}(h:∀l∈ms,∃v,l[j]? =aa v/\(jO v t\/(v.1:Int)=0))(ht:(t.2:Int)=0):NF t (J6 op t j ms):=by
 unfold J6;split
 .exact⟨.inr (.inr (.inl rfl)),λg=>by cases g⟩
 .split
  .exact⟨.inl rfl,λ_=>⟨rfl,ht.symm⟩⟩
  .rename_i c hc;have:=DX h hc;refine⟨?_,λg=>?_⟩
   all_goals grind [P.C3]
def NH{op m:Int}{ts:List Ty}{s:Sg}{t:Ty}{args:List Vl}{env:eN.den}(he:lv env)(ag:X4 s env)(nt:NT op m ts s t)(h0:0<=ar op)(hu:m=0\/us op)(hl:(ts.length:Int)=ar op)(ha:uy args ts):Wp (M.fu aU (op,m) args env) (mq t):=by
 have Kx:(args.length:Int)=ar op:=by rw[ha.len];exact hl
 have c0:C3 0:= .inl rfl
 have no:ar op=0->args=[]:=λh=>List.length_eq_zero_iff.1 (by omega)
 have wf:∀(_:op=14\/op=15\/op=16->0<=m/\m<=5)(_:op=34->0<=m/\ai3 m 8<=5)(_:op=6->0<=m),M.dN aU (op,m)=aa af:=λa b c=>DW h0 hu a b c
 have ex:∀Q:Prop,(W4 op m env->Q)->Wp (M.iW aU (op,m) env) λx=>x=af->Q:=λQ h=>(zK aU op m env).mono λx hx g=>h (hx g)
 rcases nt with⟨ho,rfl⟩|⟨ho,hm,rfl⟩|⟨ho,hL⟩|⟨ho,hL⟩|⟨ho,rfl⟩|⟨ho,a,rfl,hT⟩|⟨ho,rfl⟩|⟨ho,hL,QS,QG,hk3⟩|⟨hm,hR⟩
 .obtain rfl:=no (by unfold ar;grind);refine ry (wf (by omega) (by omega) (by omega)) Kx ha.pl (ex _ λ_=>⟨?_,?_⟩)
  .rw[tf (by omega) (by omega) (by omega) (by omega) (by omega)];exact .some rfl
  .unfold M.bY;dsimp only[aA,Row.den];rw[DK op 1 2 3 4 5];simp only[aiA]
   exact Wp.dec (λ_=> .some ⟨c0,λ_=>⟨rfl,rfl⟩⟩) λh=>by omega
 .subst ho;obtain rfl:=no rfl;refine ry (by grind) Kx ha.pl (ex _ λ_=>⟨?_,?_⟩)
  .rw[tf (by omega) (by omega) (by omega) (by omega) (by omega)];exact .some rfl
  .exact .of (x:=(((6:Int),(aiB.wrap (aiR m 16),ai3 m 16)),(0:Int))) rfl ⟨c0,λ_=>⟨rfl,rfl⟩⟩
 .subst ho;obtain rfl:=no rfl;obtain⟨k,rfl,h1,_⟩:=hL;obtain⟨v,h2,h3⟩:=ag.inp k t h1;refine ry (wf (by omega) (by omega) (by omega)) Kx ha.pl (ex _ λ_=>⟨?_,?_⟩)
  .show Wp ((idx env.2.1 (k:Int)).bind λx1=>(M.cA aU x1).bind λy2=>aa y2) _
   rw[lK h2];simp only[aiA,dI];exact .some (ao h3.1)
  .show Wp ((idx env.2.1 (k:Int)).bind λx2=>aa (x2,(0:Int))) _
   rw[lK h2];exact .some ⟨c0,λ_=>h3.2⟩
 .subst ho;obtain rfl:=no rfl;obtain⟨k,rfl,h1,_⟩:=hL;obtain⟨v,h2,h3⟩:=ag.dfs k t h1;have hk:k<env.2.2.1.length:=(aiP.1 h2).1;refine ry (wf (by omega) (by omega) (by omega)) Kx ha.pl ?_
  refine Wp.of (x:= !decide ((v.1:Int)=0)) ?_ λhx=>?_
  .unfold M.iW;dsimp only[aA,Row.den];rw[lK h2];simp[hk]
  have h3:=h3.resolve_right (by simpa using hx);refine⟨?_,?_⟩
  .show Wp ((idx env.2.2.1 (k:Int)).bind λx1=>(M.cA aU x1).bind λy2=>aa y2) _
   rw[lK h2];simp only[aiA,dI];exact .some (ao h3.1)
  .show Wp ((idx env.2.2.1 (k:Int)).bind λx2=>aa (x2,(0:Int))) _
   rw[lK h2];exact .some ⟨c0,λ_=>h3.2⟩
 .subst ho;obtain rfl:=no rfl;refine ry (wf (by omega) (by omega) (by omega)) Kx ha.pl (ex _ λ_=>⟨?_,?_⟩)
  .rw[tf (by omega) (by omega) (by omega) (by omega) (by omega)];exact .some rfl
  .exact .of (x:=(((5:Int),((0:Int),env.1)),(0:Int))) rfl ⟨c0,λ_=>⟨rfl,rfl⟩⟩
 .obtain⟨v,rfl,hv⟩:=HC ha;obtain⟨k,T,h1,v1,v2,rfl,h3⟩:=hT;obtain⟨T',g1,g2,g3⟩:=ag.tbs k T h1;have hTl:=he.2 T' (List.mem_of_getElem? g1)
  rcases h3 with⟨rfl,m0,m1,m2,hw,k1,k2,rfl⟩|⟨dA,rfl,rfl⟩
  .have key:T'.2.1=((3,0):Int×Int):=by
    rw[g2];refine Prod.ext k1 ?_;unfold lq at v1;rw[k1]at v1
    rcases v1 with h|h
    .exact h.2.2
    .exact absurd h.1 (by decide)
   have val:T'.2.2.1=((4,0):Int×Int):=by
    rw[g3];refine Prod.ext k2 ?_;unfold lq at v2;rw[k2]at v2
    rcases v2 with h|h
    .exact h.2.2
    .exact absurd h.1 (by decide)
   refine ry (by grind) Kx ha.pl (ex _ λ_=>⟨?_,?_⟩)
   .unfold M.bW;dsimp only[aA,Row.den];rw[hw,lK g1];simp only[aiA,mM];rw[key,val,show(v.1:Int)=3 from hv.2.1.trans k1];exact .of (x:=af) rfl rfl
   .unfold M.bY;dsimp only[aA,Row.den];rw[hw,lK g1];simp only[aiA,mM]
    show Wp ((M.iY aU T' env.1 v.2.2 (ai3 m 8)).bind λy12=>aa (((3:Int),((0:Int),y12.1)),y12.2)) _
    refine Wp.seq _ (uU ⟨m1,m2⟩ key val hTl) λr hr=> .some ⟨hr.c3,λ_=>?_⟩
    grind
  .obtain rfl:op=33:=by omega
   refine ry (wf (by omega) (by omega) (by omega)) Kx ha.pl (ex _ λ_=>⟨?_,?_⟩)
   .unfold M.bW;dsimp only[aA,Row.den];rw[lK g1];simp only[aiA,mM,r7];rw[g2,g3,ao hv];unfold lq at v2;refine .of (x:=af) ?_ rfl
    grind
   .unfold M.bY;dsimp only[aA,Row.den];rw[lK g1];simp only[aiA,mM]
    show Wp ((M.kO aU T' env.1 v.2.2).bind λy8=>if(!y8.2)=af then aa (((0:Int),((0:Int),(0:Int))),(6:Int))else(idx T'.2.2.2 y8.1).bind λx9=>aa ((T'.2.2.1.1,(T'.2.2.1.2,x9.2.2.2)),(0:Int))) _
    refine Wp.seq _ (zJ _ _ _ hTl) λr hr=>?_
    refine Wp.ite (λ_=> .some ⟨.inr (.inr (.inl rfl)),λg=>by cases g⟩) λhc=>?_
    obtain⟨a,b⟩:=hr (by simpa using hc);refine Wp.bind (Wp.ff a b λz _ _=> .some ⟨c0,λ_=>?_⟩)
    grind
 .subst ho;obtain rfl:=no rfl;refine ry (wf (by omega) (by omega) (by omega)) Kx ha.pl (ex _ λ_=>⟨?_,?_⟩)
  .rw[tf (by omega) (by omega) (by omega) (by omega) (by omega)];exact .some rfl
  .exact .of (x:=(((2:Int),((0:Int),(env.2.2.2.1.length:Int))),(0:Int))) rfl ⟨c0,λ_=>⟨rfl,rfl⟩⟩
 .obtain rfl:=no (by rcases ho with h|h|h|h<;>rw[h]<;>rfl);obtain⟨k,rfl,h1,hvt⟩:=hL;have g1:=ag.mts k t h1;obtain⟨hk,hkt⟩:=aiP.1 g1
  have t5:(t.1:Int)≠6:=by
   intro h6
   rcases ho with h|h|h|h
   .grind
   .grind
   .grind
   .grind
  have t2:(t.2:Int)=0:=by
   unfold lq at hvt
   rcases hvt with h|h
   .exact h.2.2
   .exact absurd h.1 t5
  have alw:Us op t:=by
   refine⟨t2,?_⟩
   rcases ho with rfl|rfl|rfl|rfl
   .grind
   .grind
   .grind
   .grind
  refine ry (wf (by omega) (by omega) (by omega)) Kx ha.pl (ex _ λ_=>⟨?_,?_⟩)
  .unfold M.bW;dsimp only[aA,Row.den];rw[ta,aq (show¬op=7 by omega),aq (show¬op=8 by omega),aq (show¬op=33 by omega),aq (show¬op=34 by omega),ao ho];simp only[aiK,if_false,if_true,aiA];rw[lK g1];simp only[aiA,oI];exact .some (ao alw)
  .unfold M.bY;dsimp only[aA,Row.den];rw[DK,ta,aq (show¬(op=1\/op=2\/op=3\/op=4\/op=5) by omega),aq (show¬op=6 by omega),aq (show¬op=7 by omega),aq (show¬op=8 by omega),aq (show¬op=9 by omega),aq (show¬op=35 by omega),ao ho];simp only[aiK,if_false,if_true,aiA];rw[ql (by unfold aU;omega) ho hk he.1 (by rw[hkt];exact alw),hkt];exact .some (Qj (λl hl=>ag.mem l hl k t h1) t2)
 .have hp:Ep op:=by
   unfold Ep
   rcases hR with⟨h,_⟩|⟨h,_⟩|⟨h,_⟩|⟨h,_⟩|⟨h,_⟩|⟨h,_⟩|⟨h,_⟩|⟨h,_⟩|⟨h,_⟩|⟨h,_⟩|⟨h,_⟩|⟨h,_⟩|⟨h,_⟩|⟨h,_⟩|⟨h,_⟩<;>omega
  unfold Ep at hp;exact ry (wf hm (by omega) (by omega)) Kx ha.pl (ex _ λ_=>NG hm hR ha)
end L.P
namespace L.P
def DY{g:Nat->Vl×Int}:∀{os:List Nat}{c:Int},iJ g os= .inr c->c≠0
 |[],c,h=>by cases h
 |o::os,c,h=>by
  rw[iJ]at h;split at h
  .cases hq:iJ g os with
   |inl vs=>rw[hq]at h;cases h
   |inr d=>rw[hq]at h;cases h;exact DY hq
  .rename_i h0;cases h;exact h0
def Gp{st:List Nat}:∀{i:Nat}{l:List Nat},Ch st i l->∀a:Nat,a<=l.length->opsL st l.length i=opsL st (l.length-a) (p9 (a:Int) i l)++opsL st a i:=by
 intro i l c
 induction c with
 |nil=>
  intro a ha
  obtain rfl:a=0:=by simpa using ha
  simp[opsL]
 | @snoc j s l h1 h2 c ih=>
   intro a ha;rw[List.length_append,List.length_singleton]at ha⊢
   have hg:st.getD (j+1-1) 0=s:=by simp[List.getD,h1]
   cases a with
   |zero=>simp[p9,opsL]
   |succ a=>
    have e1:opsL st (l.length+1) (j+1)=opsL st l.length s++[j]:=by rw[opsL,hg];rfl
    have e2:opsL st (a+1) (j+1)=opsL st a s++[j]:=by rw[opsL,hg];rfl
    rw[e1,e2,ih a (by omega),List.append_assoc]
    have e3:l.length+1-(a+1)=l.length-a:=by omega
    rw[e3]
    congr 1
    have en:((a+1:Nat):Int).toNat=a+1:=by omega
    have s1:p9 ((a+1:Nat):Int) (j+1) (l++[s])=(l++[s]).getD (l.length-a) 0:=by
     unfold p9;rw[aj (by omega),List.length_append,List.length_singleton,en,e3]
    rw[s1];unfold p9;by_cases h0:(a:Int)=0
    .rw[al h0]
     have:a=0:=by omega
     subst this;simp[List.getD]
    .rw[aj h0,aiI]
     have aH:l.length-a<l.length:=by omega
     simp[List.getD,ajw aH]
def Qk{e:List Ty}{st:List Nat}(w:Whole e st){l:List Nat}(c:Ch st e.length l):opsL st l.length e.length=[e.length-1]:=by
 have hp:0<e.length:=List.length_pos_iff.2 w.ne
 have h1:l.length=1:=by
  have:=(c.one hp).2 w.one;have:=List.length_pos_iff.2 (c.pos hp);omega
 rw[h1,opsL];rfl
end L.P
namespace L.P
def Typ(e:List Ty)(st:List Nat)(s:Sg)(ty:Nat->Ty)(i:Nat):Prop:=
 ∀h:i<e.length,((e[i].2:Int)=0\/us e[i].1)/\NT e[i].1 e[i].2 ((opsL st (ar e[i].1).toNat i).map ty) s (ty i)
def HE{e:List Ty}{st:List Nat}(v:DN e st){i:Nat}(h:i<e.length):∀o∈opsL st (ar e[i].1).toNat i,o<i:=λo ho=>(v.ops h o ho).1
def Gq{st l:List Nat}{i:Nat}(c:Ch st i l){a:Nat}(ha:a<=l.length):∀o∈opsL st a i,o<i:=λo ho=>(Nu c a ha o ho).1
def Kj{e:List Ty}{s:Sg}(hw:∀n∈e,WF az n):Wp (M.gL aU e s) λr=>r.2.2=0->∃st,Whole e st/\∃ty:Nat->Ty,r.1=ty (e.length-1)/\∀i,Typ e st s ty i:=by
 unfold M.gL;rw[pe];simp only[aiA]
 rcases xz e with Xg|⟨st,w⟩
 .rw[al (by simp[Xg])]
  exact .some λh=>absurd h Xg
 rw[w.res];simp only;rw[aj (by simp)];have hp:0<e.length:=List.length_pos_iff.2 w.ne;have hle:=w.le;refine Wp.join (Wp.loop (λq:Int×List Ty=>∃k:Nat,q.1=k/\k<=e.length/\∃l,Ch st k l/\∃ty:Nat->Ty,q.2=(opsL st l.length k).map ty/\∀j,j<k->Typ e st s ty j) (λq=>(e.length-q.1).toNat) ⟨0,rfl,Nat.zero_le _,[], .nil,λ_=>((0:Int),(0:Int)),rfl,λj h=>by omega⟩ (by unfold aU;simp only;omega) ?_)
 rintro⟨_,mg⟩ ⟨k,rfl,hk,l,hc,ty,NI,TS⟩
 dsimp only at NI⊢
 refine Wp.dec (λaH=>?_) λhge=> .some ?_
 .have aH:k<e.length:=by omega
  have hwn:=hw _ (aiF aH);obtain⟨v1,l',v2,v3,v4,v5⟩:=w.val.node k aH;obtain rfl:=v2.JR hc;have Uo:=p8 e[k].1
  have gW:mg.length=l'.length:=by rw[NI,ajn,jP]
  rw[aC aH];simp only[aiA,nh]
  refine Wp.seq (λj=>j=ah->((e[k].2:Int)=0\/us e[k].1)) ?_ λj hj=>?_
  .refine Wp.iM (λ_=>Wp.seq _ (Hz ..) λy hy=> .some λh=> .inr (hy.1 (by simpa using h))) λh=> .some λ_=> .inl h
  refine Wp.ite (λ_=> .some ?_) λhcj=>?_
  .show(2:Int)=0->_
   exact λh=>by cases h
  have X5:=hj (by simpa using hcj)
  obtain⟨a,ha⟩:∃a:Nat,ar e[k].1=a:=⟨(ar e[k].1).toNat,by omega⟩
  have RG:(ar e[k].1).toNat=a:=by omega
  have NJ:=hc.next v1 v3 v5;rw[RG]at v3 NJ;rw[ha]at NJ v5
  have wl:aiB.wrap ((mg.length:Int)-ar e[k].1)=((mg.length-a:Nat):Int):=by rw[bH (by omega) (by omega)];omega
  rw[wl,vL (mg.length-a) mg.length rfl rfl (by omega) (aiH _),oB (by omega),List.take_length];simp only[aiA];have Gr:=Gp hc a v3
  have Lm:mg.drop (mg.length-a)=(opsL st a k).map ty:=by
   rw[gW,NI,<-List.map_drop,Gr,List.drop_append_of_le_length (by rw[jP];exact aiH _),List.drop_of_length_le (by rw[jP];exact aiH _),List.nil_append]
  have BD:mg.take (mg.length-a)=(opsL st (l'.length-a) (p9 (a:Int) k l')).map ty:=by
   rw[gW,NI,<-List.map_take,Gr,List.take_append_of_le_length (by rw[jP];exact aiH _),List.take_of_length_le (by rw[jP];exact aiH _)]
  rw[Lm,BD];have hm:(e[k].2:Int)<=9223372036854775807:=hwn.2.2;have X6:=Qh aU e[k].1 e[k].2 hm ((opsL st a k).map ty) s (by rw[ajn,jP];exact ha.symm)
  refine Wp.seq _ X6 λr hr=>?_
  refine Wp.iM (λh=> .some ?_) λh0=>?_
  .exact λg=>absurd g h
  have hr:=hr h0;rw[eJ (by simp[jP];omega)];simp only[aiA];rw[aQ (by omega)];refine .some ⟨⟨k+1,rfl,aH,_,NJ,λi=>if i=k then r.1 else ty i,?_,λj hj h=>?_⟩,by simp only;omega⟩
  .have e1:(l'.take (l'.length-a)++[p9 (a:Int) k l']).length=l'.length-a+1:=by simp
   have hg:st.getD (k+1-1) 0=p9 (a:Int) k l':=by simp[List.getD,v5]
   have e2:opsL st (l'.length-a+1) (k+1)=opsL st (l'.length-a) (p9 (a:Int) k l')++[k]:=by rw[opsL,hg];rfl
   have e3:(opsL st (l'.length-a) (p9 (a:Int) k l')).map (λi=>if i=k then r.1 else ty i)=(opsL st (l'.length-a) (p9 (a:Int) k l')).map ty:=List.map_congr_left λo ho=>by
    have:o<k:=Gq hc (aiH _) o (by rw[Gr];exact List.mem_append_left _ ho);rw[aj (by omega)]
   rw[e1,e2,List.map_append,e3];simp
  .have same:∀i,i<=k->∀o∈opsL st (ar e[j].1).toNat j,(if o=k then r.1 else ty o)=ty o:=λi _ o ho=>by
    have:=HE w.val h o ho;rw[aj (by omega)]
   rw[List.map_congr_left (same k (aiH _))];by_cases XO:j=k
   .subst XO;refine⟨X5,?_⟩;dsimp only;rw[al rfl,RG];exact hr
   .dsimp only;rw[aj XO];exact TS j (by omega) h
 .obtain rfl:k=e.length:=by omega
  show Wp ((idx mg 0).bind _) _
  rw[NI,Qk w hc]
  exact .some λ_=>⟨st,w,ty,rfl,λi h=>TS i h h⟩
def DZ{g:Nat->Vl×Int}{ty:Nat->Ty}:∀{os:List Nat},(∀o∈os,mq (ty o) (g o))->(∀vs,iJ g os= .inl vs->uy vs (os.map ty))/\∀c,iJ g os= .inr c->C3 c
 |[],_=>⟨λvs h=>by cases h;trivial,λc h=>by cases h⟩
 |o::os,h=>by
  obtain⟨i1,i2⟩:=DZ (os:=os) λx hx=>h x (List.mem_cons_of_mem _ hx)
  obtain⟨t1,t2⟩:=h o (List.mem_cons_self ..);rw[iJ];split
  .rename_i h0
   cases hq:iJ g os with
   |inl vs=>exact⟨λws hw=>by cases hw;exact⟨t2 h0,i1 vs hq⟩,λc hc=>by cases hc⟩
   |inr d=>exact⟨λws hw=>(by cases hw),λc hc=>by cases hc;exact i2 _ hq⟩
  .exact⟨λws hw=>(by cases hw),λc hc=>by cases hc;exact t1⟩
def Ql{r:Vl×Int}{t:Ty}(h:mq t r)(ht:(t.1:Int)=1):(iK r).2=r.2/\(r.2=0->(iK r).1=r.1):=by
 unfold iK;by_cases h0:r.2=0
 .rw[aj (λg=>g h0),al ⟨(h.2 h0).2.1.trans ht,(h.2 h0).1⟩];exact⟨h0.symm,λ_=>rfl⟩
 .rw[al h0];exact⟨rfl,λg=>absurd g h0⟩
def Bo{r:Vl×Int}{t:Ty}(h:mq t r)(ht:(t.1:Int)=1):mq t (iK r):=by
 obtain⟨h1,h2⟩:=Ql h ht;exact⟨by rw[h1];exact h.1,λg=>by rw[h2 (h1▸g)];exact h.2 (h1▸g)⟩
def Bp{r:Vl×Int}{a:Ty}(h:mq a r)(ha:(a.1:Int)=1):mq ((1:Int),(0:Int)) r:=
 ⟨h.1,λg=>⟨(h.2 g).1,(h.2 g).2.1.trans ha,(h.2 g).2.2.trans (DV (h.2 g) (by rw[ha];decide))⟩⟩
def Qm{op:Int}{ts:List Ty}{t:Ty}(hz:ni op)(h:RT op ts t):((op=23\/op=24)/\∃a b:Ty,ts=[a,b]/\(a.1:Int)=1/\(b.1:Int)=1/\t=((1:Int),(0:Int)))\/(op=26/\∃a b:Ty,ts=[a,b,b]/\(a.1:Int)=1/\t=b):=by
 unfold ni at hz
 rcases h with⟨h,_⟩|⟨h,_⟩|⟨h,_⟩|⟨h,_⟩|⟨h,_⟩|⟨h,_⟩|⟨h,_⟩|⟨h,_⟩|⟨h,_⟩|⟨h,_⟩|⟨h,_⟩|h|h|⟨h,_⟩|⟨h,_⟩
 case inr.inr.inr.inr.inr.inr.inr.inr.inr.inr.inr.inl=>exact .inl h
 case inr.inr.inr.inr.inr.inr.inr.inr.inr.inr.inr.inr.inl=>exact .inr h
 all_goals omega
def xC{e:List Ty}{st:List Nat}{s:Sg}{ty:Nat->Ty}{env:eN.den}(w:Whole e st)(he:lv env)(ag:X4 s env)(TS:∀i,Typ e st s ty i):∀(f i:Nat),i<f->i<e.length->mq (ty i) (nk (Kc env) e st f i)
 |0,i,hf,_=>by omega
 |f+1,i,hf,hi=>by
  have ih:=xC w he ag TS f;have aH:=HE w.val hi;obtain⟨X5,X6⟩:=TS i hi;obtain⟨v1,_⟩:=w.val.node i hi
  have hge:e.getD i ((0,0):Int×Int)=e[i]:=by simp only[List.getD,aiE hi,Option.getD_some]
  have hlen:=jP st (ar e[i].1).toNat i
  have Uv:∀o∈opsL st (ar e[i].1).toNat i,mq (ty o) (nk (Kc env) e st f o):=λo ho=>ih o (by have:=aH o ho;omega) (by have:=aH o ho;omega)
  rw[nk,hge];generalize hn:e[i]=n at*;obtain⟨(op:Int),(m:Int)⟩:=n;dsimp only[aA,Row.den]at*;generalize opsL st (ar op).toNat i=os at*;generalize nk (Kc env) e st f=g at*;by_cases hz:ni op
  .rw[al hz]
   have hR:RT op (os.map ty) (ty i):=by
    unfold ni at hz
    rcases X6 with⟨ho,_⟩|⟨ho,_⟩|⟨ho,_⟩|⟨ho,_⟩|⟨ho,_⟩|⟨ho,_⟩|⟨ho,_⟩|⟨ho,_⟩|⟨_,hR⟩
    .omega
    .omega
    .omega
    .omega
    .omega
    .omega
    .omega
    .omega
    .exact hR
   unfold Nv;dsimp only;have OA:m=0:=X5.resolve_right (by unfold ni at hz;unfold us;omega);rw[aj (λh=>h OA)]
   rcases Qm hz hR with⟨ho,a,b,Ou,ha,hb,ht⟩|⟨ho,a,b,Ou,ha,ht⟩
   .obtain⟨o1,o2,rfl⟩:=Xc (l:=os) (by rw[<-ajn (f:=ty),Ou];rfl);simp only[List.map_cons,List.map_nil,ajt,and_true]at Ou;have h1:=Uv o1 (by simp);have h2:=Uv o2 (by simp);rw[Ou.1]at h1;rw[Ou.2]at h2;have t1:=Bp (Bo h1 ha) ha;have t2:=Bp (Bo h2 hb) hb;rw[ht]
    show mq _ (if(iK (g o1)).2≠0 then(z3,(iK (g o1)).2)else if op=26/\((iK (g o1)).1.2.2:Int)=1 then g o2 else if op=26 then _ else if(op=23)=(((iK (g o1)).1.2.2:Int)=0)then((iK (g o1)).1,0)else iK (g o2))
    by_cases h0:(iK (g o1)).2≠0
    .rw[al h0];exact⟨t1.1,λh=>absurd h h0⟩
    .rw[aj h0,aj (by omega),aj (by omega)];split
     .exact⟨.inl rfl,λ_=>t1.2 (by omega)⟩
     .exact t2
   .obtain⟨o1,o2,o3,rfl⟩:=Xd (l:=os) (by rw[<-ajn (f:=ty),Ou];rfl);simp only[List.map_cons,List.map_nil,ajt,and_true]at Ou;have h1:=Uv o1 (by simp);have h2:=Uv o2 (by simp);have h3:=Uv o3 (by simp);rw[Ou.1]at h1;rw[Ou.2.1]at h2;rw[Ou.2.2]at h3;have t1:=Bp (Bo h1 ha) ha;rw[ht]
    show mq _ (if(iK (g o1)).2≠0 then(z3,(iK (g o1)).2)else if op=26/\((iK (g o1)).1.2.2:Int)=1 then g o2 else if op=26 then g o3 else _)
    by_cases h0:(iK (g o1)).2≠0
    .rw[al h0];exact⟨t1.1,λh=>absurd h h0⟩
    .rw[aj h0];split
     .exact h2
     .exact h3
  .rw[aj hz];obtain⟨i1,i2⟩:=DZ Uv
   cases hq:iJ g os with
   |inr c=>exact⟨i2 c hq,λh=>absurd h (DY hq)⟩
   |inl vs=>
    obtain⟨r,hr,np⟩:=NH he ag X6 v1 X5 (by rw[ajn,hlen];omega) (i1 vs hq)
    show mq (ty i) ((M.fu aU (op,m) vs env).getD (z3,0))
    rw[hr];exact np
end L.P
namespace L.P
def HF{e:List Ty}{s:Sg}(Ut:∀n∈e,WF az n){r:Ty×Int×Int}(hT:M.gL aU e s=aa r)(h0:r.2.2=0){env:eN.den}(he:lv env)(ag:X4 s env):Wp (M.dW aU e env) (mq r.1):=by
 obtain⟨r',er,hr⟩:=Kj (s:=s) Ut;rw[hT]at er;obtain rfl:=aiC er;obtain⟨st,w,ty,Iw,TS⟩:=hr h0;have pw:0<e.length:=List.length_pos_iff.2 w.ne;rw[xA w he Ut,Iw];exact .some (xC w he ag TS e.length (e.length-1) (by omega) (by omega))
end L.P
namespace L
def zM{e:List Ty}{s:sa}{t:Ty}(h:wZ e s t=0):(JB e s).2.2=0/\(JB e s).1=t:=by
 unfold wZ at h;by_cases h1:(JB e s).2.2=0
 .rw[aj (λg=>g h1)]at h;by_cases h2:(JB e s).1=t
  .exact⟨h1,h2⟩
  .rw[al h2]at h;cases h
 .rw[al h1]at h;exact absurd h h1
def OfT(e:List Ty)(s:sa)(t:Ty):Prop:=∃r,M.gL aU e s=aa r/\r.2.2=0/\r.1=t
def xD{l:Lw}{x:fY}(hw:WF aP x){j:Nat}(hj:j<x.2.2.2.2.length)(h0:uf l x j x.2.2.2.2[j]=0):
 (∃k,∃hk:k<x.2.2.2.1.length,(x.2.2.2.2[j].2.1:Int)=(k:Int)/\OfT x.2.2.2.2[j].2.2.2.2.2.2.1 (gp l x) x.2.2.2.1[k].2)/\(0<x.2.2.2.2[j].2.2.2.2.2.1.length->OfT x.2.2.2.2[j].2.2.2.2.2.1 (gp l x) ((1:Int),(0:Int))):=by
 have zq:=hw.2.2.2.2.2 _ (aiF hj);obtain⟨_,_,hd,_,_,_,_,hg,hv⟩:=Hv.1 h0;generalize x.2.2.2.2[j]=r at*
 obtain⟨(d:Int),OV⟩:∃d:Int,d=r.2.1:=⟨_,rfl⟩
 rw[<-OV]at hd;have hd0:(0:Int)<=d:=hd.1;have xP:d<(x.2.2.2.1.length:Int):=hd.2;obtain⟨k,hk⟩:=aiL hd0
 have kG:(r.2.1:Int)=(k:Int):=by rw[<-OV,hk]
 have JW:k<x.2.2.2.1.length:=by omega
 rw[kG,aiI,aiE JW]at hv;obtain⟨v1,v2⟩:=zM hv;refine⟨⟨k,JW,kG,_,mq.all _ _ zq.2.2.2.2.2.2.1.2,v1,v2⟩,λh=>?_⟩;obtain⟨g1,g2⟩:=zM (hg h);exact⟨_,mq.all _ _ zq.2.2.2.2.2.1.2,g1,g2⟩
abbrev Vl:Type:=aB.den
def Uw(vs:List Vl)(fs:List Fd):Prop:=vs.length=fs.length/\∀(k:Nat)(v:Vl)(f:Fd),vs[k]? =aa v->fs[k]? =aa f->P.jO v f.2
def NK(vs:List Vl)(fs:List Fd):Prop:=vs.length=fs.length/\∀(k:Nat)(v:Vl)(f:Fd),vs[k]? =aa v->fs[k]? =aa f->P.jO v f.2\/(v.1:Int)=0
def X7(l:Lw):Prop:=l.1.length<=8/\∀e∈l.1,e.2.length<=16
def Valid.enl{l:Lw}(h:Valid l):X7 l:=by
 obtain⟨h1,_,_,h4,_⟩:=h.scopes;refine⟨h1,λe he=>?_⟩;obtain⟨k,hk,rfl⟩:=aiV he;have:=h4 k hk;unfold pq at this;rw[aiE hk]at this;dsimp only at this;split at this
 .cases this
 split at this
 .cases this
 split at this
 .cases this
 split at this
 .cases this
 omega
def TT{l:Lw}(hE:X7 l){t:Ty}{v:Vl}(h1:(v.1:Int)=t.1)(h2:(v.2.1:Int)=t.2)(h3:¬((v.2.2:Int)<(Je t l.1).1\/(Je t l.1).2<(v.2.2:Int))):P.jO v t:=by
 obtain⟨(a:Int),(b:Int),(n:Int)⟩:=v;obtain⟨(k:Int),(e:Int)⟩:=t;dsimp only[aA,Row.den]at*;subst h1 h2;unfold Je at h3;by_cases hv:lq (a,b) l.1.length
 .rw[aj (λg=>g hv)]at h3;refine⟨?_,rfl,rfl⟩;unfold P.eY;unfold lq at hv;dsimp only[aA,Row.den]at*;by_cases c1:a=1
  .rw[al c1]at h3;dsimp only at h3;omega
  rw[aj c1]at h3;by_cases c2:a=2
  .rw[al c2]at h3;dsimp only at h3;omega
  rw[aj c2]at h3;by_cases c3:a=3
  .rw[al c3]at h3;dsimp only at h3;omega
  rw[aj c3]at h3;by_cases c4:a=4
  .rw[al c4]at h3;dsimp only at h3;omega
  rw[aj c4]at h3;by_cases c5:a=5
  .rw[al c5]at h3;dsimp only at h3;omega
  rw[aj c5]at h3;dsimp only at h3;have h8:=hE.1
  have hb:(0:Int)<=b/\b<(l.1.length:Int):=by omega
  have Ur:b.toNat<l.1.length:=by omega
  have Wr:=hE.2 _ (aiF Ur);rw[aiE Ur]at h3;dsimp only[Option.map_some,Option.getD_some]at h3;rw[bH (by omega) (by omega)]at h3;omega
 .rw[al hv]at h3;dsimp only at h3;omega
def qs{l:Lw}(hE:X7 l)(vs:List Vl)(fs:List Fd)(h1:vs.length<=100000)(h2:fs.length<=100000):Wp (M.ey aU l vs fs) λr=>r.2=0->Uw vs fs:=by
 unfold M.ey
 refine Wp.dec (λ_=> .some λh=>by cases h) λc1=>?_
 refine Wp.dec (λ_=> .some λh=>by cases h) λc2=>?_
 have hl:vs.length=fs.length:=by omega
 refine Wp.count (λs=>s) vs.length (λk _=>∀(j:Nat)(v:Vl)(f:Fd),j<k->vs[j]? =aa v->fs[j]? =aa f->P.jO v f.2) (by omega) rfl (λj v f h=>by omega) λk s hk hs hJ=>?_
 obtain rfl:s=_:=hs
 refine Wp.dec (λaH=>?_) λhge=> .some λ_=>⟨hl,λj v f hv hf=>hJ j v f ?_ hv hf⟩
 .have aH:k<vs.length:=by omega
  rw[aC aH,aiA,aC (show k<fs.length by omega),aiA]
  refine Wp.seq (λj=>j=ah->(vs[k].1:Int)=fs[k].2.1/\(vs[k].2.1:Int)=fs[k].2.2) ?_ λj hj=>?_
  .exact Wp.iM (λ_=> .some λh=>by cases h) λh=> .some λg=>⟨h,by simpa using g⟩
  refine Wp.ite (λ_=> .some λh=>by cases h) λc3=>?_
  obtain⟨g1,g2⟩:=hj (by simpa using c3);rw[AU,aiA]
  refine Wp.seq (λj=>j=ah->¬((vs[k].2.2:Int)<(Je fs[k].2 l.1).1\/(Je fs[k].2 l.1).2<(vs[k].2.2:Int))) ?_ λj hj=>?_
  .exact Wp.dec (λ_=> .some λh=>by cases h) λh=> .some λg=>λo=>o.elim h (by simpa using g)
  refine Wp.ite (λ_=> .some λh=>by cases h) λc4=> .some ⟨aH,cK (m:=vs.length) (by omega) aH,λj v f Oh hv hf=>?_⟩
  by_cases e:j<k
  .exact hJ j v f e hv hf
  .obtain rfl:j=k:=by omega
   rw[aiE aH]at hv;rw[aiE (show j<fs.length by omega)]at hf;obtain rfl:=aiC hv;obtain rfl:=aiC hf;exact TT hE g1 g2 (hj (by simpa using c4))
 .have:=(aiP.1 hv).1;omega
structure zN(l:Lw)(x:fY)(c:dT.den):Prop where
 date:(0:Int)<=c.1/\(c.1:Int)<=109572
 inp:Uw c.2.1 x.2.2.1
 le:c.2.2.length<=8
 mem:∀vs∈c.2.2,∃k,∃hk:k<l.2.2.length,(x.2.1:Int)=(k:Int)/\Uw vs l.2.2[k].2.2.1
def Qn{l:Lw}(hE:X7 l)(fO:fI l){k:Nat}(hk:k<l.2.2.length)(c:dT.den)(h1:c.2.1.length<=14)(h2:c.2.2.length<=10)(h3:∀vs∈c.2.2,vs.length<=14):Wp (M.b8 aU l (k:Int) c) λr=>r.2.2=0->zN l l.2.2[k] c:=by
 have tg:=fO.2.2.2.2.2 _ (aiF hk);unfold M.b8
 refine Wp.seq (λ_=>True) (Wp.dec (λ_=> .some trivial) λ_=> .some trivial) λj1 _=>?_
 refine Wp.ite (λ_=> .some λh=>by cases h) λ_=>?_
 refine Wp.seq (λj=>j=ah->(0:Int)<=c.1/\(c.1:Int)<=109572) ?_ λj2 T6=>?_
 .refine Wp.dec (λ_=> .some λh=>by cases h) λh=> .some λg=>?_
  have g:=of_decide_eq_false g;exact⟨Int.not_lt.1 h,Int.not_lt.1 g⟩
 refine Wp.ite (λ_=> .some λh=>by cases h) λc2=>?_
 have hdt:=T6 (by simpa using c2);rw[aC hk,aiA]
 refine Wp.seq _ (qs hE c.2.1 l.2.2[k].2.2.1 (by omega) (by have:=tg.2.1;omega)) λy4 hy4=>?_
 refine Wp.iM (λh=> .some λg=>absurd g h) λc4=>?_
 have cL:=hy4 c4
 have Ry:Wp (M.fF aU l (k:Int)) λy=>(y.2:Int)<=8/\((y.2:Int)=0\/∃q,∃hq:q<l.2.2.length,(l.2.2[k].2.1:Int)=(q:Int)/\y.1=l.2.2[q].2.2.1)/\y.1.length<=14:=by
  unfold M.fF;rw[aC hk,aiA]
  refine Wp.seq (λj=>j=ah->(0:Int)<=l.2.2[k].2.1/\(l.2.2[k].2.1:Int)<(l.2.2.length:Int)) ?_ λj hj=>?_
  .refine Wp.dec (λ_=> .some λh=>by cases h) λh=> .some λg=>?_
   have g:=of_decide_eq_false g;exact⟨Int.not_lt.1 h,Int.not_le.1 g⟩
  refine Wp.ite (λ_=> .some ⟨by show(0:Int)<=8;omega, .inl rfl,by simp⟩) λc=>?_
  obtain⟨g1,g2⟩:=hj (by simpa using c);obtain⟨q,hq⟩:=aiL g1;have g3:(q:Int)<(l.2.2.length:Int):=hq▸g2
  have Gf:q<l.2.2.length:=by omega
  have e:idx l.2.2 l.2.2[k].2.1=aa l.2.2[q]:=by
   rw[show idx l.2.2 l.2.2[k].2.1=idx l.2.2 (q:Int)from aw _ hq,aC Gf]
  rw[e,aiA];exact .some ⟨by show(8:Int)<=8;omega, .inr ⟨q,Gf,hq,rfl⟩,(fO.2.2.2.2.2 _ (aiF Gf)).2.1⟩
 refine Wp.seq _ Ry λy5 hy5=>?_
 obtain⟨i1,i2,i3⟩:=hy5
 refine Wp.dec (λ_=> .some λh=>by cases h) λc5=>?_
 have h8:c.2.2.length<=8:=by omega
 refine Wp.count (λs=>s) c.2.2.length (λm _=>∀j(h:j<c.2.2.length),j<m->Uw c.2.2[j] y5.1) (by omega) rfl (λj h g=>by omega) λm s hm hs hJ=>?_
 obtain rfl:s=_:=hs
 refine Wp.dec (λaH=>?_) λhge=> .some λ_=>⟨hdt,cL,h8,λvs Sq=>?_⟩
 .have aH:m<c.2.2.length:=by omega
  rw[aC aH,aiA]
  refine Wp.seq _ (qs hE c.2.2[m] y5.1 (by have:=h3 _ (aiF aH);omega) (by omega)) λy8 hy8=>?_
  refine Wp.iM (λh=> .some λg=>absurd g h) λc8=> .some ⟨aH,cK (m:=c.2.2.length) (by omega) aH,λj h hj=>?_⟩
  by_cases e:j<m
  .exact hJ j h e
  .obtain rfl:j=m:=by omega
   exact hy8 c8
 .obtain⟨j,hj,rfl⟩:=aiV Sq
  rcases i2 with i2|⟨q,hq,e1,e2⟩
  .omega
  .exact⟨q,hq,e1,e2▸hJ j hj (by omega)⟩
abbrev xE:=eN.den
structure Gs(l:Lw)(x:fY)(d:Int)(env:xE):Prop where
 date:env.1=d
 inp:Uw env.2.1 x.2.2.1
 dfs:NK env.2.2.1 x.2.2.2.1
 mts:env.2.2.2.2.1=(gp l x).2.2.2.2.1
 lem:env.2.2.2.1.length<=100
 mem:∀D∈env.2.2.2.1,∀(k:Nat)(t:Ty),(gp l x).2.2.2.2.1[k]? =aa t->∃v,D[k]? =aa v/\(P.jO v t\/(v.1:Int)=0)
 tbs:env.2.2.2.2.2=l.2.1
theorem Gs.ok{l:Lw}(hw:WF cT l){x:fY}{d:Int}{env:xE}(h:Gs l x d env):P.lv env:=by
 refine⟨h.lem,λt ht=>?_⟩;rw[h.tbs]at ht;have:=(hw.2.1.2 t ht).2.2.2.1;unfold maxLen at this;exact this
def Gs.agr{l:Lw}{x:fY}{d:Int}{env:xE}(h:Gs l x d env):P.X4 (gp l x) env:=by
 refine⟨λk t hk=>?_,λk t hk=>?_,λk t hk=>?_,h.mem,λk T hk=>?_⟩
 .have hk:(x.2.2.1.map (·.2))[k]? =aa t:=hk;rw[List.getElem?_map]at hk;obtain⟨f,hf,rfl⟩:=ajp.1 hk;have hl:=(aiP.1 hf).1
  have Oi:k<env.2.1.length:=by rw[h.inp.1];exact hl
  exact⟨_,aiE Oi,h.inp.2 k _ f (aiE Oi) hf⟩
 .have hk:(x.2.2.2.1.map (·.2))[k]? =aa t:=hk;rw[List.getElem?_map]at hk;obtain⟨f,hf,rfl⟩:=ajp.1 hk;have hl:=(aiP.1 hf).1
  have Oi:k<env.2.2.1.length:=by rw[h.dfs.1];exact hl
  exact⟨_,aiE Oi,h.dfs.2 k _ f (aiE Oi) hf⟩
 .rw[h.mts];exact hk
 .have hk:l.2.1[k]? =aa T:=hk;rw[h.tbs];exact⟨T,hk,rfl,rfl⟩
def HG{l:Lw}{x:fY}(h:¬(0:Int)<=x.2.1):(gp l x).2.2.2.2.1=[]:=by
 show(match l.2.2[(x.2.1:Int).toNat]? with|some y=>if 0<=(x.2.1:Int)then y.2.2.2.1.map (λf:Fd=>f.2)else[]|none=>[])=[]
 split
 .rw[aj h]
 .rfl
def Qo{l:Lw}{x:fY}{q:Nat}(hq:q<l.2.2.length)(h:(x.2.1:Int)=(q:Int)):(gp l x).2.2.2.2.1=l.2.2[q].2.2.2.1.map (λf:Fd=>f.2):=by
 show(match l.2.2[(x.2.1:Int).toNat]? with|some y=>if 0<=(x.2.1:Int)then y.2.2.2.1.map (λf:Fd=>f.2)else[]|none=>[])=_
 rw[h,aiI,aiE hq];dsimp only;rw[al (show(0:Int)<=(q:Int)from Int.natCast_nonneg q)]
def Ro{l:Lw}(hv:Valid l){k:Nat}(hk:k<l.2.2.length)(h:(0:Int)<=l.2.2[k].2.1):∃q,∃hq:q<l.2.2.length,(l.2.2[k].2.1:Int)=(q:Int)/\(l.2.2[q].2.1:Int)= -1:=by
 have hb:=(hv.scope k hk).2.2.1;unfold qa at hb;obtain⟨q,e⟩:=aiL h;have e':(l.2.2[k].2.1:Int)=(q:Int):=e;by_cases h1:(l.2.2[k].2.1:Int)= -1
 .have EB:((q:Nat):Int)= -1:=e'.symm.trans h1;omega
 .have hb:=λg=>hb ⟨h1,g⟩
  have XC:q<k:=by
   by_cases g:(k:Int)<=l.2.2[k].2.1
   .exact absurd (.inr (.inl g)) hb
   .have g':¬(k:Int)<=(q:Int):=λz=>g (e'▸z)
    omega
  have hq:q<l.2.2.length:=by omega
  refine⟨q,hq,e',?_⟩;by_cases g:(l.2.2[q].2.1:Int)= -1
  .exact g
  .refine absurd (.inr (.inr ⟨l.2.2[q],?_,g⟩)) hb;rw[e',aiI,aiE hq]
def NK.set{D:List Vl}{fs:List Fd}(h:NK D fs){k:Nat}{v:Vl}{f:Fd}(hf:fs[k]? =aa f)(hv:P.jO v f.2):NK (bg D (k:Int) v) fs:=by
 refine⟨by rw[b7];exact h.1,λj w g hw hg=>?_⟩;unfold bg at hw;rw[aiI,List.getElem?_set]at hw;by_cases e:k=j
 .subst e;rw[al rfl]at hw;split at hw
  .obtain rfl:=aiC hw;rw[hf]at hg;obtain rfl:=aiC hg;exact .inl hv
  .cases hw
 .rw[aj e]at hw;exact h.2 j w g hw hg
def lp{α:Type}(n:Nat)(v:α)(h:n<=100000):nu (n:Int) v=aa (aiG n v):=by
 unfold nu;rw[al (by omega),aiI]
end L
namespace L
structure NL(rules:List fZ)(T:List Nat)(S:List ik×List Int)(n k:Nat)(g:ik):Prop where
 ex:∃p,∃hp:p<T.length,p<n/\S.2[k]? =aa ((T[p]:Nat):Int)/\g=gd rules T[p]/\(gd rules T[p]).length≠0/\∀q,∀hq:q<p,(gd rules (T[q]'(by omega))).length≠0->∃k',k'<k/\S.1[k']? =aa (gd rules (T[q]'(by omega)))
def D1(rules:List fZ)(T:List Nat):∀n,n<=T.length->((T.take n).foldl (dB rules) ([],[])).1.length=((T.take n).foldl (dB rules) ([],[])).2.length/\
 ∀k g,((T.take n).foldl (dB rules) ([],[])).1[k]? =aa g->NL rules T ((T.take n).foldl (dB rules) ([],[])) n k g
 |0,_=>⟨by simp,λk g h=>by simp at h⟩
 |n+1,hn=>by
  have aH:n<T.length:=by omega
  obtain⟨h1,h2⟩:=D1 rules T n (by omega);rw[fold_succ aH];have eU:=oG rules (T.take n) ([],[]);generalize(T.take n).foldl (dB rules) ([],[])=S at*
  have Io:∀k g,S.1[k]? =aa g->NL rules T S (n+1) k g:=λk g h=>by
   obtain⟨p,hp,a,b⟩:=(h2 k g h).ex;exact⟨p,hp,by omega,b⟩
  unfold dB;split
  .exact⟨h1,Io⟩
  rename_i hg;split
  .exact⟨h1,Io⟩
  refine⟨by simp[h1],λk g h=>?_⟩;dsimp only at h⊢;by_cases hk:k<S.1.length
  .rw[ajw hk]at h;obtain⟨p,hp,a,b1,b2,b3,b4⟩:=(h2 k g h).ex;refine⟨p,hp,by omega,?_,b2,b3,λq hq dA=>?_⟩
   .rw[ajw (by omega)];exact b1
   .obtain⟨k',c1,c2⟩:=b4 q hq dA;exact⟨k',c1,by rw[ajw (by omega)];exact c2⟩
  .obtain⟨hl,rfl⟩:k=S.1.length/\g=gd rules T[n]:=by
    rw[List.getElem?_append_right (by omega)]at h
    have:k-S.1.length=0:=by
     have:=(aiP.1 h).1;simp at this;omega
    rw[this]at h;exact⟨by omega,by simpa using h.symm⟩
   subst hl;refine⟨n,aH,by omega,?_,rfl,hg,λq hq dA=>?_⟩
   .rw[List.getElem?_append_right (by omega)];simp[h1]
   .have hm:T[q]'(by omega)∈T.take n:=by
     rw[List.mem_take_iff_getElem];exact⟨q,by omega,rfl⟩
    obtain⟨c,hc,hp⟩:=fW.1 (eU _ hm dA);obtain⟨k',kG,rfl⟩:=aiV hc;have hp:=an hp;exact⟨k',kG,by rw[ajw kG,aiE kG,hp]⟩
def NM{rules:List fZ}{a d:Int}{k:Nat}{g:ik}(h:(CS rules a d).1[k]? =aa g):NL rules (TN rules a d) (CS rules a d) (TN rules a d).length k g:=by
 have:=(D1 rules (TN rules a d) _ (aiH _)).2;rw[List.take_length]at this;exact this k g h
end L
namespace L
def xs(b:Nat->Bool):Nat->Nat
 |0=>0
 |n+1=>xs b n+(if b n=af then 2 ^ n else 0)
def D2(b:Nat->Bool):∀n,xs b n<2 ^ n
 |0=>by simp[xs]
 |n+1=>by
  have:=D2 b n;unfold xs;rw[Nat.pow_succ]
  split<;>omega
def NN(b:Nat->Bool):∀n k,k<n->(xs b n).testBit k=b k
 |0,k,h=>by omega
 |n+1,k,h=>by
  have hl:=D2 b n;unfold xs;by_cases hk:k<n
  .rw[<-NN b n k hk];split
   .rw[Nat.add_comm,Nat.testBit_two_pow_add_gt hk]
   .rw[Nat.add_zero]
  .obtain rfl:k=n:=by omega
   split
   .rename_i g;rw[Nat.add_comm,Nat.testBit_two_pow_add_eq,Nat.testBit_lt_two_pow hl,g];rfl
   .rename_i g;rw[Nat.add_zero,Nat.testBit_lt_two_pow hl];simpa using g
def Xh{c k:Nat}(hc:c<9223372036854775808)(hk:k<62):bt (c:Int) (k:Int)=c.testBit k:=by
 have hsh:bT .i64 (c:Int) (k:Int)=((c >>> k:Nat):Int):=by
  unfold bT
  have hm:min ((k:Int).toNat) aiB.bits=k:=by
   show min ((k:Int).toNat) 64=k
   omega
  rw[hm,Int.fdiv_eq_ediv_of_nonneg _ (Int.le_of_lt (Int.pow_pos (by decide))),Nat.shiftRight_eq_div_pow]
  norm_cast
 have hle:c >>> k<=c:=by rw[Nat.shiftRight_eq_div_pow];exact Nat.div_le_self ..
 unfold bt;rw[hsh,show((1:Int))=((1:Nat):Int)from rfl,F6 (by omega) (by omega),Nat.testBit];rw[Bool.eq_iff_iff,ax,bne_iff_ne];have h2:1&&& c >>> k=c >>> k&&& 1:=Nat.and_comm ..;have h3:c >>> k&&& 1<2:=Nat.lt_succ_of_le Nat.and_le_right;rw[h2];omega
def Qp{b:Nat->Bool}{n k:Nat}(hk:k<n)(hn:n<=8):flag ((xs b n:Nat):Int) (k:Int)=b k:=by
 have h1:=D2 b n;have h8:=ra hn;unfold flag;rw[aj (by omega),Xh (by omega) (by omega),NN b n k hk]
def orI{a b:Nat}(ha:a<9223372036854775808)(hb:b<9223372036854775808):aJ .or .i64 (a:Int) (b:Int)=((a|||b:Nat):Int):=by
 show aiB.wrap ((ajk 64 (a:Int)|||ajk 64 (b:Int)).toNat:Int)=_
 have h:a|||b<2 ^ 63:=Nat.or_lt_two_pow (by omega) (by omega)
 grind [wrap_i64]
def NO(rules:List fZ)(T:List Nat):∀s:List ik×List Int,s.1.Nodup->(T.foldl (dB rules) s).1.Nodup:=by
 induction T with
 |nil=>exact λs h=>h
 |cons i T ih=>
  intro s h;rw[List.foldl_cons];refine ih _ ?_;unfold dB;split
  .exact h
  .split
   .exact h
   .rename_i g;refine List.nodup_append.2 ⟨h,by simp,λa ha b hb e=>?_⟩;rw[aiZ]at hb;exact g (fW.2 ⟨a,ha,ao (e.trans hb)⟩)
def Gt{g:ik}{C:List ik}{j:Nat}(hn:C.Nodup)(hj:j<C.length)(h:C[j]=g):gV g C=(j:Int):=by
 refine sQ hj (ao h) λi hi kF=>aq λe=>?_
 exact List.pairwise_iff_getElem.1 hn i j kF hj hi (e.trans h.symm)
def Gu{rules:List fZ}{a d:Int}(h:Fit rules a d)(v:ik->Bool):(BB rules a d).map (flag ((xs (λk=>v (((CS rules a d).1)[k]?.getD [])) (CS rules a d).1.length:Nat):Int))=(TN rules a d).map λi=>decide ((gd rules i).length=0)||v (gd rules i):=by
 have hn8:=h.n8;have EV:(CS rules a d).1.Nodup:=NO _ _ _ (by simp);have eU:∀i∈TN rules a d,(gd rules i).length≠0->0<=gV (gd rules i) (CS rules a d).1:=oG _ _ _;unfold BB;rw[List.map_map]
 refine List.map_congr_left λi hi=>?_
 show flag _ (jq rules (CS rules a d).1 i)=_
 unfold jq;by_cases h0:(gd rules i).length=0
 .rw[al h0,ao h0];rfl
 .rw[aj h0,aq h0,Bool.false_or];obtain⟨c,hc,hp⟩:=fW.1 (eU i hi h0);obtain⟨j,hj,rfl⟩:=aiV hc;have hp:(CS rules a d).1[j]=gd rules i:=an hp;rw[Gt EV hj hp,Qp hj hn8,aiE hj,hp];rfl
def TU{rules:List fZ}{a d:Int}{ev:ik->Int}{k:Nat}{g:ik}(h:(CS rules a d).1[k]? =aa g)(hk:∀k' g',k'<k->(CS rules a d).1[k']? =aa g'->ev g'=0):
 ∃p,∃hp:p<(TN rules a d).length,(CS rules a d).2[k]? =aa (((TN rules a d)[p]:Nat):Int)/\g=gd rules (TN rules a d)[p]/\(gd rules (TN rules a d)[p]).length≠0/\
  ∀q,∀hq:q<p,(gd rules ((TN rules a d)[q]'(by omega))).length=0\/ev (gd rules ((TN rules a d)[q]'(by omega)))=0:=by
 obtain⟨p,hp,_,h1,h2,h3,h4⟩:=(NM h).ex;refine⟨p,hp,h1,h2,h3,λq hq=>?_⟩;by_cases h0:(gd rules ((TN rules a d)[q]'(by omega))).length=0
 .exact .inl h0
 .obtain⟨k',c1,c2⟩:=h4 q hq h0;exact .inr (hk k' _ c1 c2)
end L
namespace L
theorem TV{m j:Nat}(h:m.testBit j=af):gr m (2 ^ j)<m:=Nat.lt_of_le_of_ne (F7 _ _) (Ho h)
theorem Kk{x m b j:Nat}(h:x&&& m=b):x&&& gr m (2 ^ j)=gr b (2 ^ j):=by
 rw[gU];intro i;rw[dg,dg,<-gU.1 h i,Bool.and_assoc]
def D3{n:Nat}{S:Nat->Prop}{x:Nat}:∀k m b,m=k->qf n S m b->x&&& m=b->∃m' b',Eo n S m' b'/\x&&& m'=b':=by
 intro k
 induction k using Nat.strongRecOn with
 |_ k ih=>
  intro m b hk h hx;by_cases hp:∃j,j<n/\m.testBit j=af/\qf n S (gr m (2 ^ j)) (gr b (2 ^ j))
  .grind [TV,Kk]
  .exact⟨m,b,⟨h,(by grind)⟩,hx⟩
def r8{k:Nat}{mem:Nat->Bool}:∀{l:List (Nat×Nat)}{cov:Nat->Bool}{q:Int×Int},q∈fD k mem cov l->∃p∈l,q=pI p.1 p.2
 |[],_,_,h=>by simp[fD]at h
 |p::l,cov,q,h=>by
  rw[kE]at h;split at h
  .rcases ai7.1 h with rfl|h
   .grind
   .obtain⟨p',hp,e⟩:=r8 h
    grind
  .obtain⟨p',hp,e⟩:=r8 h
   grind
def pf{k:Nat}{mem:Nat->Bool}{x:Nat}(hx:x<k)(hm:mem x=af):∀{l:List (Nat×Nat)}{cov:Nat->Bool},cov x=ah->(∃p∈l,x&&& p.1=p.2)->∃m b,pI m b∈fD k mem cov l/\x&&& m=b
 |[],_,_,h=>by grind
 |p::l,cov,hc,h=>by
  rw[kE];by_cases hf:fC k mem cov p.1 p.2=af
  .rw[al hf];by_cases GU:x&&& p.1=p.2
   .grind
   .obtain⟨m,b,h1,h2⟩:=pf hx hm (l:=l) (cov:=λx=>cov x||decide (x&&& p.1=p.2)) (by simp[hc,GU]) (by
     grind)
    grind
  .rw[aj hf];refine pf hx hm hc ?_
   grind [fC]
def NP{n:Nat}(h:n<=8):Hp (n:Int)=n:=by grind [Hp]
def NQ{l:List Int}{n:Nat}(hn:n<=8){q:Int×Int}(hq:q∈mn l n):∃m b:Nat,q=pI m b/\qf n (λx=>(x:Int)∈l) m b:=by
 unfold mn Dl at hq;rw[NP hn]at hq;obtain⟨p,hp,e⟩:=r8 hq;exact⟨p.1,p.2,e,(oF.1 (aji.1 hp).2).1⟩
def NR{l:List Int}{n:Nat}(hn:n<=8){x:Nat}(hx:x<2 ^ n)(hm:(x:Int)∈l):∃m b:Nat,pI m b∈mn l n/\x&&& m=b:=by
 unfold mn Dl;rw[NP hn]
 obtain⟨m,b,hp,hxm⟩:=D3 (x:=x) _ _ _ rfl (qf.full (n:=n) (S:=λx=>(x:Int)∈l) hx hm) (by
  grind [iI,A4])
 exact pf hx (by unfold eA;grind) rfl ⟨(m,b),aji.2 ⟨(qg hn).2 ⟨hp.1.1,hp.1.2.1⟩,oF.2 hp⟩,hxm⟩
end L
namespace L
theorem NS{m b c:Nat}{v:Int}(hm:m<256)(hc:c<256):On (c:Int) (pI m b,v)=decide (c&&& m=b):=by
 grind [On,F6]
def HH{O:List Int}{v:Int}{c:Nat}:(c:Int)∈vn O v↔O[c]? =aa v:=by
 grind [vn,sY]
def HI{x v:Int}:∀{l:List yo},(∃r∈l,On x r=af)->(∀r∈l,On x r=af->r.2=v)->ur x l=(v,af)
 |[],h,_=>by grind
 |r::l,h,g=>by
  rw[JY];by_cases hr:On x r=af
  .grind
  .rw[aj hr];refine HI ?_ (by grind)
   grind
def TW{rules:List fZ}{a d:Int}{r:yo}:r∈RR rules a d->∃v:Int,r.2=v/\r.1∈mn (vn (OO rules a d) v) (CS rules a d).1.length:=by
 unfold RR;rw[List.mem_flatMap]
 grind [eB]
theorem Rp{rules:List fZ}{a d:Int}{c:Nat}(hc:c<2 ^ (CS rules a d).1.length):(OO rules a d)[c]? =aa (oc (dH rules a d) (cy rules a d) (dq rules a d) (BB rules a d) (c:Int)):=by
 grind [OO]
def Qq{rules:List fZ}{a d:Int}(h:Fit rules a d){c:Nat}(hc:c<2 ^ (CS rules a d).1.length){r:yo}(hr:r∈RR rules a d)(hm:On (c:Int) r=af):r.2=oc (dH rules a d) (cy rules a d) (dq rules a d) (BB rules a d) (c:Int):=by
 have h8:=ra h.n8;obtain⟨v,hv,hp⟩:=TW hr;obtain⟨m,b,e,hi⟩:=NQ h.n8 hp;have abS:=hi.1;have e2:r=(pI m b,v):=Prod.ext e hv;rw[e2,NS (by omega) (by omega),ax]at hm;have:=HH.1 (hi.2.2 c hc hm)
 grind [Rp]
def Kl{rules:List fZ}{a d:Int}(h:Fit rules a d){c:Nat}(hc:c<2 ^ (CS rules a d).1.length):∃r∈RR rules a d,On (c:Int) r=af:=by
 have h8:=ra h.n8;have hO:=Rp hc;generalize oc (dH rules a d) (cy rules a d) (dq rules a d) (BB rules a d) (c:Int)=v at hO;have vd:=HH.2 hO;obtain⟨m,b,hp,hx⟩:=NR h.n8 hc vd;obtain⟨m',b',e,hi⟩:=NQ h.n8 hp;obtain⟨rfl,rfl⟩:=rV e;have abS:=hi.1;refine⟨(pI m b,v),?_,by grind [NS]⟩;unfold RR;refine List.mem_flatMap.2 ⟨v,?_,?_⟩
 all_goals grind [Nd,eB]
def TX{rules:List fZ}{a d:Int}(h:Fit rules a d){c:Nat}(hc:c<2 ^ (CS rules a d).1.length):ur (c:Int) (RR rules a d)=(oc (dH rules a d) (cy rules a d) (dq rules a d) (BB rules a d) (c:Int),af):=
 HI (Kl h hc) λr hr hm=>Qq h hc hr hm
end L
namespace L
noncomputable def ev(env:xE)(e:ik):Vl×Int:=(M.dW aU e env).getD (P.z3,0)
def qY{env:xE}(he:P.lv env){e:ik}(hw:∀n∈e,WF az n):M.dW aU e env=aa (ev env e):=by
 have:∃r,M.dW aU e env=aa r:=by
  rcases P.xz e with h|⟨st,w⟩
  .exact⟨_,P.Ny h env⟩
  .exact⟨_,P.xA w he hw⟩
 obtain⟨r,hr⟩:=this;unfold ev;rw[hr];rfl
def kH(E:ik->Vl×Int)(g:ik):Int:=if(E g).2≠0 then(E g).2 else if((E g).1.1:Int)=1 then 0 else 8
def xF(E:ik->Vl×Int)(g:ik):Bool:=decide (((E g).1.2.2:Int)=1)
def iL(E:ik->Vl×Int):Nat->Nat->List ik->Int×Int×Int
 |x,_,[]=>((x:Int),((-1:Int),(0:Int)))
 |x,k,g::C=>if kH E g≠0 then((0:Int),((k:Int),kH E g))else iL E (x+if xF E g=af then 2 ^ k else 0) (k+1) C
def zO{E:ik->Vl×Int}:∀{C:List ik}{x k j:Nat}(hj:j<C.length),kH E C[j]≠0->(∀i(hi:i<j),kH E (C[i]'(by omega))=0)->iL E x k C=((0:Int),(((k+j:Nat):Int),kH E C[j]))
 |g::C,x,k,0,_,h,_=>by
  have h:kH E g≠0:=h;unfold iL;rw[al h];rfl
 |g::C,x,k,j+1,hj,h,hg=>by
  have h0:=hg 0 (by omega);unfold iL;rw[aj (λg=>g h0),zO (j:=j) (by simpa using hj) h λi hi=>hg (i+1) (by omega)];simp only[List.getElem_cons_succ,Nat.add_assoc,Nat.add_comm 1 j]
def D4{E:ik->Vl×Int}{C:List ik}(h:∀g∈C,kH E g=0):∀n,n<=C.length->iL E 0 0 C=iL E (xs (λk=>xF E (C[k]?.getD [])) n) n (C.drop n)
 |0,_=>rfl
 |n+1,hn=>by
  have aH:n<C.length:=by omega
  rw[D4 h n (by omega),aiN aH,iL,aj (λg=>g (h _ (aiF aH))),xs,aiE aH];rfl
def NU{E:ik->Vl×Int}{C:List ik}(h:∀g∈C,kH E g=0):iL E 0 0 C=(((xs (λk=>xF E (C[k]?.getD [])) C.length:Nat):Int),((-1:Int),(0:Int))):=by
 rw[D4 h _ (aiH _),List.drop_length];rfl
def uV(E:ik->Vl×Int)(C:List ik):
 (∃(j:Nat)(g:ik),C[j]? =aa g/\kH E g≠0/\(∀(i:Nat)(g':ik),i<j->C[i]? =aa g'->kH E g'=0)/\iL E 0 0 C=((0:Int),((j:Int),kH E g)))\/
 ((∀g∈C,kH E g=0)/\iL E 0 0 C=(((xs (λk=>xF E (C[k]?.getD [])) C.length:Nat):Int),((-1:Int),(0:Int)))):=by
 by_cases h:∀g∈C,kH E g=0
 .exact .inr ⟨h,NU h⟩
 .have hx:∃g∈C,(λg=>decide (kH E g≠0)) g=af:=by
   grind
  have hl:=List.findIdx_lt_length_of_exists hx;have hp:=an (List.findIdx_getElem (w:=hl))
  have hg:∀i(hi:i<C.findIdx λg=>decide (kH E g≠0)),kH E (C[i]'(by omega))=0:=λi hi=>by
   have:=List.not_of_lt_findIdx hi;simpa using this
  refine .inl ⟨_,_,aiE hl,hp,λi g' hi he=>?_,?_⟩
  .rw[aiE (by omega)]at he;rw[<-aiC he];exact hg i hi
  .have:=zO (E:=E) (x:=0) (k:=0) hl hp hg;rw[aje]at this;exact this
def mu(E:ik->Vl×Int)(rules:List fZ):List Nat->List Bool⊕(Nat×Int)
 |[]=> .inl []
 |i::T=>if(gd rules i).length≠0/\(E (gd rules i)).2≠0 then .inr (i,(E (gd rules i)).2)else
  match mu E rules T with
  | .inl l=> .inl ((decide ((gd rules i).length=0)||xF E (gd rules i))::l)
  | .inr r=> .inr r
def Bq{E:ik->Vl×Int}{rules:List fZ}:∀{T:List Nat}{r:Nat×Int},mu E rules T= .inr r->r.2≠0
 |i::T,r,h=>by
  rw[mu]at h;split at h
  .rename_i g;cases h;exact g.2
  .cases hq:mu E rules T with
   |inl l=>rw[hq]at h;cases h
   |inr r'=>rw[hq]at h;cases h;exact Bq hq
def HJ{E:ik->Vl×Int}{rules:List fZ}:∀{T:List Nat},(∀i∈T,(gd rules i).length=0\/(E (gd rules i)).2=0)->mu E rules T= .inl (T.map λi=>decide ((gd rules i).length=0)||xF E (gd rules i))
 |[],_=>rfl
 |i::T,h=>by
  rw[mu,aj (by have:=h i (List.mem_cons_self ..);omega),HJ λj hj=>h j (List.mem_cons_of_mem _ hj)];rfl
def D5{E:ik->Vl×Int}{rules:List fZ}:∀{T:List Nat}{p:Nat}(hp:p<T.length),(gd rules T[p]).length≠0->(E (gd rules T[p])).2≠0->(∀q(hq:q<p),(gd rules (T[q]'(by omega))).length=0\/(E (gd rules (T[q]'(by omega)))).2=0)->mu E rules T= .inr (T[p],(E (gd rules T[p])).2)
 |i::T,0,_,h1,h2,_=>by rw[mu,al ⟨h1,h2⟩];rfl
 |i::T,p+1,hp,h1,h2,h=>by
  have h0:(gd rules i).length=0\/(E (gd rules i)).2=0:=h 0 (by omega);rw[mu,aj (by omega),D5 (T:=T) (p:=p) (by simpa using hp) h1 h2 λq hq=>h (q+1) (by omega)];rfl
def Qr{rules:List fZ}{a d:Int}(hf:Fit rules a d){E:ik->Vl×Int}(hk:∀i∈TN rules a d,(gd rules i).length≠0->(E (gd rules i)).2=0->((E (gd rules i)).1.1:Int)=1):
 (∃(i k:Nat)(c:Int),mu E rules (TN rules a d)= .inr (i,c)/\c≠0/\iL E 0 0 (CS rules a d).1=((0:Int),((k:Int),c))/\(CS rules a d).2[k]? =aa ((i:Nat):Int))\/
 (∃x:Nat,mu E rules (TN rules a d)= .inl ((BB rules a d).map (flag (x:Int)))/\x<2 ^ (CS rules a d).1.length/\iL E 0 0 (CS rules a d).1=((x:Int),((-1:Int),(0:Int)))):=by
 have z:∀{g},kH E g=0->(E g).2=0:=λ{g}h=>by
  unfold kH at h;split at h
  .exact h
  .rename_i h';exact Decidable.not_not.1 h'
 rcases uV E (CS rules a d).1 with⟨j,g,h1,h2,h3,h4⟩|⟨h1,h2⟩
 .obtain⟨p,hp,e1,rfl,e3,e4⟩:=TU (ev:=kH E) h1 h3
  have dA:(E (gd rules (TN rules a d)[p])).2≠0:=λh0=>h2 (by
   unfold kH
   rw[aj (λg=>g h0),al (hk _ (aiF hp) e3 h0)])
  have hc:kH E (gd rules (TN rules a d)[p])=(E (gd rules (TN rules a d)[p])).2:=by
   unfold kH;rw[al dA]
  refine .inl ⟨_,j,_,D5 hp e3 dA λq hq=>?_,dA,by rw[h4,hc],e1⟩
  rcases e4 q hq with h|h
  .exact .inl h
  .exact .inr (z h)
 .refine .inr ⟨_,?_,D2 _ _,h2⟩;rw[Gu hf (xF E)]
  refine HJ λi hi=>?_
  by_cases h0:(gd rules i).length=0
  .exact .inl h0
  .obtain⟨c,hc,hp⟩:=fW.1 (oG rules (TN rules a d) ([],[]) i hi h0);have hp:=an hp;subst hp;exact .inr (z (h1 _ hc))
def pick(E:ik->Vl×Int)(rules:List fZ)(o:Int):Vl×Int×Int:=
 if o= -1 then(P.z3,((-1:Int),(10:Int)))else if o= -2 then(P.z3,((-1:Int),(11:Int)))else
  match rules[o.toNat]? with
  |some r=>if(E r.2.2.2.2.2.2.1).2≠0 then(P.z3,(o,(E r.2.2.2.2.2.2.1).2))else((E r.2.2.2.2.2.2.1).1,(o,(0:Int)))
  |none=>(P.z3,((-1:Int),(10:Int)))
noncomputable def jQ(E:ik->Vl×Int)(rules:List fZ)(d a:Int):Vl×Int×Int:=
 match mu E rules (TN rules a d)with
 | .inr r=>(P.z3,(((r.1:Nat):Int),r.2))
 | .inl fl=>pick E rules (zD (dH rules a d) (oH (cy rules a d) (dq rules a d) fl))
def uz{rules:List fZ}{a d:Int}(h:rules.length<=100000)(fl:List Bool):zD (dH rules a d) (oH (cy rules a d) (dq rules a d) fl)= -1\/zD (dH rules a d) (oH (cy rules a d) (dq rules a d) fl)= -2\/
 ∃i:Nat,i∈TN rules a d/\∃hi:i<rules.length,zD (dH rules a d) (oH (cy rules a d) (dq rules a d) fl)=(i:Int):=by
 have hl:(cy rules a d).length=(TN rules a d).length:=by unfold cy TN;simp
 have hT:(TN rules a d).length<=rules.length:=by
  unfold TN;rw[Dr];exact nK ..
 obtain⟨_,hr⟩:=qj (cy rules a d) (dq rules a d) fl (by omega);generalize oH (cy rules a d) (dq rules a d) fl=s at hr⊢;rw[hl]at hr;unfold zD
 rcases hr with rfl|rfl|⟨h0,h1⟩
 .exact .inl rfl
 .exact .inr (.inl rfl)
 .obtain⟨k,rfl⟩:=aiL h0
  have hk:k<(TN rules a d).length:=by omega
  rw[al h0,mK,aiI,List.getElem?_map,aiE hk];exact .inr (.inr ⟨_,aiF hk,xm _ (aiF hk),rfl⟩)
def nZ(dp:List Vl->Int->Vl×Int×Int):List Int->List Vl->List Int->(List Vl×List Int)⊕(Int×Int×Int)
 |[],D,rl=> .inl (D,rl)
 |a::o,D,rl=>if(dp D a).2.2≠0 then .inr ((dp D a).2.2,(a,(dp D a).2.1))else nZ dp o (bg D a (dp D a).1) (bg rl a (dp D a).2.1)
end L
namespace L
noncomputable def n4(E:ik->Vl×Int)(rules:List fZ)(d a:Int):Vl×Int×Int:=
 if(iL E 0 0 (CS rules a d).1).2.2≠0 then(P.z3,((((CS rules a d).2[(iL E 0 0 (CS rules a d).1).2.1.toNat]?).getD (-1)),(iL E 0 0 (CS rules a d).1).2.2))
 else pick E rules (oc (dH rules a d) (cy rules a d) (dq rules a d) (BB rules a d) (iL E 0 0 (CS rules a d).1).1)
def Qs{rules:List fZ}{a d:Int}(hf:Fit rules a d){E:ik->Vl×Int}(hk:∀i∈TN rules a d,(gd rules i).length≠0->(E (gd rules i)).2=0->((E (gd rules i)).1.1:Int)=1):n4 E rules d a=jQ E rules d a:=by
 unfold n4 jQ
 rcases Qr hf hk with⟨i,k,c,h1,h2,h3,h4⟩|⟨x,h1,h2,h3⟩
 .rw[h1,h3];dsimp only;rw[al h2,aiI,h4];rfl
 .rw[h1,h3];dsimp only;rw[aj (by decide)];rfl
def NV{l:Lw}(hw:WF cT l){x:fY}{d:Int}(sT:WF aP x)(hv:∀i,∀hi:i<x.2.2.2.2.length,uf l x i x.2.2.2.2[i]=0){env:xE}(hE:Gs l x d env)(a:Int):
 ∀i∈TN x.2.2.2.2 a d,(gd x.2.2.2.2 i).length≠0->(ev env (gd x.2.2.2.2 i)).2=0->((ev env (gd x.2.2.2.2 i)).1.1:Int)=1:=λi hi h0 h=>by
 have hl:=xm i hi;rw[Dz hl]at h0 h⊢;obtain⟨_,hg⟩:=xD sT hl (hv i hl);obtain⟨r,t1,t2,t3⟩:=hg (by omega);have zq:=(sT.2.2.2.2.2 _ (aiF hl)).2.2.2.2.2.1.2;obtain⟨w,ew,_,Qb⟩:=P.HF zq t1 t2 (hE.ok hw) hE.agr;rw[qY (hE.ok hw) zq]at ew;rw[<-aiC ew]at Qb;have:=(Qb h).2.1;rw[t3]at this;exact this
def Qt{E:ik->Vl×Int}{rules:List fZ}{o:Int}(h:(pick E rules o).2.2=0):∃r,rules[o.toNat]? =aa r/\(E r.2.2.2.2.2.2.1).2=0/\pick E rules o=((E r.2.2.2.2.2.2.1).1,(o,(0:Int))):=by
 unfold pick at h⊢;by_cases h1:o= -1
 .rw[al h1]at h;cases h
 rw[aj h1]at h;by_cases h2:o= -2
 .rw[al h2]at h;cases h
 rw[aj h2]at h;rw[aj h1,aj h2]
 cases hr:rules[o.toNat]? with
 |none=>rw[hr]at h;cases h
 |some r=>
  rw[hr]at h;dsimp only at h⊢;by_cases g:(E r.2.2.2.2.2.2.1).2≠0
  .rw[al g]at h;exact absurd h g
  .exact⟨r,rfl,Decidable.not_not.1 g,aj g⟩
def Qu{l:Lw}(hw:WF cT l){x:fY}{d:Int}(sT:WF aP x)(hs:x.2.2.2.2.length<=100000)(hv:∀i,∀hi:i<x.2.2.2.2.length,uf l x i x.2.2.2.2[i]=0){env:xE}(hE:Gs l x d env)(a:Int)(h:(jQ (ev env) x.2.2.2.2 d a).2.2=0):
 ∃k:Nat,a=(k:Int)/\∃f,x.2.2.2.1[k]? =aa f/\P.jO (jQ (ev env) x.2.2.2.2 d a).1 f.2:=by
 unfold jQ at h⊢
 cases hg:mu (ev env) x.2.2.2.2 (TN x.2.2.2.2 a d)with
 |inr r=>
  rw[hg]at h;exact absurd h (Bq hg)
 |inl fl=>
  rw[hg]at h;dsimp only at h⊢;have hc:=uz (rules:=x.2.2.2.2) (a:=a) (d:=d) hs fl;generalize zD (dH x.2.2.2.2 a d) (oH (cy x.2.2.2.2 a d) (dq x.2.2.2.2 a d) fl)=o at h hc⊢;obtain⟨r,h1,h2,h3⟩:=Qt h
  rcases hc with rfl|rfl|⟨i,hi,hl,rfl⟩
  .cases h
  .cases h
  rw[h3];dsimp only;rw[aiI,aiE hl]at h1;obtain rfl:=aiC h1;obtain⟨⟨k,hk,e3,r,t1,t2,t3⟩,_⟩:=xD sT hl (hv i hl);have zq:=(sT.2.2.2.2.2 _ (aiF hl)).2.2.2.2.2.2.1.2;obtain⟨w,ew,_,Qb⟩:=P.HF zq t1 t2 (hE.ok hw) hE.agr;rw[qY (hE.ok hw) zq]at ew;rw[<-aiC ew]at Qb
  have ha:(x.2.2.2.2[i].2.1:Int)=a:=by
   have:=(aji.1 hi).2;rw[Hr hl]at this;exact(an this).1
  refine⟨k,ha.symm.trans e3,_,aiE hk,?_⟩;rw[<-t3];exact Qb h2
end L
namespace L
def TY{x n:Nat}(h:x<2 ^ n)(hn:n<62):aJ .or .i64 (x:Int) ((2 ^ n:Nat):Int)=((x+2 ^ n:Nat):Int):=by
 have h2:2 ^ n<=2 ^ 61:=Nat.pow_le_pow_right (by omega) (by omega);rw[orI (by omega) (by omega)];have:=Nat.two_pow_add_eq_or_of_lt h 1;rw[Nat.mul_one]at this;rw[Nat.or_comm,<-this,Nat.add_comm]
def D6{E:ik->Vl×Int}{g:ik}(h:(E g).2≠0):kH E g=(E g).2:=by
 unfold kH;rw[al h]
def Km{E:ik->Vl×Int}{g:ik}(h:(E g).2=0)(h1:((E g).1.1:Int)≠1):kH E g=8:=by
 unfold kH;rw[aj (λk=>k h),aj h1]
def Qv{E:ik->Vl×Int}{g:ik}(h:(E g).2=0)(h1:((E g).1.1:Int)=1):kH E g=0:=by
 unfold kH;rw[aj (λk=>k h),al h1]
def Gv{E:ik->Vl×Int}{x k:Nat}{g:ik}{C:List ik}:iL E x k (g::C)=if kH E g≠0 then((0:Int),((k:Int),kH E g))else iL E (x+if xF E g=af then 2 ^ k else 0) (k+1) C:=rfl
def Kn(t:JX){env:xE}(he:P.lv env)(hw:∀g∈t.2.1,∀n∈g,WF az n)(h8:t.2.1.length<=8):M.cQ aU t env=aa (iL (ev env) 0 0 t.2.1):=by
 unfold M.cQ;rw[aj (by simp;omega)];refine Wp.eq (Wp.count (λs=>s.2) t.2.1.length (λk s=>∃x:Nat,s.1=(x:Int)/\x<2 ^ k/\iL (ev env) 0 0 t.2.1=iL (ev env) x k (t.2.1.drop k)) (by omega) rfl ⟨0,rfl,by simp,rfl⟩ λk s hk hs hJ=>?_);obtain⟨y,c⟩:=s;obtain⟨x,e,hx,hJ⟩:=hJ;dsimp only at hs e;subst hs e;refine .dec (λh=>?_) (λh=> .some ?_)
 .have aH:k<t.2.1.length:=by dsimp only at h;omega
  have hg:=hw _ (aiF aH);have h2:2 ^ k*2=2 ^ (k+1):=(Nat.pow_succ ..).symm;rw[aiN aH,Gv]at hJ;refine .join (.bind (.idx k rfl aH (.ba (qY he hg) ?_)))
  refine .iM (λh1=> .some ?_) λh1=> .iM (λh3=> .some ?_) λh3=>?_
  .rw[al (by rw[D6 h1];exact h1),D6 h1]at hJ;exact hJ.symm
  .rw[Km h1 h3,al (by decide)]at hJ;exact hJ.symm
  .rw[Qv h1 h3,aj (λg=>g rfl)]at hJ;refine .dec (λh4=> .ba (o8 (by omega)) (.some (.some ⟨aH,aQ (by omega),x+2 ^ k,?_,by omega,?_⟩))) (λh4=> .some (.some ⟨aH,aQ (by omega),x,rfl,by omega,?_⟩))
   .exact TY hx (by omega)
   .rw[hJ,al (show xF (ev env) t.2.1[k]=af from ao h4)]
   .rw[hJ,aj (show¬xF (ev env) t.2.1[k]=af from λg=>h4 (an g))];rfl
 .have:k=t.2.1.length:=by dsimp only at h;omega
  subst this;rw[List.drop_length]at hJ;exact hJ.symm
def NW{rules:List fZ}{a d:Int}(h:Fit rules a d):(RR rules a d).length<=100000000:=by
 have hl:(dH rules a d).length=(TN rules a d).length:=by rw[mK];simp
 have ht:=h.t8
 have key:∀L:List Int,(L.flatMap (eB (OO rules a d) (CS rules a d).1.length)).length<=L.length*65536:=λL=>by
  induction L with
  |nil=>simp
  |cons v L ih=>
   grind [rZ]
 have:=key ([-2,-1]++dH rules a d);unfold RR
 have h2:([(-2:Int),-1]++dH rules a d).length<=10:=by simp;omega
 grind
def Ko(t:JX)(j:Nat):M.jz aU t (j:Int)=aa ((t.2.2.1[j]?).getD (-1)):=by
 unfold M.jz;rw[aj (by simp),aiA];by_cases h:j<t.2.2.1.length
 .rw[aj (by simp;omega),aC h,aiE h];rfl
 .rw[al (by simp;omega),List.getElem?_eq_none (by omega)];rfl
noncomputable def Qw(rules:List fZ)(d a:Int):JX:=(a,((CS rules a d).1,((CS rules a d).2,RR rules a d)))
def NX{rules:List fZ}{d a:Int}(hf:Fit rules a d)(E:ik->Vl×Int):
 (∃(j:Nat)(c:Int),c≠0/\iL E 0 0 (CS rules a d).1=((0:Int),((j:Int),c))/\n4 E rules d a=(P.z3,(((CS rules a d).2[j]?).getD (-1),c)))\/
 (∃x:Nat,iL E 0 0 (CS rules a d).1=((x:Int),((-1:Int),(0:Int)))/\ur (x:Int) (RR rules a d)=(oc (dH rules a d) (cy rules a d) (dq rules a d) (BB rules a d) (x:Int),af)/\
   n4 E rules d a=pick E rules (oc (dH rules a d) (cy rules a d) (dq rules a d) (BB rules a d) (x:Int))):=by
 unfold n4
 rcases uV E (CS rules a d).1 with⟨j,g,_,h2,_,h4⟩|⟨_,h2⟩
 .refine .inl ⟨j,_,h2,h4,?_⟩;rw[h4];dsimp only;rw[al h2,aiI]
 .refine .inr ⟨_,h2,TX hf (D2 _ _),?_⟩;rw[h2];dsimp only;rw[aj (λg=>g rfl)]
def NY{rules:List fZ}{a d:Int}(h:rules.length<=100000)(x:Int):oc (dH rules a d) (cy rules a d) (dq rules a d) (BB rules a d) x= -1\/oc (dH rules a d) (cy rules a d) (dq rules a d) (BB rules a d) x= -2\/
 ∃i:Nat,∃hi:i<rules.length,oc (dH rules a d) (cy rules a d) (dq rules a d) (BB rules a d) x=(i:Int):=by
 rcases uz (a:=a) (d:=d) h ((BB rules a d).map (flag x))with h|h|⟨i,_,hi,h⟩
 .exact .inl h
 .exact .inr (.inl h)
 .exact .inr (.inr ⟨i,hi,h⟩)
def zP{E:ik->Vl×Int}{rules:List fZ}{i:Nat}(hi:i<rules.length):pick E rules (i:Int)=if(E rules[i].2.2.2.2.2.2.1).2≠0 then(P.z3,((i:Int),(E rules[i].2.2.2.2.2.2.1).2))else((E rules[i].2.2.2.2.2.2.1).1,((i:Int),(0:Int))):=by
 unfold pick;rw[aj (by omega),aj (by omega),aiI,aiE hi]
def Br{x:fY}{d a:Int}(sT:WF aP x)(hf:Fit x.2.2.2.2 a d){o:List Int}{Ts:List JX}{Cs:List Int}(hT:idx Ts a=aa (Qw x.2.2.2.2 d a))(hC:idx Cs a=aa 0){env:xE}(he:P.lv env):
 M.fe aU (x,(o,(Ts,Cs))) a env=aa (n4 (ev env) x.2.2.2.2 d a):=by
 have zq:∀r∈x.2.2.2.2,WF da r:=sT.2.2.2.2.2;have Q7:=hf.len;unfold M.fe;dsimp only;generalize x.2.2.2.2=rules at*
 have hcw:∀g∈(CS rules a d).1,∀n∈g,WF az n:=λg hg=>by
  rcases zC rules (TN rules a d) ([],[]) g hg with h|⟨i,rfl⟩
  .cases h
  .unfold gd;split
   .rename_i r hr;exact(zq _ (List.mem_of_getElem? hr)).2.2.2.2.2.1.2
   .intro n hn;cases hn
 have e:M.cQ aU (Qw rules d a) env=aa (iL (ev env) 0 0 (CS rules a d).1):=Kn (Qw rules d a) he hcw hf.n8;refine Wp.eq (.ba hC (.iM (λg=>absurd rfl g) λ_=> .ba hT (.ba e ?_)))
 rcases NX hf (ev env)with⟨j,c,h1,h2,h3⟩|⟨y,h1,h2,h3⟩
 .rw[h2,h3]
  exact .iM (λ_=> .ba (Ko (Qw rules d a) j) (.some rfl)) λg=>absurd g h1
 .rw[h1,h3];have e2:M.gE aU (Qw rules d a) (y:Int)=aa (oc (dH rules a d) (cy rules a d) (dq rules a d) (BB rules a d) (y:Int),af):=(M1 (Qw rules d a) _ (by have:=NW hf;show(RR rules a d).length<=_;omega)).trans (aw aa h2);have hc:=NY (rules:=rules) (a:=a) (d:=d) (by omega) (y:Int);generalize oc (dH rules a d) (cy rules a d) (dq rules a d) (BB rules a d) (y:Int)=v at hc e2⊢
  refine .iM (λg=>absurd rfl g) λ_=> .ba e2 (Wp.seq (λj=>j=decide (v= -1)) (.ite (λh=>by cases h) λ_=> .some rfl) λj hj=>?_)
  subst hj
  rcases hc with rfl|rfl|⟨i,hi,rfl⟩
  .exact .ite (λ_=> .some rfl) λh=>absurd rfl h
  .exact .ite (λh=>absurd h (by decide)) λ_=> .dec (λ_=> .some rfl) λh=>absurd rfl h
  .rw[zP hi]
   refine .ite (λh=>absurd (an h) (by omega)) λ_=> .dec (λh=>absurd h (by omega)) λ_=> .ba (aC hi) (.ba (qY he (zq _ (aiF hi)).2.2.2.2.2.2.1.2) ?_)
   exact .iM (λh=> .some (by rw[al h];rfl)) λh=> .some (by rw[aj (λg=>g h)])
abbrev Dt:Type:=(ik->Vl×Int)->List fZ->Int->Int->Vl×Int×Int
abbrev KD:aI.den:=((0:Int),((0:Int),((0:Int),(0:Int))))
abbrev Ux:Type:=List (List aB.den)×(List az.den×List aT.den)
noncomputable def oK(dt:Dt)(x:fY)(o:List Int)(d:Int)(vs:List Vl)(rs:Ux):(List Vl×List Int)⊕(Int×Int×Int):=
 nZ (λD a=>dt (ev (d,(vs,(D,rs)))) x.2.2.2.2 d a) o (aiG x.2.2.2.1.length P.z3) (aiG x.2.2.2.1.length 0)
def kr(mem:Int):(List Vl×List Int)⊕(Int×Int×Int)->aI.den×List Vl×List Int
 | .inl p=>(KD,p.1,p.2)
 | .inr q=>((q.1,(mem,(q.2.1,q.2.2))),[],[])
def Bt{dp:List Vl->Int->Vl×Int×Int}:∀{o:List Int}{D:List Vl}{rl:List Int}{q:Int×Int×Int},nZ dp o D rl= .inr q->q.1≠0
 |a::o,D,rl,q,h=>by
  rw[nZ]at h;split at h
  .rename_i g;cases h;exact g
  .exact Bt h
structure Xi(x:fY)(d:Int)(o:List Int)(p:dM.den):Prop where
 scope:p.1=x
 order:p.2.1=o
 VN:∀a:Nat,a<x.2.2.2.1.length->idx p.2.2.1 (a:Int)=aa (Qw x.2.2.2.2 d (a:Int))
 codes:∀a:Nat,a<x.2.2.2.1.length->idx p.2.2.2 (a:Int)=aa 0
def D7{x:fY}{d:Int}{o:List Int}{p:dM.den}(hp:Xi x d o p)(sT:WF aP x)(hs:nW x)(hf:∀a,Fit x.2.2.2.2 a d)(ho:∀a∈o,(0:Int)<=a/\a<(x.2.2.2.1.length:Int))(X8:o.length<=100000){vs:List Vl}{rs:Ux}(he:∀D,P.lv (d,(vs,(D,rs))))(D0:List Vl)(mem:Int):
 M.fA aU p (d,(vs,(D0,rs))) mem=aa (kr mem (oK n4 x o d vs rs)):=by
 obtain⟨x',o',Ts,Cs⟩:=p;obtain⟨h1,h2,h3,h4⟩:=hp;dsimp only at h1 h2 h3 h4;subst h1 h2;have yk:=hs.2.2.1;unfold M.fA;dsimp only;rw[lp _ _ (by omega),aiA,lp _ _ (by omega),aiA];refine Wp.eq (.join (Wp.count (λs=>s.1) o'.length (λk s=>s.2.1.length=x'.2.2.2.1.length/\s.2.2.length=x'.2.2.2.1.length/\oK n4 x' o' d vs rs=nZ (λD a=>n4 (ev (d,(vs,(D,rs)))) x'.2.2.2.2 d a) (o'.drop k) s.2.1 s.2.2) (by omega) rfl ⟨by simp,by simp,rfl⟩ λk s hk hs hJ=>?_));obtain⟨c,D,rl⟩:=s;obtain⟨j1,j2,j3⟩:=hJ;dsimp only at hs j1 j2 j3;subst hs;refine .dec (λh=>?_) (λh=> .some ?_)
 .have aH:k<o'.length:=by dsimp only at h;omega
  obtain⟨a0,a1⟩:=ho _ (aiF aH);obtain⟨q,hq⟩:=aiL a0
  have Gf:q<x'.2.2.2.1.length:=by omega
  rw[aiN aH,nZ]at j3;refine .bind (.idx k rfl aH ?_);rw[hq]at j3⊢;refine .ba (Br sT (hf _) (h3 q Gf) (h4 q Gf) (he D)) (.iM (λh0=> .some ?_) λh0=> .bind (.idx q rfl (show q<D.length by omega) (.bind (.idx q rfl (show q<rl.length by omega) (.some ⟨aH,aQ (by omega),by rw[b7];exact j1,by rw[b7];exact j2,?_⟩)))))
  .rw[al h0]at j3
   show _=kr mem _
   rw[j3];rfl
  .rw[aj (λg=>g h0)]at j3;exact j3
 .have:k=o'.length:=by dsimp only at h;omega
  subst this;rw[List.drop_length,nZ]at j3;refine .some ?_;rw[j3];rfl
end L
end Go.Proofs.YtfeahmiobbjklaaGreatDoor
