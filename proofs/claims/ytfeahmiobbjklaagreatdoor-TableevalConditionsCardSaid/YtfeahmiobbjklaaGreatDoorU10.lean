/- Joined texts: PT3 PX PX3 PX5 PS PY PY3 PY5 PX7 PY6 VB TP VA TK TM VC VD VF KD KE KM KM2 KM3 KB KT. -/
import Derived.Test.YtfeahmiobbjklaaGreatDoorU9
import Derived.Test.YtfeahmiobbjklaaGreatDoorU8
import Derived.Lib.Mul64
import Derived.Laws.Bits64b
open _root_.Bool renaming false->ag,true->af,and_eq_true->ahn,false_eq_true->ags,eq_iff_iff->ag2
open _root_.Option renaming some->aa,bind_some->ago,some->ahY,bind->agn
open _root_.Int renaming le_refl->ahp,tdiv->agC,tdiv_eq_ediv_of_nonneg->agG,tmod->agD,tmod_eq_emod_of_nonneg->agF,toNat_natCast->agE,natCast_mul->ag1,reduceEq->ahu,lt_or_le->ahO,mul_le_mul_of_nonneg_right->ahE
open _root_.Go.IntKind renaming i64->agp,bits->ahL,u64->agr
open _root_.List renaming getElem_mem->agy,getElem?_eq_getElem->agx,getElem_append_left->ag4,getElem_append_right->ahc,replicate->agv,append_assoc->ahg,getElem?_eq_some_iff->agJ
open _root_.Option.some renaming inj->agq
open _root_.Nat renaming le_refl->agt,min_eq_left->ahs,zero_add->agX,add_mul->agP,div_add_mod->ahm,div_lt_iff_lt_mul->agS,mod_lt->ahj,mul_comm->agO,mul_le_mul_right->agA,le_trans->agR,lt_of_lt_of_le->agK,pow_add->ahN
open _root_.BitVec renaming ofInt->ag9
namespace Go.Proofs.YtfeahmiobbjklaaGreatDoor
open Go Go.RowKit
set_option maxRecDepth 100000
set_option linter.unusedSimpArgs false
set_option linter.unusedVariables false
set_option linter.defProp false
namespace L.P
def T7(x a b:Int):(if decide (x=a)=af then aa (decide (x=a))else aa (decide (x=b)))=aa (decide (x=a\/x=b)):=by
 grind
def T8(x a b c:Int):(if decide (x=a)=af then aa (decide (x=a))else(if decide (x=b)=af then aa (decide (x=b))else aa (decide (x=c))))=aa (decide (x=a\/x=b\/x=c)):=by
 grind
def Ny(x a b c d:Int):(if decide (x=a)=af then aa (decide (x=a))else(if decide (x=b)=af then aa (decide (x=b))else(if decide (x=c)=af then aa (decide (x=c))else aa (decide (x=d)))))=aa (decide (x=a\/x=b\/x=c\/x=d)):=by
 grind
def Y8(x a b c d e:Int):(if decide (x=a)=af then aa (decide (x=a))else(if decide (x=b)=af then aa (decide (x=b))else(if decide (x=c)=af then aa (decide (x=c))else(if decide (x=d)=af then aa (decide (x=d))else aa (decide (x=e))))))=aa (decide (x=a\/x=b\/x=c\/x=d\/x=e)):=by
 grind
theorem Wp.gC{α:Type}{l:List α}{i:Int}{Q:α->Prop}(h0:0<=i)(h1:i<l.length)(h:∀x,x∈l->idx l i=ahY x->Q x):Wp (idx l i) Q:=by
 obtain⟨k,rfl⟩:∃k:Nat,i=k:=⟨i.toNat,by omega⟩
 have hk:k<l.length:=by omega
 exact⟨_,aM hk,h _ (agy hk) (aM hk)⟩
def ar(op:Int):Int:=
 if(1<=op/\op<=9)\/(35<=op/\op<=39)then 0 else if op=10\/op=25\/(31<=op/\op<=34)then 1 else if(11<=op/\op<=24)\/(27<=op/\op<=30)then 2 else if op=26 then 3 else-1
theorem lz(N:Nat)(op:Int):M.dV N op=aa (ar op):=by
 by_cases h:1<=op/\op<=39
 .have:op=1\/op=2\/op=3\/op=4\/op=5\/op=6\/op=7\/op=8\/op=9\/op=10\/op=11\/op=12\/op=13\/op=14\/op=15\/op=16\/op=17\/op=18\/op=19\/op=20\/op=21\/op=22\/op=23\/op=24\/op=25\/op=26\/op=27\/op=28\/op=29\/op=30\/op=31\/op=32\/op=33\/op=34\/op=35\/op=36\/op=37\/op=38\/op=39:=by omega
  rcases this with rfl|rfl|rfl|rfl|rfl|rfl|rfl|rfl|rfl|rfl|rfl|rfl|rfl|rfl|rfl|rfl|rfl|rfl|rfl|rfl|rfl|rfl|rfl|rfl|rfl|rfl|rfl|rfl|rfl|rfl|rfl|rfl|rfl|rfl|rfl|rfl|rfl|rfl|rfl<;>(show(_:Option Int)=_;kernel_rfl)
 .have ha:ar op= -1:=by unfold ar;rw[ai (by omega),ai (by omega),ai (by omega),ai (by omega)]
  rw[ha]
  have ne:∀k:Int,1<=k->k<=39->decide (op=k)=ag:=λk h1 h2=>by simp;omega
  unfold M.dV;simp[ne]
def pQ(op:Int):ar op<=3:=by grind [P.ar]
def lQ(env:bl.den):Prop:=env.2.2.2.1.length<=100/\∀t∈env.2.2.2.2.2,t.2.2.2.length<=9223372036854775807
def Fm(op m:Int):Prop:=0<=ar op/\(op=14\/op=15\/op=16->0<=m/\m<=5)/\(op=34->0<=m/\agD m 8<=5)/\(op=6->0<=m)
def Lc(N:Nat)(op:Int):Wp (M.ie N op) λ_=>True:=by
 unfold M.ie;simp only[aJ,ago];exact .some trivial
def yo(N:Nat)(op m:Int):Wp (M.dp N (op,m)) λb=>b=af->Fm op m:=by
 unfold M.dp;simp only[lz,ago]
 refine Wp.seq (λj=>j=ag->0<=ar op) ?_ λj hj=>?_
 .refine Wp.dec (λ_=> .some λh=>by cases h) λh=>?_
  refine Wp.o9 (λ_=>Wp.seq _ (Lc ..) λy _=> .some λ_=>by omega) λ_=> .some λ_=>by omega
 .refine Wp.ite (λ_=> .some λh=>by cases h) λhc=>?_
  have ha:=hj (by simpa using hc);rw[T8];simp only[ago,aJ,gT]
  refine .some λhb=>?_
  grind [P.Fm]
def U3(op m:Int)(env:bl.den):Prop:=
 (op=7->0<=m/\m<env.2.1.length)/\(op=8->0<=m/\m<env.2.2.1.length)/\(op=33->0<=m/\m<env.2.2.2.2.2.length)/\(op=34->agp.wrap (agC m 8)<env.2.2.2.2.2.length)/\(op=36\/op=37\/op=38\/op=39->0<=m/\m<env.2.2.2.2.1.length)
def yp(N:Nat)(op m:Int)(env:bl.den):Wp (M.ig N (op,m) env) λb=>b=af->U3 op m env:=by
 unfold M.ig U3;simp only
 refine Wp.dec (λh=>?_) λh7=>?_
 .subst h;simp only[aJ,ago,gT];exact .some (by grind)
 refine Wp.dec (λh=>?_) λh8=>?_
 .subst h
  refine Wp.seq (λj=>j=af->0<=m/\m<env.2.2.1.length) ?_ λj hj=> .some (by grind)
  refine Wp.dec (λh0=>Wp.dec (λh1=>Wp.bind (Wp.gC h0 h1 λx _ _=> .some λ_=>⟨h0,h1⟩)) λ_=> .some λh=>by cases h) λ_=> .some λh=>by cases h
 refine Wp.dec (λh=>?_) λh33=>?_
 .subst h;simp only[aJ,ago,gT];exact .some (by grind)
 refine Wp.dec (λh=>?_) λQA=>?_
 .subst h;exact .some (by grind)
 rw[Ny];simp only[ago]
 refine Wp.dec (λh=>?_) λU4=> .some (by grind)
 simp only[aJ,ago,gT];exact .some (by grind)
def Ld{N:Nat}(l:List Vl)(hl:l.length<=100000)(hN:100001<=N):Wp (M.cO N l) λb=>b=af->∀v∈l,be v.1 v.2.1 v.2.2:=by
 unfold M.cO;refine Wp.loop (λs:Int=>∃i:Nat,s=i/\i<=l.length/\∀v∈l.take i,be v.1 v.2.1 v.2.2) (λs=>(l.length-s).toNat) ⟨0,rfl,Nat.zero_le _,by simp⟩ (by omega) ?_
 rintro _ ⟨i,rfl,hi,hp⟩
 refine Wp.dec (λh=>?_) λh=> .some λ_=>?_
 .have jJ:i<l.length:=by omega
  rw[aM jJ];simp only[ago,cy]
  refine Wp.o9 (λ_=> .some λh=>by cases h) λhq=> .some ?_
  rw[aL (by omega)];refine⟨⟨i+1,rfl,jJ,λv hv=>?_⟩,by grind⟩
  grind [List.take_succ_eq_append_getElem]
 grind
def B3(N:Nat)(a b:Vl):Wp (M.da N a b) λ_=>True:=by
 unfold M.da;simp only[aJ,ago];exact .some trivial
def QB(N:Nat)(a b:Int):Wp (M.cu N a b) λ_=>True:=by
 unfold M.cu;simp only[eo,aJ,ago];exact .some trivial
def Nz(N:Nat)(op:Int)(a b:Vl):Wp (M.aN N op a b) λ_=>True:=by
 unfold M.aN M.da;simp only[eo,aJ,ago];exact .some trivial
def U5(op m:Int)(env:bl.den):Prop:=
 (op=34->∀t,idx env.2.2.2.2.2 (agp.wrap (agC m 8))=aa t->t.2.1=((3,0):Int×Int)/\t.2.2.1=((4,0):Int×Int))/\(op=36\/op=37\/op=38\/op=39->∀t,idx env.2.2.2.2.1 m=aa t->Nw op t)
def Ew{N:Nat}{op m:Int}{args:List Vl}{env:bl.den}(hx:U3 op m env)(ha:(args.length:Int)=ar op)(QA:op=34->0<=agp.wrap (agC m 8)):Wp (M.bp N (op,m) args env) λb=>b=af->U5 op m env:=by
 obtain⟨x7,x8,Rc,SZ,Y9⟩:=hx;unfold M.bp U5;dsimp only[ay,Row.den]
 have no:∀{b:Bool},¬op=34->¬(op=36\/op=37\/op=38\/op=39)->b=af->(op=34->∀t,idx env.2.2.2.2.2 (agp.wrap (agC m 8))=aa t->t.2.1=((3,0):Int×Int)/\t.2.2.1=((4,0):Int×Int))/\(op=36\/op=37\/op=38\/op=39->∀t,idx env.2.2.2.2.1 m=aa t->Nw op t):=λh1 h2 _=>⟨λe=>absurd e h1,λe=>absurd e h2⟩
 refine Wp.dec (λh=>?_) λh7=>?_
 .obtain⟨a,b⟩:=x7 h;exact Wp.bind (Wp.gC a b λx _ _=>by rw[cy];exact .some (no (by omega) (by omega)))
 refine Wp.dec (λh=>?_) λh8=>?_
 .obtain⟨a,b⟩:=x8 h;exact Wp.bind (Wp.gC a b λx _ _=>by rw[cy];exact .some (no (by omega) (by omega)))
 have ad3:1<=ar op->0<args.length:=λh=>by omega
 refine Wp.dec (λh=>?_) λh33=>?_
 .obtain⟨a,b⟩:=Rc h
  have h1:ar op=1:=by rw[h];decide
  refine Wp.bind (Wp.gC a b λx _ _=>?_)
  refine Wp.seq (λ_=>True) ?_ λj _=> .some (no (by omega) (by omega))
  refine Wp.bind (Wp.gC (ahp 0) (by omega) λy _ _=>?_);rw[rq];simp only[ago,aJ];exact .some trivial
 refine Wp.dec (λh=>?_) λT9=>?_
 .have b:=SZ h
  have h1:ar op=1:=by rw[h];decide
  refine Wp.bind (Wp.gC (QA h) b λx _ Ua=>?_)
  refine Wp.seq (λj=>j=af->x.2.1=((3,0):Int×Int)/\x.2.2.1=((4,0):Int×Int)) ?_ λj hj=> .some λhb=>⟨λ_ t ht=>?_,λe=>by omega⟩
  .refine Wp.bind (Wp.gC (ahp 0) (by omega) λy _ _=>?_);simp only[aJ,gT]
   refine .some λhb=>?_
   simp only[ahn,nz,aw]at hb;exact⟨hb.2.1,hb.2.2⟩
  .rw[Ua]at ht;obtain rfl:=agq ht;exact hj hb
 rw[Ny];simp only[ago]
 refine Wp.dec (λh=>?_) λU4=>?_
 .obtain⟨a,b⟩:=Y9 h;refine Wp.bind (Wp.gC a b λx _ Ua=>?_);rw[n9]
  refine .some λhb=>⟨λe=>absurd e T9,λ_ t ht=>?_⟩
  rw[Ua]at ht;obtain rfl:=agq ht;simpa using hb
 have U6:∀b:Bool,b=af->_:=λb=>no (b:=b) T9 U4
 refine Wp.dec (λh=>?_) λ_=>?_
 .refine Wp.bind (Wp.gC (ahp 0) (by omega) λy _ _=>?_)
  exact Wp.seq _ (QB ..) λb _=> .some (U6 b)
 refine Wp.dec (λh=>?_) λ_=>?_
 .refine Wp.bind (Wp.gC (ahp 0) (by omega) λy _ _=>?_);refine Wp.bind (Wp.gC (by omega) (by omega) λz _ _=>?_)
  exact Wp.seq _ (Nz ..) λb _=> .some (U6 b)
 refine Wp.dec (λh=>?_) λ_=> .some (U6 _)
 refine Wp.seq (λ_=>True) ?_ λb _=> .some (U6 b)
 refine Wp.bind (Wp.gC (ahp 0) (by omega) λy _ _=>?_)
 refine Wp.dec (λ_=>?_) λ_=> .some trivial
 refine Wp.bind (Wp.gC (by omega) (by omega) λz _ _=>?_);refine Wp.bind (Wp.gC (by omega) (by omega) λz' _ _=>?_)
 exact Wp.seq _ (B3 ..) λb _=> .some trivial
def Ce(c:Int):Prop:=c=0\/c=3\/c=12\/c=6\/c=8
def Cd.e{c:Int}(h:Cd c):Ce c:=by unfold Cd at h;unfold Ce;omega
theorem B4{op:Int}{t:Ty}{j:Nat}:{ms:List (List Vl)}->{first:Bool}->{acc c:Int}->kq op t j ms first acc= .inr c->c=3\/c=6\/c=8
 |[],_,_,_,h=>by cases h
 |l::ms,first,acc,c,h=>by
  rw[kq]at h;split at h
  .grind
  .split at h
   .grind
   .split at h
    .split at h
     .exact B4 h
     grind
    grind
def NA(op:Int)(t:Ty)(j:Nat)(ms:List (List Vl)):Ce (La op t j ms).2:=by
 grind [P.La,P.Ce,P.B4]
def kw(N:Nat)(b:Bool):Wp (M.dh N b) λ_=>True:=by
 unfold M.dh;simp only[aJ];exact .some trivial
def Le(op:Int)(a:Vl):Wp (M.gq aR op a) λ_=>True:=by
 unfold M.gq
 refine Wp.dec (λ_=> .some trivial) λ_=>?_
 refine Wp.dec (λ_=>Wp.seq _ (kw ..) λ_ _=> .some trivial) λ_=>?_
 refine Wp.seq _ (pW ..) λy _=>?_
 simp only[aJ];exact .some trivial
def Ey(N:Nat)(a b:Int):Wp (M.iG N a b) λr=>Cd r.2:=by
 unfold M.iG
 refine Wp.seq _ (si ..) λr _=>?_
 simp only[aJ,ago];exact .some (zT (Cd3 _) (zT (IL _) (IL _)))
def Ij{op m:Int}{a b:Vl}(hm:op=14\/op=15\/op=16->0<=m/\m<=5)(lH:13<=op/\op<=16):Wp (M.fX aR (op,m) a b) λr=>Cd r.2:=by
 unfold M.fX;dsimp only[ay,Row.den]
 refine Wp.seq (λj=>Cd j.1) ?_ λj hj=> .some hj
 refine Wp.dec (λ_=>Wp.seq _ (Ey ..) λr hr=> .some hr) λWl=>?_
 have Ph:=hm (by omega);simp only[aJ,ago,gT]
 refine Wp.ite (λ_=>Wp.seq _ (Ii Ph) λr hr=> .some hr) λ_=>?_
 refine Wp.dec (λ_=>Wp.seq _ (FR Ph) λr hr=> .some hr) λ_=>?_
 refine Wp.dec (λ_=>Wp.seq _ (wo Ph) λr hr=> .some hr) λ_=>?_
 refine Wp.dec (λ_=>Wp.seq _ (mT _ Ph) λr hr=> .some hr) λ_=>?_
 exact Wp.seq _ (zU Ph) λr hr=> .some hr
def Ik{op m:Int}{a b:Vl}(hm:op=14\/op=15\/op=16->0<=m/\m<=5):Wp (M.bu aR (op,m) a b) λr=>Cd r.2:=by
 unfold M.bu;dsimp only[ay,Row.den];rw[T7,Ny,T7];simp only[ago]
 refine Wp.ite (λ_=> .some (IL 0)) λ_=>?_
 refine Wp.dec (λ_=> .some (IL 0)) λ_=>?_
 refine Wp.dec (λh=>Wp.seq _ (Ij hm (by omega)) λr hr=> .some hr) λ_=>?_
 refine Wp.dec (λ_=>?_) λ_=>?_
 .simp only[aJ];exact .some (by split<;>exact IL 0)
 refine Wp.dec (λ_=>Wp.seq _ (kw ..) λ_ _=> .some (IL 0)) λ_=>?_
 refine Wp.dec (λ_=>Wp.seq _ (kw ..) λ_ _=> .some (IL 0)) λ_=>?_
 refine Wp.dec (λ_=>Wp.seq _ (kw ..) λ_ _=> .some (IL 0)) λ_=>?_
 refine Wp.dec (λ_=>Wp.seq _ (kw ..) λ_ _=> .some (IL 0)) λ_=>?_
 refine Wp.dec (λ_=>Wp.seq (λj=>j.1=0) (Wp.dec (λ_=>Wp.seq _ (kw ..) λ_ _=> .some rfl) λ_=>Wp.seq _ (kw ..) λ_ _=> .some rfl) λj hj=> .some (.inl hj)) λ_=>?_
 refine Wp.dec (λ_=>Wp.seq (λj=>j.1=0) (Wp.dec (λ_=>Wp.seq _ (kw ..) λ_ _=> .some rfl) λ_=>Wp.seq _ (kw ..) λ_ _=> .some rfl) λj hj=> .some (.inl hj)) λ_=>?_
 refine Wp.dec (λ_=>Wp.seq _ (oK ..) λr hr=> .some hr) λ_=>?_
 refine Wp.dec (λ_=> .some (IL 0)) λ_=>?_
 exact Wp.seq _ (o3 ..) λr _=> .some (IL 0)
def Ez{op m:Int}{args:List Vl}{env:bl.den}(he:lQ env)(hf:Fm op m)(hx:U3 op m env)(ha:(args.length:Int)=ar op)(Za:U5 op m env)(QA:op=34->0<=agp.wrap (agC m 8)):Wp (M.bA aR (op,m) args env) λr=>Ce r.2:=by
 obtain⟨x7,x8,Rc,SZ,Y9⟩:=hx;obtain⟨f0,f14,f34,_⟩:=hf;obtain⟨w34,w36⟩:=Za;have L5:Ce 0:= .inl rfl;unfold M.bA;dsimp only[ay,Row.den];rw[Y8,Ny];simp only[ago]
 refine Wp.dec (λ_=> .some L5) λ_=>?_
 refine Wp.dec (λ_=> .some L5) λ_=>?_
 refine Wp.dec (λh=>Wp.bind (Wp.gC (x7 h).1 (x7 h).2 λx _ _=> .some L5)) λ_=>?_
 refine Wp.dec (λh=>Wp.bind (Wp.gC (x8 h).1 (x8 h).2 λx _ _=> .some L5)) λ_=>?_
 refine Wp.dec (λ_=> .some L5) λ_=>?_
 refine Wp.dec (λ_=> .some L5) λ_=>?_
 refine Wp.dec (λh=>?_) λ_=>?_
 .obtain⟨a,b⟩:=Y9 h
  obtain⟨j,rfl⟩:∃j:Nat,m=j:=⟨m.toNat,by omega⟩
  have hj:j<env.2.2.2.2.1.length:=by omega
  rw[pV (by unfold aR;omega) h hj he.1 (w36 h _ (aM hj))];exact .some (NA ..)
 refine Wp.dec (λh=>?_) λ_=>?_
 .have h1:ar op=1:=by rw[h];decide
  refine Wp.bind (Wp.gC (Rc h).1 (Rc h).2 λx hx _=>?_);refine Wp.bind (Wp.gC (ahp 0) (by omega) λy _ _=>?_)
  refine Wp.seq _ (ym _ _ _ (he.2 x hx)) λr hr=>?_
  refine Wp.ite (λ_=> .some (by unfold Ce;omega)) λhc=>?_
  obtain⟨a,b⟩:=hr (by simpa using hc);exact Wp.bind (Wp.gC a b λz _ _=> .some L5)
 refine Wp.dec (λh=>?_) λ_=>?_
 .have h1:ar op=1:=by rw[h];decide
  refine Wp.bind (Wp.gC (QA h) (SZ h) λx hx Ua=>?_);refine Wp.bind (Wp.gC (ahp 0) (by omega) λy _ _=>?_);obtain⟨k1,k2⟩:=w34 h x Ua;obtain⟨m1,m2⟩:=f34 h
  have:0<=agD m 8:=by rw[agF m1];omega
  exact Wp.seq _ (ud ⟨this,m2⟩ k1 k2 (he.2 x hx)) λr hr=> .some hr.e
 refine Wp.dec (λh=>?_) λ_=>?_
 .refine Wp.bind (Wp.gC (ahp 0) (by omega) λy _ _=>?_)
  exact Wp.seq _ (Le ..) λr _=> .some L5
 refine Wp.dec (λh=>?_) λ_=>?_
 .refine Wp.bind (Wp.gC (ahp 0) (by omega) λy _ _=>?_);refine Wp.bind (Wp.gC (by omega) (by omega) λz _ _=>?_)
  exact Wp.seq _ (Ik f14) λr hr=> .some hr.e
 have h3:ar op=3:=by
  have:¬ar op=0:=by unfold ar;split<;>(try split)<;>(try split)<;>(try split)<;>omega
  have:=pQ op;omega
 refine Wp.bind (Wp.gC (ahp 0) (by omega) λy _ _=>?_)
 refine Wp.dec (λ_=>Wp.bind (Wp.gC (by omega) (by omega) λz _ _=> .some L5)) λ_=>Wp.bind (Wp.gC (by omega) (by omega) λz _ _=> .some L5)
structure QC(r:Vl×Int):Prop where
 ok:r.2=0->be r.1.1 r.1.2.1 r.1.2.2
 bad:r.2≠0->r.1=((0,0,0):Int×Int×Int)
 code:r.2=0\/r.2=2\/r.2=3\/r.2=6\/r.2=8\/r.2=12
def B5{n:Ty}{args:List Vl}{env:bl.den}(he:lQ env)(hn:WF az n)(hl:args.length<=100000):Wp (M.eL aR n args env) QC:=by
 obtain⟨op,m⟩:=n;have hm:=hn.2;unfold M.eL
 have err:∀c:Int,c≠0->(c=2\/c=3\/c=6\/c=8\/c=12)->QC (((0:Int),((0:Int),(0:Int))),c):=λc h1 h2=>⟨λh=>absurd h h1,λ_=>rfl, .inr h2⟩
 refine Wp.seq (λj=>j=ag->Fm op m/\(args.length:Int)=ar op) ?_ λj hj=>?_
 .refine Wp.seq _ (yo ..) λy hy=>?_
  refine Wp.ite (λ_=> .some λh=>by cases h) λhc=>?_
  rw[lz];exact .some (by grind)
 refine Wp.ite (λ_=> .some (err 2 (by decide) (by omega))) λhc=>?_
 obtain⟨hf,ha⟩:=hj (by simpa using hc)
 refine Wp.seq _ (yp ..) λy hy=>?_
 refine Wp.ite (λ_=> .some (err 6 (by decide) (by omega))) λAg=>?_
 have hx:=hy (by simpa using Ag)
 have QA:op=34->0<=agp.wrap (agC m 8):=λe=>by
  have h0:=(hf.2.2.1 e).1;have h1:(m:Int)<=9223372036854775807:=hm.2;rw[agG h0];dsimp only[ay,Row.den]at h0 h1⊢
  grind [aE]
 refine Wp.seq (λj=>j=ag->U5 op m env) ?_ λj5 hj5=>?_
 .refine Wp.seq _ (Ld _ hl (by unfold aR;omega)) λy _=>?_
  refine Wp.ite (λ_=> .some λh=>by cases h) λ_=>?_
  exact Wp.seq _ (Ew hx ha QA) λz hz=> .some λh=>hz (by simpa using h)
 refine Wp.ite (λ_=> .some (err 8 (by decide) (by omega))) λJD=>?_
 have Za:=hj5 (by simpa using JD)
 refine Wp.seq _ (Ez he hf hx ha Za QA) λr hr=>?_
 refine Wp.o9 (λh=> .some (err _ h (by unfold Ce at hr;omega))) λ_=>?_
 rw[cy];simp only[ago]
 refine Wp.o9 (λ_=> .some (err 3 (by decide) (by omega))) λhp=> .some ⟨λ_=>hp,λh=>absurd rfl h, .inl rfl⟩
end L.P
namespace L.P
abbrev cz(l:List Nat):List Int:=l.map (λn:Nat=>(n:Int))
def tv(a:Int)(i:Nat)(sk:List Nat):Nat:=if a=0 then i else sk.getD (sk.length-a.toNat) 0
def jx:List Ty->Nat->List Nat->List Nat->(Nat×Int)⊕(List Nat×List Nat)
 |[],_,st,sk=> .inr (st,sk)
 |n::e,i,st,sk=>
  if ar n.1<0 then .inl (i,2)else if(sk.length:Int)<ar n.1 then .inl (i,5)else
  if 12<sk.length-(ar n.1).toNat+1 then .inl (i,16)else jx e (i+1) (st++[tv (ar n.1) i sk]) (sk.take (sk.length-(ar n.1).toNat)++[tv (ar n.1) i sk])
def nq(e:List Ty):Int×Int×List Int:=
 if 48<e.length then(0,4,[])else if e.length=0 then(0,5,[])else match jx e 0 [] []with
  | .inl (i,c)=>(i,c,[])
  | .inr (st,sk)=>if 1<sk.length then(e.length,4,[])else(0,0,cz st)
def zC(st:List Nat)(m:Nat)(v:Nat):bG (cz st++agv (m+1) (0:Int)) (st.length:Int) (v:Int)=cz (st++[v])++agv m (0:Int):=by
 grind [bG]
def tw(st:List Nat)(m:Nat)(u v:Nat):bG (cz (st++[u])++agv m (0:Int)) (st.length:Int) (v:Int)=cz (st++[v])++agv m (0:Int):=by
 unfold bG
 simp_all
def oL(e:List Ty):M.eG aR e=aa (nq e):=by
 apply Wp.eq;unfold M.eG nq
 refine Wp.dec (λh=> .some ?_) λh1=>?_
 .grind
 rw[ai (show¬48<e.length by omega)]
 refine Wp.dec (λh=> .some ?_) λh2=>?_
 .grind
 rw[ai (show¬e.length=0 by omega)]
 have Kj:og (e.length:Int) (0:Int)=aa (agv e.length 0):=by
  unfold og;rw[aj (by omega),agE]
 rw[Kj];simp only[ago];refine Wp.join (Wp.loop (λs:Int×List Int×List Int=>∃st sk:List Nat,s=((st.length:Int),cz st++agv (e.length-st.length) 0,cz sk)/\st.length<=e.length/\sk.length<=12/\jx (e.drop st.length) st.length st sk=jx e 0 [] []) (λs=>(e.length-s.1).toNat) ⟨[],[],by simp,by simp,by simp,by simp⟩ (by simp only;unfold aR;omega) ?_)
 rintro _ ⟨st,sk,rfl,gx,hsk,bj⟩
 simp only
 refine Wp.dec (λhk=>?_) λhk=> .some ?_
 case refine_2=>
  have hd:e.drop st.length=[]:=List.drop_of_length_le (by omega);rw[hd]at bj;rw[<-bj]
  have h0:e.length-st.length=0:=by omega
  rw[h0];simp only[jx,List.replicate_zero,List.append_nil]
  show Wp _ _
  refine Wp.dec (λh=> .some ?_) λh=> .some ?_
  all_goals grind
 have gD:st.length<e.length:=by omega
 have hd:e.drop st.length=e[st.length]::e.drop (st.length+1):=List.drop_eq_getElem_cons gD
 obtain⟨m,hm⟩:∃m,e.length-st.length=m+1:=⟨e.length-st.length-1,by omega⟩
 rw[hd]at bj;rw[aM gD,hm];simp only[ago,lz];generalize lH:(e[st.length].1:Int)=op;rw[jx]at bj;rw[lH]at bj;have IJ:=pQ op
 refine Wp.dec (λh=> .some ?_) λHO=>?_
 .rw[aj h]at bj
  show _=_
  rw[<-bj]
 rw[ai HO]at bj
 refine Wp.dec (λh=> .some ?_) λhlen=>?_
 .rw[aj (by simpa using h)]at bj
  show _=_
  rw[<-bj]
 have hlen:¬(sk.length:Int)<ar op:=by simpa using hlen
 rw[ai hlen]at bj
 obtain⟨a,ha⟩:∃a:Nat,ar op=a:=⟨(ar op).toNat,by omega⟩
 rw[ha]at bj HO hlen IJ⊢
 have YN:a<=sk.length:=by omega
 have e6:idx (cz st++agv (m+1) (0:Int)) (st.length:Int)=aa 0:=by
  rw[aM (by simp)];rw[ahc (by simp)];simp
 rw[e6]
 have hw:agp.wrap (((cz sk).length:Int)-(a:Int))=((sk.length-a:Nat):Int):=by
  rw[List.length_map,aE (by omega) (by omega)];omega
 have hs:tv (a:Int) st.length sk=(if a=0 then st.length else sk.getD (sk.length-a) 0):=by
  unfold tv;by_cases h0:a=0
  .subst h0;simp
  .grind
 simp only[ago,zC,hw];refine Wp.seq (· =cz (st++[tv (a:Int) st.length sk])++agv m (0:Int)) ?_ ?_
 .refine Wp.dec (λh=>?_) λh=>?_
  .have bi:sk.length-a<(cz sk).length:=by simp;omega
   rw[aM bi]
   have e9:idx (cz (st++[st.length])++agv m (0:Int)) (st.length:Int)=aa (st.length:Int):=by
    rw[aM (by simp)];rw[ag4 (by simp)];simp
   simp only[ago,e9,List.getElem_map,tw];refine .some ?_
   grind
  .refine .some ?_
   grind
 .rintro _ rfl
  generalize tv (a:Int) st.length sk=s at bj⊢
  have Jk:gK (cz sk) (0:Int) ((sk.length-a:Nat):Int)=aa (cz (sk.take (sk.length-a))):=by
   rw[tt (by simp)];simp
  have YO:idx (cz (st++[s])++agv m (0:Int)) (st.length:Int)=aa (s:Int):=by
   rw[aM (by simp)];rw[ag4 (by simp)];simp
  have Qi:cr (cz (sk.take (sk.length-a))) [(s:Int)]=aa (cz (sk.take (sk.length-a)++[s])):=by
   rw[fS (by simp;omega)];simp
  rw[Jk];simp only[ago,YO,Qi]
  have hl:(cz (sk.take (sk.length-a)++[s])).length=sk.length-a+1:=by simp
  rw[hl];rw[agE]at bj
  refine Wp.dec (λh=> .some ?_) λh=> .some ?_
  .rw[aj (by omega)]at bj
   show _=_
   rw[<-bj]
  .rw[ai (by omega)]at bj;rw[aL (by omega)];refine⟨⟨st++[s],sk.take (sk.length-a)++[s],?_,by simp;omega,by simp;omega,?_⟩,by grind⟩
   all_goals grind
inductive Ch(st:List Nat):Nat->List Nat->Prop
 |nil:Ch st 0 []
 |snoc {i s:Nat} {l:List Nat} (h:st[i]? =aa s) (hs:s<=i) (c:Ch st s l):Ch st (i+1) (l++[s])
def Ch.mono{st cT:List Nat}(hs:∀i s:Nat,st[i]? =aa s->cT[i]? =aa s){i:Nat}{l:List Nat}(h:Ch st i l):Ch cT i l:=by
 induction h with
 |nil=>exact .nil
 |snoc h1 h2 _ ih=>exact .snoc (hs _ _ h1) h2 ih
def sj{st:List Nat}{x i s:Nat}(h:st[i]? =aa s):(st++[x])[i]? =aa s:=by
 grind
def Ch.lt{st:List Nat}{i:Nat}{l:List Nat}(h:Ch st i l):∀x∈l,x<i:=by
 induction h<;>grind
def Ch.take{st:List Nat}{i:Nat}{l:List Nat}(h:Ch st i l):∀m(hm:m<l.length),Ch st l[m] (l.take m):=by
 induction h<;>grind
def Ch.Ek{st:List Nat}{i:Nat}{l l':List Nat}(h:Ch st i l)(h':Ch st i l'):l=l':=by
 induction h generalizing l' with
 |nil=>cases h'<;>grind
 | @snoc i s l h1 h2 c ih=>
   cases h'<;>grind
structure B6(e:List Ty)(st:List Nat):Prop where
 len:st.length=e.length
 node:∀p(h:p<e.length),0<=ar e[p].1/\∃l,Ch st p l/\(ar e[p].1).toNat<=l.length/\l.length-(ar e[p].1).toNat+1<=12/\st[p]? =aa (tv (ar e[p].1) p l)
theorem B6.nil:B6 [] []:=⟨rfl,λp h=>by simp at h⟩
def B6.snoc{e:List Ty}{st:List Nat}(v:B6 e st){n:Ty}{sk:List Nat}(h0:0<=ar n.1)(hc:Ch st e.length sk)(ha:(ar n.1).toNat<=sk.length)(hd:sk.length-(ar n.1).toNat+1<=12):B6 (e++[n]) (st++[tv (ar n.1) e.length sk]):=by
 refine⟨by simp[v.len],λp hp=>?_⟩;by_cases h:p<e.length
 .rw[ag4 h];obtain⟨h1,l,h2,h3,h4,h5⟩:=v.node p h;exact⟨h1,l,h2.mono λ_ _ h=>sj h,h3,h4,sj h5⟩
 .have:p=e.length:=by simp at hp;omega
  subst this;rw[ahc (by omega)];simp only[Nat.sub_self,List.getElem_cons_zero];refine⟨h0,sk,hc.mono λ_ _ h=>sj h,ha,hd,?_⟩
  grind [P.B6.len]
def QD{a:Int}{i:Nat}{st l:List Nat}(h0:0<=a)(hc:Ch st i l)(ha:a.toNat<=l.length):tv a i l<=i:=by
 unfold tv;split
 .grind
 .have bi:l.length-a.toNat<l.length:=by omega
  simp only[List.getD,agx bi,Option.getD_some];exact Nat.le_of_lt (hc.lt _ (agy bi))
def Ch.next{st l:List Nat}{i:Nat}{a:Int}(h0:0<=a)(hc:Ch st i l)(ha:a.toNat<=l.length)(hs:st[i]? =aa (tv a i l)):Ch st (i+1) (l.take (l.length-a.toNat)++[tv a i l]):=by
 refine .snoc hs (QD h0 hc ha) ?_;unfold tv;by_cases h:a=0
 .simp_all
 .have bi:l.length-a.toNat<l.length:=by omega
  rw[ai h];simp only[List.getD,agx bi,Option.getD_some];exact hc.take _ bi
def B7:∀(L6 pre:List Ty)(st sk cT NB:List Nat),B6 pre st->Ch st pre.length sk->jx L6 pre.length st sk= .inr (cT,NB)->B6 (pre++L6) cT/\Ch cT (pre++L6).length NB
 |[],pre,st,sk,cT,NB,v,c,h=>by
  grind [P.jx]
 |n::L6,pre,st,sk,cT,NB,v,c,h=>by
  rw[jx]at h;split at h
  .cases h
  split at h
  .cases h
  split at h
  .cases h
  rename_i h1 h2 h3
  have h0:0<=ar n.1:=by omega
  have ha:(ar n.1).toNat<=sk.length:=by omega
  have v':=v.snoc h0 c ha (by omega)
  have c1:Ch (st++[tv (ar n.1) pre.length sk]) pre.length sk:=c.mono λ_ _ h=>sj h
  have hs:(st++[tv (ar n.1) pre.length sk])[pre.length]? =aa (tv (ar n.1) pre.length sk):=by
   rw[<-v.len,List.getElem?_append_right (by omega)];simp[v.len]
  have c':=c1.next h0 ha hs;have:=B7 L6 (pre++[n]) _ _ cT NB v' (by simpa using c') (by simpa using h)
  grind
def B8{e:List Ty}{st:List Nat}(v:B6 e st):∀(L6 pre:List Ty)(sk:List Nat),pre++L6=e->Ch st pre.length sk->∃NB,jx L6 pre.length (st.take pre.length) sk= .inr (st,NB)/\Ch st e.length NB
 |[],pre,sk,he,c=>by
  rw[List.append_nil]at he;subst he;exact⟨sk,by rw[jx,<-v.len,List.take_length],c⟩
 |n::L6,pre,sk,he,c=>by
  subst he;obtain⟨h0,l,h1,h2,h3,h4⟩:=v.node pre.length (by simp);rw[ahc (by omega)]at h0 h2 h3 h4;simp only[Nat.sub_self,List.getElem_cons_zero]at h0 h2 h3 h4;obtain rfl:=h1.Ek c;rw[jx,ai (by omega),ai (by omega),ai (by omega)];have c':=c.next h0 h2 h4;obtain⟨NB,g1,g2⟩:=B8 v L6 (pre++[n]) _ (by simp) (by simpa using c')
  grind [List.take_succ_eq_append_getElem]
end L.P
namespace L.P
def opsL(st:List Nat):Nat->Nat->List Nat
 |0,_=>[]
 |a+1,i=>opsL st a (st.getD (i-1) 0)++[i-1]
def sn(st:List Nat):∀a i,(opsL st a i).length=a
 |0,_=>rfl
 |a+1,i=>by simp[opsL,sn st a]
def QE{st l:List Nat}{i:Nat}(c:Ch st i l):∀a,a<=l.length->(∀o∈opsL st a i,o<i/\(if h:l.length-a<l.length then l[l.length-a]else i)<=o/\∃s,st[o]? =aa s/\s<=o/\(if h:l.length-a<l.length then l[l.length-a]else i)<=s):=by
 induction c with
 |nil=>intro a ha o ho;simp at ha;subst ha;simp[opsL]at ho
 | @snoc i s l h1 h2 c ih=>
   intro a ha o ho
   cases a with
   |zero=>simp[opsL]at ho
   |succ a=>
    have bi:(l++[s]).length-(a+1)<(l++[s]).length:=by simp;omega
    rw[dif_pos bi]
    have e1:(l++[s])[(l++[s]).length-(a+1)]=(if h:l.length-a<l.length then l[l.length-a]else s):=by
     split
     .grind
     .grind
    rw[e1]
    have hg:st.getD (i+1-1) 0=s:=by simp[List.getD,h1]
    rw[opsL,hg]at ho;simp at ha
    have hle:(if h:l.length-a<l.length then l[l.length-a]else s)<=s:=by
     split
     .rename_i h;exact Nat.le_of_lt (c.lt _ (agy h))
     .exact agt _
    grind
def B6.ops{e:List Ty}{st:List Nat}(v:B6 e st){p:Nat}(h:p<e.length):∀o∈opsL st (ar e[p].1).toNat p,o<p/\∃s t,st[o]? =aa s/\s<=o/\st[p]? =aa t/\t<=s:=by
 obtain⟨h0,l,h1,h2,_,h4⟩:=v.node p h;intro o ho;obtain⟨g1,g2,s,g3,g4,g5⟩:=QE h1 _ h2 o ho;refine⟨g1,s,_,g3,g4,h4,?_⟩
 grind [P.tv]
def z3:Vl:=((0,0,0):Int×Int×Int)
def fq(g:Nat->Vl×Int):List Nat->List Vl⊕Int
 |[]=> .inl []
 |o::os=>if(g o).2=0 then(match fq g os with
  | .inl vs=> .inl ((g o).1::vs)
  | .inr c=> .inr c)else .inr (g o).2
def gf(r:Vl×Int):Vl×Int:=if r.2≠0 then(z3,r.2)else if(r.1.1:Int)=1/\be r.1.1 r.1.2.1 r.1.2.2 then(r.1,0)else(z3,8)
def FT(g:Nat->Vl×Int)(n:Ty)(ops:List Nat):Vl×Int:=
 if(n.2:Int)≠0 then(z3,2)else
 if(gf (g (ops.getD 0 0))).2≠0 then(z3,(gf (g (ops.getD 0 0))).2)else
 if(n.1:Int)=26/\((gf (g (ops.getD 0 0))).1.2.2:Int)=1 then g (ops.getD 1 0)else
 if(n.1:Int)=26 then g (ops.getD 2 0)else
 if((n.1:Int)=23)=(((gf (g (ops.getD 0 0))).1.2.2:Int)=0)then((gf (g (ops.getD 0 0))).1,0)else gf (g (ops.getD 1 0))
def nu(op:Int):Prop:=op=23\/op=24\/op=26
instance(op:Int):Decidable (nu op):=by unfold nu;infer_instance
noncomputable def eQ(ap:Ty->List Vl->Vl×Int)(e:List Ty)(st:List Nat):Nat->Nat->Vl×Int
 |0,_=>(z3,0)
 |f+1,i=>if nu (e.getD i ((0,0):Int×Int)).1 then FT (eQ ap e st f) (e.getD i ((0,0):Int×Int)) (opsL st (ar (e.getD i ((0,0):Int×Int)).1).toNat i)
  else match fq (eQ ap e st f) (opsL st (ar (e.getD i ((0,0):Int×Int)).1).toNat i)with
   | .inl vs=>ap (e.getD i ((0,0):Int×Int)) vs
   | .inr c=>(z3,c)
def B9{e:List Ty}{st:List Nat}(v:B6 e st)(hl:e.length<=100000)(env:bl.den){i:Nat}(hi:i<e.length):M.dO aR (e,(cz st,env)) (i:Int)=aa (cz (opsL st (ar e[i].1).toNat i)):=by
 apply Wp.eq;obtain⟨h0,l,hc,ha,hd,_⟩:=v.node i hi;unfold M.dO;simp only;rw[aM hi];simp only[ago,lz]
 obtain⟨a,Zb⟩:∃a:Nat,ar e[i].1=a:=⟨(ar e[i].1).toNat,by omega⟩
 have hle:=pQ e[i].1;rw[Zb]at ha hle⊢;rw[agE]at ha⊢
 have Kj:og (a:Int) (0:Int)=aa (agv a 0):=by
  unfold og;rw[aj (by omega),agE]
 rw[Kj];simp only[ago,List.length_replicate];refine Wp.loop (λs:Int×Int×List Int=>∃b p:Nat,∃dn l':List Nat,s=((p:Int)-1,(b:Int)-1,agv b (0:Int)++cz dn)/\b<=a/\p<=i/\opsL st a i=opsL st b p++dn/\Ch st p l'/\b<=l'.length) (λs=>(s.2.1+1).toNat) ⟨a,i,[],l,?_,agt _,agt _,by simp,hc,ha⟩ ?_ ?_
 .rw[aE (by omega) (by omega),aE (by omega) (by omega)];simp
 .simp only;rw[aE (n:=(a:Int)-1) (by omega) (by omega)];unfold aR;omega
 .rintro _ ⟨b,p,dn,l',rfl,h1,h2,h3,h4,h5⟩
  simp only
  refine Wp.dec (λhb=>?_) λhb=> .some ?_
  .obtain⟨b,rfl⟩:∃m,b=m+1:=⟨b-1,by omega⟩
   cases h4 with
   |nil=>simp at h5
   | @snoc p u l' g1 g2 c=>
     simp at h5;have hp:p<st.length:=(agJ.1 g1).1
     have e5:idx (agv (b+1) (0:Int)++cz dn) (((b+1:Nat):Int)-1)=aa 0:=by
      rw[show((b+1:Nat):Int)-1=(b:Int) by omega,aM (by simp;omega),ag4 (by simp)];simp
     have e6:idx (cz st) (((p+1:Nat):Int)-1)=aa (u:Int):=by
      rw[show((p+1:Nat):Int)-1=(p:Int) by omega,aM (by simpa using hp)];have:=(agJ.1 g1).2;simp[this]
     rw[e5,e6];simp only[ago];rw[aE (n:=(u:Int)-1) (by omega) (by omega),aE (n:=(((b+1:Nat):Int)-1)-1) (by omega) (by omega)];refine .some ⟨⟨b,u,p::dn,l',?_,by omega,by omega,?_,c,h5⟩,by simp only;omega⟩
     .have e7:bG (agv (b+1) (0:Int)++cz dn) (((b+1:Nat):Int)-1) (((p+1:Nat):Int)-1)=agv b (0:Int)++cz (p::dn):=by
       unfold bG;rw[show(((b+1:Nat):Int)-1).toNat=b by omega,show((p+1:Nat):Int)-1=(p:Int) by omega,List.replicate_succ',ahg,List.set_append_right _ _ (by simp)];simp
      rw[e7];simp only[Prod.mk.injEq,and_true,true_and];omega
     .rw[h3,opsL]
      have:st.getD (p+1-1) 0=u:=by simp[List.getD,g1]
      rw[this];simp
  .obtain rfl:b=0:=by omega
   show _=_
   rw[h3];simp[opsL]
noncomputable def rB(env:bl.den)(n:Ty)(args:List Vl):Vl×Int:=(M.eL aR n args env).getD (z3,0)
def Oy{env:bl.den}(he:lQ env){n:Ty}(hn:WF az n){args:List Vl}(hl:args.length<=100000):M.eL aR n args env=aa (rB env n args):=by
 obtain⟨r,hr,_⟩:=B5 (n:=n) (args:=args) he hn hl;unfold rB;rw[hr];rfl
def Ub{env:bl.den}(he:lQ env){n:Ty}(hn:WF az n){args:List Vl}(hl:args.length<=100000):QC (rB env n args):=by
 obtain⟨r,hr,h⟩:=B5 (n:=n) (args:=args) he hn hl;unfold rB;rw[hr];exact h
def wu{N:Nat}{x:bn.den}{o:Int}{r:Vl×Int}(h:M.bB aR N x o=aa r):M.cW aR (N+1) x o=aa (gf r):=by
 unfold M.cW gf;rw[h];simp only[ago,cy];by_cases h0:r.2=0
 .by_cases h1:(r.1.1:Int)=1
  .by_cases h2:be r.1.1 r.1.2.1 r.1.2.2
   .rw[h1]at h2;simp[h0,h1,h2]
   .rw[h1]at h2;simp[h0,h1,h2,z3]
  .simp[h0,h1,z3]
 .simp[h0,z3]
def lA{g:Nat->Vl×Int}:∀(os:List Nat)(k:Nat),k<=os.length->∀vs,fq g (os.take k)= .inl vs->fq g os=(match fq g (os.drop k)with
 | .inl ws=> .inl (vs++ws)
 | .inr c=> .inr c)
 |os,0,_,vs,h=>by
  grind [P.fq]
 |[],k+1,h,_,_=>by simp at h
 |o::os,k+1,hk,vs,h=>by
  rw[List.take_succ_cons,fq]at h;split at h
  .rename_i h0
   cases hq:fq g (os.take k)with
   |inr c=>rw[hq]at h;cases h
   |inl ws=>
    rw[hq]at h;cases h;have:=lA os k (by simpa using hk) ws hq;rw[fq,aj h0,this,List.drop_succ_cons]
    cases fq g (os.drop k)<;>rfl
  .cases h
def yq{g:Nat->Vl×Int}:∀{os:List Nat}{vs:List Vl},fq g os= .inl vs->vs.length=os.length
 |[],vs,h=>by cases h;rfl
 |o::os,vs,h=>by
  rw[fq]at h;split at h
  .cases hq:fq g os with
   |inr c=>rw[hq]at h;cases h
   |inl ws=>rw[hq]at h;cases h;simp[yq hq]
  .cases h
def NC{e:List Ty}{st:List Nat}(v:B6 e st)(hl:e.length<=100000){env:bl.den}(he:lQ env)(hw:∀n∈e,WF az n):∀(f N i:Nat),i<f->i<e.length->3*f<=N->M.bB aR N (e,(cz st,env)) (i:Int)=aa (eQ (rB env) e st f i):=by
 intro f
 induction f with
 |zero=>intro N i h;omega
 |succ f ih=>
  intro N i hif hi hN
  obtain⟨N,rfl⟩:∃m,N=m+3:=⟨N-3,by omega⟩
  have Il:=v.ops hi
  have hge:e.getD i ((0,0):Int×Int)=e[i]:=by simp[List.getD,hi]
  have hlen:=sn st (ar e[i].1).toNat i;have IJ:=pQ e[i].1
  have oa:∀M',3*f<=M'->∀o∈opsL st (ar e[i].1).toNat i,M.bB aR M' (e,(cz st,env)) (o:Int)=aa (eQ (rB env) e st f o):=by
   intro M' Zc o ho;obtain⟨g1,_⟩:=Il o ho;exact ih M' o (by omega) (by omega) Zc
  unfold eQ M.bB;rw[hge,B9 v hl env hi];simp only;rw[aM hi];simp only[ago];rw[T8];simp only[ago];have Rh:=hw e[i] (agy hi);generalize Uc:opsL st (ar e[i].1).toNat i=ops at*;by_cases hz:nu e[i].1
  .rw[aj hz,aj (by simpa[nu]using hz)]
   have U7:2<=ops.length/\((e[i].1:Int)=26->3<=ops.length):=by
    have:2<=ar e[i].1/\((e[i].1:Int)=26->ar e[i].1=3):=by
     revert hz;generalize(e[i].1:Int)=op;intro hz
     rcases hz with rfl|rfl|rfl<;>decide
    refine⟨by omega,λh=>?_⟩;have:=this.2 h;omega
   have gd:∀k(hk:k<ops.length),idx (cz ops) (k:Int)=aa ((ops.getD k 0:Nat):Int)/\ops.getD k 0∈ops:=by
    intro k hk
    have:ops.getD k 0=ops[k]:=by simp[List.getD,hk]
    rw[this];refine⟨?_,agy hk⟩;rw[aM (by simpa using hk)];simp
   obtain⟨i0,m0⟩:=gd 0 (by omega);obtain⟨i1,m1⟩:=gd 1 (by omega);unfold M.gO;rw[show((0:Nat):Int)=0 from rfl]at i0;rw[show((1:Nat):Int)=1 from rfl]at i1;rw[i0,i1];simp only[ago];rw[wu (oa N (by omega) _ m0),wu (oa N (by omega) _ m1),oa (N+1) (by omega) _ m1];simp only[ago,aJ,gT];unfold FT;generalize hb:gf (eQ (rB env) e st f (ops.getD 0 0))=b;by_cases h2:(e[i].2:Int)=0
   .rw[ai (by simp[h2])];by_cases ND:b.2=0
    .rw[ai (by simp[ND])];by_cases NE:(e[i].1:Int)=26
     .obtain⟨i2,m2⟩:=gd 2 (by have:=U7.2 NE;omega);rw[show((2:Nat):Int)=2 from rfl]at i2;rw[i2];simp only[ago];rw[oa (N+1) (by omega) _ m2];by_cases hn:(b.1.2.2:Int)=1
      .simp[h2,ND,NE,hn]
      .simp[h2,ND,NE,hn]
     .by_cases h23:(e[i].1:Int)=23<;>by_cases hn:(b.1.2.2:Int)=0<;>simp[h2,ND,NE,h23,hn]
    .simp[h2,ND,z3]
   .simp[h2,z3]
  .rw[ai hz,ai (by simpa[nu]using hz)]
   have Kj:og ((cz ops).length:Int) ((0:Int),((0:Int),(0:Int)))=aa (agv ops.length z3):=by
    unfold og;rw[aj (by simp;omega)];simp[z3]
   rw[Kj];simp only[ago];apply Wp.eq;refine Wp.join (Wp.loop (λs:Int×List Vl=>∃vs:List Vl,s=((vs.length:Int),vs++agv (ops.length-vs.length) z3)/\vs.length<=ops.length/\fq (eQ (rB env) e st f) (ops.take vs.length)= .inl vs) (λs=>(ops.length-s.1).toNat) ⟨[],by simp,by simp,by simp[fq]⟩ (by simp only;unfold aR;omega) ?_)
   rintro _ ⟨vs,rfl,QV,Ud⟩
   simp only;have qE:=lA ops vs.length QV vs Ud
   refine Wp.dec (λhk=>?_) λhk=> .some ?_
   .have gD:vs.length<ops.length:=by simp at hk;omega
    have QF:vs.length<(cz ops).length:=by simpa using gD
    rw[aM QF];simp only[ago,List.getElem_map];rw[oa (N+2) (by omega) _ (agy gD)];simp only[ago];have hd:ops.drop vs.length=ops[vs.length]::ops.drop (vs.length+1):=List.drop_eq_getElem_cons gD;rw[hd,fq]at qE;have ht:ops.take (vs.length+1)=ops.take vs.length++[ops[vs.length]]:=List.take_succ_eq_append_getElem gD
    obtain⟨r,hr⟩:∃r,eQ (rB env) e st f ops[vs.length]=r:=⟨_,rfl⟩
    rw[hr]at qE⊢;by_cases h0:r.2=0
    .rw[ai (by simp[h0])]
     obtain⟨m,hm⟩:∃m,ops.length-vs.length=m+1:=⟨ops.length-vs.length-1,by omega⟩
     rw[hm]
     have e8:idx (vs++agv (m+1) z3) (vs.length:Int)=aa z3:=by
      rw[aM (by simp),ahc (by omega)];simp
     have e9:bG (vs++agv (m+1) z3) (vs.length:Int) r.1=(vs++[r.1])++agv m z3:=by
      unfold bG;rw[agE,List.set_append_right _ _ (by omega),List.replicate_succ];simp
     rw[e8];simp only[ago,e9];rw[aL (by omega)]
     have kA:fq (eQ (rB env) e st f) [ops[vs.length]]= .inl [r.1]:=by
      simp only[fq,hr];rw[aj h0]
     have Mn:=lA (g:=eQ (rB env) e st f) (ops.take (vs.length+1)) vs.length (by simp;omega) vs (by rw[List.take_take,ahs (by omega)];exact Ud);rw[ht,List.drop_append_of_le_length (by simp;omega),List.drop_of_length_le (by simp;omega),List.nil_append,kA]at Mn;refine .some ⟨⟨vs++[r.1],?_,by simp;omega,?_⟩,by simp only;omega⟩
     .have:ops.length-(vs++[r.1]).length=m:=by simp;omega
      rw[this];simp
     .rw[show(vs++[r.1]).length=vs.length+1 by simp,ht];exact Mn
    .rw[aj (by simp[h0])];rw[ai h0]at qE;refine .some ?_
     show _=_
     rw[qE];rfl
   .have Zd:ops.drop vs.length=[]:=List.drop_of_length_le (by simp at hk;omega);rw[Zd,fq]at qE;rw[qE]
    have h0:ops.length-vs.length=0:=by simp at hk;omega
    rw[h0];simp only[List.replicate_zero,List.append_nil]
    show Wp ((M.eL aR e[i] vs env).bind λT6=>aa (T6.1,T6.2)) _
    rw[Oy he Rh (by omega)];exact .some rfl
end L.P
namespace L.P
structure Whole(e:List Ty)(st:List Nat):Prop where
 val:B6 e st
 ne:e≠[]
 le:e.length<=48
 one:st[e.length-1]? =aa 0
 res:nq e=(0,0,cz st)
def yr:∀(e:List Ty)(i:Nat)(st sk:List Nat)(j:Nat)(c:Int),jx e i st sk= .inl (j,c)->c=2\/c=5\/c=16
 |[],_,_,_,_,_,h=>by rw[jx]at h;cases h
 |n::e,i,st,sk,j,c,h=>by
  rw[jx]at h;split at h
  .cases h;exact .inl rfl
  split at h
  .cases h;exact .inr (.inl rfl)
  split at h
  .cases h;exact .inr (.inr rfl)
  exact yr e _ _ _ j c h
def Ch.NF{st l:List Nat}{n:Nat}(h:Ch st n l)(hl:l=[]):n=0:=by
 cases h with
 |nil=>rfl
 |snoc=>simp at hl
def Ch.Lf{st l:List Nat}{n:Nat}(h:Ch st n l)(hl:n=0):l=[]:=by
 cases h with
 |nil=>rfl
 |snoc=>omega
theorem Ch.one{st l:List Nat}{n:Nat}(h:Ch st n l)(hn:0<n):l.length<=1↔st[n-1]? =aa 0:=by
 cases h with
 |nil=>omega
 | @snoc i s l h1 h2 c=>
   rw[Nat.add_sub_cancel,h1];constructor
   .intro hl;have:l=[]:=List.length_eq_zero_iff.1 (by rw[List.length_append,List.length_singleton]at hl;omega);rw[c.NF this]
   .intro hs
    have h0:s=0:=by simpa using hs
    rw[h0]at c;rw[c.Lf rfl];simp
def Lg{e:List Ty}{st:List Nat}(v:B6 e st)(dJ:e≠[])(hl:e.length<=48)(h1:st[e.length-1]? =aa 0):Whole e st:=by
 have qA:0<e.length:=List.length_pos_iff.2 dJ;refine⟨v,dJ,hl,h1,?_⟩;obtain⟨sk,g1,g2⟩:=B8 v e [] [] rfl .nil;simp only[List.length_nil,List.take_zero]at g1;unfold nq;rw[ai (by omega),ai (by omega),g1];simp only;rw[ai];have:=(g2.one qA).2 h1;omega
def rr(e:List Ty):(nq e).2.1≠0\/∃st,Whole e st:=by
 unfold nq;split
 .left;show(4:Int)≠0;decide
 rename_i hl;split
 .left;show(5:Int)≠0;decide
 rename_i dJ
 cases hs:jx e 0 [] []with
 |inl p=>
  left
  obtain⟨j,c⟩:=p
  show c≠0
  have:=yr _ _ _ _ _ _ hs;omega
 |inr p=>
  obtain⟨st,sk⟩:=p;obtain⟨v,c⟩:=B7 e [] [] [] st sk B6.nil .nil hs;simp only[List.nil_append]at v c;by_cases h1:1<sk.length
  .left
   simp only[aj h1];decide
  .right
   exact⟨st,Lg v (λh=>dJ (by rw[h];rfl)) (by omega) ((c.one (by omega)).1 (by omega))⟩
def ru{e:List Ty}{st:List Nat}(w:Whole e st){env:bl.den}(he:lQ env)(hw:∀n∈e,WF az n):M.gH aR e env=aa (eQ (rB env) e st e.length (e.length-1)):=by
 have qA:0<e.length:=List.length_pos_iff.2 w.ne;have hle:=w.le;unfold M.gH M.mL;rw[oL,w.res];simp only[ago];rw[ai (by simp)];unfold M.iW;rw[show agp.wrap ((e.length:Int)-1)=((e.length-1:Nat):Int) by rw[aE (by omega) (by omega)];omega];rw[NC w.val (by omega) he hw e.length aR (e.length-1) (by omega) (by omega) (by unfold aR;omega)];rfl
def wv{e:List Ty}(h:(nq e).2.1≠0)(env:bl.den):M.gH aR e env=aa (z3,(nq e).2.1):=by
 unfold M.gH M.mL;rw[oL];simp only[ago];rw[aj (by simp[h])];rfl
end L.P
namespace L.P
end L.P
namespace L.P
end L.P
namespace L.P
def C3(c:Int):Prop:=c=0\/c=3\/c=6\/c=12
def Cd.c3{c:Int}(h:Cd c):C3 c:=by unfold Cd at h;unfold C3;omega
end L.P
namespace L.P
end L.P
namespace L.P
def Ca{g:Nat->Vl×Int}:∀{os:List Nat}{c:Int},fq g os= .inr c->c≠0
 |[],c,h=>by cases h
 |o::os,c,h=>by
  rw[fq]at h;split at h
  .cases hq:fq g os with
   |inl vs=>rw[hq]at h;cases h
   |inr d=>rw[hq]at h;cases h;exact Ca hq
  .rename_i h0;cases h;exact h0
end L.P
namespace L.P
end L.P
namespace L.P
def Cb{e:List Ty}{st:List Nat}(w:Whole e st){env:bl.den}(he:lQ env)(hw:∀n∈e,WF az n):∀f i,i<f->i<e.length->(eQ (rB env) e st f i).2=0->be (eQ (rB env) e st f i).1.1 (eQ (rB env) e st f i).1.2.1 (eQ (rB env) e st f i).1.2.2:=by
 intro f
 induction f with
 |zero=>grind
 |succ f ih=>
  intro i hif hi;have v:=w.val;have hl:=w.le;have Il:=v.ops hi
  have hge:e.getD i ((0,0):Int×Int)=e[i]:=by simp[List.getD,hi]
  have hlen:=sn st (ar e[i].1).toNat i;have IJ:=pQ e[i].1;have Rh:=hw e[i] (agy hi);unfold eQ;rw[hge]
  have oa:∀o∈opsL st (ar e[i].1).toNat i,(eQ (rB env) e st f o).2=0->be (eQ (rB env) e st f o).1.1 (eQ (rB env) e st f o).1.2.1 (eQ (rB env) e st f o).1.2.2:=λo ho=>ih o (by have:=(Il o ho).1;omega) (by have:=(Il o ho).1;omega)
  have hb:∀r:Vl×Int,(gf r).2=0->be (gf r).1.1 (gf r).1.2.1 (gf r).1.2.2:=λr h=>by
   grind [gf]
  generalize Uc:opsL st (ar e[i].1).toNat i=ops at*;by_cases hz:nu e[i].1
  .rw[aj hz]
   have U7:2<=ops.length/\((e[i].1:Int)=26->3<=ops.length):=by
    have:2<=ar e[i].1/\((e[i].1:Int)=26->ar e[i].1=3):=by
     revert hz;generalize(e[i].1:Int)=op;intro hz
     rcases hz with rfl|rfl|rfl<;>decide
    refine⟨by omega,λh=>?_⟩;have:=this.2 h;omega
   have gd:∀k(hk:k<ops.length),ops.getD k 0∈ops:=λk hk=>by
    have:ops.getD k 0=ops[k]:=by simp[List.getD,hk]
    rw[this];exact agy hk
   have m1:=oa _ (gd 1 (by omega));unfold FT;split
   .intro h;cases h
   split
   .rename_i h;intro g;exact absurd g h
   split
   .exact m1
   split
   .rename_i h;exact oa _ (gd 2 (by have:=U7.2 h;omega))
   split
   .intro hh;refine hb _ ?_;rename_i h _ _ _;exact Decidable.not_not.1 h
   .exact hb _
  .rw[ai hz]
   cases ha:fq (eQ (rB env) e st f) ops with
   |inr c=>
    intro h;exact absurd h (Ca ha)
   |inl vs=>exact(Ub he Rh (by rw[yq ha];omega)).ok
end L.P
namespace L
abbrev Vl:Type:=aA.den
abbrev Cc:=bl.den
end L
namespace L
end L
namespace L
def xs(b:Nat->Bool):Nat->Nat
 |0=>0
 |n+1=>xs b n+(if b n=af then 2 ^ n else 0)
def Lh(b:Nat->Bool):∀n,xs b n<2 ^ n
 |0=>by simp[xs]
 |n+1=>by
  have:=Lh b n;unfold xs;rw[Nat.pow_succ]
  split<;>omega
def Li(b:Nat->Bool):∀n k,k<n->(xs b n).testBit k=b k
 |0,k,h=>by omega
 |n+1,k,h=>by
  have hl:=Lh b n;unfold xs;by_cases hk:k<n
  .rw[<-Li b n k hk];split
   .rw[Nat.add_comm,Nat.testBit_two_pow_add_gt hk]
   .rw[Nat.add_zero]
  .obtain rfl:k=n:=by omega
   split
   .rename_i g;rw[Nat.add_comm,Nat.testBit_two_pow_add_eq,Nat.testBit_lt_two_pow hl,g];rfl
   .rename_i g;rw[Nat.add_zero,Nat.testBit_lt_two_pow hl];simpa using g
def orI{a b:Nat}(ha:a<9223372036854775808)(hb:b<9223372036854775808):aF .or .i64 (a:Int) (b:Int)=((a|||b:Nat):Int):=by
 show agp.wrap ((ag9 64 (a:Int)|||ag9 64 (b:Int)).toNat:Int)=_
 have h:a|||b<2 ^ 63:=Nat.or_lt_two_pow (by omega) (by omega)
 grind [wrap_i64]
end L
namespace L
end L
namespace L
end L
namespace L
noncomputable def ev(env:Cc)(e:kE):Vl×Int:=(M.gH aR e env).getD (P.z3,0)
def zV{env:Cc}(he:P.lQ env){e:kE}(hw:∀n∈e,WF az n):M.gH aR e env=aa (ev env e):=by
 have:∃r,M.gH aR e env=aa r:=by
  rcases P.rr e with h|⟨st,w⟩
  .exact⟨_,P.wv h env⟩
  .exact⟨_,P.ru w he hw⟩
 obtain⟨r,hr⟩:=this;unfold ev;rw[hr];rfl
def Lj{env:Cc}(he:P.lQ env){e:kE}(hw:∀n∈e,WF az n)(h0:(ev env e).2=0):P.be (ev env e).1.1 (ev env e).1.2.1 (ev env e).1.2.2:=by
 have h1:=zV he hw
 rcases P.rr e with h|⟨st,w⟩
 .rw[P.wv h env]at h1;rw[<-agq h1]at h0;exact absurd h0 h
 .rw[P.ru w he hw]at h1;rw[<-agq h1]at h0⊢;have:=List.length_pos_iff.2 w.ne;exact P.Cb w he hw _ _ (by omega) (by omega) h0
def lB(E:kE->Vl×Int)(g:kE):Int:=if(E g).2≠0 then(E g).2 else if((E g).1.1:Int)=1 then 0 else 8
def sq(E:kE->Vl×Int)(g:kE):Bool:=decide (((E g).1.2.2:Int)=1)
def kF(E:kE->Vl×Int):Nat->Nat->List kE->Int×Int×Int
 |x,_,[]=>((x:Int),((-1:Int),(0:Int)))
 |x,k,g::C=>if lB E g≠0 then((0:Int),((k:Int),lB E g))else kF E (x+if sq E g=af then 2 ^ k else 0) (k+1) C
def yt{E:kE->Vl×Int}:∀{C:List kE}{x k j:Nat}(hj:j<C.length),lB E C[j]≠0->(∀i(hi:i<j),lB E (C[i]'(by omega))=0)->kF E x k C=((0:Int),(((k+j:Nat):Int),lB E C[j]))
 |g::C,x,k,0,_,h,_=>by
  have h:lB E g≠0:=h;unfold kF;rw[aj h];rfl
 |g::C,x,k,j+1,hj,h,hg=>by
  have h0:=hg 0 (by omega);unfold kF;rw[ai (λg=>g h0),yt (j:=j) (by simpa using hj) h λi hi=>hg (i+1) (by omega)];simp only[List.getElem_cons_succ,Nat.add_assoc,Nat.add_comm 1 j]
def Cf{E:kE->Vl×Int}{C:List kE}(h:∀g∈C,lB E g=0):∀n,n<=C.length->kF E 0 0 C=kF E (xs (λk=>sq E (C[k]?.getD [])) n) n (C.drop n)
 |0,_=>rfl
 |n+1,hn=>by
  have bi:n<C.length:=by omega
  rw[Cf h n (by omega),List.drop_eq_getElem_cons bi,kF,ai (λg=>g (h _ (agy bi))),xs,agx bi];rfl
def Lk{E:kE->Vl×Int}{C:List kE}(h:∀g∈C,lB E g=0):kF E 0 0 C=(((xs (λk=>sq E (C[k]?.getD [])) C.length:Nat):Int),((-1:Int),(0:Int))):=by
 rw[Cf h _ (agt _),List.drop_length];rfl
def Cg(E:kE->Vl×Int)(C:List kE):
 (∃(j:Nat)(g:kE),C[j]? =aa g/\lB E g≠0/\(∀(i:Nat)(g':kE),i<j->C[i]? =aa g'->lB E g'=0)/\kF E 0 0 C=((0:Int),((j:Int),lB E g)))\/
 ((∀g∈C,lB E g=0)/\kF E 0 0 C=(((xs (λk=>sq E (C[k]?.getD [])) C.length:Nat):Int),((-1:Int),(0:Int)))):=by
 by_cases h:∀g∈C,lB E g=0
 .exact .inr ⟨h,Lk h⟩
 .have hx:∃g∈C,(λg=>decide (lB E g≠0)) g=af:=by
   grind
  have hl:=List.findIdx_lt_length_of_exists hx;have hp:=al (List.findIdx_getElem (w:=hl))
  have hg:∀i(hi:i<C.findIdx λg=>decide (lB E g≠0)),lB E (C[i]'(by omega))=0:=λi hi=>by
   have:=List.not_of_lt_findIdx hi;simpa using this
  refine .inl ⟨_,_,agx hl,hp,λi g' hi he=>?_,?_⟩
  .rw[agx (by omega)]at he;rw[<-agq he];exact hg i hi
  .have:=yt (E:=E) (x:=0) (k:=0) hl hp hg;rw[agX]at this;exact this
end L
namespace L
end L
namespace L
def QG{x n:Nat}(h:x<2 ^ n)(hn:n<62):aF .or .i64 (x:Int) ((2 ^ n:Nat):Int)=((x+2 ^ n:Nat):Int):=by
 have h2:2 ^ n<=2 ^ 61:=Nat.pow_le_pow_right (by omega) (by omega);rw[orI (by omega) (by omega)];have:=Nat.two_pow_add_eq_or_of_lt h 1;rw[Nat.mul_one]at this;rw[Nat.or_comm,<-this,Nat.add_comm]
def wx{E:kE->Vl×Int}{g:kE}(h:(E g).2≠0):lB E g=(E g).2:=by
 unfold lB;rw[aj h]
def tE{E:kE->Vl×Int}{g:kE}(h:(E g).2=0)(h1:((E g).1.1:Int)≠1):lB E g=8:=by
 unfold lB;rw[ai (λk=>k h),ai h1]
def FU{E:kE->Vl×Int}{g:kE}(h:(E g).2=0)(h1:((E g).1.1:Int)=1):lB E g=0:=by
 unfold lB;rw[ai (λk=>k h),aj h1]
def wy{E:kE->Vl×Int}{x k:Nat}{g:kE}{C:List kE}:kF E x k (g::C)=if lB E g≠0 then((0:Int),((k:Int),lB E g))else kF E (x+if sq E g=af then 2 ^ k else 0) (k+1) C:=rfl
def Im(t:Nn){env:Cc}(he:P.lQ env)(hw:∀g∈t.2.1,∀n∈g,WF az n)(h8:t.2.1.length<=8):M.bL aR t env=aa (kF (ev env) 0 0 t.2.1):=by
 unfold M.bL;rw[ai (by simp;omega)];refine Wp.eq (Wp.count (λs=>s.2) t.2.1.length (λk s=>∃x:Nat,s.1=(x:Int)/\x<2 ^ k/\kF (ev env) 0 0 t.2.1=kF (ev env) x k (t.2.1.drop k)) (by omega) rfl ⟨0,rfl,by simp,rfl⟩ λk s hk hs hJ=>?_);obtain⟨y,c⟩:=s;obtain⟨x,e,hx,hJ⟩:=hJ;dsimp only at hs e;subst hs e;refine .dec (λh=>?_) (λh=> .some ?_)
 .have bi:k<t.2.1.length:=by dsimp only at h;omega
  have hg:=hw _ (agy bi);have h2:2 ^ k*2=2 ^ (k+1):=(Nat.pow_succ ..).symm;rw[List.drop_eq_getElem_cons bi,wy]at hJ;refine .join (.bind (.idx k rfl bi (.aW (zV he hg) ?_)))
  refine .o9 (λh1=> .some ?_) λh1=> .o9 (λh3=> .some ?_) λh3=>?_
  .rw[aj (by rw[wx h1];exact h1),wx h1]at hJ;exact hJ.symm
  .rw[tE h1 h3,aj (by decide)]at hJ;exact hJ.symm
  .rw[FU h1 h3,ai (λg=>g rfl)]at hJ;refine .dec (λh4=> .aW (oG (by omega)) (.some (.some ⟨bi,aL (by omega),x+2 ^ k,?_,by omega,?_⟩))) (λh4=> .some (.some ⟨bi,aL (by omega),x,rfl,by omega,?_⟩))
   .exact QG hx (by omega)
   .rw[hJ,aj (show sq (ev env) t.2.1[k]=af from an h4)]
   .rw[hJ,ai (show¬sq (ev env) t.2.1[k]=af from λg=>h4 (al g))];rfl
 .have:k=t.2.1.length:=by dsimp only at h;omega
  subst this;rw[List.drop_length]at hJ;exact hJ.symm
end L
namespace L.P
def EA{B y1 y0 u v q r:Nat}(hy:0<y1*B+y0)(Ze:q*y1+r=u)(hge:(u*B+v)/(y1*B+y0)<=q)(Ue:q*y0<=B*r+v):q=(u*B+v)/(y1*B+y0):=by
 refine Nat.le_antisymm ?_ hge;rw[Nat.le_div_iff_mul_le hy,Nat.mul_add]
 have e1:q*(y1*B)+B*r=u*B:=by rw[<-Ze,agP,Nat.mul_assoc,agO B r]
 omega
def Ci{B y1 y0 u v q r:Nat}(hy:0<y1*B+y0)(Ze:q*y1+r=u)(CO:B*r+v<q*y0):(u*B+v)/(y1*B+y0)<q:=by
 rw[agS hy,Nat.mul_add]
 have e1:q*(y1*B)+B*r=u*B:=by rw[<-Ze,agP,Nat.mul_assoc,agO B r]
 omega
def wz{B y u v:Nat}(hu:u<y)(hv:v<B):(u*B+v)/y<B:=by
 rw[agS (by omega)];have:(u+1)*B<=y*B:=agA B hu;rw[agP]at this;rw[agO B y];omega
def Cj{B y1 y0 u v:Nat}(Uf:0<y1)(hB:0<B)(hv:v<B):(u*B+v)/(y1*B+y0)<=u/y1:=by
 have hy:0<y1*B+y0:=by have:=Nat.mul_pos Uf hB;omega
 refine Nat.le_of_lt_succ ?_;rw[agS hy,Nat.mul_add]
 have h1:u<(u/y1+1)*y1:=by
  have:=ahm u y1;have:=ahj u Uf;rw[agP,Nat.one_mul,agO];omega
 have h2:(u+1)*B<=(u/y1+1)*y1*B:=agA B h1;rw[agP]at h2;have h3:(u/y1+1)*(y1*B)=(u/y1+1)*y1*B:=(Nat.mul_assoc ..).symm;have h4:0<=(u/y1+1)*y0:=Nat.zero_le _
 show u*B+v<(u/y1).succ*(y1*B)+(u/y1).succ*y0
 show u*B+v<(u/y1+1)*(y1*B)+(u/y1+1)*y0
 omega
def wA{B y1 y0 u:Nat}(Uf:0<y1)(h2:B<=2*y1)(h0:y0<B)(hu:u<y1*B+y0):u/y1<=B+1:=by
 refine Nat.le_of_lt_succ ?_;rw[agS Uf]
 show u<(B+1+1)*y1
 have:(B+1+1)*y1=y1*B+2*y1:=by rw[agP,agP,agO B y1];omega
 omega
end L.P
namespace L.P
def Ck{a:Nat}(ha:a<18446744073709551616):aF .and .u64 (a:Int) 4294967295=((a%4294967296:Nat):Int):=by
 have h:=bits_and_u64_nat a 4294967295 ha (by omega);rw[show a&&& 4294967295=a%4294967296 from Nat.and_two_pow_sub_one_eq_mod a 32]at h;exact h
def orN{a b:Nat}(ha:a<18446744073709551616)(hb:b<18446744073709551616):aF .or .u64 (a:Int) (b:Int)=((a|||b:Nat):Int):=bits_or_u64_nat a b ha hb
def Ug(a:Nat){s:Nat}(hs:s<=64):bx .u64 (a:Int) (s:Int)=((a/2 ^ s:Nat):Int):=by
 unfold bx;rw[show min ((s:Int).toNat) agr.bits=s by simp[ahL];omega]
 grind
def Zf(a:Nat){s:Nat}(hs:s<=64):sI .u64 (a:Int) (s:Int)=((a*2 ^ s%18446744073709551616:Nat):Int):=by
 unfold sI;rw[show min ((s:Int).toNat) agr.bits=s by simp[ahL];omega]
 grind [P.iR]
theorem pc(a b:Nat)(h:b≠0):kB (a:Int) (b:Int)=aa ((a/b:Nat):Int):=by
 grind [kB]
def zW(a b:Nat)(h:b≠0):ph (a:Int) (b:Int)=aa ((a%b:Nat):Int):=by
 grind [ph]
def nv{a:Nat}(h:a<18446744073709551616):agr.wrap (a:Int)=(a:Int):=iZ (by omega) (by omega)
theorem sr(N:Nat){x y:Nat}(hx:x<18446744073709551616)(hy:y<18446744073709551616):M.cX N (x:Int) (y:Int)=aa (((x*y/18446744073709551616:Nat):Int),((x*y%18446744073709551616:Nat):Int)):=by
 obtain⟨bd,bt,bw,Zg⟩:=Lib.mul64_hi x y hx hy;have ba:=Lib.half_mul_le (a:=x/4294967296) (b:=y/4294967296) (by omega) (by omega);have bb:=Lib.half_mul_le (a:=x/4294967296) (b:=y%4294967296) (by omega) (by omega);have bc:=Lib.half_mul_le (a:=x%4294967296) (b:=y/4294967296) (by omega) (by omega)
 have ba':x/4294967296*(y/4294967296)<18446744073709551616:=by omega
 have bb':x/4294967296*(y%4294967296)<18446744073709551616:=by omega
 have bc':x%4294967296*(y/4294967296)<18446744073709551616:=by omega
 have bh1:x/4294967296*(y/4294967296)+(x/4294967296*(y%4294967296)+x%4294967296*(y%4294967296)/4294967296)/4294967296<18446744073709551616:=by omega
 have bh:x/4294967296*(y/4294967296)+(x/4294967296*(y%4294967296)+x%4294967296*(y%4294967296)/4294967296)/4294967296+((x/4294967296*(y%4294967296)+x%4294967296*(y%4294967296)/4294967296)%4294967296+x%4294967296*(y/4294967296))/4294967296<18446744073709551616:=by
  rw[Zg];rw[agS (by omega)];exact Nat.mul_lt_mul'' hx hy
 have dv:∀a:Nat,((a:Int)/4294967296)=((a/4294967296:Nat):Int):=λa=>by omega
 have ml:∀a b:Nat,((a:Int)*(b:Int))=((a*b:Nat):Int):=λa b=>(ag1 a b).symm
 have ad:∀a b:Nat,((a:Int)+(b:Int))=((a+b:Nat):Int):=λa b=>(Int.natCast_add a b).symm
 unfold M.cX;simp only[FQ,Ck hx,Ck hy,dv,ml,ad,nv bd,nv bb',nv bt,Ck bt,nv bc',nv bw,nv ba',nv bh1,nv bh]
 grind [P.iR]
def QH{S:Type}{body:S->Option (S⊕Int)}(mk:Nat->Nat->S){B y1 y0 u v dg:Nat}(h0:y0<B)(hd:dg<B)
 (hgr:∀q r:Nat,q*y1+r=u->B*r+v<q*y0->dg<q)(Ue:∀q r:Nat,q*y1+r=u->dg<=q->q*y0<=B*r+v->q=dg)
 (hb:∀q r:Nat,q<=B+1->r<B->body (mk q r)=if B<=q\/B*r+v<q*y0 then(if B<=r+y1 then aa (.inr (((q-1:Nat)):Int))else aa (.inl (mk (q-1) (r+y1))))else aa (.inr (q:Int))):
 ∀n q r N:Nat,q<=dg+n->q*y1+r=u->dg<=q->q<=B+1->r<B->n<N->Loop body N (mk q r)=aa (dg:Int):=by
 intro n
 induction n with
 |zero=>
  intro q r N g1 g2 g3 g4 g5 g6
  obtain⟨N,rfl⟩:∃k,N=k+1:=⟨N-1,by omega⟩
  grind [Loop]
 |succ n ih=>
  intro q r N g1 g2 g3 g4 g5 g6
  obtain⟨N,rfl⟩:∃k,N=k+1:=⟨N-1,by omega⟩
  unfold Loop;rw[hb q r g4 g5];by_cases c:B<=q\/B*r+v<q*y0
  .have bi:dg<q:=by
    rcases c with c|c
    .omega
    .grind
   obtain⟨p,rfl⟩:∃p,q=p+1:=⟨q-1,by omega⟩
   have e1:p*y1+(r+y1)=u:=by
    rw[agP,Nat.one_mul]at g2;omega
   rw[aj c,Nat.add_sub_cancel];by_cases e:B<=r+y1
   .rw[aj e]
    show aa (p:Int)=_
    have a1:p*y0<=B*y0:=agA _ (by omega);have a2:B*y0<=B*(r+y1):=Nat.mul_le_mul_left _ (by omega);rw[<-Ue p (r+y1) e1 (by omega) (by omega)]
   grind
  grind
def Cm{S:Type}{body:S->Option (S⊕Int)}(mk:Nat->Nat->S){B y1 y0 u v:Nat}(hB:B+1<aR)(h1:B<=2*y1)(RE:0<B)(h0:y0<B)(hu:u<y1*B+y0)(hv:v<B)(C7:y1<B)
 (hb:∀q r:Nat,q<=B+1->r<B->body (mk q r)=if B<=q\/B*r+v<q*y0 then(if B<=r+y1 then aa (.inr (((q-1:Nat)):Int))else aa (.inl (mk (q-1) (r+y1))))else aa (.inr (q:Int))):
 Loop body aR (mk (u/y1) (u%y1))=aa (((u*B+v)/(y1*B+y0):Nat):Int):=by
 have hp:0<y1*B:=Nat.mul_pos (by omega) RE
 have hy:0<y1*B+y0:=by omega
 have Dc:=ahm u y1;have hm:=ahj u (show 0<y1 by omega);rw[agO]at Dc;refine QH mk h0 (wz hu hv) (λq r g c=>Ci hy g c) (λq r g g' c=>EA hy g g' c) hb (B+1) (u/y1) (u%y1) aR ?_ Dc (Cj (by omega) RE hv) (wA (by omega) h1 h0 hu) (by omega) hB;exact agR (wA (by omega) h1 h0 hu) (Nat.le_add_left _ _)
def wB{hi lo y:Nat}(h1:hi<y)(hl:lo<18446744073709551616)(h2:y<18446744073709551616):
 M.cG aR (hi:Int) (lo:Int) (y:Int)=aa ((((hi*18446744073709551616+lo)/y:Nat):Int),(((hi*18446744073709551616+lo)%y:Nat):Int)):=by
 unfold M.cG;rw[ai (by simp;omega),ai (by simp;omega)];by_cases h0:hi=0
 .subst h0;rw[aj (by simp),pc _ _ (by omega),zW _ _ (by omega)];simp only[ago,Nat.zero_mul,agX];rw[nv (Nat.lt_of_le_of_lt (Nat.div_le_self _ _) hl)]
 .rw[ai (by simp;omega)];obtain⟨L,g1,g2,g3,g4⟩:=BX (N:=aR) (m:=y) (by omega);obtain⟨g4,g5⟩:=g4 (by omega);unfold M.dG;rw[g1]
  have hL:agr.wrap (agp.wrap ((64:Int)-(L:Int)))=((64-L:Nat):Int):=by
   rw[aE (by omega) (by omega),iZ (by omega) (by omega)];omega
  have Y5:agr.wrap ((64:Int)-((64-L:Nat):Int))=(L:Int):=by rw[iZ (by omega) (by omega)];omega
  simp only[ago,hL,Y5]
  obtain⟨s,hs⟩:∃s,s=64-L:=⟨_,rfl⟩
  rw[<-hs]
  have Uh:s<=64:=by omega
  have gE:∀a:Int,qC .u64 a ((s:Nat):Int)=aa (sI .u64 a ((s:Nat):Int)):=λa=>ai (by omega)
  have Y6:∀a:Int,ur .u64 a (L:Int)=aa (bx .u64 a (L:Int)):=λa=>ai (by omega)
  have Qz:∀a:Int,ur .u64 a ((s:Nat):Int)=aa (bx .u64 a ((s:Nat):Int)):=λa=>ai (by omega)
  have hP:0<2 ^ s:=Nat.two_pow_pos _
  have QI:2 ^ L*2 ^ s=18446744073709551616:=by
   rw[<-ahN,show L+s=64 by omega]
  have Zh:y*2 ^ s<18446744073709551616:=by
   rw[<-QI];exact Nat.mul_lt_mul_of_pos_right g3 hP
  have hY2:9223372036854775808<=y*2 ^ s:=by
   have:2 ^ (L-1)*2 ^ s=9223372036854775808:=by rw[<-ahN,show L-1+s=63 by omega]
   rw[<-this];exact agA _ g5
  have Zg:hi*2 ^ s+2 ^ s<=y*2 ^ s:=by
   have:=agA (2 ^ s) (show hi+1<=y from h1);rw[agP,Nat.one_mul]at this;exact this
  have ZQ:lo/2 ^ L<2 ^ s:=by
   rw[agS (Nat.two_pow_pos _),agO,QI];exact hl
  have hx5:hi*2 ^ s%18446744073709551616=hi*2 ^ s:=Nat.mod_eq_of_lt (by omega)
  have hor:(hi*2 ^ s)|||(lo/2 ^ L)=hi*2 ^ s+lo/2 ^ L:=by
   have:=Nat.shiftLeft_add_eq_or_of_lt ZQ hi;rw[Nat.shiftLeft_eq]at this;exact this.symm
  have Zi:lo*2 ^ s=(lo/2 ^ L)*18446744073709551616+lo*2 ^ s%18446744073709551616:=by
   have e:lo*2 ^ s/18446744073709551616=lo/2 ^ L:=by rw[<-QI];exact Nat.mul_div_mul_right _ _ hP
   have:=ahm (lo*2 ^ s) 18446744073709551616;rw[e]at this;omega
  have hdiv:(hi*18446744073709551616+lo)*2 ^ s/(y*2 ^ s)=(hi*18446744073709551616+lo)/y:=Nat.mul_div_mul_right _ _ hP;have Co:(hi*18446744073709551616+lo)*2 ^ s%(y*2 ^ s)=(hi*18446744073709551616+lo)%y*2 ^ s:=Nat.mul_mod_mul_right _ _ _
  have hW:(hi*18446744073709551616+lo)*2 ^ s=hi*2 ^ s*18446744073709551616+lo*2 ^ s:=by
   rw[agP];rw[Nat.mul_right_comm]
  simp only[gE,Y6,Qz,ago,FQ,Zf _ Uh,Ug _ g2,hx5,Nat.mod_eq_of_lt Zh];rw[orN (by omega) (by omega),hor]
  obtain⟨x7,e7,hx7⟩:∃x7,x7=lo*2 ^ s%18446744073709551616/\x7<18446744073709551616:=⟨_,rfl,ahj _ (by decide)⟩
  rw[<-e7]at Zi⊢
  obtain⟨U,hU⟩:∃U,U=hi*2 ^ s+lo/2 ^ L:=⟨_,rfl⟩
  obtain⟨Y,hY⟩:∃Y,Y=y*2 ^ s:=⟨_,rfl⟩
  obtain⟨W,hWd⟩:∃W,W=hi*18446744073709551616+lo:=⟨_,rfl⟩
  rw[<-hWd]at hdiv Co hW⊢;rw[<-hY]at Zh hY2 hdiv Co Zg⊢;rw[<-hU]
  have hUY:U<Y:=by omega
  have hWs:W*2 ^ s=U*18446744073709551616+x7:=by rw[hW,hU];omega
  rw[hWs]at hdiv Co
  obtain⟨y1,y0,hYe,hy0,Uf,Ui⟩:∃y1 y0,Y=y1*4294967296+y0/\y0<4294967296/\2147483648<=y1/\y1<4294967296:=⟨Y/4294967296,Y%4294967296,by omega,by omega,by omega,by omega⟩
  obtain⟨v1,v0,wQ,GU,ry⟩:∃v1 v0,x7=v1*4294967296+v0/\v0<4294967296/\v1<4294967296:=⟨x7/4294967296,x7%4294967296,by omega,by omega,by omega⟩
  have eY:((Y:Int)/4294967296)=(y1:Int):=by omega
  have eV:((x7:Int)/4294967296)=(v1:Int):=by omega
  have aY:aF .and .u64 (Y:Int) 4294967295=(y0:Int):=by rw[Ck Zh];omega
  have aV:aF .and .u64 (x7:Int) 4294967295=(v0:Int):=by rw[Ck hx7];omega
  simp only[eY,eV,aY,aV,pc _ _ (show y1≠0 by omega),ago];have i1:agr.wrap ((U/y1:Nat):Int)=((U/y1:Nat):Int):=nv (Nat.lt_of_le_of_lt (Nat.div_le_self _ _) (by omega))
  have i2:∀a:Nat,agr.wrap ((a:Int)-agr.wrap (((a/y1:Nat):Int)*(y1:Int)))=agr.wrap ((a%y1:Nat):Int):=by
   intro a;have e:=ahm a y1;rw[agO]at e;rw[show(((a/y1:Nat):Int)*(y1:Int))=((a/y1*y1:Nat):Int)from(ag1 _ _).symm,iR,iR,iR];omega
  have i3:∀a:Nat,agr.wrap ((a%y1:Nat):Int)=((a%y1:Nat):Int):=λa=>nv (agK (ahj _ (by omega)) (by omega))
  simp only[i1,i2,i3]
  have body:∀(v q r:Nat),v<4294967296->q<=4294967297->r<4294967296->((if decide ((4294967296:Int)<=(q:Int))=af then aa af else aa (decide (agr.wrap (agr.wrap (4294967296*(r:Int))+(v:Int))<agr.wrap ((q:Int)*(y0:Int))))):Option Bool)=aa (decide (4294967296<=q\/4294967296*r+v<q*y0)):=by
   intro v q r hv hq hr;by_cases c:4294967296<=q
   .grind
   .rw[ai (by simp;omega)];have m1:q*y0<=4294967295*4294967295:=Nat.mul_le_mul (by omega) (by omega);rw[show((q:Int)*(y0:Int))=((q*y0:Nat):Int)from(ag1 _ _).symm,nv (a:=q*y0) (by omega),show(4294967296*(r:Int))=((4294967296*r:Nat):Int) by omega,nv (a:=4294967296*r) (by omega),<-Int.natCast_add,nv (by omega)];refine av aa ?_
    grind
  have cw:∀r:Nat,r<4294967296->agr.wrap ((r:Int)+(y1:Int))=((r+y1:Nat):Int):=λr hr=>by rw[<-Int.natCast_add,nv (by omega)]
  have cq:∀q:Nat,0<q->q<=4294967297->agr.wrap ((q:Int)-1)=((q-1:Nat):Int):=λq h hq=>by rw[iZ (by omega) (by omega)];omega
  have pos:∀v q r:Nat,4294967296<=q\/4294967296*r+v<q*y0->0<q:=by
   intro v q r c
   rcases c with c|c
   .omega
   .grind
  have sub:∀a b c r:Nat,a+b=c+r->r<18446744073709551616->agr.wrap (agr.wrap (agr.wrap (a:Int)+(b:Int))-agr.wrap (c:Int))=(r:Int):=by
   intro a b c r h hr;rw[iR,iR,iR,iR];omega
  have mB:∀a:Nat,((a:Int)*4294967296)=((a*4294967296:Nat):Int):=λa=>by omega
  have mY:∀a:Nat,((a:Int)*(Y:Int))=((a*Y:Nat):Int):=λa=>(ag1 _ _).symm
  apply Wp.eq;refine Wp.aW (x:=(((U*4294967296+v1)/Y:Nat):Int)) ?_ ?_
  .rw[hYe];refine(av (λo=>agn o λj=>aa j) (Cm (λq r=>((q:Int),(r:Int))) (B:=4294967296) (u:=U) (v:=v1) (by unfold aR;omega) (by omega) (by decide) hy0 (by omega) ry Ui ?_)).trans rfl;intro q r hq hr;dsimp only;rw[body v1 q r ry hq hr,ago,cw r hr];by_cases c:4294967296<=q\/4294967296*r+v1<q*y0
   .rw[aj (an c),aj c,cq q (pos _ _ _ c) hq];by_cases e:4294967296<=r+y1
    all_goals grind
   grind
  obtain⟨d1,uH⟩:∃d,d=(U*4294967296+v1)/Y:=⟨_,rfl⟩
  obtain⟨r1,LV⟩:∃r,r=(U*4294967296+v1)%Y:=⟨_,rfl⟩
  have IM:=ahm (U*4294967296+v1) Y;have Zj:r1<Y:=LV▸ahj _ (by omega);rw[<-uH,<-LV,agO]at IM;rw[<-uH];rw[mB U,mY d1,sub (U*4294967296) v1 (d1*Y) r1 (by omega) (by omega)];simp only[pc _ _ (show y1≠0 by omega),ago];have i4:agr.wrap ((r1/y1:Nat):Int)=((r1/y1:Nat):Int):=nv (Nat.lt_of_le_of_lt (Nat.div_le_self _ _) (by omega));simp only[i4,i2,i3];refine Wp.aW (x:=(((r1*4294967296+v0)/Y:Nat):Int)) ?_ ?_
  .rw[hYe];refine(av (λo=>agn o λj=>aa j) (Cm (λq r=>((r:Int),(q:Int))) (B:=4294967296) (u:=r1) (v:=v0) (by unfold aR;omega) (by omega) (by decide) hy0 (by omega) GU Ui ?_)).trans rfl;intro q r hq hr;dsimp only;rw[body v0 q r GU hq hr,ago,cw r hr];by_cases c:4294967296<=q\/4294967296*r+v0<q*y0
   .rw[aj (an c),aj c,cq q (pos _ _ _ c) hq];by_cases e:4294967296<=r+y1
    all_goals grind
   grind
  obtain⟨d0,Uj⟩:∃d,d=(r1*4294967296+v0)/Y:=⟨_,rfl⟩
  obtain⟨r0,QW⟩:∃r,r=(r1*4294967296+v0)%Y:=⟨_,rfl⟩
  have Zk:=ahm (r1*4294967296+v0) Y;have Uk:r0<Y:=QW▸ahj _ (by omega);rw[<-Uj,<-QW,agO]at Zk;rw[<-Uj];rw[mB r1,mY d0,sub (r1*4294967296) v0 (d0*Y) r0 (by omega) (by omega),mB d1];have hB1:=wz (B:=4294967296) (y:=Y) (u:=U) (v:=v1) hUY ry;have RE:=wz (B:=4294967296) (y:=Y) (u:=r1) (v:=v0) Zj GU;rw[<-uH]at hB1;rw[<-Uj]at RE
  have Gv:U*18446744073709551616+x7=(d1*4294967296+d0)*Y+r0:=by
   have e1:(d1*4294967296+d0)*Y=d1*Y*4294967296+d0*Y:=by rw[agP,Nat.mul_right_comm]
   rw[e1];omega
  have hq:W/y=d1*4294967296+d0:=by
   rw[<-hdiv,Gv];rw[agO,Nat.mul_add_div (by omega),Nat.div_eq_of_lt Uk,Nat.add_zero]
  have hr:W%y*2 ^ s=r0:=by
   rw[<-Co,Gv,agO,Nat.mul_add_mod,Nat.mod_eq_of_lt Uk]
  rw[Ug _ Uh,<-hr,Nat.mul_div_cancel _ hP,hq,nv (a:=d1*4294967296) (by omega),<-Int.natCast_add,nv (by omega)];exact .some rfl
end L.P
namespace L.P
def CY(m:Int)(neg:Bool)(q r d:Nat):Bool:=
 if m=0 then neg&&decide (0<r)else if m=1 then !neg&&decide (0<r)else if m=3 then decide (0<r)else if m=4 then decide (d<=r+r)else if m=5 then decide (d<r+r\/(d=r+r/\q%2=1))else ag
def pd(m:Int)(neg:Bool)(q r d:Nat):Nat:=if CY m neg q r d=af then q+1 else q
def sg(neg:Bool)(q:Nat):Int:=if neg=af then-(q:Int)else(q:Int)
def ng(a b:Int):Bool:= !decide (decide (a<0)=decide (b<0))
def oh(m:Int):Prop:=0<=m/\m<=5
instance(m:Int):Decidable (oh m):=by unfold oh;infer_instance
theorem pX(m:Int)(neg:Bool)(q r d:Nat):q<=pd m neg q r d/\pd m neg q r d<=q+1:=by unfold pd;split<;>omega
theorem Cp(m:Int)(neg:Bool)(q:Nat){d:Nat}(hd:0<d):CY m neg q 0 d=ag:=by
 grind [P.CY]
theorem wC(m:Int)(neg:Bool)(q:Nat){d:Nat}(hd:0<d):pd m neg q 0 d=q:=by
 unfold pd;rw[Cp m neg q hd];rfl
def lC(N:Nat)(m:Int)(neg:Bool){q r d:Nat}(hq:q<=4611686018427387904)(hr:r<d)(hd:d<=4611686018427387904):M.ei N (q:Int) (r:Int) (d:Int) neg m=aa (sg neg (pd m neg q r d)):=by
 have hw:agp.wrap ((d:Int)-(r:Int))=(d:Int)-r:=aE (by omega) (by omega)
 have ht:agD (q:Int) 2=((q%2:Nat):Int):=by rw[agF (by omega)];omega
 have e1:((if(decide (m=(0:Int)))=af then(if neg=af then aa (decide ((0:Int)<(r:Int)))else aa ag)else(if(decide (m=(1:Int)))=af then(if(!neg)=af then aa (decide ((0:Int)<(r:Int)))else aa ag)else
  (if(decide (m=(3:Int)))=af then aa (decide ((0:Int)<(r:Int)))else(if(decide (m=(4:Int)))=af then aa (decide ((d:Int)-r<=(r:Int)))else(if(decide (m=(5:Int)))=af then(if(decide ((d:Int)-r<(r:Int)))=af then aa af else
  (if(decide ((r:Int)=(d:Int)-r))=af then aa (decide (((q%2:Nat):Int)=(1:Int)))else aa ag))else aa ag))))):Option Bool)=aa (CY m neg q r d):=by
  unfold CY;by_cases h0:m=0
  .subst h0;cases neg<;>simp
  by_cases h1:m=1
  .subst h1;cases neg<;>simp
  by_cases h3:m=3
  .subst h3;simp
  by_cases h4:m=4
  .subst h4;simp;omega
  by_cases h5:m=5
  .subst h5;simp only[aJ,decide_true,if_true,ahu,decide_false,ags,if_false];refine av aa ?_
   grind
  simp[h0,h1,h3,h4,h5]
 unfold M.ei;rw[hw,ht,e1];have hu:=pX m neg q r d
 have e2:((if CY m neg q r d=af then aa (agp.wrap ((q:Int)+(1:Int)))else aa (q:Int)):Option Int)=aa ((pd m neg q r d:Nat):Int):=by
  unfold pd;split
  .rw[aE (by omega) (by omega)];rfl
  .rfl
 grind [P.sg,aE]
def ue(N:Nat){m:Int}(neg:Bool){q r d:Nat}(hq:q<=4611686018427387904)(hr:r<d)(hd:d<=4611686018427387904):M.cD N (q:Int) (r:Int) (d:Int) neg m=aa ((pd m neg q r d:Nat):Int):=by
 unfold M.cD;by_cases hz:r=0
 .grind [P.wC]
 rw[ai (by simpa using hz)];have hw:agr.wrap ((d:Int)-(r:Int))=(d:Int)-r:=iZ (by omega) (by omega)
 have ht:agD (q:Int) 2=((q%2:Nat):Int):=by rw[agF (by omega)];omega
 have e1:((if(decide (m=(0:Int)))=af then aa neg else(if(decide (m=(1:Int)))=af then aa (!neg)else(if(decide (m=(3:Int)))=af then aa af else(if(decide (m=(4:Int)))=af then aa (decide ((d:Int)-r<=(r:Int)))else
  (if(decide (m=(5:Int)))=af then(if(decide ((d:Int)-r<(r:Int)))=af then aa af else(if(decide ((r:Int)=(d:Int)-r))=af then aa (decide (((q%2:Nat):Int)=(1:Int)))else aa ag))else aa ag))))):Option Bool)=aa (CY m neg q r d):=by
  unfold CY;by_cases h0:m=0
  .subst h0;simp;omega
  by_cases h1:m=1
  .subst h1;simp;omega
  by_cases h3:m=3
  .subst h3;simp;omega
  by_cases h4:m=4
  .subst h4;simp;omega
  by_cases h5:m=5
  .subst h5;simp only[aJ,decide_true,if_true,ahu,decide_false,ags,if_false];refine av aa ?_
   grind
  simp[h0,h1,h3,h4,h5]
 grind [P.pd,P.iZ]
def Cq(N:Nat){m:Int}(neg:Bool){q r d:Nat}(hr:r<d)(hd:d<=4611686018427387904):M.gG N (q:Int) (r:Int) (d:Int) neg m=aa (CY m neg q r d):=by
 unfold M.gG;by_cases hz:r=0
 .grind [P.Cp]
 rw[ai (by simpa using hz)];have hw:agr.wrap ((d:Int)-(r:Int))=(d:Int)-r:=iZ (by omega) (by omega)
 have ht:agD (q:Int) 2=((q%2:Nat):Int):=by rw[agF (by omega)];omega
 rw[hw,ht];unfold CY;by_cases h0:m=0
 .subst h0;simp;omega
 by_cases h1:m=1
 .subst h1;simp;omega
 by_cases h3:m=3
 .subst h3;simp;omega
 by_cases h4:m=4
 .subst h4;simp;omega
 by_cases h5:m=5
 .subst h5;simp only[aJ,ago,decide_true,if_true,ahu,decide_false,ags,if_false];refine av aa ?_
  grind
 grind
theorem yu(N:Nat){q:Nat}(hq:q<=4611686018427387905)(neg:Bool):M.gn N (q:Int) neg=aa (sg neg q):=by
 grind [M.gn,P.sg,aE]
def wD(N:Nat){n:Int}(h: -4611686018427387904<=n/\n<=4611686018427387904):M.cY N n=aa ((n.natAbs:Nat):Int):=by
 grind [P.iS]
def qw(N:Nat){n:Int}(h: -4611686018427387904<=n/\n<=4611686018427387904):M.iO N n=aa ((n.natAbs:Nat):Int):=by
 grind [M.iO,aE]
def od(N:Nat)(m:Int):M.jw N m=aa (decide (oh m)):=by
 unfold M.jw;simp only[aJ,ago,gT]
 grind [P.oh]
def su(N:Nat)(m:Int):M.dW N m=aa (decide (oh m)):=od N m
def wE(N:Nat)(m:Int):M.ik N m=aa (decide (oh m)):=od N m
def gh(n l:Int):Prop:=l<n\/n< -l
instance(n l:Int):Decidable (gh n l):=by unfold gh;infer_instance
theorem mU(N:Nat)(n:Int){l:Int}(hl:0<=l/\l<=9000000000000000000):M.cK N n l=aa (decide (gh n l)):=by
 unfold M.cK;rw[aE (by omega) (by omega)];simp only[aJ,ago,jz,Int.zero_sub]
 grind [P.gh]
def zX(N:Nat)(n:Int){l:Int}(hl:0<=l/\l<=9000000000000000000):M.dc N n l=aa (decide (gh n l)):=mU N n hl
def FV(N:Nat)(n:Int){l:Int}(hl:0<=l/\l<=9000000000000000000):M.fW N n l=aa (decide (gh n l)):=mU N n hl
def sv(N:Nat)(n:Int){l:Int}(hl:0<=l/\l<=9000000000000000000):M.dI N n l=aa (decide (gh n l)):=by
 unfold M.dI;rw[aE (by omega) (by omega)];simp only[aJ,ago,jz,Int.zero_sub]
 grind [P.gh]
def zY(m:Int):((if(decide (m<(0:Int)))=af then aa af else aa (decide ((5:Int)<m))):Option Bool)=aa (!decide (oh m)):=by
 rw[aJ]
 grind [P.oh]
def Ll(a b l:Int):((if(decide (gh a l))=af then aa af else aa (decide (gh b l))):Option Bool)=aa (decide (gh a l\/gh b l)):=by
 grind
def IN(n d m:Int):Int×Int:=
 if¬oh m then(0,1)else if d=0 then(0,12)else if gh n 4611686018427387904\/gh d 4611686018427387904 then(0,3)else
  (sg (ng n d) (pd m (ng n d) (n.natAbs/d.natAbs) (n.natAbs%d.natAbs) d.natAbs),0)
theorem FW{n d m:Int}(h:¬oh m):IN n d m=(0,1):=aj h
theorem Cr{n d m:Int}(h:oh m)(h1:d=0):IN n d m=(0,12):=by grind [P.IN]
theorem FX{n d m:Int}(h:oh m)(h1:d≠0)(h2:gh n 4611686018427387904\/gh d 4611686018427387904):IN n d m=(0,3):=by grind [P.IN]
theorem wF{n d m:Int}(h:oh m)(h1:d≠0)(h2:¬(gh n 4611686018427387904\/gh d 4611686018427387904)):IN n d m=(sg (ng n d) (pd m (ng n d) (n.natAbs/d.natAbs) (n.natAbs%d.natAbs) d.natAbs),0):=by grind [P.IN]
theorem kz{a:Nat}(h:a<=9223372036854775807):agp.wrap (a:Int)=(a:Int):=aE (by omega) (by omega)
theorem mV(N:Nat)(n d m:Int):M.de N n d m=aa (IN n d m):=by
 unfold M.de;simp only[su,ago,zX N _ (l:=4611686018427387904) (by omega),Ll];by_cases hm:oh m
 .rw[ai (by simpa using hm)];by_cases hd:d=0
  .grind [P.Cr]
  .rw[ai (by simpa using hd)];by_cases hb:gh n 4611686018427387904\/gh d 4611686018427387904
   .grind [P.FX]
   .rw[ai (by simpa using hb),wF hm hd hb];unfold gh at hb
    have Oz:d.natAbs≠0:=by omega
    have h1:n.natAbs/d.natAbs<=n.natAbs:=Nat.div_le_self _ _;have h2:n.natAbs%d.natAbs<d.natAbs:=ahj _ (by omega);have h3:=pX m (ng n d) (n.natAbs/d.natAbs) (n.natAbs%d.natAbs) d.natAbs;rw[wD N (n:=n) (by omega),wD N (n:=d) (by omega),ago,ago,pc _ _ Oz,zW _ _ Oz,ago,ago,nv (by omega),ue N _ (by omega) h2 (by omega),ago]
    grind [P.ng,P.yu]
 grind [P.FW]
def sw(N:Nat)(n d m:Int):M.kh N n d m=aa (IN n d m):=by
 unfold M.kh;simp only[od,ago,mU N _ (l:=4611686018427387904) (by omega),Ll];by_cases hm:oh m
 .rw[ai (by simpa using hm)];by_cases hd:d=0
  .grind [P.Cr]
  .rw[ai (by simpa using hd)];by_cases hb:gh n 4611686018427387904\/gh d 4611686018427387904
   .grind [P.FX]
   .rw[ai (by simpa using hb),wF hm hd hb];unfold gh at hb
    have Oz:d.natAbs≠0:=by omega
    have h1:n.natAbs/d.natAbs<=n.natAbs:=Nat.div_le_self _ _;have h2:n.natAbs%d.natAbs<d.natAbs:=ahj _ (by omega);rw[qw N (n:=n) (by omega),qw N (n:=d) (by omega),ago,ago,pc _ _ Oz,zW _ _ Oz,ago,ago,kz (by omega),lC N _ _ (by omega) h2 (by omega),ago];rfl
 grind [P.FW]
theorem Cs(neg:Bool)(q:Nat):(sg neg q).natAbs=q:=by unfold sg;split<;>omega
def EB(neg:Bool)(q:Nat):sg neg q=q\/sg neg q= -(q:Int):=by unfold sg;split<;>simp
theorem EC(n:Int){d:Int}(hd:0<d):ng n d=decide (n<0):=by
 grind [P.ng]
def ED(N:Nat)(c u m:Int):M.dH N c u m=M.je N c u m:=by
 unfold M.dH M.je;simp only[su,od,ago,zX N _ (l:=1000000000000000) (by omega),mU N _ (l:=1000000000000000) (by omega),aJ,jz];by_cases hm:oh m
 case neg=>grind
 simp only[hm,decide_true,Bool.not_true,ags,if_false];by_cases hu:u<1
 .grind
 simp only[hu,decide_false,ags,if_false]
 cases hb:(decide (gh c 1000000000000000)||decide (1000000000000000<u))
 case true=>grind
 simp only[ags,if_false];rw[Bool.or_eq_false_iff,ax,ax]at hb;unfold gh at hb
 obtain⟨U,rfl⟩:∃U:Nat,u=(U:Int):=⟨u.toNat,by omega⟩
 have Oz:U≠0:=by omega
 have h1:c.natAbs/U<=c.natAbs:=Nat.div_le_self _ _;have h2:c.natAbs%U<U:=ahj _ (by omega);rw[mV,ago,qw N (n:=c) (by omega),ago,pc _ _ Oz,zW _ _ Oz,ago,ago,kz (by omega),lC N _ _ (by omega) h2 (by omega),ago]
 grind [P.wF,P.gh,P.EC]
end L.P
namespace L.P
def NG(c x m:Int):Int×Int:=
 if¬oh m then(0,1)else if gh c 1000000000000000\/gh x 1000000000 then(0,3)else
  if 1000000000000000<pd m (ng c x) (c.natAbs*x.natAbs/1000000) (c.natAbs*x.natAbs%1000000) 1000000 then(0,3)
  else(sg (ng c x) (pd m (ng c x) (c.natAbs*x.natAbs/1000000) (c.natAbs*x.natAbs%1000000) 1000000),0)
def FZ{c x m:Int}(h:¬oh m):NG c x m=(0,1):=aj h
def F5{c x m:Int}(h:oh m)(h2:gh c 1000000000000000\/gh x 1000000000):NG c x m=(0,3):=by unfold NG;rw[ai (Decidable.not_not.2 h),aj h2]
def Lm{c x m:Int}(h:oh m)(h2:¬(gh c 1000000000000000\/gh x 1000000000)){P:Nat}(hP:P=c.natAbs*x.natAbs):NG c x m=if 1000000000000000<pd m (ng c x) (P/1000000) (P%1000000) 1000000 then(0,3)else(sg (ng c x) (pd m (ng c x) (P/1000000) (P%1000000) 1000000),0):=by subst hP;unfold NG;rw[ai (Decidable.not_not.2 h),ai h2]
def Ul(a b:Int):((if(decide (gh a 1000000000000000))=af then aa af else(if(decide (gh b 1000000000))=af then aa af else aa (decide (gh (1000000:Int) 1000000000)))):Option Bool)=aa (decide (gh a 1000000000000000\/gh b 1000000000)):=by
 rw[show decide (gh (1000000:Int) 1000000000)=ag by decide];simp only[aJ,jz,Bool.decide_or,Bool.or_false]
def ng6(c x:Int):(!decide ((!decide ((decide (c<(0:Int)))=(decide (x<(0:Int)))))=(decide ((1000000:Int)<(0:Int)))))=ng c x:=by
 unfold ng;rw[show decide ((1000000:Int)<0)=ag by decide]
 cases decide (c<0)<;>cases decide (x<0)<;>rfl
theorem Io(c x m:Int):M.kL aR c x m=aa (NG c x m):=by
 unfold M.kL M.jR;simp only[su,ago,zX aR _ (l:=1000000000000000) (by omega),zX aR _ (l:=1000000000) (by omega),Ul,ng6];by_cases hm:oh m
 .rw[ai (by simpa using hm),ai (by simp)];by_cases hb:gh c 1000000000000000\/gh x 1000000000
  .rw[aj (by simpa using hb),F5 hm hb];rfl
  .obtain⟨P,hP⟩:∃P,P=c.natAbs*x.natAbs:=⟨_,rfl⟩
   rw[ai (by simpa using hb),Lm hm hb hP];unfold gh at hb;have hPb:P<=1000000000000000*1000000000:=hP▸Nat.mul_le_mul (by omega) (by omega);rw[wD aR (n:=c) (by omega),wD aR (n:=x) (by omega),ago,ago,sr aR (by omega) (by omega),ago,wD aR (n:=1000000) (by omega),ago,<-hP];dsimp only;rw[show((1000000:Int).natAbs:Int)=((1000000:Nat):Int)from rfl];by_cases h1:1000000<=P/18446744073709551616
   .rw[aj (by simp;omega),aj]
    .rfl
    .have:=pX m (ng c x) (P/1000000) (P%1000000) 1000000;omega
   .rw[ai (by simp;omega),wB (by omega) (by omega) (by omega),ago]
    have e1:P/18446744073709551616*18446744073709551616+P%18446744073709551616=P:=by omega
    rw[e1];dsimp only;have hu:=pX m (ng c x) (P/1000000) (P%1000000) 1000000;by_cases h2:1000000000000000<P/1000000
    .rw[aj (by simp;omega),aj (by omega)];rfl
    .rw[ai (by simp;omega),ue aR _ (by omega) (by omega) (by omega),ago];by_cases h3:1000000000000000<pd m (ng c x) (P/1000000) (P%1000000) 1000000
     .rw[aj (by simp;omega),aj h3];rfl
     .rw[ai (by simp;omega),ai h3,yu aR (by omega)];rfl
 .rw[aj (by simpa using hm),FZ hm];rfl
theorem EE(N:Nat)(c x m:Int):M.mR N c x m=aa (NG c x m):=by
 unfold M.mR M.oA;simp only[od,ago,mU N _ (l:=1000000000000000) (by omega),mU N _ (l:=1000000000) (by omega),Ul,ng6];by_cases hm:oh m
 .rw[ai (by simpa using hm),ai (by simp)];by_cases hb:gh c 1000000000000000\/gh x 1000000000
  .rw[aj (by simpa using hb),F5 hm hb];rfl
  .rw[ai (by simpa using hb),Lm hm hb rfl];unfold gh at hb;rw[qw N (n:=c) (by omega),qw N (n:=x) (by omega),qw N (n:=1000000) (by omega),ago,ago,ago];rw[show((1000000:Int).natAbs:Int)=((1000000:Nat):Int)from rfl]
   obtain⟨A,hA,hAb⟩:∃A,A=c.natAbs/\A<=1000000000000000:=⟨_,rfl,by omega⟩
   obtain⟨X,hX,hXb⟩:∃X,X=x.natAbs/\X<=1000000000:=⟨_,rfl,by omega⟩
   rw[<-hA,<-hX]
   have hAX:A*X=1000000*(A/1000000*X)+A%1000000*X:=by
    have:=ahm A 1000000;rw[<-Nat.mul_assoc,<-agP,this]
   have hp:A%1000000*X<=999999*1000000000:=Nat.mul_le_mul (by omega) hXb
   have hu:∀q r,q<=pd m (ng c x) q r 1000000/\pd m (ng c x) q r 1000000<=q+1:=λq r=>pX _ _ _ _ _
   have hq:A*X/1000000=A/1000000*X+A%1000000*X/1000000:=by rw[hAX];omega
   have hr:A*X%1000000=A%1000000*X%1000000:=by rw[hAX];omega
   rw[hq,hr];by_cases h0:(0:Nat)<X/\1000000000000000/X<A/1000000
   .have Um:1000000000000000<A/1000000*X:=by
     rw[agS h0.1]at h0;exact h0.2
    obtain⟨K,hK⟩:∃K,K=1000000000000000/X:=⟨_,rfl⟩
    have hKb:K<=1000000000000000:=hK▸Nat.div_le_self _ _;rw[aj (by simp;omega),pc _ _ (by omega),show(1000000000000000:Int)=((1000000000000000:Nat):Int)from rfl,pc _ _ (by omega),<-hK,ago,ago,ago,kz (by omega),kz (by omega),aj (by rw[<-hK]at h0;simp;omega),aj]
    .rfl
    .have:=(hu (A/1000000*X+A%1000000*X/1000000) (A%1000000*X%1000000)).1;omega
   .have GO:A/1000000*X<=1000000000000000:=by
     rcases Nat.eq_zero_or_pos X with e|e
     .subst e;simp
     .have h9:A/1000000<=1000000000000000/X:=by omega
      rw[Nat.le_div_iff_mul_le e]at h9;exact h9
    have c0:((if(decide ((0:Int)<(X:Int)))=af then(kB (A:Int) ((1000000:Nat):Int)).bind λTM=>(kB (1000000000000000:Int) (X:Int)).bind λx11=>aa (decide ((agp.wrap x11)<(agp.wrap TM)))else aa ag):Option Bool)=aa ag:=by
     by_cases e:X=0
     .rw[ai (by simp;omega)]
     .obtain⟨K,hK⟩:∃K,K=1000000000000000/X:=⟨_,rfl⟩
      have hKb:K<=1000000000000000:=hK▸Nat.div_le_self _ _;rw[<-hK]at h0;rw[aj (by simp;omega),pc _ _ (by omega),show(1000000000000000:Int)=((1000000000000000:Nat):Int)from rfl,pc _ _ e,<-hK,ago,ago,kz (by omega),kz (by omega)];refine av aa ?_;rw[ax];omega
    rw[c0,ago,ai (by simp),zW _ _ (by omega),ago,pc _ _ (by omega),ago,<-ag1,kz (by omega),pc _ _ (by omega),ago,zW _ _ (by omega),ago,kz (a:=A/1000000) (by omega),<-ag1,kz (a:=A/1000000*X) (by omega),kz (a:=A%1000000*X/1000000) (by omega),<-Int.natCast_add,kz (by omega),lC N _ _ (by omega) (by omega) (by omega),ago]
    obtain⟨Q,hQ⟩:∃Q,Q=pd m (ng c x) (A/1000000*X+A%1000000*X/1000000) (A%1000000*X%1000000) 1000000:=⟨_,rfl⟩
    rw[<-hQ];have hs:=EB (ng c x) Q;by_cases h3:1000000000000000<Q
    .rw[aj (an (show gh _ _ by unfold gh;omega)),aj h3];rfl
    .rw[ai (by rw[aw];unfold gh;omega),ai h3];rfl
 .rw[aj (by simpa using hm),FZ hm];rfl
end L.P
namespace L.P
def RU(m F:Int)(R d:Nat):Prop:=m=1\/(m=2/\F<0)\/(m=3/\0<=F)\/(m=4/\(d<R+R\/(d=R+R/\0<=F)))\/(m=5/\(d<R+R\/(d=R+R/\F%2≠0)))
instance(m F:Int)(R d:Nat):Decidable (RU m F R d):=by unfold RU;infer_instance
def Ct(N:Nat){m:Int}(hm:oh m){F:Int}{R d:Nat}(hR:R≠0)(hRd:R<d)(ul:d<=4611686018427387904)(hF: -4500000000000000000<=F/\F<=4500000000000000000):
 M.fD N F (R:Int) (d:Int) m=aa (if RU m F R d then F+1 else F):=by
 unfold M.fD;rw[ai (by simpa using hR)];have hw:agp.wrap ((d:Int)-(R:Int))=(d:Int)-R:=aE (by omega) (by omega);have Ah:agp.wrap (F+1)=F+1:=aE (by omega) (by omega);rw[hw,Ah]
 have ht:agD F 2=0↔F%2=0:=by
  constructor
  .grind
  .grind
 generalize agD F 2=p at ht⊢;unfold oh at hm
 have hc:m=0\/m=1\/m=2\/m=3\/m=4\/m=5:=by omega
 have key:∀(b:Bool),(b=af↔RU m F R d)->((if b=af then aa (F+1)else aa F):Option Int)=aa (if RU m F R d then F+1 else F):=by
  intro b hb;by_cases c:RU m F R d
  .grind
  .grind
 rcases hc with rfl|rfl|rfl|rfl|rfl|rfl
 all_goals simp only[aJ,ago,ahu,decide_true,decide_false,ags,if_true,if_false,jz,gT]at key⊢
 all_goals grind [P.RU]
def sx(N:Nat){m:Int}(hm:oh m)(neg:Bool){F:Int}{R q r d:Nat}(hd:0<d)(ul:d<=4611686018427387904)(hr:r<d)(hq:q<=4000000000000000000)
 (h:(neg=ag/\F=q/\R=r)\/(neg=af/\r=0/\R=0/\F= -(q:Int))\/(neg=af/\0<r/\R=d-r/\F= -(q:Int)-1)):
 M.fD N F (R:Int) (d:Int) m=aa (sg neg (pd m neg q r d)):=by
 by_cases hR:R=0
 .grind [M.fD,P.wC,P.sg]
 rw[Ct N hm hR (by omega) ul (by omega)];refine av aa ?_;unfold oh at hm
 have hc:m=0\/m=1\/m=2\/m=3\/m=4\/m=5:=by omega
 rcases h with⟨rfl,rfl,rfl⟩|⟨rfl,h1,h2,h3⟩|⟨rfl,h1,h2,rfl⟩
 .have e:CY m ag q R d=af↔RU m (q:Int) R d:=by
   unfold CY RU
   rcases hc with rfl|rfl|rfl|rfl|rfl|rfl<;>simp<;>omega
  grind [P.pd,P.sg]
 .omega
 .have e:CY m af q r d=af↔¬RU m (-(q:Int)-1) R d:=by
   unfold CY RU
   rcases hc with rfl|rfl|rfl|rfl|rfl|rfl<;>simp<;>omega
  grind [P.pd,P.sg]
def uf{X F:Int}{R D:Nat}{neg:Bool}(hR:R<D)(h:F*D+R=X)(h1:0<X->neg=ag)(h2:X<0->neg=af):
 (neg=ag/\F=((X.natAbs/D:Nat):Int)/\R=X.natAbs%D)\/(neg=af/\X.natAbs%D=0/\R=0/\F= -((X.natAbs/D:Nat):Int))\/(neg=af/\0<X.natAbs%D/\R=D-X.natAbs%D/\F= -((X.natAbs/D:Nat):Int)-1):=by
 cases neg with
 |false=>
  have hX:0<=X:=by
   rcases ahO X 0 with c|c
   .cases h2 c
   .exact c
  have hF:0<=F:=by
   rcases ahO F 0 with c|c
   .have:=ahE (show F<=-1 by omega) (show(0:Int)<=D by omega);omega
   .exact c
  obtain⟨f,rfl⟩:∃f:Nat,F=f:=⟨F.toNat,by omega⟩
  have e:X.natAbs=D*f+R:=by
   rw[<-ag1,agO]at h;omega
  rw[e];refine .inl ⟨rfl,?_,?_⟩
  .rw[Nat.mul_add_div (by omega),Nat.div_eq_of_lt hR,Nat.add_zero]
  .rw[Nat.mul_add_mod,Nat.mod_eq_of_lt hR]
 |true=>
  have hX:X<=0:=by
   rcases ahO 0 X with c|c
   .cases h1 c
   .exact c
  have hF:F<=0:=by
   rcases ahO 0 F with c|c
   .have:=ahE (show 1<=F by omega) (show(0:Int)<=D by omega);omega
   .exact c
  obtain⟨f,hf⟩:∃f:Nat,F= -(f:Int):=⟨F.natAbs,by omega⟩
  subst hf;rw[Int.neg_mul,<-ag1,agO]at h;by_cases hR0:R=0
  .subst hR0
   have e:X.natAbs=D*f:=by omega
   simp_all
  .have UP:1<=f:=by
    rcases Nat.eq_zero_or_pos f with c|c
    .subst c;omega
    .exact c
   obtain⟨g,rfl⟩:∃g,f=g+1:=⟨f-1,by omega⟩
   rw[Nat.mul_add,Nat.mul_one]at h
   have e:X.natAbs=D*g+(D-R):=by omega
   rw[e,Nat.mul_add_mod,Nat.mod_eq_of_lt (by omega),Nat.mul_add_div (by omega),Nat.div_eq_of_lt (by omega),Nat.add_zero]
   grind
def yv(N:Nat){X:Int}{D:Nat}(hD:0<D)(hD2:D<=4000000000000000000)(hX:X.natAbs<=4000000000000000000):∃(F:Int)(R:Nat),M.lr N X (D:Int)=aa (F,(R:Int))/\R<D/\F*D+R=X/\-(X.natAbs:Int)-1<=F/\F<=X.natAbs:=by
 unfold M.lr;have IM:=ahm X.natAbs D;have hm:=ahj X.natAbs hD;have hq:=Nat.div_le_self X.natAbs D
 rcases ahO X 0 with c|c
 .have eX:X= -(X.natAbs:Int):=by omega
  have q1:kB X (D:Int)=aa (-((X.natAbs/D:Nat):Int)):=by
   unfold kB;rw[ai (by omega)]
   conv=>lhs;rw[eX]
   rw[Int.neg_tdiv,agG (by omega)];simp
  have q2:ph X (D:Int)=aa (-((X.natAbs%D:Nat):Int)):=by
   unfold ph;rw[ai (by omega)]
   conv=>lhs;rw[eX]
   rw[Int.neg_tmod,agF (by omega)];simp
  rw[q1,q2,ago,ago];generalize X.natAbs/D=Q at IM hq⊢;generalize X.natAbs%D=R at IM hm⊢;rw[aE (n:= -(Q:Int)) (by omega) (by omega)]
  have hQD:(Q:Int)*D=((D*Q:Nat):Int):=by rw[agO];exact(ag1 _ _).symm
  by_cases hz:R=0
  .subst hz;refine⟨-(Q:Int),0,?_,hD,?_,by omega,by omega⟩
   .rw[ai (by simp)];rfl
   grind
  .refine⟨-(Q:Int)-1,D-R,?_,by omega,?_,by omega,by omega⟩
   all_goals grind [aE]
 .obtain⟨x,rfl⟩:∃x:Nat,X=x:=⟨X.toNat,by omega⟩
  rw[Int.natAbs_natCast]at*;rw[pc _ _ (by omega),zW _ _ (by omega),ago,ago];generalize x/D=Q at IM hq⊢;generalize x%D=R at IM hm⊢
  have hQD:(Q:Int)*D=((D*Q:Nat):Int):=by rw[agO];exact(ag1 _ _).symm
  rw[ai (by simp),kz (by omega)]
  grind
def NH(N:Nat)(a b m:Int):M.jS N a b m=M.n4 N a b m:=by
 unfold M.jS M.n4;rw[zY];simp only[wE,ago,FV N _ (l:=1000000000) (by omega),sv N _ (l:=1000000000) (by omega),Ll];by_cases hm:oh m
 .simp only[hm,decide_true,Bool.not_true,ags,if_false];by_cases hb:gh a 1000000000\/gh b 1000000000
  .grind
  .simp only[hb,decide_false,ags,if_false];unfold gh at hb
   have hX:(a*b).natAbs<=1000000000*1000000000:=by
    rw[Int.natAbs_mul];exact Nat.mul_le_mul (by omega) (by omega)
   obtain⟨X,hXe⟩:∃X,X=a*b:=⟨_,rfl⟩
   rw[<-hXe]at hX⊢;rw[aE (n:=X) (by omega) (by omega),mV,ago];obtain⟨F,R,e,h1,h2,h3,h4⟩:=yv N (X:=X) (D:=1000000) (by omega) (by omega) (by omega);rw[show((1000000:Nat):Int)=(1000000:Int)from rfl]at e;rw[e,ago];dsimp only;have hr:=sx N hm (decide (X<0)) (F:=F) (R:=R) (q:=X.natAbs/1000000) (r:=X.natAbs%1000000) (d:=1000000) (by omega) (by omega) (by omega) (by omega) (by grind)
   grind [P.wF,P.gh,P.EC]
 grind
def Ln(n d m:Int):Int×Int:=
 if¬oh m then(0,1)else if d=0 then(0,12)else if gh n 1000000000000000\/gh d 1000000000000000 then(0,3)else
  if 1000000000<pd m (ng n d) (n.natAbs*1000000/d.natAbs) (n.natAbs*1000000%d.natAbs) d.natAbs then(0,3)
  else(sg (ng n d) (pd m (ng n d) (n.natAbs*1000000/d.natAbs) (n.natAbs*1000000%d.natAbs) d.natAbs),0)
theorem F6{n d m:Int}(h:¬oh m):Ln n d m=(0,1):=aj h
theorem Cu{n d m:Int}(h:oh m)(h1:d=0):Ln n d m=(0,12):=by grind [P.Ln]
theorem F7{n d m:Int}(h:oh m)(h1:d≠0)(h2:gh n 1000000000000000\/gh d 1000000000000000):Ln n d m=(0,3):=by grind [P.Ln]
def Lo{n d m:Int}(h:oh m)(h1:d≠0)(h2:¬(gh n 1000000000000000\/gh d 1000000000000000)){P D:Nat}(hP:P=n.natAbs*1000000)(hD:D=d.natAbs):Ln n d m=if 1000000000<pd m (ng n d) (P/D) (P%D) D then(0,3)else(sg (ng n d) (pd m (ng n d) (P/D) (P%D) D),0):=by subst hP hD;grind [P.Ln]
theorem EF{a:Int}(h: -1000000000000000<=a/\a<=1000000000000000):agr.wrap (if a<(agp.wrap (0-a))then(agp.wrap (0-a))else a)=((a.natAbs:Nat):Int):=by
 grind [aE,P.iZ]
theorem zZ(n d m:Int):M.fN aR n d m=aa (Ln n d m):=by
 unfold M.fN;simp only[wE,ago,FV aR _ (l:=1000000000000000) (by omega),Ll];by_cases hm:oh m
 .rw[ai (by simpa using hm)];by_cases hd:d=0
  .grind [P.Cu]
  .rw[ai (by simpa using hd)];by_cases hb:gh n 1000000000000000\/gh d 1000000000000000
   .grind [P.F7]
   .obtain⟨P,hP⟩:∃P,P=n.natAbs*1000000:=⟨_,rfl⟩
    obtain⟨D,hD⟩:∃D,D=d.natAbs:=⟨_,rfl⟩
    rw[ai (by simpa using hb),Lo hm hd hb hP hD];unfold gh at hb
    have hDb:D<=1000000000000000:=by omega
    rw[EF (a:=n) (by omega),EF (a:=d) (by omega)]
    have Lp:0<D:=by omega
    have Co:=ahj P Lp;rw[show(1000000:Int)=((1000000:Nat):Int)from rfl,sr aR (by omega) (by omega),ago,<-hP,<-hD];dsimp only;have hu:=pX m (ng n d) (P/D) (P%D) D;by_cases h1:D<=P/18446744073709551616
    .have Um:18446744073709551616<=P/D:=by
      rw[Nat.le_div_iff_mul_le Lp];have:=(Nat.le_div_iff_mul_le (by omega)).1 h1;omega
     grind
    .rw[ai (by simp;omega),wB (by omega) (by omega) (by omega),ago]
     have e1:P/18446744073709551616*18446744073709551616+P%18446744073709551616=P:=by omega
     rw[e1];dsimp only;by_cases h2:1000000000<P/D
     .grind
     .rw[ai (by simp;omega),Cq aR _ Co (by omega),ago];rw[show(!decide (decide (n<0)=decide (d<0)))=ng n d from rfl]
      have e2:((if CY m (ng n d) (P/D) (P%D) D=af then aa (agp.wrap (agp.wrap ((P/D:Nat):Int)+1))else aa (agp.wrap ((P/D:Nat):Int))):Option Int)=aa ((pd m (ng n d) (P/D) (P%D) D:Nat):Int):=by
       rw[kz (by omega)];unfold pd;split
       .rw[aE (by omega) (by omega)];rfl
       .rfl
      rw[e2,ago];by_cases h3:1000000000<pd m (ng n d) (P/D) (P%D) D
      .grind
      .rw[ai (by simp;omega),ai h3,aE (by omega) (by omega)];unfold sg
       grind
 grind [P.F6]
theorem xd(N:Nat)(n d m:Int):M.jo N n d m=aa (Ln n d m):=by
 unfold M.jo;rw[zY];simp only[ago,sv N _ (l:=1000000000000000) (by omega),sv N _ (l:=1000000000) (by omega),sv N _ (l:=1001) (by omega),Ll];by_cases hm:oh m
 .rw[ai (by simpa using hm)];by_cases hd:d=0
  .grind [P.Cu]
  .rw[ai (by simpa using hd)];by_cases hb:gh n 1000000000000000\/gh d 1000000000000000
   .grind [P.F7]
   .obtain⟨P,hP0⟩:∃P,P=n.natAbs*1000000:=⟨_,rfl⟩
    obtain⟨D,hD⟩:∃D,D=d.natAbs:=⟨_,rfl⟩
    rw[ai (by simpa using hb),Lo hm hd hb hP0 hD];unfold gh at hb
    have hDb:D<=1000000000000000:=by omega
    have Lp:0<D:=by omega
    obtain⟨X,hX1,hX2,hX3,hX4⟩:∃X:Int,((if(decide (d<(0:Int)))=af then aa (agp.wrap ((0:Int)-n),agp.wrap ((0:Int)-d))else aa (n,d)):Option (Int×Int))=aa (X,(D:Int))/\X.natAbs=n.natAbs/\(0<X->ng n d=ag)/\(X<0->ng n d=af):=by
     by_cases c:d<0
     .refine⟨-n,?_,by omega,λh=>?_,λh=>?_⟩
      .grind [aE]
      .unfold ng;grind
      .unfold ng;grind
     .refine⟨n,?_,rfl,λh=>?_,λh=>?_⟩
      .grind
      .unfold ng;grind
      .unfold ng;grind
    rw[hX1,ago];obtain⟨F0,R0,e,h1,h2,h3,h4⟩:=yv N (X:=X) (D:=D) Lp (by omega) (by omega);dsimp only;rw[e,ago];dsimp only
    have hP:P=X.natAbs*1000000:=by rw[hX2];exact hP0
    have Co:=ahj P Lp;have hu:=pX m (ng n d) (P/D) (P%D) D;by_cases IC:gh F0 1001
    .rw[aj (by simpa using IC),aj];unfold gh at IC
     have hq:1001000000<=P/D:=by
      rw[Nat.le_div_iff_mul_le Lp]
      rcases IC with c|c
      .have:=ahE (show 1002<=F0 by omega) (show(0:Int)<=D by omega);omega
      .have:=ahE (show F0<=-1002 by omega) (show(0:Int)<=D by omega);omega
     omega
    .rw[ai (by simpa using IC)];unfold gh at IC;have k1:=ahm (R0*1000) D;have k2:=ahj (R0*1000) Lp
     have k3:R0*1000/D<1000:=by rw[agS Lp];omega
     obtain⟨a,ha⟩:∃a,a=R0*1000/D:=⟨_,rfl⟩
     obtain⟨r1,LV⟩:∃r,r=R0*1000%D:=⟨_,rfl⟩
     rw[<-ha,<-LV]at k1;rw[<-LV]at k2;rw[<-ha]at k3;have g1:=ahm (r1*1000) D;have g2:=ahj (r1*1000) Lp
     have g3:r1*1000/D<1000:=by rw[agS Lp];omega
     obtain⟨b,qR⟩:∃b,b=r1*1000/D:=⟨_,rfl⟩
     obtain⟨r2,Rg⟩:∃r,r=r1*1000%D:=⟨_,rfl⟩
     rw[<-qR,<-Rg]at g1;rw[<-Rg]at g2;rw[<-qR]at g3
     have m1:((R0:Int)*1000)=((R0*1000:Nat):Int):=by omega
     rw[m1,kz (a:=R0*1000) (by omega),pc _ _ (by omega),zW _ _ (by omega),ago,ago,<-ha,<-LV]
     have m2:((r1:Int)*1000)=((r1*1000:Nat):Int):=by omega
     rw[m2,kz (a:=r1*1000) (by omega),pc _ _ (by omega),zW _ _ (by omega),ago,ago,<-qR,<-Rg]
     have w:∀z:Int,-100000000000<=z->z<=100000000000->agp.wrap z=z:=λz h1 h2=>aE (by omega) (by omega)
     rw[w (F0*1000000) (by omega) (by omega),w (a:Int) (by omega) (by omega),w ((a:Int)*1000) (by omega) (by omega),w (F0*1000000+(a:Int)*1000) (by omega) (by omega),w (b:Int) (by omega) (by omega),w _ (by omega) (by omega)]
     have hFX:(F0*1000000+(a:Int)*1000+(b:Int))*(D:Int)+(r2:Int)=X*1000000:=by
      have e1:(F0*1000000+(a:Int)*1000+(b:Int))*(D:Int)=F0*D*1000000+(a:Int)*D*1000+(b:Int)*D:=by
       rw[Int.add_mul,Int.add_mul,Int.mul_right_comm F0,Int.mul_right_comm (a:Int)]
      have e2:(a:Int)*D=((D*a:Nat):Int):=by rw[agO];exact(ag1 _ _).symm
      have e3:(b:Int)*D=((D*b:Nat):Int):=by rw[agO];exact(ag1 _ _).symm
      rw[e1,e2,e3];omega
     have hXn:(X*1000000).natAbs=P:=by rw[hP,Int.natAbs_mul];rfl
     have hc:=uf (neg:=ng n d) g2 hFX (λh=>hX3 (by omega)) (λh=>hX4 (by omega));rw[hXn]at hc
     have hPD:P/D<=2000000000:=by
      rcases hc with⟨_,c,_⟩|⟨_,_,_,c⟩|⟨_,_,_,c⟩<;>omega
     have hr:=sx N hm (ng n d) Lp (by omega) Co (by omega) hc;rw[hr,ago];have hs:=EB (ng n d) (pd m (ng n d) (P/D) (P%D) D);by_cases h3:1000000000<pd m (ng n d) (P/D) (P%D) D
     .rw[aj (an (show gh _ _ by unfold gh;omega)),aj h3]
     .rw[ai (by rw[aw];unfold gh;omega),ai h3]
 grind [P.F6]
end L.P
namespace L.P
def Cv{S S' X X':Type}{body:S->Option (S⊕X)}{body':S'->Option (S'⊕X')}(φ:S->S')(ψ:X->X')(h:∀s,body' (φ s)=(body s).map (Sum.map φ ψ)):∀(N:Nat)(s:S),Loop body' N (φ s)=(Loop body N s).map ψ
 |0,_=>rfl
 |N+1,s=>by
  unfold Loop;rw[h s]
  cases body s with
  |none=>rfl
  |some x=>cases x with
   |inl s'=>exact Cv φ ψ h N s'
   |inr x=>rfl
def Cn(r:Ty)(d:Int):Prop:=0<=(r.1:Int)/\(r.1:Int)<=r.2/\(r.2:Int)<=109573/\(r.1:Int)<=d/\d<r.2
instance(r:Ty)(d:Int):Decidable (Cn r d):=by unfold Cn;infer_instance
def contains_eq(N:Nat)(r:az.den)(d:Int):M.bM N r d=aa (decide (Cn r d)):=by
 unfold M.bM M.dq;obtain⟨(a:Int),(b:Int)⟩:=r;simp only[aJ,ago,gT];refine av aa ?_;rw[ag2,aw]
 show _↔0<=a/\a<=b/\b<=109573/\a<=d/\d<b
 grind
def oM(N:Nat)(r:az.den)(d:Int):M.eM N r d=aa (decide (Cn r d)):=contains_eq N r d
def Cw(N:Nat)(t:bD.den)(d k:Int):M.iF N t d k=M.kf N t d k:=by
 unfold M.iF M.bP M.kf
 have:=Cv (S:=Int) (S':=Int×Int×Int) (X:=Int×Bool) (X':=Int×Bool×Int×Int)
  (body:=λs1=>(if(decide (s1<(t.2.2.2.length:Int)))=af then(idx t.2.2.2 s1).bind λx2=>(M.kX N x2 d k).bind λy3=>(if y3=af then aa (Sum.inr (s1,af))else aa (Sum.inl (agp.wrap (s1+(1:Int)))))else aa (Sum.inr ((0:Int),ag))))
  (body':=λs1=>(if(decide (s1.1<(t.2.2.2.length:Int)))=af then(idx t.2.2.2 s1.1).bind λx2=>(M.eI N x2 s1.2.1 s1.2.2).bind λy3=>(if y3.1=af then aa (Sum.inr (s1.1,af,y3.2.1,y3.2.2))else aa (Sum.inl (agp.wrap (s1.1+(1:Int)),y3.2.1,y3.2.2)))else aa (Sum.inr ((0:Int),ag,s1.2.1,s1.2.2))))
  (λs=>(s,d,k)) (λx=>(x.1,x.2,d,k)) ?_ N 0
 .rw[this]
  cases Loop _ N (0:Int)<;>grind
 .intro s;dsimp only;by_cases c:s<(t.2.2.2.length:Int)
  .rw[aj (by simpa using c),aj (by simpa using c)]
   cases idx t.2.2.2 s with
   |none=>rfl
   |some x=>
    unfold M.eI M.kX;rw[ago,ago,contains_eq,oM];simp only[aJ,ago,Option.map_some]
    grind
  grind
def CT(l:Nat)(n:Int):Int×Int×Bool:=
 if 1000000000000000<l*n.natAbs/1000000 then(0,0,ag)else(sg (decide (n<0)) (l*n.natAbs/1000000),sg (decide (n<0)) (l*n.natAbs%1000000),af)
theorem uD{l:Nat}{n:Int}(hl:l<=1000000000000000)(hn: -9223372036854775808<=n/\n<=9223372036854775807):M.dz aR (l:Int) n=aa (CT l n):=by
 unfold M.dz CT
 have e1:((if(decide (n<(0:Int)))=af then aa (agr.wrap (0-(agr.wrap n)))else aa (agr.wrap n)):Option Int)=aa ((n.natAbs:Nat):Int):=by
  by_cases c:n<0
  .grind [P.iR]
  .grind [P.iZ]
 rw[e1,ago,nv (a:=l) (by omega),sr aR (by omega) (by omega),ago]
 obtain⟨P,hP⟩:∃P,P=l*n.natAbs:=⟨_,rfl⟩
 rw[<-hP];dsimp only;by_cases h1:1000000<=P/18446744073709551616
 .grind
 .rw[ai (by simp;omega),show(1000000:Int)=((1000000:Nat):Int)from rfl,wB (by omega) (by omega) (by omega),ago]
  have e2:P/18446744073709551616*18446744073709551616+P%18446744073709551616=P:=by omega
  rw[e2];dsimp only;by_cases h2:1000000000000000<P/1000000
  .grind
  .rw[ai (by simp;omega),ai h2,kz (by omega),kz (by omega),aE (by omega) (by omega),aE (by omega) (by omega)];unfold sg
   grind
theorem oe(N:Nat){l:Nat}{n:Int}(hl:l<=1000000000000000)(hn: -9223372036854775808<=n/\n<=9223372036854775807):M.gv N (l:Int) n=aa (CT l n):=by
 unfold M.gv CT
 have e1:((if(decide (n<(0:Int)))=af then aa (agr.wrap ((agr.wrap (agp.wrap (0-(agp.wrap (n+(1:Int))))))+(1:Int)))else aa (agr.wrap n)):Option Int)=aa ((n.natAbs:Nat):Int):=by
  by_cases c:n<0
  .grind [aE,P.iZ]
  .grind [P.iZ]
 rw[e1,ago]
 obtain⟨m,hm,hmb⟩:∃m,m=n.natAbs/\m<=9223372036854775808:=⟨_,rfl,by omega⟩
 rw[<-hm]
 have t1:agC (m:Int) 1000000=((m/1000000:Nat):Int):=by rw[agG (by omega)];omega
 have t2:agD (m:Int) 1000000=((m%1000000:Nat):Int):=by rw[agF (by omega)];omega
 have t3:agC (l:Int) 1000000=((l/1000000:Nat):Int):=by rw[agG (by omega)];omega
 have t4:agD (l:Int) 1000000=((l%1000000:Nat):Int):=by rw[agF (by omega)];omega
 rw[t1,t2,t3,t4]
 obtain⟨A,hA,hAb⟩:∃A,A=m/1000000/\A<=10000000000000:=⟨_,rfl,by omega⟩
 obtain⟨B,hB,hBb⟩:∃B,B=m%1000000/\B<1000000:=⟨_,rfl,by omega⟩
 have hAB:m=A*1000000+B:=by omega
 rw[<-hA,<-hB,nv (a:=A) (by omega),kz (a:=A) (by omega),kz (a:=B) (by omega)];have aeB:l%1000000*B<=999999*999999:=Nat.mul_le_mul (by omega) (by omega);have aeC:l/1000000*B<=1000000000*999999:=Nat.mul_le_mul (by omega) (by omega)
 have hP:l*m=1000000*(l*A+l/1000000*B)+l%1000000*B:=by
  have e:=ahm l 1000000
  have e3:l*B=1000000*(l/1000000*B)+l%1000000*B:=by
   rw[<-Nat.mul_assoc,<-agP,e]
  have e4:l*(A*1000000+B)=1000000*(l*A)+l*B:=by
   rw[Nat.mul_add,<-Nat.mul_assoc,agO (l*A)]
  rw[hAB,e4,e3];omega
 have hq:l*m/1000000=l*A+l/1000000*B+l%1000000*B/1000000:=by rw[hP];omega
 have hr:l*m%1000000=l%1000000*B%1000000:=by rw[hP];omega
 rw[hq,hr];by_cases h0:0<A/\1000000000000000/A<l
 .have Um:1000000000000000<l*A:=by
   rw[agS h0.1]at h0;exact h0.2
  grind [P.pc,P.kz]
 .have GO:l*A<=1000000000000000:=by
   rcases Nat.eq_zero_or_pos A with e|e
   .rw[e];simp
   .grind [Nat.le_div_iff_mul_le]
  have c0:((if(decide ((0:Int)<(A:Int)))=af then(kB (1000000000000000:Int) (A:Int)).bind λx3=>aa (decide ((agp.wrap x3)<(l:Int)))else aa ag):Option Bool)=aa ag:=by
   by_cases e:A=0
   .grind
   .obtain⟨K,hK⟩:∃K,K=1000000000000000/A:=⟨_,rfl⟩
    have hKb:K<=1000000000000000:=hK▸Nat.div_le_self _ _
    grind [P.pc,P.kz]
  rw[c0,ago,ai (by simp)]
  have u1:agC ((l%1000000*B:Nat):Int) 1000000=((l%1000000*B/1000000:Nat):Int):=by rw[agG (by omega)];omega
  have u2:agD ((l%1000000*B:Nat):Int) 1000000=((l%1000000*B%1000000:Nat):Int):=by rw[agF (by omega)];omega
  rw[<-ag1 l A,<-ag1 (l%1000000) B,kz (a:=l/1000000) (by omega),<-ag1 (l/1000000) B,kz (a:=l*A) (by omega),kz (a:=l/1000000*B) (by omega),kz (a:=l%1000000*B) (by omega),u1,u2,kz (a:=l%1000000*B/1000000) (by omega),<-Int.natCast_add,kz (a:=l*A+l/1000000*B) (by omega),<-Int.natCast_add,kz (by omega)]
  grind [aE,P.sg]
def QJ(l:Nat)(n:Int):(-1000000000000000<=(CT l n).1/\(CT l n).1<=1000000000000000)/\-1000000<=(CT l n).2.1/\(CT l n).2.1<=1000000:=by
 grind [P.CT,P.Cs]
def RS(X m:Int):Int:=sg (decide (X<0)) (pd m (decide (X<0)) (X.natAbs/1000000) (X.natAbs%1000000) 1000000)
def Lq(X m:Int):((RS X m).natAbs=X.natAbs/1000000\/(RS X m).natAbs=X.natAbs/1000000+1):=by
 grind [P.RS,P.Cs,P.pX]
def Cx(m:Int)(neg:Bool)(q r d k:Nat):pd m neg (q+2*k) r d=pd m neg q r d+2*k:=by
 grind [P.CY,P.pd]
def Lr{X Z m t:Int}(h:X=Z+2*t*1000000)(hs:t=0\/(0<t/\0<=Z)\/(t<0/\Z<0)):RS X m=2*t+RS Z m:=by
 rcases hs with c|⟨c1,c2⟩|⟨c1,c2⟩
 .grind
 .unfold RS;rw[ao (show¬X<0 by omega),ao (show¬Z<0 by omega)]
  have e:X.natAbs/1000000=Z.natAbs/1000000+2*t.natAbs:=by omega
  have e':X.natAbs%1000000=Z.natAbs%1000000:=by omega
  rw[e,e',Cx]
  grind [P.sg]
 .unfold RS;rw[an (show X<0 by omega),an c2]
  have e:X.natAbs/1000000=Z.natAbs/1000000+2*t.natAbs:=by omega
  have e':X.natAbs%1000000=Z.natAbs%1000000:=by omega
  rw[e,e',Cx]
  grind [P.sg]
def Cy{Z m:Int}(hm:oh m)(h: -4000000000000000000<=Z/\Z<=4000000000000000000):IN Z 1000000 m=(RS Z m,0):=by
 rw[wF hm (by omega) (by unfold gh;omega),EC Z (by omega)];rfl
theorem Ip{w r m:Int}(hm:oh m)(hw: -2000000000000000000<=w/\w<=2000000000000000000)(hr: -1000000000000<=r/\r<=1000000000000):M.kY aR w r m=aa (RS (w*1000000+r) m):=by
 apply Wp.eq;unfold M.kY
 obtain⟨X,hX⟩:∃X,X=w*1000000+r:=⟨_,rfl⟩
 rw[<-hX]
 refine Wp.seq (λs:Int×Int=>s.1*1000000+s.2=X/\(-2000000000009000000<=s.1/\s.1<=2000000000009000000)/\0<=s.2/\s.2<=1000000000000) (Wp.loop (λs:Int×Int=>s.1*1000000+s.2=X/\(-2000000000009000000<=s.1/\s.1<=2000000000009000000)/\-1000000000000<=s.2/\s.2<=1000000000000) (λs=>((1000000000000-s.2)/1000000).toNat) (by grind) (by simp only;unfold aR;omega) ?_) λs hs=>?_
 .rintro⟨a,b⟩ ⟨h1,h2,h3⟩
  simp only at h1 h2 h3⊢
  have N0: -2000000000008000000<=a/\a<=2000000000008000000:=by omega
  refine Wp.dec (λh=> .some ?_) λh=> .some ⟨h1,h2,by omega,by grind⟩
  rw[aE (by omega) (by omega),aE (by omega) (by omega)];exact⟨⟨by simp only;omega,by simp only;omega,by simp only;omega⟩,by grind⟩
 obtain⟨a,b⟩:=s;obtain⟨h1,h2,h3⟩:=hs;simp only at h1 h2 h3⊢
 refine Wp.seq (λs:Int×Int=>s.1*1000000+s.2=X/\(-2000000000009000000<=s.1/\s.1<=2000000000020000000)/\0<=s.2/\s.2<1000000) (Wp.loop (λs:Int×Int=>s.1*1000000+s.2=X/\(-2000000000009000000<=s.1/\s.1+s.2/1000000<=2000000000020000000)/\0<=s.2/\s.2<=1000000000000) (λs=>(s.2/1000000).toNat) (by grind) (by simp only;unfold aR;omega) ?_) λs hs=>?_
 .rintro⟨a,b⟩ ⟨h1,h2,h3⟩
  simp only at h1 h2 h3⊢
  refine Wp.dec (λh=> .some ?_) λh=> .some ⟨h1,by simp only;omega,by grind⟩
  rw[aE (by omega) (by omega),aE (by omega) (by omega)];exact⟨⟨by simp only;omega,by simp only;omega,by simp only;omega⟩,by grind⟩
 obtain⟨F,R⟩:=s;obtain⟨h1,h2,h3⟩:=hs;simp only at h1 h2 h3⊢
 obtain⟨R,rfl⟩:∃n:Nat,R=n:=⟨R.toNat,by omega⟩
 have hc:=uf (X:=X) (F:=F) (R:=R) (D:=1000000) (neg:=decide (X<0)) (by omega) (by omega) (λh=>by simp;omega) (λh=>by simp;omega)
 refine Wp.dec (λh=>?_) λh=>Wp.dec (λg=> .some ?_) λg=>?_
 .have hx:¬X<0:=by omega
  obtain⟨f,rfl⟩:∃n:Nat,F=n:=⟨F.toNat,by omega⟩
  rw[show(1000000:Int)=((1000000:Nat):Int)from rfl,lC aR m ag (by omega) (by omega) (by omega),ago];refine .some ?_
  grind [P.RS]
 .have hx:X<0:=by omega
  show _=_
  unfold RS;rw[an hx]
  rcases hc with⟨c,_⟩|⟨_,c1,c2,c3⟩|⟨_,c1,c2,c3⟩
  .rw[an hx]at c;cases c
  .rw[c1,wC _ _ _ (by omega),c3];unfold sg;simp
  .omega
 .have hx:X<0:=by omega
  rcases hc with⟨c,_⟩|⟨_,c1,c2,c3⟩|⟨_,c1,c2,c3⟩
  .grind
  .omega
  .have hq:X.natAbs/1000000<=2000000000020000000:=by omega
   rw[aE (n:=0-F) (by omega) (by omega),aE (n:=0-F-1) (by omega) (by omega),aE (by omega) (by omega)];rw[show(0:Int)-F-1=((X.natAbs/1000000:Nat):Int) by omega,show(1000000:Int)-(R:Int)=((X.natAbs%1000000:Nat):Int) by omega,show(1000000:Int)=((1000000:Nat):Int)from rfl,lC aR m af (by omega) (by omega) (by omega),ago];refine .some ?_
   grind [P.RS]
def RB(X m:Int):Int×Int:=if gh (RS X m) 1000000000000000 then(0,3)else(RS X m,0)
theorem Cz(N:Nat){w r m:Int}(hm:oh m)(hw: -2000000000000000000<=w/\w<=2000000000000000000)(hr: -1000000000000<=r/\r<=1000000000000):M.eJ N w r m=aa (RB (w*1000000+r) m):=by
 unfold M.eJ
 obtain⟨Q,ρ,hQ,MR,e1,e2,e3⟩:∃Q ρ:Int,agC r 1000000=Q/\agD r 1000000=ρ/\Q*1000000+ρ=r/\(-1000000<ρ/\ρ<1000000)/\(-1000001<Q/\Q<1000001):=by
  refine⟨_,_,rfl,rfl,?_,?_,?_⟩
  .have:=Int.mul_tdiv_add_tmod r 1000000;omega
  .rcases ahO r 0 with c|c
   .have h1:=Int.neg_tmod r 1000000;have h2:=agF (a:= -r) (b:=1000000) (by omega);omega
   .have h2:=agF (a:=r) (b:=1000000) (by omega);omega
  .rcases ahO r 0 with c|c
   .have h1:=Int.neg_tdiv r 1000000;have h2:=agG (a:= -r) (b:=1000000) (by omega);omega
   .have h2:=agG (a:=r) (b:=1000000) (by omega);omega
 rw[hQ,MR,aE (n:=Q) (by omega) (by omega),aE (n:=w+Q) (by omega) (by omega)]
 obtain⟨W,hW⟩:∃W,W=w+Q:=⟨_,rfl⟩
 obtain⟨X,hX⟩:∃X,X=w*1000000+r:=⟨_,rfl⟩
 rw[<-hW,<-hX]
 have hXW:X=W*1000000+ρ:=by omega
 have hR:=Lq X m;simp only[aJ,ago,jz];unfold RB;by_cases c:W< -2000000000000000\/2000000000000000<W
 .rw[aj (by simpa using c),aj (by unfold gh;omega)]
 .rw[ai (by simpa using c)]
  obtain⟨p,hp,Rw,Jy⟩:∃p:Int,(if(decide ((1:Int)<W))=af then(agp.wrap ((agD W (2:Int))+(2:Int)))else(if(decide (W<(-1:Int)))=af then(agp.wrap ((agD W (2:Int))-(2:Int)))else(agD W (2:Int))))=p/\(-3<=p/\p<=3)/\∃t:Int,W=p+2*t/\(t=0\/(0<t/\1<W/\1<p)\/(t<0/\W< -1/\p< -1)):=by
   rcases ahO W 0 with d|d
   .have h1:=Int.neg_tmod W 2;have h2:=agF (a:= -W) (b:=2) (by omega)
    have h3:agD W 2= -((-W)%2):=by omega
    rw[ai (by simp;omega),h3];by_cases d2:W< -1
    .rw[aj (by simpa using d2),aE (by omega) (by omega)];exact⟨_,rfl,by omega,(W+2+(-W)%2)/2,by omega,by omega⟩
    .rw[ai (by simpa using d2)];exact⟨_,rfl,by omega,0,by omega, .inl rfl⟩
   .have h3:agD W 2=W%2:=agF d;rw[h3];by_cases d2:1<W
    .rw[aj (by simpa using d2),aE (by omega) (by omega)];exact⟨_,rfl,by omega,(W-2-W%2)/2,by omega,by omega⟩
    .rw[ai (by simpa using d2),ai (by simp;omega)];exact⟨_,rfl,by omega,0,by omega, .inl rfl⟩
  obtain⟨t,ht,hs⟩:=Jy;rw[hp,aE (n:=p*1000000) (by omega) (by omega),aE (n:=p*1000000+ρ) (by omega) (by omega),mV,Cy hm (by omega),ago];have hsh:=Lr (X:=X) (Z:=p*1000000+ρ) (m:=m) (t:=t) (by omega) (by omega);have hRZ:=Lq (p*1000000+ρ) m;rw[ai (by simp)];dsimp only;rw[aE (n:=W-p) (by omega) (by omega),aE (n:=W-p+RS (p*1000000+ρ) m) (by omega) (by omega),show W-p+RS (p*1000000+ρ) m=RS X m by omega];by_cases g:gh (RS X m) 1000000000000000
  .rw[aj (by unfold gh at g;simp;omega),aj g]
  .rw[ai (by unfold gh at g;simp;omega),ai g]
def Iq{S J R:Type}{b b':S->Option (S⊕(J⊕R))}{N:Nat}{s0:S}{k k':J->Option R}(P:J->Prop)(hb:∀s,b s=b' s)(h:Wp (Loop b' N s0) λx=>match x with
 | .inl j=>P j
 | .inr _=>True)(hk:∀j,P j->k j=k' j):gm (Loop b N s0) k=gm (Loop b' N s0) k':=by
 rw[show b=b' from funext hb];obtain⟨x,e,hx⟩:=h;rw[e]
 cases x with
 |inl j=>exact hk j hx
 |inr r=>rfl
def NI{α:Type}{l:List α}{i:Int}{x:α}(h:idx l i=aa x):x∈l:=by
 obtain⟨_,e⟩:=(Qf (Q:=λy=>y=x)).1 ⟨x,h,rfl⟩
 grind
def xe{t:bD.den}(hl:t.2.2.2.length<=1000)(hw:∀r∈t.2.2.2,-9223372036854775808<=(r.2.2.2:Int)/\(r.2.2.2:Int)<=9223372036854775807)(d c m:Int):M.eK aR t d c m=M.kg aR t d c m:=by
 unfold M.eK M.kg;rw[zY,od,ago,ago];by_cases hm:oh m
 case neg=>grind
 simp only[hm,decide_true,Bool.not_true,ags,if_false]
 obtain⟨j2,QT⟩:∃j,((if(!(nz az t.2.1 ((3:Int),(0:Int))))=af then aa af else aa (!(nz az t.2.2.1 ((4:Int),(0:Int))))):Option Bool)=aa j:=by
  split<;>exact⟨_,rfl⟩
 rw[QT,ago,ago]
 cases j2 with
 |true=>rfl
 |false=>
  simp only[ags,if_false]
  have bi:((if(decide (c<(-1000000000000000:Int)))=af then aa af else aa (decide ((1000000000000000:Int)<c))):Option Bool)=aa (decide (gh c 1000000000000000)):=by
   rw[aJ,jz];refine av aa ?_;rw[ag2,Bool.or_eq_true,aw,aw,aw];unfold gh;omega
  rw[mU aR c (by omega),bi,ago,ago];by_cases hc:gh c 1000000000000000
  .grind
  simp only[hc,decide_false,ags,if_false];unfold gh at hc;refine Iq (λj:Int×Int=>(-1000000000000000000<=j.1/\j.1<=1000000000000000000)/\-1000000000<=j.2/\j.2<=1000000000) ?_ ?_ ?_
  .rintro⟨a,b,i⟩
   dsimp only;by_cases h:i<(t.2.2.2.length:Int)
   .rw[aj (by simpa using h),aj (by simpa using h)];refine av (λo=>gm o _) ?_
    cases hx:idx t.2.2.2 i with
    |none=>rfl
    |some x=>
     simp only[ago,contains_eq,oM];have hn:=hw x (NI hx)
     obtain⟨T,hT,hTc⟩:∃T:Int,T=(if c<x.2.2.1 then c else x.2.2.1)/\T<=c:=⟨_,rfl,by split<;>omega⟩
     obtain⟨F,hF,hF0⟩:∃F:Int,F=(if x.2.1<(0:Int)then(0:Int)else x.2.1)/\0<=F:=(by grind)
     rw[<-hT,<-hF];by_cases hC:Cn x.1 d
     .by_cases hTF:T<=F
      .simp[hC,hTF]
      .simp only[hC,hTF,decide_true,decide_false,Bool.not_true,ags,if_false,ago];rw[aE (by omega) (by omega)]
       obtain⟨l,Mx⟩:∃l:Nat,T-F=l:=⟨(T-F).toNat,by omega⟩
       grind [P.uD,P.oe]
     grind
   grind
  .refine Wp.loop (λs:Int×Int×Int=>∃i:Nat,s.2.2=i/\i<=t.2.2.2.length/\(-1000000000000000*(i:Int)<=s.1/\s.1<=1000000000000000*(i:Int))/\-1000000*(i:Int)<=s.2.1/\s.2.1<=1000000*(i:Int)) (λs=>(t.2.2.2.length-s.2.2).toNat) (by grind) (by simp only;unfold aR;omega) ?_
   rintro⟨a,b,_⟩ ⟨i,rfl,hi,h1,h2⟩
   simp only at h1 h2;dsimp only
   refine Wp.dec (λh=>?_) λh=> .some ⟨by simp only;omega,by grind⟩
   have jJ:i<t.2.2.2.length:=by omega
   simp only[aM jJ,ago,oM];have hn:=hw _ (agy jJ);generalize t.2.2.2[i]=x at hn⊢
   obtain⟨T,hT,hTc⟩:∃T:Int,T=(if c<x.2.2.1 then c else x.2.2.1)/\T<=c:=⟨_,rfl,by split<;>omega⟩
   obtain⟨F,hF,hF0⟩:∃F:Int,F=(if x.2.1<(0:Int)then(0:Int)else x.2.1)/\0<=F:=(by grind)
   rw[<-hT,<-hF]
   have next:∀a' b':Int,(-1000000000000000<=a'/\a'<=1000000000000000)->(-1000000<=b'/\b'<=1000000)->∃k:Nat,agp.wrap ((i:Int)+1)=(k:Int)/\k<=t.2.2.2.length/\i<k/\(-1000000000000000*(k:Int)<=a+a'/\a+a'<=1000000000000000*(k:Int))/\-1000000*(k:Int)<=b+b'/\b+b'<=1000000*(k:Int):=by
    intro a' b' g1 g2;exact⟨i+1,aL (by omega),by omega,by omega,by omega,by omega⟩
   by_cases hg:T<=F\/¬Cn x.1 d
   .have e:((if decide (T<=F)=af then aa af else aa (!decide (Cn x.1 d))):Option Bool)=aa af:=by
     rcases hg with g|g
     .simp[g]
     .simp[g]
    rw[e,ago];simp only[if_true];refine Wp.join (.some (.some ?_))
    obtain⟨k,q1,q2,q3,q4,q5⟩:=next 0 0 (by omega) (by omega)
    exact⟨⟨k,q1,q2,by simp only;omega,by simp only;omega⟩,by grind⟩
   .have e:((if decide (T<=F)=af then aa af else aa (!decide (Cn x.1 d))):Option Bool)=aa ag:=by
     simp only[not_or,Decidable.not_not]at hg;simp[hg.1,hg.2]
    simp only[not_or,Decidable.not_not]at hg;rw[e,ago];simp only[ags,if_false];rw[aE (n:=T-F) (by omega) (by omega)]
    obtain⟨l,Mx⟩:∃l:Nat,T-F=l:=⟨(T-F).toNat,by omega⟩
    rw[Mx,oe aR (by omega) hn,ago];have hr:=QJ l x.2.2.2;refine Wp.join ?_
    cases(CT l x.2.2.2).2.2 with
    |false=>exact .some trivial
    |true=>
     simp only[Bool.not_true,ags,if_false];refine .some (.some ?_)
     obtain⟨k,q1,q2,q3,q4,q5⟩:=next (CT l x.2.2.2).1 (CT l x.2.2.2).2.1 hr.1 hr.2
     refine⟨⟨k,q1,q2,?_,?_⟩,by grind⟩
     .simp only;rw[aE (by omega) (by omega)];exact q4
     .simp only;rw[aE (by omega) (by omega)];exact q5
  grind [P.Cz,P.Ip,P.mU,P.RB]
end L.P
namespace L.P
def lp(y:Int):Prop:=y%4=0/\(y%100≠0\/y%400=0)
instance(y:Int):Decidable (lp y):=by unfold lp;infer_instance
def ug(y m:Int):Int:=if m=2 then(if lp y then 29 else 28)else if m=4\/m=6\/m=9\/m=11 then 30 else if m=1\/m=3\/m=5\/m=7\/m=8\/m=10\/m=12 then 31 else 0
def L7(y:Int):Int:=if lp y then 366 else 365
def ly(y:Int):Int:=y/4-y/100+y/400
def ys(y:Int):Int:=(y-1900)*365+ly (y-1)-460
def ms(y:Int):Nat->Int
 |0=>0
 |k+1=>ms y k+ug y (((k+1:Nat)):Int)
def oN(y m:Int):0<=ug y m/\ug y m<=31:=by grind [P.ug]
def NJ(y:Int){m:Int}(h:1<=m/\m<=12):28<=ug y m:=by grind [P.ug]
theorem F8(y:Int){m:Int}(h:m<1\/12<m):ug y m=0:=by grind [P.ug]
theorem sy(y:Int):ys (y+1)=ys y+L7 y:=by
 grind [P.L7,P.lp,P.ys,P.ly]
theorem ys0:ys 1900=0:=by decide
def uW{y y':Int}(h:y<=y'):ys y<=ys y':=by
 unfold ys ly;omega
def z6(y:Int):365<=L7 y/\L7 y<=366:=by unfold L7;split<;>omega
def qx(y:Int){i j:Nat}(h:i<=j):ms y i<=ms y j:=by
 induction j with
 |zero=>grind
 |succ j ih=>
  grind [P.ms,P.ug]
theorem CA(y:Int):ms y 12=L7 y:=by
 unfold L7
 by_cases h:lp y<;>simp[ms,ug,h]
def pY(y:Int){i:Nat}(h:i<=12):0<=ms y i/\ms y i<=366:=by
 have h1:=qx y (Nat.zero_le i);have h2:=qx y h;rw[CA]at h2;have:=z6 y;have:ms y 0=0:=rfl;omega
def tF{y:Int}(h:1900<=y/\y<=2200):0<=ys y/\ys y<=109573:=by
 unfold ys ly;omega
def F9{y d:Int}(hd:d<=109572)(h:ys y<=d):y<=2199:=by
 unfold ys ly at h;omega
def Ga(N:Nat){y:Int}(h:0<=y):M.lb N y=aa (decide (lp y)):=by
 unfold M.lb;rw[agF h,agF h,agF h];simp only[aJ,ago,jz,gT]
 grind [P.lp]
theorem CB(N:Nat){y:Int}(h:0<=y):M.lU N y=aa (decide (lp y)):=Ga N h
theorem z7(N:Nat){y:Int}(h:0<=y)(m:Int):M.cJ N y m=aa (ug y m):=by
 unfold M.cJ;rw[Ga N h];by_cases hm:1<=m/\m<=12
 .have:m=1\/m=2\/m=3\/m=4\/m=5\/m=6\/m=7\/m=8\/m=9\/m=10\/m=11\/m=12:=by omega
  by_cases hl:lp y
  .rcases this with rfl|rfl|rfl|rfl|rfl|rfl|rfl|rfl|rfl|rfl|rfl|rfl<;>simp[ug,hl]<;>rfl
  .rcases this with rfl|rfl|rfl|rfl|rfl|rfl|rfl|rfl|rfl|rfl|rfl|rfl<;>simp[ug,hl]<;>rfl
 .rw[F8 y (by omega)]
  grind
def uX(N:Nat){y:Int}(h:0<=y)(m:Int):M.cR N y m=aa (ug y m):=by
 unfold M.cR ug;rw[CB N h];by_cases h2:m=2
 .grind
 .rw[ai (by simpa using h2),ai h2];by_cases h4:m=4\/m=6\/m=9\/m=11
  .grind
  .rw[ai h4];simp only[not_or]at h4;by_cases h1:m=1\/m=3\/m=5\/m=7\/m=8\/m=10\/m=12
   .rw[aj h1]
    rcases h1 with rfl|rfl|rfl|rfl|rfl|rfl|rfl<;>simp
   grind
def Gb(N:Nat){y:Int}(h:0<=y):M.eB N y=aa (L7 y):=by
 grind [M.eB,P.L7,P.CB]
def Ls(N:Nat){y:Int}(h:1900<=y/\y<=2300):M.di N y=aa (ys y):=by
 unfold M.di M.ij;rw[aE (n:=y-1) (by omega) (by omega),agG (by omega),agG (by omega),agG (by omega)];simp only[ago];refine av aa ?_
 have e:∀z:Int,-1000000000<=z->z<=1000000000->agp.wrap z=z:=λz h1 h2=>aE (by omega) (by omega)
 rw[show agp.wrap (agp.wrap (agp.wrap (agC 1899 4)-agp.wrap (agC 1899 100))+agp.wrap (agC 1899 400))=460 by decide];rw[e ((y-1)/4) (by omega) (by omega),e ((y-1)/100) (by omega) (by omega),e ((y-1)/400) (by omega) (by omega),e (y-1900) (by omega) (by omega),e ((y-1900)*365) (by omega) (by omega),e ((y-1)/4-(y-1)/100) (by omega) (by omega),e ((y-1)/4-(y-1)/100+(y-1)/400) (by omega) (by omega),e ((y-1900)*365+((y-1)/4-(y-1)/100+(y-1)/400)) (by omega) (by omega),e _ (by omega) (by omega)];rfl
def IP(d:Int)(r:Int×Int×Int):Prop:=(1900<=r.1/\r.1<=2199)/\∃j:Nat,r.2.1=((j+1:Nat):Int)/\j<12/\1<=r.2.2/\r.2.2<=ug r.1 ((j+1:Nat):Int)/\d=ys r.1+ms r.1 j+r.2.2-1
def IP.year{d:Int}{r:Int×Int×Int}(h:IP d r):ys r.1<=d/\d<ys (r.1+1):=by
 obtain⟨h1,j,h2,h3,h4,h5,h6⟩:=h;have a:=pY r.1 (i:=j) (by omega);have b:=qx r.1 (show j+1<=12 by omega)
 grind [P.CA,P.ms,P.sy]
def IP.Ek{d:Int}{r s:Int×Int×Int}(h:IP d r)(g:IP d s):r=s:=by
 have hy:r.1=s.1:=by
  have a:=h.year;have b:=g.year
  rcases Int.lt_trichotomy r.1 s.1 with c|c|c
  .have:=uW (show r.1+1<=s.1 by omega);omega
  .exact c
  .have:=uW (show s.1+1<=r.1 by omega);omega
 obtain⟨y,m,k⟩:=r;obtain⟨y',m',k'⟩:=s;simp only at hy;subst hy;obtain⟨h1,j,h2,h3,h4,h5,h6⟩:=h;obtain⟨g1,i,g2,g3,g4,g5,g6⟩:=g;simp only at h1 h2 h3 h4 h5 h6 g1 g2 g3 g4 g5 g6
 have hj:j=i:=by
  rcases Nat.lt_trichotomy j i with c|c|c
  .have a:ms y (j+1)=ms y j+ug y ((j+1:Nat):Int):=rfl;have b:=qx y (show j+1<=i from c);omega
  .exact c
  .have a:ms y (i+1)=ms y i+ug y ((i+1:Nat):Int):=rfl;have b:=qx y (show i+1<=j from c);omega
 grind
def dv(d:Int):((if(decide ((0:Int)<=d))=af then aa (decide (d<=(109572:Int)))else aa ag):Option Bool)=aa (decide (0<=d/\d<=109572)):=by
 grind
theorem wG(N:Nat)(d:Int):M.gp N d=aa (decide (0<=d/\d<=109572)):=by
 unfold M.gp;rw[dv];rfl
theorem kO(N:Nat)(d:Int):M.iu N d=aa (decide (0<=d/\d<=109572)):=by
 unfold M.iu;rw[dv];rfl
def qy{d:Int}(hd:0<=d/\d<=109572):Wp (M.dj aR d) (IP d):=by
 unfold M.dj;rw[wG,ago,ai (by simpa using hd),agG hd.1,aE (n:=d/366) (by omega) (by omega),aE (n:=1900+d/366) (by omega) (by omega)]
 refine Wp.seq (λy=>(1900<=y/\y<=2199)/\ys y<=d/\d<ys (y+1)) (Wp.loop (λy:Int=>(1900<=y/\y<=2199)/\ys y<=d) (λy=>(2199-y).toNat) ⟨by omega,by unfold ys ly;omega⟩ (by unfold aR;omega) ?_) λy hy=>?_
 .rintro y ⟨h1,h2⟩
  rw[aE (by omega) (by omega),Ls aR (by omega),ago]
  refine Wp.dec (λh=> .some ?_) λh=> .some ⟨h1,h2,by omega⟩
  have:=F9 hd.2 h;exact⟨⟨by omega,h⟩,by grind⟩
 .obtain⟨h1,h2,h3⟩:=hy;have hr:=tF (y:=y) (by omega);rw[Ls aR (by omega),ago,aE (n:=d-ys y) (by omega) (by omega)];refine Wp.loop (λs:Int×Int=>∃i:Nat,s.2=i/\i<=12/\s.1=d-ys y-ms y i/\0<=s.1) (λs=>(12-s.2).toNat) ⟨0,rfl,by omega,by show d-ys y=d-ys y-0;omega,by grind⟩ (by simp only;unfold aR;omega) ?_
  rintro⟨a,b⟩ ⟨i,hi,rA,ha,h0⟩
  simp only at hi ha h0;subst hi ha;have hm:=pY y rA;have e:=sy y
  refine Wp.dec (λh=>?_) λh=>?_
  .have hi:i<12:=by simp only at h;omega
   rw[aL (by omega),z7 aR (by omega),ago];have IM:=oN y ((i+1:Nat):Int)
   refine Wp.dec (λg=> .some ?_) λg=> .some ?_
   .simp only at g;refine⟨h1,i,rfl,hi,?_,?_,?_⟩
    all_goals grind [aE]
   .simp only at g⊢;rw[aE (by omega) (by omega)];refine⟨⟨i+1,rfl,hi,?_,by simp only;omega⟩,by grind⟩
    grind [P.ms]
  .have:i=12:=by simp only at h;omega
   grind [P.CA]
def xf{d:Int}(hd:0<=d/\d<=109572):Wp (M.fZ aR d) (IP d):=by
 unfold M.fZ;rw[kO,ago,ai (by simpa using hd)]
 refine Wp.seq (λs:Int×Int=>(1900<=s.2/\s.2<=2199)/\s.1=d-ys s.2/\0<=s.1/\s.1<L7 s.2) (Wp.loop (λs:Int×Int=>(1900<=s.2/\s.2<=2199)/\s.1=d-ys s.2/\0<=s.1) (λs=>(2199-s.2).toNat) ⟨(by grind),by show d=d-ys 1900;rw[ys0];omega,hd.1⟩ (by simp only;unfold aR;omega) ?_) λs hs=>?_
 .rintro⟨t,y⟩ ⟨h1,h2,h3⟩
  simp only at h1 h2 h3⊢;subst h2;have e:=sy y;have hr:=tF (y:=y) (by omega);have hdy:=z6 y;rw[Gb aR (by omega),ago]
  refine Wp.dec (λh=>?_) λh=> .some ⟨h1,rfl,h3,by grind⟩
  rw[ago];refine .some ?_;rw[aE (by omega) (by omega),aE (by omega) (by omega)];have:=F9 (y:=y+1) hd.2 (by omega);exact⟨⟨by simp only;omega,by simp only;omega,by simp only;omega⟩,by grind⟩
 .obtain⟨t,y⟩:=s;obtain⟨h1,h2,h3,h4⟩:=hs;simp only at h1 h2 h3 h4⊢;subst h2;have hr:=tF (y:=y) (by omega)
  refine Wp.seq (λs:Int×Int=>∃i:Nat,s.2=((i+1:Nat):Int)/\i<12/\s.1=d-ys y-ms y i/\0<=s.1/\s.1<ug y ((i+1:Nat):Int)) (Wp.loop (λs:Int×Int=>∃i:Nat,s.2=((i+1:Nat):Int)/\i<12/\s.1=d-ys y-ms y i/\0<=s.1) (λs=>(12-s.2).toNat) ⟨0,rfl,by omega,by show d-ys y=d-ys y-0;omega,by grind⟩ (by simp only;unfold aR;omega) ?_) λs hs=>?_
  .rintro⟨a,b⟩ ⟨i,hi,rA,ha,h0⟩
   simp only at hi ha h0⊢;subst hi ha;have hm:=pY y (i:=i) (by omega);rw[uX aR (by omega),ago];have IM:=oN y ((i+1:Nat):Int)
   refine Wp.dec (λg=>?_) λg=> .some ⟨i,rfl,rA,rfl,h0,by grind⟩
   rw[ago];refine .some ?_;rw[aE (by omega) (by omega),aL (by omega)];have LY:ms y (i+1)=ms y i+ug y ((i+1:Nat):Int):=rfl
   have jJ:i+1<12:=by
    rcases Nat.lt_or_ge (i+1) 12 with c|c
    .exact c
    .have:i+1=12:=by omega
     rw[this,CA]at LY
     grind
   exact⟨⟨i+1,rfl,jJ,by simp only;omega,by simp only;omega⟩,by grind⟩
  .obtain⟨a,b⟩:=s;obtain⟨i,hi,rA,ha,h0,h5⟩:=hs;simp only at hi ha h0 h5⊢;subst hi ha;have hm:=pY y (i:=i) (by omega);refine .some ⟨h1,i,rfl,rA,?_,?_,?_⟩
   all_goals grind [aE]
theorem wH(d:Int):M.dj aR d=M.fZ aR d:=by
 by_cases hd:0<=d/\d<=109572
 .obtain⟨r,e,h⟩:=qy hd;obtain⟨s,f,g⟩:=xf hd;rw[e,f,h.Ek g]
 grind [M.dj,M.fZ,P.wG,P.kO]
def wI(y m k:Int):Prop:=1900<=y/\y<=2199/\1<=m/\m<=12/\1<=k/\k<=ug y m
instance(y m k:Int):Decidable (wI y m k):=by unfold wI;infer_instance
def FY(y m k:Int):Int×Int:=if wI y m k then(ys y+ms y (m-1).toNat+k-1,0)else(0,3)
theorem EG(y m k:Int):M.iH aR y m k=aa (FY y m k):=by
 apply Wp.eq;unfold M.iH FY
 refine Wp.seq (λj=>j=decide (¬wI y m k)) ?_ λj hj=>?_
 .unfold wI
  refine Wp.dec (λ_=> .some (by symm;simp;omega)) λ_=>Wp.dec (λ_=> .some (by symm;simp;omega)) λ_=>Wp.dec (λ_=> .some (by symm;simp;omega)) λh1=>Wp.dec (λ_=> .some (by symm;simp;omega)) λh2=>Wp.dec (λ_=> .some (by grind)) λ_=>?_
  rw[z7 aR (by omega),ago];refine .some ?_
  grind
 .subst hj;by_cases h:wI y m k
  .rw[ai (by simpa using h),aj h];obtain⟨h1,h2,h3,h4,h5,h6⟩:=h;have hr:=tF (y:=y) (by omega);rw[Ls aR (by omega),ago,aE (n:=m-1) (by omega) (by omega)]
   refine Wp.seq (λz=>z=ys y+ms y (m-1).toNat) (Wp.loop (λs:Int×Int=>∃i:Nat,s.2=i/\(i:Int)<=m-1/\s.1=ys y+ms y i) (λs=>(m-s.2).toNat) ⟨0,rfl,by omega,by show ys y=ys y+0;omega⟩ (by simp only;unfold aR;omega) ?_) λz hz=>?_
   .rintro⟨a,b⟩ ⟨i,hi,rA,ha⟩
    simp only at hi ha⊢;subst hi ha
    refine Wp.dec (λg=>?_) λg=> .some ?_
    .have hm:=pY y (i:=i) (by omega);have IM:=oN y ((i+1:Nat):Int);rw[aL (by omega),z7 aR (by omega),ago];refine .some ?_;rw[aE (by omega) (by omega)];refine⟨⟨i+1,rfl,by omega,?_⟩,by grind⟩
     grind [P.ms]
    .show _=_
     grind
   .subst hz;have hm:=pY y (i:=(m-1).toNat) (by omega);have IM:=oN y m;rw[aE (n:=ys y+ms y (m-1).toNat+k) (by omega) (by omega),aE (by omega) (by omega)];exact .some rfl
  .rw[aj (by simpa using h),ai h];exact .some rfl
def CC(y m k:Int):M.k0 aR y m k=aa (FY y m k):=by
 apply Wp.eq;unfold M.k0 FY
 refine Wp.seq (λj=>j=decide (¬wI y m k)) ?_ λj hj=>?_
 .unfold wI
  refine Wp.dec (λ_=> .some (by symm;simp;omega)) λ_=>Wp.dec (λ_=> .some (by symm;simp;omega)) λ_=>Wp.dec (λ_=> .some (by grind)) λh1=>?_
  rw[uX aR (by omega),ago];refine .some ?_
  grind [P.F8]
 .subst hj;by_cases h:wI y m k
  .rw[ai (by simpa using h),aj h];obtain⟨h1,h2,h3,h4,h5,h6⟩:=h;have IM:=oN y m;have hr:=tF (y:=y) (by omega);rw[aE (n:=k-1) (by omega) (by omega)]
   refine Wp.seq (λz=>z=ys y+k-1) (Wp.loop (λs:Int×Int=>(1900<=s.2/\s.2<=y)/\s.1=ys s.2+k-1) (λs=>(y-s.2).toNat) ⟨⟨by show(1900:Int)<=1900;omega,h1⟩,by grind [P.ys0]⟩ (by simp only;unfold aR;omega) ?_) λz hz=>?_
   .rintro⟨a,b⟩ ⟨hb,ha⟩
    simp only at hb ha⊢;subst ha
    refine Wp.dec (λg=>?_) λg=> .some ?_
    .have hq:=tF (y:=b) (by omega);have hdy:=z6 b;have e:=sy b;rw[Gb aR (by omega),ago];refine .some ?_;rw[aE (by omega) (by omega),aE (by omega) (by omega)];exact⟨⟨by simp only;omega,by simp only;omega⟩,by grind⟩
    .show _=_
     grind
   .subst hz;refine Wp.loop (λs:Int×Int=>∃i:Nat,s.2=((i+1:Nat):Int)/\(i:Int)<=m-1/\s.1=ys y+k-1+ms y i) (λs=>(m-s.2).toNat) ⟨0,rfl,by omega,by show ys y+k-1=ys y+k-1+0;omega⟩ (by simp only;unfold aR;omega) ?_
    rintro⟨a,b⟩ ⟨i,hi,rA,ha⟩
    simp only at hi ha⊢;subst hi ha
    refine Wp.dec (λg=>?_) λg=> .some ?_
    .have hm:=pY y (i:=i) (by omega);have IM:=oN y ((i+1:Nat):Int);rw[uX aR (by omega),ago];refine .some ?_;rw[aE (by omega) (by omega),aL (by omega)];refine⟨⟨i+1,rfl,by omega,?_⟩,by grind⟩
     grind [P.ms]
    .show _=_
     grind
  .rw[aj (by simpa using h),ai h];exact .some rfl
def tG(r:Int×Int×Int)(n:Int):Int×Int:=
 if(r.1-1900)*12+r.2.1-1+n<0\/3599<(r.1-1900)*12+r.2.1-1+n then(0,3)else
  FY (1900+((r.1-1900)*12+r.2.1-1+n)/12) (((r.1-1900)*12+r.2.1-1+n)%12+1) (if ug (1900+((r.1-1900)*12+r.2.1-1+n)/12) (((r.1-1900)*12+r.2.1-1+n)%12+1)<r.2.2 then ug (1900+((r.1-1900)*12+r.2.1-1+n)/12) (((r.1-1900)*12+r.2.1-1+n)%12+1)else r.2.2)
def Ir(d n:Int):Prop:=(0<=d/\d<=109572)/\-3600<=n/\n<=3600
def CD(d n:Int):((if(!decide (0<=d/\d<=109572))=af then aa af else(if(decide (n<(-3600:Int)))=af then aa af else aa (decide ((3600:Int)<n)))):Option Bool)=aa (decide (¬((0<=d/\d<=109572)/\-3600<=n/\n<=3600))):=by
 grind
def IP.mon{d:Int}{r:Int×Int×Int}(h:IP d r):1<=r.2.1/\r.2.1<=12/\1<=r.2.2/\r.2.2<=31:=by
 obtain⟨h1,j,h2,h3,h4,h5,h6⟩:=h;have:=oN r.1 ((j+1:Nat):Int);omega
def sz(d n:Int):(Ir d n/\∃r,IP d r/\M.dj aR d=aa r/\M.cE aR d n=aa (tG r n))\/(¬Ir d n/\M.cE aR d n=aa (0,3)):=by
 unfold M.cE;rw[wG,ago,CD,ago];by_cases h:(0<=d/\d<=109572)/\-3600<=n/\n<=3600
 .refine .inl ⟨h,?_⟩;rw[ai (by simp;omega)];obtain⟨⟨y,m,k⟩,e,hr⟩:=qy h.1;refine⟨_,hr,e,?_⟩;rw[e,ago];have hy:=hr.1;have hm:=hr.mon;simp only at hy hm⊢
  have w:∀z:Int,-1000000000<=z->z<=1000000000->agp.wrap z=z:=λz h1 h2=>aE (by omega) (by omega)
  rw[w (y-1900) (by omega) (by omega),w ((y-1900)*12) (by omega) (by omega),w ((y-1900)*12+m) (by omega) (by omega),w ((y-1900)*12+m-1) (by omega) (by omega),w ((y-1900)*12+m-1+n) (by omega) (by omega)];unfold tG;simp only[aJ,jz,ago]
  grind [P.z7,P.EG]
 .exact .inr ⟨h,by grind⟩
theorem pZ(d n:Int):M.cE aR d n=M.cZ aR d n:=by
 have key:∀r:Int×Int×Int,IP d r->M.dj aR d=aa r->Ir d n->M.cZ aR d n=aa (tG r n):=by
  rintro⟨y,m,k⟩ hr e h
  unfold M.cZ;unfold Ir at h;rw[kO,ago,CD,ago,ai (by simp;omega),<-wH,e,ago];have hy:=hr.1;have hm:=hr.mon;simp only at hy hm⊢
  have w:∀z:Int,-1000000000<=z->z<=1000000000->agp.wrap z=z:=λz h1 h2=>aE (by omega) (by omega)
  rw[w (12*y) (by omega) (by omega),w (12*y+m) (by omega) (by omega),w (12*y+m-1) (by omega) (by omega),w (12*y+m-1+n) (by omega) (by omega)]
  obtain⟨K,hK⟩:∃K,K=(y-1900)*12+m-1+n:=⟨_,rfl⟩
  have e1:12*y+m-1+n=K+22800:=by omega
  rw[e1,agG (by omega),agF (by omega),w ((K+22800)/12) (by omega) (by omega),w ((K+22800)%12+1) (by omega) (by omega),uX aR (by omega),ago,CC,ago]
  have e2:(K+22800)/12=1900+K/12:=by omega
  have e3:(K+22800)%12=K%12:=by omega
  rw[e2,e3];unfold tG;simp only;rw[<-hK];by_cases c:K<0\/3599<K
  .grind [P.FY,P.wI]
  .rw[ai c]
 rcases sz d n with⟨h,r,hr,e,f⟩|⟨h,f⟩
 all_goals grind [M.cZ,P.Ir,P.kO]
def qz{a:Int}{r:Int×Int×Int}(hr:IP a r)(j:Nat):(r.1+j<=2199/\(tG r (12*j)).2=0/\ys (r.1+j)<=(tG r (12*j)).1/\(tG r (12*j)).1<ys (r.1+j+1)/\(j=0->(tG r (12*j)).1=a))\/(2199<r.1+j/\(tG r (12*j)).2=3):=by
 obtain⟨y,m,k⟩:=r;obtain⟨h1,i,h2,h3,h4,h5,h6⟩:=hr;simp only at h1 h2 h3 h4 h5 h6⊢;subst h2;unfold tG;simp only
 obtain⟨K,hK⟩:∃K,K=(y-1900)*12+((i+1:Nat):Int)-1+12*(j:Int):=⟨_,rfl⟩
 rw[<-hK];by_cases c:K<0\/3599<K
 .grind
 .rw[ai c]
  have e1:1900+K/12=y+j:=by omega
  have e2:K%12+1=((i+1:Nat):Int):=by omega
  rw[e1,e2];have p:=NJ (y+j) (m:=((i+1:Nat):Int)) (by omega)
  obtain⟨k',gD,q1,q2,q3⟩:∃k',k'=(if ug (y+j) ((i+1:Nat):Int)<k then ug (y+j) ((i+1:Nat):Int)else k)/\1<=k'/\k'<=ug (y+j) ((i+1:Nat):Int)/\(j=0->k'=k):=by
   grind
  rw[<-gD];unfold FY;rw[aj (by unfold wI;omega)];refine .inl ⟨by omega,rfl,?_,?_,?_⟩
  .simp only;rw[show(((i+1:Nat):Int)-1).toNat=i by omega];have:=pY (y+j) (i:=i) (by omega);omega
  .simp only;rw[show(((i+1:Nat):Int)-1).toNat=i by omega];have b:=qx (y+j) (show i+1<=12 by omega)
   grind [P.CA,P.ms,P.sy]
  grind
theorem sA(a b:Int):M.dl aR a b=M.eN aR a b:=by
 unfold M.dl M.eN;rw[wG,wG,kO,kO];simp only[ago];by_cases ha:0<=a/\a<=109572
 case neg=>
  grind
 by_cases hb:0<=b/\b<=109572
 case neg=>
  grind
 rw[an ha,an hb];simp only[Bool.not_true,ags,if_false,ago];obtain⟨r,er,hr⟩:=qy ha;obtain⟨s,es,hs⟩:=qy hb;have Z3:=hr.1;have hsy:=hs.1;have hra:=hr.year;have hsb:=hs.year
 have am:∀j:Nat,j<=300->M.cE aR a (12*(j:Int))=aa (tG r (12*j)):=by
  intro j hj
  rcases sz a (12*j)with⟨_,r',_,e',f⟩|⟨h,_⟩
  .grind
  .grind [P.Ir]
 have loop:∀n:Nat,n<=299->(∀j:Nat,1<=j->j<=n->(tG r (12*j)).2=0/\(tG r (12*j)).1<=b)->¬((tG r (12*((n+1:Nat):Int))).2=0/\(tG r (12*((n+1:Nat):Int))).1<=b)->
  (Loop (S:=Int) (X:=Int) (λs4=>(M.cZ aR a (agp.wrap ((12:Int)*(agp.wrap (s4+(1:Int)))))).bind λy5=>((if(!decide (y5.2=(0:Int)))=af then aa af else aa (decide (b<y5.1))):Option (Bool)).bind λj6=>
    (if j6=af then aa (Sum.inr s4)else aa (Sum.inl (agp.wrap (s4+(1:Int)))))) aR (0:Int))=aa (n:Int):=by
  intro n hn h1 h2;apply Wp.eq;refine Wp.loop (λs:Int=>∃k:Nat,s=k/\k<=n) (λs=>(n-s).toNat) ⟨0,rfl,Nat.zero_le _⟩ (by unfold aR;omega) ?_
  rintro _ ⟨k,rfl,hk⟩
  rw[aL (by omega),aE (by omega) (by omega),<-pZ,am (k+1) (by omega),ago];by_cases c:(tG r (12*((k+1:Nat):Int))).2=0/\(tG r (12*((k+1:Nat):Int))).1<=b
  .have LX:k<n:=by
    rcases Nat.lt_or_ge k n with g|g
    .exact g
    .grind
   rw[ai (by rw[an c.1];decide),ago,ai (by rw[ao (Int.not_lt.2 c.2)];decide)];exact .some ⟨⟨k+1,rfl,LX⟩,by grind⟩
  .have LX:k=n:=by
    rcases Nat.lt_or_ge k n with g|g
    .grind
    .omega
   subst LX;by_cases c1:(tG r (12*((k+1:Nat):Int))).2=0
   .rw[ai (by rw[an c1];decide),ago,aj (an (Int.not_le.1 λg=>c ⟨c1,g⟩))];exact .some rfl
   .rw[aj (by simpa using c1),ago,aj rfl];exact .some rfl
 by_cases N0:b<a
 .rw[aj (by simpa using N0)]
  have:=loop 0 (by omega) (λj h1 h2=>by omega) (by
   rintro⟨c1,c2⟩
   rcases qz hr 1 with⟨_,_,h3,_⟩|⟨_,h3⟩
   all_goals grind)
  exact this.symm
 .rw[ai (by simpa using N0),er,es,ago,ago,aE (n:=s.1-r.1) (by omega) (by omega)]
  have hle:r.1<=s.1:=by
   rcases ahO s.1 r.1 with c|c
   .have:=uW (show s.1+1<=r.1 by omega);omega
   .exact c
  obtain⟨Y,hY⟩:∃Y:Nat,s.1-r.1=Y:=⟨(s.1-r.1).toNat,by omega⟩
  have hY3:Y<=299:=by omega
  rw[hY,aE (n:=12*(Y:Int)) (by omega) (by omega),am Y (by omega),ago]
  have low:∀j:Nat,1<=j->j<Y->(tG r (12*j)).2=0/\(tG r (12*j)).1<=b:=by
   intro j h1 h2
   rcases qz hr j with⟨_,g2,_,g4,_⟩|⟨g1,_⟩
   .have:=uW (show r.1+j+1<=s.1 by omega)
    grind
   .omega
  have high:¬((tG r (12*((Y+1:Nat):Int))).2=0/\(tG r (12*((Y+1:Nat):Int))).1<=b):=by
   rintro⟨c1,c2⟩
   rcases qz hr (Y+1)with⟨_,_,g3,_⟩|⟨_,g2⟩
   .grind
   .omega
  by_cases c:(tG r (12*(Y:Int))).2=0/\(tG r (12*(Y:Int))).1<=b
  .rw[ai (by rw[an c.1];decide),ago,ai (by rw[ao (Int.not_lt.2 c.2)];decide),ago,ai (by omega)]
   grind
  .have qA:1<=Y:=by
    rcases Nat.eq_zero_or_pos Y with g|g
    .subst g
     rcases qz hr 0 with⟨_,g2,_,_,g5⟩|⟨g1,_⟩
     all_goals grind
    .exact g
   have fin:((if(!decide ((tG r (12*(Y:Int))).2=(0:Int)))=af then aa af else aa (decide (b<(tG r (12*(Y:Int))).1))):Option Bool)=aa af:=by
    by_cases c1:(tG r (12*(Y:Int))).2=0
    .grind
    .grind
   rw[fin,ago,aj rfl,ago,aE (by omega) (by omega),ai (by omega)];have:=loop (Y-1) (by omega) (λj h1 h2=>low j h1 (by omega)) (by rw[show Y-1+1=Y by omega];exact c);rw[this];refine av aa ?_;omega
end L.P
end Go.Proofs.YtfeahmiobbjklaaGreatDoor
