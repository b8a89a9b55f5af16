/- Joined texts: Base Mem Own More Lit Open Cut Glob Deep Sym Eff. -/
import Derived.WalkKit
import Derived.WalkSpells
import Derived.WalkLawsBesides
import Derived.LoopN
import Derived.Deep.Draws
import Derived.Deep.Quiet
import Derived.Maps.AppendAt
import Derived.OwnWalk
import Derived.KernelRfl
import Derived.MapKept
import Derived.Maps.RangeRun
import Derived.Laws.StructEq
import Derived.Test.YtbladfbbhijpmaaGreatRows
import Derived.ProofKit
import Derived.OpenShut
import Derived.JoinedCond
import Derived.Deep.Slices
import Derived.Laws.Slices
open _root_.Bool renaming false->aaM,true->aaL,and_eq_true->ZE
open _root_.Option renaming none->aaK,none_or->Z4
open _root_.Array renaming getD_eq_getD_getElem?->ZB,getElem?_eq_getElem->Zi,getElem?_eq_some_iff->Zx,toArray_toList->ZF
open _root_.Classical renaming propDecidable->ZG
open _root_.List renaming getElem?_eq_getElem->YX,getElem?_eq_some_iff->Zd,mem_append->Y7,append_assoc->Zp,drop_append_of_le_length->ZR,drop_of_length_le->Z0,getElem?_drop->Zc,getElem?_take->Zo,getElem_of_mem->ZJ,length_append->Zf,length_take->Zr,range->Y1,replicate->Zq,foldl_cons->ZT,getElem?_append->aaC,length_cons->Ze,take_append_drop->ZQ,map_append->ZU,take_length->Zh,cons_append->aar
open _root_.Nat renaming beq->YZ,blt->ZK,eq_of_beq_eq_true->ZM,le_refl->YY,le_trans->Zj,lt_of_lt_of_le->Zv,add_mul->ZH,add_zero->Z1,mul_le_mul_right->Zg,zero_add->Zy,min_eq_left->Z3
open _root_.Option.some renaming inj->YU,injEq->Y3
open _root_.Go.Region renaming wanted->aal
open _root_.Go.Value renaming oneCell'->aaf,ownBlock->Zw
open _root_.Go.Addr.mk renaming injEq->aam
open _root_.Go.Builtin renaming append_->aat
open _root_.ByteArray renaming empty->aaB
open _root_.Go.Sem renaming run->aaI
open _root_.Go.Value.slice renaming injEq->aag
open _root_.Go.Instr renaming fill->aay
open _root_.List.cons renaming injEq->Z8
open _root_.BitVec renaming ofInt->ZY
open _root_.Int renaming tdiv->Z6,tmod->aaq
namespace Go.Proofs.YtbladfbbhijpmaaGreat
open Go Go.RowKit
set_option maxRecDepth 100000
set_option linter.unusedSimpArgs false
set_option linter.unusedVariables false
set_option linter.defProp false
section
theorem aaO.{u}:type_of% @_root_.if_neg.{u}:= @_root_.if_neg.{u}
theorem aaP.{u}:type_of% @_root_.if_pos.{u}:= @_root_.if_pos.{u}
theorem aaQ:type_of% @_root_.of_decide_eq_true:= @_root_.of_decide_eq_true
theorem aaR:type_of% @_root_.decide_eq_true:= @_root_.decide_eq_true
theorem aaS:type_of% @_root_.decide_eq_false:= @_root_.decide_eq_false
theorem aaT.{u}:type_of% @_root_.implies_true.{u}:= @_root_.implies_true.{u}
theorem aaU.{u}:type_of% @_root_.forall_const.{u}:= @_root_.forall_const.{u}
theorem aaV.{u,v}:type_of% @_root_.congrArg.{u,v}:= @_root_.congrArg.{u,v}
theorem aaW:type_of% @_root_.decide_eq_true_eq:= @_root_.decide_eq_true_eq
theorem aaX:type_of% @_root_.iff_of_false:= @_root_.iff_of_false
open Go Go.RowKit
inductive EM where
 |map
 |ptr
 |func
def EM.val:EM->Value
 | .map=> .map aaK
 | .ptr=> .pointer aaK
 | .func=> .nilFunc
theorem EM.one(k:EM):k.val.oneCell'=aaL:=by cases k<;>simp[EM.val,aaf]
inductive Row where
 |int (k:IntKind)
 |bool
 |str
 |slice (e:Row)
 |iU
 |nul (k:EM)
 |map (K:Row) (agg:Bool) (V:Row)
 |pair (a b:Row)
@[reducible] def Row.den:Row->Type
  | .int _=>Int
  | .bool=>Bool
  | .str=>ByteArray
  | .slice e=>List e.den
  | .iU=>Value
  | .nul _=>Unit
  | .map K _ V=>List (K.den×V.den)
  | .pair a b=>a.den×b.den
noncomputable instance Row.decEq:(r:Row)->DecidableEq r.den
 | .int _=>inferInstanceAs (DecidableEq Int)
 | .bool=>inferInstanceAs (DecidableEq Bool)
 | .str=>inferInstanceAs (DecidableEq ByteArray)
 | .slice e=>have:=Row.decEq e;inferInstanceAs (DecidableEq (List e.den))
 | .iU=>λa b=>ZG (a=b)
 | .nul _=>inferInstanceAs (DecidableEq Unit)
 | .map K _ V=>have:=Row.decEq K;have:=Row.decEq V;inferInstanceAs (DecidableEq (List (K.den×V.den)))
 | .pair a b=>have:=Row.decEq a;have:=Row.decEq b;inferInstanceAs (DecidableEq (a.den×b.den))
@[simp] def Row.size:Row->Nat
  | .pair a b=>a.size+b.size
  |_=>1
theorem Row.size_pos:(r:Row)->0<r.size
 | .pair a b=>by have:=Row.size_pos a;simp;omega
 | .int _| .bool| .str| .slice _| .iU| .nul _| .map .. =>by simp
def gH:(K:Row)->K.den->Option Value
 | .int k,n=>some (.int k n)
 | .bool,b=>some (.bool b)
 | .str,s=>some (.string s)
 | .pair (.int j) (.int k),x=>some (.agg #[.int j x.1, .int k x.2])
 |_,_=>aaK
def bN(F:Nat->Prop)(w:World):(r:Row)->List Value->r.den->Prop
 | .int k,cs,n=>cs=[.int k n]
 | .bool,cs,b=>cs=[.bool b]
 | .str,cs,s=>cs=[.string s]
 | .slice e,cs,l=>∃A cap,cs=[.slice A l.length cap]/\l.length<=cap/\cap<=maxLen/\
     ∀i(h:i<l.length),∃b off es,A=some ⟨b,off,aaK⟩/\F b/\es.length=e.size/\
      (∀j u,es[j]? =some u->w.cell? ⟨b,off+i*e.size+j,aaK⟩=some u)/\bN F w e es l[i]
 | .iU,cs,v=>cs=[v]/\∃A m c,v= .slice A m c
 | .nul k,cs,_=>cs=[k.val]
 | .map K agg V,cs,l=>∃v,cs=[v]/\((v= .map aaK/\l=[])\/∃b es clock,v= .map (some b)/\F b/\w.heap[b]? =some (.map es clock)/\MapKept.Stamped es clock/\es.size=l.length/\
     ∀i(h:i<l.length),∃(e:MapEntry)(cs:List Value),es[i]? =some e/\gH K l[i].1=some e.key/\bN F w V cs l[i].2/\e.val=(bif agg then .agg cs.toArray else cs.headD undef)/\(agg=aaM->cs=[e.val]))
 | .pair a b,cs,d=>∃c1 c2,cs=c1++c2/\bN F w a c1 d.1/\bN F w b c2 d.2
theorem bN.length{F:Nat->Prop}{w:World}:{r:Row}->{cs:List Value}->{d:r.den}->bN F w r cs d->cs.length=r.size
 | .int _,_,_,h=>by rw[show _=_ from h];rfl
 | .bool,_,_,h=>by rw[show _=_ from h];rfl
 | .str,_,_,h=>by rw[show _=_ from h];rfl
 | .slice _,_,_,h=>by obtain⟨A,cap,h,_⟩:=h;rw[h];rfl
 | .iU,_,_,h=>by rw[h.1];rfl
 | .nul _,_,_,h=>by rw[show _=_ from h];rfl
 | .map ..,_,_,h=>by obtain⟨v,rfl,_⟩:=h;rfl
 | .pair a b,_,_,h=>by
   obtain⟨c1,c2,rfl,h1,h2⟩:=h;simp[h1.length,h2.length]
theorem bN.gh{F:Nat->Prop}{w:World}:{r:Row}->{cs:List Value}->{d:r.den}->bN F w r cs d->∀u∈cs,u.oneCell'=aaL
 | .int _,_,_,h=>by rw[show _=_ from h];simp[aaf]
 | .bool,_,_,h=>by rw[show _=_ from h];simp[aaf]
 | .str,_,_,h=>by rw[show _=_ from h];simp[aaf]
 | .slice _,_,_,h=>by obtain⟨A,cap,rfl,_⟩:=h;simp[aaf]
 | .iU,_,_,h=>by obtain⟨rfl,A,m,c,rfl⟩:=h;simp[aaf]
 | .nul k,_,_,h=>by rw[show _=_ from h];simp[k.one]
 | .map ..,_,_,h=>by
   obtain⟨v,rfl,h⟩:=h
   rcases h with⟨rfl,_⟩|⟨b,es,clock,rfl,_⟩<;>simp[aaf]
 | .pair a b,_,_,h=>by
   obtain⟨c1,c2,rfl,h1,h2⟩:=h;intro u hu
   rcases Y7.1 hu with h'|h'
   .exact h1.gh u h'
   .exact h2.gh u h'
def Step(F:Nat->Prop)(w:World)(F':Nat->Prop)(w':World):Prop:=∀b,F b->F' b/\w'.heap[b]? =w.heap[b]?
theorem bN.step{F F':Nat->Prop}{w w':World}(ho:Step F w F' w'):{r:Row}->{cs:List Value}->{d:r.den}->bN F w r cs d->bN F' w' r cs d
 | .int _,_,_,h=>h
 | .bool,_,_,h=>h
 | .str,_,_,h=>h
 | .slice e,_,l,h=>by
   obtain⟨A,cap,hc,h1,h2,h3⟩:=h;refine⟨A,cap,hc,h1,h2,λi hi=>?_⟩;obtain⟨b,off,es,hA,hb,qI,ot,hr⟩:=h3 i hi;exact⟨b,off,es,hA,(ho b hb).1,qI,λj u hu=>(World.cell?_of_block (ho b hb).2).trans (ot j u hu),hr.step ho⟩
 | .iU,_,_,h=>h
 | .nul _,_,_,h=>h
 | .map K agg V,_,l,h=>by
   obtain⟨v,hv,h⟩:=h;refine⟨v,hv,h.imp id λ⟨b,es,clock,h1,h2,h3,h4,h5,h6⟩=>⟨b,es,clock,h1,(ho b h2).1,(ho b h2).2.trans h3,h4,h5,λi hi=>?_⟩⟩;obtain⟨e,cs,g1,g2,g3,g4⟩:=h6 i hi;exact⟨e,cs,g1,g2,g3.step ho,g4⟩
 | .pair a b,_,_,h=>by
   obtain⟨c1,c2,hc,h1,h2⟩:=h;exact⟨c1,c2,hc,h1.step ho,h2.step ho⟩
def At(F:Nat->Prop)(w:World)(r:Row)(b off:Nat)(x:r.den):Prop:=
 ∃es,es.length=r.size/\(∀j u,es[j]? =some u->w.cell? ⟨b,off+j,aaK⟩=some u)/\bN F w r es x
theorem At.fst{F:Nat->Prop}{w:World}{r s:Row}{b off:Nat}{x:(Row.pair r s).den}(h:At F w (.pair r s) b off x):At F w r b off x.1:=by
 obtain⟨es,hl,hc,c1,c2,rfl,h1,h2⟩:=h
 exact⟨c1,h1.length,λj u hu=>hc j u (by
  rw[List.getElem?_append_left]
  .exact hu
  .exact(Zd.1 hu).1),h1⟩
theorem At.snd{F:Nat->Prop}{w:World}{r s:Row}{b off:Nat}{x:(Row.pair r s).den}(h:At F w (.pair r s) b off x)(k:Nat)(hk:k=r.size):At F w s b (off+k) x.2:=by
 obtain⟨es,hl,hc,c1,c2,rfl,h1,h2⟩:=h;subst hk
 exact⟨c2,h2.length,λj u hu=>by
  have:=hc (r.size+j) u (by
   rw[List.getElem?_append_right (by rw[h1.length];omega),h1.length];rw[show r.size+j-r.size=j from by omega]
   exact hu)
  rw[Nat.add_assoc]
  exact this,h2⟩
theorem bN.nil(F:Nat->Prop)(w:World)(e:Row):bN F w (.slice e) [.slice aaK 0 0] []:=⟨aaK,0,rfl,YY _,by simp[maxLen],λi hi=>absurd hi (by simp)⟩
theorem bN.zq{F:Nat->Prop}{w:World}{e:Row}{v:Value}{l:List e.den}(h:bN F w (.slice e) [v] l):
 ∃A cap,v= .slice A l.length cap/\l.length<=cap/\cap<=9223372036854775807:=by
 obtain⟨A,cap,h1,h2,h3,_⟩:=h;exact⟨A,cap,by simpa using h1,h2,h3⟩
structure St(w0:World)(F0:Nat->Prop)(w:World)(F:Nat->Prop):Prop where
 below:Below w0.heap.size w0 w
 le:∀b,F0 b->F b
 new:∀b,F b->F0 b\/w0.heap.size<=b
 lt:∀b,F b->b<w.heap.size
theorem St.refl{w:World}{F:Nat->Prop}(h:∀b,F b->b<w.heap.size):St w F w F:=⟨Below.refl _ _,λ_ h=>h,λ_ h=> .inl h,h⟩
theorem St.trans{w0 w1 w2:World}{F0 F1 F2:Nat->Prop}(h:St w0 F0 w1 F1)(k:St w1 F1 w2 F2):St w0 F0 w2 F2:=
 ⟨h.below.trans (k.below.mono h.below.size),λb hb=>k.le b (h.le b hb),λb hb=>by
   rcases k.new b hb with h1|h1
   .exact h.new b h1
   .exact .inr (Zj h.below.size h1),k.lt⟩
theorem St.step{w0 w:World}{F0 F:Nat->Prop}(h:St w0 F0 w F)(h0:∀b,F0 b->b<w0.heap.size):Step F0 w0 F w:=λb hb=>⟨h.le b hb,h.below.block b (h0 b hb)⟩
theorem St.drew{w0 w:World}{F0 F:Nat->Prop}(h:St w0 F0 w F):St w0 F0 w.drew F:=⟨h.below.drew,h.le,h.new,h.lt⟩
theorem St.alloc{w0 w:World}{F0 F:Nat->Prop}(h:St w0 F0 w F)(o:Obj):St w0 F0 (w.alloc o) F:=
 ⟨h.below.alloc h.below.size o,h.le,h.new,λb hb=>by have:=h.lt b hb;simp;omega⟩
theorem St.freeze{w0 w:World}{F0 F:Nat->Prop}(h:St w0 F0 w F)(G:Nat->Prop)(h1:∀b,G b->w0.heap.size<=b/\b<w.heap.size):St w0 F0 w (λb=>F b\/G b):=
 ⟨h.below,λb hb=> .inl (h.le b hb),λb hb=>by
   rcases hb with hb|hb
   .exact h.new b hb
   .exact .inr (h1 b hb).1,λb hb=>by
   rcases hb with hb|hb
   .exact h.lt b hb
   .exact(h1 b hb).2⟩
theorem St.back{w0 w1 w2:World}{F0 F1 F2 F3:Nat->Prop}(h:St w0 F0 w1 F1)(k:St w1 F2 w2 F3):St w0 F0 w2 F1:=
 ⟨h.below.trans (k.below.mono h.below.size),h.le,h.new,λb hb=>Zv (h.lt b hb) k.below.size⟩
theorem Step.refl(F:Nat->Prop)(w:World):Step F w F w:=λ_ h=>⟨h,rfl⟩
theorem Step.trans{F F1 F2:Nat->Prop}{w w1 w2:World}(h:Step F w F1 w1)(k:Step F1 w1 F2 w2):Step F w F2 w2:=λb hb=>⟨(k b (h b hb).1).1,(k b (h b hb).1).2.trans (h b hb).2⟩
theorem Step.drew(F:Nat->Prop)(w:World):Step F w F w.drew:=λ_ h=>⟨h,rfl⟩
theorem Step.alloc{F:Nat->Prop}{w:World}(h:∀b,F b->b<w.heap.size)(o:Obj):Step F w F (w.alloc o):=λb hb=>⟨hb,Below.heap_alloc w o b (h b hb)⟩
theorem Step.freeze(F:Nat->Prop)(w:World)(G:Nat->Prop):Step F w (λb=>F b\/G b) w:=λ_ h=>⟨.inl h,rfl⟩
structure Fr(n:Nat)(a:Act)(ρ:Nat->Value):Prop where
 size:a.tmps.size=n
 defers:a.defers=[]
 get:∀t,a.tmps.getD t undef=ρ t
def za(ρ:Nat->Value)(d:Nat)(v:Value):Nat->Value:=λt=>bif YZ t d then v else ρ t
def ev(ρ:Nat->Value):Operand->Value
 | .tmp t=>ρ t
 | .const v=>v
 | .global g=> .pointer (some ⟨g,0,aaK⟩)
 | .func f=> .func (.func f) #[] #[]
theorem Fr.eval{n:Nat}{a:Act}{ρ:Nat->Value}(h:Fr n a ρ):a.eval=ev ρ:=by
 funext x
 cases x with
 |tmp t=>exact h.get t
 |const v=>rfl
 |global g=>rfl
 |func f=>rfl
theorem Fr.put{n:Nat}{a:Act}{ρ:Nat->Value}(h:Fr n a ρ){d:Nat}(hd:ZK d n=aaL)(v:Value):Fr n (a.put (some d) v) (za ρ d v):=by
 have ai:d<n:=by simpa[Nat.blt_eq]using hd
 refine⟨by simpa[Act.put]using h.size,by simpa[Act.put]using h.defers,λt=>?_⟩;have hs:=h.size;have hg:=h.get t;simp only[Act.put,ZB,Array.getElem?_setIfInBounds]at hg⊢;unfold za;by_cases ht:t=d
 .subst ht;simp[hs,ai]
 .have cq:¬d=t:=λe=>ht e.symm
  have hb:YZ t d=aaM:=by
   cases u0:YZ t d with
   |false=>rfl
   |true=>exact absurd (ZM u0) ht
  simp[cq,hb,hg]
def wpS(P:Program)(n:Nat)(ops:Array Oper)(K:(Nat->Value)->World->Prop)(l:List Oper)(ρ:Nat->Value)(w:World):Prop:=
 ∀(Q:Exit->Act->World->Prop)(a:Act),Fr n a ρ->(∀a' bZ w',Fr n a' bZ->K bZ w'->Q .normal a' w')->wpList P ops Q l a w
section
variable {P:Program} {n:Nat} {ops:Array Oper} {K:(Nat->Value)->World->Prop} {rest:List Oper} {ρ:Nat->Value} {w:World}
theorem Iq(h:K ρ w):wpS P n ops K [] ρ w:=λ_ _ hf hk=>hk _ _ _ hf h
def Pure(P:Program)(ρ:Nat->Value)(o:Oper)(v:Value):Prop:=∀w,(execOp (ev ρ) o).run P w= .ok (.value v) w
theorem kW{a:Act}(hf:Fr n a ρ){j d:Nat}{b:Bool}(hj:(ops[j]?).bind (·.dst)=some d)(hd:ZK d n=aaL)(hb:ρ d= .bool b):yielded ops a.tmps j=some b:=by
 have ai:d<n:=by simpa[Nat.blt_eq]using hd
 have hg:=hf.get d;have hs:=hf.size;rw[hb]at hg
 have:a.tmps[d]? =some (.bool b):=by
  rw[ZB]at hg;rw[Zi (by omega)]at hg⊢;simpa using hg
 unfold yielded;rw[hj];simp[this]
theorem KA{dst:Option Nat}{op:Op}{ty:TypeId}{pos:String}{aft:Array Edge}{j:Nat}{b:Bool}(d:Nat)(hj:(ops[j]?).bind (·.dst)=some d)(hd:ZK d n=aaL)(hb:ρ d= .bool b)
 (h:wpS P n ops K (⟨dst,op,ty,pos,aft,aaK⟩::rest) ρ w):wpS P n ops K (⟨dst,op,ty,pos,aft,some (j,b)⟩::rest) ρ w:=
 λQ a hf hk=>by
  have:=h Q a hf hk;unfold wpList at this⊢;rw[aaP (by simp[aal])]at this;rw[aaP (by simp[aal,kW hf hj hd hb])];exact this
theorem Ir{d':Nat}{op:Op}{ty:TypeId}{pos:String}{aft:Array Edge}{j:Nat}{b b':Bool}(d:Nat)(hj:(ops[j]?).bind (·.dst)=some d)(hd:ZK d n=aaL)(hb:ρ d= .bool b')(cq:b'≠b)(tK:ZK d' n=aaL)
 (h:wpS P n ops K rest (za ρ d' undef) w):wpS P n ops K (⟨some d',op,ty,pos,aft,some (j,b)⟩::rest) ρ w:=
 λQ a hf hk=>by
  have:=h Q _ (hf.put tK undef) hk;unfold wpList;rw[aaO (by simp[aal,kW hf hj hd hb,cq])];exact this
theorem u7{op:Op}{ty:TypeId}{pos:String}{aft:Array Edge}{j:Nat}{b b':Bool}(d:Nat)(hj:(ops[j]?).bind (·.dst)=some d)(hd:ZK d n=aaL)(hb:ρ d= .bool b')(cq:b'≠b)
 (h:wpS P n ops K rest ρ w):wpS P n ops K (⟨aaK,op,ty,pos,aft,some (j,b)⟩::rest) ρ w:=
 λQ a hf hk=>by
  have:=h Q _ hf hk;unfold wpList;rw[aaO (by simp[aal,kW hf hj hd hb,cq])];exact this
theorem kg{a:Act}(hf:Fr n a ρ){j d:Nat}(hj:(ops[j]?).bind (·.dst)=some d)(hd:ZK d n=aaL)(hb:ρ d=undef):yielded ops a.tmps j=aaK:=by
 have ai:d<n:=by simpa[Nat.blt_eq]using hd
 have hg:=hf.get d;have hs:=hf.size;rw[hb]at hg
 have:a.tmps[d]? =some undef:=by
  rw[ZB]at hg;rw[Zi (by omega)]at hg⊢;simpa using hg
 unfold yielded;rw[hj];simp[this,undef]
theorem EX{d':Nat}{op:Op}{ty:TypeId}{pos:String}{aft:Array Edge}{j:Nat}{b:Bool}(d:Nat)(hj:(ops[j]?).bind (·.dst)=some d)(hd:ZK d n=aaL)(hb:ρ d=undef)(tK:ZK d' n=aaL)
 (h:wpS P n ops K rest (za ρ d' undef) w):wpS P n ops K (⟨some d',op,ty,pos,aft,some (j,b)⟩::rest) ρ w:=
 λQ a hf hk=>by
  have:=h Q _ (hf.put tK undef) hk;unfold wpList;rw[aaO (by simp[aal,kg hf hj hd hb])];exact this
theorem sY{op:Op}{ty:TypeId}{pos:String}{aft:Array Edge}{j:Nat}{b:Bool}(d:Nat)(hj:(ops[j]?).bind (·.dst)=some d)(hd:ZK d n=aaL)(hb:ρ d=undef)
 (h:wpS P n ops K rest ρ w):wpS P n ops K (⟨aaK,op,ty,pos,aft,some (j,b)⟩::rest) ρ w:=
 λQ a hf hk=>by
  have:=h Q _ hf hk;unfold wpList;rw[aaO (by simp[aal,kg hf hj hd hb])];exact this
end
def qW(P:Program)(n:Nat)(c:Code)(Q:Exit->(Nat->Value)->World->Prop)(ρ:Nat->Value)(w:World):Prop:=
 ∀a,Fr n a ρ->c.wp P (λe a' w'=>∃bZ,Fr n a' bZ/\Q e bZ w') a w
def UO(K:(Nat->Value)->World->Prop)(Q:Exit->(Nat->Value)->World->Prop):Exit->(Nat->Value)->World->Prop
 | .normal,ρ,w=>K ρ w
 |e,ρ,w=>Q e ρ w
def Mm(id:Nat)(Q:Exit->(Nat->Value)->World->Prop):Exit->(Nat->Value)->World->Prop
 | .exit Cz,ρ,w=>bif YZ Cz id then Q .normal ρ w else Q (.exit Cz) ρ w
 |e,ρ,w=>Q e ρ w
section
variable {P:Program} {n:Nat} {Q:Exit->(Nat->Value)->World->Prop} {ρ:Nat->Value} {w:World}
theorem zr{id:Nat}{l:List Oper}(h:wpS P n l.toArray (λρ w=>Q .normal ρ w) l ρ w):qW P n (.region id l.toArray aaM) Q ρ w:=
 λa hf=>wp_region_lit (h _ a hf λ_ _ _ ni hk=>⟨_,ni,hk⟩)
theorem u9{a b:Code}(h:qW P n a (UO (λρ w=>qW P n b Q ρ w) Q) ρ w):qW P n (.seq a b) Q ρ w:=
 λact hf=>wp_seq (wp_mono (h act hf) λe a' w' ⟨bZ,ni,hh⟩=>by
  cases e with
  |normal=>exact hh a' ni
  |_=>exact⟨bZ,ni,hh⟩)
theorem EY(h:Q .normal ρ w):qW P n .skip Q ρ w:=λ_ hf=>wp_skip ⟨_,hf,h⟩
theorem EZ{id:Nat}(h:Q (.exit id) ρ w):qW P n (.exit id) Q ρ w:=λ_ hf=>wp_exit ⟨_,hf,h⟩
theorem Is(h:Q .ret ρ w):qW P n .ret Q ρ w:=λ_ hf=>wp_ret ⟨_,hf,h⟩
theorem o9{id:Nat}{c:Code}(h:qW P n c (Mm id Q) ρ w):qW P n (.block id c) Q ρ w:=
 λa hf=>wp_block (wp_mono (h a hf) λe a' w' ⟨bZ,ni,hh⟩=>by
  cases e with
  |exit Cz=>
   unfold Exit.inBlock;by_cases he:Cz=id
   .subst he;simp only[Mm,show YZ Cz Cz=aaL from Nat.beq_refl _,cond_true]at hh;simpa using⟨bZ,ni,hh⟩
   .have hb:YZ Cz id=aaM:=by
     cases u0:YZ Cz id with
     |false=>rfl
     |true=>exact absurd (ZM u0) he
    simp only[Mm,hb,cond_false]at hh;simpa[he]using⟨bZ,ni,hh⟩
  |_=>exact⟨bZ,ni,hh⟩)
theorem wM{c:Operand}{x y:Code}(b:Bool)(hc:ev ρ c= .bool b)(h:qW P n (bif b then x else y) Q ρ w):qW P n (.cond c x y) Q ρ w:=
 λa hf=>wp_cond (t:=b) (by rw[hf.eval];exact hc) (by
  have:=h a hf
  cases b<;>exact this)
theorem E0{c:Operand}{x y:Code}(hc:ev ρ c= .bool aaL)(h:qW P n x Q ρ w):qW P n (.cond c x y) Q ρ w:=wM aaL hc h
theorem CA{c:Operand}{x y:Code}(hc:ev ρ c= .bool aaM)(h:qW P n y Q ρ w):qW P n (.cond c x y) Q ρ w:=wM aaM hc h
def Loop{S X:Type}(body:S->Option (S⊕X)):Nat->S->Option X
 |0,_=>aaK
 |k+1,s=>match body s with
  |none=>aaK
  |some (.inl s')=>Loop body k s'
  |some (.inr x)=>some x
def JP{S X:Type}(I:S->(Nat->Value)->World->Prop)(Q:Exit->(Nat->Value)->World->Prop)(x:X):S⊕X->Exit->(Nat->Value)->World->Prop
 | .inl s',e,ρ,w=>e= .normal/\I s' ρ w
 | .inr x',e,ρ,w=>e≠ .normal/\(x'=x->Q e ρ w)
theorem E1{S X:Type}{body:S->Option (S⊕X)}{c:Code}(I:S->(Nat->Value)->World->Prop){x:X}{N:Nat}{s:S}(hm:Loop body N s=some x)(h0:I s ρ w)
 (hb:∀s ρ w y,I s ρ w->body s=some y->qW P n c (JP I Q x y) ρ w):qW P n (.loop c) Q ρ w:=by
 intro a hf;refine wp_loop_rounds N ?_
 induction N generalizing s ρ w a with
 |zero=>cases hm
 |succ k ih=>
  rw[rounds_succ];unfold Loop at hm
  cases hy:body s with
  |none=>simp[hy]at hm
  |some y=>
   refine wp_mono (hb s ρ w y h0 hy a hf) λe a' w' ⟨bZ,ni,hh⟩=>?_
   cases y with
   |inl s'=>
    obtain⟨rfl,hI⟩:=hh;rw[hy]at hm;exact ih hm hI a' ni
   |inr x'=>
    rw[hy]at hm;obtain⟨cq,hq⟩:=hh;have:=hq (YU hm)
    cases e with
    |normal=>exact absurd rfl cq
    |_=>exact⟨bZ,ni,this⟩
def MK(P:Program)(fn:Func)(n:Nat)(R:Value->World->Prop):Exit->(Nat->Value)->World->Prop
 | .normal,ρ,w| .ret,ρ,w=>∀a,Fr n a ρ->∃v,(results fn a.tmps).run P w= .ok v w/\R v w
 |_,_,_=>False
theorem va{f:FuncId}{fn:Func}{c:Code}{args:List Value}{R:Value->World->Prop}(hf:P.funcs[f]? =some fn)(hb:fn.body=some c)(hn:args.length<=fn.ntmps)
 (h:∀ρ,(∀t v,args[t]? =some v->ρ t=v)->qW P fn.ntmps c (MK P fn fn.ntmps R) ρ w):
 Calls P f args.toArray w λe w'=>∃v,e= .returned v/\R v w':=by
 refine calls_of_wp hf hb ?_
 have iA:(args.toArray++Array.replicate (fn.ntmps-args.toArray.size) undef).size=fn.ntmps:=by simp;omega
 refine wp_mono (h (λt=>(args.toArray++Array.replicate (fn.ntmps-args.toArray.size) undef).getD t undef) ?_ _ ⟨iA,rfl,λt=>rfl⟩) λe a' w' ⟨bZ,ni,hh⟩=>?_
 .intro t v hv;have ai:t<args.length:=(Zd.1 hv).1
  have cV:args[t]=v:=by rw[YX ai]at hv;exact YU hv
  simp[ZB,Array.getElem?_append,ai,cV]
 .cases e with
  |normal=>exact⟨ni.defers,(hh a' ni).imp λv hv=>⟨hv.1,v,rfl,hv.2⟩⟩
  |ret=>exact⟨ni.defers,(hh a' ni).imp λv hv=>⟨hv.1,v,rfl,hv.2⟩⟩
  |_=>exact hh.elim
end
end
end Go.Proofs.YtbladfbbhijpmaaGreat
section
open _root_.Bool renaming false->aaM,true->aaL
open _root_.Option renaming none->aaK
open _root_.List renaming append_assoc->Zp,drop_append_of_le_length->ZR,drop_of_length_le->Z0,getElem?_drop->Zc,getElem?_eq_some_iff->Zd,getElem?_take->Zo,take_length->Zh
open _root_.Nat renaming zero_add->Zy
open _root_.Go.Sem renaming run_bind->Zs
namespace Go.Proofs.YtbladfbbhijpmaaGreat
open Go Go.RowKit
theorem mG{α:Type}[BEq α][LawfulBEq α][DecidableEq α](a b:α):(a==b)=decide (a=b):=by
 by_cases h:a=b
 .subst h;simp
 .simp[h]
theorem run_equal_bool{P:Program}{t:TypeId}(ht:P.underlying t=some .bool)(p q:Bool)(w:World):(Op.equal t (.bool p) (.bool q)).run P w= .ok (p==q) w:=by
 have h:∀d:Nat,(Op.equalIn (d+1) t (.bool p) (.bool q)).run P w= .ok (p==q) w:=λd=>by
  simp[Op.equalIn,run_underlying ht]
 exact h 9999
section
variable {P:Program} {ρ:Nat->Value} {d:Option Nat} {ty:TypeId} {pos:String} {aft:Array Edge} {x y c:Operand} {t u:TypeId} {k:IntKind} {a b:Int}
theorem CB{v:Value}(h:ev ρ x=v):Pure P ρ ⟨d, .move x,ty,pos,aft,aaK⟩ v:=λw=>by simp[execOp,h]
theorem wN{v:Value}(h:ev ρ x=v):Pure P ρ ⟨d, .assign x,ty,pos,aft,aaK⟩ v:=λw=>by simp[execOp,h]
theorem rq{v:Value}(hc:ev ρ c= .bool aaL)(hx:ev ρ x=v):Pure P ρ ⟨d, .pick c x y,ty,pos,aft,aaK⟩ v:=λw=>by
 simp[execOp,asBool,hc,hx]
theorem qJ{v:Value}(hc:ev ρ c= .bool aaM)(hy:ev ρ y=v):Pure P ρ ⟨d, .pick c x y,ty,pos,aft,aaK⟩ v:=λw=>by
 simp[execOp,asBool,hc,hy]
theorem E2(hx:ev ρ x= .int k a)(hy:ev ρ y= .int k b):Pure P ρ ⟨d, .binOp .add t x y u,ty,pos,aft,aaK⟩ (.int k (k.wrap (a+b))):=λw=>by
 simp[execOp,eqGuard,binOp,Op.intArith,hx,hy]
theorem E3(hx:ev ρ x= .int k a)(hy:ev ρ y= .int k b):Pure P ρ ⟨d, .binOp .sub t x y u,ty,pos,aft,aaK⟩ (.int k (k.wrap (a-b))):=λw=>by
 simp[execOp,eqGuard,binOp,Op.intArith,hx,hy]
theorem E4(hx:ev ρ x= .int k a)(hy:ev ρ y= .int k b):Pure P ρ ⟨d, .binOp .mul t x y u,ty,pos,aft,aaK⟩ (.int k (k.wrap (a*b))):=λw=>by
 simp[execOp,eqGuard,binOp,Op.intArith,hx,hy]
theorem E5(hx:ev ρ x= .int k a)(hy:ev ρ y= .int k b)(hb:b≠0):Pure P ρ ⟨d, .binOp .quo t x y u,ty,pos,aft,aaK⟩ (.int k (k.wrap (a.tdiv b))):=λw=>by
 simp[execOp,eqGuard,binOp,Op.intDiv,hx,hy,hb]
theorem E6(hx:ev ρ x= .int k a)(hy:ev ρ y= .int k b)(hb:b≠0):Pure P ρ ⟨d, .binOp .rem t x y u,ty,pos,aft,aaK⟩ (.int k (a.tmod b)):=λw=>by
 simp[execOp,eqGuard,binOp,Op.intDiv,hx,hy,hb]
theorem E7(hx:ev ρ x= .int k a)(hy:ev ρ y= .int k b):Pure P ρ ⟨d, .binOp .lss t x y u,ty,pos,aft,aaK⟩ (.bool (decide (a<b))):=λw=>by
 simp[execOp,eqGuard,binOp,Op.intCmp,hx,hy]
theorem E8(hx:ev ρ x= .int k a)(hy:ev ρ y= .int k b):Pure P ρ ⟨d, .binOp .leq t x y u,ty,pos,aft,aaK⟩ (.bool (decide (a<=b))):=λw=>by
 simp[execOp,eqGuard,binOp,Op.intCmp,hx,hy]
theorem E9(hx:ev ρ x= .int k a)(hy:ev ρ y= .int k b):Pure P ρ ⟨d, .binOp .gtr t x y u,ty,pos,aft,aaK⟩ (.bool (decide (b<a))):=λw=>by
 simp[execOp,eqGuard,binOp,Op.intCmp,hx,hy]
theorem Fa(hx:ev ρ x= .int k a)(hy:ev ρ y= .int k b):Pure P ρ ⟨d, .binOp .geq t x y u,ty,pos,aft,aaK⟩ (.bool (decide (b<=a))):=λw=>by
 simp[execOp,eqGuard,binOp,Op.intCmp,hx,hy]
theorem Fb(hx:ev ρ x= .int k a)(hy:ev ρ y= .int k b):Pure P ρ ⟨d, .binOp .eql t x y u,ty,pos,aft,aaK⟩ (.bool (decide (a=b))):=λw=>by
 simp[execOp,eqGuard,binOp,Op.intCmp,hx,hy,mG]
theorem Fc(hx:ev ρ x= .int k a)(hy:ev ρ y= .int k b):Pure P ρ ⟨d, .binOp .neq t x y u,ty,pos,aft,aaK⟩ (.bool (!decide (a=b))):=λw=>by
 simp[execOp,eqGuard,binOp,Op.intCmp,hx,hy,bne,mG]
theorem CC{p q:Bool}(ht:P.underlying t=some .bool)(hx:ev ρ x= .bool p)(hy:ev ρ y= .bool q):Pure P ρ ⟨d, .binOp .eql t x y u,ty,pos,aft,aaK⟩ (.bool (decide (p=q))):=λw=>by
 have h:=run_equal_bool ht p q w;rw[mG]at h;simp only[execOp,eqGuard,hx,hy];simp[binOp,h]
theorem CD{p q:Bool}(ht:P.underlying t=some .bool)(hx:ev ρ x= .bool p)(hy:ev ρ y= .bool q):Pure P ρ ⟨d, .binOp .neq t x y u,ty,pos,aft,aaK⟩ (.bool (!decide (p=q))):=λw=>by
 have h:=run_equal_bool ht p q w;rw[mG]at h;simp only[execOp,eqGuard,hx,hy];simp[binOp,h]
theorem bytes_beq(p q:ByteArray):(p.toList==q.toList)=decide (p=q):=by
 rw[mG]
 congr 1
 rw[ByteArray.toList_eq,ByteArray.toList_eq];refine propext ⟨λh=>?_,λh=>by rw[h]⟩;cases p;cases q;simpa using h
theorem CE{p q:ByteArray}(hx:ev ρ x= .string p)(hy:ev ρ y= .string q):Pure P ρ ⟨d, .binOp .eql t x y u,ty,pos,aft,aaK⟩ (.bool (decide (p=q))):=λw=>by
 simp[execOp,eqGuard,binOp,Op.stringOp,hx,hy,bytes_beq]
theorem CF{p q:ByteArray}(hx:ev ρ x= .string p)(hy:ev ρ y= .string q):Pure P ρ ⟨d, .binOp .neq t x y u,ty,pos,aft,aaK⟩ (.bool (!decide (p=q))):=λw=>by
 simp[execOp,eqGuard,binOp,Op.stringOp,hx,hy,bytes_beq]
theorem Fe{p:Bool}(hx:ev ρ x= .bool p):Pure P ρ ⟨d, .unOp .not t x,ty,pos,aft,aaK⟩ (.bool !p):=λw=>by
 simp[execOp,Op.unary,hx]
theorem Ff(hx:ev ρ x= .int k a):Pure P ρ ⟨d, .unOp .neg t x,ty,pos,aft,aaK⟩ (.int k (k.wrap (0-a))):=λw=>by
 simp[execOp,Op.unary,Op.intArith,hx]
theorem CG{k':IntKind}{e:TypeDesc}(hs:P.underlying t=some e)(hu:P.underlying u=some (.int k'))(hx:ev ρ x= .int k a):Pure P ρ ⟨d, .convert t u x,ty,pos,aft,aaK⟩ (.int k' (k'.wrap a)):=λw=>by
 simp[execOp,convert,run_underlying hs,run_underlying hu,hx,Conv.intToInt]
theorem Fg{e:TypeId}{A:Option Addr}{n cap:Nat}{m:Nat}(hm:m=n)(ht:P.underlying t=some (.slice e))(hx:ev ρ x= .slice A n cap):
 Pure P ρ ⟨d, .call {callee:= .builtin .len,args:= #[x],argTypes:= #[t]},ty,pos,aft,aaK⟩ (.int .i64 (m:Int)):=λw=>by
 subst hm;simp[execOp,resolve,invoke,builtin,Builtin.len_,run_underlying ht,hx,goInt]
theorem CH{s:ByteArray}(ht:P.underlying t=some .string)(hx:ev ρ x= .string s):
 Pure P ρ ⟨d, .call {callee:= .builtin .len,args:= #[x],argTypes:= #[t]},ty,pos,aft,aaK⟩ (.int .i64 (s.size:Int)):=λw=>by
 simp[execOp,resolve,invoke,builtin,Builtin.len_,run_underlying ht,hx,goInt]
theorem CI{t':TypeId}(hx:ev ρ x= .int k a)(hy:ev ρ y= .int k b):
 Pure P ρ ⟨d, .call {callee:= .builtin .max,args:= #[x,y],argTypes:= #[t,t']},ty,pos,aft,aaK⟩ (.int k (if a<b then b else a)):=λw=>by
 simp[execOp,resolve,invoke,builtin,Builtin.max_,Builtin.max2,hx,hy]
theorem CJ{t':TypeId}(hx:ev ρ x= .int k a)(hy:ev ρ y= .int k b):
 Pure P ρ ⟨d, .call {callee:= .builtin .min,args:= #[x,y],argTypes:= #[t,t']},ty,pos,aft,aaK⟩ (.int k (if b<a then b else a)):=λw=>by
 simp[execOp,resolve,invoke,builtin,Builtin.min_,Builtin.min2,hx,hy]
theorem vb{vs:Array Value}{i:Nat}{v:Value}(hx:ev ρ x= .tuple vs)(hi:vs[i]? =some v):Pure P ρ ⟨d, .extract x i,ty,pos,aft,aaK⟩ v:=λw=>by
 simp[execOp,Instr.extract,hx,hi]
theorem bT(b o k:Nat):(⟨b,o,aaK⟩:Addr).add k=⟨b,o+k,aaK⟩:=by unfold Addr.add;split<;>simp_all
theorem rr{f:Nat}{fs:Array Field}{fd:Field}{ti:TypeInfo}{kr off:Nat}(k:Nat)(hs:P.underlying t=some (.struct fs))(hf:fs[f]? =some fd)(hi:P.info? fd.type=some ti)(iA:ti.size≠0)(hk:fd.offset=k)
 (hx:ev ρ x= .pointer (some ⟨kr,off,aaK⟩)):Pure P ρ ⟨d, .fieldAddr t x f,ty,pos,aft,aaK⟩ (.pointer (some ⟨kr,off+k,aaK⟩)):=λw=>by
 subst hk;simp[execOp,Instr.fieldAt,run_underlying hs,hf,Instr.sureAddr,fieldPlace,sizeOf,typeInfo,hi,iA,hx,bT]
theorem jq{e:TypeId}{ti:TypeInfo}{kr off n cap i:Nat}(size:Nat)(ht:P.underlying t=some (.slice e))(hi:P.info? e=some ti)(iA:ti.size=size)
 (hx:ev ρ x= .slice (some ⟨kr,off,aaK⟩) n cap)(hy:ev ρ y= .int k a)(ha:a=(i:Int))(ai:i<n):
 Pure P ρ ⟨d, .indexAddr t x y,ty,pos,aft,aaK⟩ (.pointer (some ⟨kr,off+i*size,aaK⟩)):=λw=>by
 subst iA;subst ha;simp[execOp,Instr.indexAt,asIntOf,run_underlying ht,sizeOf,typeInfo,hi,hx,hy,ai,bT]
end
end Go.Proofs.YtbladfbbhijpmaaGreat
namespace Go.Proofs.YtbladfbbhijpmaaGreat
open Go Go.RowKit
inductive Path:Row->Row->Type where
 |here {r:Row}:Path r r
 |fst {a b s:Row} (p:Path a s):Path (.pair a b) s
 |snd {a b s:Row} (p:Path b s):Path (.pair a b) s
def Path.off:{r s:Row}->Path r s->Nat
 |_,_, .here=>0
 |_,_, .fst p=>p.off
 |_,_, .snd (a:=a) p=>a.size+p.off
@[reducible] def Path.get:{r s:Row}->Path r s->r.den->s.den
  |_,_, .here,x=>x
  |_,_, .fst p,x=>p.get x.1
  |_,_, .snd p,x=>p.get x.2
@[reducible] def Path.set:{r s:Row}->Path r s->r.den->s.den->r.den
  |_,_, .here,_,y=>y
  |_,_, .fst p,x,y=>(p.set x.1 y,x.2)
  |_,_, .snd p,x,y=>(x.1,p.set x.2 y)
section
variable {F:Nat->Prop} {w:World}
theorem Path.le:{r s:Row}->(p:Path r s)->p.off+s.size<=r.size
 |_,_, .here=>by simp[Path.off]
 |_,_, .fst p=>by have:=p.le;simp[Path.off];omega
 |_,_, .snd p=>by have:=p.le;simp[Path.off];omega
theorem bN.path:{r s:Row}->(p:Path r s)->{es:List Value}->{x:r.den}->bN F w r es x->bN F w s ((es.drop p.off).take s.size) (p.get x)
 |_,_, .here,es,x,h=>by
  have:=h.length;simp only[Path.off,List.drop_zero,Path.get];rw[<-this,Zh];exact h
 |_,s, .fst (a:=a) p,_,x,h=>by
  obtain⟨c1,c2,rfl,h1,h2⟩:=h;have hr:=bN.path p h1;have hle:=p.le;have hl:=h1.length;simp only[Path.off,Path.get];rw[ZR (by omega),List.take_append_of_le_length (by rw[List.length_drop];omega)];exact hr
 |_,s, .snd (a:=a) p,_,x,h=>by
  obtain⟨c1,c2,rfl,h1,h2⟩:=h;have hr:=bN.path p h2;have hl:=h1.length;simp only[Path.off,Path.get];rw[<-hl,List.drop_append,Z0 (by omega),List.nil_append,show c1.length+p.off-c1.length=p.off from by omega];exact hr
theorem bN.put:{r s:Row}->(p:Path r s)->{es vs:List Value}->{x:r.den}->{y:s.den}->bN F w r es x->bN F w s vs y->
 bN F w r (es.take p.off++vs++es.drop (p.off+s.size)) (p.set x y)
 |_,_, .here,es,vs,x,y,h,hv=>by
  have:=h.length;simp only[Path.off,Path.set,List.take_zero,List.nil_append,Zy];rw[<-this,List.drop_length,List.append_nil];exact hv
 |_,s, .fst (a:=a) p,_,vs,x,y,h,hv=>by
  obtain⟨c1,c2,rfl,h1,h2⟩:=h;have hr:=bN.put p h1 hv;have hle:=p.le;have hl:=h1.length;refine⟨_,c2,?_,hr,h2⟩;simp only[Path.off];rw[List.take_append_of_le_length (by omega),ZR (by omega)];simp[Zp]
 |_,s, .snd (a:=a) p,_,vs,x,y,h,hv=>by
  obtain⟨c1,c2,rfl,h1,h2⟩:=h;have hr:=bN.put p h2 hv;have hl:=h1.length;refine⟨c1,_,?_,h1,hr⟩;simp only[Path.off]
  rw[<-hl,List.take_append,List.take_of_length_le (by omega),List.drop_append,Z0 (by omega),show c1.length+p.off-c1.length=p.off from by omega,
   show c1.length+p.off+s.size-c1.length=p.off+s.size from by omega]
  simp[Zp]
theorem At.path{r s:Row}{b off:Nat}{x:r.den}(h:At F w r b off x)(p:Path r s)(k:Nat)(hk:p.off=k):At F w s b (off+k) (p.get x):=by
 subst hk;obtain⟨es,hl,hc,hr⟩:=h;have hp:=hr.path p;refine⟨_,hp.length,λj u hu=>?_,hp⟩;rw[Zo]at hu;split at hu
 .rw[Zc]at hu;rw[Nat.add_assoc];exact hc _ u hu
 .cases hu
theorem At.int{k:IntKind}{b off:Nat}{x:Int}(h:At F w (.int k) b off x):w.cell? ⟨b,off,aaK⟩=some (.int k x):=by
 obtain⟨es,hl,hc,rfl⟩:=h;exact hc 0 _ rfl
theorem At.bool{b off:Nat}{x:Bool}(h:At F w .bool b off x):w.cell? ⟨b,off,aaK⟩=some (.bool x):=by
 obtain⟨es,hl,hc,rfl⟩:=h;exact hc 0 _ rfl
theorem At.str{b off:Nat}{x:ByteArray}(h:At F w .str b off x):w.cell? ⟨b,off,aaK⟩=some (.string x):=by
 obtain⟨es,hl,hc,rfl⟩:=h;exact hc 0 _ rfl
theorem At.slice{e:Row}{b off:Nat}{x:List e.den}(h:At F w (.slice e) b off x):∃v,w.cell? ⟨b,off,aaK⟩=some v/\bN F w (.slice e) [v] x:=by
 obtain⟨es,hl,hc,hr⟩:=h;obtain⟨A,cap,rfl,h⟩:=hr;exact⟨_,hc 0 _ rfl,A,cap,rfl,h⟩
theorem At.O7{r:Row}{b off:Nat}{x:r.den}(h:At F w r b off x):∃es,(∀j u,es[j]? =some u->w.cell? ⟨b,off+j,aaK⟩=some u)/\bN F w r es x:=by
 obtain⟨es,hl,hc,hr⟩:=h;exact⟨es,hc,hr⟩
def Reads(F:Nat->Prop)(w:World)(r:Row)(v:Value)(l:List r.den):Prop:=
 ∃A cap,v= .slice A l.length cap/\l.length<=cap/\cap<=maxLen/\∀i(h:i<l.length),∃b off,A=some ⟨b,off,aaK⟩/\At F w r b (off+i*r.size) l[i]
theorem bN.reads{r:Row}{v:Value}{l:List r.den}(h:bN F w (.slice r) [v] l):Reads F w r v l:=by
 obtain⟨A,cap,h1,h2,h3,h4⟩:=h;refine⟨A,cap,by simpa using h1,h2,h3,λi hi=>?_⟩;obtain⟨b,off,es,hA,_,qI,hc,hr⟩:=h4 i hi;exact⟨b,off,hA,es,qI,hc,hr⟩
def idx{α:Type}(l:List α)(i:Int):Option α:=if 0<=i then l[i.toNat]? else aaK
theorem ef{α:Type}{l:List α}{i:Int}{y:α}(h:idx l i=some y):∃k:Nat,i=k/\∃hk:k<l.length,l[k]=y:=by
 unfold idx at h;split at h
 .rename_i h0;obtain⟨hk,e⟩:=Zd.1 h;exact⟨i.toNat,by omega,hk,e⟩
 .cases h
theorem Reads.elem{r:Row}{v:Value}{l:List r.den}(h:Reads F w r v l){i:Int}{y:r.den}(hi:idx l i=some y):
 ∃b off cap k,v= .slice (some ⟨b,off,aaK⟩) l.length cap/\i=(k:Nat)/\k<l.length/\At F w r b (off+k*r.size) y:=by
 obtain⟨A,cap,hv,_,_,h4⟩:=h;obtain⟨k,hk,ai,rfl⟩:=ef hi;obtain⟨b,off,rfl,pb⟩:=h4 k ai;exact⟨b,off,cap,k,hv,hk,ai,pb⟩
end
section
variable {P:Program} {n:Nat} {ops:Array Oper} {K:(Nat->Value)->World->Prop} {rest:List Oper} {ρ:Nat->Value} {w:World} {F:Nat->Prop}
variable {d:Nat} {ty:TypeId} {pos:String} {aft:Array Edge} {x y:Operand} {t:TypeId}
def gr:TypeDesc->Bool
 | .struct _| .array _ _=>aaL
 |_=>aaM
theorem dG{D:TypeDesc}(hu:P.underlying t=some D)(w:World):(isAgg t).run P w= .ok (gr D) w:=by
 unfold isAgg;rw[Zs,run_underlying hu w]
 cases D<;>simp[gr]
theorem tL{dd:Option Nat}{D:TypeDesc}{b off:Nat}{v:Value}(hu:P.underlying t=some D)(hD:gr D=aaM)(hx:ev ρ x= .pointer (some ⟨b,off,aaK⟩))(hc:w.cell? ⟨b,off,aaK⟩=some v):
 (execOp (ev ρ) ⟨dd, .load t x,ty,pos,aft,aaK⟩).run P w= .ok (.value v) w:=by
 simp[execOp,hx,Instr.loadAt,Instr.sureAddr,loadVar,Zs,dG hu,hD,hc,go_sem]
theorem CK{dd:Option Nat}{D:TypeDesc}{ti:TypeInfo}{b off:Nat}{es:List Value}(hu:P.underlying t=some D)(hD:gr D=aaL)(hi:P.info? t=some ti)(hs:ti.size=es.length)
 (hx:ev ρ x= .pointer (some ⟨b,off,aaK⟩))(hc:∀j u,es[j]? =some u->w.cell? ⟨b,off+j,aaK⟩=some u):
 (execOp (ev ρ) ⟨dd, .load t x,ty,pos,aft,aaK⟩).run P w= .ok (.value (.agg es.toArray)) w:=by
 have hl:(loadCells ⟨b,off,aaK⟩ es.length).run P w= .ok es.toArray w:=
  run_loadCells_list (P:=P) w ⟨b,off,aaK⟩ es (λj v hv=>by rw[bT];exact hc j v hv)
 simp[execOp,hx,Instr.loadAt,Instr.sureAddr,loadVar,Zs,dG hu,hD,sizeOf,typeInfo,hi,hs,hl]
end
end Go.Proofs.YtbladfbbhijpmaaGreat
end
namespace Go.Proofs.YtbladfbbhijpmaaGreat
open Go Go.RowKit
set_option maxRecDepth 100000
set_option linter.unusedSimpArgs false
set_option linter.unusedVariables false
set_option linter.defProp false
section
theorem KB{ε α β:Type}{x:Except ε α}{f:α->Except ε β}{b:β}(h:(x >>= f)= .ok b):∃a,f a= .ok b:=by
 cases x with
 |error e=>cases h
 |ok a=>exact⟨a,h⟩
theorem qK{P:Program}{w w':World}{at_ k:Addr}{u:TypeId}{v:Value}{at':Bool}{l:List Addr}(h:World.viewStore P w at_ u k v at'= .ok (w',l)):w'.drawn=w.drawn:=by
 unfold World.viewStore at h
 repeat' (first
  |(obtain⟨_,h⟩:=KB h)
  |(split at h)
  |(cases h;done)
  |(cases h;rfl))
theorem CL{α:Type}(a:Ask α):(w:World)->w.drawn<=(World.ask w a).2.drawn:=by
 induction a with
 |done a=>intro w;exact YY _
 |ask ML range k ih=>
  intro w;unfold World.ask;simp only;split
  .exact ih _ _
  .have h2:=ih ((Question.extern ML range).cut (w.tape w.drawn (Question.extern ML range))) {w with drawn:=w.drawn+1};exact Zj (Nat.le_succ _) h2
theorem CM(w:World)(c:Sys):w.drawn<=(w.sys c).2.drawn:=by
 unfold World.sys;have h:=CL (Kernel.perform c w.os) w;split
 .exact YY _
 .rename_i h1;rw[h1]at h;exact h
theorem CN{P:Program}{α:Type}{a:α}{w':World}(s:Sem α):(w:World)->s.run P w= .ok a w'->w.drawn<=w'.drawn:=by
 induction s with
 |pure a=>intro w h;cases h;exact YY _
 |load m a k ih=>
  intro w h;unfold aaI at h;split at h
  .exact ih _ _ h
  .split at h
   .exact ih _ _ h
   .cases h
 |store m a v k ih=>
  intro w h
  cases v<;>simp only[aaI]at h<;>first
   |(cases h;done)
   |(split at h
     .split at h
      .cases h
      .have h2:=ih _ h;exact h2
     .split at h
      .rename_i e3;have h2:=ih _ h;unfold World.farStore at e3;split at e3
       .split at e3
        .rename_i e4;cases e3;rw[qK e4]at h2;exact h2
        .cases e3
       .cases e3
      .cases h)
 |new o k ih=>intro w h;unfold aaI at h;have h2:=ih _ _ h;exact h2
 |shape r k ih=>intro w h;unfold aaI at h;exact ih _ _ h
 |freeze a n k ih=>intro w h;unfold aaI at h;have:=ih _ h;unfold World.freeze at this;split at this<;>exact this
 |frozen a k ih=>intro w h;unfold aaI at h;exact ih _ _ h
 |getObj r k ih=>intro w h;unfold aaI at h;split at h<;>first|cases h|exact ih _ _ h
 |setObj r o k ih=>intro w h;unfold aaI at h;split at h<;>first|(cases h;done)|(have h2:=ih _ h;exact h2)
 |choose q k ih=>
  intro w h;unfold aaI at h;split at h
  .exact ih _ _ h
  .have h2:=ih _ _ h;exact Zj (Nat.le_succ _) h2
 |sys c k ih=>intro w h;unfold aaI at h;exact Zj (CM w c) (ih _ _ h)
 |program k ih=>intro w h;unfold aaI at h;exact ih _ _ h
 |mark m k ih=>intro w h;unfold aaI at h;exact ih _ h
 |halt hh=>intro w h;unfold aaI at h;cases h
structure Ext(g:Nat->Prop)(w w':World):Prop where
 os:w'.os=w.os
 tape:w'.tape=w.tape/\w.drawn<=w'.drawn
 output:w'.output=w.output
 size:w.heap.size<=w'.heap.size
 block:∀k,k<w.heap.size->¬g k->w'.heap[k]? =w.heap[k]?
theorem Ext.Fh{g:Nat->Prop}{a b:World}{row:Option Nat}(h:a.grownBy b row)(hd:a.drawn<=b.drawn)(hs:∀k,row=some k->g k):Ext g a b:=
 ⟨h.os,⟨h.tape,hd⟩,h.output,h.size,λk hk hn=>h.block k hk λe=>hn (hs k e.symm)⟩
section
variable {w0 w w':World} {F0 F F':Nat->Prop} {g:Nat->Prop}
theorem St.ext(h:St w0 F0 w F)(he:Ext g w w')(hg:∀k,g k->w0.heap.size<=k):St w0 F0 w' F:=
 ⟨h.below.trans ⟨he.os,he.tape.1,he.output,he.size,λk hk=>by
   rcases Nat.lt_or_ge k w.heap.size with ai|hge
   .exact he.block k ai λe=>by have:=hg k e;omega
   .have:=h.below.size;omega⟩,h.le,h.new,λb hb=>Zv (h.lt b hb) he.size⟩
theorem Step.ext(he:Ext g w w')(hF:∀b,F b->b<w.heap.size)(hg:∀k,g k->¬F k):Step F w F w':=
 λb hb=>⟨hb,he.block b (hF b hb) λe=>hg b e hb⟩
def kh(base:Nat)(F:Nat->Prop)(w:World)(b:Nat)(T:TypeId)(r:Row)(x:r.den):Prop:=
 base<=b/\¬F b/\∃es,w.heap[b]? =some (.cells es.toArray T (0,0))/\bN F w r es x
def ba(v:Value)(k:Nat):Prop:=v.ownBlock=some k
def is(b k:Nat):Prop:=k=b
def jP(w:World)(base:Nat)(e:TypeId)(size:Nat)(v:Value)(n:Nat)(xs:List Value):Prop:=
 xs.length=n*size/\
 ((v= .slice aaK 0 0/\n=0)\/
  ∃g o0 cap cur,v= .slice (some ⟨g,o0,aaK⟩) n cap/\base<=g/\w.heap[g]? =some (.cells cur e (0,0))/\n<=cap/\cap<=maxLen/\o0+cap*size<=cur.size/\(cur.toList.drop o0).take (n*size)=xs)
theorem jP.of{w:World}{base:Nat}{e:TypeId}{size:Nat}{v:Value}{n:Nat}{xs:List Value}(h:w.ownsRow base e size v n xs):jP w base e size v n xs:=by
 refine⟨h.1,?_⟩
 rcases h.2 with h|⟨g,cap,cur,hv,hb,hg,h1,h2,h3,h4⟩
 .exact .inl h
 .exact .inr ⟨g,0,cap,cur,hv,hb,hg,h1,h2,by omega,h4⟩
theorem CO(w:World)(base:Nat)(e:TypeId)(size:Nat):jP w base e size (.slice aaK 0 0) 0 []:= .of (World.ownsRow_nil w base e size)
theorem jP.lt{w:World}{base:Nat}{e:TypeId}{size:Nat}{v:Value}{n:Nat}{xs:List Value}(h:jP w base e size v n xs):∀k,v.ownBlock=some k->base<=k/\k<w.heap.size:=by
 intro k hk
 rcases h.2 with⟨rfl,_⟩|⟨g,o0,cap,cur,rfl,hb,hg,_⟩
 .cases hk
 .obtain rfl:g=k:=by simpa[Zw]using hk
  exact⟨hb,(Zx.1 hg).1⟩
def fN(base:Nat)(F:Nat->Prop)(w:World)(T:TypeId)(r:Row)(v:Value)(l:List r.den):Prop:=
 (∀k,ba v k->¬F k)/\∃xs,jP w base T r.size v l.length xs/\∀i(h:i<l.length),bN F w r ((xs.drop (i*r.size)).take r.size) l[i]
variable {base b:Nat} {T:TypeId} {r:Row}
theorem kh.lt{x:r.den}(h:kh base F w b T r x):∀k,is b k->k<w.heap.size:=λk hk=>by
 obtain⟨_,_,es,hh,_⟩:=h;rw[hk];exact(Zx.1 hh).1
theorem kh.ge{x:r.den}(h:kh base F w b T r x):∀k,is b k->base<=k:=λk hk=>by rw[hk];exact h.1
theorem kh.no{x:r.den}(h:kh base F w b T r x):∀k,is b k->¬F k:=λk hk=>by rw[hk];exact h.2.1
theorem kh.st{x:r.den}(h:kh base F w b T r x)(hF:∀b,F b->b<w.heap.size)(hs:St w F w' F'):kh base F' w' b T r x:=by
 have ai:=h.lt b rfl;obtain⟨h1,h2,es,hh,hr⟩:=h;refine⟨h1,λe=>?_,es,(hs.below.block b ai).trans hh,hr.step (hs.step hF)⟩
 rcases hs.new b e with h'|h'
 .exact h2 h'
 .omega
theorem kh.ext{x:r.den}(h:kh base F w b T r x)(hF:∀b,F b->b<w.heap.size)(he:Ext g w w')(hg:∀k,g k->¬F k)(hb:∀k,g k->¬is b k):kh base F w' b T r x:=by
 have ai:=h.lt b rfl;obtain⟨h1,h2,es,hh,hr⟩:=h;exact⟨h1,h2,es,(he.block b ai λe=>hb b e rfl).trans hh,hr.step (Step.ext he hF hg)⟩
theorem kh.at{x:r.den}(h:kh base F w b T r x):At F w r b 0 x:=by
 obtain⟨_,_,es,hh,hr⟩:=h;exact⟨es,hr.length,λj u hu=>by rw[Zy,cell_of_row w b j _ T (0,0) hh];simpa using hu,hr⟩
theorem fN.lt{v:Value}{l:List r.den}(h:fN base F w T r v l):∀k,ba v k->k<w.heap.size:=by
 obtain⟨_,xs,h,_⟩:=h
 exact λk hk=>(h.lt k hk).2
theorem fN.ge{v:Value}{l:List r.den}(h:fN base F w T r v l):∀k,ba v k->base<=k:=by
 obtain⟨_,xs,h,_⟩:=h
 exact λk hk=>(h.lt k hk).1
theorem fN.no{v:Value}{l:List r.den}(h:fN base F w T r v l):∀k,ba v k->¬F k:=h.1
theorem fN.nil(base:Nat)(F:Nat->Prop)(w:World)(T:TypeId)(r:Row):fN base F w T r (.slice aaK 0 0) []:=
 ⟨λk hk=>by simp[ba,Zw]at hk,[],CO _ _ _ _,λi h=>absurd h (by simp)⟩
theorem fN.keep{v:Value}{l:List r.den}(h:fN base F w T r v l)(hs:Step F w F' w')(h1:∀k,ba v k->¬F' k/\w'.heap[k]? =w.heap[k]?):fN base F' w' T r v l:=by
 obtain⟨_,xs,⟨tM,zb⟩,h3⟩:=h;refine⟨λk hk=>(h1 k hk).1,xs,⟨tM,?_⟩,λi hi=>(h3 i hi).step hs⟩
 rcases zb with h2|⟨gg,o0,cap,cur,rfl,hb,hg,rest⟩
 .exact .inl h2
 .exact .inr ⟨gg,o0,cap,cur,rfl,hb,(h1 gg rfl).2.trans hg,rest⟩
theorem fN.st{v:Value}{l:List r.den}(h:fN base F w T r v l)(hF:∀b,F b->b<w.heap.size)(hs:St w F w' F'):fN base F' w' T r v l:=
 h.keep (hs.step hF) λk hk=>⟨λe=>by
   have ai:=h.lt k hk
   rcases hs.new k e with h'|h'
   .exact h.no k hk h'
   .omega,hs.below.block k (h.lt k hk)⟩
theorem fN.ext{v:Value}{l:List r.den}(h:fN base F w T r v l)(hF:∀b,F b->b<w.heap.size)(he:Ext g w w')(hg:∀k,g k->¬F k)(hb:∀k,g k->¬ba v k):fN base F w' T r v l:=
 h.keep (Step.ext he hF hg) λk hk=>⟨h.no k hk,he.block k (h.lt k hk) λe=>hb k e hk⟩
theorem fN.reads{v:Value}{l:List r.den}(h:fN base F w T r v l):Reads F w r v l:=by
 obtain⟨_,xs,hx,h3⟩:=h;have hlen:=hx.1
 rcases hx.2 with⟨rfl,h0⟩|⟨gg,o0,cap,cur,rfl,hb,hg,h1,h2,nG,tN⟩
 .exact⟨aaK,0,by rw[h0],by omega,by simp[maxLen],λi hi=>absurd hi (by omega)⟩
 .refine⟨_,cap,rfl,h1,h2,λi hi=>⟨gg,o0,rfl,_,(h3 i hi).length,λj u hu=>?_,h3 i hi⟩⟩;rw[Zo]at hu;split at hu
  .rw[Zc]at hu;rw[cell_of_row w gg _ cur T (0,0) hg];rw[<-tN,Zo]at hu;split at hu
   .rw[Zc]at hu;simpa[Nat.add_assoc]using hu
   .cases hu
  .cases hu
theorem fN.freeze{v:Value}{l:List r.den}(h:fN base F w T r v l):bN (λb=>F b\/ba v b) w (.slice r) [v] l:=by
 obtain⟨A,cap,hv,h1,h2,h3⟩:=h.reads;refine⟨A,cap,by rw[hv],h1,h2,λi hi=>?_⟩;obtain⟨b,off,rfl,es,qI,hc,hr⟩:=h3 i hi;subst hv;exact⟨b,off,es,rfl, .inr (by simp[ba,Zw]),qI,hc,hr.step λb hb=>⟨.inl hb,rfl⟩⟩
@[reducible] def Row.zero:(r:Row)->r.den
  | .int _=>(0:Int)
  | .bool=>aaM
  | .str=>aaB
  | .slice _=>[]
  | .iU=> .slice aaK 0 0
  | .nul _=>()
  | .map .. =>[]
  | .pair a b=>(a.zero,b.zero)
def Row.dw:(r:Row)->List Value
 | .int k=>[.int k 0]
 | .bool=>[.bool aaM]
 | .str=>[.string aaB]
 | .slice _=>[.slice aaK 0 0]
 | .iU=>[.slice aaK 0 0]
 | .nul k=>[k.val]
 | .map .. =>[.map aaK]
 | .pair a b=>a.dw++b.dw
theorem bN.zero(F:Nat->Prop)(w:World):(r:Row)->bN F w r r.dw r.zero
 | .int _=>rfl
 | .bool=>rfl
 | .str=>rfl
 | .slice e=>bN.nil F w e
 | .iU=>⟨rfl,aaK,0,0,rfl⟩
 | .nul _=>rfl
 | .map .. =>⟨_,rfl, .inl ⟨rfl,rfl⟩⟩
 | .pair a b=>⟨_,_,rfl,bN.zero F w a,bN.zero F w b⟩
theorem kh.new(F:Nat->Prop){w:World}(T:TypeId){r:Row}{es:List Value}{x:r.den}(hF:∀b,F b->b<w.heap.size)(hb:base<=w.heap.size)(hr:bN F w r es x):kh base F (w.alloc (.cells es.toArray T)) w.heap.size T r x:=
 ⟨hb,λe=>by have:=hF _ e;omega,es,heap_alloc_new w _,hr.step (Step.alloc hF _)⟩
end
section
variable {P:Program} {n:Nat} {ops:Array Oper} {K:(Nat->Value)->World->Prop} {rest:List Oper} {ρ:Nat->Value} {w:World} {F:Nat->Prop} {base:Nat}
variable {d:Nat} {ty:TypeId} {pos:String} {aft:Array Edge} {x y:Operand} {t:TypeId}
theorem CP{dd:Option Nat}{ti:TypeInfo}{z:Value}(hi:P.info? t=some ti)(hz:ti.zero=some z):
 (execOp (ev ρ) ⟨dd, .alloc t,ty,pos,aft,aaK⟩).run P w= .ok (.value (.pointer (some ⟨w.heap.size,0,aaK⟩))) (w.alloc (.cells z.cells t)):=by
 simp[execOp,Instr.alloc,zeroValue,typeInfo,hi,hz,newVar,newRow]
theorem It{dd:Option Nat}{v:Value}(hx:ev ρ x=v):
 (execOp (ev ρ) ⟨dd, .box t x,ty,pos,aft,aaK⟩).run P w= .ok (.value (.pointer (some ⟨w.heap.size,0,aaK⟩))) (w.alloc (.cells v.cells t)):=by
 simp[execOp,Instr.box,hx,newVar,newRow]
theorem kX{dd:Option Nat}{ti:TypeInfo}{b off:Nat}{cur:Array Value}{T:TypeId}{v:Value}{vs:List Value}(hi:P.info? t=some ti)(hs:ti.size=vs.length)(hx:ev ρ x= .pointer (some ⟨b,off,aaK⟩))(hy:ev ρ y=v)
 (hv:v.cells.toList=vs)(h1:∀u∈vs,u.oneCell'=aaL)(hg:w.heap[b]? =some (.cells cur T (0,0)))(hl:off+vs.length<=cur.size):
 (execOp (ev ρ) ⟨dd, .store t x y,ty,pos,aft,aaK⟩).run P w= .ok .skip (w.setRow b (cur.toList.take off++vs++cur.toList.drop (off+vs.length)).toArray):=by
 have dZ:=run_storeCells_at P b off T vs 0 cur w hg (by omega) h1
 have iA:v.cells.size=ti.size:=by rw[hs,<-hv];simp
 simp only[Z1]at dZ;simp[execOp,Instr.storeAt,Instr.sureAddr,storeVar,sizeOf,typeInfo,hi,iA,hx,hy,hv,dZ]
theorem zt(w:World)(b:Nat)(cs:Array Value):Ext (is b) w (w.setRow b cs):=
 ⟨rfl,⟨rfl,YY _⟩,rfl,by simp,λk _ hk=>setRow_other w b k cs hk⟩
theorem kh.put{w:World}{b:Nat}{T:TypeId}{r s:Row}{a:r.den}{es:List Value}(hh:w.heap[b]? =some (.cells es.toArray T (0,0)))(hr:bN F w r es a)(hb:base<=b)(hn:¬F b)(hF:∀b,F b->b<w.heap.size)(p:Path r s){vs:List Value}{u:s.den}(hv:bN F w s vs u):
 kh base F (w.setRow b (es.take p.off++vs++es.drop (p.off+s.size)).toArray) b T r (p.set a u):=
 ⟨hb,hn,_,setRow_heap w b _ _ T (0,0) hh,(hr.put p hv).step (Step.ext (zt w b _) hF λk hk=>by rw[show k=b from hk];exact hn)⟩
def tO{α:Type}(m:Int)(z:α):Option (List α):=if 0<=m/\m<=4294967296 then some (Zq m.toNat z)else aaK
def b7{α:Type}(l m:List α):Option (List α):=if l.length+m.length<=4294967296 then some (l++m)else aaK
theorem ou(z:Array Value)(m j:Nat)(hj:j<m)(hz:0<z.size):(madeCells z m).toList[j]? =z[j%z.size]? :=by
 have:j%z.size<z.size:=Nat.mod_lt _ hz;simp[madeCells,hj,this]
theorem Fi(z:List Value)(m i:Nat)(hz:0<z.length)(hi:i<m):(((madeCells z.toArray (m*z.length)).toList.drop (i*z.length)).take z.length)=z:=by
 apply List.ext_getElem?
 intro j;rw[Zo,Zc];split
 .rename_i hj;have hle:(i+1)*z.length<=m*z.length:=Zg _ hi;rw[ZH]at hle;rw[ou z.toArray (m*z.length) (i*z.length+j) (by omega) (by simpa using hz)];rw[show z.toArray.size=z.length from by simp,List.getElem?_toArray];rw[Nat.add_comm,Nat.add_mul_mod_self_right,Nat.mod_eq_of_lt hj]
 .rename_i hj;rw[List.getElem?_eq_none (by omega)]
theorem Reads.news{r:Row}{A:Option Addr}{cap m:Nat}{l:List r.den}(h:Reads F w r (.slice A m cap) l)(b off:Nat)(hA:A=some ⟨b,off,aaK⟩):
 ∃news:List Value,news.length=l.length*r.size/\(∀j u,news[j]? =some u->w.cell? ⟨b,off+j,aaK⟩=some u)/\∀i(hi:i<l.length),bN F w r ((news.drop (i*r.size)).take r.size) l[i]:=by
 subst hA;obtain⟨A',Fj,hv,_,_,h4⟩:=h;simp only[aag]at hv;obtain⟨rfl,_,_⟩:=hv;have ov:=r.size_pos
 have ot:∀j,j<l.length*r.size->∃u,w.cell? ⟨b,off+j,aaK⟩=some u:=by
  intro j hj;have hi:j/r.size<l.length:=Nat.div_lt_of_lt_mul (by rwa [Nat.mul_comm]);obtain⟨b',cN,qX,es,qI,hc,_⟩:=h4 _ hi;simp only[Y3,aam,and_true]at qX;obtain⟨rfl,rfl⟩:=qX
  have O8:j%r.size<es.length:=by rw[qI];exact Nat.mod_lt _ ov
  have:=hc (j%r.size) _ (YX O8);rw[Nat.add_assoc,Nat.div_add_mod']at this;exact⟨_,this⟩
 have Iu:∀j u,((Y1 (l.length*r.size)).map λj=>(w.cell? ⟨b,off+j,aaK⟩).getD undef)[j]? =some u↔j<l.length*r.size/\w.cell? ⟨b,off+j,aaK⟩=some u:=by
  intro j u;by_cases hj:j<l.length*r.size
  .obtain⟨q,hq⟩:=ot j hj;simp[hj,hq]
  .simp[hj]
 refine⟨(Y1 (l.length*r.size)).map λj=>(w.cell? ⟨b,off+j,aaK⟩).getD undef,by simp,λj u hu=>((Iu j u).1 hu).2,λi hi=>?_⟩;obtain⟨b',cN,qX,es,qI,hc,hr⟩:=h4 i hi;simp only[Y3,aam,and_true]at qX;obtain⟨rfl,rfl⟩:=qX
 have he:(((Y1 (l.length*r.size)).map λj=>(w.cell? ⟨b,off+j,aaK⟩).getD undef).drop (i*r.size)).take r.size=es:=by
  have hle:(i+1)*r.size<=l.length*r.size:=Zg _ hi;rw[ZH]at hle
  apply List.ext_getElem?
  intro j;rw[Zo,Zc];split
  .rename_i hj;rw[(Iu (i*r.size+j) (es[j]'(by omega))).2 ⟨by omega,by rw[<-Nat.add_assoc];exact hc j _ (YX (by omega))⟩,YX (by omega)]
  .rw[List.getElem?_eq_none (by omega)]
 rw[he];exact hr
theorem ow(w:World)(base:Nat)(t ty e:TypeId)(i:TypeInfo)(size:Nat)(ht:P.underlying t=some (.slice e))(hi:P.info? e=some i)
 (v:Value)(n:Nat)(xs:List Value)(dc:jP w base e size v n xs)(c:Nat):(aat #[t,t] ty #[v, .slice aaK 0 c]).run P w= .ok v w:=by
 rcases dc.2 with⟨rfl,rfl⟩|⟨g,o0,cap,cur,rfl,_,_,MM,_⟩
 .simp[aat,run_underlying ht,sizeOf,typeInfo,hi,Builtin.lenOf,Builtin.firstCells]
 .simp[aat,run_underlying ht,sizeOf,typeInfo,hi,Builtin.lenOf,Builtin.firstCells,MM,storeCells]
theorem vc(w:World)(base:Nat)(t ty e:TypeId)(i:TypeInfo)(z:Value)(size bytes:Nat)(ht:P.underlying t=some (.slice e))(hi:P.info? e=some i)(hz:i.zero=some z)
 (JQ:i.size=size)(Mn:i.bytes=bytes)(MN:z.cells.size=size)(iA:0<size)
 (v:Value)(n:Nat)(xs:List Value)(dc:jP w base e size v n xs)
 (a:Addr)(m c:Nat)(news:List Value)(hl:news.length=m*size)(Fk:∀j u,news[j]? =some u->w.cell? (a.add j)=some u)(h1:∀u∈news,u.oneCell'=aaL)
 (PT:n+m<=maxLen)(Fl:(n+m)*bytes<=140737488355328)(JR:base<=w.heap.size):
 ∃v' w',(aat #[t,t] ty #[v, .slice (some a) m c]).run P w= .ok v' w'/\jP w' base e size v' (n+m) (xs++news)/\w.grownBy w' v.ownBlock/\
  (v'.ownBlock=v.ownBlock\/v'.ownBlock=some w.heap.size):=by
 rcases dc.2 with⟨rfl,rfl⟩|⟨g,o0,cap,cur,rfl,UP,hg,MM,Iv,nG,tN⟩
 .have hx:xs=[]:=List.eq_nil_of_length_eq_zero (by simpa using dc.1);subst hx;obtain⟨v',w',g1,g2,g3,_,g4⟩:=run_append_own_at (P:=P) w base t ty e i z size bytes ht hi hz JQ Mn MN iA (.slice aaK 0 0) 0 [] (World.ownsRow_nil w base e size) a m c news hl Fk h1 PT Fl JR;exact⟨v',w',g1, .of g2,g3,g4⟩
 subst JQ;subst Mn
 have PU:n+m<=9223372036854775807:=by simp only[maxLen]at PT;omega
 have hlen:(xs++news).length=(n+m)*i.size:=by rw[Zf,dc.1,hl,ZH]
 have X6:n*i.size+news.length=(n+m)*i.size:=by rw[hl,ZH]
 have UQ:n*i.size<=cap*i.size:=Zg _ MM;by_cases Fm:n+m<=cap
 .have wO:(n+m)*i.size<=cap*i.size:=Zg _ Fm;have hf:=run_firstCells_some (P:=P) w i.size m a m c news hl Fk;have dZ:=run_storeCells_at P g (o0+n*i.size) e news 0 cur w hg (by omega) h1;simp only[Z1]at dZ
  have hr:(aat #[t,t] ty #[.slice (some ⟨g,o0,aaK⟩) n cap, .slice (some a) m c]).run P w=
   .ok (.slice (some ⟨g,o0,aaK⟩) (n+m) cap) (w.setRow g (cur.toList.take (o0+n*i.size)++news++cur.toList.drop (o0+n*i.size+news.length)).toArray):=by
   simp[aat,run_underlying ht,sizeOf,typeInfo,hi,Builtin.lenOf,Fm,hf,Addr.add_lit,dZ]
  refine⟨_,_,hr,⟨hlen, .inr ⟨g,o0,cap,_,rfl,UP,setRow_heap w g cur _ e _ hg,Fm,Iv,?_,?_⟩⟩,⟨rfl,rfl,rfl,by simp,λk _ hk=>setRow_other w g k _ (λe=>hk (by simp[Zw,e]))⟩,Or.inl rfl⟩
  .simp only[List.size_toArray,Zf,Zr,List.length_drop,Array.length_toList];omega
  .rw[List.toList_toArray,Zp,ZR (by simp;omega),List.drop_take,Nat.add_sub_cancel_left,tN,<-Zp,<-hlen];exact List.take_left
 .have holds:∀j u,xs[j]? =some u->w.cell? ((⟨g,o0,aaK⟩:Addr).add j)=some u:=λj u hj=>by
   rw[bT,cell_of_row w g _ cur e (0,0) hg];rw[<-tN,Zo]at hj;split at hj
   .rw[Zc]at hj;simpa using hj
   .cases hj
  have hr:=run_append_grow (P:=P) w t ty e i z ht hi hz ⟨g,o0,aaK⟩ n cap xs dc.1 holds a m c news hl Fk (by omega) (by omega) (growslice_fits (by omega) Fl);have hge:=grownCap_ge w (n+m) cap e;have PV:grownCap w (n+m) cap e<=maxLen:=grownCap_le_maxLen w (n+m) cap e PT;refine⟨_,_,hr, .of ⟨hlen, .inr ⟨w.heap.size,_,_,rfl,JR,heap_alloc_new w.drew _,hge,PV,?_,?_⟩⟩,⟨rfl,rfl,rfl,by simp,λk hk _=>heap_alloc_old w.drew _ hk⟩,Or.inr rfl⟩
  .simp only[Array.size_append,List.size_toArray,size_zeroCells,MN,dc.1,hl,<-ZH]
   congr 1
   omega
  .simp only[Array.toList_append,Zp];rw[<-Zp,<-hlen];exact List.take_left
theorem Reads.same{r:Row}{v:Value}{l:List r.den}(h:Reads F w r v l):Reads F w r v l:=h
theorem rv{e:TypeId}{ti:TypeInfo}{z:Value}{r:Row}{v u:Value}{l m out:List r.den}(ty:TypeId)(ht:P.underlying t=some (.slice e))(hi:P.info? e=some ti)(hz:ti.zero=some z)(MO:z.cells.toList=r.dw)(hs:ti.size=r.size)(Mn:ti.bytes<=32768)
 (hv:fN base F w e r v l)(hu:Reads F w r u m)(hm:b7 l m=some out)(hF:∀b,F b->b<w.heap.size)(hb:base<=w.heap.size):
 ∃v' w',(aat #[t,t] ty #[v,u]).run P w= .ok v' w'/\Ext (ba v) w w'/\fN base F w' e r v' out/\(ba v'=ba v\/ba v'=(w.heap.size= ·)):=by
 unfold b7 at hm;split at hm
 case isFalse=>cases hm
 rename_i hlen;obtain rfl:=YU hm
 have MN:z.cells.size=r.size:=by rw[<-(bN.zero F w r).length,<-MO];simp
 obtain⟨zc,xs,hx,h3⟩:=hv;have Pa:=hu;obtain⟨A,cap,rfl,X7,Iv,qI⟩:=hu
 have Fp:∀(v':Value)(w':World)(news:List Value),news.length=m.length*r.size->(∀i(hi:i<m.length),bN F w r ((news.drop (i*r.size)).take r.size) m[i])->
  jP w' base e r.size v' (l.length+m.length) (xs++news)->w.grownBy w' v.ownBlock->w.drawn<=w'.drawn->(v'.ownBlock=v.ownBlock\/v'.ownBlock=some w.heap.size)->
  Ext (ba v) w w'/\fN base F w' e r v' (l++m)/\(ba v'=ba v\/ba v'=(w.heap.size= ·)):=by
  intro v' _ news Pb Pd eT hg iU pb
  have hm:ba v'=ba v\/ba v'=(w.heap.size= ·):=by
   rcases pb with h|h
   .exact .inl (by unfold ba;rw[h])
   .refine .inr ?_;funext b;unfold ba;rw[h];simp
  have bl:=Ext.Fh hg iU (g:=ba v) λk hk=>hk
  have cQ:=Step.ext bl hF zc;refine⟨bl,⟨λk hk=>?_,xs++news,by simpa using eT,λk hk=>?_⟩,hm⟩
  .rcases hm with h|h
   .rw[h]at hk;exact zc k hk
   .rw[h]at hk;intro hf;have:=hF k hf;omega
  .have vd:=hx.1
   rcases Nat.lt_or_ge k l.length with ai|hge
   .have hle:(k+1)*r.size<=l.length*r.size:=Zg _ ai;rw[ZH]at hle;rw[List.getElem_append_left ai,ZR (by omega),List.take_append_of_le_length (by rw[List.length_drop];omega)];exact(h3 k ai).step cQ
   .have Mo:k-l.length<m.length:=by simp at hk;omega
    have hmul:k*r.size=l.length*r.size+(k-l.length)*r.size:=by rw[<-ZH];congr 1;omega
    rw[List.getElem_append_right hge,List.drop_append,vd,Z0 (by omega),List.nil_append,show k*r.size-l.length*r.size=(k-l.length)*r.size from by omega];exact(Pd _ Mo).step cQ
 cases A with
 |none=>
  have KC:m=[]:=by
   cases m with
   |nil=>rfl
   |cons a q=>obtain⟨b,off,h,_⟩:=qI 0 (by simp);cases h
  subst KC;refine⟨v,w,ow w base t ty e ti r.size ht hi v _ xs hx _,?_⟩;exact Fp v w [] (by simp) (λi hi=>absurd hi (by simp)) (by simpa using hx) ⟨rfl,rfl,rfl,YY _,λ_ _ _=>rfl⟩ (YY _) (.inl rfl)
 |some ad=>
  have key:∃news:List Value,news.length=m.length*r.size/\(∀j u,news[j]? =some u->w.cell? (ad.add j)=some u)/\∀i(hi:i<m.length),bN F w r ((news.drop (i*r.size)).take r.size) m[i]:=by
   cases m with
   |nil=>exact⟨[],by simp,λj u h=>by simp at h,λi hi=>absurd hi (by simp)⟩
   |cons a q=>
    obtain⟨b,off,h,_⟩:=qI 0 (by simp);obtain⟨news,h1,h2,h3⟩:=Pa.news b off h
    obtain rfl:ad=⟨b,off,aaK⟩:=by simpa using h
    exact⟨news,h1,λj u hj=>by rw[bT];exact h2 j u hj,h3⟩
  obtain⟨news,Pb,MM,Pd⟩:=key
  have jf:∀u∈news,u.oneCell'=aaL:=by
   intro u hu;obtain⟨j,hj,rfl⟩:=ZJ hu;have ov:=r.size_pos;have hi:j/r.size<m.length:=Nat.div_lt_of_lt_mul (by rw[Nat.mul_comm,<-Pb];exact hj);have hr:=Pd _ hi;refine hr.gh _ ?_;have hle:(j/r.size)*r.size+j%r.size=j:=Nat.div_add_mod' j r.size;have ai:=Nat.mod_lt j ov;rw[List.mem_iff_getElem?];refine⟨j%r.size,?_⟩;rw[Zo,aaP ai,Zc,hle,YX hj]
  obtain⟨v',w',bn,eT,hg,pb⟩:=vc (P:=P) w base t ty e ti z r.size ti.bytes ht hi hz hs rfl MN r.size_pos v l.length xs hx ad m.length cap news Pb MM jf (by simp only[maxLen];omega)
   (Zj (Nat.mul_le_mul hlen Mn) (by omega)) hb
  exact⟨v',w',bn,Fp v' w' news Pb Pd eT hg (CN _ _ bn) pb⟩
end
end
end Go.Proofs.YtbladfbbhijpmaaGreat
section
open _root_.Bool renaming false->aaM,true->aaL,false_eq_true->Y8
open _root_.Option renaming none->aaK
open _root_.List.cons renaming injEq->Z8
open _root_.List renaming drop_eq_getElem_cons->ZA,length_take->Zr,take_length->Zh
open _root_.Nat renaming add_zero->Z1,beq->YZ,min_eq_left->Z3
open _root_.Option.some renaming injEq->Y3
open _root_.Prod.mk renaming injEq->ZV
open _root_.Go.Result renaming andThen_ok->ZD
open _root_.Go.Sem renaming run_bind->Zs
namespace Go.Proofs.YtbladfbbhijpmaaGreat
open Go Go.RowKit
theorem bind_some{α β:Type}{o:Option α}{f:α->Option β}{r:β}(h:o.bind f=some r):∃x,o=some x/\f x=some r:=Option.bind_eq_some_iff.1 h
section
variable {P:Program} {n:Nat} {ρ:Nat->Value} {w:World} {K:(Nat->Value)->World->Prop} {Q:Exit->(Nat->Value)->World->Prop}
theorem Fq{id:Nat}(h:Q .normal ρ w):Mm id Q (.exit id) ρ w:=by
 show(bif YZ id id then _ else _)
 rw[show YZ id id=aaL from Nat.beq_refl id];exact h
theorem CQ{id Cz:Nat}(cq:YZ Cz id=aaM)(h:Q (.exit Cz) ρ w):Mm id Q (.exit Cz) ρ w:=by
 show(bif YZ Cz id then _ else _)
 rw[cq];exact h
theorem fN.fz{base:Nat}{F G:Nat->Prop}{w:World}{T:TypeId}{r:Row}{v:Value}{l:List r.den}(h:fN base F w T r v l)(hg:∀k,G k->¬ba v k):fN base (λb=>F b\/G b) w T r v l:=
 h.keep (Step.freeze F w G) λk hk=>⟨λe=>e.elim (h.no k hk) λe=>hg k e hk,rfl⟩
theorem kh.fz{base:Nat}{F G:Nat->Prop}{w:World}{b:Nat}{T:TypeId}{r:Row}{x:r.den}(h:kh base F w b T r x)(hg:∀k,G k->¬is b k):kh base (λb=>F b\/G b) w b T r x:=by
 obtain⟨h1,h2,es,hh,hr⟩:=h;exact⟨h1,λe=>e.elim h2 λe=>hg b e rfl,es,hh,hr.step (Step.freeze F w G)⟩
theorem St.fz{w0 w:World}{F0 F:Nat->Prop}(h:St w0 F0 w F){T:TypeId}{r:Row}{v:Value}{l:List r.den}(ho:fN w0.heap.size F w T r v l):St w0 F0 w (λb=>F b\/ba v b):=
 h.freeze (ba v) λb hb=>⟨ho.ge b hb,ho.lt b hb⟩
end
def TI(P:Program)(e:TypeId)(r:Row):Prop:=∃ti z,P.info? e=some ti/\ti.zero=some z/\z.cells.toList=r.dw/\ti.size=r.size/\ti.bytes<=32768
theorem TI.mk{P:Program}{e:TypeId}{r:Row}{k:Nat}(h:(P.info? e).map (λi=>(i.zero.map (λz=>z.cells.toList),i.size,decide (i.bytes<=32768)))=some (some r.dw,k,aaL))(hk:k=r.size):TI P e r:=by
 cases hi:P.info? e with
 |none=>simp[hi]at h
 |some ti=>
  simp only[hi,Option.map_some,Y3,ZV,aaW]at h;obtain⟨h1,h2,h3⟩:=h
  cases hz:ti.zero with
  |none=>simp[hz]at h1
  |some z=>
   simp only[hz,Option.map_some,Y3]at h1;exact⟨ti,z,hi,hz,h1,h2.trans hk,h3⟩
section
variable {P:Program} {n:Nat} {ops:Array Oper} {K:(Nat->Value)->World->Prop} {rest:List Oper} {ρ:Nat->Value} {w:World} {F:Nat->Prop} {base:Nat}
variable {d:Nat} {dd:Option Nat} {ty:TypeId} {pos:String} {aft:Array Edge} {x y c:Operand} {t e:TypeId} {r:Row}
theorem jQ{f:Nat}{fs:Array Field}{fd:Field}{kr off:Nat}(k:Nat)(hs:P.underlying t=some (.struct fs))(hf:fs[f]? =some fd)(hi:TI P fd.type r)(hk:fd.offset=k)
 (hx:ev ρ x= .pointer (some ⟨kr,off,aaK⟩)):Pure P ρ ⟨dd, .fieldAddr t x f,ty,pos,aft,aaK⟩ (.pointer (some ⟨kr,off+k,aaK⟩)):=by
 obtain⟨ti,z,h1,_,_,h4,_⟩:=hi;exact rr k hs hf h1 (by rw[h4];have:=r.size_pos;omega) hk hx
end
end Go.Proofs.YtbladfbbhijpmaaGreat
namespace Go.Proofs.YtbladfbbhijpmaaGreat
open Go Go.RowKit
noncomputable def ku(r:Row)(x y:r.den):Bool:= @decide (x=y) (Row.decEq r x y)
theorem kY{r:Row}{x y:r.den}:ku r x y=aaL↔x=y:=by simp[ku]
theorem pc{r:Row}{x y:r.den}:ku r x y=aaM↔x≠y:=by simp[ku]
def Fs(P:Program)(t:TypeId)(cs:List Value)(v:Value):Prop:=∃D,P.underlying t=some D/\(if gr D=aaL then v= .agg cs.toArray else cs=[v])
def kZ(P:Program)(t:TypeId)(r:Row)(K:Nat):Prop:=
 ∀(d:Nat)(w2 w:World)(F:Nat->Prop)(cs nH:List Value)(x y:r.den)(v v':Value),Fs P t cs v->Fs P t nH v'->bN F w r cs x->bN F w r nH y->
  (Op.equalIn (d+K) t v v').run P w2= .ok (decide (x=y)) w2
def Iw(P:Program)(fs:List Field)(r:Row)(off K:Nat):Prop:=
 ∀(d:Nat)(w2 w:World)(F:Nat->Prop)(xs ys:List Value)(x y:r.den),bN F w r ((xs.drop off).take r.size) x->bN F w r ((ys.drop off).take r.size) y->
  (Op.eqFields (d+K) xs.toArray ys.toArray fs).run P w2= .ok (decide (x=y)) w2
section
variable {P:Program} {t:TypeId} {r:Row} {k:IntKind} {K:Nat}
theorem Bm(ht:P.underlying t=some (.int k)):kZ P t (.int k) 1:=by
 intro d w2 w F cs nH x y v v' ⟨D,hD,h1⟩ ⟨D',Ix,h2⟩ hx hy;rw[ht]at hD Ix;cases hD;cases Ix;obtain rfl:cs=_:=hx;obtain rfl:nH=_:=hy;simp only[gr,Y8,if_false,Z8,and_true]at h1 h2;subst h1;subst h2;rw[run_equalIn_int (h:=ht),mG]
theorem ox{D:TypeDesc}{ti:TypeInfo}{cs:List Value}{off:Nat}{F:Nat->Prop}{w:World}{x:r.den}(hD:P.underlying t=some D)(hi:P.info? t=some ti)(hs:ti.size=r.size)(jf:gr D=aaM->r.size=1)
 (hr:bN F w r ((cs.drop off).take r.size) x)(w2:World):∃v,(part t cs.toArray off).run P w2= .ok v w2/\Fs P t ((cs.drop off).take r.size) v:=by
 have hl:=hr.length;have ov:=r.size_pos
 cases hA:gr D with
 |true=>
  refine⟨.agg ((cs.drop off).take r.size).toArray,?_,D,hD,by rw[aaP hA]⟩;unfold part;rw[Zs,dG hD,hA];simp[sizeOf,typeInfo,hi,hs]
 |false=>
  have h1:=jf hA;rw[h1]at hl⊢
  have ai:off<cs.length:=by
   rw[Zr,List.length_drop]at hl;omega
  refine⟨cs[off],?_,D,hD,?_⟩
  .unfold part;rw[Zs,dG hD,hA];simp[ai]
  .rw[aaO (by simp[hA])];rw[ZA ai];rfl
theorem lQ{f:Field}{off:Nat}(hn:(f.name != "_")=aaL)(ho:f.offset=off){D:TypeDesc}(hD:P.underlying f.type=some D)(jf:gr D=aaM->r.size=1)(hi:TI P f.type r)(he:kZ P f.type r K):Iw P [f] r off K:=by
 intro d w2 w F xs ys x y hx hy;subst ho;obtain⟨ti,z,h1,_,_,h4,_⟩:=hi;obtain⟨v,hv,jK⟩:=ox hD h1 h4 jf hx w2;obtain⟨v',cV,CR⟩:=ox hD h1 h4 jf hy w2;have:=he d w2 w F _ _ x y v v' jK CR hx hy
 have Ft:f.name≠ "_" :=by simpa using hn
 unfold Op.eqFields;rw[aaP Ft,Zs,hv,ZD,Zs,cV,ZD,Zs,this,ZD]
 by_cases nI:x=y<;>simp[nI,Op.eqFields]
theorem jr{f:Field}{fs:List Field}{a b:Row}{off:Nat}(hn:(f.name != "_")=aaL)(ho:f.offset=off){D:TypeDesc}(hD:P.underlying f.type=some D)(jf:gr D=aaM->a.size=1)(hi:TI P f.type a)(he:kZ P f.type a K)
 (hr:Iw P fs b (off+a.size) K):Iw P (f::fs) (.pair a b) off K:=by
 intro d w2 w F xs ys x y hx hy;subst ho;obtain⟨ti,z,h1,_,_,h4,_⟩:=hi
 have hle:a.size<=(Row.pair a b).size:=by simp
 have eG:∀(zs:List Value)(u:(Row.pair a b).den),bN F w (.pair a b) ((zs.drop f.offset).take (Row.pair a b).size) u->bN F w a ((zs.drop f.offset).take a.size) u.1:=by
  intro zs u hu;have:=bN.path (.fst (.here (r:=a)):Path (.pair a b) a) hu;simp only[Path.off,List.drop_zero]at this;rw[List.take_take,Z3 hle]at this;exact this
 have MP:∀(zs:List Value)(u:(Row.pair a b).den),bN F w (.pair a b) ((zs.drop f.offset).take (Row.pair a b).size) u->bN F w b ((zs.drop (f.offset+a.size)).take b.size) u.2:=by
  intro zs u hu;have:=bN.path (.snd (.here (r:=b)):Path (.pair a b) b) hu;simp only[Path.off,Z1]at this;rw[List.drop_take,List.drop_drop]at this;rw[show(Row.pair a b).size-a.size=b.size from by simp]at this;rw[List.take_take,Nat.min_self]at this;exact this
 obtain⟨v,hv,jK⟩:=ox hD h1 h4 jf (eG xs x hx) w2;obtain⟨v',cV,CR⟩:=ox hD h1 h4 jf (eG ys y hy) w2;have h5:=he d w2 w F _ _ _ _ v v' jK CR (eG xs x hx) (eG ys y hy);have h6:=hr d w2 w F xs ys _ _ (MP xs x hx) (MP ys y hy)
 have Ft:f.name≠ "_" :=by simpa using hn
 unfold Op.eqFields;rw[aaP Ft,Zs,hv,ZD,Zs,cV,ZD,Zs,h5,ZD];obtain⟨x1,x2⟩:=x;obtain⟨y1,y2⟩:=y;by_cases nI:x1=y1
 .simp only[nI,decide_true,Bool.not_true,Y8,if_false,h6]
  congr 1
  simp[Prod.ext_iff]
 .simp[nI,Prod.ext_iff]
theorem jt{fs:Array Field}(ht:P.underlying t=some (.struct fs))(hp:P.stoodInHeld t=aaM)(h:Iw P fs.toList r 0 K):kZ P t r (K+1):=by
 intro d w2 w F cs nH x y v v' ⟨D,hD,h1⟩ ⟨D',Ix,h2⟩ hx hy;rw[ht]at hD Ix;cases hD;cases Ix;simp only[gr,if_true]at h1 h2;subst h1;subst h2
 have hf:P.fieldsOf t=fs:=by simp[Program.fieldsOf,ht]
 have MQ:=hx.length;have Pe:=hy.length;rw[<-Nat.add_assoc,run_equalIn_struct _ _ _ _ _ (by rw[hf];exact ht) hp,hf];exact h d w2 w F cs nH x y (by rw[List.drop_zero,<-MQ,Zh];exact hx) (by rw[List.drop_zero,<-Pe,Zh];exact hy)
variable {ρ:Nat->Value} {dd:Option Nat} {ty:TypeId} {pos:String} {aft:Array Edge} {x y:Operand} {u:TypeId}
theorem CU{d:Nat}{F:Nat->Prop}{w:World}{es iK:List Value}{a b:r.den}(hE:kZ P t r K)(hd:d+K=10000)(hg:P.eqGuardType P.depth t=aaM)(hD:(P.underlying t).any gr=aaL)
 (hx:ev ρ x= .agg es.toArray)(hy:ev ρ y= .agg iK.toArray)(ha:bN F w r es a)(hb:bN F w r iK b):
 Pure P ρ ⟨dd, .binOp .eql t x y u,ty,pos,aft,aaK⟩ (.bool (ku r a b)):=λw2=>by
 cases hu:P.underlying t with
 |none=>simp[hu]at hD
 |some D=>
  have hA:gr D=aaL:=by simpa[hu]using hD
  have:=hE d w2 w F es iK a b _ _ ⟨D,hu,by rw[aaP hA]⟩ ⟨D,hu,by rw[aaP hA]⟩ ha hb;rw[hd]at this;simp only[execOp,hx,hy,Zs,run_eqGuard_agg _ _ _ _ _ _ _ hg,ZD,run_eql_struct,this];rfl
theorem CV{d:Nat}{F:Nat->Prop}{w:World}{es iK:List Value}{a b:r.den}(hE:kZ P t r K)(hd:d+K=10000)(hg:P.eqGuardType P.depth t=aaM)(hD:(P.underlying t).any gr=aaL)
 (hx:ev ρ x= .agg es.toArray)(hy:ev ρ y= .agg iK.toArray)(ha:bN F w r es a)(hb:bN F w r iK b):
 Pure P ρ ⟨dd, .binOp .neq t x y u,ty,pos,aft,aaK⟩ (.bool (!ku r a b)):=λw2=>by
 cases hu:P.underlying t with
 |none=>simp[hu]at hD
 |some D=>
  have hA:gr D=aaL:=by simpa[hu]using hD
  have:=hE d w2 w F es iK a b _ _ ⟨D,hu,by rw[aaP hA]⟩ ⟨D,hu,by rw[aaP hA]⟩ ha hb;rw[hd]at this;simp only[execOp,hx,hy,Zs,run_eqGuard_agg _ _ _ _ _ _ _ hg,ZD,run_neq_struct,this];rfl
end
section
variable {P:Program} {n:Nat} {ops:Array Oper} {K:(Nat->Value)->Prop} {rest:List Oper} {ρ:Nat->Value} {w:World} {F:Nat->Prop}
variable {d:Nat} {ty:TypeId} {pos:String} {aft:Array Edge} {x y:Operand} {t e:TypeId} {r:Row}
theorem At.st{w':World}{b off:Nat}{a:r.den}(h:At F w r b off a)(hF:∀b,F b->b<w.heap.size)(hs:St w F w' F):At F w' r b off a:=by
 obtain⟨es,hl,hc,hr⟩:=h;refine⟨es,hl,λj u hu=>?_,hr.step (hs.step hF)⟩;have:=hc j u hu;have ai:b<w.heap.size:=block_lt_of_cell this;exact(World.cell?_of_block (hs.below.block b ai)).trans this
end
end Go.Proofs.YtbladfbbhijpmaaGreat
end
namespace Go.Proofs.YtbladfbbhijpmaaGreat
open Go Go.RowKit
set_option maxRecDepth 100000
set_option linter.unusedSimpArgs false
set_option linter.unusedVariables false
set_option linter.defProp false
section
theorem kZ.lift{P:Program}{t:TypeId}{r:Row}{K:Nat}(h:kZ P t r K)(m:Nat):kZ P t r (K+m):=by
 intro d w2 w F cs nH x y v v' h1 h2 h3 h4;have:=h (d+m) w2 w F cs nH x y v v' h1 h2 h3 h4
 rwa [show d+m+K=d+(K+m)from by omega]at this
section
variable {P:Program} {n:Nat} {ops:Array Oper} {K:(Nat->Value)->World->Prop} {rest:List Oper} {ρ:Nat->Value} {w:World} {F:Nat->Prop} {base:Nat}
variable {d:Nat} {ty:TypeId} {pos:String} {aft:Array Edge} {x y:Operand} {t e:TypeId} {r s:Row}
def bz{α:Type}(l:List α)(i:Int)(y:α):List α:=l.set i.toNat y
theorem fN.put{g o0 m0 KD q:Nat}{v:Value}{l:List r.den}(h:fN base F w e r v l)(hg:v= .slice (some ⟨g,o0,aaK⟩) m0 KD)(hq:q<l.length)(hF:∀b,F b->b<w.heap.size)(p:Path r s){vs:List Value}{u:s.den}(hv:bN F w s vs u):
 ∃cur,w.heap[g]? =some (.cells cur e (0,0))/\o0+q*r.size+p.off+vs.length<=cur.size/\
  Ext (ba v) w (w.setRow g (cur.toList.take (o0+q*r.size+p.off)++vs++cur.toList.drop (o0+q*r.size+p.off+vs.length)).toArray)/\
  fN base F (w.setRow g (cur.toList.take (o0+q*r.size+p.off)++vs++cur.toList.drop (o0+q*r.size+p.off+vs.length)).toArray) e r v (l.set q (p.set l[q] u)):=by
 obtain⟨zc,xs,⟨vd,hx⟩,h3⟩:=h
 rcases hx with⟨rfl,_⟩|⟨g',o1,cap,cur,rfl,hb,hh,h1,h2,nG,tN⟩
 .simp at hg
 .simp only[aag,Y3,aam,and_true]at hg;obtain⟨⟨rfl,rfl⟩,rfl,rfl⟩:=hg;have hle:=p.le;have hl:=hv.length;have hmul:(q+1)*r.size<=l.length*r.size:=Zg _ hq;rw[ZH]at hmul;have wO:l.length*r.size<=cap*r.size:=Zg _ h1
  have bl:Ext (ba (.slice (some ⟨g',o1,aaK⟩) l.length cap)) w (w.setRow g' (cur.toList.take (o1+q*r.size+p.off)++vs++cur.toList.drop (o1+q*r.size+p.off+vs.length)).toArray):=
   ⟨rfl,⟨rfl,YY _⟩,rfl,by simp,λk _ hk=>setRow_other w g' k _ λe=>hk (by simp[ba,Zw,e])⟩
  have cQ:=Step.ext bl hF zc;refine⟨cur,hh,by omega,bl,zc,xs.take (q*r.size+p.off)++vs++xs.drop (q*r.size+p.off+vs.length),⟨by simp;omega, .inr ⟨g',o1,cap,_,by simp,hb,setRow_heap w g' _ _ e (0,0) hh,by simpa using h1,h2,by simp;omega,?_⟩⟩,?_⟩
  .rw[List.length_set,List.toList_toArray,<-tN]
   have e0:(cur.toList.take (o1+q*r.size+p.off)++vs++cur.toList.drop (o1+q*r.size+p.off+vs.length)).drop o1=(cur.toList.drop o1).take (q*r.size+p.off)++vs++(cur.toList.drop o1).drop (q*r.size+p.off+vs.length):=by
    rw[Zp,ZR (by simp;omega),List.drop_take,List.drop_drop,show o1+q*r.size+p.off-o1=q*r.size+p.off by omega,Zp,show o1+q*r.size+p.off+vs.length=o1+(q*r.size+p.off+vs.length) by omega]
   rw[e0]
   have wP:cap*r.size<=(cur.toList.drop o1).length:=by simp;omega
   generalize cur.toList.drop o1=c2 at*
   have e1:(c2.take (l.length*r.size)).take (q*r.size+p.off)=c2.take (q*r.size+p.off):=by rw[List.take_take,Z3 (by omega)]
   rw[e1,List.take_append,List.take_of_length_le (by simp;omega),List.drop_take]
   congr 1
   simp
   congr 1
   omega
  .intro i ik
   have hi:i<l.length:=by simpa using ik
   have MR:(i+1)*r.size<=l.length*r.size:=Zg _ hi;rw[ZH]at MR
   have A:∀j,j<r.size->((xs.take (q*r.size+p.off)++vs++xs.drop (q*r.size+p.off+vs.length)))[i*r.size+j]? =
    if i*r.size+j<q*r.size+p.off then xs[i*r.size+j]? else if i*r.size+j<q*r.size+p.off+vs.length then vs[i*r.size+j-(q*r.size+p.off)]? else xs[i*r.size+j]? :=by
    intro j hj;rw[Zp,aaC];simp only[Zr,vd,Z3 (show q*r.size+p.off<=l.length*r.size from by omega)];split
    .rw[Zo,aaP (by assumption)]
    .rw[aaC];split
     .rename_i h1 h2;rw[aaP (by omega)]
     .rename_i h1 h2;rw[aaO (by omega),Zc]
      congr 1
      omega
   by_cases PW:i=q
   .subst PW;rw[List.getElem_set_self];have hp:=(h3 i hi).put p hv
    have:((xs.take (i*r.size+p.off)++vs++xs.drop (i*r.size+p.off+vs.length)).drop (i*r.size)).take r.size=
     ((xs.drop (i*r.size)).take r.size).take p.off++vs++((xs.drop (i*r.size)).take r.size).drop (p.off+s.size):=by
     have MS:((xs.drop (i*r.size)).take r.size).length=r.size:=by rw[Zr,List.length_drop,vd];omega
     have PX:∀j,j<r.size->((xs.drop (i*r.size)).take r.size)[j]? =xs[i*r.size+j]? :=λj hj=>by rw[Zo,aaP hj,Zc]
     generalize(xs.drop (i*r.size)).take r.size=Tp at MS PX
     apply List.ext_getElem?
     intro j;rw[aaC (l₁:=Tp.take p.off++vs),aaC (l₁:=Tp.take p.off),Zf,Zr,MS,Z3 (show p.off<=r.size from by omega),Zo (l:=List.drop _ _)];by_cases hj:j<r.size
     .rw[aaP hj,Zc,A j hj];by_cases PY:j<p.off
      .rw[aaP (by omega),aaP (by omega),aaP PY,Zo,aaP PY,PX j hj]
      .rw[aaO (by omega)];by_cases O8:j<p.off+vs.length
       .rw[aaP (by omega),aaP O8,aaO PY]
        congr 1
        omega
       .rw[aaO (by omega),aaO O8,Zc,<-PX j hj]
        congr 1
        omega
     .rw[aaO hj,aaO (by omega),Zc,List.getElem?_eq_none (by omega)]
    rw[this];exact hp.step cQ
   .rw[List.getElem_set_ne (λe=>PW e.symm)]
    have:((xs.take (q*r.size+p.off)++vs++xs.drop (q*r.size+p.off+vs.length)).drop (i*r.size)).take r.size=(xs.drop (i*r.size)).take r.size:=by
     apply List.ext_getElem?
     intro j;rw[Zo,Zo];by_cases hj:j<r.size
     .rw[aaP hj,aaP hj,Zc,A j hj,Zc]
      rcases Nat.lt_or_gt_of_ne PW with ai|hgt
      .have:(i+1)*r.size<=q*r.size:=Zg _ ai;rw[ZH]at this;rw[aaP (by omega)]
      .have:(q+1)*r.size<=i*r.size:=Zg _ hgt;rw[ZH]at this;rw[aaO (by omega),aaO (by omega)]
     .rw[aaO hj,aaO hj]
    rw[this];exact(h3 i hi).step cQ
theorem fN.at{g o0 m0 KD q:Nat}{i:Int}{v:Value}{l:List r.den}{a:r.den}(h:fN base F w e r v l)(hg:v= .slice (some ⟨g,o0,aaK⟩) m0 KD)(hq:i=(q:Nat))(k0:idx l i=some a):At F w r g (o0+q*r.size) a:=by
 obtain⟨b,off,cap,k,hv,hk,ai,pb⟩:=h.reads.elem k0
 obtain rfl:k=q:=by omega
 rw[hg]at hv;simp only[aag,Y3,aam,and_true]at hv;obtain⟨⟨rfl,rfl⟩,_⟩:=hv;exact pb
theorem Fu(cs:List Value):∀(k:Nat)(pre post:List Value),post.length=cs.length->∀(tail:List Value),
 (cs.zipIdx k).foldl (λ(acc:Array Value)(cj:Value×Nat)=>acc.setIfInBounds (pre.length-k+cj.2) cj.1) (pre++post++tail).toArray=(pre++cs++tail).toArray\/pre.length<k:=by
 induction cs with
 |nil=>intro k pre post hp tail;left;simp at hp;simp[hp]
 |cons c q ih=>
  intro k pre post hp tail;by_cases hk:pre.length<k
  .exact .inr hk
  cases post with
  |nil=>simp at hp
  |cons p0 post=>
   simp only[List.zipIdx_cons,ZT]
   rcases ih (k+1) (pre++[c]) post (by simpa using hp) tail with h|h
   .left
    have e1:((pre++p0::post++tail).toArray.setIfInBounds (pre.length-k+k) c)=((pre++[c])++post++tail).toArray:=by
     rw[Nat.sub_add_cancel (by omega)];simp
    rw[e1]
    have e2:(pre++[c]).length-(k+1)=pre.length-k:=by simp
    rw[e2]at h;rw[h];simp
   .simp at h;omega
theorem pd{place:Nat->Option (Nat×Nat)}{i off size:Nat}{v:Value}{vs cells:List Value}{rest:List (Nat×Value)}(hp:place i=some (off,size))(hv:v.cells.toList=vs)(hs:vs.length=size)(hle:off+size<=cells.length):
 aay place cells.toArray ((i,v)::rest)=aay place (cells.take off++vs++cells.drop (off+size)).toArray rest:=by
 have UR:v.cells=vs.toArray:=by rw[<-hv,ZF]
 have hf:=Fu vs 0 (cells.take off) ((cells.drop off).take size) (by simp;omega) (cells.drop (off+size))
 have zu:cells.take off++(cells.drop off).take size++cells.drop (off+size)=cells:=by
  rw[Zp,<-List.drop_drop,ZQ,ZQ]
 have hlen:(cells.take off).length=off:=by simp;omega
 rw[zu,hlen,Nat.sub_zero]at hf
 rcases hf with hf|hf
 case inr=>omega
 rw[aay];simp only[hp,UR,List.size_toArray];rw[aaO (by simp;omega)]
 congr 1
 rw[<-Array.foldl_toList,Array.toList_zipIdx];exact hf
inductive ry(F:Nat->Prop)(w:World)(r:Row):List Value->List r.den->Prop where
 |nil:ry F w r [] []
 |cons {v:Value} {vs:List Value} {cs:List Value} {a:r.den} {l:List r.den} (hc:v.cells.toList=cs) (hr:bN F w r cs a) (h:ry F w r vs l):ry F w r (v::vs) (a::l)
theorem ry.length{vs:List Value}{l:List r.den}(h:ry F w r vs l):vs.length=l.length:=by
 induction h with
 |nil=>rfl
 |cons _ _ _ ih=>simp[ih]
theorem ry.fill{vs:List Value}{l:List r.den}(h:ry F w r vs l):∀(k:Nat)(pre post:List Value),pre.length=k*r.size->post.length=vs.length*r.size->
 ∃xs,aay (λi=>some (i*r.size,r.size)) (pre++post).toArray ((vs.zipIdx k).map λp=>(p.2,p.1))=some (pre++xs).toArray/\xs.length=l.length*r.size/\∀i(hi:i<l.length),bN F w r ((xs.drop (i*r.size)).take r.size) l[i]:=by
 induction h with
 |nil=>
  intro k pre post hp hq;have:post=[]:=List.eq_nil_of_length_eq_zero (by simpa using hq);subst this;exact⟨[],by simp[aay],by simp,λi hi=>absurd hi (by simp)⟩
 | @cons v vs cs a l hc hr h ih=>
   intro k pre post hp hq;have hl:=hr.length;rw[Ze,ZH,Nat.one_mul]at hq;obtain⟨xs,h1,h2,h3⟩:=ih (k+1) (pre++cs) (post.drop r.size) (by rw[Zf,hp,hl,ZH,Nat.one_mul]) (by rw[List.length_drop,hq];omega);refine⟨cs++xs,?_,by rw[Zf,hl,h2,Ze,ZH,Nat.one_mul,Nat.add_comm],λi hi=>?_⟩
   .simp only[List.zipIdx_cons,List.map_cons];rw[pd (place:=λi=>some (i*r.size,r.size)) rfl hc hl (by rw[Zf,hp,hq];omega)];rw[<-hp,List.take_left',List.drop_append,Z0 (by omega),List.nil_append,show pre.length+r.size-pre.length=r.size from by omega]
    .rw[h1];simp[Zp]
    .rfl
   .cases i with
    |zero=>
     simp only[Nat.zero_mul,List.drop_zero,List.getElem_cons_zero];rw[<-hl,List.take_left']
     .exact hr
     .rfl
    |succ i=>
     rw[ZH,Nat.one_mul,Nat.add_comm,<-List.drop_drop,<-hl,List.drop_left',hl]
     .simpa using h3 i (by simpa using hi)
     .rfl
def MT(place:Nat->Option (Nat×Nat))(F:Nat->Prop)(w:World)(r:Row)(parts:List (Nat×Value))(x x':r.den):Prop:=
 ∀es,bN F w r es x->∃iK,aay place es.toArray parts=some iK.toArray/\bN F w r iK x'
theorem MT.nil{place:Nat->Option (Nat×Nat)}{x:r.den}:MT place F w r [] x x:=λes h=>⟨es,by simp[aay],h⟩
theorem MT.cons{place:Nat->Option (Nat×Nat)}{i off size:Nat}{v:Value}{vs:List Value}{parts:List (Nat×Value)}{x x':r.den}{u:s.den}(p:Path r s)(hp:place i=some (off,size))(ho:p.off=off)(hz:s.size=size)(hv:v.cells.toList=vs)(hr:bN F w s vs u)
 (h:MT place F w r parts (p.set x u) x'):MT place F w r ((i,v)::parts) x x':=λes he=>by
 subst ho;subst hz;have hle:=p.le;have hl:=hr.length;rw[pd hp hv hl (by rw[he.length];omega)];exact h _ (he.put p hr)
end
end
section
open Go Go.RowKit Go.ChangeShapes Go.WideShapes Go.ChangeAt Go.Deep
def WF:(r:Row)->r.den->Prop
 | .int k,n=>k.min<=n/\n<=k.max
 | .bool,_=>True
 | .str,s=>s.size<=maxLen
 | .slice e,l=>l.length<=maxLen/\∀x∈l,WF e x
 | .iU,_=>True
 | .nul _,_=>True
 | .map ..,_=>True
 | .pair a b,x=>WF a x.1/\WF b x.2
def cr:(r:Row)->r.den->Nat
 | .int _,_=>1
 | .bool,_=>1
 | .str,s=>s.size+1
 | .slice e,l=>(l.map (cr e)).sum+1
 | .iU,_=>1
 | .nul _,_=>1
 | .map ..,_=>1
 | .pair a b,x=>cr a x.1+cr b x.2
theorem wQ:(r:Row)->(x:r.den)->0<cr r x
 | .int _,_=>by simp[cr]
 | .bool,_=>by simp[cr]
 | .str,s=>by simp[cr]
 | .slice e,l=>by simp[cr]
 | .iU,_=>by simp[cr]
 | .nul _,_=>by simp[cr]
 | .map ..,_=>by simp[cr]
 | .pair a b,x=>by have:=wQ a x.1;simp[cr];omega
theorem lE{H:Type}:(l:List (DataW H))->Rows.uptoBulkAll l=(l.map Rows.uptoBulk).sum
 |[]=>by simp[Rows.uptoBulkAll]
 |a::l=>by simp[Rows.uptoBulkAll,lE l]
def here(w:World)(b:Nat):Prop:=b<w.heap.size
def cZ(P:Program)(t:TypeId)(r:Row):Prop:=
 ∀(H:Type)(enc:TypeId×Value->H)(w:World)(spare:Nat->Bool)(held:Bool)(fuel:Nat)(cs:List Value)(x:DataW H×List MemPlace),DataW.trod enc P w 0 spare held fuel t cs=some x->
  ∃y:r.den,bN (here w) w r cs y/\WF r y/\cr r y<=Rows.uptoBulk x.1
def qY(P:Program)(fs:List Field)(r:Row)(off:Nat):Prop:=
 ∀(H:Type)(enc:TypeId×Value->H)(w:World)(spare:Nat->Bool)(held:Bool)(n:Nat)(cs:List Value)(xs:List (DataW H×List MemPlace)),xs.length=fs.length->
  (∀(i:Nat)(f:Field),fs[i]? =some f->DataW.trod enc P w 0 spare held n f.type ((cs.drop f.offset).take (P.cellsOf f.type))=xs[i]?)->off+r.size<=cs.length->
  ∃y:r.den,bN (here w) w r ((cs.drop off).take r.size) y/\WF r y/\cr r y<=Rows.uptoBulkAll (xs.map (·.1))
section
variable {P:Program} {t e:TypeId} {r a b:Row} {k:IntKind}
theorem CW(ht:P.underlying t=some (.int k)):cZ P t (.int k):=by
 intro H enc w spare held fuel cs x h;obtain⟨n,rfl,rfl,hn⟩:=DataW.trod_int ht h;exact⟨n,rfl,by simpa[Lit.wf,WF]using hn,by simp[cr,Rows.uptoBulk]⟩
theorem tP(ht:P.underlying t=some .string):cZ P t .str:=by
 intro H enc w spare held fuel cs x h;obtain⟨s,rfl,rfl,hs⟩:=DataW.trod_string ht h;exact⟨s,rfl,hs,Nat.le_of_eq rfl⟩
theorem lR{α:Type}{p:Nat->α->Prop}:(n:Nat)->(∀i,i<n->∃x,p i x)->∃l:List α,l.length=n/\∀i(h:i<l.length),p i l[i]
 |0,_=>⟨[],rfl,λi h=>absurd h (by simp)⟩
 |n+1,h=>by
  obtain⟨l,hl,hp⟩:=lR n λi hi=>h i (by omega)
  obtain⟨x,hx⟩:=h n (by omega);refine⟨l++[x],by simp[hl],λi hi=>?_⟩
  rcases Nat.lt_or_ge i l.length with ai|hge
  .rw[List.getElem_append_left ai];exact hp i ai
  .obtain rfl:i=n:=by simp at hi;omega
   rw[List.getElem_append_right hge];simpa[hl]using hx
theorem eI(ht:P.underlying t=some (.slice e))(hs:P.cellsOf e=r.size)(he:cZ P e r):cZ P t (.slice r):=by
 intro H enc w spare held fuel cs x h
 rcases open_slice ht h with⟨rfl,rfl⟩|⟨ad,len,cap,m,n,D,Pl,rfl,_,hl,hm,PZ,rfl,hi⟩
 .exact⟨[],bN.nil _ _ _,⟨by simp[maxLen],λx hx=>absurd hx (by simp)⟩,by simp[cr,Rows.uptoBulk]⟩
 .have X8:len<=m:=by rw[PZ];split<;>omega
  have key:∀i,i<len->∃y:r.den,∃nH,(nH.length=r.size/\(∀j,j<r.size->w.cell? ((ad.add (i*r.size)).add j)=nH[j]?))/\bN (here w) w r nH y/\WF r y/\cr r y<=Rows.uptoBulk (D i):=by
   intro i ik;obtain⟨nH,hc,US⟩:=hi i (by omega);rw[hs]at hc;obtain⟨_,sZ,wP⟩:=World.cells?_some hc;obtain⟨y,h1,h2,h3⟩:=he H enc w spare held n nH _ US;exact⟨y,nH,⟨sZ,wP⟩,h1,h2,h3⟩
  obtain⟨l,Mp,hp⟩:=lR len key;subst Mp;have ov:=r.size_pos;refine⟨l,⟨some ad,cap,rfl,hl,hm,λi hi=>?_⟩,⟨by omega,λx hx=>?_⟩,?_⟩
  .obtain⟨nH,⟨sZ,wP⟩,hr,_,_⟩:=hp i hi;obtain⟨Tq,⟨tQ,sW⟩,_⟩:=hp 0 (by omega);have h0:=sW 0 ov;rw[YX (by omega)]at h0;simp only[Nat.zero_mul,Addr.add,if_true]at h0
   have ta:ad.spot=aaK:=by
    cases ta:ad.spot with
    |none=>rfl
    |some q=>
     unfold World.cell? at h0;split at h0
     .simp[ta]at h0
     .cases h0
   obtain⟨bb,off,sp⟩:=ad;simp only at ta;subst ta;refine⟨bb,off,nH,rfl,block_lt_of_cell h0,sZ,λj u hu=>?_,hr⟩;have hj:j<nH.length:=(Zd.1 hu).1;have:=wP j (by omega);rw[bT,bT]at this;rw[this,hu]
  .obtain⟨i,hi,rfl⟩:=ZJ hx;obtain⟨_,_,_,h2,_⟩:=hp i hi;exact h2
  .simp only[cr,Rows.uptoBulk,lE]
   have:∀(n:Nat),n<=l.length->((l.take n).map (cr r)).sum<=(((Y1 n).map D).map Rows.uptoBulk).sum:=by
    intro n hn
    induction n with
    |zero=>simp
    |succ n ih=>
     have h1:=ih (by omega);obtain⟨_,_,_,_,h3⟩:=hp n (by omega);rw[List.take_succ_eq_append_getElem (by omega),List.range_succ];simp only[ZU,List.sum_append,List.map_cons,List.map_nil,List.sum_cons,List.sum_nil];omega
   have h1:=this l.length (YY _);rw[Zh]at h1;omega
theorem dp{f:Field}{off:Nat}(ho:f.offset=off)(hc:P.cellsOf f.type=r.size)(he:cZ P f.type r):qY P [f] r off:=by
 intro H enc w spare held n cs xs hl hx _;subst ho
 match xs,hl with
 |[x],_=>
  have h:=hx 0 f rfl;rw[hc]at h;obtain⟨y,h1,h2,h3⟩:=he H enc w spare held n _ x h;exact⟨y,h1,h2,by simpa[Rows.uptoBulkAll]using h3⟩
theorem aY{f:Field}{fs:List Field}{off:Nat}(ho:f.offset=off)(hc:P.cellsOf f.type=a.size)(he:cZ P f.type a)(hr:qY P fs b (off+a.size)):qY P (f::fs) (.pair a b) off:=by
 intro H enc w spare held n cs xs hl hx hle;subst ho
 match xs,hl with
 |x::xs,hl=>
  have h:=hx 0 f rfl;rw[hc]at h;obtain⟨y,h1,h2,h3⟩:=he H enc w spare held n _ x h;simp only[Row.size]at hle;obtain⟨z,g1,g2,g3⟩:=hr H enc w spare held n cs xs (by simpa using hl) (λi f' hf=>by simpa using hx (i+1) f' (by simpa using hf)) (by omega);refine⟨(y,z),⟨_,_,?_,h1,g1⟩,⟨h2,g2⟩,by simp only[cr,List.map_cons,Rows.uptoBulkAll];omega⟩;simp only[Row.size];rw[<-List.drop_drop,List.take_add]
theorem cT{fs:Array Field}(ht:P.underlying t=some (.struct fs))(hc:P.cellsOf t=r.size)(h:qY P fs.toList r 0):cZ P t r:=by
 intro H enc w spare held fuel cs x hx;obtain⟨xs,n,_,rfl,hlen,vd,hf⟩:=DataW.trod_struct ht hx;rw[hc]at hlen;obtain⟨y,h1,h2,h3⟩:=h H enc w spare held n cs xs (by simpa using vd) (λi f hi=>hf i f (by simpa using hi)) (by omega);rw[List.drop_zero,<-hlen,Zh]at h1;exact⟨y,h1,h2,by simp only[Rows.uptoBulk];omega⟩
variable {H:Type} {enc:TypeId×Value->H} {w:World} {base:Nat} {spare:Nat->Bool} {held:Bool} {v:Value} {d:DataW H} {ps:List MemPlace}
theorem zv{fs:Array Field}(ht:P.underlying t=some (.struct fs))(ho:cZ P t r)(hv:Value.okWide P w .any base t v)(h:DataW.Trod enc P w 0 spare held t v d ps):
 ∃(es:List Value)(x:r.den),v= .agg es.toArray/\bN (here w) w r es x/\WF r x/\cr r x<=Rows.uptoBulk d:=by
 obtain⟨cs,rfl,_⟩:=okWide_struct ht hv;obtain⟨fuel,hf⟩:=h;obtain⟨x,h1,h2,h3⟩:=ho H enc w spare held fuel _ _ hf;exact⟨cs.toList,x,by simp,by simpa[Value.cells]using h1,h2,h3⟩
theorem nr(hl:laidOutB P=aaL){W W':World}(hb:Below W.heap.size W W'){sp:Nat->Bool}:(ts:List TypeId)->(vs:List Value)->(ds:List (DataW H))->(ps:List MemPlace)->
 (∀t∈ts,(P.readableRec t&&ZK t P.types.size)=aaL)->DataW.TrodAll enc P W 0 (λ_=>aaL) aaL ts vs ds ps->(∀x∈ps,x.block<W.heap.size)->(∀x∈ps,sp x.block=aaL)->DataW.TrodAll enc P W' 0 sp aaL ts vs ds ps
 |[],[],[],_,_,h,_,_=>h
 |t::ts,v::vs,d::ds,ps,hr,h,ai,ta=>by
  obtain⟨p,q,h1,h2,rfl⟩:=h;have ht:=hr t (by simp);simp only[ZE,Nat.blt_eq]at ht
  exact⟨p,q,WideElems.Trod_stays hl ht.1 ht.2 h1 (λx hx=>hb.same (ai x (by simp[hx]))) (λx hx=>ta x (by simp[hx])),
   nr hl hb ts vs ds q (λt ht=>hr t (by simp[ht])) h2 (λx hx=>ai x (by simp[hx])) (λx hx=>ta x (by simp[hx])),rfl⟩
theorem tc{f:Func}{s:ChangeSpec}{apart fresh handsOn again:Bool}{W W':World}{args:Array Value}{v:Value}{ds gs:List (DataW H)}{before pa pv:List MemPlace}
 (hW:DataW.Whole enc P f.params.toList s.vars apart W args.toList ds gs before)
 (ve:∀(b:Nat)(sp:Nat->Bool)(hd:Bool),DataW.TrodAll enc P W' b sp hd f.resultTypes.toList (v.resultList f.resultTypes.size) (s.fn H (ds++gs)).results [])
 (Bn:∀sp:Nat->Bool,(∀p∈before,sp p.block=aaL)->DataW.TrodAll enc P W' 0 sp aaL f.params.toList args.toList (s.fn H (ds++gs)).args pa)
 (JT:∀sp:Nat->Bool,(∀p∈before,sp p.block=aaL)->DataW.TrodVars enc P W' sp s.vars (s.fn H (ds++gs)).vars pv)
 (Pf:before=pa++pv)(hb:Below W.heap.size W W')
 (jL:∀(j:Nat)(t:TypeId)(r:Value),f.resultTypes[j]? =some t->(v.resultList f.resultTypes.size)[j]? =some r->Value.okWide P W' .any 0 t r):
 s.post enc P f apart fresh handsOn again W args v W':=by
 have ai:∀p∈before,p.block<W.heap.size:=λp hp=>hW.lt p hp
 have hold:∀p∈before,(λb=>decide (b<W.heap.size)) p.block=aaL:=λp hp=>by simpa using ai p hp
 refine⟨ds,gs,before,[],pa,pv,hW,ve _ _ _,Bn _ hold,JT _ hold,World.keptBut_mono (λp hp=>⟨hp,?_⟩) (hb.frame (· ∈before)),λ_=>?_⟩
 .rw[Pf,Y7]at hp;exact Or.inr hp
 .obtain⟨_,_,_,_,_,hz,hn⟩:=hW;refine⟨jL,_,_,([]++pa)++pv,⟨[]++pa,pv,trodAll_append (Bn _ (λ_ _=>rfl)) (ve _ _ _),JT _ (λ_ _=>rfl),rfl,?_,?_⟩,?_⟩
  .intro b off hp
   have bL:MemPlace.cell b off∈before:=by rw[Pf];simpa using hp
   rw[hb.frozen (ai _ bL)];exact hz b off bL
  .intro ha;have:=hn ha;rw[Pf]at this;simpa using this
  .intro p hp _;rw[Pf];simpa using hp
end
end
section
def eG{α:Type}(l:List α)(a b:Int):Option (List α):=if 0<=a/\a<=b/\b<=l.length then some ((l.take b.toNat).drop a.toNat)else aaK
variable {F:Nat->Prop} {w:World} {r:Row}
theorem bN.cut{A:Option Addr}{cap:Nat}{l:List r.den}{a b:Nat}(h:bN F w (.slice r) [.slice A l.length cap] l)(h1:a<=b)(h2:b<=l.length):
 bN F w (.slice r) [sliced A a b cap r.size] ((l.take b).drop a):=by
 obtain⟨A',Fj,hv,hc,hm,hs⟩:=h;simp only[Z8,aag,and_true,true_and]at hv;obtain⟨rfl,rfl⟩:=hv
 have hlen:((l.take b).drop a).length=b-a:=by simp;omega
 refine⟨_,cap-a,by rw[hlen];rfl,by omega,by omega,λi hi=>?_⟩
 have ik:a+i<l.length:=by omega
 obtain⟨g,off,es,rfl,hF,qI,ot,hr⟩:=hs (a+i) ik;refine⟨g,off+a*r.size,es,?_,hF,qI,λj u hu=>?_,?_⟩
 .rw[aaO (by omega),Option.map_some,bT]
 .rw[<-ot j u hu]
  congr 2
  rw[ZH];omega
 .have:((l.take b).drop a)[i]=l[a+i]:=by simp
  rw[this];exact hr
section
variable {P:Program} {n:Nat} {ops:Array Oper} {K:(Nat->Value)->World->Prop} {rest:List Oper} {ρ:Nat->Value}
variable {d:Nat} {ty:TypeId} {pos:String} {aft:Array Edge} {x y z:Operand} {t e:TypeId}
theorem Iy{t e:TypeId}(ht:P.underlying t=some (.slice e)):P.underlying t=some (.slice (P.elem t)):=by
 simp[Program.elem,ht]
inductive KE(ρ:Nat->Value):Option Operand->Option Int->Prop
 |none:KE ρ aaK aaK
 |some {x:Operand} {k:IntKind} {i:Int} (h:ev ρ x= .int k i):KE ρ (some x) (some i)
theorem qZ{ti:TypeInfo}{A:Option Addr}{len cap:Nat}{lo hi:Option Operand}{a b:Option Int}(ht:P.underlying t=some (.slice e))(ik:P.info? e=some ti)(hx:ev ρ x= .slice A len cap)
 (ha:KE ρ lo a)(hb:KE ρ hi b)(h0:0<=a.getD 0)(h1:a.getD 0<=b.getD len)(h2:b.getD len<=len)(hc:len<=cap):
 (execOp (ev ρ) ⟨some d, .slice t x lo hi aaK,ty,pos,aft,aaK⟩).run P w= .ok (.value (sliced A (a.getD 0).toNat (b.getD len).toNat cap ti.size)) w:=by
 have JU:=Iy ht
 have he:P.elem t=e:=by simp[Program.elem,ht]
 cases ha with
 |none=>
  cases hb with
  |none=>
   have:=run_slice_all (P:=P) (w:=w) t A len cap JU;simp[execOp,hx,run_sliceAt_slice (P:=P) w t _ _ _ _ JU,this,he,sizeOf,typeInfo,ik]
  |some hh=>
   rename_i xb kb ib;have:=run_slice_h (P:=P) (w:=w) t A len cap JU kb ib (by simpa using h1) (by simp at h2;omega);simp[execOp,hx,hh,run_sliceAt_slice (P:=P) w t _ _ _ _ JU,this,he,sizeOf,typeInfo,ik]
 |some hl=>
  rename_i xa ka ia
  cases hb with
  |none=>
   have:=run_slice_l (P:=P) (w:=w) t A len cap JU ka ia (by simpa using h0) (by simpa using h1);simp[execOp,hx,hl,run_sliceAt_slice (P:=P) w t _ _ _ _ JU,this,he,sizeOf,typeInfo,ik]
  |some hh=>
   rename_i xb kb ib;have:=run_slice_lh (P:=P) (w:=w) t A len cap JU ka kb ia ib (by simpa using h0) (by simpa using h1) (by simp at h2;omega);simp[execOp,hx,hl,hh,run_sliceAt_slice (P:=P) w t _ _ _ _ JU,this,he,sizeOf,typeInfo,ik]
theorem pe{α:Type}{l m:List α}{a b:Int}(h:eG l a b=some m):∃p q:Nat,a=p/\b=q/\p<=q/\q<=l.length/\m=(l.take q).drop p:=by
 unfold eG at h;split at h
 case isFalse=>cases h
 rename_i hc;exact⟨a.toNat,b.toNat,by omega,by omega,by omega,by omega,(YU h).symm⟩
end
end
def Fv:List (Nat×((r:Row)×r.den)):=[]
section
inductive DR where
 |leaf (r:Row)
 |sl (T:TypeId) (d:DR)
 |pair (a b:DR)
@[reducible] def DR.row:DR->Row
  | .leaf r=>r
  | .sl _ d=> .slice d.row
  | .pair a b=> .pair a.row b.row
@[reducible] def DR.low:DR->Row
  | .leaf r=>r
  | .sl _ _=> .iU
  | .pair a b=> .pair a.low b.low
theorem DR.size:(d:DR)->d.low.size=d.row.size
 | .leaf _=>rfl
 | .sl _ _=>rfl
 | .pair a b=>by show a.low.size+b.low.size=a.row.size+b.row.size;rw[a.size,b.size]
inductive dV:DR->DR->Type where
 |here {d:DR}:dV d d
 |fst {a b e:DR} (p:dV a e):dV (.pair a b) e
 |snd {a b e:DR} (p:dV b e):dV (.pair a b) e
def dV.lo:{d e:DR}->dV d e->Path d.low e.low
 |_,_, .here=> .here
 |_,_, .fst p=> .fst p.lo
 |_,_, .snd p=> .snd p.lo
def dV.hi:{d e:DR}->dV d e->Path d.row e.row
 |_,_, .here=> .here
 |_,_, .fst p=> .fst p.hi
 |_,_, .snd p=> .snd p.hi
def DR.path:(d:DR)->List Bool->Option ((e:DR)×dV d e)
 |d,[]=>some ⟨d, .here⟩
 | .pair a b,c::p=>match c with
   |false=>match a.path p with
    |some ⟨e,q⟩=>some ⟨e, .fst q⟩
    |none=>aaK
   |true=>match b.path p with
    |some ⟨e,q⟩=>some ⟨e, .snd q⟩
    |none=>aaK
 |_,_::_=>aaK
def iL(F:Nat->Prop)(w:World)(T:TypeId)(r:Row)(v:Value)(l:List r.den):Prop:=
 ∃xs,jP w 0 T r.size v l.length xs/\∀i(h:i<l.length),bN F w r ((xs.drop (i*r.size)).take r.size) l[i]
structure kw(Ss:Nat->Nat->Prop)(n:Nat)(m:Nat->Prop)(S:Nat->Prop):Prop where
 all:∀k,S k↔m k\/∃i,i<n/\Ss i k
 two:∀i j k,i<n->j<n->i≠j->Ss i k->¬Ss j k
 out:∀i k,i<n->Ss i k->¬m k
structure Fw(A B S:Nat->Prop):Prop where
 all:∀k,S k↔A k\/B k
 off:∀k,A k->¬B k
def CX{α:Type}(F:Nat->Prop)(w:World)(T:TypeId)(r:Row)(rel:Nat->r.den->α->(Nat->Prop)->Prop)(u:Value)(l:List α)(S:Nat->Prop):Prop:=
 ∃(lh:List r.den)(Ss:Nat->Nat->Prop),iL F w T r u lh/\lh.length=l.length/\(∀i(h1:i<lh.length)(h2:i<l.length),rel i lh[i] l[i] (Ss i))/\kw Ss l.length (ba u) S
def gI(F:Nat->Prop)(w:World):(d:DR)->d.low.den->d.row.den->(Nat->Prop)->Prop
 | .leaf _,x',x,S=>x'=x/\∀k,¬S k
 | .sl T d,u,l,S=>CX F w T d.low (λ_=>gI F w d) u l S
 | .pair a b,x',x,S=>∃A B,gI F w a x'.1 x.1 A/\gI F w b x'.2 x.2 B/\Fw A B S
def iV(F:Nat->Prop)(w:World):{d e:DR}->dV d e->d.low.den->d.row.den->(Nat->Prop)->Prop
 |_,_, .here,_,_,S=>∀k,¬S k
 |_,_, .fst (b:=b) p,x',x,S=>∃A B,iV F w p x'.1 x.1 A/\gI F w b x'.2 x.2 B/\Fw A B S
 |_,_, .snd (a:=a) p,x',x,S=>∃A B,gI F w a x'.1 x.1 A/\iV F w p x'.2 x.2 B/\Fw A B S
section
variable {F F':Nat->Prop} {w w':World} {T:TypeId} {S:Nat->Prop}
theorem iL.to{r:Row}{v:Value}{l:List r.den}(h:iL F w T r v l)(hn:∀k,ba v k->¬F k):fN 0 F w T r v l:=⟨hn,h⟩
theorem iL.keep{r:Row}{v:Value}{l:List r.den}(h:iL F w T r v l)(hs:Step F w F' w')(hb:∀k,ba v k->w'.heap[k]? =w.heap[k]?):iL F' w' T r v l:=by
 obtain⟨xs,⟨tM,zb⟩,h3⟩:=h;refine⟨xs,⟨tM,?_⟩,λi hi=>(h3 i hi).step hs⟩
 rcases zb with h2|⟨gg,o0,cap,cur,rfl,qX,hg,rest⟩
 .exact .inl h2
 .exact .inr ⟨gg,o0,cap,cur,rfl,qX,(hb gg rfl).trans hg,rest⟩
theorem iL.lt{r:Row}{v:Value}{l:List r.den}(h:iL F w T r v l):∀k,ba v k->k<w.heap.size:=by
 obtain⟨xs,h,_⟩:=h
 exact λk hk=>(h.lt k hk).2
theorem iL.one{r:Row}{v:Value}{l:List r.den}(h:iL F w T r v l):v.oneCell'=aaL:=by
 obtain⟨xs,⟨_,h⟩,_⟩:=h
 rcases h with⟨rfl,_⟩|⟨gg,o0,cap,cur,rfl,_⟩<;>rfl
theorem iL.nil(F:Nat->Prop)(w:World)(T:TypeId)(r:Row):iL F w T r (.slice aaK 0 0) []:=(fN.nil 0 F w T r).2
theorem Fw.left{A B:Nat->Prop}(h:Fw A B S):∀k,A k->S k:=λk hk=>(h.all k).2 (.inl hk)
theorem Fw.right{A B:Nat->Prop}(h:Fw A B S):∀k,B k->S k:=λk hk=>(h.all k).2 (.inr hk)
theorem kw.ba{Ss:Nat->Nat->Prop}{n:Nat}{m:Nat->Prop}(h:kw Ss n m S):∀k,m k->S k:=λk hk=>(h.all k).2 (.inl hk)
theorem kw.part{Ss:Nat->Nat->Prop}{n:Nat}{m:Nat->Prop}(h:kw Ss n m S){i:Nat}(hi:i<n):∀k,Ss i k->S k:=λk hk=>(h.all k).2 (.inr ⟨i,hi,hk⟩)
theorem CX.mono{α:Type}{r:Row}{rel MU:Nat->r.den->α->(Nat->Prop)->Prop}{u:Value}{l:List α}(h:CX F w T r rel u l S)(hs:Step F w F' w')(hb:∀k,S k->w'.heap[k]? =w.heap[k]?)
 (hr:∀i x'(hi:i<l.length)A,(∀k,A k->S k)->rel i x' l[i] A->MU i x' l[i] A):CX F' w' T r MU u l S:=by
 obtain⟨lh,Ss,h1,h2,h3,h4⟩:=h;exact⟨lh,Ss,h1.keep hs λk hk=>hb k (h4.ba k hk),h2,λi a b=>hr i _ b _ (h4.part b) (h3 i a b),h4⟩
theorem gI.keep(hs:Step F w F' w'):{d:DR}->{x':d.low.den}->{x:d.row.den}->{S:Nat->Prop}->gI F w d x' x S->(∀k,S k->w'.heap[k]? =w.heap[k]?)->gI F' w' d x' x S
 | .leaf _,_,_,_,h,_=>h
 | .sl T d,u,l,S,h,hb=>CX.mono (show CX F w T d.low _ u l S from h) hs hb λi x' hi A hA hr=>gI.keep hs hr λk hk=>hb k (hA k hk)
 | .pair a b,_,_,_,h,hb=>by
   obtain⟨A,B,h1,h2,h3⟩:=h;exact⟨A,B,h1.keep hs λk hk=>hb k (h3.left k hk),h2.keep hs λk hk=>hb k (h3.right k hk),h3⟩
theorem iV.keep(hs:Step F w F' w'):{d e:DR}->{p:dV d e}->{x':d.low.den}->{x:d.row.den}->{S:Nat->Prop}->iV F w p x' x S->(∀k,S k->w'.heap[k]? =w.heap[k]?)->iV F' w' p x' x S
 |_,_, .here,_,_,_,h,_=>h
 |_,_, .fst p,_,_,_,h,hb=>by
  obtain⟨A,B,h1,h2,h3⟩:=h;exact⟨A,B,iV.keep hs h1 λk hk=>hb k (h3.left k hk),h2.keep hs λk hk=>hb k (h3.right k hk),h3⟩
 |_,_, .snd p,_,_,_,h,hb=>by
  obtain⟨A,B,h1,h2,h3⟩:=h;exact⟨A,B,h1.keep hs λk hk=>hb k (h3.left k hk),iV.keep hs h2 λk hk=>hb k (h3.right k hk),h3⟩
theorem gI.lt:{d:DR}->{x':d.low.den}->{x:d.row.den}->{S:Nat->Prop}->gI F w d x' x S->∀k,S k->k<w.heap.size
 | .leaf _,_,_,_,h,k,hk=>absurd hk (h.2 k)
 | .sl T d,u,l,S,h,k,hk=>by
   obtain⟨lh,Ss,h1,h2,h3,h4⟩:=h
   rcases(h4.all k).1 hk with hm|⟨i,hi,hm⟩
   .exact h1.lt k hm
   .exact gI.lt (h3 i (by omega) hi) k hm
 | .pair a b,_,_,_,h,k,hk=>by
   obtain⟨A,B,h1,h2,h3⟩:=h
   rcases(h3.all k).1 hk with hm|hm
   .exact gI.lt h1 k hm
   .exact gI.lt h2 k hm
theorem gI.freeze:{d:DR}->{cs:List Value}->{x':d.low.den}->{x:d.row.den}->{S:Nat->Prop}->gI F w d x' x S->(∀k,S k->¬F k)->bN F w d.low cs x'->bN (λb=>F b\/S b) w d.row cs x
 | .leaf _,_,_,_,S,h,_,hr=>by
   obtain⟨rfl,_⟩:=h;exact hr.step (Step.freeze F w S)
 | .sl T d,cs,u,l,S,h,hn,hr=>by
   obtain⟨lh,Ss,⟨xs,hx,MV⟩,h2,h3,h4⟩:=h;obtain⟨rfl,_⟩:=hr
   have zw:fN 0 (λb=>F b\/∃i,i<l.length/\Ss i b) w T d.row u l:=by
    refine⟨λk hk hF=>?_,xs,?_,λi hi=>?_⟩
    .rcases hF with hF|⟨i,hi,hm⟩
     .exact hn k (h4.ba k hk) hF
     .exact h4.out i k hi hm hk
    .rw[<-d.size,<-h2];exact hx
    .have ik:i<lh.length:=by omega
     have:=gI.freeze (h3 i ik hi) (λk hk=>hn k (h4.part hi k hk)) (MV i ik);rw[<-d.size]
     exact this.step λb hb=>⟨hb.imp id λhb=>⟨i,hi,hb⟩,rfl⟩
   exact zw.freeze.step (r:= .slice d.row) λb hb=>⟨by
    rcases hb with(hb|⟨i,hi,hb⟩)|hb
    .exact .inl hb
    .exact .inr (h4.part hi b hb)
    .exact .inr (h4.ba b hb),rfl⟩
 | .pair a b,_,_,_,S,h,hn,hr=>by
   obtain⟨A,B,h1,h2,h3⟩:=h;obtain⟨c1,c2,rfl,r1,r2⟩:=hr;exact⟨c1,c2,rfl,(gI.freeze h1 (λk hk=>hn k (h3.left k hk)) r1).step λb hb=>⟨hb.imp id (h3.left b),rfl⟩,(gI.freeze h2 (λk hk=>hn k (h3.right k hk)) r2).step λb hb=>⟨hb.imp id (h3.right b),rfl⟩⟩
theorem gI.out:{d e:DR}->(p:dV d e)->{x':d.low.den}->{x:d.row.den}->{S:Nat->Prop}->gI F w d x' x S->∃A B,gI F w e (p.lo.get x') (p.hi.get x) A/\iV F w p x' x B/\Fw A B S
 |_,_, .here,_,_,S,h=>⟨S,λ_=>False,h,λ_ h=>h,⟨λk=>by simp,λ_ _ h=>h⟩⟩
 |_,_, .fst p,_,_,S,h=>by
  obtain⟨A,B,h1,h2,h3⟩:=h;obtain⟨A1,A2,g1,g2,g3⟩:=gI.out p h1;refine⟨A1,λk=>A2 k\/B k,g1,⟨A2,B,g2,h2,λk=>Iff.rfl,λk hk=>h3.off k (g3.right k hk)⟩,λk=>?_,λk hk hh=>?_⟩
  .rw[h3.all,g3.all,or_assoc]
  .exact hh.elim (g3.off k hk) (h3.off k (g3.left k hk))
 |_,_, .snd p,_,_,S,h=>by
  obtain⟨A,B,h1,h2,h3⟩:=h;obtain⟨B1,B2,g1,g2,g3⟩:=gI.out p h2;refine⟨B1,λk=>A k\/B2 k,g1,⟨A,B2,h1,g2,λk=>Iff.rfl,λk hk hh=>h3.off k hk (g3.right k hh)⟩,λk=>?_,λk hk hh=>?_⟩
  .rw[h3.all,g3.all];constructor<;>(intro h;rcases h with h|h|h<;>simp[h])
  .exact hh.elim (λhh=>h3.off k hh (g3.left k hk)) (g3.off k hk)
theorem iV.put:{d e:DR}->(p:dV d e)->{x':d.low.den}->{x:d.row.den}->{y':e.low.den}->{y:e.row.den}->{A B S:Nat->Prop}->iV F w p x' x B->gI F w e y' y A->Fw A B S->gI F w d (p.lo.set x' y') (p.hi.set x y) S
 |_,_, .here,_,_,y',y,A,B,S,h,hy,h3=>by
  have:A=S:=by
   funext k;exact propext ⟨λhk=>h3.left k hk,λhk=>((h3.all k).1 hk).elim id λhb=>absurd hb (h k)⟩
  subst this;exact hy
 |_,_, .fst p,x',x,y',y,A,B,S,h,hy,h3=>by
  obtain⟨A2,B2,g1,g2,g3⟩:=h
  have t1:Fw A A2 (λk=>A k\/A2 k):=⟨λ_=>Iff.rfl,λk hk h2=>h3.off k hk (g3.left k h2)⟩
  refine⟨λk=>A k\/A2 k,B2,iV.put p g1 hy t1,g2,λk=>?_,λk hk h2=>?_⟩
  .rw[h3.all,g3.all,or_assoc]
  .exact hk.elim (λhk=>h3.off k hk (g3.right k h2)) λhk=>g3.off k hk h2
 |_,_, .snd p,x',x,y',y,A,B,S,h,hy,h3=>by
  obtain⟨A2,B2,g1,g2,g3⟩:=h
  have t1:Fw A B2 (λk=>A k\/B2 k):=⟨λ_=>Iff.rfl,λk hk h2=>h3.off k hk (g3.right k h2)⟩
  refine⟨A2,λk=>A k\/B2 k,g1,iV.put p g2 hy t1,λk=>?_,λk hk h2=>?_⟩
  .rw[h3.all,g3.all];constructor<;>(intro h;rcases h with h|h|h<;>simp[h])
  .exact h2.elim (λh2=>h3.off k h2 (g3.left k hk)) λh2=>g3.off k hk h2
theorem iV.set:{d e:DR}->(p:dV d e)->{x':d.low.den}->{x:d.row.den}->{S:Nat->Prop}->(y':e.low.den)->(y:e.row.den)->iV F w p x' x S->iV F w p (p.lo.set x' y') (p.hi.set x y) S
 |_,_, .here,_,_,_,_,_,h=>h
 |_,_, .fst p,_,_,_,y',y,h=>by
  obtain⟨A,B,h1,h2,h3⟩:=h;exact⟨A,B,h1.set p y' y,h2,h3⟩
 |_,_, .snd p,_,_,_,y',y,h=>by
  obtain⟨A,B,h1,h2,h3⟩:=h;exact⟨A,B,h1,h2.set p y' y,h3⟩
end
end
section
inductive Tree where
 |leaf (r:Row) (x:r.den)
 |own (o:Nat)
 |nil
 |pair (a b:Tree)
 |view (o s:Nat) (r:Row) (m:List r.den)
 |junk (n:Nat)
structure rz where
 i:Int
 p:List Bool
 o:Nat
 s:Nat
inductive Th where
 |box (T:TypeId) (t:Tree)
 |own (T:TypeId) (r:Row) (l:List r.den)
 |pf (T:TypeId) (r:Row) (l:List r.den)
 |map (T:TypeId) (K:Row) (agg:Bool) (V:Row) (l:List (K.den×V.den))
 |fmap (T:TypeId) (K:Row) (agg:Bool) (V:Row) (l:List (K.den×V.den))
 |deep (T:TypeId) (d:DR) (l:List d.row.den) (h:Option rz)
 |fdeep (T:TypeId) (d:DR) (l:List d.row.den)
 |smap (T:TypeId) (K:Row) (agg:Bool) (V:Row) (l:List (K.den×V.den)) (it:Option (Nat×List (K.den×V.den)×Option (K.den×V.den)))
def Th.base:Th->Th
 | .pf T r l=> .own T r l
 | .fmap T K agg V l=> .map T K agg V l
 | .fdeep T d l=> .deep T d l aaK
 |t=>t
inductive ag where
 |dead
 |undef
 |val (agg:Bool) (t:Tree)
 |ptr (o:Nat) (p:List Bool) (off:Nat)
 |at (r:Row) (x:r.den)
 |elem (o s:Nat) (r:Row) (i:Int) (x:r.den) (p:List Bool) (off:Nat)
 |tup (ds:List (Bool×Tree))
 |dlm (o:Nat) (d:DR) (i:Int) (p:List Bool) (off:Nat)
 |fn (f:FuncId) (caps:List (Nat×List Bool×Nat))
 |ifc (T:TypeId) (d:ag)
structure aj where
 val:Nat->Option Value
 con:Nat->Option Th
 sub:Nat->Nat->Prop
structure aj.le(H H':aj):Prop where
 val:∀o v,H.val o=some v->H'.val o=some v
 con:∀s t,H.con s=some t->H'.con s=some t
 sub:∀s t,H.con s=some t->H'.sub s=H.sub s
theorem aj.le.refl(H:aj):H.le H:=⟨λ_ _ h=>h,λ_ _ h=>h,λ_ _ _=>rfl⟩
theorem aj.le.trans{H H' qL:aj}(h:H.le H')(k:H'.le qL):H.le qL:=⟨λo v e=>k.val o v (h.val o v e),λo v e=>k.con o v (h.con o v e),λs t e=>(k.sub s t (h.con s t e)).trans (h.sub s t e)⟩
def iW(H:aj)(o s:Nat)(r:Row)(m:List r.den)(v:Value):Prop:=
 ∃A cap T,∃l:List r.den,∃a b,H.val o=some (.slice A l.length cap)/\H.con s=some (.own T r l)/\a<=b/\b<=l.length/\m=(l.take b).drop a/\v=sliced A a b cap r.size
theorem iW.keep{H H':aj}(hH:H.le H'){o s:Nat}{r:Row}{m:List r.den}{v:Value}(h:iW H o s r m v):iW H' o s r m v:=by
 obtain⟨A,cap,T,l,a,b,h1,h2,h3⟩:=h;exact⟨A,cap,T,l,a,b,hH.val _ _ h1,hH.con _ _ h2,h3⟩
theorem iW.back{H H' qL:aj}(hH:H.le H')(zx:H.le qL){o s:Nat}{r:Row}{m:List r.den}{v0 v:Value}(h0:iW H o s r m v0)(h:iW H' o s r m v):iW qL o s r m v:=by
 obtain⟨A,cap,T,l,a,b,h1,h2,_⟩:=h0;obtain⟨A',Fj,T',l',a',b',k1,k2,k3⟩:=h;have e1:=hH.val _ _ h1;have e2:=hH.con _ _ h2;rw[k1]at e1;rw[k2]at e2;simp only[Y3,Th.own.injEq,heq_eq_eq,true_and]at e2;obtain⟨rfl,rfl⟩:=e2;exact⟨A',Fj,T',l',a',b',by rw[e1];exact zx.val _ _ h1,zx.con _ _ h2,k3⟩
theorem iW.one{H:aj}{o s:Nat}{r:Row}{m:List r.den}{v:Value}(h:iW H o s r m v):v.oneCell'=aaL:=by
 obtain⟨A,cap,T,l,a,b,_,_,_,_,_,rfl⟩:=h;simp[sliced,aaf]
def il(H:aj):List (Nat×List Bool×Nat)->List Value->Prop
 |[],vs=>vs=[]
 |c::cs,vs=>∃v us,vs=v::us/\(∃b,H.val c.1=some (.pointer (some ⟨b,0,aaK⟩))/\v= .pointer (some ⟨b,c.2.2,aaK⟩))/\il H cs us
theorem il.keep{H H':aj}(hH:∀o v,H.val o=some v->H'.val o=some v):{cs:List (Nat×List Bool×Nat)}->{vs:List Value}->il H cs vs->il H' cs vs
 |[],_,h=>h
 |_::_,_,h=>by obtain⟨v,us,e,⟨b,h1,h2⟩,h3⟩:=h;exact⟨v,us,e,⟨b,hH _ _ h1,h2⟩,h3.keep hH⟩
def Holds(H:aj)(F:Nat->Prop)(w:World):Tree->List Value->Prop
 | .leaf r x,cs=>bN F w r cs x
 | .own o,cs=>∃v,H.val o=some v/\v.oneCell'=aaL/\cs=[v]
 | .nil,cs=>cs=[.slice aaK 0 0]
 | .pair a b,cs=>∃c1 c2,cs=c1++c2/\Holds H F w a c1/\Holds H F w b c2
 | .view o s r m,cs=>∃v,cs=[v]/\iW H o s r m v
 | .junk n,cs=>cs.length=n/\∀u∈cs,u.oneCell'=aaL
def Tree.size:Tree->Nat
 | .leaf r _=>r.size
 | .own _=>1
 | .nil=>1
 | .pair a b=>a.size+b.size
 | .view .. =>1
 | .junk n=>n
def aw(H:aj)(F:Nat->Prop)(w:World)(agg:Bool)(t:Tree)(v:Value):Prop:=
 ∃cs,Holds H F w t cs/\v=(bif agg then .agg cs.toArray else cs.headD undef)/\(agg=aaM->cs=[v])
def oy(H:aj)(F:Nat->Prop)(w:World):List (Bool×Tree)->List Value->Prop
 |[],vs=>vs=[]
 |d::ds,vs=>∃v us,vs=v::us/\aw H F w d.1 d.2 v/\oy H F w ds us
def af(H:aj)(F:Nat->Prop)(w:World):ag->Value->Prop
 | .dead,_=>True
 | .undef,v=>v=Go.undef
 | .val agg t,v=>aw H F w agg t v
 | .ptr o _ off,v=>∃b,H.val o=some (.pointer (some ⟨b,0,aaK⟩))/\v= .pointer (some ⟨b,off,aaK⟩)
 | .at r x,v=>∃b off,v= .pointer (some ⟨b,off,aaK⟩)/\F b/\At F w r b off x
 | .elem o s r i x _ off,v=>∃g o0 q T m cap l,H.val o=some (.slice (some ⟨g,o0,aaK⟩) m cap)/\i=(q:Nat)/\H.con s=some (.own T r l)/\idx l i=some x/\v= .pointer (some ⟨g,o0+q*r.size+off,aaK⟩)
 | .tup ds,v=>∃vs,v= .tuple vs.toArray/\oy H F w ds vs
 | .dlm o d i _ off,v=>∃g o0 q m cap,H.val o=some (.slice (some ⟨g,o0,aaK⟩) m cap)/\i=(q:Nat)/\v= .pointer (some ⟨g,o0+q*d.low.size+off,aaK⟩)
 | .fn f caps,v=>∃vs,v= .func (.func f) #[] vs.toArray/\il H caps vs
 | .ifc T d,v=>∃u,v= .iface T u/\af H F w d u
section
variable {H H':aj} {F F':Nat->Prop} {w w':World}
theorem Holds.length:{t:Tree}->{cs:List Value}->Holds H F w t cs->cs.length=t.size
 | .leaf _ _,_,h=>bN.length h
 | .own _,_,h=>by obtain⟨v,_,_,rfl⟩:=h;rfl
 | .nil,_,h=>by rw[show _=_ from h];rfl
 | .pair a b,_,h=>by obtain⟨c1,c2,rfl,h1,h2⟩:=h;simp[h1.length,h2.length,Tree.size]
 | .view ..,_,h=>by obtain⟨v,rfl,_⟩:=h;rfl
 | .junk _,_,h=>h.1
theorem Holds.gh:{t:Tree}->{cs:List Value}->Holds H F w t cs->∀u∈cs,u.oneCell'=aaL
 | .leaf _ _,_,h=>bN.gh h
 | .own _,_,h=>by obtain⟨v,_,h1,rfl⟩:=h;simpa using h1
 | .nil,_,h=>by rw[show _=_ from h];simp[aaf]
 | .pair a b,_,h=>by
   obtain⟨c1,c2,rfl,h1,h2⟩:=h;intro u hu
   rcases Y7.1 hu with h'|h'
   .exact h1.gh u h'
   .exact h2.gh u h'
 | .view ..,_,h=>by obtain⟨v,rfl,h⟩:=h;simpa using h.one
 | .junk _,_,h=>h.2
theorem Holds.keep(hH:H.le H')(hs:Step F w F' w'):{t:Tree}->{cs:List Value}->Holds H F w t cs->Holds H' F' w' t cs
 | .leaf _ _,_,h=>bN.step hs h
 | .own _,_,h=>by obtain⟨v,h0,h1,rfl⟩:=h;exact⟨v,hH.val _ _ h0,h1,rfl⟩
 | .nil,_,h=>h
 | .pair a b,_,h=>by obtain⟨c1,c2,rfl,h1,h2⟩:=h;exact⟨c1,c2,rfl,h1.keep hH hs,h2.keep hH hs⟩
 | .view ..,_,h=>by obtain⟨v,rfl,h⟩:=h;exact⟨v,rfl,h.keep hH⟩
 | .junk _,_,h=>h
theorem Holds.back{qL:aj}{w0:World}{F0:Nat->Prop}(hH:H.le H')(zx:H.le qL):{t:Tree}->{Tq cs:List Value}->Holds H F0 w0 t Tq->Holds H' F w t cs->Holds qL F w t cs
 | .leaf _ _,_,_,_,h=>h
 | .own _,_,_,h0,h=>by
   obtain⟨v,a0,_,_⟩:=h0;obtain⟨u,b0,b1,rfl⟩:=h;have:=hH.val _ _ a0;rw[b0]at this;obtain rfl:=YU this;exact⟨u,zx.val _ _ a0,b1,rfl⟩
 | .nil,_,_,_,h=>h
 | .pair a b,_,_,h0,h=>by
   obtain⟨_,_,_,a1,a2⟩:=h0;obtain⟨c1,c2,rfl,h1,h2⟩:=h;exact⟨c1,c2,rfl,Holds.back (w0:=w0) (F0:=F0) hH zx a1 h1,Holds.back (w0:=w0) (F0:=F0) hH zx a2 h2⟩
 | .view ..,_,_,h0,h=>by
   obtain⟨_,_,h0⟩:=h0;obtain⟨v,rfl,h⟩:=h;exact⟨v,rfl,h0.back hH zx h⟩
 | .junk _,_,_,_,h=>h
theorem aw.keep{agg:Bool}{t:Tree}{v:Value}(hH:H.le H')(hs:Step F w F' w')(h:aw H F w agg t v):aw H' F' w' agg t v:=by
 obtain⟨cs,h1,h2⟩:=h;exact⟨cs,h1.keep hH hs,h2⟩
theorem oy.keep(hH:H.le H')(hs:Step F w F' w'):{ds:List (Bool×Tree)}->{vs:List Value}->oy H F w ds vs->oy H' F' w' ds vs
 |[],_,h=>h
 |_::_,_,h=>by obtain⟨v,us,rfl,h1,h2⟩:=h;exact⟨v,us,rfl,h1.keep hH hs,h2.keep hH hs⟩
theorem At.keep{r:Row}{b off:Nat}{x:r.den}(hs:Step F w F' w')(hb:F b)(h:At F w r b off x):At F' w' r b off x:=by
 obtain⟨es,hl,hc,hr⟩:=h;exact⟨es,hl,λj u hu=>(World.cell?_of_block (hs b hb).2).trans (hc j u hu),hr.step hs⟩
theorem af.keep(hH:H.le H')(hs:Step F w F' w'):{d:ag}->{v:Value}->af H F w d v->af H' F' w' d v
 | .dead,_,_=>trivial
 | .undef,_,h=>h
 | .val _ _,_,h=>aw.keep hH hs h
 | .ptr _ _ _,_,h=>by obtain⟨b,h1,h2⟩:=h;exact⟨b,hH.val _ _ h1,h2⟩
 | .at _ _,_,h=>by obtain⟨b,off,h1,h2,h3⟩:=h;exact⟨b,off,h1,(hs b h2).1,h3.keep hs h2⟩
 | .elem ..,_,h=>by obtain⟨g,o0,q,T,m,cap,l,h1,h2,h3,h4⟩:=h;exact⟨g,o0,q,T,m,cap,l,hH.val _ _ h1,h2,hH.con _ _ h3,h4⟩
 | .tup _,_,h=>by obtain⟨vs,h1,h2⟩:=h;exact⟨vs,h1,h2.keep hH hs⟩
 | .dlm ..,_,h=>by obtain⟨g,o0,q,m,cap,h1,h2,h3⟩:=h;exact⟨g,o0,q,m,cap,hH.val _ _ h1,h2,h3⟩
 | .fn ..,_,h=>by obtain⟨vs,h1,h2⟩:=h;exact⟨vs,h1,h2.keep hH.val⟩
 | .ifc _ d,_,h=>by obtain⟨u,h1,h2⟩:=h;exact⟨u,h1,af.keep hH hs (d:=d) h2⟩
def find{α:Type}:List (Nat×α)->Nat->Option α
 |[],_=>aaK
 |(m,a)::l,n=>bif YZ m n then some a else find l n
def del{α:Type}(ns:List Nat):List (Nat×α)->List (Nat×α)
 |[]=>[]
 |(m,a)::l=>bif ns.any (YZ m)then del ns l else(m,a)::del ns l
theorem ax{α:Type}{m:Nat}{a:α}{l:List (Nat×α)}{n:Nat}:find ((m,a)::l) n=if m=n then some a else find l n:=by
 show(bif YZ m n then some a else find l n)=_
 by_cases h:m=n
 .subst h;simp
 .rw[aaO h]
  have:YZ m n=aaM:=by
   cases hb:YZ m n with
   |false=>rfl
   |true=>exact absurd (ZM hb) h
  simp[this]
theorem fh{α:Type}{l l':List (Nat×α)}{n:Nat}:find (l++l') n=(find l n).or (find l' n):=by
 induction l with
 |nil=>rfl
 |cons p l ih=>
  obtain⟨m,a⟩:=p;rw[aar,ax,ax,ih]
  split<;>rfl
theorem any_beq{ns:List Nat}{m:Nat}:ns.any (YZ m)=aaL↔m∈ns:=by
 simp only[List.any_eq_true,Nat.beq_eq];exact⟨λ⟨x,hx,e⟩=>e▸hx,λh=>⟨m,h,rfl⟩⟩
theorem fi{α:Type}{ns:List Nat}{l:List (Nat×α)}{n:Nat}{a:α}:find (del ns l) n=some a↔n∉ns/\find l n=some a:=by
 induction l with
 |nil=>simp[del,find]
 |cons p l ih=>
  obtain⟨m,b⟩:=p;unfold del
  cases hm:ns.any (YZ m)with
  |true=>
   have bL:=any_beq.1 hm;rw[cond_true,ih,ax];constructor
   .rintro⟨h1,h2⟩
    have cq:m≠n:=λe=>h1 (e▸bL)
    exact⟨h1,by rw[aaO cq];exact h2⟩
   .rintro⟨h1,h2⟩
    have cq:m≠n:=λe=>h1 (e▸bL)
    rw[aaO cq]at h2;exact⟨h1,h2⟩
  |false=>
   have bL:m∉ns:=λe=>by rw[any_beq.2 e]at hm;cases hm
   rw[cond_false,ax,ax];by_cases h:m=n
   .subst h;simp[bL]
   .simp only[aaO h];exact ih
def nJ(F:Nat->Prop)(w:World):Prop:=∀g d,find Fv g=some d->F g/\At F w d.1 g 0 d.2
theorem nJ.step{F F':Nat->Prop}{w w':World}(h:nJ F w)(hs:Step F w F' w'):nJ F' w':=λg d hg=>⟨(hs g (h g d hg).1).1,(h g d hg).2.keep hs (h g d hg).1⟩
def ec(H:aj)(F:Nat->Prop)(w:World)(K:Row)(agg:Bool)(V:Row):List MapEntry->List (K.den×V.den)->Prop
 |[],l=>l=[]
 |e::es,l=>∃k x l',l=(k,x)::l'/\gH K k=some e.key/\aw H F w agg (.leaf V x) e.val/\ec H F w K agg V es l'
theorem ec.keep{H H':aj}{F F':Nat->Prop}{w w':World}(hH:H.le H')(hs:Step F w F' w'){K:Row}{agg:Bool}{V:Row}:{es:List MapEntry}->{l:List (K.den×V.den)}->ec H F w K agg V es l->ec H' F' w' K agg V es l
 |[],_,h=>h
 |_::_,_,h=>by obtain⟨k,x,l',e,h1,h2,h3⟩:=h;exact⟨k,x,l',e,h1,h2.keep hH hs,ec.keep hH hs h3⟩
theorem ec.eL{H H':aj}{F:Nat->Prop}{w:World}{K:Row}{agg:Bool}{V:Row}:{es:List MapEntry}->{l:List (K.den×V.den)}->ec H F w K agg V es l->ec H' F w K agg V es l
 |[],_,h=>h
 |_::_,_,h=>by
  obtain⟨k,x,l',e,h1,⟨cs,h2,sX⟩,h3⟩:=h;exact⟨k,x,l',e,h1,⟨cs,h2,sX⟩,ec.eL h3⟩
noncomputable def bV:(K:Row)->K.den->K.den->Bool
 | .int _,a,b=>decide ((a:Int)=b)
 | .bool,a,b=>decide ((a:Bool)=b)
 | .str,a,b=>decide ((a:ByteArray)=b)
 | .pair (.int _) (.int _),a,b=>decide ((a.1:Int)=b.1/\(a.2:Int)=b.2)
 |_,_,_=>aaM
def zy(H:aj)(F:Nat->Prop)(w:World)(S:Nat->Prop)(K:Row)(agg:Bool)(V:Row)(b:Nat)(es:Array MapEntry)(clock:Nat):Option (Nat×List (K.den×V.den)×Option (K.den×V.den))->Prop
 |none=>True
 |some (n,left,cur)=>∃r since seen last,S r/\r≠b/\H.val n=some (.pointer (some ⟨r,0,aaK⟩))/\w.heap[r]? =some (.mapIter (some b) since seen last)/\(∀x∈es.toList,x.born<since)/\since<=last/\since<=clock/\
   (∃l2,ec H F w K agg V (leftOf es seen).toList l2/\l2.Perm left)/\∀p,cur=some p->last=clock/\∃e∈es.toList,(∃s0:Array Nat,seen=s0.push e.born)/\gH K p.1=some e.key/\aw H F w agg (.leaf V p.2) e.val
theorem zy.keep{H H':aj}{F F':Nat->Prop}{w w':World}{S:Nat->Prop}{K:Row}{agg:Bool}{V:Row}{b:Nat}{es:Array MapEntry}{clock:Nat}{it:Option (Nat×List (K.den×V.den)×Option (K.den×V.den))}
 (hH:H.le H')(hs:Step F w F' w')(hb:∀k,S k->w'.heap[k]? =w.heap[k]?)(h:zy H F w S K agg V b es clock it):zy H' F' w' S K agg V b es clock it:=by
 match it,h with
 |none,_=>trivial
 |some (n,left,cur),⟨r,since,seen,last,h1,h2,h3,h4,h5,h6,P0,⟨l2,h7,h8⟩,h9⟩=>
  exact⟨r,since,seen,last,h1,h2,hH.val _ _ h3,(hb r h1).trans h4,h5,h6,P0,⟨l2,h7.keep hH hs,h8⟩,λp hp=>by
   obtain⟨g1,e,g2,g3,g4,g5⟩:=h9 p hp
   exact⟨g1,e,g2,g3,g4,g5.keep hH hs⟩⟩
theorem zy.eL{H H':aj}{F:Nat->Prop}{w:World}{S:Nat->Prop}{K:Row}{agg:Bool}{V:Row}{b:Nat}{es:Array MapEntry}{clock:Nat}{it:Option (Nat×List (K.den×V.den)×Option (K.den×V.den))}
 (hn:∀n x u,it=some (n,x)->H.val n=some u->H'.val n=some u)(h:zy H F w S K agg V b es clock it):zy H' F w S K agg V b es clock it:=by
 match it,h,hn with
 |none,_,_=>trivial
 |some (n,left,cur),⟨r,since,seen,last,h1,h2,h3,h4,h5,h6,P0,⟨l2,h7,h8⟩,h9⟩,hn=>
  exact⟨r,since,seen,last,h1,h2,hn _ _ _ rfl h3,h4,h5,h6,P0,⟨l2,h7.eL,h8⟩,λp hp=>by
   obtain⟨g1,e,g2,g3,g4,cs,g5,g6⟩:=h9 p hp
   exact⟨g1,e,g2,g3,g4,cs,g5,g6⟩⟩
def k6(H:aj)(F:Nat->Prop)(w:World)(d:DR)(h:Option rz)(i:Nat)(x':d.low.den)(x:d.row.den)(S:Nat->Prop):Prop:=
 match h with
 |none=>gI F w d x' x S
 |some h=>(h.i≠(i:Int)->gI F w d x' x S)/\(h.i=(i:Int)->∃T' e,∃q:dV d (.sl T' e),d.path h.p=some ⟨_,q⟩/\iV F w q x' x S/\H.val h.o=some (q.lo.get x'))
theorem k6.keep{H H':aj}{F F':Nat->Prop}{w w':World}{d:DR}{h:Option rz}{i:Nat}{x':d.low.den}{x:d.row.den}{S:Nat->Prop}(hr:k6 H F w d h i x' x S)(hH:H.le H')(hs:Step F w F' w')(hb:∀k,S k->w'.heap[k]? =w.heap[k]?):k6 H' F' w' d h i x' x S:=by
 cases h with
 |none=>exact gI.keep hs hr hb
 |some h=>
  refine⟨λhi=>(hr.1 hi).keep hs hb,λhi=>?_⟩;obtain⟨T',e,q,h1,h2,h3⟩:=hr.2 hi;exact⟨T',e,q,h1,h2.keep hs hb,hH.val _ _ h3⟩
def fp(S:Nat->Prop)(v:Value):Th->Nat->Prop
 | .box ..,k=>v= .pointer (some ⟨k,0,aaK⟩)
 | .own ..,k=>ba v k
 | .pf ..,_=>False
 | .map ..,k=>v= .map (some k)
 | .fmap ..,_=>False
 | .deep ..,k=>S k
 | .fdeep ..,_=>False
 | .smap ..,k=>S k
def fg(H:aj)(F:Nat->Prop)(w:World)(S:Nat->Prop)(v:Value):Th->Prop
 | .box T t=>∃b es,v= .pointer (some ⟨b,0,aaK⟩)/\w.heap[b]? =some (.cells es.toArray T (0,0))/\Holds H F w t es
 | .own T r l=>∃xs,jP w 0 T r.size v l.length xs/\∀i(h:i<l.length),bN F w r ((xs.drop (i*r.size)).take r.size) l[i]
 | .pf _ r l=>bN F w (.slice r) [v] l
 | .fmap _ K agg V l=>bN F w (.map K agg V) [v] l
 | .map _ K agg V l=>∃b es clock,v= .map (some b)/\w.heap[b]? =some (.map es clock)/\MapKept.Stamped es clock/\ec H F w K agg V es.toList l
 | .deep T d l h=>CX F w T d.low (k6 H F w d h) v l S
 | .fdeep _ d l=>bN F w (.slice d.row) [v] l
 | .smap _ K agg V l it=>∃b es clock l',v= .map (some b)/\S b/\w.heap[b]? =some (.map es clock)/\MapKept.Stamped es clock/\ec H F w K agg V es.toList l'/\l'.Perm l/\zy H F w S K agg V b es clock it
structure CY(U:Nat->Prop)(H:aj)(F:Nat->Prop)(w:World)(v:Value)(s:Nat)(t:Th):Prop where
 one:v.oneCell'=aaL
 con:H.con s=some t.base
 ok:fg H F w (H.sub s) v t
 no:∀k,fp (H.sub s) v t k->¬F k
 lt:∀k,fp (H.sub s) v t k->k<w.heap.size
 use:∀k,fp (H.sub s) v t k->U k
structure al(U:Nat->Prop)(H:aj)(F:Nat->Prop)(w:World)(ob:Nat->Option (Nat×Th))(n:Nat):Prop where
 obj:∀o s t,ob o=some (s,t)->∃v,H.val o=some v/\CY U H F w v s t
 apart:∀o o' s s' t t' v v',o≠o'->ob o=some (s,t)->ob o'=some (s',t')->H.val o=some v->H.val o'=some v'->∀k,fp (H.sub s) v t k->¬fp (H.sub s') v' t' k
 fresh:∀m,n<=m->m<n+16->H.val m=aaK/\H.con m=aaK
 lt:∀b,F b->b<w.heap.size
 new:∀b,w.heap.size<=b->U b
 gl:nJ F w
theorem fg.heap{S:Nat->Prop}{v:Value}{t:Th}(h:fg H F w S v t)(hH:H.le H')(hs:Step F w F' w')(hb:∀k,fp S v t k->w'.heap[k]? =w.heap[k]?):fg H' F' w' S v t:=by
 cases t with
 |box T t=>
  obtain⟨b,es,rfl,h1,h2⟩:=h;exact⟨b,es,rfl,(hb b rfl).trans h1,h2.keep hH hs⟩
 |own T r l=>
  obtain⟨xs,⟨tM,zb⟩,h3⟩:=h;refine⟨xs,⟨tM,?_⟩,λi hi=>(h3 i hi).step hs⟩
  rcases zb with h2|⟨gg,o0,cap,cur,rfl,qX,hg,rest⟩
  .exact .inl h2
  .exact .inr ⟨gg,o0,cap,cur,rfl,qX,(hb gg rfl).trans hg,rest⟩
 |pf T r l=>exact bN.step (r:= .slice r) hs h
 |fmap T K agg V l=>exact bN.step (r:= .map K agg V) hs h
 |fdeep T d l=>exact bN.step (r:= .slice d.row) hs h
 |deep T d l hh=>exact CX.mono (show CX F w T d.low _ v l S from h) hs hb λi x' hi A hA hr=>hr.keep hH hs λk hk=>hb k (hA k hk)
 |map T K agg V l=>
  obtain⟨b,es,clock,rfl,h1,h2,h3⟩:=h;exact⟨b,es,clock,rfl,(hb b rfl).trans h1,h2,h3.keep hH hs⟩
 |smap T K agg V l it=>
  obtain⟨b,es,clock,l',rfl,h0,h1,h2,h3,h4,h5⟩:=h;exact⟨b,es,clock,l',rfl,h0,(hb b h0).trans h1,h2,h3.keep hH hs,h4,h5.keep hH hs hb⟩
theorem fN.of{v:Value}{T:TypeId}{r:Row}{l:List r.den}{S:Nat->Prop}(h:fg H F w S v (.own T r l))(hn:∀k,ba v k->¬F k):fN 0 F w T r v l:=⟨hn,h⟩
theorem fN.to{v:Value}{T:TypeId}{r:Row}{l:List r.den}(S:Nat->Prop)(h:fN 0 F w T r v l):fg H F w S v (.own T r l):=h.2
end
structure State where
 ah:List (Nat×ag)
 objs:List (Nat×(Nat×Th))
 nxt:Nat
def fj(H:aj)(n:Nat):Prop:=∀m,n<=m->H.val m=aaK/\H.con m=aaK
structure Sat(U:Nat->Prop)(H:aj)(F:Nat->Prop)(w:World)(ρ:Nat->Value)(st:State):Prop where
 slot:∀t d,find st.ah t=some d->af H F w d (ρ t)
 ob:al U H F w (find st.objs) st.nxt
 all:fj H st.nxt
structure cU where
 dst:ag
 eat:List Nat:=[]
 make:List (Nat×(Nat×Th)):=[]
def State.apply(st:State)(d:Option Nat)(e:cU):State:=
 {ah:=(match d with|some d=>(d,e.dst)::st.ah|none=>st.ah),objs:=e.make++del e.eat st.objs,nxt:=st.nxt+16}
def bE(H:aj)(ob:Nat->Option (Nat×Th))(eat:List Nat)(k:Nat):Prop:=∃o∈eat,∃s t v,ob o=some (s,t)/\H.val o=some v/\fp (H.sub s) v t k
structure HW(H:aj)(F:Nat->Prop)(w:World)(H':aj)(F':Nat->Prop)(w':World)(g:Nat->Prop):Prop where
 eL:H.le H'
 ext:Ext g w w'
 le:∀b,F b->F' b
 grow:∀b,F' b->F b\/w.heap.size<=b\/g b
 lt:∀b,F' b->b<w'.heap.size
structure Made(H':aj)(F':Nat->Prop)(w w':World)(g:Nat->Prop)(make:List (Nat×(Nat×Th))):Prop where
 obj:∀o s t,find make o=some (s,t)->∃v,H'.val o=some v/\v.oneCell'=aaL/\H'.con s=some t.base/\fg H' F' w' (H'.sub s) v t/\∀k,fp (H'.sub s) v t k->¬F' k/\k<w'.heap.size/\(w.heap.size<=k\/g k)
 apart:∀o o' s s' t t' v v',o≠o'->find make o=some (s,t)->find make o'=some (s',t')->H'.val o=some v->H'.val o'=some v'->∀k,fp (H'.sub s) v t k->¬fp (H'.sub s') v' t' k
structure iX(H:aj)(F:Nat->Prop)(w:World)(ob:Nat->Option (Nat×Th))(n:Nat)(e:cU)(v:Value)(w':World)(H':aj)(F':Nat->Prop):Prop where
 iB:HW H F w H' F' w' (bE H ob e.eat)
 fresh:∀m,(m<n\/n+16<=m)->(H.val m=aaK->H'.val m=aaK)/\(H.con m=aaK->H'.con m=aaK)
 dst:af H' F' w' e.dst v
 made:Made H' F' w w' (bE H ob e.eat) e.make
 ids:∀o,(find e.make o).isSome->o∈e.eat\/n<=o
def jc(H:aj)(F:Nat->Prop)(w:World)(ob:Nat->Option (Nat×Th))(n:Nat)(e:cU)(v:Value)(w':World):Prop:=∃H' F',iX H F w ob n e v w' H' F'
def qM(ρ:Nat->Value):Option Nat->Value->Nat->Value
 |some d,v=>za ρ d v
 |none,_=>ρ
theorem k7(ρ:Nat->Value)(d:Nat)(v:Value)(t:Nat):za ρ d v t=if t=d then v else ρ t:=by
 unfold za;by_cases h:t=d
 .subst h;simp
 .have:YZ t d=aaM:=by
   cases hb:YZ t d with
   |false=>rfl
   |true=>exact absurd (ZM hb) h
  simp[this,h]
section
variable {U:Nat->Prop} {H H':aj} {F F':Nat->Prop} {w w':World} {ρ:Nat->Value} {st:State}
theorem HW.step{g:Nat->Prop}(h:HW H F w H' F' w' g)(hF:∀b,F b->b<w.heap.size)(hg:∀k,g k->¬F k):Step F w F' w':=
 λb hb=>⟨h.le b hb,h.ext.block b (hF b hb) λe=>hg b e hb⟩
theorem al.dx{ob:Nat->Option (Nat×Th)}{n:Nat}(h:al U H F w ob n){eat:List Nat}:∀k,bE H ob eat k->¬F k:=by
 rintro k ⟨o,_,s,t,v,h1,h2,h3⟩
 obtain⟨v',e,hi⟩:=h.obj o s t h1;rw[h2]at e;obtain rfl:=YU e;exact hi.no k h3
theorem al.rA{ob:Nat->Option (Nat×Th)}{n:Nat}(h:al U H F w ob n){eat:List Nat}:∀k,bE H ob eat k->k<w.heap.size:=by
 rintro k ⟨o,_,s,t,v,h1,h2,h3⟩
 obtain⟨v',e,hi⟩:=h.obj o s t h1;rw[h2]at e;obtain rfl:=YU e;exact hi.lt k h3
theorem al.eh{ob:Nat->Option (Nat×Th)}{n:Nat}(h:al U H F w ob n){eat:List Nat}:∀k,bE H ob eat k->U k:=by
 rintro k ⟨o,_,s,t,v,h1,h2,h3⟩
 obtain⟨v',e,hi⟩:=h.obj o s t h1;rw[h2]at e;obtain rfl:=YU e;exact hi.use k h3
theorem CY.iB{ob:Nat->Option (Nat×Th)}{n:Nat}(hs:al U H F w ob n){eat:List Nat}(he:HW H F w H' F' w' (bE H ob eat)){o s:Nat}{t:Th}{v:Value}(ho:ob o=some (s,t))(hn:o∉eat)(hv:H.val o=some v)(h:CY U H F w v s t):CY U H' F' w' v s t:=by
 have Ts:∀k,fp (H.sub s) v t k->¬bE H ob eat k:=by
  rintro k hk ⟨o',ij,s',t',v',h1,h2,h3⟩
  exact hs.apart o o' s s' t t' v v' (λe=>hn (e▸ij)) ho h1 hv h2 k hk h3
 have eH:=he.eL.sub _ _ h.con;refine⟨h.one,he.eL.con _ _ h.con,by rw[eH];exact h.ok.heap he.eL (he.step hs.lt hs.dx) λk hk=>he.ext.block k (h.lt k hk) (Ts k hk),λk hk hF=>?_,λk hk=>Zv (h.lt k (by rwa [eH]at hk)) he.ext.size,λk hk=>h.use k (by rwa [eH]at hk)⟩;rw[eH]at hk
 rcases he.grow k hF with h1|h1|h1
 .exact h.no k hk h1
 .have:=h.lt k hk;omega
 .exact Ts k hk h1
theorem al.Fx{ob HX Fy:Nat->Option (Nat×Th)}{n n' m:Nat}{e:cU}{v:Value}(h:al U H F w ob n)(hR:∀o x,HX o=some x->ob o=some x)(hp:iX H F w HX m e v w' H' F')
 (part:∀o s t,Fy o=some (s,t)->find e.make o=some (s,t)\/(o∉e.eat/\ob o=some (s,t)/\find e.make o=aaK))(vf:∀m,n'<=m->m<n'+16->H'.val m=aaK/\H'.con m=aaK):
 al U H' F' w' Fy n':=by
 have rB:∀k,bE H HX e.eat k->bE H ob e.eat k:=λk ⟨o,ho,s,t,v,h1,h2⟩=>⟨o,ho,s,t,v,hR _ _ h1,h2⟩
 have MW:HW H F w H' F' w' (bE H ob e.eat):=⟨hp.iB.eL,⟨hp.iB.ext.os,hp.iB.ext.tape,hp.iB.ext.output,hp.iB.ext.size,λk hk hn=>hp.iB.ext.block k hk λhh=>hn (rB k hh)⟩,hp.iB.le,λb hb=>(hp.iB.grow b hb).imp id λh=>h.imp id (rB b),hp.iB.lt⟩
 have HY:∀o s t,o∉e.eat->ob o=some (s,t)->∃v,H.val o=some v/\H'.val o=some v/\CY U H' F' w' v s t/\H'.sub s=H.sub s/\∀k,fp (H'.sub s) v t k->k<w.heap.size/\¬bE H ob e.eat k:=by
  intro o s t ho hf;obtain⟨v,hv,hi⟩:=h.obj o s t hf;have eH:=hp.iB.eL.sub _ _ hi.con;refine⟨v,hv,hp.iB.eL.val _ _ hv,hi.iB h MW hf ho hv,eH,λk hk=>?_⟩;rw[eH]at hk;refine⟨hi.lt k hk,?_⟩
  rintro⟨o',ij,s',t',v',h1,h2,h3⟩
  exact h.apart o o' s s' t t' v v' (λe=>ho (e▸ij)) hf h1 hv h2 k hk h3
 refine⟨λo s t ho=>?_,λo o' s s' t t' v v' cq ho ij hv cV k hk jd=>?_,vf,hp.iB.lt,λb hb=>h.new b (Zj hp.iB.ext.size hb),h.gl.step (MW.step h.lt h.dx)⟩
 .rcases part o s t ho with h1|⟨h1,h2,_⟩
  .obtain⟨v,a1,a2,a3,a4,a5⟩:=hp.made.obj o s t h1;exact⟨v,a1,a2,a3,a4,λk hk=>(a5 k hk).1,λk hk=>(a5 k hk).2.1,λk hk=>(a5 k hk).2.2.elim (h.new k) (λhh=>h.eh k (rB k hh))⟩
  .obtain⟨v,_,a2,a3,_,_⟩:=HY o s t h1 h2;exact⟨v,a2,a3⟩
 .rcases part o s t ho with h1|⟨h1,h2,_⟩<;>rcases part o' s' t' ij with rC|⟨rC,sX,_⟩
  .exact hp.made.apart o o' s s' t t' v v' cq h1 rC hv cV k hk jd
  .obtain⟨u,_,a1,_,_,a5⟩:=hp.made.obj o s t h1;obtain⟨u',_,b2,_,_,b4⟩:=HY o' s' t' rC sX;have e1:=YU (cV.symm.trans b2);subst e1;have e2:=YU (hv.symm.trans ‹H'.val o=some u›);subst e2
   rcases(a5 k hk).2.2 with h3|h3
   .have:=(b4 k jd).1;omega
   .exact(b4 k jd).2 (rB k h3)
  .obtain⟨u,_,a1,_,_,a5⟩:=hp.made.obj o' s' t' rC;obtain⟨u',_,b2,_,_,b4⟩:=HY o s t h1 h2;have e1:=YU (hv.symm.trans b2);subst e1;have e2:=YU (cV.symm.trans ‹H'.val o'=some u›);subst e2
   rcases(a5 k jd).2.2 with h3|h3
   .have:=(b4 k hk).1;omega
   .exact(b4 k hk).2 (rB k h3)
  .obtain⟨u,b1,b2,_,b5,_⟩:=HY o s t h1 h2;obtain⟨u',c1,c2,_,c5,_⟩:=HY o' s' t' rC sX;rw[b5]at hk;rw[c5]at jd;have e1:=YU (hv.symm.trans b2);have e2:=YU (cV.symm.trans c2);subst e1;subst e2;exact h.apart o o' s s' t t' v v' cq h2 sX b1 c1 k hk jd
theorem zA{objs:List (Nat×(Nat×Th))}{e:cU}:∀o s t,find (e.make++del e.eat objs) o=some (s,t)->find e.make o=some (s,t)\/(o∉e.eat/\find objs o=some (s,t)/\find e.make o=aaK):=by
 intro o s t ho;rw[fh]at ho
 cases hm:find e.make o with
 |some x=>rw[hm]at ho;exact .inl ho
 |none=>
  rw[hm,Z4]at ho;obtain⟨h1,h2⟩:=fi.1 ho;exact .inr ⟨h1,h2,rfl⟩
theorem Sat.apply{d:Option Nat}{e:cU}{v:Value}(h:Sat U H F w ρ st)(hp:iX H F w (find st.objs) st.nxt e v w' H' F'):Sat U H' F' w' (qM ρ d v) (st.apply d e):=by
 have dy:fj H' (st.nxt+16):=λm hm=>⟨(hp.fresh m (.inr hm)).1 (h.all m (by omega)).1,(hp.fresh m (.inr hm)).2 (h.all m (by omega)).2⟩
 refine⟨λt q hq=>?_,h.ob.Fx (λ_ _ h=>h) hp zA λm hm _=>dy m hm,dy⟩;have dZ:=hp.iB.step h.ob.lt h.ob.dx
 cases d with
 |none=>exact(h.slot t q hq).keep hp.iB.eL dZ
 |some d=>
  have qi:find ((d,e.dst)::st.ah) t=some q:=hq;rw[ax]at qi
  show af H' F' w' q (za ρ d v t)
  rw[k7];by_cases hd:d=t
  .rw[aaP hd]at qi;rw[aaP hd.symm];obtain rfl:=YU qi;exact hp.dst
  .rw[aaO hd]at qi;rw[aaO (Ne.symm hd)];exact(h.slot t q qi).keep hp.iB.eL dZ
end
end
section
def bD(P:Program)(ρ:Nat->Value)(o:Oper)(w:World)(Q:Value->World->Prop):Prop:=
 match(execOp (ev ρ) o).run P w with
 | .ok (.value v) w'=>True/\Q v w'
 | .ok .skip w'=>o.dst=aaK/\Q undef w'
 | .ok (.enter f args) w'=>Calls P f args w' λe q6=>∃v,e= .returned v/\Q v q6
 |_=>False
section
variable {P:Program} {n:Nat} {ops:Array Oper} {K:(Nat->Value)->World->Prop} {rest:List Oper} {ρ:Nat->Value} {w:World}
variable {dst:Option Nat} {op:Op} {ty:TypeId} {pos:String} {aft:Array Edge} {Q:Value->World->Prop}
theorem bD.mono{o:Oper}{Q':Value->World->Prop}(h:bD P ρ o w Q)(hq:∀v w',Q v w'->Q' v w'):bD P ρ o w Q':=by
 unfold bD at*;generalize(execOp (ev ρ) o).run P w=r at*
 cases r with
 |halt x w'=>exact h
 |ok x w'=>
  cases x<;>first
   |exact h
   |exact⟨h.1,hq _ _ h.2⟩
   |exact h.mono λe q6 ⟨v,he,hv⟩=>⟨v,he,hq _ _ hv⟩
theorem bD.val{d:Option Nat}{v:Value}{w':World}(hr:(execOp (ev ρ) ⟨d,op,ty,pos,aft,aaK⟩).run P w= .ok (.value v) w')(h:Q v w'):bD P ρ ⟨d,op,ty,pos,aft,aaK⟩ w Q:=by
 unfold bD;rw[hr];exact⟨trivial,h⟩
theorem bD.unit{w':World}(hr:(execOp (ev ρ) ⟨aaK,op,ty,pos,aft,aaK⟩).run P w= .ok .skip w')(h:Q undef w'):bD P ρ ⟨aaK,op,ty,pos,aft,aaK⟩ w Q:=by
 unfold bD;rw[hr];exact⟨rfl,h⟩
theorem rD(h:bD P ρ ⟨dst,op,ty,pos,aft,aaK⟩ w Q)(hd:∀d,dst=some d->ZK d n=aaL)
 (hk:∀v w',Q v w'->wpS P n ops K rest (qM ρ dst v) w'):wpS P n ops K (⟨dst,op,ty,pos,aft,aaK⟩::rest) ρ w:=
 λQQ a hf CZ=>wpList_plain rfl λK' hK=>by
  unfold Oper.wp;rw[hf.eval];unfold bD at h;generalize(execOp (ev ρ) ⟨dst,op,ty,pos,aft,aaK⟩).run P w=r at*
  have nK:∀v,Fr n (a.put dst v) (qM ρ dst v):=λv=>by
   cases dst with
   |none=>exact hf
   |some d=>exact hf.put (hd d rfl) v
  cases r with
  |halt x w'=>exact h.elim
  |ok x w'=>
   cases x<;>first
    |exact h.elim
    |skip
   case value v=>exact hK _ _ (hk v w' h.2 QQ _ (nK v) CZ)
   case skip=>exact hK _ _ (hk undef w' h.2 QQ _ (nK undef) CZ)
   case enter f args=>
    refine h.mono λe q6 ⟨v,he,hv⟩=>?_
    subst he;exact hK _ _ (hk v q6 hv QQ _ (nK v) CZ)
end
inductive EN where
 |int (k:IntKind)
 |bool
 |str
 |slice (e:TypeId)
 |struct (fs:List (TypeId×Nat))
 |array (n:Nat) (e:TypeId)
 |map (k v:TypeId)
 |ptr (e:TypeId)
 |other
def tR(P:Program)(t:TypeId):EN->Prop
 | .int k=>P.underlying t=some (.int k)
 | .bool=>P.underlying t=some .bool
 | .str=>P.underlying t=some .string
 | .slice e=>P.underlying t=some (.slice e)
 | .struct fs=>∃arr:Array Field,P.underlying t=some (.struct arr)/\arr.toList.map (λf=>(f.type,f.offset))=fs
 | .array n e=>P.underlying t=some (.array n e)
 | .map k v=>P.underlying t=some (.map k v)
 | .ptr e=>P.underlying t=some (.pointer e)
 | .other=>∃d,P.underlying t=some d/\gr d=aaM
def vg(P:Program)(t:TypeId)(agg:Bool)(r:Row):Prop:=∃z,(P.info? t).bind (·.zero)=some z/\z=(bif agg then .agg r.dw.toArray else r.dw.headD undef)
def Bo(P:Program)(t:TypeId)(name:String)(f:FuncId)(pr:Bool):Prop:=
 ((P.info? t).bind λi=>i.methods.find? λm=>m.name==name).map (λm=>(m.path.toList.length,m.func))=some (0,some (f,pr))
structure aJ(P:Program)where
 und:List (Nat×EN)
 row:List (Nat×Row)
 eqs:List (Nat×Row)
 zer:List (Nat×(Bool×Row))
 und_ok:∀t k,find und t=some k->tR P t k
 row_ok:∀t r,find row t=some r->TI P t r
 eqs_ok:∀t r,find eqs t=some r->∃K d,kZ P t r K/\d+K=10000/\P.eqGuardType P.depth t=aaM/\(P.underlying t).any gr=aaL
 zer_ok:∀t agg r,find zer t=some (agg,r)->vg P t agg r
 kys:List TypeId
 kys_ok:∀t∈kys,∀(em:Bool)(a b:Value)(w:World),(Instr.checkKey em 10000 t (.agg #[a,b])).run P w= .ok () w
 mth:List (TypeId×(String×(FuncId×Bool)))
 mth_ok:∀p∈mth,Bo P p.1 p.2.1 p.2.2.1 p.2.2.2
def gJ:EN->Bool
 | .struct _| .array _ _=>aaL
 |_=>aaM
theorem tR.agg{P:Program}{t:TypeId}{k:EN}(h:tR P t k):∃d,P.underlying t=some d/\gr d=gJ k:=by
 cases k<;>first
  |exact⟨_,h,rfl⟩
  |(obtain⟨arr,h,_⟩:=h;exact⟨_,h,rfl⟩)
  |exact h
theorem jR{α:Type}{Q:Nat->α->Prop}{l:List (Nat×α)}(h:∀p∈l,Q p.1 p.2):∀t a,find l t=some a->Q t a:=by
 intro t a
 induction l with
 |nil=>intro h';cases h'
 |cons p l ih=>
  obtain⟨m,b⟩:=p;rw[ax];split
  .rename_i e;intro h';obtain rfl:=YU h';subst e;exact h (m,b) (by simp)
  .exact ih (λq hq=>h q (by simp[hq]))
def zB:Value->Option ag
 | .int k n=>some (.val aaM (.leaf (.int k) n))
 | .bool b=>some (.val aaM (.leaf .bool b))
 | .string s=>some (.val aaM (.leaf .str s))
 | .slice aaK 0 0=>some (.val aaM .nil)
 | .map aaK=>some (.val aaM (.leaf (.nul .map) ()))
 | .pointer aaK=>some (.val aaM (.leaf (.nul .ptr) ()))
 | .nilFunc=>some (.val aaM (.leaf (.nul .func) ()))
 | .nilIface=>some .dead
 |_=>aaK
def C0(ah:List (Nat×ag)):Operand->Option ag
 | .tmp t=>find ah t
 | .const v=>zB v
 | .func f=>some (.fn f [])
 | .global g=>match find Fv g with
   |some d=>some (.at d.1 d.2)
   |none=>aaK
theorem aw.kz{H:aj}{F:Nat->Prop}{w:World}{r:Row}{x:r.den}{v:Value}(h:bN F w r [v] x):aw H F w aaM (.leaf r x) v:=⟨[v],h,rfl,λ_=>rfl⟩
theorem C1{H:aj}{F:Nat->Prop}{w:World}{v:Value}{d:ag}(h:zB v=some d):af H F w d v:=by
 unfold zB at h
 split at h<;>first|cases h|skip
 .exact aw.kz rfl
 .exact aw.kz rfl
 .exact aw.kz rfl
 .exact⟨_,rfl,rfl,λ_=>rfl⟩
 .exact aw.kz rfl
 .exact aw.kz rfl
 .exact aw.kz rfl
 .trivial
theorem pg{H:aj}{F:Nat->Prop}{w:World}{ρ:Nat->Value}{ah:List (Nat×ag)}(hg:nJ F w)(h:∀t d,find ah t=some d->af H F w d (ρ t)):∀x d,C0 ah x=some d->af H F w d (ev ρ x):=by
 intro x d hx
 cases x with
 |tmp t=>exact h t d hx
 |const v=>exact C1 hx
 |global g=>
  have HZ:(match find Fv g with|some d=>some (ag.at d.1 d.2)|none=>aaK)=some d:=hx;split at HZ
  .rename_i q hq;obtain rfl:=YU HZ;obtain⟨h1,h2⟩:=hg g q hq;exact⟨g,0,rfl,h1,h2⟩
  .cases HZ
 |func f=>obtain rfl:=YU hx;exact⟨[],rfl,rfl⟩
theorem aw.inv{H:aj}{F:Nat->Prop}{w:World}{r:Row}{x:r.den}{v:Value}(h:aw H F w aaM (.leaf r x) v):bN F w r [v] x:=by
 obtain⟨cs,h1,_,h3⟩:=h;rw[h3 rfl]at h1;exact h1
theorem aw.int{H:aj}{F:Nat->Prop}{w:World}{k:IntKind}{x:Int}{v:Value}(h:aw H F w aaM (.leaf (.int k) x) v):v= .int k x:=by
 have:=h.inv;simpa[bN]using this
theorem aw.bool{H:aj}{F:Nat->Prop}{w:World}{x:Bool}{v:Value}(h:aw H F w aaM (.leaf .bool x) v):v= .bool x:=by
 have:=h.inv;simpa[bN]using this
theorem aw.str{H:aj}{F:Nat->Prop}{w:World}{x:ByteArray}{v:Value}(h:aw H F w aaM (.leaf .str x) v):v= .string x:=by
 have:=h.inv;simpa[bN]using this
theorem aw.gy(H:aj)(F:Nat->Prop)(w:World)(k:IntKind)(x:Int):aw H F w aaM (.leaf (.int k) x) (.int k x):=aw.kz rfl
theorem aw.dR(H:aj)(F:Nat->Prop)(w:World)(x:Bool):aw H F w aaM (.leaf .bool x) (.bool x):=aw.kz rfl
theorem aw.mkStr(H:aj)(F:Nat->Prop)(w:World)(x:ByteArray):aw H F w aaM (.leaf .str x) (.string x):=aw.kz rfl
abbrev ju(k:IntKind)(x:Int):ag:= .val aaM (.leaf (.int k) x)
abbrev cR(x:Bool):ag:= .val aaM (.leaf .bool x)
abbrev P1(x:ByteArray):ag:= .val aaM (.leaf .str x)
def asInt:ag->Option (IntKind×Int)
 | .val aaM (.leaf (.int k) x)=>some (k,x)
 |_=>aaK
def asBool:ag->Option Bool
 | .val aaM (.leaf .bool x)=>some x
 |_=>aaK
def wR:ag->Option ByteArray
 | .val aaM (.leaf .str x)=>some x
 |_=>aaK
section
variable {P:Program} {ρ:Nat->Value} {w w':World} {H H':aj} {F F':Nat->Prop} {U:Nat->Prop} {ob:Nat->Option (Nat×Th)} {n:Nat} {R:Type}
variable {dst:Option Nat} {op:Op} {ty:TypeId} {pos:String} {aft:Array Edge} {d:Nat}
theorem fk{D:ag}{k:IntKind}{x:Int}{v:Value}(h:asInt D=some (k,x))(hd:af H F w D v):v= .int k x:=by
 unfold asInt at h
 split at h<;>cases h
 exact aw.int hd
theorem kA{D:ag}{x:Bool}{v:Value}(h:asBool D=some x)(hd:af H F w D v):v= .bool x:=by
 unfold asBool at h
 split at h<;>cases h
 exact aw.bool hd
theorem rE{D:ag}{x:ByteArray}{v:Value}(h:wR D=some x)(hd:af H F w D v):v= .string x:=by
 unfold wR at h
 split at h<;>cases h
 exact aw.str hd
def bK(P:Program)(_U:Nat->Prop)(H:aj)(F:Nat->Prop)(w:World)(ρ:Nat->Value)(ob:Nat->Option (Nat×Th))(n:Nat)(o:Oper)(e:cU):Prop:=
 bD P ρ o w (jc H F w ob n e)
theorem HW.refl{g:Nat->Prop}(hF:∀b,F b->b<w.heap.size):HW H F w H F w g:=⟨aj.le.refl H,⟨rfl,⟨rfl,YY _⟩,rfl,YY _,λ_ _ _=>rfl⟩,λ_ h=>h,λ_ h=> .inl h,hF⟩
theorem Made.nil{g:Nat->Prop}:Made H' F' w w' g []:=⟨λ_ _ _ h=>(by cases h),λ_ _ _ _ _ _ _ _ _ h=>(by cases h)⟩
theorem iX.pure(hs:al U H F w ob n){D:ag}{v:Value}(h:af H F w D v):jc H F w ob n {dst:=D} v w:=
 ⟨H,F,HW.refl hs.lt,λm hm=>⟨id,id⟩,h,Made.nil,λo h=>by cases h⟩
theorem bj(hs:al U H F w ob n){D:ag}{v:Value}(hr:(execOp (ev ρ) ⟨some d,op,ty,pos,aft,aaK⟩).run P w= .ok (.value v) w)(h:af H F w D v):bK P U H F w ρ ob n ⟨some d,op,ty,pos,aft,aaK⟩ {dst:=D}:=
 bD.val hr (iX.pure hs h)
theorem aB(hs:al U H F w ob n){D:ag}{v:Value}(hr:Pure P ρ ⟨some d,op,ty,pos,aft,aaK⟩ v)(h:af H F w D v):bK P U H F w ρ ob n ⟨some d,op,ty,pos,aft,aaK⟩ {dst:=D}:=
 bj hs (hr w) h
def ak(o:BinOp)(k:IntKind)(a b:Int):Int:=
 match o with
 | .and=>k.wrap (ZY k.bits a&&& ZY k.bits b).toNat
 | .or=>k.wrap (ZY k.bits a|||ZY k.bits b).toNat
 | .xor=>k.wrap (ZY k.bits a ^^^ ZY k.bits b).toNat
 |_=>k.wrap (ZY k.bits a&&& ~~~ZY k.bits b).toNat
def Fz(k:IntKind)(a b:Int):Int:=k.wrap (a*2 ^ min b.toNat k.bits)
def bW(k:IntKind)(a b:Int):Int:=a.fdiv (2 ^ min b.toNat k.bits)
def ph(k:IntKind)(a b:Int):Option Int:=if b<0 then aaK else some (Fz k a b)
def zC(k:IntKind)(a b:Int):Option Int:=if b<0 then aaK else some (bW k a b)
def arith:BinOp->IntKind->Int->Int->Option ag
 | .add,k,a,b=>some (ju k (k.wrap (a+b)))
 | .sub,k,a,b=>some (ju k (k.wrap (a-b)))
 | .mul,k,a,b=>some (ju k (k.wrap (a*b)))
 | .lss,_,a,b=>some (cR (decide (a<b)))
 | .leq,_,a,b=>some (cR (decide (a<=b)))
 | .gtr,_,a,b=>some (cR (decide (b<a)))
 | .geq,_,a,b=>some (cR (decide (b<=a)))
 | .eql,_,a,b=>some (cR (decide (a=b)))
 | .neq,_,a,b=>some (cR (!decide (a=b)))
 | .and,k,a,b=>some (ju k (ak .and k a b))
 | .or,k,a,b=>some (ju k (ak .or k a b))
 | .xor,k,a,b=>some (ju k (ak .xor k a b))
 | .andNot,k,a,b=>some (ju k (ak .andNot k a b))
 |_,_,_,_=>aaK
theorem pure_and{k:IntKind}{a b:Int}{t u:TypeId}{x y:Operand}(hx:ev ρ x= .int k a)(hy:ev ρ y= .int k b):Pure P ρ ⟨some d, .binOp .and t x y u,ty,pos,aft,aaK⟩ (.int k (ak .and k a b)):=λw=>by simp[execOp,hx,hy,binOp,Op.intBits,eqGuard,ak,go_sem]
theorem pure_or{k:IntKind}{a b:Int}{t u:TypeId}{x y:Operand}(hx:ev ρ x= .int k a)(hy:ev ρ y= .int k b):Pure P ρ ⟨some d, .binOp .or t x y u,ty,pos,aft,aaK⟩ (.int k (ak .or k a b)):=λw=>by simp[execOp,hx,hy,binOp,Op.intBits,eqGuard,ak,go_sem]
theorem FA{k:IntKind}{a b:Int}{t u:TypeId}{x y:Operand}(hx:ev ρ x= .int k a)(hy:ev ρ y= .int k b):Pure P ρ ⟨some d, .binOp .xor t x y u,ty,pos,aft,aaK⟩ (.int k (ak .xor k a b)):=λw=>by simp[execOp,hx,hy,binOp,Op.intBits,eqGuard,ak,go_sem]
theorem wS{k:IntKind}{a b:Int}{t u:TypeId}{x y:Operand}(hx:ev ρ x= .int k a)(hy:ev ρ y= .int k b):Pure P ρ ⟨some d, .binOp .andNot t x y u,ty,pos,aft,aaK⟩ (.int k (ak .andNot k a b)):=λw=>by simp[execOp,hx,hy,binOp,Op.intBits,eqGuard,ak,go_sem]
theorem wT{k k':IntKind}{a b:Int}{t u:TypeId}{x y:Operand}(hx:ev ρ x= .int k a)(hy:ev ρ y= .int k' b)(hb:¬b<0):Pure P ρ ⟨some d, .binOp .shl t x y u,ty,pos,aft,aaK⟩ (.int k (Fz k a b)):=λw=>by simp[execOp,hx,hy,binOp,Op.shift,eqGuard,Fz,hb,go_sem]
theorem wU{k k':IntKind}{a b:Int}{t u:TypeId}{x y:Operand}(hx:ev ρ x= .int k a)(hy:ev ρ y= .int k' b)(hb:¬b<0):Pure P ρ ⟨some d, .binOp .shr t x y u,ty,pos,aft,aaK⟩ (.int k (bW k a b)):=λw=>by simp[execOp,hx,hy,binOp,Op.shift,eqGuard,bW,hb,go_sem]
theorem FB{o:BinOp}{k:IntKind}{a b:Int}{D:ag}{t u:TypeId}{x y:Operand}(h:arith o k a b=some D)(hs:al U H F w ob n)(hx:ev ρ x= .int k a)(hy:ev ρ y= .int k b):
 bK P U H F w ρ ob n ⟨some d, .binOp o t x y u,ty,pos,aft,aaK⟩ {dst:=D}:=by
 unfold arith at h
 split at h<;>cases h
 .exact aB hs (E2 hx hy) (aw.gy ..)
 .exact aB hs (E3 hx hy) (aw.gy ..)
 .exact aB hs (E4 hx hy) (aw.gy ..)
 .exact aB hs (E7 hx hy) (aw.dR ..)
 .exact aB hs (E8 hx hy) (aw.dR ..)
 .exact aB hs (E9 hx hy) (aw.dR ..)
 .exact aB hs (Fa hx hy) (aw.dR ..)
 .exact aB hs (Fb hx hy) (aw.dR ..)
 .exact aB hs (Fc hx hy) (aw.dR ..)
 .exact aB hs (pure_and hx hy) (aw.gy ..)
 .exact aB hs (pure_or hx hy) (aw.gy ..)
 .exact aB hs (FA hx hy) (aw.gy ..)
 .exact aB hs (wS hx hy) (aw.gy ..)
def MX(a b:Int):Option Int:=if b=0 then aaK else some (Z6 a b)
def MY(a b:Int):Option Int:=if b=0 then aaK else some (aaq a b)
def MZ:Operand->Bool
 | .const _=>aaL
 |_=>aaM
theorem FC{k:IntKind}{a b:Int}{t u:TypeId}{x y:Operand}(hb:b≠0)(hs:al U H F w ob n)(hx:ev ρ x= .int k a)(hy:ev ρ y= .int k b):
 bK P U H F w ρ ob n ⟨some d, .binOp .quo t x y u,ty,pos,aft,aaK⟩ {dst:=ju k (k.wrap (Z6 a b))}:=
 aB hs (E5 hx hy hb) (aw.gy ..)
theorem FD{k:IntKind}{a b:Int}{t u:TypeId}{x y:Operand}(hb:b≠0)(hs:al U H F w ob n)(hx:ev ρ x= .int k a)(hy:ev ρ y= .int k b):
 bK P U H F w ρ ob n ⟨some d, .binOp .rem t x y u,ty,pos,aft,aaK⟩ {dst:=ju k (aaq a b)}:=
 aB hs (E6 hx hy hb) (aw.gy ..)
end
end
end Go.Proofs.YtbladfbbhijpmaaGreat
