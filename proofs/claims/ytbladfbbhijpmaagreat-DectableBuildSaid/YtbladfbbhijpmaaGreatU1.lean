/- Joined texts: Base Mem Own More Lit Open Cut Glob Deep Sym Eff. -/
import Derived.WalkKit
import Derived.WalkSpells
import Derived.WalkLawsBesides
import Derived.LoopN
import Derived.Deep.Draws
import Derived.Deep.Quiet
import Derived.Maps.AppendAt
import Derived.OwnWalk
import Derived.KernelRfl
import Derived.MapKept
import Derived.Maps.RangeRun
import Derived.Laws.StructEq
import Derived.Test.YtbladfbbhijpmaaGreatRows
import Derived.ProofKit
import Derived.OpenShut
import Derived.JoinedCond
import Derived.Deep.Slices
import Derived.Laws.Slices
open _root_.Bool renaming false->acR,true->acQ,and_eq_true->abR
open _root_.Option renaming none->acP,none_or->abT
open _root_.Array renaming getD_eq_getD_getElem?->abA,getElem?_eq_getElem->abh,getElem?_eq_some_iff->abx,toArray_toList->abE
open _root_.Classical renaming propDecidable->abF
open _root_.List renaming getElem?_eq_getElem->aaW,getElem?_eq_some_iff->abj,mem_append->aa9,append_assoc->abm,drop_append_of_le_length->abP,drop_of_length_le->ab2,getElem?_drop->abe,getElem?_take->abl,getElem_of_mem->abD,length_append->aba,length_take->abb,range->aa2,replicate->abn,foldl_cons->abN,getElem?_append->acG,length_cons->aa6,take_append_drop->abY,map_append->ab6,take_length->abg,cons_append->acA
open _root_.Nat renaming beq->aaY,blt->abI,eq_of_beq_eq_true->abK,le_refl->aaX,le_trans->abi,lt_of_lt_of_le->abt,add_mul->abG,add_zero->ab3,mul_le_mul_right->abf,zero_add->aby,min_eq_left->ab5
open _root_.Option.some renaming inj->aaT,injEq->aa1
open _root_.Go.Region renaming wanted->aco
open _root_.Go.Value renaming oneCell'->ach,ownBlock->abu
open _root_.Go.Addr.mk renaming injEq->acp
open _root_.Go.Builtin renaming append_->acw
open _root_.ByteArray renaming empty->acF
open _root_.Go.Sem renaming run->acN
open _root_.Go.Value.slice renaming injEq->aci
open _root_.Go.Instr renaming fill->acC
open _root_.List.cons renaming injEq->ab9
open _root_.BitVec renaming ofInt->abZ
open _root_.Int renaming tdiv->ab7,tmod->acu
namespace Go.Proofs.YtbladfbbhijpmaaGreat
open Go Go.RowKit
set_option maxRecDepth 100000
set_option linter.unusedSimpArgs false
set_option linter.unusedVariables false
set_option linter.defProp false
section
theorem acT.{u}:type_of% @_root_.if_neg.{u}:= @_root_.if_neg.{u}
theorem acU.{u}:type_of% @_root_.if_pos.{u}:= @_root_.if_pos.{u}
theorem acV:type_of% @_root_.of_decide_eq_true:= @_root_.of_decide_eq_true
theorem acW:type_of% @_root_.decide_eq_true:= @_root_.decide_eq_true
theorem acX:type_of% @_root_.decide_eq_false:= @_root_.decide_eq_false
theorem acY.{u}:type_of% @_root_.implies_true.{u}:= @_root_.implies_true.{u}
theorem acZ.{u}:type_of% @_root_.forall_const.{u}:= @_root_.forall_const.{u}
theorem ac0.{u,v}:type_of% @_root_.congrArg.{u,v}:= @_root_.congrArg.{u,v}
theorem ac1:type_of% @_root_.decide_eq_true_eq:= @_root_.decide_eq_true_eq
theorem ac2:type_of% @_root_.iff_of_false:= @_root_.iff_of_false
open Go Go.RowKit
inductive FB where
 |map
 |ptr
 |func
def FB.val:FB->Value
 | .map=> .map acP
 | .ptr=> .pointer acP
 | .func=> .nilFunc
theorem FB.one(k:FB):k.val.oneCell'=acQ:=by cases k<;>simp[FB.val,ach]
inductive Row where
 |int (k:IntKind)
 |bool
 |str
 |slice (e:Row)
 |jS
 |nul (k:FB)
 |map (K:Row) (agg:Bool) (V:Row)
 |pair (a b:Row)
@[reducible] def Row.den:Row->Type
  | .int _=>Int
  | .bool=>Bool
  | .str=>ByteArray
  | .slice e=>List e.den
  | .jS=>Value
  | .nul _=>Unit
  | .map K _ V=>List (K.den×V.den)
  | .pair a b=>a.den×b.den
noncomputable instance Row.decEq:(r:Row)->DecidableEq r.den
 | .int _=>inferInstanceAs (DecidableEq Int)
 | .bool=>inferInstanceAs (DecidableEq Bool)
 | .str=>inferInstanceAs (DecidableEq ByteArray)
 | .slice e=>have:=Row.decEq e;inferInstanceAs (DecidableEq (List e.den))
 | .jS=>λa b=>abF (a=b)
 | .nul _=>inferInstanceAs (DecidableEq Unit)
 | .map K _ V=>have:=Row.decEq K;have:=Row.decEq V;inferInstanceAs (DecidableEq (List (K.den×V.den)))
 | .pair a b=>have:=Row.decEq a;have:=Row.decEq b;inferInstanceAs (DecidableEq (a.den×b.den))
@[simp] def Row.size:Row->Nat
  | .pair a b=>a.size+b.size
  |_=>1
theorem Row.size_pos:(r:Row)->0<r.size
 | .pair a b=>by have:=Row.size_pos a;simp;omega
 | .int _| .bool| .str| .slice _| .jS| .nul _| .map .. =>by simp
def il:(K:Row)->K.den->Option Value
 | .int k,n=>some (.int k n)
 | .bool,b=>some (.bool b)
 | .str,s=>some (.string s)
 | .pair (.int j) (.int k),x=>some (.agg #[.int j x.1, .int k x.2])
 |_,_=>acP
def bT(F:Nat->Prop)(w:World):(r:Row)->List Value->r.den->Prop
 | .int k,cs,n=>cs=[.int k n]
 | .bool,cs,b=>cs=[.bool b]
 | .str,cs,s=>cs=[.string s]
 | .slice e,cs,l=>∃A cap,cs=[.slice A l.length cap]/\l.length<=cap/\cap<=maxLen/\
     ∀i(h:i<l.length),∃b off es,A=some ⟨b,off,acP⟩/\F b/\es.length=e.size/\
      (∀j u,es[j]? =some u->w.cell? ⟨b,off+i*e.size+j,acP⟩=some u)/\bT F w e es l[i]
 | .jS,cs,v=>cs=[v]/\∃A m c,v= .slice A m c
 | .nul k,cs,_=>cs=[k.val]
 | .map K agg V,cs,l=>∃v,cs=[v]/\((v= .map acP/\l=[])\/∃b es clock,v= .map (some b)/\F b/\w.heap[b]? =some (.map es clock)/\MapKept.Stamped es clock/\es.size=l.length/\
     ∀i(h:i<l.length),∃(e:MapEntry)(cs:List Value),es[i]? =some e/\il K l[i].1=some e.key/\bT F w V cs l[i].2/\e.val=(bif agg then .agg cs.toArray else cs.headD undef)/\(agg=acR->cs=[e.val]))
 | .pair a b,cs,d=>∃c1 c2,cs=c1++c2/\bT F w a c1 d.1/\bT F w b c2 d.2
theorem bT.length{F:Nat->Prop}{w:World}:{r:Row}->{cs:List Value}->{d:r.den}->bT F w r cs d->cs.length=r.size
 | .int _,_,_,h=>by rw[show _=_ from h];rfl
 | .bool,_,_,h=>by rw[show _=_ from h];rfl
 | .str,_,_,h=>by rw[show _=_ from h];rfl
 | .slice _,_,_,h=>by obtain⟨A,cap,h,_⟩:=h;rw[h];rfl
 | .jS,_,_,h=>by rw[h.1];rfl
 | .nul _,_,_,h=>by rw[show _=_ from h];rfl
 | .map ..,_,_,h=>by obtain⟨v,rfl,_⟩:=h;rfl
 | .pair a b,_,_,h=>by
   obtain⟨c1,c2,rfl,h1,h2⟩:=h;simp[h1.length,h2.length]
theorem bT.gO{F:Nat->Prop}{w:World}:{r:Row}->{cs:List Value}->{d:r.den}->bT F w r cs d->∀u∈cs,u.oneCell'=acQ
 | .int _,_,_,h=>by rw[show _=_ from h];simp[ach]
 | .bool,_,_,h=>by rw[show _=_ from h];simp[ach]
 | .str,_,_,h=>by rw[show _=_ from h];simp[ach]
 | .slice _,_,_,h=>by obtain⟨A,cap,rfl,_⟩:=h;simp[ach]
 | .jS,_,_,h=>by obtain⟨rfl,A,m,c,rfl⟩:=h;simp[ach]
 | .nul k,_,_,h=>by rw[show _=_ from h];simp[k.one]
 | .map ..,_,_,h=>by
   obtain⟨v,rfl,h⟩:=h
   rcases h with⟨rfl,_⟩|⟨b,es,clock,rfl,_⟩<;>simp[ach]
 | .pair a b,_,_,h=>by
   obtain⟨c1,c2,rfl,h1,h2⟩:=h;intro u hu
   rcases aa9.1 hu with h'|h'
   .exact h1.gO u h'
   .exact h2.gO u h'
def Step(F:Nat->Prop)(w:World)(F':Nat->Prop)(w':World):Prop:=∀b,F b->F' b/\w'.heap[b]? =w.heap[b]?
theorem bT.step{F F':Nat->Prop}{w w':World}(ho:Step F w F' w'):{r:Row}->{cs:List Value}->{d:r.den}->bT F w r cs d->bT F' w' r cs d
 | .int _,_,_,h=>h
 | .bool,_,_,h=>h
 | .str,_,_,h=>h
 | .slice e,_,l,h=>by
   obtain⟨A,cap,hc,h1,h2,h3⟩:=h;refine⟨A,cap,hc,h1,h2,λi hi=>?_⟩;obtain⟨b,off,es,hA,hb,rK,pw,hr⟩:=h3 i hi;exact⟨b,off,es,hA,(ho b hb).1,rK,λj u hu=>(World.cell?_of_block (ho b hb).2).trans (pw j u hu),hr.step ho⟩
 | .jS,_,_,h=>h
 | .nul _,_,_,h=>h
 | .map K agg V,_,l,h=>by
   obtain⟨v,hv,h⟩:=h;refine⟨v,hv,h.imp id λ⟨b,es,clock,h1,h2,h3,h4,h5,h6⟩=>⟨b,es,clock,h1,(ho b h2).1,(ho b h2).2.trans h3,h4,h5,λi hi=>?_⟩⟩;obtain⟨e,cs,g1,g2,g3,g4⟩:=h6 i hi;exact⟨e,cs,g1,g2,g3.step ho,g4⟩
 | .pair a b,_,_,h=>by
   obtain⟨c1,c2,hc,h1,h2⟩:=h;exact⟨c1,c2,hc,h1.step ho,h2.step ho⟩
def At(F:Nat->Prop)(w:World)(r:Row)(b off:Nat)(x:r.den):Prop:=
 ∃es,es.length=r.size/\(∀j u,es[j]? =some u->w.cell? ⟨b,off+j,acP⟩=some u)/\bT F w r es x
theorem At.fst{F:Nat->Prop}{w:World}{r s:Row}{b off:Nat}{x:(Row.pair r s).den}(h:At F w (.pair r s) b off x):At F w r b off x.1:=by
 obtain⟨es,hl,hc,c1,c2,rfl,h1,h2⟩:=h
 exact⟨c1,h1.length,λj u hu=>hc j u (by
  rw[List.getElem?_append_left]
  .exact hu
  .exact(abj.1 hu).1),h1⟩
theorem At.snd{F:Nat->Prop}{w:World}{r s:Row}{b off:Nat}{x:(Row.pair r s).den}(h:At F w (.pair r s) b off x)(k:Nat)(hk:k=r.size):At F w s b (off+k) x.2:=by
 obtain⟨es,hl,hc,c1,c2,rfl,h1,h2⟩:=h;subst hk
 exact⟨c2,h2.length,λj u hu=>by
  have:=hc (r.size+j) u (by
   rw[List.getElem?_append_right (by rw[h1.length];omega),h1.length];rw[show r.size+j-r.size=j from by omega]
   exact hu)
  rw[Nat.add_assoc]
  exact this,h2⟩
theorem bT.nil(F:Nat->Prop)(w:World)(e:Row):bT F w (.slice e) [.slice acP 0 0] []:=⟨acP,0,rfl,aaX _,by simp[maxLen],λi hi=>absurd hi (by simp)⟩
theorem bT.Ao{F:Nat->Prop}{w:World}{e:Row}{v:Value}{l:List e.den}(h:bT F w (.slice e) [v] l):
 ∃A cap,v= .slice A l.length cap/\l.length<=cap/\cap<=9223372036854775807:=by
 obtain⟨A,cap,h1,h2,h3,_⟩:=h;exact⟨A,cap,by simpa using h1,h2,h3⟩
structure St(w0:World)(F0:Nat->Prop)(w:World)(F:Nat->Prop):Prop where
 below:Below w0.heap.size w0 w
 le:∀b,F0 b->F b
 new:∀b,F b->F0 b\/w0.heap.size<=b
 lt:∀b,F b->b<w.heap.size
theorem St.refl{w:World}{F:Nat->Prop}(h:∀b,F b->b<w.heap.size):St w F w F:=⟨Below.refl _ _,λ_ h=>h,λ_ h=> .inl h,h⟩
theorem St.trans{w0 w1 w2:World}{F0 F1 F2:Nat->Prop}(h:St w0 F0 w1 F1)(k:St w1 F1 w2 F2):St w0 F0 w2 F2:=
 ⟨h.below.trans (k.below.mono h.below.size),λb hb=>k.le b (h.le b hb),λb hb=>by
   rcases k.new b hb with h1|h1
   .exact h.new b h1
   .exact .inr (abi h.below.size h1),k.lt⟩
theorem St.step{w0 w:World}{F0 F:Nat->Prop}(h:St w0 F0 w F)(h0:∀b,F0 b->b<w0.heap.size):Step F0 w0 F w:=λb hb=>⟨h.le b hb,h.below.block b (h0 b hb)⟩
theorem St.drew{w0 w:World}{F0 F:Nat->Prop}(h:St w0 F0 w F):St w0 F0 w.drew F:=⟨h.below.drew,h.le,h.new,h.lt⟩
theorem St.alloc{w0 w:World}{F0 F:Nat->Prop}(h:St w0 F0 w F)(o:Obj):St w0 F0 (w.alloc o) F:=
 ⟨h.below.alloc h.below.size o,h.le,h.new,λb hb=>by have:=h.lt b hb;simp;omega⟩
theorem St.freeze{w0 w:World}{F0 F:Nat->Prop}(h:St w0 F0 w F)(G:Nat->Prop)(h1:∀b,G b->w0.heap.size<=b/\b<w.heap.size):St w0 F0 w (λb=>F b\/G b):=
 ⟨h.below,λb hb=> .inl (h.le b hb),λb hb=>by
   rcases hb with hb|hb
   .exact h.new b hb
   .exact .inr (h1 b hb).1,λb hb=>by
   rcases hb with hb|hb
   .exact h.lt b hb
   .exact(h1 b hb).2⟩
theorem St.back{w0 w1 w2:World}{F0 F1 F2 F3:Nat->Prop}(h:St w0 F0 w1 F1)(k:St w1 F2 w2 F3):St w0 F0 w2 F1:=
 ⟨h.below.trans (k.below.mono h.below.size),h.le,h.new,λb hb=>abt (h.lt b hb) k.below.size⟩
theorem Step.refl(F:Nat->Prop)(w:World):Step F w F w:=λ_ h=>⟨h,rfl⟩
theorem Step.trans{F F1 F2:Nat->Prop}{w w1 w2:World}(h:Step F w F1 w1)(k:Step F1 w1 F2 w2):Step F w F2 w2:=λb hb=>⟨(k b (h b hb).1).1,(k b (h b hb).1).2.trans (h b hb).2⟩
theorem Step.drew(F:Nat->Prop)(w:World):Step F w F w.drew:=λ_ h=>⟨h,rfl⟩
theorem Step.alloc{F:Nat->Prop}{w:World}(h:∀b,F b->b<w.heap.size)(o:Obj):Step F w F (w.alloc o):=λb hb=>⟨hb,Below.heap_alloc w o b (h b hb)⟩
theorem Step.freeze(F:Nat->Prop)(w:World)(G:Nat->Prop):Step F w (λb=>F b\/G b) w:=λ_ h=>⟨.inl h,rfl⟩
structure Fr(n:Nat)(a:Act)(ρ:Nat->Value):Prop where
 size:a.tmps.size=n
 defers:a.defers=[]
 get:∀t,a.tmps.getD t undef=ρ t
def Ae(ρ:Nat->Value)(d:Nat)(v:Value):Nat->Value:=λt=>bif aaY t d then v else ρ t
def ev(ρ:Nat->Value):Operand->Value
 | .tmp t=>ρ t
 | .const v=>v
 | .global g=> .pointer (some ⟨g,0,acP⟩)
 | .func f=> .func (.func f) #[] #[]
theorem Fr.eval{n:Nat}{a:Act}{ρ:Nat->Value}(h:Fr n a ρ):a.eval=ev ρ:=by
 funext x
 cases x with
 |tmp t=>exact h.get t
 |const v=>rfl
 |global g=>rfl
 |func f=>rfl
theorem Fr.put{n:Nat}{a:Act}{ρ:Nat->Value}(h:Fr n a ρ){d:Nat}(hd:abI d n=acQ)(v:Value):Fr n (a.put (some d) v) (Ae ρ d v):=by
 have ag:d<n:=by simpa[Nat.blt_eq]using hd
 refine⟨by simpa[Act.put]using h.size,by simpa[Act.put]using h.defers,λt=>?_⟩;have hs:=h.size;have hg:=h.get t;simp only[Act.put,abA,Array.getElem?_setIfInBounds]at hg⊢;unfold Ae;by_cases ht:t=d
 .subst ht;simp[hs,ag]
 .have cA:¬d=t:=λe=>ht e.symm
  have hb:aaY t d=acR:=by
   cases v7:aaY t d with
   |false=>rfl
   |true=>exact absurd (abK v7) ht
  simp[cA,hb,hg]
def wpS(P:Program)(n:Nat)(ops:Array Oper)(K:(Nat->Value)->World->Prop)(l:List Oper)(ρ:Nat->Value)(w:World):Prop:=
 ∀(Q:Exit->Act->World->Prop)(a:Act),Fr n a ρ->(∀a' cq w',Fr n a' cq->K cq w'->Q .normal a' w')->wpList P ops Q l a w
section
variable {P:Program} {n:Nat} {ops:Array Oper} {K:(Nat->Value)->World->Prop} {rest:List Oper} {ρ:Nat->Value} {w:World}
theorem Jf(h:K ρ w):wpS P n ops K [] ρ w:=λ_ _ hf hk=>hk _ _ _ hf h
def Pure(P:Program)(ρ:Nat->Value)(o:Oper)(v:Value):Prop:=∀w,(execOp (ev ρ) o).run P w= .ok (.value v) w
theorem ma{a:Act}(hf:Fr n a ρ){j d:Nat}{b:Bool}(hj:(ops[j]?).bind (·.dst)=some d)(hd:abI d n=acQ)(hb:ρ d= .bool b):yielded ops a.tmps j=some b:=by
 have ag:d<n:=by simpa[Nat.blt_eq]using hd
 have hg:=hf.get d;have hs:=hf.size;rw[hb]at hg
 have:a.tmps[d]? =some (.bool b):=by
  rw[abA]at hg;rw[abh (by omega)]at hg⊢;simpa using hg
 unfold yielded;rw[hj];simp[this]
theorem Lx{dst:Option Nat}{op:Op}{ty:TypeId}{pos:String}{aft:Array Edge}{j:Nat}{b:Bool}(d:Nat)(hj:(ops[j]?).bind (·.dst)=some d)(hd:abI d n=acQ)(hb:ρ d= .bool b)
 (h:wpS P n ops K (⟨dst,op,ty,pos,aft,acP⟩::rest) ρ w):wpS P n ops K (⟨dst,op,ty,pos,aft,some (j,b)⟩::rest) ρ w:=
 λQ a hf hk=>by
  have:=h Q a hf hk;unfold wpList at this⊢;rw[acU (by simp[aco])]at this;rw[acU (by simp[aco,ma hf hj hd hb])];exact this
theorem Jg{d':Nat}{op:Op}{ty:TypeId}{pos:String}{aft:Array Edge}{j:Nat}{b b':Bool}(d:Nat)(hj:(ops[j]?).bind (·.dst)=some d)(hd:abI d n=acQ)(hb:ρ d= .bool b')(cA:b'≠b)(uR:abI d' n=acQ)
 (h:wpS P n ops K rest (Ae ρ d' undef) w):wpS P n ops K (⟨some d',op,ty,pos,aft,some (j,b)⟩::rest) ρ w:=
 λQ a hf hk=>by
  have:=h Q _ (hf.put uR undef) hk;unfold wpList;rw[acT (by simp[aco,ma hf hj hd hb,cA])];exact this
theorem v8{op:Op}{ty:TypeId}{pos:String}{aft:Array Edge}{j:Nat}{b b':Bool}(d:Nat)(hj:(ops[j]?).bind (·.dst)=some d)(hd:abI d n=acQ)(hb:ρ d= .bool b')(cA:b'≠b)
 (h:wpS P n ops K rest ρ w):wpS P n ops K (⟨acP,op,ty,pos,aft,some (j,b)⟩::rest) ρ w:=
 λQ a hf hk=>by
  have:=h Q _ hf hk;unfold wpList;rw[acT (by simp[aco,ma hf hj hd hb,cA])];exact this
theorem lq{a:Act}(hf:Fr n a ρ){j d:Nat}(hj:(ops[j]?).bind (·.dst)=some d)(hd:abI d n=acQ)(hb:ρ d=undef):yielded ops a.tmps j=acP:=by
 have ag:d<n:=by simpa[Nat.blt_eq]using hd
 have hg:=hf.get d;have hs:=hf.size;rw[hb]at hg
 have:a.tmps[d]? =some undef:=by
  rw[abA]at hg;rw[abh (by omega)]at hg⊢;simpa using hg
 unfold yielded;rw[hj];simp[this,undef]
theorem FM{d':Nat}{op:Op}{ty:TypeId}{pos:String}{aft:Array Edge}{j:Nat}{b:Bool}(d:Nat)(hj:(ops[j]?).bind (·.dst)=some d)(hd:abI d n=acQ)(hb:ρ d=undef)(uR:abI d' n=acQ)
 (h:wpS P n ops K rest (Ae ρ d' undef) w):wpS P n ops K (⟨some d',op,ty,pos,aft,some (j,b)⟩::rest) ρ w:=
 λQ a hf hk=>by
  have:=h Q _ (hf.put uR undef) hk;unfold wpList;rw[acT (by simp[aco,lq hf hj hd hb])];exact this
theorem uo{op:Op}{ty:TypeId}{pos:String}{aft:Array Edge}{j:Nat}{b:Bool}(d:Nat)(hj:(ops[j]?).bind (·.dst)=some d)(hd:abI d n=acQ)(hb:ρ d=undef)
 (h:wpS P n ops K rest ρ w):wpS P n ops K (⟨acP,op,ty,pos,aft,some (j,b)⟩::rest) ρ w:=
 λQ a hf hk=>by
  have:=h Q _ hf hk;unfold wpList;rw[acT (by simp[aco,lq hf hj hd hb])];exact this
end
def r3(P:Program)(n:Nat)(c:Code)(Q:Exit->(Nat->Value)->World->Prop)(ρ:Nat->Value)(w:World):Prop:=
 ∀a,Fr n a ρ->c.wp P (λe a' w'=>∃cq,Fr n a' cq/\Q e cq w') a w
def Wn(K:(Nat->Value)->World->Prop)(Q:Exit->(Nat->Value)->World->Prop):Exit->(Nat->Value)->World->Prop
 | .normal,ρ,w=>K ρ w
 |e,ρ,w=>Q e ρ w
def Na(id:Nat)(Q:Exit->(Nat->Value)->World->Prop):Exit->(Nat->Value)->World->Prop
 | .exit Dm,ρ,w=>bif aaY Dm id then Q .normal ρ w else Q (.exit Dm) ρ w
 |e,ρ,w=>Q e ρ w
section
variable {P:Program} {n:Nat} {Q:Exit->(Nat->Value)->World->Prop} {ρ:Nat->Value} {w:World}
theorem Ap{id:Nat}{l:List Oper}(h:wpS P n l.toArray (λρ w=>Q .normal ρ w) l ρ w):r3 P n (.region id l.toArray acR) Q ρ w:=
 λa hf=>wp_region_lit (h _ a hf λ_ _ _ ov hk=>⟨_,ov,hk⟩)
theorem wa{a b:Code}(h:r3 P n a (Wn (λρ w=>r3 P n b Q ρ w) Q) ρ w):r3 P n (.seq a b) Q ρ w:=
 λact hf=>wp_seq (wp_mono (h act hf) λe a' w' ⟨cq,ov,hh⟩=>by
  cases e with
  |normal=>exact hh a' ov
  |_=>exact⟨cq,ov,hh⟩)
theorem FN(h:Q .normal ρ w):r3 P n .skip Q ρ w:=λ_ hf=>wp_skip ⟨_,hf,h⟩
theorem FO{id:Nat}(h:Q (.exit id) ρ w):r3 P n (.exit id) Q ρ w:=λ_ hf=>wp_exit ⟨_,hf,h⟩
theorem Jh(h:Q .ret ρ w):r3 P n .ret Q ρ w:=λ_ hf=>wp_ret ⟨_,hf,h⟩
theorem qf{id:Nat}{c:Code}(h:r3 P n c (Na id Q) ρ w):r3 P n (.block id c) Q ρ w:=
 λa hf=>wp_block (wp_mono (h a hf) λe a' w' ⟨cq,ov,hh⟩=>by
  cases e with
  |exit Dm=>
   unfold Exit.inBlock;by_cases he:Dm=id
   .subst he;simp only[Na,show aaY Dm Dm=acQ from Nat.beq_refl _,cond_true]at hh;simpa using⟨cq,ov,hh⟩
   .have hb:aaY Dm id=acR:=by
     cases v7:aaY Dm id with
     |false=>rfl
     |true=>exact absurd (abK v7) he
    simp only[Na,hb,cond_false]at hh;simpa[he]using⟨cq,ov,hh⟩
  |_=>exact⟨cq,ov,hh⟩)
theorem xM{c:Operand}{x y:Code}(b:Bool)(hc:ev ρ c= .bool b)(h:r3 P n (bif b then x else y) Q ρ w):r3 P n (.cond c x y) Q ρ w:=
 λa hf=>wp_cond (t:=b) (by rw[hf.eval];exact hc) (by
  have:=h a hf
  cases b<;>exact this)
theorem FP{c:Operand}{x y:Code}(hc:ev ρ c= .bool acQ)(h:r3 P n x Q ρ w):r3 P n (.cond c x y) Q ρ w:=xM acQ hc h
theorem Dn{c:Operand}{x y:Code}(hc:ev ρ c= .bool acR)(h:r3 P n y Q ρ w):r3 P n (.cond c x y) Q ρ w:=xM acR hc h
def Loop{S X:Type}(body:S->Option (S⊕X)):Nat->S->Option X
 |0,_=>acP
 |k+1,s=>match body s with
  |none=>acP
  |some (.inl s')=>Loop body k s'
  |some (.inr x)=>some x
def KS{S X:Type}(I:S->(Nat->Value)->World->Prop)(Q:Exit->(Nat->Value)->World->Prop)(x:X):S⊕X->Exit->(Nat->Value)->World->Prop
 | .inl s',e,ρ,w=>e= .normal/\I s' ρ w
 | .inr x',e,ρ,w=>e≠ .normal/\(x'=x->Q e ρ w)
theorem FQ{S X:Type}{body:S->Option (S⊕X)}{c:Code}(I:S->(Nat->Value)->World->Prop){x:X}{N:Nat}{s:S}(hm:Loop body N s=some x)(h0:I s ρ w)
 (hb:∀s ρ w y,I s ρ w->body s=some y->r3 P n c (KS I Q x y) ρ w):r3 P n (.loop c) Q ρ w:=by
 intro a hf;refine wp_loop_rounds N ?_
 induction N generalizing s ρ w a with
 |zero=>cases hm
 |succ k ih=>
  rw[rounds_succ];unfold Loop at hm
  cases hy:body s with
  |none=>simp[hy]at hm
  |some y=>
   refine wp_mono (hb s ρ w y h0 hy a hf) λe a' w' ⟨cq,ov,hh⟩=>?_
   cases y with
   |inl s'=>
    obtain⟨rfl,hI⟩:=hh;rw[hy]at hm;exact ih hm hI a' ov
   |inr x'=>
    rw[hy]at hm;obtain⟨cA,hq⟩:=hh;have:=hq (aaT hm)
    cases e with
    |normal=>exact absurd rfl cA
    |_=>exact⟨cq,ov,this⟩
def NA(P:Program)(fn:Func)(n:Nat)(R:Value->World->Prop):Exit->(Nat->Value)->World->Prop
 | .normal,ρ,w| .ret,ρ,w=>∀a,Fr n a ρ->∃v,(results fn a.tmps).run P w= .ok v w/\R v w
 |_,_,_=>False
theorem wb{f:FuncId}{fn:Func}{c:Code}{args:List Value}{R:Value->World->Prop}(hf:P.funcs[f]? =some fn)(hb:fn.body=some c)(hn:args.length<=fn.ntmps)
 (h:∀ρ,(∀t v,args[t]? =some v->ρ t=v)->r3 P fn.ntmps c (NA P fn fn.ntmps R) ρ w):
 Calls P f args.toArray w λe w'=>∃v,e= .returned v/\R v w':=by
 refine calls_of_wp hf hb ?_
 have jc:(args.toArray++Array.replicate (fn.ntmps-args.toArray.size) undef).size=fn.ntmps:=by simp;omega
 refine wp_mono (h (λt=>(args.toArray++Array.replicate (fn.ntmps-args.toArray.size) undef).getD t undef) ?_ _ ⟨jc,rfl,λt=>rfl⟩) λe a' w' ⟨cq,ov,hh⟩=>?_
 .intro t v hv;have ag:t<args.length:=(abj.1 hv).1
  have da:args[t]=v:=by rw[aaW ag]at hv;exact aaT hv
  simp[abA,Array.getElem?_append,ag,da]
 .cases e with
  |normal=>exact⟨ov.defers,(hh a' ov).imp λv hv=>⟨hv.1,v,rfl,hv.2⟩⟩
  |ret=>exact⟨ov.defers,(hh a' ov).imp λv hv=>⟨hv.1,v,rfl,hv.2⟩⟩
  |_=>exact hh.elim
end
end
end Go.Proofs.YtbladfbbhijpmaaGreat
section
open _root_.Bool renaming false->acR,true->acQ
open _root_.Option renaming none->acP
open _root_.List renaming append_assoc->abm,drop_append_of_le_length->abP,drop_of_length_le->ab2,getElem?_drop->abe,getElem?_eq_some_iff->abj,getElem?_take->abl,take_length->abg
open _root_.Nat renaming zero_add->aby
open _root_.Go.Sem renaming run_bind->abp
namespace Go.Proofs.YtbladfbbhijpmaaGreat
open Go Go.RowKit
theorem nO{α:Type}[BEq α][LawfulBEq α][DecidableEq α](a b:α):(a==b)=decide (a=b):=by
 by_cases h:a=b
 .subst h;simp
 .simp[h]
theorem run_equal_bool{P:Program}{t:TypeId}(ht:P.underlying t=some .bool)(p q:Bool)(w:World):(Op.equal t (.bool p) (.bool q)).run P w= .ok (p==q) w:=by
 have h:∀d:Nat,(Op.equalIn (d+1) t (.bool p) (.bool q)).run P w= .ok (p==q) w:=λd=>by
  simp[Op.equalIn,run_underlying ht]
 exact h 9999
section
variable {P:Program} {ρ:Nat->Value} {d:Option Nat} {ty:TypeId} {pos:String} {aft:Array Edge} {x y c:Operand} {t u:TypeId} {k:IntKind} {a b:Int}
theorem Dq{v:Value}(h:ev ρ x=v):Pure P ρ ⟨d, .move x,ty,pos,aft,acP⟩ v:=λw=>by simp[execOp,h]
theorem xN{v:Value}(h:ev ρ x=v):Pure P ρ ⟨d, .assign x,ty,pos,aft,acP⟩ v:=λw=>by simp[execOp,h]
theorem sB{v:Value}(hc:ev ρ c= .bool acQ)(hx:ev ρ x=v):Pure P ρ ⟨d, .pick c x y,ty,pos,aft,acP⟩ v:=λw=>by
 simp[execOp,asBool,hc,hx]
theorem rL{v:Value}(hc:ev ρ c= .bool acR)(hy:ev ρ y=v):Pure P ρ ⟨d, .pick c x y,ty,pos,aft,acP⟩ v:=λw=>by
 simp[execOp,asBool,hc,hy]
theorem FR(hx:ev ρ x= .int k a)(hy:ev ρ y= .int k b):Pure P ρ ⟨d, .binOp .add t x y u,ty,pos,aft,acP⟩ (.int k (k.wrap (a+b))):=λw=>by
 simp[execOp,eqGuard,binOp,Op.intArith,hx,hy]
theorem FT(hx:ev ρ x= .int k a)(hy:ev ρ y= .int k b):Pure P ρ ⟨d, .binOp .sub t x y u,ty,pos,aft,acP⟩ (.int k (k.wrap (a-b))):=λw=>by
 simp[execOp,eqGuard,binOp,Op.intArith,hx,hy]
theorem FU(hx:ev ρ x= .int k a)(hy:ev ρ y= .int k b):Pure P ρ ⟨d, .binOp .mul t x y u,ty,pos,aft,acP⟩ (.int k (k.wrap (a*b))):=λw=>by
 simp[execOp,eqGuard,binOp,Op.intArith,hx,hy]
theorem FV(hx:ev ρ x= .int k a)(hy:ev ρ y= .int k b)(hb:b≠0):Pure P ρ ⟨d, .binOp .quo t x y u,ty,pos,aft,acP⟩ (.int k (k.wrap (a.tdiv b))):=λw=>by
 simp[execOp,eqGuard,binOp,Op.intDiv,hx,hy,hb]
theorem FW(hx:ev ρ x= .int k a)(hy:ev ρ y= .int k b)(hb:b≠0):Pure P ρ ⟨d, .binOp .rem t x y u,ty,pos,aft,acP⟩ (.int k (a.tmod b)):=λw=>by
 simp[execOp,eqGuard,binOp,Op.intDiv,hx,hy,hb]
theorem FX(hx:ev ρ x= .int k a)(hy:ev ρ y= .int k b):Pure P ρ ⟨d, .binOp .lss t x y u,ty,pos,aft,acP⟩ (.bool (decide (a<b))):=λw=>by
 simp[execOp,eqGuard,binOp,Op.intCmp,hx,hy]
theorem FY(hx:ev ρ x= .int k a)(hy:ev ρ y= .int k b):Pure P ρ ⟨d, .binOp .leq t x y u,ty,pos,aft,acP⟩ (.bool (decide (a<=b))):=λw=>by
 simp[execOp,eqGuard,binOp,Op.intCmp,hx,hy]
theorem FZ(hx:ev ρ x= .int k a)(hy:ev ρ y= .int k b):Pure P ρ ⟨d, .binOp .gtr t x y u,ty,pos,aft,acP⟩ (.bool (decide (b<a))):=λw=>by
 simp[execOp,eqGuard,binOp,Op.intCmp,hx,hy]
theorem F5(hx:ev ρ x= .int k a)(hy:ev ρ y= .int k b):Pure P ρ ⟨d, .binOp .geq t x y u,ty,pos,aft,acP⟩ (.bool (decide (b<=a))):=λw=>by
 simp[execOp,eqGuard,binOp,Op.intCmp,hx,hy]
theorem F6(hx:ev ρ x= .int k a)(hy:ev ρ y= .int k b):Pure P ρ ⟨d, .binOp .eql t x y u,ty,pos,aft,acP⟩ (.bool (decide (a=b))):=λw=>by
 simp[execOp,eqGuard,binOp,Op.intCmp,hx,hy,nO]
theorem F7(hx:ev ρ x= .int k a)(hy:ev ρ y= .int k b):Pure P ρ ⟨d, .binOp .neq t x y u,ty,pos,aft,acP⟩ (.bool (!decide (a=b))):=λw=>by
 simp[execOp,eqGuard,binOp,Op.intCmp,hx,hy,bne,nO]
theorem Dr{p q:Bool}(ht:P.underlying t=some .bool)(hx:ev ρ x= .bool p)(hy:ev ρ y= .bool q):Pure P ρ ⟨d, .binOp .eql t x y u,ty,pos,aft,acP⟩ (.bool (decide (p=q))):=λw=>by
 have h:=run_equal_bool ht p q w;rw[nO]at h;simp only[execOp,eqGuard,hx,hy];simp[binOp,h]
theorem Ds{p q:Bool}(ht:P.underlying t=some .bool)(hx:ev ρ x= .bool p)(hy:ev ρ y= .bool q):Pure P ρ ⟨d, .binOp .neq t x y u,ty,pos,aft,acP⟩ (.bool (!decide (p=q))):=λw=>by
 have h:=run_equal_bool ht p q w;rw[nO]at h;simp only[execOp,eqGuard,hx,hy];simp[binOp,h]
theorem bytes_beq(p q:ByteArray):(p.toList==q.toList)=decide (p=q):=by
 rw[nO]
 congr 1
 rw[ByteArray.toList_eq,ByteArray.toList_eq];refine propext ⟨λh=>?_,λh=>by rw[h]⟩;cases p;cases q;simpa using h
theorem Dt{p q:ByteArray}(hx:ev ρ x= .string p)(hy:ev ρ y= .string q):Pure P ρ ⟨d, .binOp .eql t x y u,ty,pos,aft,acP⟩ (.bool (decide (p=q))):=λw=>by
 simp[execOp,eqGuard,binOp,Op.stringOp,hx,hy,bytes_beq]
theorem Du{p q:ByteArray}(hx:ev ρ x= .string p)(hy:ev ρ y= .string q):Pure P ρ ⟨d, .binOp .neq t x y u,ty,pos,aft,acP⟩ (.bool (!decide (p=q))):=λw=>by
 simp[execOp,eqGuard,binOp,Op.stringOp,hx,hy,bytes_beq]
theorem F8{p:Bool}(hx:ev ρ x= .bool p):Pure P ρ ⟨d, .unOp .not t x,ty,pos,aft,acP⟩ (.bool !p):=λw=>by
 simp[execOp,Op.unary,hx]
theorem F9(hx:ev ρ x= .int k a):Pure P ρ ⟨d, .unOp .neg t x,ty,pos,aft,acP⟩ (.int k (k.wrap (0-a))):=λw=>by
 simp[execOp,Op.unary,Op.intArith,hx]
theorem Dv{k':IntKind}{e:TypeDesc}(hs:P.underlying t=some e)(hu:P.underlying u=some (.int k'))(hx:ev ρ x= .int k a):Pure P ρ ⟨d, .convert t u x,ty,pos,aft,acP⟩ (.int k' (k'.wrap a)):=λw=>by
 simp[execOp,convert,run_underlying hs,run_underlying hu,hx,Conv.intToInt]
theorem Ga{e:TypeId}{A:Option Addr}{n cap:Nat}{m:Nat}(hm:m=n)(ht:P.underlying t=some (.slice e))(hx:ev ρ x= .slice A n cap):
 Pure P ρ ⟨d, .call {callee:= .builtin .len,args:= #[x],argTypes:= #[t]},ty,pos,aft,acP⟩ (.int .i64 (m:Int)):=λw=>by
 subst hm;simp[execOp,resolve,invoke,builtin,Builtin.len_,run_underlying ht,hx,goInt]
theorem Dw{s:ByteArray}(ht:P.underlying t=some .string)(hx:ev ρ x= .string s):
 Pure P ρ ⟨d, .call {callee:= .builtin .len,args:= #[x],argTypes:= #[t]},ty,pos,aft,acP⟩ (.int .i64 (s.size:Int)):=λw=>by
 simp[execOp,resolve,invoke,builtin,Builtin.len_,run_underlying ht,hx,goInt]
theorem Dx{t':TypeId}(hx:ev ρ x= .int k a)(hy:ev ρ y= .int k b):
 Pure P ρ ⟨d, .call {callee:= .builtin .max,args:= #[x,y],argTypes:= #[t,t']},ty,pos,aft,acP⟩ (.int k (if a<b then b else a)):=λw=>by
 simp[execOp,resolve,invoke,builtin,Builtin.max_,Builtin.max2,hx,hy]
theorem Dy{t':TypeId}(hx:ev ρ x= .int k a)(hy:ev ρ y= .int k b):
 Pure P ρ ⟨d, .call {callee:= .builtin .min,args:= #[x,y],argTypes:= #[t,t']},ty,pos,aft,acP⟩ (.int k (if b<a then b else a)):=λw=>by
 simp[execOp,resolve,invoke,builtin,Builtin.min_,Builtin.min2,hx,hy]
theorem wc{vs:Array Value}{i:Nat}{v:Value}(hx:ev ρ x= .tuple vs)(hi:vs[i]? =some v):Pure P ρ ⟨d, .extract x i,ty,pos,aft,acP⟩ v:=λw=>by
 simp[execOp,Instr.extract,hx,hi]
theorem bZ(b o k:Nat):(⟨b,o,acP⟩:Addr).add k=⟨b,o+k,acP⟩:=by unfold Addr.add;split<;>simp_all
theorem sC{f:Nat}{fs:Array Field}{fd:Field}{ti:TypeInfo}{lA off:Nat}(k:Nat)(hs:P.underlying t=some (.struct fs))(hf:fs[f]? =some fd)(hi:P.info? fd.type=some ti)(jc:ti.size≠0)(hk:fd.offset=k)
 (hx:ev ρ x= .pointer (some ⟨lA,off,acP⟩)):Pure P ρ ⟨d, .fieldAddr t x f,ty,pos,aft,acP⟩ (.pointer (some ⟨lA,off+k,acP⟩)):=λw=>by
 subst hk;simp[execOp,Instr.fieldAt,run_underlying hs,hf,Instr.sureAddr,fieldPlace,sizeOf,typeInfo,hi,jc,hx,bZ]
theorem kD{e:TypeId}{ti:TypeInfo}{lA off n cap i:Nat}(size:Nat)(ht:P.underlying t=some (.slice e))(hi:P.info? e=some ti)(jc:ti.size=size)
 (hx:ev ρ x= .slice (some ⟨lA,off,acP⟩) n cap)(hy:ev ρ y= .int k a)(ha:a=(i:Int))(ag:i<n):
 Pure P ρ ⟨d, .indexAddr t x y,ty,pos,aft,acP⟩ (.pointer (some ⟨lA,off+i*size,acP⟩)):=λw=>by
 subst jc;subst ha;simp[execOp,Instr.indexAt,asIntOf,run_underlying ht,sizeOf,typeInfo,hi,hx,hy,ag,bZ]
end
end Go.Proofs.YtbladfbbhijpmaaGreat
namespace Go.Proofs.YtbladfbbhijpmaaGreat
open Go Go.RowKit
inductive Path:Row->Row->Type where
 |here {r:Row}:Path r r
 |fst {a b s:Row} (p:Path a s):Path (.pair a b) s
 |snd {a b s:Row} (p:Path b s):Path (.pair a b) s
def Path.off:{r s:Row}->Path r s->Nat
 |_,_, .here=>0
 |_,_, .fst p=>p.off
 |_,_, .snd (a:=a) p=>a.size+p.off
@[reducible] def Path.get:{r s:Row}->Path r s->r.den->s.den
  |_,_, .here,x=>x
  |_,_, .fst p,x=>p.get x.1
  |_,_, .snd p,x=>p.get x.2
@[reducible] def Path.set:{r s:Row}->Path r s->r.den->s.den->r.den
  |_,_, .here,_,y=>y
  |_,_, .fst p,x,y=>(p.set x.1 y,x.2)
  |_,_, .snd p,x,y=>(x.1,p.set x.2 y)
section
variable {F:Nat->Prop} {w:World}
theorem Path.le:{r s:Row}->(p:Path r s)->p.off+s.size<=r.size
 |_,_, .here=>by simp[Path.off]
 |_,_, .fst p=>by have:=p.le;simp[Path.off];omega
 |_,_, .snd p=>by have:=p.le;simp[Path.off];omega
theorem bT.path:{r s:Row}->(p:Path r s)->{es:List Value}->{x:r.den}->bT F w r es x->bT F w s ((es.drop p.off).take s.size) (p.get x)
 |_,_, .here,es,x,h=>by
  have:=h.length;simp only[Path.off,List.drop_zero,Path.get];rw[<-this,abg];exact h
 |_,s, .fst (a:=a) p,_,x,h=>by
  obtain⟨c1,c2,rfl,h1,h2⟩:=h;have hr:=bT.path p h1;have hle:=p.le;have hl:=h1.length;simp only[Path.off,Path.get];rw[abP (by omega),List.take_append_of_le_length (by rw[List.length_drop];omega)];exact hr
 |_,s, .snd (a:=a) p,_,x,h=>by
  obtain⟨c1,c2,rfl,h1,h2⟩:=h;have hr:=bT.path p h2;have hl:=h1.length;simp only[Path.off,Path.get];rw[<-hl,List.drop_append,ab2 (by omega),List.nil_append,show c1.length+p.off-c1.length=p.off from by omega];exact hr
theorem bT.put:{r s:Row}->(p:Path r s)->{es vs:List Value}->{x:r.den}->{y:s.den}->bT F w r es x->bT F w s vs y->
 bT F w r (es.take p.off++vs++es.drop (p.off+s.size)) (p.set x y)
 |_,_, .here,es,vs,x,y,h,hv=>by
  have:=h.length;simp only[Path.off,Path.set,List.take_zero,List.nil_append,aby];rw[<-this,List.drop_length,List.append_nil];exact hv
 |_,s, .fst (a:=a) p,_,vs,x,y,h,hv=>by
  obtain⟨c1,c2,rfl,h1,h2⟩:=h;have hr:=bT.put p h1 hv;have hle:=p.le;have hl:=h1.length;refine⟨_,c2,?_,hr,h2⟩;simp only[Path.off];rw[List.take_append_of_le_length (by omega),abP (by omega)];simp[abm]
 |_,s, .snd (a:=a) p,_,vs,x,y,h,hv=>by
  obtain⟨c1,c2,rfl,h1,h2⟩:=h;have hr:=bT.put p h2 hv;have hl:=h1.length;refine⟨c1,_,?_,h1,hr⟩;simp only[Path.off]
  rw[<-hl,List.take_append,List.take_of_length_le (by omega),List.drop_append,ab2 (by omega),show c1.length+p.off-c1.length=p.off from by omega,
   show c1.length+p.off+s.size-c1.length=p.off+s.size from by omega]
  simp[abm]
theorem At.path{r s:Row}{b off:Nat}{x:r.den}(h:At F w r b off x)(p:Path r s)(k:Nat)(hk:p.off=k):At F w s b (off+k) (p.get x):=by
 subst hk;obtain⟨es,hl,hc,hr⟩:=h;have hp:=hr.path p;refine⟨_,hp.length,λj u hu=>?_,hp⟩;rw[abl]at hu;split at hu
 .rw[abe]at hu;rw[Nat.add_assoc];exact hc _ u hu
 .cases hu
theorem At.int{k:IntKind}{b off:Nat}{x:Int}(h:At F w (.int k) b off x):w.cell? ⟨b,off,acP⟩=some (.int k x):=by
 obtain⟨es,hl,hc,rfl⟩:=h;exact hc 0 _ rfl
theorem At.bool{b off:Nat}{x:Bool}(h:At F w .bool b off x):w.cell? ⟨b,off,acP⟩=some (.bool x):=by
 obtain⟨es,hl,hc,rfl⟩:=h;exact hc 0 _ rfl
theorem At.str{b off:Nat}{x:ByteArray}(h:At F w .str b off x):w.cell? ⟨b,off,acP⟩=some (.string x):=by
 obtain⟨es,hl,hc,rfl⟩:=h;exact hc 0 _ rfl
theorem At.slice{e:Row}{b off:Nat}{x:List e.den}(h:At F w (.slice e) b off x):∃v,w.cell? ⟨b,off,acP⟩=some v/\bT F w (.slice e) [v] x:=by
 obtain⟨es,hl,hc,hr⟩:=h;obtain⟨A,cap,rfl,h⟩:=hr;exact⟨_,hc 0 _ rfl,A,cap,rfl,h⟩
theorem At.P9{r:Row}{b off:Nat}{x:r.den}(h:At F w r b off x):∃es,(∀j u,es[j]? =some u->w.cell? ⟨b,off+j,acP⟩=some u)/\bT F w r es x:=by
 obtain⟨es,hl,hc,hr⟩:=h;exact⟨es,hc,hr⟩
def Reads(F:Nat->Prop)(w:World)(r:Row)(v:Value)(l:List r.den):Prop:=
 ∃A cap,v= .slice A l.length cap/\l.length<=cap/\cap<=maxLen/\∀i(h:i<l.length),∃b off,A=some ⟨b,off,acP⟩/\At F w r b (off+i*r.size) l[i]
theorem bT.reads{r:Row}{v:Value}{l:List r.den}(h:bT F w (.slice r) [v] l):Reads F w r v l:=by
 obtain⟨A,cap,h1,h2,h3,h4⟩:=h;refine⟨A,cap,by simpa using h1,h2,h3,λi hi=>?_⟩;obtain⟨b,off,es,hA,_,rK,hc,hr⟩:=h4 i hi;exact⟨b,off,hA,es,rK,hc,hr⟩
def idx{α:Type}(l:List α)(i:Int):Option α:=if 0<=i then l[i.toNat]? else acP
theorem ei{α:Type}{l:List α}{i:Int}{y:α}(h:idx l i=some y):∃k:Nat,i=k/\∃hk:k<l.length,l[k]=y:=by
 unfold idx at h;split at h
 .rename_i h0;obtain⟨hk,e⟩:=abj.1 h;exact⟨i.toNat,by omega,hk,e⟩
 .cases h
theorem Reads.elem{r:Row}{v:Value}{l:List r.den}(h:Reads F w r v l){i:Int}{y:r.den}(hi:idx l i=some y):
 ∃b off cap k,v= .slice (some ⟨b,off,acP⟩) l.length cap/\i=(k:Nat)/\k<l.length/\At F w r b (off+k*r.size) y:=by
 obtain⟨A,cap,hv,_,_,h4⟩:=h;obtain⟨k,hk,ag,rfl⟩:=ei hi;obtain⟨b,off,rfl,qg⟩:=h4 k ag;exact⟨b,off,cap,k,hv,hk,ag,qg⟩
end
section
variable {P:Program} {n:Nat} {ops:Array Oper} {K:(Nat->Value)->World->Prop} {rest:List Oper} {ρ:Nat->Value} {w:World} {F:Nat->Prop}
variable {d:Nat} {ty:TypeId} {pos:String} {aft:Array Edge} {x y:Operand} {t:TypeId}
def gW:TypeDesc->Bool
 | .struct _| .array _ _=>acQ
 |_=>acR
theorem dK{D:TypeDesc}(hu:P.underlying t=some D)(w:World):(isAgg t).run P w= .ok (gW D) w:=by
 unfold isAgg;rw[abp,run_underlying hu w]
 cases D<;>simp[gW]
theorem uS{dd:Option Nat}{D:TypeDesc}{b off:Nat}{v:Value}(hu:P.underlying t=some D)(hD:gW D=acR)(hx:ev ρ x= .pointer (some ⟨b,off,acP⟩))(hc:w.cell? ⟨b,off,acP⟩=some v):
 (execOp (ev ρ) ⟨dd, .load t x,ty,pos,aft,acP⟩).run P w= .ok (.value v) w:=by
 simp[execOp,hx,Instr.loadAt,Instr.sureAddr,loadVar,abp,dK hu,hD,hc,go_sem]
theorem Dz{dd:Option Nat}{D:TypeDesc}{ti:TypeInfo}{b off:Nat}{es:List Value}(hu:P.underlying t=some D)(hD:gW D=acQ)(hi:P.info? t=some ti)(hs:ti.size=es.length)
 (hx:ev ρ x= .pointer (some ⟨b,off,acP⟩))(hc:∀j u,es[j]? =some u->w.cell? ⟨b,off+j,acP⟩=some u):
 (execOp (ev ρ) ⟨dd, .load t x,ty,pos,aft,acP⟩).run P w= .ok (.value (.agg es.toArray)) w:=by
 have hl:(loadCells ⟨b,off,acP⟩ es.length).run P w= .ok es.toArray w:=
  run_loadCells_list (P:=P) w ⟨b,off,acP⟩ es (λj v hv=>by rw[bZ];exact hc j v hv)
 simp[execOp,hx,Instr.loadAt,Instr.sureAddr,loadVar,abp,dK hu,hD,sizeOf,typeInfo,hi,hs,hl]
end
end Go.Proofs.YtbladfbbhijpmaaGreat
end
namespace Go.Proofs.YtbladfbbhijpmaaGreat
open Go Go.RowKit
set_option maxRecDepth 100000
set_option linter.unusedSimpArgs false
set_option linter.unusedVariables false
set_option linter.defProp false
section
theorem Ly{ε α β:Type}{x:Except ε α}{f:α->Except ε β}{b:β}(h:(x >>= f)= .ok b):∃a,f a= .ok b:=by
 cases x with
 |error e=>cases h
 |ok a=>exact⟨a,h⟩
theorem rM{P:Program}{w w':World}{at_ k:Addr}{u:TypeId}{v:Value}{at':Bool}{l:List Addr}(h:World.viewStore P w at_ u k v at'= .ok (w',l)):w'.drawn=w.drawn:=by
 unfold World.viewStore at h
 repeat' (first
  |(obtain⟨_,h⟩:=Ly h)
  |(split at h)
  |(cases h;done)
  |(cases h;rfl))
theorem DA{α:Type}(a:Ask α):(w:World)->w.drawn<=(World.ask w a).2.drawn:=by
 induction a with
 |done a=>intro w;exact aaX _
 |ask NB range k ih=>
  intro w;unfold World.ask;simp only;split
  .exact ih _ _
  .have h2:=ih ((Question.extern NB range).cut (w.tape w.drawn (Question.extern NB range))) {w with drawn:=w.drawn+1};exact abi (Nat.le_succ _) h2
theorem DB(w:World)(c:Sys):w.drawn<=(w.sys c).2.drawn:=by
 unfold World.sys;have h:=DA (Kernel.perform c w.os) w;split
 .exact aaX _
 .rename_i h1;rw[h1]at h;exact h
theorem DC{P:Program}{α:Type}{a:α}{w':World}(s:Sem α):(w:World)->s.run P w= .ok a w'->w.drawn<=w'.drawn:=by
 induction s with
 |pure a=>intro w h;cases h;exact aaX _
 |load m a k ih=>
  intro w h;unfold acN at h;split at h
  .exact ih _ _ h
  .split at h
   .exact ih _ _ h
   .cases h
 |store m a v k ih=>
  intro w h
  cases v<;>simp only[acN]at h<;>first
   |(cases h;done)
   |(split at h
     .split at h
      .cases h
      .have h2:=ih _ h;exact h2
     .split at h
      .rename_i e3;have h2:=ih _ h;unfold World.farStore at e3;split at e3
       .split at e3
        .rename_i e4;cases e3;rw[rM e4]at h2;exact h2
        .cases e3
       .cases e3
      .cases h)
 |new o k ih=>intro w h;unfold acN at h;have h2:=ih _ _ h;exact h2
 |shape r k ih=>intro w h;unfold acN at h;exact ih _ _ h
 |freeze a n k ih=>intro w h;unfold acN at h;have:=ih _ h;unfold World.freeze at this;split at this<;>exact this
 |frozen a k ih=>intro w h;unfold acN at h;exact ih _ _ h
 |getObj r k ih=>intro w h;unfold acN at h;split at h<;>first|cases h|exact ih _ _ h
 |setObj r o k ih=>intro w h;unfold acN at h;split at h<;>first|(cases h;done)|(have h2:=ih _ h;exact h2)
 |choose q k ih=>
  intro w h;unfold acN at h;split at h
  .exact ih _ _ h
  .have h2:=ih _ _ h;exact abi (Nat.le_succ _) h2
 |sys c k ih=>intro w h;unfold acN at h;exact abi (DB w c) (ih _ _ h)
 |program k ih=>intro w h;unfold acN at h;exact ih _ _ h
 |mark m k ih=>intro w h;unfold acN at h;exact ih _ h
 |halt hh=>intro w h;unfold acN at h;cases h
structure Ext(g:Nat->Prop)(w w':World):Prop where
 os:w'.os=w.os
 tape:w'.tape=w.tape/\w.drawn<=w'.drawn
 output:w'.output=w.output
 size:w.heap.size<=w'.heap.size
 block:∀k,k<w.heap.size->¬g k->w'.heap[k]? =w.heap[k]?
theorem Ext.Gb{g:Nat->Prop}{a b:World}{row:Option Nat}(h:a.grownBy b row)(hd:a.drawn<=b.drawn)(hs:∀k,row=some k->g k):Ext g a b:=
 ⟨h.os,⟨h.tape,hd⟩,h.output,h.size,λk hk hn=>h.block k hk λe=>hn (hs k e.symm)⟩
section
variable {w0 w w':World} {F0 F F':Nat->Prop} {g:Nat->Prop}
theorem St.ext(h:St w0 F0 w F)(he:Ext g w w')(hg:∀k,g k->w0.heap.size<=k):St w0 F0 w' F:=
 ⟨h.below.trans ⟨he.os,he.tape.1,he.output,he.size,λk hk=>by
   rcases Nat.lt_or_ge k w.heap.size with ag|hge
   .exact he.block k ag λe=>by have:=hg k e;omega
   .have:=h.below.size;omega⟩,h.le,h.new,λb hb=>abt (h.lt b hb) he.size⟩
theorem Step.ext(he:Ext g w w')(hF:∀b,F b->b<w.heap.size)(hg:∀k,g k->¬F k):Step F w F w':=
 λb hb=>⟨hb,he.block b (hF b hb) λe=>hg b e hb⟩
def lr(base:Nat)(F:Nat->Prop)(w:World)(b:Nat)(T:TypeId)(r:Row)(x:r.den):Prop:=
 base<=b/\¬F b/\∃es,w.heap[b]? =some (.cells es.toArray T (0,0))/\bT F w r es x
def bh(v:Value)(k:Nat):Prop:=v.ownBlock=some k
def is(b k:Nat):Prop:=k=b
def kW(w:World)(base:Nat)(e:TypeId)(size:Nat)(v:Value)(n:Nat)(xs:List Value):Prop:=
 xs.length=n*size/\
 ((v= .slice acP 0 0/\n=0)\/
  ∃g o0 cap cur,v= .slice (some ⟨g,o0,acP⟩) n cap/\base<=g/\w.heap[g]? =some (.cells cur e (0,0))/\n<=cap/\cap<=maxLen/\o0+cap*size<=cur.size/\(cur.toList.drop o0).take (n*size)=xs)
theorem kW.of{w:World}{base:Nat}{e:TypeId}{size:Nat}{v:Value}{n:Nat}{xs:List Value}(h:w.ownsRow base e size v n xs):kW w base e size v n xs:=by
 refine⟨h.1,?_⟩
 rcases h.2 with h|⟨g,cap,cur,hv,hb,hg,h1,h2,h3,h4⟩
 .exact .inl h
 .exact .inr ⟨g,0,cap,cur,hv,hb,hg,h1,h2,by omega,h4⟩
theorem DD(w:World)(base:Nat)(e:TypeId)(size:Nat):kW w base e size (.slice acP 0 0) 0 []:= .of (World.ownsRow_nil w base e size)
theorem kW.lt{w:World}{base:Nat}{e:TypeId}{size:Nat}{v:Value}{n:Nat}{xs:List Value}(h:kW w base e size v n xs):∀k,v.ownBlock=some k->base<=k/\k<w.heap.size:=by
 intro k hk
 rcases h.2 with⟨rfl,_⟩|⟨g,o0,cap,cur,rfl,hb,hg,_⟩
 .cases hk
 .obtain rfl:g=k:=by simpa[abu]using hk
  exact⟨hb,(abx.1 hg).1⟩
def gv(base:Nat)(F:Nat->Prop)(w:World)(T:TypeId)(r:Row)(v:Value)(l:List r.den):Prop:=
 (∀k,bh v k->¬F k)/\∃xs,kW w base T r.size v l.length xs/\∀i(h:i<l.length),bT F w r ((xs.drop (i*r.size)).take r.size) l[i]
variable {base b:Nat} {T:TypeId} {r:Row}
theorem lr.lt{x:r.den}(h:lr base F w b T r x):∀k,is b k->k<w.heap.size:=λk hk=>by
 obtain⟨_,_,es,hh,_⟩:=h;rw[hk];exact(abx.1 hh).1
theorem lr.ge{x:r.den}(h:lr base F w b T r x):∀k,is b k->base<=k:=λk hk=>by rw[hk];exact h.1
theorem lr.no{x:r.den}(h:lr base F w b T r x):∀k,is b k->¬F k:=λk hk=>by rw[hk];exact h.2.1
theorem lr.st{x:r.den}(h:lr base F w b T r x)(hF:∀b,F b->b<w.heap.size)(hs:St w F w' F'):lr base F' w' b T r x:=by
 have ag:=h.lt b rfl;obtain⟨h1,h2,es,hh,hr⟩:=h;refine⟨h1,λe=>?_,es,(hs.below.block b ag).trans hh,hr.step (hs.step hF)⟩
 rcases hs.new b e with h'|h'
 .exact h2 h'
 .omega
theorem lr.ext{x:r.den}(h:lr base F w b T r x)(hF:∀b,F b->b<w.heap.size)(he:Ext g w w')(hg:∀k,g k->¬F k)(hb:∀k,g k->¬is b k):lr base F w' b T r x:=by
 have ag:=h.lt b rfl;obtain⟨h1,h2,es,hh,hr⟩:=h;exact⟨h1,h2,es,(he.block b ag λe=>hb b e rfl).trans hh,hr.step (Step.ext he hF hg)⟩
theorem lr.at{x:r.den}(h:lr base F w b T r x):At F w r b 0 x:=by
 obtain⟨_,_,es,hh,hr⟩:=h;exact⟨es,hr.length,λj u hu=>by rw[aby,cell_of_row w b j _ T (0,0) hh];simpa using hu,hr⟩
theorem gv.lt{v:Value}{l:List r.den}(h:gv base F w T r v l):∀k,bh v k->k<w.heap.size:=by
 obtain⟨_,xs,h,_⟩:=h
 exact λk hk=>(h.lt k hk).2
theorem gv.ge{v:Value}{l:List r.den}(h:gv base F w T r v l):∀k,bh v k->base<=k:=by
 obtain⟨_,xs,h,_⟩:=h
 exact λk hk=>(h.lt k hk).1
theorem gv.no{v:Value}{l:List r.den}(h:gv base F w T r v l):∀k,bh v k->¬F k:=h.1
theorem gv.nil(base:Nat)(F:Nat->Prop)(w:World)(T:TypeId)(r:Row):gv base F w T r (.slice acP 0 0) []:=
 ⟨λk hk=>by simp[bh,abu]at hk,[],DD _ _ _ _,λi h=>absurd h (by simp)⟩
theorem gv.keep{v:Value}{l:List r.den}(h:gv base F w T r v l)(hs:Step F w F' w')(h1:∀k,bh v k->¬F' k/\w'.heap[k]? =w.heap[k]?):gv base F' w' T r v l:=by
 obtain⟨_,xs,⟨xK,Af⟩,h3⟩:=h;refine⟨λk hk=>(h1 k hk).1,xs,⟨xK,?_⟩,λi hi=>(h3 i hi).step hs⟩
 rcases Af with h2|⟨gg,o0,cap,cur,rfl,hb,hg,rest⟩
 .exact .inl h2
 .exact .inr ⟨gg,o0,cap,cur,rfl,hb,(h1 gg rfl).2.trans hg,rest⟩
theorem gv.st{v:Value}{l:List r.den}(h:gv base F w T r v l)(hF:∀b,F b->b<w.heap.size)(hs:St w F w' F'):gv base F' w' T r v l:=
 h.keep (hs.step hF) λk hk=>⟨λe=>by
   have ag:=h.lt k hk
   rcases hs.new k e with h'|h'
   .exact h.no k hk h'
   .omega,hs.below.block k (h.lt k hk)⟩
theorem gv.ext{v:Value}{l:List r.den}(h:gv base F w T r v l)(hF:∀b,F b->b<w.heap.size)(he:Ext g w w')(hg:∀k,g k->¬F k)(hb:∀k,g k->¬bh v k):gv base F w' T r v l:=
 h.keep (Step.ext he hF hg) λk hk=>⟨h.no k hk,he.block k (h.lt k hk) λe=>hb k e hk⟩
theorem gv.reads{v:Value}{l:List r.den}(h:gv base F w T r v l):Reads F w r v l:=by
 obtain⟨_,xs,hx,h3⟩:=h;have hlen:=hx.1
 rcases hx.2 with⟨rfl,h0⟩|⟨gg,o0,cap,cur,rfl,hb,hg,h1,h2,oN,uT⟩
 .exact⟨acP,0,by rw[h0],by omega,by simp[maxLen],λi hi=>absurd hi (by omega)⟩
 .refine⟨_,cap,rfl,h1,h2,λi hi=>⟨gg,o0,rfl,_,(h3 i hi).length,λj u hu=>?_,h3 i hi⟩⟩;rw[abl]at hu;split at hu
  .rw[abe]at hu;rw[cell_of_row w gg _ cur T (0,0) hg];rw[<-uT,abl]at hu;split at hu
   .rw[abe]at hu;simpa[Nat.add_assoc]using hu
   .cases hu
  .cases hu
theorem gv.freeze{v:Value}{l:List r.den}(h:gv base F w T r v l):bT (λb=>F b\/bh v b) w (.slice r) [v] l:=by
 obtain⟨A,cap,hv,h1,h2,h3⟩:=h.reads;refine⟨A,cap,by rw[hv],h1,h2,λi hi=>?_⟩;obtain⟨b,off,rfl,es,rK,hc,hr⟩:=h3 i hi;subst hv;exact⟨b,off,es,rfl, .inr (by simp[bh,abu]),rK,hc,hr.step λb hb=>⟨.inl hb,rfl⟩⟩
@[reducible] def Row.zero:(r:Row)->r.den
  | .int _=>(0:Int)
  | .bool=>acR
  | .str=>acF
  | .slice _=>[]
  | .jS=> .slice acP 0 0
  | .nul _=>()
  | .map .. =>[]
  | .pair a b=>(a.zero,b.zero)
def Row.dB:(r:Row)->List Value
 | .int k=>[.int k 0]
 | .bool=>[.bool acR]
 | .str=>[.string acF]
 | .slice _=>[.slice acP 0 0]
 | .jS=>[.slice acP 0 0]
 | .nul k=>[k.val]
 | .map .. =>[.map acP]
 | .pair a b=>a.dB++b.dB
theorem bT.zero(F:Nat->Prop)(w:World):(r:Row)->bT F w r r.dB r.zero
 | .int _=>rfl
 | .bool=>rfl
 | .str=>rfl
 | .slice e=>bT.nil F w e
 | .jS=>⟨rfl,acP,0,0,rfl⟩
 | .nul _=>rfl
 | .map .. =>⟨_,rfl, .inl ⟨rfl,rfl⟩⟩
 | .pair a b=>⟨_,_,rfl,bT.zero F w a,bT.zero F w b⟩
theorem lr.new(F:Nat->Prop){w:World}(T:TypeId){r:Row}{es:List Value}{x:r.den}(hF:∀b,F b->b<w.heap.size)(hb:base<=w.heap.size)(hr:bT F w r es x):lr base F (w.alloc (.cells es.toArray T)) w.heap.size T r x:=
 ⟨hb,λe=>by have:=hF _ e;omega,es,heap_alloc_new w _,hr.step (Step.alloc hF _)⟩
end
section
variable {P:Program} {n:Nat} {ops:Array Oper} {K:(Nat->Value)->World->Prop} {rest:List Oper} {ρ:Nat->Value} {w:World} {F:Nat->Prop} {base:Nat}
variable {d:Nat} {ty:TypeId} {pos:String} {aft:Array Edge} {x y:Operand} {t:TypeId}
theorem DE{dd:Option Nat}{ti:TypeInfo}{z:Value}(hi:P.info? t=some ti)(hz:ti.zero=some z):
 (execOp (ev ρ) ⟨dd, .alloc t,ty,pos,aft,acP⟩).run P w= .ok (.value (.pointer (some ⟨w.heap.size,0,acP⟩))) (w.alloc (.cells z.cells t)):=by
 simp[execOp,Instr.alloc,zeroValue,typeInfo,hi,hz,newVar,newRow]
theorem Ji{dd:Option Nat}{v:Value}(hx:ev ρ x=v):
 (execOp (ev ρ) ⟨dd, .box t x,ty,pos,aft,acP⟩).run P w= .ok (.value (.pointer (some ⟨w.heap.size,0,acP⟩))) (w.alloc (.cells v.cells t)):=by
 simp[execOp,Instr.box,hx,newVar,newRow]
theorem mc{dd:Option Nat}{ti:TypeInfo}{b off:Nat}{cur:Array Value}{T:TypeId}{v:Value}{vs:List Value}(hi:P.info? t=some ti)(hs:ti.size=vs.length)(hx:ev ρ x= .pointer (some ⟨b,off,acP⟩))(hy:ev ρ y=v)
 (hv:v.cells.toList=vs)(h1:∀u∈vs,u.oneCell'=acQ)(hg:w.heap[b]? =some (.cells cur T (0,0)))(hl:off+vs.length<=cur.size):
 (execOp (ev ρ) ⟨dd, .store t x y,ty,pos,aft,acP⟩).run P w= .ok .skip (w.setRow b (cur.toList.take off++vs++cur.toList.drop (off+vs.length)).toArray):=by
 have dW:=run_storeCells_at P b off T vs 0 cur w hg (by omega) h1
 have jc:v.cells.size=ti.size:=by rw[hs,<-hv];simp
 simp only[ab3]at dW;simp[execOp,Instr.storeAt,Instr.sureAddr,storeVar,sizeOf,typeInfo,hi,jc,hx,hy,hv,dW]
theorem Aq(w:World)(b:Nat)(cs:Array Value):Ext (is b) w (w.setRow b cs):=
 ⟨rfl,⟨rfl,aaX _⟩,rfl,by simp,λk _ hk=>setRow_other w b k cs hk⟩
theorem lr.put{w:World}{b:Nat}{T:TypeId}{r s:Row}{a:r.den}{es:List Value}(hh:w.heap[b]? =some (.cells es.toArray T (0,0)))(hr:bT F w r es a)(hb:base<=b)(hn:¬F b)(hF:∀b,F b->b<w.heap.size)(p:Path r s){vs:List Value}{u:s.den}(hv:bT F w s vs u):
 lr base F (w.setRow b (es.take p.off++vs++es.drop (p.off+s.size)).toArray) b T r (p.set a u):=
 ⟨hb,hn,_,setRow_heap w b _ _ T (0,0) hh,(hr.put p hv).step (Step.ext (Aq w b _) hF λk hk=>by rw[show k=b from hk];exact hn)⟩
def uU{α:Type}(m:Int)(z:α):Option (List α):=if 0<=m/\m<=4294967296 then some (abn m.toNat z)else acP
def bK{α:Type}(l m:List α):Option (List α):=if l.length+m.length<=4294967296 then some (l++m)else acP
theorem px(z:Array Value)(m j:Nat)(hj:j<m)(hz:0<z.size):(madeCells z m).toList[j]? =z[j%z.size]? :=by
 have:j%z.size<z.size:=Nat.mod_lt _ hz;simp[madeCells,hj,this]
theorem Gc(z:List Value)(m i:Nat)(hz:0<z.length)(hi:i<m):(((madeCells z.toArray (m*z.length)).toList.drop (i*z.length)).take z.length)=z:=by
 apply List.ext_getElem?
 intro j;rw[abl,abe];split
 .rename_i hj;have hle:(i+1)*z.length<=m*z.length:=abf _ hi;rw[abG]at hle;rw[px z.toArray (m*z.length) (i*z.length+j) (by omega) (by simpa using hz)];rw[show z.toArray.size=z.length from by simp,List.getElem?_toArray];rw[Nat.add_comm,Nat.add_mul_mod_self_right,Nat.mod_eq_of_lt hj]
 .rename_i hj;rw[List.getElem?_eq_none (by omega)]
theorem Reads.news{r:Row}{A:Option Addr}{cap m:Nat}{l:List r.den}(h:Reads F w r (.slice A m cap) l)(b off:Nat)(hA:A=some ⟨b,off,acP⟩):
 ∃news:List Value,news.length=l.length*r.size/\(∀j u,news[j]? =some u->w.cell? ⟨b,off+j,acP⟩=some u)/\∀i(hi:i<l.length),bT F w r ((news.drop (i*r.size)).take r.size) l[i]:=by
 subst hA;obtain⟨A',Gd,hv,_,_,h4⟩:=h;simp only[aci]at hv;obtain⟨rfl,_,_⟩:=hv;have mV:=r.size_pos
 have pw:∀j,j<l.length*r.size->∃u,w.cell? ⟨b,off+j,acP⟩=some u:=by
  intro j hj;have hi:j/r.size<l.length:=Nat.div_lt_of_lt_mul (by rwa [Nat.mul_comm]);obtain⟨b',cV,r4,es,rK,hc,_⟩:=h4 _ hi;simp only[aa1,acp,and_true]at r4;obtain⟨rfl,rfl⟩:=r4
  have Qa:j%r.size<es.length:=by rw[rK];exact Nat.mod_lt _ mV
  have:=hc (j%r.size) _ (aaW Qa);rw[Nat.add_assoc,Nat.div_add_mod']at this;exact⟨_,this⟩
 have Jj:∀j u,((aa2 (l.length*r.size)).map λj=>(w.cell? ⟨b,off+j,acP⟩).getD undef)[j]? =some u↔j<l.length*r.size/\w.cell? ⟨b,off+j,acP⟩=some u:=by
  intro j u;by_cases hj:j<l.length*r.size
  .obtain⟨q,hq⟩:=pw j hj;simp[hj,hq]
  .simp[hj]
 refine⟨(aa2 (l.length*r.size)).map λj=>(w.cell? ⟨b,off+j,acP⟩).getD undef,by simp,λj u hu=>((Jj j u).1 hu).2,λi hi=>?_⟩;obtain⟨b',cV,r4,es,rK,hc,hr⟩:=h4 i hi;simp only[aa1,acp,and_true]at r4;obtain⟨rfl,rfl⟩:=r4
 have he:(((aa2 (l.length*r.size)).map λj=>(w.cell? ⟨b,off+j,acP⟩).getD undef).drop (i*r.size)).take r.size=es:=by
  have hle:(i+1)*r.size<=l.length*r.size:=abf _ hi;rw[abG]at hle
  apply List.ext_getElem?
  intro j;rw[abl,abe];split
  .rename_i hj;rw[(Jj (i*r.size+j) (es[j]'(by omega))).2 ⟨by omega,by rw[<-Nat.add_assoc];exact hc j _ (aaW (by omega))⟩,aaW (by omega)]
  .rw[List.getElem?_eq_none (by omega)]
 rw[he];exact hr
theorem py(w:World)(base:Nat)(t ty e:TypeId)(i:TypeInfo)(size:Nat)(ht:P.underlying t=some (.slice e))(hi:P.info? e=some i)
 (v:Value)(n:Nat)(xs:List Value)(dm:kW w base e size v n xs)(c:Nat):(acw #[t,t] ty #[v, .slice acP 0 c]).run P w= .ok v w:=by
 rcases dm.2 with⟨rfl,rfl⟩|⟨g,o0,cap,cur,rfl,_,_,NC,_⟩
 .simp[acw,run_underlying ht,sizeOf,typeInfo,hi,Builtin.lenOf,Builtin.firstCells]
 .simp[acw,run_underlying ht,sizeOf,typeInfo,hi,Builtin.lenOf,Builtin.firstCells,NC,storeCells]
theorem we(w:World)(base:Nat)(t ty e:TypeId)(i:TypeInfo)(z:Value)(size bytes:Nat)(ht:P.underlying t=some (.slice e))(hi:P.info? e=some i)(hz:i.zero=some z)
 (KT:i.size=size)(Nb:i.bytes=bytes)(ND:z.cells.size=size)(jc:0<size)
 (v:Value)(n:Nat)(xs:List Value)(dm:kW w base e size v n xs)
 (a:Addr)(m c:Nat)(news:List Value)(hl:news.length=m*size)(Ge:∀j u,news[j]? =some u->w.cell? (a.add j)=some u)(h1:∀u∈news,u.oneCell'=acQ)
 (QO:n+m<=maxLen)(Gf:(n+m)*bytes<=140737488355328)(KU:base<=w.heap.size):
 ∃v' w',(acw #[t,t] ty #[v, .slice (some a) m c]).run P w= .ok v' w'/\kW w' base e size v' (n+m) (xs++news)/\w.grownBy w' v.ownBlock/\
  (v'.ownBlock=v.ownBlock\/v'.ownBlock=some w.heap.size):=by
 rcases dm.2 with⟨rfl,rfl⟩|⟨g,o0,cap,cur,rfl,Wo,hg,NC,Jk,oN,uT⟩
 .have hx:xs=[]:=List.eq_nil_of_length_eq_zero (by simpa using dm.1);subst hx;obtain⟨v',w',g1,g2,g3,_,g4⟩:=run_append_own_at (P:=P) w base t ty e i z size bytes ht hi hz KT Nb ND jc (.slice acP 0 0) 0 [] (World.ownsRow_nil w base e size) a m c news hl Ge h1 QO Gf KU;exact⟨v',w',g1, .of g2,g3,g4⟩
 subst KT;subst Nb
 have QP:n+m<=9223372036854775807:=by simp only[maxLen]at QO;omega
 have hlen:(xs++news).length=(n+m)*i.size:=by rw[aba,dm.1,hl,abG]
 have hnm:n*i.size+news.length=(n+m)*i.size:=by rw[hl,abG]
 have Wq:n*i.size<=cap*i.size:=abf _ NC;by_cases Gg:n+m<=cap
 .have xO:(n+m)*i.size<=cap*i.size:=abf _ Gg;have hf:=run_firstCells_some (P:=P) w i.size m a m c news hl Ge;have dW:=run_storeCells_at P g (o0+n*i.size) e news 0 cur w hg (by omega) h1;simp only[ab3]at dW
  have hr:(acw #[t,t] ty #[.slice (some ⟨g,o0,acP⟩) n cap, .slice (some a) m c]).run P w=
   .ok (.slice (some ⟨g,o0,acP⟩) (n+m) cap) (w.setRow g (cur.toList.take (o0+n*i.size)++news++cur.toList.drop (o0+n*i.size+news.length)).toArray):=by
   simp[acw,run_underlying ht,sizeOf,typeInfo,hi,Builtin.lenOf,Gg,hf,Addr.add_lit,dW]
  refine⟨_,_,hr,⟨hlen, .inr ⟨g,o0,cap,_,rfl,Wo,setRow_heap w g cur _ e _ hg,Gg,Jk,?_,?_⟩⟩,⟨rfl,rfl,rfl,by simp,λk _ hk=>setRow_other w g k _ (λe=>hk (by simp[abu,e]))⟩,Or.inl rfl⟩
  .simp only[List.size_toArray,aba,abb,List.length_drop,Array.length_toList];omega
  .rw[List.toList_toArray,abm,abP (by simp;omega),List.drop_take,Nat.add_sub_cancel_left,uT,<-abm,<-hlen];exact List.take_left
 .have holds:∀j u,xs[j]? =some u->w.cell? ((⟨g,o0,acP⟩:Addr).add j)=some u:=λj u hj=>by
   rw[bZ,cell_of_row w g _ cur e (0,0) hg];rw[<-uT,abl]at hj;split at hj
   .rw[abe]at hj;simpa using hj
   .cases hj
  have hr:=run_append_grow (P:=P) w t ty e i z ht hi hz ⟨g,o0,acP⟩ n cap xs dm.1 holds a m c news hl Ge (by omega) (by omega) (growslice_fits (by omega) Gf);have hge:=grownCap_ge w (n+m) cap e;have QR:grownCap w (n+m) cap e<=maxLen:=grownCap_le_maxLen w (n+m) cap e QO;refine⟨_,_,hr, .of ⟨hlen, .inr ⟨w.heap.size,_,_,rfl,KU,heap_alloc_new w.drew _,hge,QR,?_,?_⟩⟩,⟨rfl,rfl,rfl,by simp,λk hk _=>heap_alloc_old w.drew _ hk⟩,Or.inr rfl⟩
  .simp only[Array.size_append,List.size_toArray,size_zeroCells,ND,dm.1,hl,<-abG]
   congr 1
   omega
  .simp only[Array.toList_append,abm];rw[<-abm,<-hlen];exact List.take_left
theorem Reads.same{r:Row}{v:Value}{l:List r.den}(h:Reads F w r v l):Reads F w r v l:=h
theorem sD{e:TypeId}{ti:TypeInfo}{z:Value}{r:Row}{v u:Value}{l m out:List r.den}(ty:TypeId)(ht:P.underlying t=some (.slice e))(hi:P.info? e=some ti)(hz:ti.zero=some z)(NE:z.cells.toList=r.dB)(hs:ti.size=r.size)(Nb:ti.bytes<=32768)
 (hv:gv base F w e r v l)(hu:Reads F w r u m)(hm:bK l m=some out)(hF:∀b,F b->b<w.heap.size)(hb:base<=w.heap.size):
 ∃v' w',(acw #[t,t] ty #[v,u]).run P w= .ok v' w'/\Ext (bh v) w w'/\gv base F w' e r v' out/\(bh v'=bh v\/bh v'=(w.heap.size= ·)):=by
 unfold bK at hm;split at hm
 case isFalse=>cases hm
 rename_i hlen;obtain rfl:=aaT hm
 have ND:z.cells.size=r.size:=by rw[<-(bT.zero F w r).length,<-NE];simp
 obtain⟨wg,xs,hx,h3⟩:=hv;have Qb:=hu;obtain⟨A,cap,rfl,hmc,Jk,rK⟩:=hu
 have Gh:∀(v':Value)(w':World)(news:List Value),news.length=m.length*r.size->(∀i(hi:i<m.length),bT F w r ((news.drop (i*r.size)).take r.size) m[i])->
  kW w' base e r.size v' (l.length+m.length) (xs++news)->w.grownBy w' v.ownBlock->w.drawn<=w'.drawn->(v'.ownBlock=v.ownBlock\/v'.ownBlock=some w.heap.size)->
  Ext (bh v) w w'/\gv base F w' e r v' (l++m)/\(bh v'=bh v\/bh v'=(w.heap.size= ·)):=by
  intro v' _ news Qc Qd eZ hg jS qg
  have hm:bh v'=bh v\/bh v'=(w.heap.size= ·):=by
   rcases qg with h|h
   .exact .inl (by unfold bh;rw[h])
   .refine .inr ?_;funext b;unfold bh;rw[h];simp
  have bo:=Ext.Gb hg jS (g:=bh v) λk hk=>hk
  have cY:=Step.ext bo hF wg;refine⟨bo,⟨λk hk=>?_,xs++news,by simpa using eZ,λk hk=>?_⟩,hm⟩
  .rcases hm with h|h
   .rw[h]at hk;exact wg k hk
   .rw[h]at hk;intro hf;have:=hF k hf;omega
  .have wh:=hx.1
   rcases Nat.lt_or_ge k l.length with ag|hge
   .have hle:(k+1)*r.size<=l.length*r.size:=abf _ ag;rw[abG]at hle;rw[List.getElem_append_left ag,abP (by omega),List.take_append_of_le_length (by rw[List.length_drop];omega)];exact(h3 k ag).step cY
   .have Nc:k-l.length<m.length:=by simp at hk;omega
    have hmul:k*r.size=l.length*r.size+(k-l.length)*r.size:=by rw[<-abG];congr 1;omega
    rw[List.getElem_append_right hge,List.drop_append,wh,ab2 (by omega),List.nil_append,show k*r.size-l.length*r.size=(k-l.length)*r.size from by omega];exact(Qd _ Nc).step cY
 cases A with
 |none=>
  have Lz:m=[]:=by
   cases m with
   |nil=>rfl
   |cons a q=>obtain⟨b,off,h,_⟩:=rK 0 (by simp);cases h
  subst Lz;refine⟨v,w,py w base t ty e ti r.size ht hi v _ xs hx _,?_⟩;exact Gh v w [] (by simp) (λi hi=>absurd hi (by simp)) (by simpa using hx) ⟨rfl,rfl,rfl,aaX _,λ_ _ _=>rfl⟩ (aaX _) (.inl rfl)
 |some ad=>
  have key:∃news:List Value,news.length=m.length*r.size/\(∀j u,news[j]? =some u->w.cell? (ad.add j)=some u)/\∀i(hi:i<m.length),bT F w r ((news.drop (i*r.size)).take r.size) m[i]:=by
   cases m with
   |nil=>exact⟨[],by simp,λj u h=>by simp at h,λi hi=>absurd hi (by simp)⟩
   |cons a q=>
    obtain⟨b,off,h,_⟩:=rK 0 (by simp);obtain⟨news,h1,h2,h3⟩:=Qb.news b off h
    obtain rfl:ad=⟨b,off,acP⟩:=by simpa using h
    exact⟨news,h1,λj u hj=>by rw[bZ];exact h2 j u hj,h3⟩
  obtain⟨news,Qc,NC,Qd⟩:=key
  have kj:∀u∈news,u.oneCell'=acQ:=by
   intro u hu;obtain⟨j,hj,rfl⟩:=abD hu;have mV:=r.size_pos;have hi:j/r.size<m.length:=Nat.div_lt_of_lt_mul (by rw[Nat.mul_comm,<-Qc];exact hj);have hr:=Qd _ hi;refine hr.gO _ ?_;have hle:(j/r.size)*r.size+j%r.size=j:=Nat.div_add_mod' j r.size;have ag:=Nat.mod_lt j mV;rw[List.mem_iff_getElem?];refine⟨j%r.size,?_⟩;rw[abl,acU ag,abe,hle,aaW hj]
  obtain⟨v',w',bq,eZ,hg,qg⟩:=we (P:=P) w base t ty e ti z r.size ti.bytes ht hi hz hs rfl ND r.size_pos v l.length xs hx ad m.length cap news Qc NC kj (by simp only[maxLen];omega)
   (abi (Nat.mul_le_mul hlen Nb) (by omega)) hb
  exact⟨v',w',bq,Gh v' w' news Qc Qd eZ hg (DC _ _ bq) qg⟩
end
end
end Go.Proofs.YtbladfbbhijpmaaGreat
section
open _root_.Bool renaming false->acR,true->acQ,false_eq_true->aa4
open _root_.Option renaming none->acP
open _root_.List.cons renaming injEq->ab9
open _root_.List renaming drop_eq_getElem_cons->abv,length_take->abb,take_length->abg
open _root_.Nat renaming add_zero->ab3,beq->aaY,min_eq_left->ab5
open _root_.Option.some renaming injEq->aa1
open _root_.Prod.mk renaming injEq->abU
open _root_.Go.Result renaming andThen_ok->abC
open _root_.Go.Sem renaming run_bind->abp
namespace Go.Proofs.YtbladfbbhijpmaaGreat
open Go Go.RowKit
theorem bind_some{α β:Type}{o:Option α}{f:α->Option β}{r:β}(h:o.bind f=some r):∃x,o=some x/\f x=some r:=Option.bind_eq_some_iff.1 h
section
variable {P:Program} {n:Nat} {ρ:Nat->Value} {w:World} {K:(Nat->Value)->World->Prop} {Q:Exit->(Nat->Value)->World->Prop}
theorem Gi{id:Nat}(h:Q .normal ρ w):Na id Q (.exit id) ρ w:=by
 show(bif aaY id id then _ else _)
 rw[show aaY id id=acQ from Nat.beq_refl id];exact h
theorem DF{id Dm:Nat}(cA:aaY Dm id=acR)(h:Q (.exit Dm) ρ w):Na id Q (.exit Dm) ρ w:=by
 show(bif aaY Dm id then _ else _)
 rw[cA];exact h
theorem gv.fz{base:Nat}{F G:Nat->Prop}{w:World}{T:TypeId}{r:Row}{v:Value}{l:List r.den}(h:gv base F w T r v l)(hg:∀k,G k->¬bh v k):gv base (λb=>F b\/G b) w T r v l:=
 h.keep (Step.freeze F w G) λk hk=>⟨λe=>e.elim (h.no k hk) λe=>hg k e hk,rfl⟩
theorem lr.fz{base:Nat}{F G:Nat->Prop}{w:World}{b:Nat}{T:TypeId}{r:Row}{x:r.den}(h:lr base F w b T r x)(hg:∀k,G k->¬is b k):lr base (λb=>F b\/G b) w b T r x:=by
 obtain⟨h1,h2,es,hh,hr⟩:=h;exact⟨h1,λe=>e.elim h2 λe=>hg b e rfl,es,hh,hr.step (Step.freeze F w G)⟩
theorem St.fz{w0 w:World}{F0 F:Nat->Prop}(h:St w0 F0 w F){T:TypeId}{r:Row}{v:Value}{l:List r.den}(ho:gv w0.heap.size F w T r v l):St w0 F0 w (λb=>F b\/bh v b):=
 h.freeze (bh v) λb hb=>⟨ho.ge b hb,ho.lt b hb⟩
end
def TI(P:Program)(e:TypeId)(r:Row):Prop:=∃ti z,P.info? e=some ti/\ti.zero=some z/\z.cells.toList=r.dB/\ti.size=r.size/\ti.bytes<=32768
theorem TI.mk{P:Program}{e:TypeId}{r:Row}{k:Nat}(h:(P.info? e).map (λi=>(i.zero.map (λz=>z.cells.toList),i.size,decide (i.bytes<=32768)))=some (some r.dB,k,acQ))(hk:k=r.size):TI P e r:=by
 cases hi:P.info? e with
 |none=>simp[hi]at h
 |some ti=>
  simp only[hi,Option.map_some,aa1,abU,ac1]at h;obtain⟨h1,h2,h3⟩:=h
  cases hz:ti.zero with
  |none=>simp[hz]at h1
  |some z=>
   simp only[hz,Option.map_some,aa1]at h1;exact⟨ti,z,hi,hz,h1,h2.trans hk,h3⟩
section
variable {P:Program} {n:Nat} {ops:Array Oper} {K:(Nat->Value)->World->Prop} {rest:List Oper} {ρ:Nat->Value} {w:World} {F:Nat->Prop} {base:Nat}
variable {d:Nat} {dd:Option Nat} {ty:TypeId} {pos:String} {aft:Array Edge} {x y c:Operand} {t e:TypeId} {r:Row}
theorem kX{f:Nat}{fs:Array Field}{fd:Field}{lA off:Nat}(k:Nat)(hs:P.underlying t=some (.struct fs))(hf:fs[f]? =some fd)(hi:TI P fd.type r)(hk:fd.offset=k)
 (hx:ev ρ x= .pointer (some ⟨lA,off,acP⟩)):Pure P ρ ⟨dd, .fieldAddr t x f,ty,pos,aft,acP⟩ (.pointer (some ⟨lA,off+k,acP⟩)):=by
 obtain⟨ti,z,h1,_,_,h4,_⟩:=hi;exact sC k hs hf h1 (by rw[h4];have:=r.size_pos;omega) hk hx
end
end Go.Proofs.YtbladfbbhijpmaaGreat
namespace Go.Proofs.YtbladfbbhijpmaaGreat
open Go Go.RowKit
noncomputable def lz(r:Row)(x y:r.den):Bool:= @decide (x=y) (Row.decEq r x y)
theorem kl{r:Row}{x y:r.den}:lz r x y=acQ↔x=y:=by simp[lz]
theorem qh{r:Row}{x y:r.den}:lz r x y=acR↔x≠y:=by simp[lz]
def Gj(P:Program)(t:TypeId)(cs:List Value)(v:Value):Prop:=∃D,P.underlying t=some D/\(if gW D=acQ then v= .agg cs.toArray else cs=[v])
def me(P:Program)(t:TypeId)(r:Row)(K:Nat):Prop:=
 ∀(d:Nat)(w2 w:World)(F:Nat->Prop)(cs oO:List Value)(x y:r.den)(v v':Value),Gj P t cs v->Gj P t oO v'->bT F w r cs x->bT F w r oO y->
  (Op.equalIn (d+K) t v v').run P w2= .ok (decide (x=y)) w2
def Jl(P:Program)(fs:List Field)(r:Row)(off K:Nat):Prop:=
 ∀(d:Nat)(w2 w:World)(F:Nat->Prop)(xs ys:List Value)(x y:r.den),bT F w r ((xs.drop off).take r.size) x->bT F w r ((ys.drop off).take r.size) y->
  (Op.eqFields (d+K) xs.toArray ys.toArray fs).run P w2= .ok (decide (x=y)) w2
section
variable {P:Program} {t:TypeId} {r:Row} {k:IntKind} {K:Nat}
theorem Cb(ht:P.underlying t=some (.int k)):me P t (.int k) 1:=by
 intro d w2 w F cs oO x y v v' ⟨D,hD,h1⟩ ⟨D',Jm,h2⟩ hx hy;rw[ht]at hD Jm;cases hD;cases Jm;obtain rfl:cs=_:=hx;obtain rfl:oO=_:=hy;simp only[gW,aa4,if_false,ab9,and_true]at h1 h2;subst h1;subst h2;rw[run_equalIn_int (h:=ht),nO]
theorem pz{D:TypeDesc}{ti:TypeInfo}{cs:List Value}{off:Nat}{F:Nat->Prop}{w:World}{x:r.den}(hD:P.underlying t=some D)(hi:P.info? t=some ti)(hs:ti.size=r.size)(kj:gW D=acR->r.size=1)
 (hr:bT F w r ((cs.drop off).take r.size) x)(w2:World):∃v,(part t cs.toArray off).run P w2= .ok v w2/\Gj P t ((cs.drop off).take r.size) v:=by
 have hl:=hr.length;have mV:=r.size_pos
 cases hA:gW D with
 |true=>
  refine⟨.agg ((cs.drop off).take r.size).toArray,?_,D,hD,by rw[acU hA]⟩;unfold part;rw[abp,dK hD,hA];simp[sizeOf,typeInfo,hi,hs]
 |false=>
  have h1:=kj hA;rw[h1]at hl⊢
  have ag:off<cs.length:=by
   rw[abb,List.length_drop]at hl;omega
  refine⟨cs[off],?_,D,hD,?_⟩
  .unfold part;rw[abp,dK hD,hA];simp[ag]
  .rw[acT (by simp[hA])];rw[abv ag];rfl
theorem mW{f:Field}{off:Nat}(hn:(f.name != "_")=acQ)(ho:f.offset=off){D:TypeDesc}(hD:P.underlying f.type=some D)(kj:gW D=acR->r.size=1)(hi:TI P f.type r)(he:me P f.type r K):Jl P [f] r off K:=by
 intro d w2 w F xs ys x y hx hy;subst ho;obtain⟨ti,z,h1,_,_,h4,_⟩:=hi;obtain⟨v,hv,lu⟩:=pz hD h1 h4 kj hx w2;obtain⟨v',da,DG⟩:=pz hD h1 h4 kj hy w2;have:=he d w2 w F _ _ x y v v' lu DG hx hy
 have Gk:f.name≠ "_" :=by simpa using hn
 unfold Op.eqFields;rw[acU Gk,abp,hv,abC,abp,da,abC,abp,this,abC]
 by_cases oP:x=y<;>simp[oP,Op.eqFields]
theorem kE{f:Field}{fs:List Field}{a b:Row}{off:Nat}(hn:(f.name != "_")=acQ)(ho:f.offset=off){D:TypeDesc}(hD:P.underlying f.type=some D)(kj:gW D=acR->a.size=1)(hi:TI P f.type a)(he:me P f.type a K)
 (hr:Jl P fs b (off+a.size) K):Jl P (f::fs) (.pair a b) off K:=by
 intro d w2 w F xs ys x y hx hy;subst ho;obtain⟨ti,z,h1,_,_,h4,_⟩:=hi
 have hle:a.size<=(Row.pair a b).size:=by simp
 have dX:∀(zs:List Value)(u:(Row.pair a b).den),bT F w (.pair a b) ((zs.drop f.offset).take (Row.pair a b).size) u->bT F w a ((zs.drop f.offset).take a.size) u.1:=by
  intro zs u hu;have:=bT.path (.fst (.here (r:=a)):Path (.pair a b) a) hu;simp only[Path.off,List.drop_zero]at this;rw[List.take_take,ab5 hle]at this;exact this
 have NF:∀(zs:List Value)(u:(Row.pair a b).den),bT F w (.pair a b) ((zs.drop f.offset).take (Row.pair a b).size) u->bT F w b ((zs.drop (f.offset+a.size)).take b.size) u.2:=by
  intro zs u hu;have:=bT.path (.snd (.here (r:=b)):Path (.pair a b) b) hu;simp only[Path.off,ab3]at this;rw[List.drop_take,List.drop_drop]at this;rw[show(Row.pair a b).size-a.size=b.size from by simp]at this;rw[List.take_take,Nat.min_self]at this;exact this
 obtain⟨v,hv,lu⟩:=pz hD h1 h4 kj (dX xs x hx) w2;obtain⟨v',da,DG⟩:=pz hD h1 h4 kj (dX ys y hy) w2;have h5:=he d w2 w F _ _ _ _ v v' lu DG (dX xs x hx) (dX ys y hy);have h6:=hr d w2 w F xs ys _ _ (NF xs x hx) (NF ys y hy)
 have Gk:f.name≠ "_" :=by simpa using hn
 unfold Op.eqFields;rw[acU Gk,abp,hv,abC,abp,da,abC,abp,h5,abC];obtain⟨x1,x2⟩:=x;obtain⟨y1,y2⟩:=y;by_cases oP:x1=y1
 .simp only[oP,decide_true,Bool.not_true,aa4,if_false,h6]
  congr 1
  simp[Prod.ext_iff]
 .simp[oP,Prod.ext_iff]
theorem kF{fs:Array Field}(ht:P.underlying t=some (.struct fs))(hp:P.stoodInHeld t=acR)(h:Jl P fs.toList r 0 K):me P t r (K+1):=by
 intro d w2 w F cs oO x y v v' ⟨D,hD,h1⟩ ⟨D',Jm,h2⟩ hx hy;rw[ht]at hD Jm;cases hD;cases Jm;simp only[gW,if_true]at h1 h2;subst h1;subst h2
 have hf:P.fieldsOf t=fs:=by simp[Program.fieldsOf,ht]
 have NG:=hx.length;have Qe:=hy.length;rw[<-Nat.add_assoc,run_equalIn_struct _ _ _ _ _ (by rw[hf];exact ht) hp,hf];exact h d w2 w F cs oO x y (by rw[List.drop_zero,<-NG,abg];exact hx) (by rw[List.drop_zero,<-Qe,abg];exact hy)
variable {ρ:Nat->Value} {dd:Option Nat} {ty:TypeId} {pos:String} {aft:Array Edge} {x y:Operand} {u:TypeId}
theorem DH{d:Nat}{F:Nat->Prop}{w:World}{es jE:List Value}{a b:r.den}(hE:me P t r K)(hd:d+K=10000)(hg:P.eqGuardType P.depth t=acR)(hD:(P.underlying t).any gW=acQ)
 (hx:ev ρ x= .agg es.toArray)(hy:ev ρ y= .agg jE.toArray)(ha:bT F w r es a)(hb:bT F w r jE b):
 Pure P ρ ⟨dd, .binOp .eql t x y u,ty,pos,aft,acP⟩ (.bool (lz r a b)):=λw2=>by
 cases hu:P.underlying t with
 |none=>simp[hu]at hD
 |some D=>
  have hA:gW D=acQ:=by simpa[hu]using hD
  have:=hE d w2 w F es jE a b _ _ ⟨D,hu,by rw[acU hA]⟩ ⟨D,hu,by rw[acU hA]⟩ ha hb;rw[hd]at this;simp only[execOp,hx,hy,abp,run_eqGuard_agg _ _ _ _ _ _ _ hg,abC,run_eql_struct,this];rfl
theorem DJ{d:Nat}{F:Nat->Prop}{w:World}{es jE:List Value}{a b:r.den}(hE:me P t r K)(hd:d+K=10000)(hg:P.eqGuardType P.depth t=acR)(hD:(P.underlying t).any gW=acQ)
 (hx:ev ρ x= .agg es.toArray)(hy:ev ρ y= .agg jE.toArray)(ha:bT F w r es a)(hb:bT F w r jE b):
 Pure P ρ ⟨dd, .binOp .neq t x y u,ty,pos,aft,acP⟩ (.bool (!lz r a b)):=λw2=>by
 cases hu:P.underlying t with
 |none=>simp[hu]at hD
 |some D=>
  have hA:gW D=acQ:=by simpa[hu]using hD
  have:=hE d w2 w F es jE a b _ _ ⟨D,hu,by rw[acU hA]⟩ ⟨D,hu,by rw[acU hA]⟩ ha hb;rw[hd]at this;simp only[execOp,hx,hy,abp,run_eqGuard_agg _ _ _ _ _ _ _ hg,abC,run_neq_struct,this];rfl
end
section
variable {P:Program} {n:Nat} {ops:Array Oper} {K:(Nat->Value)->Prop} {rest:List Oper} {ρ:Nat->Value} {w:World} {F:Nat->Prop}
variable {d:Nat} {ty:TypeId} {pos:String} {aft:Array Edge} {x y:Operand} {t e:TypeId} {r:Row}
theorem At.st{w':World}{b off:Nat}{a:r.den}(h:At F w r b off a)(hF:∀b,F b->b<w.heap.size)(hs:St w F w' F):At F w' r b off a:=by
 obtain⟨es,hl,hc,hr⟩:=h;refine⟨es,hl,λj u hu=>?_,hr.step (hs.step hF)⟩;have:=hc j u hu;have ag:b<w.heap.size:=block_lt_of_cell this;exact(World.cell?_of_block (hs.below.block b ag)).trans this
end
end Go.Proofs.YtbladfbbhijpmaaGreat
end
namespace Go.Proofs.YtbladfbbhijpmaaGreat
open Go Go.RowKit
set_option maxRecDepth 100000
set_option linter.unusedSimpArgs false
set_option linter.unusedVariables false
set_option linter.defProp false
section
theorem me.lift{P:Program}{t:TypeId}{r:Row}{K:Nat}(h:me P t r K)(m:Nat):me P t r (K+m):=by
 intro d w2 w F cs oO x y v v' h1 h2 h3 h4;have:=h (d+m) w2 w F cs oO x y v v' h1 h2 h3 h4
 rwa [show d+m+K=d+(K+m)from by omega]at this
section
variable {P:Program} {n:Nat} {ops:Array Oper} {K:(Nat->Value)->World->Prop} {rest:List Oper} {ρ:Nat->Value} {w:World} {F:Nat->Prop} {base:Nat}
variable {d:Nat} {ty:TypeId} {pos:String} {aft:Array Edge} {x y:Operand} {t e:TypeId} {r s:Row}
def bF{α:Type}(l:List α)(i:Int)(y:α):List α:=l.set i.toNat y
theorem gv.put{g o0 m0 LA q:Nat}{v:Value}{l:List r.den}(h:gv base F w e r v l)(hg:v= .slice (some ⟨g,o0,acP⟩) m0 LA)(hq:q<l.length)(hF:∀b,F b->b<w.heap.size)(p:Path r s){vs:List Value}{u:s.den}(hv:bT F w s vs u):
 ∃cur,w.heap[g]? =some (.cells cur e (0,0))/\o0+q*r.size+p.off+vs.length<=cur.size/\
  Ext (bh v) w (w.setRow g (cur.toList.take (o0+q*r.size+p.off)++vs++cur.toList.drop (o0+q*r.size+p.off+vs.length)).toArray)/\
  gv base F (w.setRow g (cur.toList.take (o0+q*r.size+p.off)++vs++cur.toList.drop (o0+q*r.size+p.off+vs.length)).toArray) e r v (l.set q (p.set l[q] u)):=by
 obtain⟨wg,xs,⟨wh,hx⟩,h3⟩:=h
 rcases hx with⟨rfl,_⟩|⟨g',o1,cap,cur,rfl,hb,hh,h1,h2,oN,uT⟩
 .simp at hg
 .simp only[aci,aa1,acp,and_true]at hg;obtain⟨⟨rfl,rfl⟩,rfl,rfl⟩:=hg;have hle:=p.le;have hl:=hv.length;have hmul:(q+1)*r.size<=l.length*r.size:=abf _ hq;rw[abG]at hmul;have xO:l.length*r.size<=cap*r.size:=abf _ h1
  have bo:Ext (bh (.slice (some ⟨g',o1,acP⟩) l.length cap)) w (w.setRow g' (cur.toList.take (o1+q*r.size+p.off)++vs++cur.toList.drop (o1+q*r.size+p.off+vs.length)).toArray):=
   ⟨rfl,⟨rfl,aaX _⟩,rfl,by simp,λk _ hk=>setRow_other w g' k _ λe=>hk (by simp[bh,abu,e])⟩
  have cY:=Step.ext bo hF wg;refine⟨cur,hh,by omega,bo,wg,xs.take (q*r.size+p.off)++vs++xs.drop (q*r.size+p.off+vs.length),⟨by simp;omega, .inr ⟨g',o1,cap,_,by simp,hb,setRow_heap w g' _ _ e (0,0) hh,by simpa using h1,h2,by simp;omega,?_⟩⟩,?_⟩
  .rw[List.length_set,List.toList_toArray,<-uT]
   have e0:(cur.toList.take (o1+q*r.size+p.off)++vs++cur.toList.drop (o1+q*r.size+p.off+vs.length)).drop o1=(cur.toList.drop o1).take (q*r.size+p.off)++vs++(cur.toList.drop o1).drop (q*r.size+p.off+vs.length):=by
    rw[abm,abP (by simp;omega),List.drop_take,List.drop_drop,show o1+q*r.size+p.off-o1=q*r.size+p.off by omega,abm,show o1+q*r.size+p.off+vs.length=o1+(q*r.size+p.off+vs.length) by omega]
   rw[e0]
   have xP:cap*r.size<=(cur.toList.drop o1).length:=by simp;omega
   generalize cur.toList.drop o1=c2 at*
   have e1:(c2.take (l.length*r.size)).take (q*r.size+p.off)=c2.take (q*r.size+p.off):=by rw[List.take_take,ab5 (by omega)]
   rw[e1,List.take_append,List.take_of_length_le (by simp;omega),List.drop_take]
   congr 1
   simp
   congr 1
   omega
  .intro i jF
   have hi:i<l.length:=by simpa using jF
   have NH:(i+1)*r.size<=l.length*r.size:=abf _ hi;rw[abG]at NH
   have A:∀j,j<r.size->((xs.take (q*r.size+p.off)++vs++xs.drop (q*r.size+p.off+vs.length)))[i*r.size+j]? =
    if i*r.size+j<q*r.size+p.off then xs[i*r.size+j]? else if i*r.size+j<q*r.size+p.off+vs.length then vs[i*r.size+j-(q*r.size+p.off)]? else xs[i*r.size+j]? :=by
    intro j hj;rw[abm,acG];simp only[abb,wh,ab5 (show q*r.size+p.off<=l.length*r.size from by omega)];split
    .rw[abl,acU (by assumption)]
    .rw[acG];split
     .rename_i h1 h2;rw[acU (by omega)]
     .rename_i h1 h2;rw[acT (by omega),abe]
      congr 1
      omega
   by_cases QS:i=q
   .subst QS;rw[List.getElem_set_self];have hp:=(h3 i hi).put p hv
    have:((xs.take (i*r.size+p.off)++vs++xs.drop (i*r.size+p.off+vs.length)).drop (i*r.size)).take r.size=
     ((xs.drop (i*r.size)).take r.size).take p.off++vs++((xs.drop (i*r.size)).take r.size).drop (p.off+s.size):=by
     have NI:((xs.drop (i*r.size)).take r.size).length=r.size:=by rw[abb,List.length_drop,wh];omega
     have QT:∀j,j<r.size->((xs.drop (i*r.size)).take r.size)[j]? =xs[i*r.size+j]? :=λj hj=>by rw[abl,acU hj,abe]
     generalize(xs.drop (i*r.size)).take r.size=U8 at NI QT
     apply List.ext_getElem?
     intro j;rw[acG (l₁:=U8.take p.off++vs),acG (l₁:=U8.take p.off),aba,abb,NI,ab5 (show p.off<=r.size from by omega),abl (l:=List.drop _ _)];by_cases hj:j<r.size
     .rw[acU hj,abe,A j hj];by_cases QU:j<p.off
      .rw[acU (by omega),acU (by omega),acU QU,abl,acU QU,QT j hj]
      .rw[acT (by omega)];by_cases Qa:j<p.off+vs.length
       .rw[acU (by omega),acU Qa,acT QU]
        congr 1
        omega
       .rw[acT (by omega),acT Qa,abe,<-QT j hj]
        congr 1
        omega
     .rw[acT hj,acT (by omega),abe,List.getElem?_eq_none (by omega)]
    rw[this];exact hp.step cY
   .rw[List.getElem_set_ne (λe=>QS e.symm)]
    have:((xs.take (q*r.size+p.off)++vs++xs.drop (q*r.size+p.off+vs.length)).drop (i*r.size)).take r.size=(xs.drop (i*r.size)).take r.size:=by
     apply List.ext_getElem?
     intro j;rw[abl,abl];by_cases hj:j<r.size
     .rw[acU hj,acU hj,abe,A j hj,abe]
      rcases Nat.lt_or_gt_of_ne QS with ag|hgt
      .have:(i+1)*r.size<=q*r.size:=abf _ ag;rw[abG]at this;rw[acU (by omega)]
      .have:(q+1)*r.size<=i*r.size:=abf _ hgt;rw[abG]at this;rw[acT (by omega),acT (by omega)]
     .rw[acT hj,acT hj]
    rw[this];exact(h3 i hi).step cY
theorem gv.at{g o0 m0 LA q:Nat}{i:Int}{v:Value}{l:List r.den}{a:r.den}(h:gv base F w e r v l)(hg:v= .slice (some ⟨g,o0,acP⟩) m0 LA)(hq:i=(q:Nat))(mf:idx l i=some a):At F w r g (o0+q*r.size) a:=by
 obtain⟨b,off,cap,k,hv,hk,ag,qg⟩:=h.reads.elem mf
 obtain rfl:k=q:=by omega
 rw[hg]at hv;simp only[aci,aa1,acp,and_true]at hv;obtain⟨⟨rfl,rfl⟩,_⟩:=hv;exact qg
theorem Gl(cs:List Value):∀(k:Nat)(pre post:List Value),post.length=cs.length->∀(tail:List Value),
 (cs.zipIdx k).foldl (λ(acc:Array Value)(cj:Value×Nat)=>acc.setIfInBounds (pre.length-k+cj.2) cj.1) (pre++post++tail).toArray=(pre++cs++tail).toArray\/pre.length<k:=by
 induction cs with
 |nil=>intro k pre post hp tail;left;simp at hp;simp[hp]
 |cons c q ih=>
  intro k pre post hp tail;by_cases hk:pre.length<k
  .exact .inr hk
  cases post with
  |nil=>simp at hp
  |cons p0 post=>
   simp only[List.zipIdx_cons,abN]
   rcases ih (k+1) (pre++[c]) post (by simpa using hp) tail with h|h
   .left
    have e1:((pre++p0::post++tail).toArray.setIfInBounds (pre.length-k+k) c)=((pre++[c])++post++tail).toArray:=by
     rw[Nat.sub_add_cancel (by omega)];simp
    rw[e1]
    have e2:(pre++[c]).length-(k+1)=pre.length-k:=by simp
    rw[e2]at h;rw[h];simp
   .simp at h;omega
theorem qi{place:Nat->Option (Nat×Nat)}{i off size:Nat}{v:Value}{vs cells:List Value}{rest:List (Nat×Value)}(hp:place i=some (off,size))(hv:v.cells.toList=vs)(hs:vs.length=size)(hle:off+size<=cells.length):
 acC place cells.toArray ((i,v)::rest)=acC place (cells.take off++vs++cells.drop (off+size)).toArray rest:=by
 have Wr:v.cells=vs.toArray:=by rw[<-hv,abE]
 have hf:=Gl vs 0 (cells.take off) ((cells.drop off).take size) (by simp;omega) (cells.drop (off+size))
 have Ar:cells.take off++(cells.drop off).take size++cells.drop (off+size)=cells:=by
  rw[abm,<-List.drop_drop,abY,abY]
 have hlen:(cells.take off).length=off:=by simp;omega
 rw[Ar,hlen,Nat.sub_zero]at hf
 rcases hf with hf|hf
 case inr=>omega
 rw[acC];simp only[hp,Wr,List.size_toArray];rw[acT (by simp;omega)]
 congr 1
 rw[<-Array.foldl_toList,Array.toList_zipIdx];exact hf
inductive sE(F:Nat->Prop)(w:World)(r:Row):List Value->List r.den->Prop where
 |nil:sE F w r [] []
 |cons {v:Value} {vs:List Value} {cs:List Value} {a:r.den} {l:List r.den} (hc:v.cells.toList=cs) (hr:bT F w r cs a) (h:sE F w r vs l):sE F w r (v::vs) (a::l)
theorem sE.length{vs:List Value}{l:List r.den}(h:sE F w r vs l):vs.length=l.length:=by
 induction h with
 |nil=>rfl
 |cons _ _ _ ih=>simp[ih]
theorem sE.fill{vs:List Value}{l:List r.den}(h:sE F w r vs l):∀(k:Nat)(pre post:List Value),pre.length=k*r.size->post.length=vs.length*r.size->
 ∃xs,acC (λi=>some (i*r.size,r.size)) (pre++post).toArray ((vs.zipIdx k).map λp=>(p.2,p.1))=some (pre++xs).toArray/\xs.length=l.length*r.size/\∀i(hi:i<l.length),bT F w r ((xs.drop (i*r.size)).take r.size) l[i]:=by
 induction h with
 |nil=>
  intro k pre post hp hq;have:post=[]:=List.eq_nil_of_length_eq_zero (by simpa using hq);subst this;exact⟨[],by simp[acC],by simp,λi hi=>absurd hi (by simp)⟩
 | @cons v vs cs a l hc hr h ih=>
   intro k pre post hp hq;have hl:=hr.length;rw[aa6,abG,Nat.one_mul]at hq;obtain⟨xs,h1,h2,h3⟩:=ih (k+1) (pre++cs) (post.drop r.size) (by rw[aba,hp,hl,abG,Nat.one_mul]) (by rw[List.length_drop,hq];omega);refine⟨cs++xs,?_,by rw[aba,hl,h2,aa6,abG,Nat.one_mul,Nat.add_comm],λi hi=>?_⟩
   .simp only[List.zipIdx_cons,List.map_cons];rw[qi (place:=λi=>some (i*r.size,r.size)) rfl hc hl (by rw[aba,hp,hq];omega)];rw[<-hp,List.take_left',List.drop_append,ab2 (by omega),List.nil_append,show pre.length+r.size-pre.length=r.size from by omega]
    .rw[h1];simp[abm]
    .rfl
   .cases i with
    |zero=>
     simp only[Nat.zero_mul,List.drop_zero,List.getElem_cons_zero];rw[<-hl,List.take_left']
     .exact hr
     .rfl
    |succ i=>
     rw[abG,Nat.one_mul,Nat.add_comm,<-List.drop_drop,<-hl,List.drop_left',hl]
     .simpa using h3 i (by simpa using hi)
     .rfl
def NJ(place:Nat->Option (Nat×Nat))(F:Nat->Prop)(w:World)(r:Row)(parts:List (Nat×Value))(x x':r.den):Prop:=
 ∀es,bT F w r es x->∃jE,acC place es.toArray parts=some jE.toArray/\bT F w r jE x'
theorem NJ.nil{place:Nat->Option (Nat×Nat)}{x:r.den}:NJ place F w r [] x x:=λes h=>⟨es,by simp[acC],h⟩
theorem NJ.cons{place:Nat->Option (Nat×Nat)}{i off size:Nat}{v:Value}{vs:List Value}{parts:List (Nat×Value)}{x x':r.den}{u:s.den}(p:Path r s)(hp:place i=some (off,size))(ho:p.off=off)(hz:s.size=size)(hv:v.cells.toList=vs)(hr:bT F w s vs u)
 (h:NJ place F w r parts (p.set x u) x'):NJ place F w r ((i,v)::parts) x x':=λes he=>by
 subst ho;subst hz;have hle:=p.le;have hl:=hr.length;rw[qi hp hv hl (by rw[he.length];omega)];exact h _ (he.put p hr)
end
end
section
open Go Go.RowKit Go.ChangeShapes Go.WideShapes Go.ChangeAt Go.Deep
def WF:(r:Row)->r.den->Prop
 | .int k,n=>k.min<=n/\n<=k.max
 | .bool,_=>True
 | .str,s=>s.size<=maxLen
 | .slice e,l=>l.length<=maxLen/\∀x∈l,WF e x
 | .jS,_=>True
 | .nul _,_=>True
 | .map ..,_=>True
 | .pair a b,x=>WF a x.1/\WF b x.2
def cD:(r:Row)->r.den->Nat
 | .int _,_=>1
 | .bool,_=>1
 | .str,s=>s.size+1
 | .slice e,l=>(l.map (cD e)).sum+1
 | .jS,_=>1
 | .nul _,_=>1
 | .map ..,_=>1
 | .pair a b,x=>cD a x.1+cD b x.2
theorem xQ:(r:Row)->(x:r.den)->0<cD r x
 | .int _,_=>by simp[cD]
 | .bool,_=>by simp[cD]
 | .str,s=>by simp[cD]
 | .slice e,l=>by simp[cD]
 | .jS,_=>by simp[cD]
 | .nul _,_=>by simp[cD]
 | .map ..,_=>by simp[cD]
 | .pair a b,x=>by have:=xQ a x.1;simp[cD];omega
theorem mI{H:Type}:(l:List (DataW H))->Rows.uptoBulkAll l=(l.map Rows.uptoBulk).sum
 |[]=>by simp[Rows.uptoBulkAll]
 |a::l=>by simp[Rows.uptoBulkAll,mI l]
def here(w:World)(b:Nat):Prop:=b<w.heap.size
def de(P:Program)(t:TypeId)(r:Row):Prop:=
 ∀(H:Type)(enc:TypeId×Value->H)(w:World)(spare:Nat->Bool)(held:Bool)(fuel:Nat)(cs:List Value)(x:DataW H×List MemPlace),DataW.trod enc P w 0 spare held fuel t cs=some x->
  ∃y:r.den,bT (here w) w r cs y/\WF r y/\cD r y<=Rows.uptoBulk x.1
def r6(P:Program)(fs:List Field)(r:Row)(off:Nat):Prop:=
 ∀(H:Type)(enc:TypeId×Value->H)(w:World)(spare:Nat->Bool)(held:Bool)(n:Nat)(cs:List Value)(xs:List (DataW H×List MemPlace)),xs.length=fs.length->
  (∀(i:Nat)(f:Field),fs[i]? =some f->DataW.trod enc P w 0 spare held n f.type ((cs.drop f.offset).take (P.cellsOf f.type))=xs[i]?)->off+r.size<=cs.length->
  ∃y:r.den,bT (here w) w r ((cs.drop off).take r.size) y/\WF r y/\cD r y<=Rows.uptoBulkAll (xs.map (·.1))
section
variable {P:Program} {t e:TypeId} {r a b:Row} {k:IntKind}
theorem DK(ht:P.underlying t=some (.int k)):de P t (.int k):=by
 intro H enc w spare held fuel cs x h;obtain⟨n,rfl,rfl,hn⟩:=DataW.trod_int ht h;exact⟨n,rfl,by simpa[Lit.wf,WF]using hn,by simp[cD,Rows.uptoBulk]⟩
theorem uV(ht:P.underlying t=some .string):de P t .str:=by
 intro H enc w spare held fuel cs x h;obtain⟨s,rfl,rfl,hs⟩:=DataW.trod_string ht h;exact⟨s,rfl,hs,Nat.le_of_eq rfl⟩
theorem mX{α:Type}{p:Nat->α->Prop}:(n:Nat)->(∀i,i<n->∃x,p i x)->∃l:List α,l.length=n/\∀i(h:i<l.length),p i l[i]
 |0,_=>⟨[],rfl,λi h=>absurd h (by simp)⟩
 |n+1,h=>by
  obtain⟨l,hl,hp⟩:=mX n λi hi=>h i (by omega)
  obtain⟨x,hx⟩:=h n (by omega);refine⟨l++[x],by simp[hl],λi hi=>?_⟩
  rcases Nat.lt_or_ge i l.length with ag|hge
  .rw[List.getElem_append_left ag];exact hp i ag
  .obtain rfl:i=n:=by simp at hi;omega
   rw[List.getElem_append_right hge];simpa[hl]using hx
theorem eN(ht:P.underlying t=some (.slice e))(hs:P.cellsOf e=r.size)(he:de P e r):de P t (.slice r):=by
 intro H enc w spare held fuel cs x h
 rcases open_slice ht h with⟨rfl,rfl⟩|⟨ad,len,cap,m,n,D,Pl,rfl,_,hl,hm,QV,rfl,hi⟩
 .exact⟨[],bT.nil _ _ _,⟨by simp[maxLen],λx hx=>absurd hx (by simp)⟩,by simp[cD,Rows.uptoBulk]⟩
 .have hlm:len<=m:=by rw[QV];split<;>omega
  have key:∀i,i<len->∃y:r.den,∃oO,(oO.length=r.size/\(∀j,j<r.size->w.cell? ((ad.add (i*r.size)).add j)=oO[j]?))/\bT (here w) w r oO y/\WF r y/\cD r y<=Rows.uptoBulk (D i):=by
   intro i jF;obtain⟨oO,hc,Ws⟩:=hi i (by omega);rw[hs]at hc;obtain⟨_,uq,xP⟩:=World.cells?_some hc;obtain⟨y,h1,h2,h3⟩:=he H enc w spare held n oO _ Ws;exact⟨y,oO,⟨uq,xP⟩,h1,h2,h3⟩
  obtain⟨l,Nd,hp⟩:=mX len key;subst Nd;have mV:=r.size_pos;refine⟨l,⟨some ad,cap,rfl,hl,hm,λi hi=>?_⟩,⟨by omega,λx hx=>?_⟩,?_⟩
  .obtain⟨oO,⟨uq,xP⟩,hr,_,_⟩:=hp i hi;obtain⟨U9,⟨ur,ul⟩,_⟩:=hp 0 (by omega);have h0:=ul 0 mV;rw[aaW (by omega)]at h0;simp only[Nat.zero_mul,Addr.add,if_true]at h0
   have uu:ad.spot=acP:=by
    cases uu:ad.spot with
    |none=>rfl
    |some q=>
     unfold World.cell? at h0;split at h0
     .simp[uu]at h0
     .cases h0
   obtain⟨bb,off,sp⟩:=ad;simp only at uu;subst uu;refine⟨bb,off,oO,rfl,block_lt_of_cell h0,uq,λj u hu=>?_,hr⟩;have hj:j<oO.length:=(abj.1 hu).1;have:=xP j (by omega);rw[bZ,bZ]at this;rw[this,hu]
  .obtain⟨i,hi,rfl⟩:=abD hx;obtain⟨_,_,_,h2,_⟩:=hp i hi;exact h2
  .simp only[cD,Rows.uptoBulk,mI]
   have:∀(n:Nat),n<=l.length->((l.take n).map (cD r)).sum<=(((aa2 n).map D).map Rows.uptoBulk).sum:=by
    intro n hn
    induction n with
    |zero=>simp
    |succ n ih=>
     have h1:=ih (by omega);obtain⟨_,_,_,_,h3⟩:=hp n (by omega);rw[List.take_succ_eq_append_getElem (by omega),List.range_succ];simp only[ab6,List.sum_append,List.map_cons,List.map_nil,List.sum_cons,List.sum_nil];omega
   have h1:=this l.length (aaX _);rw[abg]at h1;omega
theorem dx{f:Field}{off:Nat}(ho:f.offset=off)(hc:P.cellsOf f.type=r.size)(he:de P f.type r):r6 P [f] r off:=by
 intro H enc w spare held n cs xs hl hx _;subst ho
 match xs,hl with
 |[x],_=>
  have h:=hx 0 f rfl;rw[hc]at h;obtain⟨y,h1,h2,h3⟩:=he H enc w spare held n _ x h;exact⟨y,h1,h2,by simpa[Rows.uptoBulkAll]using h3⟩
theorem bd{f:Field}{fs:List Field}{off:Nat}(ho:f.offset=off)(hc:P.cellsOf f.type=a.size)(he:de P f.type a)(hr:r6 P fs b (off+a.size)):r6 P (f::fs) (.pair a b) off:=by
 intro H enc w spare held n cs xs hl hx hle;subst ho
 match xs,hl with
 |x::xs,hl=>
  have h:=hx 0 f rfl;rw[hc]at h;obtain⟨y,h1,h2,h3⟩:=he H enc w spare held n _ x h;simp only[Row.size]at hle;obtain⟨z,g1,g2,g3⟩:=hr H enc w spare held n cs xs (by simpa using hl) (λi f' hf=>by simpa using hx (i+1) f' (by simpa using hf)) (by omega);refine⟨(y,z),⟨_,_,?_,h1,g1⟩,⟨h2,g2⟩,by simp only[cD,List.map_cons,Rows.uptoBulkAll];omega⟩;simp only[Row.size];rw[<-List.drop_drop,List.take_add]
theorem c8{fs:Array Field}(ht:P.underlying t=some (.struct fs))(hc:P.cellsOf t=r.size)(h:r6 P fs.toList r 0):de P t r:=by
 intro H enc w spare held fuel cs x hx;obtain⟨xs,n,_,rfl,hlen,wh,hf⟩:=DataW.trod_struct ht hx;rw[hc]at hlen;obtain⟨y,h1,h2,h3⟩:=h H enc w spare held n cs xs (by simpa using wh) (λi f hi=>hf i f (by simpa using hi)) (by omega);rw[List.drop_zero,<-hlen,abg]at h1;exact⟨y,h1,h2,by simp only[Rows.uptoBulk];omega⟩
variable {H:Type} {enc:TypeId×Value->H} {w:World} {base:Nat} {spare:Nat->Bool} {held:Bool} {v:Value} {d:DataW H} {ps:List MemPlace}
theorem As{fs:Array Field}(ht:P.underlying t=some (.struct fs))(ho:de P t r)(hv:Value.okWide P w .any base t v)(h:DataW.Trod enc P w 0 spare held t v d ps):
 ∃(es:List Value)(x:r.den),v= .agg es.toArray/\bT (here w) w r es x/\WF r x/\cD r x<=Rows.uptoBulk d:=by
 obtain⟨cs,rfl,_⟩:=okWide_struct ht hv;obtain⟨fuel,hf⟩:=h;obtain⟨x,h1,h2,h3⟩:=ho H enc w spare held fuel _ _ hf;exact⟨cs.toList,x,by simp,by simpa[Value.cells]using h1,h2,h3⟩
theorem oA(hl:laidOutB P=acQ){W W':World}(hb:Below W.heap.size W W'){sp:Nat->Bool}:(ts:List TypeId)->(vs:List Value)->(ds:List (DataW H))->(ps:List MemPlace)->
 (∀t∈ts,(P.readableRec t&&abI t P.types.size)=acQ)->DataW.TrodAll enc P W 0 (λ_=>acQ) acQ ts vs ds ps->(∀x∈ps,x.block<W.heap.size)->(∀x∈ps,sp x.block=acQ)->DataW.TrodAll enc P W' 0 sp acQ ts vs ds ps
 |[],[],[],_,_,h,_,_=>h
 |t::ts,v::vs,d::ds,ps,hr,h,ag,uu=>by
  obtain⟨p,q,h1,h2,rfl⟩:=h;have ht:=hr t (by simp);simp only[abR,Nat.blt_eq]at ht
  exact⟨p,q,WideElems.Trod_stays hl ht.1 ht.2 h1 (λx hx=>hb.same (ag x (by simp[hx]))) (λx hx=>uu x (by simp[hx])),
   oA hl hb ts vs ds q (λt ht=>hr t (by simp[ht])) h2 (λx hx=>ag x (by simp[hx])) (λx hx=>uu x (by simp[hx])),rfl⟩
theorem uv{f:Func}{s:ChangeSpec}{apart fresh handsOn again:Bool}{W W':World}{args:Array Value}{v:Value}{ds gs:List (DataW H)}{before pa pv:List MemPlace}
 (hW:DataW.Whole enc P f.params.toList s.vars apart W args.toList ds gs before)
 (wi:∀(b:Nat)(sp:Nat->Bool)(hd:Bool),DataW.TrodAll enc P W' b sp hd f.resultTypes.toList (v.resultList f.resultTypes.size) (s.fn H (ds++gs)).results [])
 (Cd:∀sp:Nat->Bool,(∀p∈before,sp p.block=acQ)->DataW.TrodAll enc P W' 0 sp acQ f.params.toList args.toList (s.fn H (ds++gs)).args pa)
 (KV:∀sp:Nat->Bool,(∀p∈before,sp p.block=acQ)->DataW.TrodVars enc P W' sp s.vars (s.fn H (ds++gs)).vars pv)
 (Qf:before=pa++pv)(hb:Below W.heap.size W W')
 (kz:∀(j:Nat)(t:TypeId)(r:Value),f.resultTypes[j]? =some t->(v.resultList f.resultTypes.size)[j]? =some r->Value.okWide P W' .any 0 t r):
 s.post enc P f apart fresh handsOn again W args v W':=by
 have ag:∀p∈before,p.block<W.heap.size:=λp hp=>hW.lt p hp
 have hold:∀p∈before,(λb=>decide (b<W.heap.size)) p.block=acQ:=λp hp=>by simpa using ag p hp
 refine⟨ds,gs,before,[],pa,pv,hW,wi _ _ _,Cd _ hold,KV _ hold,World.keptBut_mono (λp hp=>⟨hp,?_⟩) (hb.frame (· ∈before)),λ_=>?_⟩
 .rw[Qf,aa9]at hp;exact Or.inr hp
 .obtain⟨_,_,_,_,_,hz,hn⟩:=hW;refine⟨kz,_,_,([]++pa)++pv,⟨[]++pa,pv,trodAll_append (Cd _ (λ_ _=>rfl)) (wi _ _ _),KV _ (λ_ _=>rfl),rfl,?_,?_⟩,?_⟩
  .intro b off hp
   have bP:MemPlace.cell b off∈before:=by rw[Qf];simpa using hp
   rw[hb.frozen (ag _ bP)];exact hz b off bP
  .intro ha;have:=hn ha;rw[Qf]at this;simpa using this
  .intro p hp _;rw[Qf];simpa using hp
end
end
section
def dX{α:Type}(l:List α)(a b:Int):Option (List α):=if 0<=a/\a<=b/\b<=l.length then some ((l.take b.toNat).drop a.toNat)else acP
variable {F:Nat->Prop} {w:World} {r:Row}
theorem bT.cut{A:Option Addr}{cap:Nat}{l:List r.den}{a b:Nat}(h:bT F w (.slice r) [.slice A l.length cap] l)(h1:a<=b)(h2:b<=l.length):
 bT F w (.slice r) [sliced A a b cap r.size] ((l.take b).drop a):=by
 obtain⟨A',Gd,hv,hc,hm,hs⟩:=h;simp only[ab9,aci,and_true,true_and]at hv;obtain⟨rfl,rfl⟩:=hv
 have hlen:((l.take b).drop a).length=b-a:=by simp;omega
 refine⟨_,cap-a,by rw[hlen];rfl,by omega,by omega,λi hi=>?_⟩
 have jF:a+i<l.length:=by omega
 obtain⟨g,off,es,rfl,hF,rK,pw,hr⟩:=hs (a+i) jF;refine⟨g,off+a*r.size,es,?_,hF,rK,λj u hu=>?_,?_⟩
 .rw[acT (by omega),Option.map_some,bZ]
 .rw[<-pw j u hu]
  congr 2
  rw[abG];omega
 .have:((l.take b).drop a)[i]=l[a+i]:=by simp
  rw[this];exact hr
section
variable {P:Program} {n:Nat} {ops:Array Oper} {K:(Nat->Value)->World->Prop} {rest:List Oper} {ρ:Nat->Value}
variable {d:Nat} {ty:TypeId} {pos:String} {aft:Array Edge} {x y z:Operand} {t e:TypeId}
theorem Jn{t e:TypeId}(ht:P.underlying t=some (.slice e)):P.underlying t=some (.slice (P.elem t)):=by
 simp[Program.elem,ht]
inductive LB(ρ:Nat->Value):Option Operand->Option Int->Prop
 |none:LB ρ acP acP
 |some {x:Operand} {k:IntKind} {i:Int} (h:ev ρ x= .int k i):LB ρ (some x) (some i)
theorem r7{ti:TypeInfo}{A:Option Addr}{len cap:Nat}{lo hi:Option Operand}{a b:Option Int}(ht:P.underlying t=some (.slice e))(jF:P.info? e=some ti)(hx:ev ρ x= .slice A len cap)
 (ha:LB ρ lo a)(hb:LB ρ hi b)(h0:0<=a.getD 0)(h1:a.getD 0<=b.getD len)(h2:b.getD len<=len)(hc:len<=cap):
 (execOp (ev ρ) ⟨some d, .slice t x lo hi acP,ty,pos,aft,acP⟩).run P w= .ok (.value (sliced A (a.getD 0).toNat (b.getD len).toNat cap ti.size)) w:=by
 have KW:=Jn ht
 have he:P.elem t=e:=by simp[Program.elem,ht]
 cases ha with
 |none=>
  cases hb with
  |none=>
   have:=run_slice_all (P:=P) (w:=w) t A len cap KW;simp[execOp,hx,run_sliceAt_slice (P:=P) w t _ _ _ _ KW,this,he,sizeOf,typeInfo,jF]
  |some hh=>
   rename_i xb kb ib;have:=run_slice_h (P:=P) (w:=w) t A len cap KW kb ib (by simpa using h1) (by simp at h2;omega);simp[execOp,hx,hh,run_sliceAt_slice (P:=P) w t _ _ _ _ KW,this,he,sizeOf,typeInfo,jF]
 |some hl=>
  rename_i xa ka ia
  cases hb with
  |none=>
   have:=run_slice_l (P:=P) (w:=w) t A len cap KW ka ia (by simpa using h0) (by simpa using h1);simp[execOp,hx,hl,run_sliceAt_slice (P:=P) w t _ _ _ _ KW,this,he,sizeOf,typeInfo,jF]
  |some hh=>
   rename_i xb kb ib;have:=run_slice_lh (P:=P) (w:=w) t A len cap KW ka kb ia ib (by simpa using h0) (by simpa using h1) (by simp at h2;omega);simp[execOp,hx,hl,hh,run_sliceAt_slice (P:=P) w t _ _ _ _ KW,this,he,sizeOf,typeInfo,jF]
theorem qj{α:Type}{l m:List α}{a b:Int}(h:dX l a b=some m):∃p q:Nat,a=p/\b=q/\p<=q/\q<=l.length/\m=(l.take q).drop p:=by
 unfold dX at h;split at h
 case isFalse=>cases h
 rename_i hc;exact⟨a.toNat,b.toNat,by omega,by omega,by omega,by omega,(aaT h).symm⟩
end
end
def Gm:List (Nat×((r:Row)×r.den)):=[]
section
inductive DR where
 |leaf (r:Row)
 |sl (T:TypeId) (d:DR)
 |pair (a b:DR)
@[reducible] def DR.row:DR->Row
  | .leaf r=>r
  | .sl _ d=> .slice d.row
  | .pair a b=> .pair a.row b.row
@[reducible] def DR.low:DR->Row
  | .leaf r=>r
  | .sl _ _=> .jS
  | .pair a b=> .pair a.low b.low
theorem DR.size:(d:DR)->d.low.size=d.row.size
 | .leaf _=>rfl
 | .sl _ _=>rfl
 | .pair a b=>by show a.low.size+b.low.size=a.row.size+b.row.size;rw[a.size,b.size]
inductive ee:DR->DR->Type where
 |here {d:DR}:ee d d
 |fst {a b e:DR} (p:ee a e):ee (.pair a b) e
 |snd {a b e:DR} (p:ee b e):ee (.pair a b) e
def ee.lo:{d e:DR}->ee d e->Path d.low e.low
 |_,_, .here=> .here
 |_,_, .fst p=> .fst p.lo
 |_,_, .snd p=> .snd p.lo
def ee.hi:{d e:DR}->ee d e->Path d.row e.row
 |_,_, .here=> .here
 |_,_, .fst p=> .fst p.hi
 |_,_, .snd p=> .snd p.hi
def DR.path:(d:DR)->List Bool->Option ((e:DR)×ee d e)
 |d,[]=>some ⟨d, .here⟩
 | .pair a b,c::p=>match c with
   |false=>match a.path p with
    |some ⟨e,q⟩=>some ⟨e, .fst q⟩
    |none=>acP
   |true=>match b.path p with
    |some ⟨e,q⟩=>some ⟨e, .snd q⟩
    |none=>acP
 |_,_::_=>acP
def jG(F:Nat->Prop)(w:World)(T:TypeId)(r:Row)(v:Value)(l:List r.den):Prop:=
 ∃xs,kW w 0 T r.size v l.length xs/\∀i(h:i<l.length),bT F w r ((xs.drop (i*r.size)).take r.size) l[i]
structure lB(Ss:Nat->Nat->Prop)(n:Nat)(m:Nat->Prop)(S:Nat->Prop):Prop where
 all:∀k,S k↔m k\/∃i,i<n/\Ss i k
 two:∀i j k,i<n->j<n->i≠j->Ss i k->¬Ss j k
 out:∀i k,i<n->Ss i k->¬m k
structure Gn(A B S:Nat->Prop):Prop where
 all:∀k,S k↔A k\/B k
 off:∀k,A k->¬B k
def DL{α:Type}(F:Nat->Prop)(w:World)(T:TypeId)(r:Row)(rel:Nat->r.den->α->(Nat->Prop)->Prop)(u:Value)(l:List α)(S:Nat->Prop):Prop:=
 ∃(lh:List r.den)(Ss:Nat->Nat->Prop),jG F w T r u lh/\lh.length=l.length/\(∀i(h1:i<lh.length)(h2:i<l.length),rel i lh[i] l[i] (Ss i))/\lB Ss l.length (bh u) S
def iq(F:Nat->Prop)(w:World):(d:DR)->d.low.den->d.row.den->(Nat->Prop)->Prop
 | .leaf _,x',x,S=>x'=x/\∀k,¬S k
 | .sl T d,u,l,S=>DL F w T d.low (λ_=>iq F w d) u l S
 | .pair a b,x',x,S=>∃A B,iq F w a x'.1 x.1 A/\iq F w b x'.2 x.2 B/\Gn A B S
def jT(F:Nat->Prop)(w:World):{d e:DR}->ee d e->d.low.den->d.row.den->(Nat->Prop)->Prop
 |_,_, .here,_,_,S=>∀k,¬S k
 |_,_, .fst (b:=b) p,x',x,S=>∃A B,jT F w p x'.1 x.1 A/\iq F w b x'.2 x.2 B/\Gn A B S
 |_,_, .snd (a:=a) p,x',x,S=>∃A B,iq F w a x'.1 x.1 A/\jT F w p x'.2 x.2 B/\Gn A B S
section
variable {F F':Nat->Prop} {w w':World} {T:TypeId} {S:Nat->Prop}
theorem jG.to{r:Row}{v:Value}{l:List r.den}(h:jG F w T r v l)(hn:∀k,bh v k->¬F k):gv 0 F w T r v l:=⟨hn,h⟩
theorem jG.keep{r:Row}{v:Value}{l:List r.den}(h:jG F w T r v l)(hs:Step F w F' w')(hb:∀k,bh v k->w'.heap[k]? =w.heap[k]?):jG F' w' T r v l:=by
 obtain⟨xs,⟨xK,Af⟩,h3⟩:=h;refine⟨xs,⟨xK,?_⟩,λi hi=>(h3 i hi).step hs⟩
 rcases Af with h2|⟨gg,o0,cap,cur,rfl,r4,hg,rest⟩
 .exact .inl h2
 .exact .inr ⟨gg,o0,cap,cur,rfl,r4,(hb gg rfl).trans hg,rest⟩
theorem jG.lt{r:Row}{v:Value}{l:List r.den}(h:jG F w T r v l):∀k,bh v k->k<w.heap.size:=by
 obtain⟨xs,h,_⟩:=h
 exact λk hk=>(h.lt k hk).2
theorem jG.one{r:Row}{v:Value}{l:List r.den}(h:jG F w T r v l):v.oneCell'=acQ:=by
 obtain⟨xs,⟨_,h⟩,_⟩:=h
 rcases h with⟨rfl,_⟩|⟨gg,o0,cap,cur,rfl,_⟩<;>rfl
theorem jG.nil(F:Nat->Prop)(w:World)(T:TypeId)(r:Row):jG F w T r (.slice acP 0 0) []:=(gv.nil 0 F w T r).2
theorem Gn.left{A B:Nat->Prop}(h:Gn A B S):∀k,A k->S k:=λk hk=>(h.all k).2 (.inl hk)
theorem Gn.right{A B:Nat->Prop}(h:Gn A B S):∀k,B k->S k:=λk hk=>(h.all k).2 (.inr hk)
theorem lB.bh{Ss:Nat->Nat->Prop}{n:Nat}{m:Nat->Prop}(h:lB Ss n m S):∀k,m k->S k:=λk hk=>(h.all k).2 (.inl hk)
theorem lB.part{Ss:Nat->Nat->Prop}{n:Nat}{m:Nat->Prop}(h:lB Ss n m S){i:Nat}(hi:i<n):∀k,Ss i k->S k:=λk hk=>(h.all k).2 (.inr ⟨i,hi,hk⟩)
theorem DL.mono{α:Type}{r:Row}{rel NK:Nat->r.den->α->(Nat->Prop)->Prop}{u:Value}{l:List α}(h:DL F w T r rel u l S)(hs:Step F w F' w')(hb:∀k,S k->w'.heap[k]? =w.heap[k]?)
 (hr:∀i x'(hi:i<l.length)A,(∀k,A k->S k)->rel i x' l[i] A->NK i x' l[i] A):DL F' w' T r NK u l S:=by
 obtain⟨lh,Ss,h1,h2,h3,h4⟩:=h;exact⟨lh,Ss,h1.keep hs λk hk=>hb k (h4.bh k hk),h2,λi a b=>hr i _ b _ (h4.part b) (h3 i a b),h4⟩
theorem iq.keep(hs:Step F w F' w'):{d:DR}->{x':d.low.den}->{x:d.row.den}->{S:Nat->Prop}->iq F w d x' x S->(∀k,S k->w'.heap[k]? =w.heap[k]?)->iq F' w' d x' x S
 | .leaf _,_,_,_,h,_=>h
 | .sl T d,u,l,S,h,hb=>DL.mono (show DL F w T d.low _ u l S from h) hs hb λi x' hi A hA hr=>iq.keep hs hr λk hk=>hb k (hA k hk)
 | .pair a b,_,_,_,h,hb=>by
   obtain⟨A,B,h1,h2,h3⟩:=h;exact⟨A,B,h1.keep hs λk hk=>hb k (h3.left k hk),h2.keep hs λk hk=>hb k (h3.right k hk),h3⟩
theorem jT.keep(hs:Step F w F' w'):{d e:DR}->{p:ee d e}->{x':d.low.den}->{x:d.row.den}->{S:Nat->Prop}->jT F w p x' x S->(∀k,S k->w'.heap[k]? =w.heap[k]?)->jT F' w' p x' x S
 |_,_, .here,_,_,_,h,_=>h
 |_,_, .fst p,_,_,_,h,hb=>by
  obtain⟨A,B,h1,h2,h3⟩:=h;exact⟨A,B,jT.keep hs h1 λk hk=>hb k (h3.left k hk),h2.keep hs λk hk=>hb k (h3.right k hk),h3⟩
 |_,_, .snd p,_,_,_,h,hb=>by
  obtain⟨A,B,h1,h2,h3⟩:=h;exact⟨A,B,h1.keep hs λk hk=>hb k (h3.left k hk),jT.keep hs h2 λk hk=>hb k (h3.right k hk),h3⟩
theorem iq.lt:{d:DR}->{x':d.low.den}->{x:d.row.den}->{S:Nat->Prop}->iq F w d x' x S->∀k,S k->k<w.heap.size
 | .leaf _,_,_,_,h,k,hk=>absurd hk (h.2 k)
 | .sl T d,u,l,S,h,k,hk=>by
   obtain⟨lh,Ss,h1,h2,h3,h4⟩:=h
   rcases(h4.all k).1 hk with hm|⟨i,hi,hm⟩
   .exact h1.lt k hm
   .exact iq.lt (h3 i (by omega) hi) k hm
 | .pair a b,_,_,_,h,k,hk=>by
   obtain⟨A,B,h1,h2,h3⟩:=h
   rcases(h3.all k).1 hk with hm|hm
   .exact iq.lt h1 k hm
   .exact iq.lt h2 k hm
theorem iq.freeze:{d:DR}->{cs:List Value}->{x':d.low.den}->{x:d.row.den}->{S:Nat->Prop}->iq F w d x' x S->(∀k,S k->¬F k)->bT F w d.low cs x'->bT (λb=>F b\/S b) w d.row cs x
 | .leaf _,_,_,_,S,h,_,hr=>by
   obtain⟨rfl,_⟩:=h;exact hr.step (Step.freeze F w S)
 | .sl T d,cs,u,l,S,h,hn,hr=>by
   obtain⟨lh,Ss,⟨xs,hx,NL⟩,h2,h3,h4⟩:=h;obtain⟨rfl,_⟩:=hr
   have Au:gv 0 (λb=>F b\/∃i,i<l.length/\Ss i b) w T d.row u l:=by
    refine⟨λk hk hF=>?_,xs,?_,λi hi=>?_⟩
    .rcases hF with hF|⟨i,hi,hm⟩
     .exact hn k (h4.bh k hk) hF
     .exact h4.out i k hi hm hk
    .rw[<-d.size,<-h2];exact hx
    .have jF:i<lh.length:=by omega
     have:=iq.freeze (h3 i jF hi) (λk hk=>hn k (h4.part hi k hk)) (NL i jF);rw[<-d.size]
     exact this.step λb hb=>⟨hb.imp id λhb=>⟨i,hi,hb⟩,rfl⟩
   exact Au.freeze.step (r:= .slice d.row) λb hb=>⟨by
    rcases hb with(hb|⟨i,hi,hb⟩)|hb
    .exact .inl hb
    .exact .inr (h4.part hi b hb)
    .exact .inr (h4.bh b hb),rfl⟩
 | .pair a b,_,_,_,S,h,hn,hr=>by
   obtain⟨A,B,h1,h2,h3⟩:=h;obtain⟨c1,c2,rfl,r1,r2⟩:=hr;exact⟨c1,c2,rfl,(iq.freeze h1 (λk hk=>hn k (h3.left k hk)) r1).step λb hb=>⟨hb.imp id (h3.left b),rfl⟩,(iq.freeze h2 (λk hk=>hn k (h3.right k hk)) r2).step λb hb=>⟨hb.imp id (h3.right b),rfl⟩⟩
theorem iq.out:{d e:DR}->(p:ee d e)->{x':d.low.den}->{x:d.row.den}->{S:Nat->Prop}->iq F w d x' x S->∃A B,iq F w e (p.lo.get x') (p.hi.get x) A/\jT F w p x' x B/\Gn A B S
 |_,_, .here,_,_,S,h=>⟨S,λ_=>False,h,λ_ h=>h,⟨λk=>by simp,λ_ _ h=>h⟩⟩
 |_,_, .fst p,_,_,S,h=>by
  obtain⟨A,B,h1,h2,h3⟩:=h;obtain⟨A1,A2,g1,g2,g3⟩:=iq.out p h1;refine⟨A1,λk=>A2 k\/B k,g1,⟨A2,B,g2,h2,λk=>Iff.rfl,λk hk=>h3.off k (g3.right k hk)⟩,λk=>?_,λk hk hh=>?_⟩
  .rw[h3.all,g3.all,or_assoc]
  .exact hh.elim (g3.off k hk) (h3.off k (g3.left k hk))
 |_,_, .snd p,_,_,S,h=>by
  obtain⟨A,B,h1,h2,h3⟩:=h;obtain⟨B1,B2,g1,g2,g3⟩:=iq.out p h2;refine⟨B1,λk=>A k\/B2 k,g1,⟨A,B2,h1,g2,λk=>Iff.rfl,λk hk hh=>h3.off k hk (g3.right k hh)⟩,λk=>?_,λk hk hh=>?_⟩
  .rw[h3.all,g3.all];constructor<;>(intro h;rcases h with h|h|h<;>simp[h])
  .exact hh.elim (λhh=>h3.off k hh (g3.left k hk)) (g3.off k hk)
theorem jT.put:{d e:DR}->(p:ee d e)->{x':d.low.den}->{x:d.row.den}->{y':e.low.den}->{y:e.row.den}->{A B S:Nat->Prop}->jT F w p x' x B->iq F w e y' y A->Gn A B S->iq F w d (p.lo.set x' y') (p.hi.set x y) S
 |_,_, .here,_,_,y',y,A,B,S,h,hy,h3=>by
  have:A=S:=by
   funext k;exact propext ⟨λhk=>h3.left k hk,λhk=>((h3.all k).1 hk).elim id λhb=>absurd hb (h k)⟩
  subst this;exact hy
 |_,_, .fst p,x',x,y',y,A,B,S,h,hy,h3=>by
  obtain⟨A2,B2,g1,g2,g3⟩:=h
  have t1:Gn A A2 (λk=>A k\/A2 k):=⟨λ_=>Iff.rfl,λk hk h2=>h3.off k hk (g3.left k h2)⟩
  refine⟨λk=>A k\/A2 k,B2,jT.put p g1 hy t1,g2,λk=>?_,λk hk h2=>?_⟩
  .rw[h3.all,g3.all,or_assoc]
  .exact hk.elim (λhk=>h3.off k hk (g3.right k h2)) λhk=>g3.off k hk h2
 |_,_, .snd p,x',x,y',y,A,B,S,h,hy,h3=>by
  obtain⟨A2,B2,g1,g2,g3⟩:=h
  have t1:Gn A B2 (λk=>A k\/B2 k):=⟨λ_=>Iff.rfl,λk hk h2=>h3.off k hk (g3.right k h2)⟩
  refine⟨A2,λk=>A k\/B2 k,g1,jT.put p g2 hy t1,λk=>?_,λk hk h2=>?_⟩
  .rw[h3.all,g3.all];constructor<;>(intro h;rcases h with h|h|h<;>simp[h])
  .exact h2.elim (λh2=>h3.off k h2 (g3.left k hk)) λh2=>g3.off k hk h2
theorem jT.set:{d e:DR}->(p:ee d e)->{x':d.low.den}->{x:d.row.den}->{S:Nat->Prop}->(y':e.low.den)->(y:e.row.den)->jT F w p x' x S->jT F w p (p.lo.set x' y') (p.hi.set x y) S
 |_,_, .here,_,_,_,_,_,h=>h
 |_,_, .fst p,_,_,_,y',y,h=>by
  obtain⟨A,B,h1,h2,h3⟩:=h;exact⟨A,B,h1.set p y' y,h2,h3⟩
 |_,_, .snd p,_,_,_,y',y,h=>by
  obtain⟨A,B,h1,h2,h3⟩:=h;exact⟨A,B,h1,h2.set p y' y,h3⟩
end
end
section
inductive Tree where
 |leaf (r:Row) (x:r.den)
 |own (o:Nat)
 |nil
 |pair (a b:Tree)
 |view (o s:Nat) (r:Row) (m:List r.den)
 |junk (n:Nat)
structure sF where
 i:Int
 p:List Bool
 o:Nat
 s:Nat
inductive Th where
 |box (T:TypeId) (t:Tree)
 |own (T:TypeId) (r:Row) (l:List r.den)
 |qk (T:TypeId) (r:Row) (l:List r.den)
 |map (T:TypeId) (K:Row) (agg:Bool) (V:Row) (l:List (K.den×V.den))
 |fmap (T:TypeId) (K:Row) (agg:Bool) (V:Row) (l:List (K.den×V.den))
 |deep (T:TypeId) (d:DR) (l:List d.row.den) (h:Option sF)
 |fdeep (T:TypeId) (d:DR) (l:List d.row.den)
 |smap (T:TypeId) (K:Row) (agg:Bool) (V:Row) (l:List (K.den×V.den)) (it:Option (Nat×List (K.den×V.den)×Option (K.den×V.den)))
def Th.base:Th->Th
 | .qk T r l=> .own T r l
 | .fmap T K agg V l=> .map T K agg V l
 | .fdeep T d l=> .deep T d l acP
 |t=>t
inductive aj where
 |dead
 |undef
 |val (agg:Bool) (t:Tree)
 |ptr (o:Nat) (p:List Bool) (off:Nat)
 |at (r:Row) (x:r.den)
 |elem (o s:Nat) (r:Row) (i:Int) (x:r.den) (p:List Bool) (off:Nat)
 |tup (ds:List (Bool×Tree))
 |dlm (o:Nat) (d:DR) (i:Int) (p:List Bool) (off:Nat)
 |fn (f:FuncId) (caps:List (Nat×List Bool×Nat))
 |ifc (T:TypeId) (d:aj)
structure an where
 val:Nat->Option Value
 con:Nat->Option Th
 sub:Nat->Nat->Prop
structure an.le(H H':an):Prop where
 val:∀o v,H.val o=some v->H'.val o=some v
 con:∀s t,H.con s=some t->H'.con s=some t
 sub:∀s t,H.con s=some t->H'.sub s=H.sub s
theorem an.le.refl(H:an):H.le H:=⟨λ_ _ h=>h,λ_ _ h=>h,λ_ _ _=>rfl⟩
theorem an.le.trans{H H' rN:an}(h:H.le H')(k:H'.le rN):H.le rN:=⟨λo v e=>k.val o v (h.val o v e),λo v e=>k.con o v (h.con o v e),λs t e=>(k.sub s t (h.con s t e)).trans (h.sub s t e)⟩
def jU(H:an)(o s:Nat)(r:Row)(m:List r.den)(v:Value):Prop:=
 ∃A cap T,∃l:List r.den,∃a b,H.val o=some (.slice A l.length cap)/\H.con s=some (.own T r l)/\a<=b/\b<=l.length/\m=(l.take b).drop a/\v=sliced A a b cap r.size
theorem jU.keep{H H':an}(hH:H.le H'){o s:Nat}{r:Row}{m:List r.den}{v:Value}(h:jU H o s r m v):jU H' o s r m v:=by
 obtain⟨A,cap,T,l,a,b,h1,h2,h3⟩:=h;exact⟨A,cap,T,l,a,b,hH.val _ _ h1,hH.con _ _ h2,h3⟩
theorem jU.back{H H' rN:an}(hH:H.le H')(Av:H.le rN){o s:Nat}{r:Row}{m:List r.den}{v0 v:Value}(h0:jU H o s r m v0)(h:jU H' o s r m v):jU rN o s r m v:=by
 obtain⟨A,cap,T,l,a,b,h1,h2,_⟩:=h0;obtain⟨A',Gd,T',l',a',b',k1,k2,k3⟩:=h;have e1:=hH.val _ _ h1;have e2:=hH.con _ _ h2;rw[k1]at e1;rw[k2]at e2;simp only[aa1,Th.own.injEq,heq_eq_eq,true_and]at e2;obtain⟨rfl,rfl⟩:=e2;exact⟨A',Gd,T',l',a',b',by rw[e1];exact Av.val _ _ h1,Av.con _ _ h2,k3⟩
theorem jU.one{H:an}{o s:Nat}{r:Row}{m:List r.den}{v:Value}(h:jU H o s r m v):v.oneCell'=acQ:=by
 obtain⟨A,cap,T,l,a,b,_,_,_,_,_,rfl⟩:=h;simp[sliced,ach]
def jd(H:an):List (Nat×List Bool×Nat)->List Value->Prop
 |[],vs=>vs=[]
 |c::cs,vs=>∃v us,vs=v::us/\(∃b,H.val c.1=some (.pointer (some ⟨b,0,acP⟩))/\v= .pointer (some ⟨b,c.2.2,acP⟩))/\jd H cs us
theorem jd.keep{H H':an}(hH:∀o v,H.val o=some v->H'.val o=some v):{cs:List (Nat×List Bool×Nat)}->{vs:List Value}->jd H cs vs->jd H' cs vs
 |[],_,h=>h
 |_::_,_,h=>by obtain⟨v,us,e,⟨b,h1,h2⟩,h3⟩:=h;exact⟨v,us,e,⟨b,hH _ _ h1,h2⟩,h3.keep hH⟩
def Holds(H:an)(F:Nat->Prop)(w:World):Tree->List Value->Prop
 | .leaf r x,cs=>bT F w r cs x
 | .own o,cs=>∃v,H.val o=some v/\v.oneCell'=acQ/\cs=[v]
 | .nil,cs=>cs=[.slice acP 0 0]
 | .pair a b,cs=>∃c1 c2,cs=c1++c2/\Holds H F w a c1/\Holds H F w b c2
 | .view o s r m,cs=>∃v,cs=[v]/\jU H o s r m v
 | .junk n,cs=>cs.length=n/\∀u∈cs,u.oneCell'=acQ
def Tree.size:Tree->Nat
 | .leaf r _=>r.size
 | .own _=>1
 | .nil=>1
 | .pair a b=>a.size+b.size
 | .view .. =>1
 | .junk n=>n
def az(H:an)(F:Nat->Prop)(w:World)(agg:Bool)(t:Tree)(v:Value):Prop:=
 ∃cs,Holds H F w t cs/\v=(bif agg then .agg cs.toArray else cs.headD undef)/\(agg=acR->cs=[v])
def pA(H:an)(F:Nat->Prop)(w:World):List (Bool×Tree)->List Value->Prop
 |[],vs=>vs=[]
 |d::ds,vs=>∃v us,vs=v::us/\az H F w d.1 d.2 v/\pA H F w ds us
def ah(H:an)(F:Nat->Prop)(w:World):aj->Value->Prop
 | .dead,_=>True
 | .undef,v=>v=Go.undef
 | .val agg t,v=>az H F w agg t v
 | .ptr o _ off,v=>∃b,H.val o=some (.pointer (some ⟨b,0,acP⟩))/\v= .pointer (some ⟨b,off,acP⟩)
 | .at r x,v=>∃b off,v= .pointer (some ⟨b,off,acP⟩)/\F b/\At F w r b off x
 | .elem o s r i x _ off,v=>∃g o0 q T m cap l,H.val o=some (.slice (some ⟨g,o0,acP⟩) m cap)/\i=(q:Nat)/\H.con s=some (.own T r l)/\idx l i=some x/\v= .pointer (some ⟨g,o0+q*r.size+off,acP⟩)
 | .tup ds,v=>∃vs,v= .tuple vs.toArray/\pA H F w ds vs
 | .dlm o d i _ off,v=>∃g o0 q m cap,H.val o=some (.slice (some ⟨g,o0,acP⟩) m cap)/\i=(q:Nat)/\v= .pointer (some ⟨g,o0+q*d.low.size+off,acP⟩)
 | .fn f caps,v=>∃vs,v= .func (.func f) #[] vs.toArray/\jd H caps vs
 | .ifc T d,v=>∃u,v= .iface T u/\ah H F w d u
section
variable {H H':an} {F F':Nat->Prop} {w w':World}
theorem Holds.length:{t:Tree}->{cs:List Value}->Holds H F w t cs->cs.length=t.size
 | .leaf _ _,_,h=>bT.length h
 | .own _,_,h=>by obtain⟨v,_,_,rfl⟩:=h;rfl
 | .nil,_,h=>by rw[show _=_ from h];rfl
 | .pair a b,_,h=>by obtain⟨c1,c2,rfl,h1,h2⟩:=h;simp[h1.length,h2.length,Tree.size]
 | .view ..,_,h=>by obtain⟨v,rfl,_⟩:=h;rfl
 | .junk _,_,h=>h.1
theorem Holds.gO:{t:Tree}->{cs:List Value}->Holds H F w t cs->∀u∈cs,u.oneCell'=acQ
 | .leaf _ _,_,h=>bT.gO h
 | .own _,_,h=>by obtain⟨v,_,h1,rfl⟩:=h;simpa using h1
 | .nil,_,h=>by rw[show _=_ from h];simp[ach]
 | .pair a b,_,h=>by
   obtain⟨c1,c2,rfl,h1,h2⟩:=h;intro u hu
   rcases aa9.1 hu with h'|h'
   .exact h1.gO u h'
   .exact h2.gO u h'
 | .view ..,_,h=>by obtain⟨v,rfl,h⟩:=h;simpa using h.one
 | .junk _,_,h=>h.2
theorem Holds.keep(hH:H.le H')(hs:Step F w F' w'):{t:Tree}->{cs:List Value}->Holds H F w t cs->Holds H' F' w' t cs
 | .leaf _ _,_,h=>bT.step hs h
 | .own _,_,h=>by obtain⟨v,h0,h1,rfl⟩:=h;exact⟨v,hH.val _ _ h0,h1,rfl⟩
 | .nil,_,h=>h
 | .pair a b,_,h=>by obtain⟨c1,c2,rfl,h1,h2⟩:=h;exact⟨c1,c2,rfl,h1.keep hH hs,h2.keep hH hs⟩
 | .view ..,_,h=>by obtain⟨v,rfl,h⟩:=h;exact⟨v,rfl,h.keep hH⟩
 | .junk _,_,h=>h
theorem Holds.back{rN:an}{w0:World}{F0:Nat->Prop}(hH:H.le H')(Av:H.le rN):{t:Tree}->{U9 cs:List Value}->Holds H F0 w0 t U9->Holds H' F w t cs->Holds rN F w t cs
 | .leaf _ _,_,_,_,h=>h
 | .own _,_,_,h0,h=>by
   obtain⟨v,a0,_,_⟩:=h0;obtain⟨u,b0,b1,rfl⟩:=h;have:=hH.val _ _ a0;rw[b0]at this;obtain rfl:=aaT this;exact⟨u,Av.val _ _ a0,b1,rfl⟩
 | .nil,_,_,_,h=>h
 | .pair a b,_,_,h0,h=>by
   obtain⟨_,_,_,a1,a2⟩:=h0;obtain⟨c1,c2,rfl,h1,h2⟩:=h;exact⟨c1,c2,rfl,Holds.back (w0:=w0) (F0:=F0) hH Av a1 h1,Holds.back (w0:=w0) (F0:=F0) hH Av a2 h2⟩
 | .view ..,_,_,h0,h=>by
   obtain⟨_,_,h0⟩:=h0;obtain⟨v,rfl,h⟩:=h;exact⟨v,rfl,h0.back hH Av h⟩
 | .junk _,_,_,_,h=>h
theorem az.keep{agg:Bool}{t:Tree}{v:Value}(hH:H.le H')(hs:Step F w F' w')(h:az H F w agg t v):az H' F' w' agg t v:=by
 obtain⟨cs,h1,h2⟩:=h;exact⟨cs,h1.keep hH hs,h2⟩
theorem pA.keep(hH:H.le H')(hs:Step F w F' w'):{ds:List (Bool×Tree)}->{vs:List Value}->pA H F w ds vs->pA H' F' w' ds vs
 |[],_,h=>h
 |_::_,_,h=>by obtain⟨v,us,rfl,h1,h2⟩:=h;exact⟨v,us,rfl,h1.keep hH hs,h2.keep hH hs⟩
theorem At.keep{r:Row}{b off:Nat}{x:r.den}(hs:Step F w F' w')(hb:F b)(h:At F w r b off x):At F' w' r b off x:=by
 obtain⟨es,hl,hc,hr⟩:=h;exact⟨es,hl,λj u hu=>(World.cell?_of_block (hs b hb).2).trans (hc j u hu),hr.step hs⟩
theorem ah.keep(hH:H.le H')(hs:Step F w F' w'):{d:aj}->{v:Value}->ah H F w d v->ah H' F' w' d v
 | .dead,_,_=>trivial
 | .undef,_,h=>h
 | .val _ _,_,h=>az.keep hH hs h
 | .ptr _ _ _,_,h=>by obtain⟨b,h1,h2⟩:=h;exact⟨b,hH.val _ _ h1,h2⟩
 | .at _ _,_,h=>by obtain⟨b,off,h1,h2,h3⟩:=h;exact⟨b,off,h1,(hs b h2).1,h3.keep hs h2⟩
 | .elem ..,_,h=>by obtain⟨g,o0,q,T,m,cap,l,h1,h2,h3,h4⟩:=h;exact⟨g,o0,q,T,m,cap,l,hH.val _ _ h1,h2,hH.con _ _ h3,h4⟩
 | .tup _,_,h=>by obtain⟨vs,h1,h2⟩:=h;exact⟨vs,h1,h2.keep hH hs⟩
 | .dlm ..,_,h=>by obtain⟨g,o0,q,m,cap,h1,h2,h3⟩:=h;exact⟨g,o0,q,m,cap,hH.val _ _ h1,h2,h3⟩
 | .fn ..,_,h=>by obtain⟨vs,h1,h2⟩:=h;exact⟨vs,h1,h2.keep hH.val⟩
 | .ifc _ d,_,h=>by obtain⟨u,h1,h2⟩:=h;exact⟨u,h1,ah.keep hH hs (d:=d) h2⟩
def find{α:Type}:List (Nat×α)->Nat->Option α
 |[],_=>acP
 |(m,a)::l,n=>bif aaY m n then some a else find l n
def del{α:Type}(ns:List Nat):List (Nat×α)->List (Nat×α)
 |[]=>[]
 |(m,a)::l=>bif ns.any (aaY m)then del ns l else(m,a)::del ns l
theorem aA{α:Type}{m:Nat}{a:α}{l:List (Nat×α)}{n:Nat}:find ((m,a)::l) n=if m=n then some a else find l n:=by
 show(bif aaY m n then some a else find l n)=_
 by_cases h:m=n
 .subst h;simp
 .rw[acT h]
  have:aaY m n=acR:=by
   cases hb:aaY m n with
   |false=>rfl
   |true=>exact absurd (abK hb) h
  simp[this]
theorem fD{α:Type}{l l':List (Nat×α)}{n:Nat}:find (l++l') n=(find l n).or (find l' n):=by
 induction l with
 |nil=>rfl
 |cons p l ih=>
  obtain⟨m,a⟩:=p;rw[acA,aA,aA,ih]
  split<;>rfl
theorem any_beq{ns:List Nat}{m:Nat}:ns.any (aaY m)=acQ↔m∈ns:=by
 simp only[List.any_eq_true,Nat.beq_eq];exact⟨λ⟨x,hx,e⟩=>e▸hx,λh=>⟨m,h,rfl⟩⟩
theorem fE{α:Type}{ns:List Nat}{l:List (Nat×α)}{n:Nat}{a:α}:find (del ns l) n=some a↔n∉ns/\find l n=some a:=by
 induction l with
 |nil=>simp[del,find]
 |cons p l ih=>
  obtain⟨m,b⟩:=p;unfold del
  cases hm:ns.any (aaY m)with
  |true=>
   have bP:=any_beq.1 hm;rw[cond_true,ih,aA];constructor
   .rintro⟨h1,h2⟩
    have cA:m≠n:=λe=>h1 (e▸bP)
    exact⟨h1,by rw[acT cA];exact h2⟩
   .rintro⟨h1,h2⟩
    have cA:m≠n:=λe=>h1 (e▸bP)
    rw[acT cA]at h2;exact⟨h1,h2⟩
  |false=>
   have bP:m∉ns:=λe=>by rw[any_beq.2 e]at hm;cases hm
   rw[cond_false,aA,aA];by_cases h:m=n
   .subst h;simp[bP]
   .simp only[acT h];exact ih
def oQ(F:Nat->Prop)(w:World):Prop:=∀g d,find Gm g=some d->F g/\At F w d.1 g 0 d.2
theorem oQ.step{F F':Nat->Prop}{w w':World}(h:oQ F w)(hs:Step F w F' w'):oQ F' w':=λg d hg=>⟨(hs g (h g d hg).1).1,(h g d hg).2.keep hs (h g d hg).1⟩
def eh(H:an)(F:Nat->Prop)(w:World)(K:Row)(agg:Bool)(V:Row):List MapEntry->List (K.den×V.den)->Prop
 |[],l=>l=[]
 |e::es,l=>∃k x l',l=(k,x)::l'/\il K k=some e.key/\az H F w agg (.leaf V x) e.val/\eh H F w K agg V es l'
theorem eh.keep{H H':an}{F F':Nat->Prop}{w w':World}(hH:H.le H')(hs:Step F w F' w'){K:Row}{agg:Bool}{V:Row}:{es:List MapEntry}->{l:List (K.den×V.den)}->eh H F w K agg V es l->eh H' F' w' K agg V es l
 |[],_,h=>h
 |_::_,_,h=>by obtain⟨k,x,l',e,h1,h2,h3⟩:=h;exact⟨k,x,l',e,h1,h2.keep hH hs,eh.keep hH hs h3⟩
theorem eh.eR{H H':an}{F:Nat->Prop}{w:World}{K:Row}{agg:Bool}{V:Row}:{es:List MapEntry}->{l:List (K.den×V.den)}->eh H F w K agg V es l->eh H' F w K agg V es l
 |[],_,h=>h
 |_::_,_,h=>by
  obtain⟨k,x,l',e,h1,⟨cs,h2,um⟩,h3⟩:=h;exact⟨k,x,l',e,h1,⟨cs,h2,um⟩,eh.eR h3⟩
noncomputable def b9:(K:Row)->K.den->K.den->Bool
 | .int _,a,b=>decide ((a:Int)=b)
 | .bool,a,b=>decide ((a:Bool)=b)
 | .str,a,b=>decide ((a:ByteArray)=b)
 | .pair (.int _) (.int _),a,b=>decide ((a.1:Int)=b.1/\(a.2:Int)=b.2)
 |_,_,_=>acR
def Aw(H:an)(F:Nat->Prop)(w:World)(S:Nat->Prop)(K:Row)(agg:Bool)(V:Row)(b:Nat)(es:Array MapEntry)(clock:Nat):Option (Nat×List (K.den×V.den)×Option (K.den×V.den))->Prop
 |none=>True
 |some (n,left,cur)=>∃r since seen last,S r/\r≠b/\H.val n=some (.pointer (some ⟨r,0,acP⟩))/\w.heap[r]? =some (.mapIter (some b) since seen last)/\(∀x∈es.toList,x.born<since)/\since<=last/\since<=clock/\
   (∃l2,eh H F w K agg V (leftOf es seen).toList l2/\l2.Perm left)/\∀p,cur=some p->last=clock/\∃e∈es.toList,(∃s0:Array Nat,seen=s0.push e.born)/\il K p.1=some e.key/\az H F w agg (.leaf V p.2) e.val
theorem Aw.keep{H H':an}{F F':Nat->Prop}{w w':World}{S:Nat->Prop}{K:Row}{agg:Bool}{V:Row}{b:Nat}{es:Array MapEntry}{clock:Nat}{it:Option (Nat×List (K.den×V.den)×Option (K.den×V.den))}
 (hH:H.le H')(hs:Step F w F' w')(hb:∀k,S k->w'.heap[k]? =w.heap[k]?)(h:Aw H F w S K agg V b es clock it):Aw H' F' w' S K agg V b es clock it:=by
 match it,h with
 |none,_=>trivial
 |some (n,left,cur),⟨r,since,seen,last,h1,h2,h3,h4,h5,h6,QW,⟨l2,h7,h8⟩,h9⟩=>
  exact⟨r,since,seen,last,h1,h2,hH.val _ _ h3,(hb r h1).trans h4,h5,h6,QW,⟨l2,h7.keep hH hs,h8⟩,λp hp=>by
   obtain⟨g1,e,g2,g3,g4,g5⟩:=h9 p hp
   exact⟨g1,e,g2,g3,g4,g5.keep hH hs⟩⟩
theorem Aw.eR{H H':an}{F:Nat->Prop}{w:World}{S:Nat->Prop}{K:Row}{agg:Bool}{V:Row}{b:Nat}{es:Array MapEntry}{clock:Nat}{it:Option (Nat×List (K.den×V.den)×Option (K.den×V.den))}
 (hn:∀n x u,it=some (n,x)->H.val n=some u->H'.val n=some u)(h:Aw H F w S K agg V b es clock it):Aw H' F w S K agg V b es clock it:=by
 match it,h,hn with
 |none,_,_=>trivial
 |some (n,left,cur),⟨r,since,seen,last,h1,h2,h3,h4,h5,h6,QW,⟨l2,h7,h8⟩,h9⟩,hn=>
  exact⟨r,since,seen,last,h1,h2,hn _ _ _ rfl h3,h4,h5,h6,QW,⟨l2,h7.eR,h8⟩,λp hp=>by
   obtain⟨g1,e,g2,g3,g4,cs,g5,g6⟩:=h9 p hp
   exact⟨g1,e,g2,g3,g4,cs,g5,g6⟩⟩
def mg(H:an)(F:Nat->Prop)(w:World)(d:DR)(h:Option sF)(i:Nat)(x':d.low.den)(x:d.row.den)(S:Nat->Prop):Prop:=
 match h with
 |none=>iq F w d x' x S
 |some h=>(h.i≠(i:Int)->iq F w d x' x S)/\(h.i=(i:Int)->∃T' e,∃q:ee d (.sl T' e),d.path h.p=some ⟨_,q⟩/\jT F w q x' x S/\H.val h.o=some (q.lo.get x'))
theorem mg.keep{H H':an}{F F':Nat->Prop}{w w':World}{d:DR}{h:Option sF}{i:Nat}{x':d.low.den}{x:d.row.den}{S:Nat->Prop}(hr:mg H F w d h i x' x S)(hH:H.le H')(hs:Step F w F' w')(hb:∀k,S k->w'.heap[k]? =w.heap[k]?):mg H' F' w' d h i x' x S:=by
 cases h with
 |none=>exact iq.keep hs hr hb
 |some h=>
  refine⟨λhi=>(hr.1 hi).keep hs hb,λhi=>?_⟩;obtain⟨T',e,q,h1,h2,h3⟩:=hr.2 hi;exact⟨T',e,q,h1,h2.keep hs hb,hH.val _ _ h3⟩
def fp(S:Nat->Prop)(v:Value):Th->Nat->Prop
 | .box ..,k=>v= .pointer (some ⟨k,0,acP⟩)
 | .own ..,k=>bh v k
 | .qk ..,_=>False
 | .map ..,k=>v= .map (some k)
 | .fmap ..,_=>False
 | .deep ..,k=>S k
 | .fdeep ..,_=>False
 | .smap ..,k=>S k
def fB(H:an)(F:Nat->Prop)(w:World)(S:Nat->Prop)(v:Value):Th->Prop
 | .box T t=>∃b es,v= .pointer (some ⟨b,0,acP⟩)/\w.heap[b]? =some (.cells es.toArray T (0,0))/\Holds H F w t es
 | .own T r l=>∃xs,kW w 0 T r.size v l.length xs/\∀i(h:i<l.length),bT F w r ((xs.drop (i*r.size)).take r.size) l[i]
 | .qk _ r l=>bT F w (.slice r) [v] l
 | .fmap _ K agg V l=>bT F w (.map K agg V) [v] l
 | .map _ K agg V l=>∃b es clock,v= .map (some b)/\w.heap[b]? =some (.map es clock)/\MapKept.Stamped es clock/\eh H F w K agg V es.toList l
 | .deep T d l h=>DL F w T d.low (mg H F w d h) v l S
 | .fdeep _ d l=>bT F w (.slice d.row) [v] l
 | .smap _ K agg V l it=>∃b es clock l',v= .map (some b)/\S b/\w.heap[b]? =some (.map es clock)/\MapKept.Stamped es clock/\eh H F w K agg V es.toList l'/\l'.Perm l/\Aw H F w S K agg V b es clock it
structure DM(U:Nat->Prop)(H:an)(F:Nat->Prop)(w:World)(v:Value)(s:Nat)(t:Th):Prop where
 one:v.oneCell'=acQ
 con:H.con s=some t.base
 ok:fB H F w (H.sub s) v t
 no:∀k,fp (H.sub s) v t k->¬F k
 lt:∀k,fp (H.sub s) v t k->k<w.heap.size
 use:∀k,fp (H.sub s) v t k->U k
structure aq(U:Nat->Prop)(H:an)(F:Nat->Prop)(w:World)(ob:Nat->Option (Nat×Th))(n:Nat):Prop where
 obj:∀o s t,ob o=some (s,t)->∃v,H.val o=some v/\DM U H F w v s t
 apart:∀o o' s s' t t' v v',o≠o'->ob o=some (s,t)->ob o'=some (s',t')->H.val o=some v->H.val o'=some v'->∀k,fp (H.sub s) v t k->¬fp (H.sub s') v' t' k
 fresh:∀m,n<=m->m<n+16->H.val m=acP/\H.con m=acP
 lt:∀b,F b->b<w.heap.size
 new:∀b,w.heap.size<=b->U b
 gl:oQ F w
theorem fB.heap{S:Nat->Prop}{v:Value}{t:Th}(h:fB H F w S v t)(hH:H.le H')(hs:Step F w F' w')(hb:∀k,fp S v t k->w'.heap[k]? =w.heap[k]?):fB H' F' w' S v t:=by
 cases t with
 |box T t=>
  obtain⟨b,es,rfl,h1,h2⟩:=h;exact⟨b,es,rfl,(hb b rfl).trans h1,h2.keep hH hs⟩
 |own T r l=>
  obtain⟨xs,⟨xK,Af⟩,h3⟩:=h;refine⟨xs,⟨xK,?_⟩,λi hi=>(h3 i hi).step hs⟩
  rcases Af with h2|⟨gg,o0,cap,cur,rfl,r4,hg,rest⟩
  .exact .inl h2
  .exact .inr ⟨gg,o0,cap,cur,rfl,r4,(hb gg rfl).trans hg,rest⟩
 |qk T r l=>exact bT.step (r:= .slice r) hs h
 |fmap T K agg V l=>exact bT.step (r:= .map K agg V) hs h
 |fdeep T d l=>exact bT.step (r:= .slice d.row) hs h
 |deep T d l hh=>exact DL.mono (show DL F w T d.low _ v l S from h) hs hb λi x' hi A hA hr=>hr.keep hH hs λk hk=>hb k (hA k hk)
 |map T K agg V l=>
  obtain⟨b,es,clock,rfl,h1,h2,h3⟩:=h;exact⟨b,es,clock,rfl,(hb b rfl).trans h1,h2,h3.keep hH hs⟩
 |smap T K agg V l it=>
  obtain⟨b,es,clock,l',rfl,h0,h1,h2,h3,h4,h5⟩:=h;exact⟨b,es,clock,l',rfl,h0,(hb b h0).trans h1,h2,h3.keep hH hs,h4,h5.keep hH hs hb⟩
theorem gv.of{v:Value}{T:TypeId}{r:Row}{l:List r.den}{S:Nat->Prop}(h:fB H F w S v (.own T r l))(hn:∀k,bh v k->¬F k):gv 0 F w T r v l:=⟨hn,h⟩
theorem gv.to{v:Value}{T:TypeId}{r:Row}{l:List r.den}(S:Nat->Prop)(h:gv 0 F w T r v l):fB H F w S v (.own T r l):=h.2
end
structure State where
 ak:List (Nat×aj)
 objs:List (Nat×(Nat×Th))
 nxt:Nat
def fF(H:an)(n:Nat):Prop:=∀m,n<=m->H.val m=acP/\H.con m=acP
structure Sat(U:Nat->Prop)(H:an)(F:Nat->Prop)(w:World)(ρ:Nat->Value)(st:State):Prop where
 slot:∀t d,find st.ak t=some d->ah H F w d (ρ t)
 ob:aq U H F w (find st.objs) st.nxt
 all:fF H st.nxt
structure c9 where
 dst:aj
 eat:List Nat:=[]
 make:List (Nat×(Nat×Th)):=[]
def State.apply(st:State)(d:Option Nat)(e:c9):State:=
 {ak:=(match d with|some d=>(d,e.dst)::st.ak|none=>st.ak),objs:=e.make++del e.eat st.objs,nxt:=st.nxt+16}
def bJ(H:an)(ob:Nat->Option (Nat×Th))(eat:List Nat)(k:Nat):Prop:=∃o∈eat,∃s t v,ob o=some (s,t)/\H.val o=some v/\fp (H.sub s) v t k
structure IZ(H:an)(F:Nat->Prop)(w:World)(H':an)(F':Nat->Prop)(w':World)(g:Nat->Prop):Prop where
 eR:H.le H'
 ext:Ext g w w'
 le:∀b,F b->F' b
 grow:∀b,F' b->F b\/w.heap.size<=b\/g b
 lt:∀b,F' b->b<w'.heap.size
structure Made(H':an)(F':Nat->Prop)(w w':World)(g:Nat->Prop)(make:List (Nat×(Nat×Th))):Prop where
 obj:∀o s t,find make o=some (s,t)->∃v,H'.val o=some v/\v.oneCell'=acQ/\H'.con s=some t.base/\fB H' F' w' (H'.sub s) v t/\∀k,fp (H'.sub s) v t k->¬F' k/\k<w'.heap.size/\(w.heap.size<=k\/g k)
 apart:∀o o' s s' t t' v v',o≠o'->find make o=some (s,t)->find make o'=some (s',t')->H'.val o=some v->H'.val o'=some v'->∀k,fp (H'.sub s) v t k->¬fp (H'.sub s') v' t' k
structure jV(H:an)(F:Nat->Prop)(w:World)(ob:Nat->Option (Nat×Th))(n:Nat)(e:c9)(v:Value)(w':World)(H':an)(F':Nat->Prop):Prop where
 jr:IZ H F w H' F' w' (bJ H ob e.eat)
 fresh:∀m,(m<n\/n+16<=m)->(H.val m=acP->H'.val m=acP)/\(H.con m=acP->H'.con m=acP)
 dst:ah H' F' w' e.dst v
 made:Made H' F' w w' (bJ H ob e.eat) e.make
 ids:∀o,(find e.make o).isSome->o∈e.eat\/n<=o
def kg(H:an)(F:Nat->Prop)(w:World)(ob:Nat->Option (Nat×Th))(n:Nat)(e:c9)(v:Value)(w':World):Prop:=∃H' F',jV H F w ob n e v w' H' F'
def rO(ρ:Nat->Value):Option Nat->Value->Nat->Value
 |some d,v=>Ae ρ d v
 |none,_=>ρ
theorem mh(ρ:Nat->Value)(d:Nat)(v:Value)(t:Nat):Ae ρ d v t=if t=d then v else ρ t:=by
 unfold Ae;by_cases h:t=d
 .subst h;simp
 .have:aaY t d=acR:=by
   cases hb:aaY t d with
   |false=>rfl
   |true=>exact absurd (abK hb) h
  simp[this,h]
section
variable {U:Nat->Prop} {H H':an} {F F':Nat->Prop} {w w':World} {ρ:Nat->Value} {st:State}
theorem IZ.step{g:Nat->Prop}(h:IZ H F w H' F' w' g)(hF:∀b,F b->b<w.heap.size)(hg:∀k,g k->¬F k):Step F w F' w':=
 λb hb=>⟨h.le b hb,h.ext.block b (hF b hb) λe=>hg b e hb⟩
theorem aq.dC{ob:Nat->Option (Nat×Th)}{n:Nat}(h:aq U H F w ob n){eat:List Nat}:∀k,bJ H ob eat k->¬F k:=by
 rintro k ⟨o,_,s,t,v,h1,h2,h3⟩
 obtain⟨v',e,hi⟩:=h.obj o s t h1;rw[h2]at e;obtain rfl:=aaT e;exact hi.no k h3
theorem aq.sG{ob:Nat->Option (Nat×Th)}{n:Nat}(h:aq U H F w ob n){eat:List Nat}:∀k,bJ H ob eat k->k<w.heap.size:=by
 rintro k ⟨o,_,s,t,v,h1,h2,h3⟩
 obtain⟨v',e,hi⟩:=h.obj o s t h1;rw[h2]at e;obtain rfl:=aaT e;exact hi.lt k h3
theorem aq.eo{ob:Nat->Option (Nat×Th)}{n:Nat}(h:aq U H F w ob n){eat:List Nat}:∀k,bJ H ob eat k->U k:=by
 rintro k ⟨o,_,s,t,v,h1,h2,h3⟩
 obtain⟨v',e,hi⟩:=h.obj o s t h1;rw[h2]at e;obtain rfl:=aaT e;exact hi.use k h3
theorem DM.jr{ob:Nat->Option (Nat×Th)}{n:Nat}(hs:aq U H F w ob n){eat:List Nat}(he:IZ H F w H' F' w' (bJ H ob eat)){o s:Nat}{t:Th}{v:Value}(ho:ob o=some (s,t))(hn:o∉eat)(hv:H.val o=some v)(h:DM U H F w v s t):DM U H' F' w' v s t:=by
 have Va:∀k,fp (H.sub s) v t k->¬bJ H ob eat k:=by
  rintro k hk ⟨o',iY,s',t',v',h1,h2,h3⟩
  exact hs.apart o o' s s' t t' v v' (λe=>hn (e▸iY)) ho h1 hv h2 k hk h3
 have eL:=he.eR.sub _ _ h.con;refine⟨h.one,he.eR.con _ _ h.con,by rw[eL];exact h.ok.heap he.eR (he.step hs.lt hs.dC) λk hk=>he.ext.block k (h.lt k hk) (Va k hk),λk hk hF=>?_,λk hk=>abt (h.lt k (by rwa [eL]at hk)) he.ext.size,λk hk=>h.use k (by rwa [eL]at hk)⟩;rw[eL]at hk
 rcases he.grow k hF with h1|h1|h1
 .exact h.no k hk h1
 .have:=h.lt k hk;omega
 .exact Va k hk h1
theorem aq.Gp{ob I0 Gq:Nat->Option (Nat×Th)}{n n' m:Nat}{e:c9}{v:Value}(h:aq U H F w ob n)(hR:∀o x,I0 o=some x->ob o=some x)(hp:jV H F w I0 m e v w' H' F')
 (part:∀o s t,Gq o=some (s,t)->find e.make o=some (s,t)\/(o∉e.eat/\ob o=some (s,t)/\find e.make o=acP))(wj:∀m,n'<=m->m<n'+16->H'.val m=acP/\H'.con m=acP):
 aq U H' F' w' Gq n':=by
 have sH:∀k,bJ H I0 e.eat k->bJ H ob e.eat k:=λk ⟨o,ho,s,t,v,h1,h2⟩=>⟨o,ho,s,t,v,hR _ _ h1,h2⟩
 have NM:IZ H F w H' F' w' (bJ H ob e.eat):=⟨hp.jr.eR,⟨hp.jr.ext.os,hp.jr.ext.tape,hp.jr.ext.output,hp.jr.ext.size,λk hk hn=>hp.jr.ext.block k hk λhh=>hn (sH k hh)⟩,hp.jr.le,λb hb=>(hp.jr.grow b hb).imp id λh=>h.imp id (sH b),hp.jr.lt⟩
 have I1:∀o s t,o∉e.eat->ob o=some (s,t)->∃v,H.val o=some v/\H'.val o=some v/\DM U H' F' w' v s t/\H'.sub s=H.sub s/\∀k,fp (H'.sub s) v t k->k<w.heap.size/\¬bJ H ob e.eat k:=by
  intro o s t ho hf;obtain⟨v,hv,hi⟩:=h.obj o s t hf;have eL:=hp.jr.eR.sub _ _ hi.con;refine⟨v,hv,hp.jr.eR.val _ _ hv,hi.jr h NM hf ho hv,eL,λk hk=>?_⟩;rw[eL]at hk;refine⟨hi.lt k hk,?_⟩
  rintro⟨o',iY,s',t',v',h1,h2,h3⟩
  exact h.apart o o' s s' t t' v v' (λe=>ho (e▸iY)) hf h1 hv h2 k hk h3
 refine⟨λo s t ho=>?_,λo o' s s' t t' v v' cA ho iY hv da k hk kh=>?_,wj,hp.jr.lt,λb hb=>h.new b (abi hp.jr.ext.size hb),h.gl.step (NM.step h.lt h.dC)⟩
 .rcases part o s t ho with h1|⟨h1,h2,_⟩
  .obtain⟨v,a1,a2,a3,a4,a5⟩:=hp.made.obj o s t h1;exact⟨v,a1,a2,a3,a4,λk hk=>(a5 k hk).1,λk hk=>(a5 k hk).2.1,λk hk=>(a5 k hk).2.2.elim (h.new k) (λhh=>h.eo k (sH k hh))⟩
  .obtain⟨v,_,a2,a3,_,_⟩:=I1 o s t h1 h2;exact⟨v,a2,a3⟩
 .rcases part o s t ho with h1|⟨h1,h2,_⟩<;>rcases part o' s' t' iY with sI|⟨sI,um,_⟩
  .exact hp.made.apart o o' s s' t t' v v' cA h1 sI hv da k hk kh
  .obtain⟨u,_,a1,_,_,a5⟩:=hp.made.obj o s t h1;obtain⟨u',_,b2,_,_,b4⟩:=I1 o' s' t' sI um;have e1:=aaT (da.symm.trans b2);subst e1;have e2:=aaT (hv.symm.trans ‹H'.val o=some u›);subst e2
   rcases(a5 k hk).2.2 with h3|h3
   .have:=(b4 k kh).1;omega
   .exact(b4 k kh).2 (sH k h3)
  .obtain⟨u,_,a1,_,_,a5⟩:=hp.made.obj o' s' t' sI;obtain⟨u',_,b2,_,_,b4⟩:=I1 o s t h1 h2;have e1:=aaT (hv.symm.trans b2);subst e1;have e2:=aaT (da.symm.trans ‹H'.val o'=some u›);subst e2
   rcases(a5 k kh).2.2 with h3|h3
   .have:=(b4 k hk).1;omega
   .exact(b4 k hk).2 (sH k h3)
  .obtain⟨u,b1,b2,_,b5,_⟩:=I1 o s t h1 h2;obtain⟨u',c1,c2,_,c5,_⟩:=I1 o' s' t' sI um;rw[b5]at hk;rw[c5]at kh;have e1:=aaT (hv.symm.trans b2);have e2:=aaT (da.symm.trans c2);subst e1;subst e2;exact h.apart o o' s s' t t' v v' cA h2 um b1 c1 k hk kh
theorem Ax{objs:List (Nat×(Nat×Th))}{e:c9}:∀o s t,find (e.make++del e.eat objs) o=some (s,t)->find e.make o=some (s,t)\/(o∉e.eat/\find objs o=some (s,t)/\find e.make o=acP):=by
 intro o s t ho;rw[fD]at ho
 cases hm:find e.make o with
 |some x=>rw[hm]at ho;exact .inl ho
 |none=>
  rw[hm,abT]at ho;obtain⟨h1,h2⟩:=fE.1 ho;exact .inr ⟨h1,h2,rfl⟩
theorem Sat.apply{d:Option Nat}{e:c9}{v:Value}(h:Sat U H F w ρ st)(hp:jV H F w (find st.objs) st.nxt e v w' H' F'):Sat U H' F' w' (rO ρ d v) (st.apply d e):=by
 have dF:fF H' (st.nxt+16):=λm hm=>⟨(hp.fresh m (.inr hm)).1 (h.all m (by omega)).1,(hp.fresh m (.inr hm)).2 (h.all m (by omega)).2⟩
 refine⟨λt q hq=>?_,h.ob.Gp (λ_ _ h=>h) hp Ax λm hm _=>dF m hm,dF⟩;have dW:=hp.jr.step h.ob.lt h.ob.dC
 cases d with
 |none=>exact(h.slot t q hq).keep hp.jr.eR dW
 |some d=>
  have rk:find ((d,e.dst)::st.ak) t=some q:=hq;rw[aA]at rk
  show ah H' F' w' q (Ae ρ d v t)
  rw[mh];by_cases hd:d=t
  .rw[acU hd]at rk;rw[acU hd.symm];obtain rfl:=aaT rk;exact hp.dst
  .rw[acT hd]at rk;rw[acT (Ne.symm hd)];exact(h.slot t q rk).keep hp.jr.eR dW
end
end
section
def bH(P:Program)(ρ:Nat->Value)(o:Oper)(w:World)(Q:Value->World->Prop):Prop:=
 match(execOp (ev ρ) o).run P w with
 | .ok (.value v) w'=>True/\Q v w'
 | .ok .skip w'=>o.dst=acP/\Q undef w'
 | .ok (.enter f args) w'=>Calls P f args w' λe r8=>∃v,e= .returned v/\Q v r8
 |_=>False
section
variable {P:Program} {n:Nat} {ops:Array Oper} {K:(Nat->Value)->World->Prop} {rest:List Oper} {ρ:Nat->Value} {w:World}
variable {dst:Option Nat} {op:Op} {ty:TypeId} {pos:String} {aft:Array Edge} {Q:Value->World->Prop}
theorem bH.mono{o:Oper}{Q':Value->World->Prop}(h:bH P ρ o w Q)(hq:∀v w',Q v w'->Q' v w'):bH P ρ o w Q':=by
 unfold bH at*;generalize(execOp (ev ρ) o).run P w=r at*
 cases r with
 |halt x w'=>exact h
 |ok x w'=>
  cases x<;>first
   |exact h
   |exact⟨h.1,hq _ _ h.2⟩
   |exact h.mono λe r8 ⟨v,he,hv⟩=>⟨v,he,hq _ _ hv⟩
theorem bH.val{d:Option Nat}{v:Value}{w':World}(hr:(execOp (ev ρ) ⟨d,op,ty,pos,aft,acP⟩).run P w= .ok (.value v) w')(h:Q v w'):bH P ρ ⟨d,op,ty,pos,aft,acP⟩ w Q:=by
 unfold bH;rw[hr];exact⟨trivial,h⟩
theorem bH.unit{w':World}(hr:(execOp (ev ρ) ⟨acP,op,ty,pos,aft,acP⟩).run P w= .ok .skip w')(h:Q undef w'):bH P ρ ⟨acP,op,ty,pos,aft,acP⟩ w Q:=by
 unfold bH;rw[hr];exact⟨rfl,h⟩
theorem sJ(h:bH P ρ ⟨dst,op,ty,pos,aft,acP⟩ w Q)(hd:∀d,dst=some d->abI d n=acQ)
 (hk:∀v w',Q v w'->wpS P n ops K rest (rO ρ dst v) w'):wpS P n ops K (⟨dst,op,ty,pos,aft,acP⟩::rest) ρ w:=
 λQQ a hf DN=>wpList_plain rfl λK' hK=>by
  unfold Oper.wp;rw[hf.eval];unfold bH at h;generalize(execOp (ev ρ) ⟨dst,op,ty,pos,aft,acP⟩).run P w=r at*
  have oR:∀v,Fr n (a.put dst v) (rO ρ dst v):=λv=>by
   cases dst with
   |none=>exact hf
   |some d=>exact hf.put (hd d rfl) v
  cases r with
  |halt x w'=>exact h.elim
  |ok x w'=>
   cases x<;>first
    |exact h.elim
    |skip
   case value v=>exact hK _ _ (hk v w' h.2 QQ _ (oR v) DN)
   case skip=>exact hK _ _ (hk undef w' h.2 QQ _ (oR undef) DN)
   case enter f args=>
    refine h.mono λe r8 ⟨v,he,hv⟩=>?_
    subst he;exact hK _ _ (hk v r8 hv QQ _ (oR v) DN)
end
inductive FC where
 |int (k:IntKind)
 |bool
 |str
 |slice (e:TypeId)
 |struct (fs:List (TypeId×Nat))
 |array (n:Nat) (e:TypeId)
 |map (k v:TypeId)
 |ptr (e:TypeId)
 |other
def uW(P:Program)(t:TypeId):FC->Prop
 | .int k=>P.underlying t=some (.int k)
 | .bool=>P.underlying t=some .bool
 | .str=>P.underlying t=some .string
 | .slice e=>P.underlying t=some (.slice e)
 | .struct fs=>∃arr:Array Field,P.underlying t=some (.struct arr)/\arr.toList.map (λf=>(f.type,f.offset))=fs
 | .array n e=>P.underlying t=some (.array n e)
 | .map k v=>P.underlying t=some (.map k v)
 | .ptr e=>P.underlying t=some (.pointer e)
 | .other=>∃d,P.underlying t=some d/\gW d=acR
def wk(P:Program)(t:TypeId)(agg:Bool)(r:Row):Prop:=∃z,(P.info? t).bind (·.zero)=some z/\z=(bif agg then .agg r.dB.toArray else r.dB.headD undef)
def Ce(P:Program)(t:TypeId)(name:String)(f:FuncId)(pr:Bool):Prop:=
 ((P.info? t).bind λi=>i.methods.find? λm=>m.name==name).map (λm=>(m.path.toList.length,m.func))=some (0,some (f,pr))
structure aM(P:Program)where
 und:List (Nat×FC)
 row:List (Nat×Row)
 eqs:List (Nat×Row)
 zer:List (Nat×(Bool×Row))
 und_ok:∀t k,find und t=some k->uW P t k
 row_ok:∀t r,find row t=some r->TI P t r
 eqs_ok:∀t r,find eqs t=some r->∃K d,me P t r K/\d+K=10000/\P.eqGuardType P.depth t=acR/\(P.underlying t).any gW=acQ
 zer_ok:∀t agg r,find zer t=some (agg,r)->wk P t agg r
 kys:List TypeId
 kys_ok:∀t∈kys,∀(em:Bool)(a b:Value)(w:World),(Instr.checkKey em 10000 t (.agg #[a,b])).run P w= .ok () w
 mth:List (TypeId×(String×(FuncId×Bool)))
 mth_ok:∀p∈mth,Ce P p.1 p.2.1 p.2.2.1 p.2.2.2
def ir:FC->Bool
 | .struct _| .array _ _=>acQ
 |_=>acR
theorem uW.agg{P:Program}{t:TypeId}{k:FC}(h:uW P t k):∃d,P.underlying t=some d/\gW d=ir k:=by
 cases k<;>first
  |exact⟨_,h,rfl⟩
  |(obtain⟨arr,h,_⟩:=h;exact⟨_,h,rfl⟩)
  |exact h
theorem kY{α:Type}{Q:Nat->α->Prop}{l:List (Nat×α)}(h:∀p∈l,Q p.1 p.2):∀t a,find l t=some a->Q t a:=by
 intro t a
 induction l with
 |nil=>intro h';cases h'
 |cons p l ih=>
  obtain⟨m,b⟩:=p;rw[aA];split
  .rename_i e;intro h';obtain rfl:=aaT h';subst e;exact h (m,b) (by simp)
  .exact ih (λq hq=>h q (by simp[hq]))
def Ay:Value->Option aj
 | .int k n=>some (.val acR (.leaf (.int k) n))
 | .bool b=>some (.val acR (.leaf .bool b))
 | .string s=>some (.val acR (.leaf .str s))
 | .slice acP 0 0=>some (.val acR .nil)
 | .map acP=>some (.val acR (.leaf (.nul .map) ()))
 | .pointer acP=>some (.val acR (.leaf (.nul .ptr) ()))
 | .nilFunc=>some (.val acR (.leaf (.nul .func) ()))
 | .nilIface=>some .dead
 |_=>acP
def DO(ak:List (Nat×aj)):Operand->Option aj
 | .tmp t=>find ak t
 | .const v=>Ay v
 | .func f=>some (.fn f [])
 | .global g=>match find Gm g with
   |some d=>some (.at d.1 d.2)
   |none=>acP
theorem az.lC{H:an}{F:Nat->Prop}{w:World}{r:Row}{x:r.den}{v:Value}(h:bT F w r [v] x):az H F w acR (.leaf r x) v:=⟨[v],h,rfl,λ_=>rfl⟩
theorem DP{H:an}{F:Nat->Prop}{w:World}{v:Value}{d:aj}(h:Ay v=some d):ah H F w d v:=by
 unfold Ay at h
 split at h<;>first|cases h|skip
 .exact az.lC rfl
 .exact az.lC rfl
 .exact az.lC rfl
 .exact⟨_,rfl,rfl,λ_=>rfl⟩
 .exact az.lC rfl
 .exact az.lC rfl
 .exact az.lC rfl
 .trivial
theorem ql{H:an}{F:Nat->Prop}{w:World}{ρ:Nat->Value}{ak:List (Nat×aj)}(hg:oQ F w)(h:∀t d,find ak t=some d->ah H F w d (ρ t)):∀x d,DO ak x=some d->ah H F w d (ev ρ x):=by
 intro x d hx
 cases x with
 |tmp t=>exact h t d hx
 |const v=>exact DP hx
 |global g=>
  have I2:(match find Gm g with|some d=>some (aj.at d.1 d.2)|none=>acP)=some d:=hx;split at I2
  .rename_i q hq;obtain rfl:=aaT I2;obtain⟨h1,h2⟩:=hg g q hq;exact⟨g,0,rfl,h1,h2⟩
  .cases I2
 |func f=>obtain rfl:=aaT hx;exact⟨[],rfl,rfl⟩
theorem az.inv{H:an}{F:Nat->Prop}{w:World}{r:Row}{x:r.den}{v:Value}(h:az H F w acR (.leaf r x) v):bT F w r [v] x:=by
 obtain⟨cs,h1,_,h3⟩:=h;rw[h3 rfl]at h1;exact h1
theorem az.int{H:an}{F:Nat->Prop}{w:World}{k:IntKind}{x:Int}{v:Value}(h:az H F w acR (.leaf (.int k) x) v):v= .int k x:=by
 have:=h.inv;simpa[bT]using this
theorem az.bool{H:an}{F:Nat->Prop}{w:World}{x:Bool}{v:Value}(h:az H F w acR (.leaf .bool x) v):v= .bool x:=by
 have:=h.inv;simpa[bT]using this
theorem az.str{H:an}{F:Nat->Prop}{w:World}{x:ByteArray}{v:Value}(h:az H F w acR (.leaf .str x) v):v= .string x:=by
 have:=h.inv;simpa[bT]using this
theorem az.hU(H:an)(F:Nat->Prop)(w:World)(k:IntKind)(x:Int):az H F w acR (.leaf (.int k) x) (.int k x):=az.lC rfl
theorem az.dY(H:an)(F:Nat->Prop)(w:World)(x:Bool):az H F w acR (.leaf .bool x) (.bool x):=az.lC rfl
theorem az.mkStr(H:an)(F:Nat->Prop)(w:World)(x:ByteArray):az H F w acR (.leaf .str x) (.string x):=az.lC rfl
abbrev kG(k:IntKind)(x:Int):aj:= .val acR (.leaf (.int k) x)
abbrev cZ(x:Bool):aj:= .val acR (.leaf .bool x)
abbrev QX(x:ByteArray):aj:= .val acR (.leaf .str x)
def asInt:aj->Option (IntKind×Int)
 | .val acR (.leaf (.int k) x)=>some (k,x)
 |_=>acP
def asBool:aj->Option Bool
 | .val acR (.leaf .bool x)=>some x
 |_=>acP
def xR:aj->Option ByteArray
 | .val acR (.leaf .str x)=>some x
 |_=>acP
section
variable {P:Program} {ρ:Nat->Value} {w w':World} {H H':an} {F F':Nat->Prop} {U:Nat->Prop} {ob:Nat->Option (Nat×Th)} {n:Nat} {R:Type}
variable {dst:Option Nat} {op:Op} {ty:TypeId} {pos:String} {aft:Array Edge} {d:Nat}
theorem fG{D:aj}{k:IntKind}{x:Int}{v:Value}(h:asInt D=some (k,x))(hd:ah H F w D v):v= .int k x:=by
 unfold asInt at h
 split at h<;>cases h
 exact az.int hd
theorem lD{D:aj}{x:Bool}{v:Value}(h:asBool D=some x)(hd:ah H F w D v):v= .bool x:=by
 unfold asBool at h
 split at h<;>cases h
 exact az.bool hd
theorem sK{D:aj}{x:ByteArray}{v:Value}(h:xR D=some x)(hd:ah H F w D v):v= .string x:=by
 unfold xR at h
 split at h<;>cases h
 exact az.str hd
def bO(P:Program)(_U:Nat->Prop)(H:an)(F:Nat->Prop)(w:World)(ρ:Nat->Value)(ob:Nat->Option (Nat×Th))(n:Nat)(o:Oper)(e:c9):Prop:=
 bH P ρ o w (kg H F w ob n e)
theorem IZ.refl{g:Nat->Prop}(hF:∀b,F b->b<w.heap.size):IZ H F w H F w g:=⟨an.le.refl H,⟨rfl,⟨rfl,aaX _⟩,rfl,aaX _,λ_ _ _=>rfl⟩,λ_ h=>h,λ_ h=> .inl h,hF⟩
theorem Made.nil{g:Nat->Prop}:Made H' F' w w' g []:=⟨λ_ _ _ h=>(by cases h),λ_ _ _ _ _ _ _ _ _ h=>(by cases h)⟩
theorem jV.pure(hs:aq U H F w ob n){D:aj}{v:Value}(h:ah H F w D v):kg H F w ob n {dst:=D} v w:=
 ⟨H,F,IZ.refl hs.lt,λm hm=>⟨id,id⟩,h,Made.nil,λo h=>by cases h⟩
theorem bm(hs:aq U H F w ob n){D:aj}{v:Value}(hr:(execOp (ev ρ) ⟨some d,op,ty,pos,aft,acP⟩).run P w= .ok (.value v) w)(h:ah H F w D v):bO P U H F w ρ ob n ⟨some d,op,ty,pos,aft,acP⟩ {dst:=D}:=
 bH.val hr (jV.pure hs h)
theorem aF(hs:aq U H F w ob n){D:aj}{v:Value}(hr:Pure P ρ ⟨some d,op,ty,pos,aft,acP⟩ v)(h:ah H F w D v):bO P U H F w ρ ob n ⟨some d,op,ty,pos,aft,acP⟩ {dst:=D}:=
 bm hs (hr w) h
def au(o:BinOp)(k:IntKind)(a b:Int):Int:=
 match o with
 | .and=>k.wrap (abZ k.bits a&&& abZ k.bits b).toNat
 | .or=>k.wrap (abZ k.bits a|||abZ k.bits b).toNat
 | .xor=>k.wrap (abZ k.bits a ^^^ abZ k.bits b).toNat
 |_=>k.wrap (abZ k.bits a&&& ~~~abZ k.bits b).toNat
def Gr(k:IntKind)(a b:Int):Int:=k.wrap (a*2 ^ min b.toNat k.bits)
def cd(k:IntKind)(a b:Int):Int:=a.fdiv (2 ^ min b.toNat k.bits)
def rP(k:IntKind)(a b:Int):Option Int:=if b<0 then acP else some (Gr k a b)
def DQ(k:IntKind)(a b:Int):Option Int:=if b<0 then acP else some (cd k a b)
def arith:BinOp->IntKind->Int->Int->Option aj
 | .add,k,a,b=>some (kG k (k.wrap (a+b)))
 | .sub,k,a,b=>some (kG k (k.wrap (a-b)))
 | .mul,k,a,b=>some (kG k (k.wrap (a*b)))
 | .lss,_,a,b=>some (cZ (decide (a<b)))
 | .leq,_,a,b=>some (cZ (decide (a<=b)))
 | .gtr,_,a,b=>some (cZ (decide (b<a)))
 | .geq,_,a,b=>some (cZ (decide (b<=a)))
 | .eql,_,a,b=>some (cZ (decide (a=b)))
 | .neq,_,a,b=>some (cZ (!decide (a=b)))
 | .and,k,a,b=>some (kG k (au .and k a b))
 | .or,k,a,b=>some (kG k (au .or k a b))
 | .xor,k,a,b=>some (kG k (au .xor k a b))
 | .andNot,k,a,b=>some (kG k (au .andNot k a b))
 |_,_,_,_=>acP
theorem pure_and{k:IntKind}{a b:Int}{t u:TypeId}{x y:Operand}(hx:ev ρ x= .int k a)(hy:ev ρ y= .int k b):Pure P ρ ⟨some d, .binOp .and t x y u,ty,pos,aft,acP⟩ (.int k (au .and k a b)):=λw=>by simp[execOp,hx,hy,binOp,Op.intBits,eqGuard,au,go_sem]
theorem pure_or{k:IntKind}{a b:Int}{t u:TypeId}{x y:Operand}(hx:ev ρ x= .int k a)(hy:ev ρ y= .int k b):Pure P ρ ⟨some d, .binOp .or t x y u,ty,pos,aft,acP⟩ (.int k (au .or k a b)):=λw=>by simp[execOp,hx,hy,binOp,Op.intBits,eqGuard,au,go_sem]
theorem Gs{k:IntKind}{a b:Int}{t u:TypeId}{x y:Operand}(hx:ev ρ x= .int k a)(hy:ev ρ y= .int k b):Pure P ρ ⟨some d, .binOp .xor t x y u,ty,pos,aft,acP⟩ (.int k (au .xor k a b)):=λw=>by simp[execOp,hx,hy,binOp,Op.intBits,eqGuard,au,go_sem]
theorem xS{k:IntKind}{a b:Int}{t u:TypeId}{x y:Operand}(hx:ev ρ x= .int k a)(hy:ev ρ y= .int k b):Pure P ρ ⟨some d, .binOp .andNot t x y u,ty,pos,aft,acP⟩ (.int k (au .andNot k a b)):=λw=>by simp[execOp,hx,hy,binOp,Op.intBits,eqGuard,au,go_sem]
theorem xT{k k':IntKind}{a b:Int}{t u:TypeId}{x y:Operand}(hx:ev ρ x= .int k a)(hy:ev ρ y= .int k' b)(hb:¬b<0):Pure P ρ ⟨some d, .binOp .shl t x y u,ty,pos,aft,acP⟩ (.int k (Gr k a b)):=λw=>by simp[execOp,hx,hy,binOp,Op.shift,eqGuard,Gr,hb,go_sem]
theorem xU{k k':IntKind}{a b:Int}{t u:TypeId}{x y:Operand}(hx:ev ρ x= .int k a)(hy:ev ρ y= .int k' b)(hb:¬b<0):Pure P ρ ⟨some d, .binOp .shr t x y u,ty,pos,aft,acP⟩ (.int k (cd k a b)):=λw=>by simp[execOp,hx,hy,binOp,Op.shift,eqGuard,cd,hb,go_sem]
theorem Gt{o:BinOp}{k:IntKind}{a b:Int}{D:aj}{t u:TypeId}{x y:Operand}(h:arith o k a b=some D)(hs:aq U H F w ob n)(hx:ev ρ x= .int k a)(hy:ev ρ y= .int k b):
 bO P U H F w ρ ob n ⟨some d, .binOp o t x y u,ty,pos,aft,acP⟩ {dst:=D}:=by
 unfold arith at h
 split at h<;>cases h
 .exact aF hs (FR hx hy) (az.hU ..)
 .exact aF hs (FT hx hy) (az.hU ..)
 .exact aF hs (FU hx hy) (az.hU ..)
 .exact aF hs (FX hx hy) (az.dY ..)
 .exact aF hs (FY hx hy) (az.dY ..)
 .exact aF hs (FZ hx hy) (az.dY ..)
 .exact aF hs (F5 hx hy) (az.dY ..)
 .exact aF hs (F6 hx hy) (az.dY ..)
 .exact aF hs (F7 hx hy) (az.dY ..)
 .exact aF hs (pure_and hx hy) (az.hU ..)
 .exact aF hs (pure_or hx hy) (az.hU ..)
 .exact aF hs (Gs hx hy) (az.hU ..)
 .exact aF hs (xS hx hy) (az.hU ..)
def NN(a b:Int):Option Int:=if b=0 then acP else some (ab7 a b)
def NO(a b:Int):Option Int:=if b=0 then acP else some (acu a b)
def NP:Operand->Bool
 | .const _=>acQ
 |_=>acR
theorem Gu{k:IntKind}{a b:Int}{t u:TypeId}{x y:Operand}(hb:b≠0)(hs:aq U H F w ob n)(hx:ev ρ x= .int k a)(hy:ev ρ y= .int k b):
 bO P U H F w ρ ob n ⟨some d, .binOp .quo t x y u,ty,pos,aft,acP⟩ {dst:=kG k (k.wrap (ab7 a b))}:=
 aF hs (FV hx hy hb) (az.hU ..)
theorem Gv{k:IntKind}{a b:Int}{t u:TypeId}{x y:Operand}(hb:b≠0)(hs:aq U H F w ob n)(hx:ev ρ x= .int k a)(hy:ev ρ y= .int k b):
 bO P U H F w ρ ob n ⟨some d, .binOp .rem t x y u,ty,pos,aft,acP⟩ {dst:=kG k (acu a b)}:=
 aF hs (FW hx hy hb) (az.hU ..)
end
end
end Go.Proofs.YtbladfbbhijpmaaGreat
