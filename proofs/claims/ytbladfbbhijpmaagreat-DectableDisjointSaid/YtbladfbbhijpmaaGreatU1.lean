/- Joined texts: Base Mem Own More Lit Open Cut Glob Deep Sym Eff. -/
import Derived.WalkKit
import Derived.WalkSpells
import Derived.WalkLawsBesides
import Derived.LoopN
import Derived.Deep.Draws
import Derived.Deep.Quiet
import Derived.Maps.AppendAt
import Derived.OwnWalk
import Derived.KernelRfl
import Derived.MapKept
import Derived.Maps.RangeRun
import Derived.Laws.StructEq
import Derived.Test.YtbladfbbhijpmaaGreatRows
import Derived.ProofKit
import Derived.OpenShut
import Derived.JoinedCond
import Derived.Deep.Slices
import Derived.Laws.Slices
open _root_.Bool renaming false->Yy,true->Yx,and_eq_true->Xz
open _root_.Option renaming none->Yw,none_or->X3
open _root_.Array renaming getD_eq_getD_getElem?->Xn,getElem?_eq_getElem->WY,getElem?_eq_some_iff->Xj,toArray_toList->Xq
open _root_.Classical renaming propDecidable->Xr
open _root_.List renaming getElem?_eq_getElem->WJ,getElem?_eq_some_iff->W2,mem_append->WQ,append_assoc->W7,drop_append_of_le_length->XC,drop_of_length_le->XK,getElem?_drop->WV,getElem?_take->W5,getElem_of_mem->XV,length_append->WZ,length_take->XE,range->WM,replicate->Xb,foldl_cons->XO,getElem?_append->Yo,length_cons->WX,take_append_drop->XW,map_append->XP,take_length->W3,cons_append->Ye
open _root_.Nat renaming beq->WI,blt->Xt,eq_of_beq_eq_true->Xw,le_refl->WH,le_trans->Xa,lt_of_lt_of_le->Xg,add_mul->Xu,add_zero->XL,mul_le_mul_right->W1,zero_add->Xl,min_eq_left->XN
open _root_.Option.some renaming inj->WD,injEq->WL
open _root_.Go.Region renaming wanted->X7
open _root_.Go.Value renaming oneCell'->X1,ownBlock->Xh
open _root_.Go.Addr.mk renaming injEq->X8
open _root_.Go.Builtin renaming append_->Yg
open _root_.ByteArray renaming empty->Yn
open _root_.Go.Sem renaming run->Yu
open _root_.Go.Value.slice renaming injEq->X2
open _root_.Go.Instr renaming fill->Yl
open _root_.List.cons renaming injEq->XT
open _root_.BitVec renaming ofInt->XI
open _root_.Int renaming tdiv->XR,tmod->Yd
namespace Go.Proofs.YtbladfbbhijpmaaGreat
open Go Go.RowKit
set_option maxRecDepth 100000
set_option linter.unusedSimpArgs false
set_option linter.unusedVariables false
set_option linter.defProp false
section
theorem YA.{u}:type_of% @_root_.if_neg.{u}:= @_root_.if_neg.{u}
theorem YB.{u}:type_of% @_root_.if_pos.{u}:= @_root_.if_pos.{u}
theorem YC:type_of% @_root_.of_decide_eq_true:= @_root_.of_decide_eq_true
theorem YD:type_of% @_root_.decide_eq_true:= @_root_.decide_eq_true
theorem YE:type_of% @_root_.decide_eq_false:= @_root_.decide_eq_false
theorem YF.{u}:type_of% @_root_.implies_true.{u}:= @_root_.implies_true.{u}
theorem YG.{u}:type_of% @_root_.forall_const.{u}:= @_root_.forall_const.{u}
theorem YH.{u,v}:type_of% @_root_.congrArg.{u,v}:= @_root_.congrArg.{u,v}
theorem YI:type_of% @_root_.decide_eq_true_eq:= @_root_.decide_eq_true_eq
theorem YJ:type_of% @_root_.iff_of_false:= @_root_.iff_of_false
open Go Go.RowKit
inductive CQ where
 |map
 |ptr
 |func
def CQ.val:CQ->Value
 | .map=> .map Yw
 | .ptr=> .pointer Yw
 | .func=> .nilFunc
theorem CQ.one(k:CQ):k.val.oneCell'=Yx:=by cases k<;>simp[CQ.val,X1]
inductive Row where
 |int (k:IntKind)
 |bool
 |str
 |slice (e:Row)
 |gP
 |nul (k:CQ)
 |map (K:Row) (agg:Bool) (V:Row)
 |pair (a b:Row)
@[reducible] def Row.den:Row->Type
  | .int _=>Int
  | .bool=>Bool
  | .str=>ByteArray
  | .slice e=>List e.den
  | .gP=>Value
  | .nul _=>Unit
  | .map K _ V=>List (K.den×V.den)
  | .pair a b=>a.den×b.den
noncomputable instance Row.decEq:(r:Row)->DecidableEq r.den
 | .int _=>inferInstanceAs (DecidableEq Int)
 | .bool=>inferInstanceAs (DecidableEq Bool)
 | .str=>inferInstanceAs (DecidableEq ByteArray)
 | .slice e=>have:=Row.decEq e;inferInstanceAs (DecidableEq (List e.den))
 | .gP=>λa b=>Xr (a=b)
 | .nul _=>inferInstanceAs (DecidableEq Unit)
 | .map K _ V=>have:=Row.decEq K;have:=Row.decEq V;inferInstanceAs (DecidableEq (List (K.den×V.den)))
 | .pair a b=>have:=Row.decEq a;have:=Row.decEq b;inferInstanceAs (DecidableEq (a.den×b.den))
@[simp] def Row.size:Row->Nat
  | .pair a b=>a.size+b.size
  |_=>1
theorem Row.size_pos:(r:Row)->0<r.size
 | .pair a b=>by have:=Row.size_pos a;simp;omega
 | .int _| .bool| .str| .slice _| .gP| .nul _| .map .. =>by simp
def fH:(K:Row)->K.den->Option Value
 | .int k,n=>some (.int k n)
 | .bool,b=>some (.bool b)
 | .str,s=>some (.string s)
 | .pair (.int j) (.int k),x=>some (.agg #[.int j x.1, .int k x.2])
 |_,_=>Yw
def bD(F:Nat->Prop)(w:World):(r:Row)->List Value->r.den->Prop
 | .int k,cs,n=>cs=[.int k n]
 | .bool,cs,b=>cs=[.bool b]
 | .str,cs,s=>cs=[.string s]
 | .slice e,cs,l=>∃A cap,cs=[.slice A l.length cap]/\l.length<=cap/\cap<=maxLen/\
     ∀i(h:i<l.length),∃b off es,A=some ⟨b,off,Yw⟩/\F b/\es.length=e.size/\
      (∀j u,es[j]? =some u->w.cell? ⟨b,off+i*e.size+j,Yw⟩=some u)/\bD F w e es l[i]
 | .gP,cs,v=>cs=[v]/\∃A m c,v= .slice A m c
 | .nul k,cs,_=>cs=[k.val]
 | .map K agg V,cs,l=>∃v,cs=[v]/\((v= .map Yw/\l=[])\/∃b es clock,v= .map (some b)/\F b/\w.heap[b]? =some (.map es clock)/\MapKept.Stamped es clock/\es.size=l.length/\
     ∀i(h:i<l.length),∃(e:MapEntry)(cs:List Value),es[i]? =some e/\fH K l[i].1=some e.key/\bD F w V cs l[i].2/\e.val=(bif agg then .agg cs.toArray else cs.headD undef)/\(agg=Yy->cs=[e.val]))
 | .pair a b,cs,d=>∃c1 c2,cs=c1++c2/\bD F w a c1 d.1/\bD F w b c2 d.2
theorem bD.length{F:Nat->Prop}{w:World}:{r:Row}->{cs:List Value}->{d:r.den}->bD F w r cs d->cs.length=r.size
 | .int _,_,_,h=>by rw[show _=_ from h];rfl
 | .bool,_,_,h=>by rw[show _=_ from h];rfl
 | .str,_,_,h=>by rw[show _=_ from h];rfl
 | .slice _,_,_,h=>by obtain⟨A,cap,h,_⟩:=h;rw[h];rfl
 | .gP,_,_,h=>by rw[h.1];rfl
 | .nul _,_,_,h=>by rw[show _=_ from h];rfl
 | .map ..,_,_,h=>by obtain⟨v,rfl,_⟩:=h;rfl
 | .pair a b,_,_,h=>by
   obtain⟨c1,c2,rfl,h1,h2⟩:=h;simp[h1.length,h2.length]
theorem bD.fj{F:Nat->Prop}{w:World}:{r:Row}->{cs:List Value}->{d:r.den}->bD F w r cs d->∀u∈cs,u.oneCell'=Yx
 | .int _,_,_,h=>by rw[show _=_ from h];simp[X1]
 | .bool,_,_,h=>by rw[show _=_ from h];simp[X1]
 | .str,_,_,h=>by rw[show _=_ from h];simp[X1]
 | .slice _,_,_,h=>by obtain⟨A,cap,rfl,_⟩:=h;simp[X1]
 | .gP,_,_,h=>by obtain⟨rfl,A,m,c,rfl⟩:=h;simp[X1]
 | .nul k,_,_,h=>by rw[show _=_ from h];simp[k.one]
 | .map ..,_,_,h=>by
   obtain⟨v,rfl,h⟩:=h
   rcases h with⟨rfl,_⟩|⟨b,es,clock,rfl,_⟩<;>simp[X1]
 | .pair a b,_,_,h=>by
   obtain⟨c1,c2,rfl,h1,h2⟩:=h;intro u hu
   rcases WQ.1 hu with h'|h'
   .exact h1.fj u h'
   .exact h2.fj u h'
def Step(F:Nat->Prop)(w:World)(F':Nat->Prop)(w':World):Prop:=∀b,F b->F' b/\w'.heap[b]? =w.heap[b]?
theorem bD.step{F F':Nat->Prop}{w w':World}(ho:Step F w F' w'):{r:Row}->{cs:List Value}->{d:r.den}->bD F w r cs d->bD F' w' r cs d
 | .int _,_,_,h=>h
 | .bool,_,_,h=>h
 | .str,_,_,h=>h
 | .slice e,_,l,h=>by
   obtain⟨A,cap,hc,h1,h2,h3⟩:=h;refine⟨A,cap,hc,h1,h2,λi hi=>?_⟩;obtain⟨b,off,es,hA,hb,pD,nr,hr⟩:=h3 i hi;exact⟨b,off,es,hA,(ho b hb).1,pD,λj u hu=>(World.cell?_of_block (ho b hb).2).trans (nr j u hu),hr.step ho⟩
 | .gP,_,_,h=>h
 | .nul _,_,_,h=>h
 | .map K agg V,_,l,h=>by
   obtain⟨v,hv,h⟩:=h;refine⟨v,hv,h.imp id λ⟨b,es,clock,h1,h2,h3,h4,h5,h6⟩=>⟨b,es,clock,h1,(ho b h2).1,(ho b h2).2.trans h3,h4,h5,λi hi=>?_⟩⟩;obtain⟨e,cs,g1,g2,g3,g4⟩:=h6 i hi;exact⟨e,cs,g1,g2,g3.step ho,g4⟩
 | .pair a b,_,_,h=>by
   obtain⟨c1,c2,hc,h1,h2⟩:=h;exact⟨c1,c2,hc,h1.step ho,h2.step ho⟩
def At(F:Nat->Prop)(w:World)(r:Row)(b off:Nat)(x:r.den):Prop:=
 ∃es,es.length=r.size/\(∀j u,es[j]? =some u->w.cell? ⟨b,off+j,Yw⟩=some u)/\bD F w r es x
theorem At.fst{F:Nat->Prop}{w:World}{r s:Row}{b off:Nat}{x:(Row.pair r s).den}(h:At F w (.pair r s) b off x):At F w r b off x.1:=by
 obtain⟨es,hl,hc,c1,c2,rfl,h1,h2⟩:=h
 exact⟨c1,h1.length,λj u hu=>hc j u (by
  rw[List.getElem?_append_left]
  .exact hu
  .exact(W2.1 hu).1),h1⟩
theorem At.snd{F:Nat->Prop}{w:World}{r s:Row}{b off:Nat}{x:(Row.pair r s).den}(h:At F w (.pair r s) b off x)(k:Nat)(hk:k=r.size):At F w s b (off+k) x.2:=by
 obtain⟨es,hl,hc,c1,c2,rfl,h1,h2⟩:=h;subst hk
 exact⟨c2,h2.length,λj u hu=>by
  have:=hc (r.size+j) u (by
   rw[List.getElem?_append_right (by rw[h1.length];omega),h1.length];rw[show r.size+j-r.size=j from by omega]
   exact hu)
  rw[Nat.add_assoc]
  exact this,h2⟩
theorem bD.nil(F:Nat->Prop)(w:World)(e:Row):bD F w (.slice e) [.slice Yw 0 0] []:=⟨Yw,0,rfl,WH _,by simp[maxLen],λi hi=>absurd hi (by simp)⟩
theorem bD.xI{F:Nat->Prop}{w:World}{e:Row}{v:Value}{l:List e.den}(h:bD F w (.slice e) [v] l):
 ∃A cap,v= .slice A l.length cap/\l.length<=cap/\cap<=9223372036854775807:=by
 obtain⟨A,cap,h1,h2,h3,_⟩:=h;exact⟨A,cap,by simpa using h1,h2,h3⟩
structure St(w0:World)(F0:Nat->Prop)(w:World)(F:Nat->Prop):Prop where
 below:Below w0.heap.size w0 w
 le:∀b,F0 b->F b
 new:∀b,F b->F0 b\/w0.heap.size<=b
 lt:∀b,F b->b<w.heap.size
theorem St.refl{w:World}{F:Nat->Prop}(h:∀b,F b->b<w.heap.size):St w F w F:=⟨Below.refl _ _,λ_ h=>h,λ_ h=> .inl h,h⟩
theorem St.trans{w0 w1 w2:World}{F0 F1 F2:Nat->Prop}(h:St w0 F0 w1 F1)(k:St w1 F1 w2 F2):St w0 F0 w2 F2:=
 ⟨h.below.trans (k.below.mono h.below.size),λb hb=>k.le b (h.le b hb),λb hb=>by
   rcases k.new b hb with h1|h1
   .exact h.new b h1
   .exact .inr (Xa h.below.size h1),k.lt⟩
theorem St.step{w0 w:World}{F0 F:Nat->Prop}(h:St w0 F0 w F)(h0:∀b,F0 b->b<w0.heap.size):Step F0 w0 F w:=λb hb=>⟨h.le b hb,h.below.block b (h0 b hb)⟩
theorem St.drew{w0 w:World}{F0 F:Nat->Prop}(h:St w0 F0 w F):St w0 F0 w.drew F:=⟨h.below.drew,h.le,h.new,h.lt⟩
theorem St.alloc{w0 w:World}{F0 F:Nat->Prop}(h:St w0 F0 w F)(o:Obj):St w0 F0 (w.alloc o) F:=
 ⟨h.below.alloc h.below.size o,h.le,h.new,λb hb=>by have:=h.lt b hb;simp;omega⟩
theorem St.freeze{w0 w:World}{F0 F:Nat->Prop}(h:St w0 F0 w F)(G:Nat->Prop)(h1:∀b,G b->w0.heap.size<=b/\b<w.heap.size):St w0 F0 w (λb=>F b\/G b):=
 ⟨h.below,λb hb=> .inl (h.le b hb),λb hb=>by
   rcases hb with hb|hb
   .exact h.new b hb
   .exact .inr (h1 b hb).1,λb hb=>by
   rcases hb with hb|hb
   .exact h.lt b hb
   .exact(h1 b hb).2⟩
theorem St.back{w0 w1 w2:World}{F0 F1 F2 F3:Nat->Prop}(h:St w0 F0 w1 F1)(k:St w1 F2 w2 F3):St w0 F0 w2 F1:=
 ⟨h.below.trans (k.below.mono h.below.size),h.le,h.new,λb hb=>Xg (h.lt b hb) k.below.size⟩
theorem Step.refl(F:Nat->Prop)(w:World):Step F w F w:=λ_ h=>⟨h,rfl⟩
theorem Step.trans{F F1 F2:Nat->Prop}{w w1 w2:World}(h:Step F w F1 w1)(k:Step F1 w1 F2 w2):Step F w F2 w2:=λb hb=>⟨(k b (h b hb).1).1,(k b (h b hb).1).2.trans (h b hb).2⟩
theorem Step.drew(F:Nat->Prop)(w:World):Step F w F w.drew:=λ_ h=>⟨h,rfl⟩
theorem Step.alloc{F:Nat->Prop}{w:World}(h:∀b,F b->b<w.heap.size)(o:Obj):Step F w F (w.alloc o):=λb hb=>⟨hb,Below.heap_alloc w o b (h b hb)⟩
theorem Step.freeze(F:Nat->Prop)(w:World)(G:Nat->Prop):Step F w (λb=>F b\/G b) w:=λ_ h=>⟨.inl h,rfl⟩
structure Fr(n:Nat)(a:Act)(ρ:Nat->Value):Prop where
 size:a.tmps.size=n
 defers:a.defers=[]
 get:∀t,a.tmps.getD t undef=ρ t
def xx(ρ:Nat->Value)(d:Nat)(v:Value):Nat->Value:=λt=>bif WI t d then v else ρ t
def ev(ρ:Nat->Value):Operand->Value
 | .tmp t=>ρ t
 | .const v=>v
 | .global g=> .pointer (some ⟨g,0,Yw⟩)
 | .func f=> .func (.func f) #[] #[]
theorem Fr.eval{n:Nat}{a:Act}{ρ:Nat->Value}(h:Fr n a ρ):a.eval=ev ρ:=by
 funext x
 cases x with
 |tmp t=>exact h.get t
 |const v=>rfl
 |global g=>rfl
 |func f=>rfl
theorem Fr.put{n:Nat}{a:Act}{ρ:Nat->Value}(h:Fr n a ρ){d:Nat}(hd:Xt d n=Yx)(v:Value):Fr n (a.put (some d) v) (xx ρ d v):=by
 have av:d<n:=by simpa[Nat.blt_eq]using hd
 refine⟨by simpa[Act.put]using h.size,by simpa[Act.put]using h.defers,λt=>?_⟩;have hs:=h.size;have hg:=h.get t;simp only[Act.put,Xn,Array.getElem?_setIfInBounds]at hg⊢;unfold xx;by_cases ht:t=d
 .subst ht;simp[hs,av]
 .have bY:¬d=t:=λe=>ht e.symm
  have hb:WI t d=Yy:=by
   cases tI:WI t d with
   |false=>rfl
   |true=>exact absurd (Xw tI) ht
  simp[bY,hb,hg]
def wpS(P:Program)(n:Nat)(ops:Array Oper)(K:(Nat->Value)->World->Prop)(l:List Oper)(ρ:Nat->Value)(w:World):Prop:=
 ∀(Q:Exit->Act->World->Prop)(a:Act),Fr n a ρ->(∀a' bR w',Fr n a' bR->K bR w'->Q .normal a' w')->wpList P ops Q l a w
section
variable {P:Program} {n:Nat} {ops:Array Oper} {K:(Nat->Value)->World->Prop} {rest:List Oper} {ρ:Nat->Value} {w:World}
theorem Gt(h:K ρ w):wpS P n ops K [] ρ w:=λ_ _ hf hk=>hk _ _ _ hf h
def Pure(P:Program)(ρ:Nat->Value)(o:Oper)(v:Value):Prop:=∀w,(execOp (ev ρ) o).run P w= .ok (.value v) w
theorem jW{a:Act}(hf:Fr n a ρ){j d:Nat}{b:Bool}(hj:(ops[j]?).bind (·.dst)=some d)(hd:Xt d n=Yx)(hb:ρ d= .bool b):yielded ops a.tmps j=some b:=by
 have av:d<n:=by simpa[Nat.blt_eq]using hd
 have hg:=hf.get d;have hs:=hf.size;rw[hb]at hg
 have:a.tmps[d]? =some (.bool b):=by
  rw[Xn]at hg;rw[WY (by omega)]at hg⊢;simpa using hg
 unfold yielded;rw[hj];simp[this]
theorem IL{dst:Option Nat}{op:Op}{ty:TypeId}{pos:String}{aft:Array Edge}{j:Nat}{b:Bool}(d:Nat)(hj:(ops[j]?).bind (·.dst)=some d)(hd:Xt d n=Yx)(hb:ρ d= .bool b)
 (h:wpS P n ops K (⟨dst,op,ty,pos,aft,Yw⟩::rest) ρ w):wpS P n ops K (⟨dst,op,ty,pos,aft,some (j,b)⟩::rest) ρ w:=
 λQ a hf hk=>by
  have:=h Q a hf hk;unfold wpList at this⊢;rw[YB (by simp[X7])]at this;rw[YB (by simp[X7,jW hf hj hd hb])];exact this
theorem Gu{d':Nat}{op:Op}{ty:TypeId}{pos:String}{aft:Array Edge}{j:Nat}{b b':Bool}(d:Nat)(hj:(ops[j]?).bind (·.dst)=some d)(hd:Xt d n=Yx)(hb:ρ d= .bool b')(bY:b'≠b)(sb:Xt d' n=Yx)
 (h:wpS P n ops K rest (xx ρ d' undef) w):wpS P n ops K (⟨some d',op,ty,pos,aft,some (j,b)⟩::rest) ρ w:=
 λQ a hf hk=>by
  have:=h Q _ (hf.put sb undef) hk;unfold wpList;rw[YA (by simp[X7,jW hf hj hd hb,bY])];exact this
theorem tJ{op:Op}{ty:TypeId}{pos:String}{aft:Array Edge}{j:Nat}{b b':Bool}(d:Nat)(hj:(ops[j]?).bind (·.dst)=some d)(hd:Xt d n=Yx)(hb:ρ d= .bool b')(bY:b'≠b)
 (h:wpS P n ops K rest ρ w):wpS P n ops K (⟨Yw,op,ty,pos,aft,some (j,b)⟩::rest) ρ w:=
 λQ a hf hk=>by
  have:=h Q _ hf hk;unfold wpList;rw[YA (by simp[X7,jW hf hj hd hb,bY])];exact this
theorem jk{a:Act}(hf:Fr n a ρ){j d:Nat}(hj:(ops[j]?).bind (·.dst)=some d)(hd:Xt d n=Yx)(hb:ρ d=undef):yielded ops a.tmps j=Yw:=by
 have av:d<n:=by simpa[Nat.blt_eq]using hd
 have hg:=hf.get d;have hs:=hf.size;rw[hb]at hg
 have:a.tmps[d]? =some undef:=by
  rw[Xn]at hg;rw[WY (by omega)]at hg⊢;simpa using hg
 unfold yielded;rw[hj];simp[this,undef]
theorem C2{d':Nat}{op:Op}{ty:TypeId}{pos:String}{aft:Array Edge}{j:Nat}{b:Bool}(d:Nat)(hj:(ops[j]?).bind (·.dst)=some d)(hd:Xt d n=Yx)(hb:ρ d=undef)(sb:Xt d' n=Yx)
 (h:wpS P n ops K rest (xx ρ d' undef) w):wpS P n ops K (⟨some d',op,ty,pos,aft,some (j,b)⟩::rest) ρ w:=
 λQ a hf hk=>by
  have:=h Q _ (hf.put sb undef) hk;unfold wpList;rw[YA (by simp[X7,jk hf hj hd hb])];exact this
theorem rK{op:Op}{ty:TypeId}{pos:String}{aft:Array Edge}{j:Nat}{b:Bool}(d:Nat)(hj:(ops[j]?).bind (·.dst)=some d)(hd:Xt d n=Yx)(hb:ρ d=undef)
 (h:wpS P n ops K rest ρ w):wpS P n ops K (⟨Yw,op,ty,pos,aft,some (j,b)⟩::rest) ρ w:=
 λQ a hf hk=>by
  have:=h Q _ hf hk;unfold wpList;rw[YA (by simp[X7,jk hf hj hd hb])];exact this
end
def pS(P:Program)(n:Nat)(c:Code)(Q:Exit->(Nat->Value)->World->Prop)(ρ:Nat->Value)(w:World):Prop:=
 ∀a,Fr n a ρ->c.wp P (λe a' w'=>∃bR,Fr n a' bR/\Q e bR w') a w
def Sq(K:(Nat->Value)->World->Prop)(Q:Exit->(Nat->Value)->World->Prop):Exit->(Nat->Value)->World->Prop
 | .normal,ρ,w=>K ρ w
 |e,ρ,w=>Q e ρ w
def Ki(id:Nat)(Q:Exit->(Nat->Value)->World->Prop):Exit->(Nat->Value)->World->Prop
 | .exit AM,ρ,w=>bif WI AM id then Q .normal ρ w else Q (.exit AM) ρ w
 |e,ρ,w=>Q e ρ w
section
variable {P:Program} {n:Nat} {Q:Exit->(Nat->Value)->World->Prop} {ρ:Nat->Value} {w:World}
theorem xJ{id:Nat}{l:List Oper}(h:wpS P n l.toArray (λρ w=>Q .normal ρ w) l ρ w):pS P n (.region id l.toArray Yy) Q ρ w:=
 λa hf=>wp_region_lit (h _ a hf λ_ _ _ ml hk=>⟨_,ml,hk⟩)
theorem tK{a b:Code}(h:pS P n a (Sq (λρ w=>pS P n b Q ρ w) Q) ρ w):pS P n (.seq a b) Q ρ w:=
 λact hf=>wp_seq (wp_mono (h act hf) λe a' w' ⟨bR,ml,hh⟩=>by
  cases e with
  |normal=>exact hh a' ml
  |_=>exact⟨bR,ml,hh⟩)
theorem C3(h:Q .normal ρ w):pS P n .skip Q ρ w:=λ_ hf=>wp_skip ⟨_,hf,h⟩
theorem C4{id:Nat}(h:Q (.exit id) ρ w):pS P n (.exit id) Q ρ w:=λ_ hf=>wp_exit ⟨_,hf,h⟩
theorem Gv(h:Q .ret ρ w):pS P n .ret Q ρ w:=λ_ hf=>wp_ret ⟨_,hf,h⟩
theorem oa{id:Nat}{c:Code}(h:pS P n c (Ki id Q) ρ w):pS P n (.block id c) Q ρ w:=
 λa hf=>wp_block (wp_mono (h a hf) λe a' w' ⟨bR,ml,hh⟩=>by
  cases e with
  |exit AM=>
   unfold Exit.inBlock;by_cases he:AM=id
   .subst he;simp only[Ki,show WI AM AM=Yx from Nat.beq_refl _,cond_true]at hh;simpa using⟨bR,ml,hh⟩
   .have hb:WI AM id=Yy:=by
     cases tI:WI AM id with
     |false=>rfl
     |true=>exact absurd (Xw tI) he
    simp only[Ki,hb,cond_false]at hh;simpa[he]using⟨bR,ml,hh⟩
  |_=>exact⟨bR,ml,hh⟩)
theorem vl{c:Operand}{x y:Code}(b:Bool)(hc:ev ρ c= .bool b)(h:pS P n (bif b then x else y) Q ρ w):pS P n (.cond c x y) Q ρ w:=
 λa hf=>wp_cond (t:=b) (by rw[hf.eval];exact hc) (by
  have:=h a hf
  cases b<;>exact this)
theorem C5{c:Operand}{x y:Code}(hc:ev ρ c= .bool Yx)(h:pS P n x Q ρ w):pS P n (.cond c x y) Q ρ w:=vl Yx hc h
theorem AN{c:Operand}{x y:Code}(hc:ev ρ c= .bool Yy)(h:pS P n y Q ρ w):pS P n (.cond c x y) Q ρ w:=vl Yy hc h
def Loop{S X:Type}(body:S->Option (S⊕X)):Nat->S->Option X
 |0,_=>Yw
 |k+1,s=>match body s with
  |none=>Yw
  |some (.inl s')=>Loop body k s'
  |some (.inr x)=>some x
def HZ{S X:Type}(I:S->(Nat->Value)->World->Prop)(Q:Exit->(Nat->Value)->World->Prop)(x:X):S⊕X->Exit->(Nat->Value)->World->Prop
 | .inl s',e,ρ,w=>e= .normal/\I s' ρ w
 | .inr x',e,ρ,w=>e≠ .normal/\(x'=x->Q e ρ w)
theorem C6{S X:Type}{body:S->Option (S⊕X)}{c:Code}(I:S->(Nat->Value)->World->Prop){x:X}{N:Nat}{s:S}(hm:Loop body N s=some x)(h0:I s ρ w)
 (hb:∀s ρ w y,I s ρ w->body s=some y->pS P n c (HZ I Q x y) ρ w):pS P n (.loop c) Q ρ w:=by
 intro a hf;refine wp_loop_rounds N ?_
 induction N generalizing s ρ w a with
 |zero=>cases hm
 |succ k ih=>
  rw[rounds_succ];unfold Loop at hm
  cases hy:body s with
  |none=>simp[hy]at hm
  |some y=>
   refine wp_mono (hb s ρ w y h0 hy a hf) λe a' w' ⟨bR,ml,hh⟩=>?_
   cases y with
   |inl s'=>
    obtain⟨rfl,hI⟩:=hh;rw[hy]at hm;exact ih hm hI a' ml
   |inr x'=>
    rw[hy]at hm;obtain⟨bY,hq⟩:=hh;have:=hq (WD hm)
    cases e with
    |normal=>exact absurd rfl bY
    |_=>exact⟨bR,ml,this⟩
def KH(P:Program)(fn:Func)(n:Nat)(R:Value->World->Prop):Exit->(Nat->Value)->World->Prop
 | .normal,ρ,w| .ret,ρ,w=>∀a,Fr n a ρ->∃v,(results fn a.tmps).run P w= .ok v w/\R v w
 |_,_,_=>False
theorem tL{f:FuncId}{fn:Func}{c:Code}{args:List Value}{R:Value->World->Prop}(hf:P.funcs[f]? =some fn)(hb:fn.body=some c)(hn:args.length<=fn.ntmps)
 (h:∀ρ,(∀t v,args[t]? =some v->ρ t=v)->pS P fn.ntmps c (KH P fn fn.ntmps R) ρ w):
 Calls P f args.toArray w λe w'=>∃v,e= .returned v/\R v w':=by
 refine calls_of_wp hf hb ?_
 have ir:(args.toArray++Array.replicate (fn.ntmps-args.toArray.size) undef).size=fn.ntmps:=by simp;omega
 refine wp_mono (h (λt=>(args.toArray++Array.replicate (fn.ntmps-args.toArray.size) undef).getD t undef) ?_ _ ⟨ir,rfl,λt=>rfl⟩) λe a' w' ⟨bR,ml,hh⟩=>?_
 .intro t v hv;have av:t<args.length:=(W2.1 hv).1
  have cM:args[t]=v:=by rw[WJ av]at hv;exact WD hv
  simp[Xn,Array.getElem?_append,av,cM]
 .cases e with
  |normal=>exact⟨ml.defers,(hh a' ml).imp λv hv=>⟨hv.1,v,rfl,hv.2⟩⟩
  |ret=>exact⟨ml.defers,(hh a' ml).imp λv hv=>⟨hv.1,v,rfl,hv.2⟩⟩
  |_=>exact hh.elim
end
end
end Go.Proofs.YtbladfbbhijpmaaGreat
section
open _root_.Bool renaming false->Yy,true->Yx
open _root_.Option renaming none->Yw
open _root_.List renaming append_assoc->W7,drop_append_of_le_length->XC,drop_of_length_le->XK,getElem?_drop->WV,getElem?_eq_some_iff->W2,getElem?_take->W5,take_length->W3
open _root_.Nat renaming zero_add->Xl
open _root_.Go.Sem renaming run_bind->Xd
namespace Go.Proofs.YtbladfbbhijpmaaGreat
open Go Go.RowKit
theorem lJ{α:Type}[BEq α][LawfulBEq α][DecidableEq α](a b:α):(a==b)=decide (a=b):=by
 by_cases h:a=b
 .subst h;simp
 .simp[h]
theorem run_equal_bool{P:Program}{t:TypeId}(ht:P.underlying t=some .bool)(p q:Bool)(w:World):(Op.equal t (.bool p) (.bool q)).run P w= .ok (p==q) w:=by
 have h:∀d:Nat,(Op.equalIn (d+1) t (.bool p) (.bool q)).run P w= .ok (p==q) w:=λd=>by
  simp[Op.equalIn,run_underlying ht]
 exact h 9999
section
variable {P:Program} {ρ:Nat->Value} {d:Option Nat} {ty:TypeId} {pos:String} {aft:Array Edge} {x y c:Operand} {t u:TypeId} {k:IntKind} {a b:Int}
theorem AO{v:Value}(h:ev ρ x=v):Pure P ρ ⟨d, .move x,ty,pos,aft,Yw⟩ v:=λw=>by simp[execOp,h]
theorem vm{v:Value}(h:ev ρ x=v):Pure P ρ ⟨d, .assign x,ty,pos,aft,Yw⟩ v:=λw=>by simp[execOp,h]
theorem qf{v:Value}(hc:ev ρ c= .bool Yx)(hx:ev ρ x=v):Pure P ρ ⟨d, .pick c x y,ty,pos,aft,Yw⟩ v:=λw=>by
 simp[execOp,asBool,hc,hx]
theorem pE{v:Value}(hc:ev ρ c= .bool Yy)(hy:ev ρ y=v):Pure P ρ ⟨d, .pick c x y,ty,pos,aft,Yw⟩ v:=λw=>by
 simp[execOp,asBool,hc,hy]
theorem C7(hx:ev ρ x= .int k a)(hy:ev ρ y= .int k b):Pure P ρ ⟨d, .binOp .add t x y u,ty,pos,aft,Yw⟩ (.int k (k.wrap (a+b))):=λw=>by
 simp[execOp,eqGuard,binOp,Op.intArith,hx,hy]
theorem C8(hx:ev ρ x= .int k a)(hy:ev ρ y= .int k b):Pure P ρ ⟨d, .binOp .sub t x y u,ty,pos,aft,Yw⟩ (.int k (k.wrap (a-b))):=λw=>by
 simp[execOp,eqGuard,binOp,Op.intArith,hx,hy]
theorem C9(hx:ev ρ x= .int k a)(hy:ev ρ y= .int k b):Pure P ρ ⟨d, .binOp .mul t x y u,ty,pos,aft,Yw⟩ (.int k (k.wrap (a*b))):=λw=>by
 simp[execOp,eqGuard,binOp,Op.intArith,hx,hy]
theorem Da(hx:ev ρ x= .int k a)(hy:ev ρ y= .int k b)(hb:b≠0):Pure P ρ ⟨d, .binOp .quo t x y u,ty,pos,aft,Yw⟩ (.int k (k.wrap (a.tdiv b))):=λw=>by
 simp[execOp,eqGuard,binOp,Op.intDiv,hx,hy,hb]
theorem Db(hx:ev ρ x= .int k a)(hy:ev ρ y= .int k b)(hb:b≠0):Pure P ρ ⟨d, .binOp .rem t x y u,ty,pos,aft,Yw⟩ (.int k (a.tmod b)):=λw=>by
 simp[execOp,eqGuard,binOp,Op.intDiv,hx,hy,hb]
theorem Dc(hx:ev ρ x= .int k a)(hy:ev ρ y= .int k b):Pure P ρ ⟨d, .binOp .lss t x y u,ty,pos,aft,Yw⟩ (.bool (decide (a<b))):=λw=>by
 simp[execOp,eqGuard,binOp,Op.intCmp,hx,hy]
theorem Dd(hx:ev ρ x= .int k a)(hy:ev ρ y= .int k b):Pure P ρ ⟨d, .binOp .leq t x y u,ty,pos,aft,Yw⟩ (.bool (decide (a<=b))):=λw=>by
 simp[execOp,eqGuard,binOp,Op.intCmp,hx,hy]
theorem De(hx:ev ρ x= .int k a)(hy:ev ρ y= .int k b):Pure P ρ ⟨d, .binOp .gtr t x y u,ty,pos,aft,Yw⟩ (.bool (decide (b<a))):=λw=>by
 simp[execOp,eqGuard,binOp,Op.intCmp,hx,hy]
theorem Df(hx:ev ρ x= .int k a)(hy:ev ρ y= .int k b):Pure P ρ ⟨d, .binOp .geq t x y u,ty,pos,aft,Yw⟩ (.bool (decide (b<=a))):=λw=>by
 simp[execOp,eqGuard,binOp,Op.intCmp,hx,hy]
theorem Dg(hx:ev ρ x= .int k a)(hy:ev ρ y= .int k b):Pure P ρ ⟨d, .binOp .eql t x y u,ty,pos,aft,Yw⟩ (.bool (decide (a=b))):=λw=>by
 simp[execOp,eqGuard,binOp,Op.intCmp,hx,hy,lJ]
theorem Dh(hx:ev ρ x= .int k a)(hy:ev ρ y= .int k b):Pure P ρ ⟨d, .binOp .neq t x y u,ty,pos,aft,Yw⟩ (.bool (!decide (a=b))):=λw=>by
 simp[execOp,eqGuard,binOp,Op.intCmp,hx,hy,bne,lJ]
theorem AP{p q:Bool}(ht:P.underlying t=some .bool)(hx:ev ρ x= .bool p)(hy:ev ρ y= .bool q):Pure P ρ ⟨d, .binOp .eql t x y u,ty,pos,aft,Yw⟩ (.bool (decide (p=q))):=λw=>by
 have h:=run_equal_bool ht p q w;rw[lJ]at h;simp only[execOp,eqGuard,hx,hy];simp[binOp,h]
theorem AQ{p q:Bool}(ht:P.underlying t=some .bool)(hx:ev ρ x= .bool p)(hy:ev ρ y= .bool q):Pure P ρ ⟨d, .binOp .neq t x y u,ty,pos,aft,Yw⟩ (.bool (!decide (p=q))):=λw=>by
 have h:=run_equal_bool ht p q w;rw[lJ]at h;simp only[execOp,eqGuard,hx,hy];simp[binOp,h]
theorem bytes_beq(p q:ByteArray):(p.toList==q.toList)=decide (p=q):=by
 rw[lJ]
 congr 1
 rw[ByteArray.toList_eq,ByteArray.toList_eq];refine propext ⟨λh=>?_,λh=>by rw[h]⟩;cases p;cases q;simpa using h
theorem AR{p q:ByteArray}(hx:ev ρ x= .string p)(hy:ev ρ y= .string q):Pure P ρ ⟨d, .binOp .eql t x y u,ty,pos,aft,Yw⟩ (.bool (decide (p=q))):=λw=>by
 simp[execOp,eqGuard,binOp,Op.stringOp,hx,hy,bytes_beq]
theorem AS{p q:ByteArray}(hx:ev ρ x= .string p)(hy:ev ρ y= .string q):Pure P ρ ⟨d, .binOp .neq t x y u,ty,pos,aft,Yw⟩ (.bool (!decide (p=q))):=λw=>by
 simp[execOp,eqGuard,binOp,Op.stringOp,hx,hy,bytes_beq]
theorem Di{p:Bool}(hx:ev ρ x= .bool p):Pure P ρ ⟨d, .unOp .not t x,ty,pos,aft,Yw⟩ (.bool !p):=λw=>by
 simp[execOp,Op.unary,hx]
theorem Dj(hx:ev ρ x= .int k a):Pure P ρ ⟨d, .unOp .neg t x,ty,pos,aft,Yw⟩ (.int k (k.wrap (0-a))):=λw=>by
 simp[execOp,Op.unary,Op.intArith,hx]
theorem AT{k':IntKind}{e:TypeDesc}(hs:P.underlying t=some e)(hu:P.underlying u=some (.int k'))(hx:ev ρ x= .int k a):Pure P ρ ⟨d, .convert t u x,ty,pos,aft,Yw⟩ (.int k' (k'.wrap a)):=λw=>by
 simp[execOp,convert,run_underlying hs,run_underlying hu,hx,Conv.intToInt]
theorem Dk{e:TypeId}{A:Option Addr}{n cap:Nat}{m:Nat}(hm:m=n)(ht:P.underlying t=some (.slice e))(hx:ev ρ x= .slice A n cap):
 Pure P ρ ⟨d, .call {callee:= .builtin .len,args:= #[x],argTypes:= #[t]},ty,pos,aft,Yw⟩ (.int .i64 (m:Int)):=λw=>by
 subst hm;simp[execOp,resolve,invoke,builtin,Builtin.len_,run_underlying ht,hx,goInt]
theorem AU{s:ByteArray}(ht:P.underlying t=some .string)(hx:ev ρ x= .string s):
 Pure P ρ ⟨d, .call {callee:= .builtin .len,args:= #[x],argTypes:= #[t]},ty,pos,aft,Yw⟩ (.int .i64 (s.size:Int)):=λw=>by
 simp[execOp,resolve,invoke,builtin,Builtin.len_,run_underlying ht,hx,goInt]
theorem AV{t':TypeId}(hx:ev ρ x= .int k a)(hy:ev ρ y= .int k b):
 Pure P ρ ⟨d, .call {callee:= .builtin .max,args:= #[x,y],argTypes:= #[t,t']},ty,pos,aft,Yw⟩ (.int k (if a<b then b else a)):=λw=>by
 simp[execOp,resolve,invoke,builtin,Builtin.max_,Builtin.max2,hx,hy]
theorem AW{t':TypeId}(hx:ev ρ x= .int k a)(hy:ev ρ y= .int k b):
 Pure P ρ ⟨d, .call {callee:= .builtin .min,args:= #[x,y],argTypes:= #[t,t']},ty,pos,aft,Yw⟩ (.int k (if b<a then b else a)):=λw=>by
 simp[execOp,resolve,invoke,builtin,Builtin.min_,Builtin.min2,hx,hy]
theorem tM{vs:Array Value}{i:Nat}{v:Value}(hx:ev ρ x= .tuple vs)(hi:vs[i]? =some v):Pure P ρ ⟨d, .extract x i,ty,pos,aft,Yw⟩ v:=λw=>by
 simp[execOp,Instr.extract,hx,hi]
theorem bK(b o k:Nat):(⟨b,o,Yw⟩:Addr).add k=⟨b,o+k,Yw⟩:=by unfold Addr.add;split<;>simp_all
theorem qg{f:Nat}{fs:Array Field}{fd:Field}{ti:TypeInfo}{jx off:Nat}(k:Nat)(hs:P.underlying t=some (.struct fs))(hf:fs[f]? =some fd)(hi:P.info? fd.type=some ti)(ir:ti.size≠0)(hk:fd.offset=k)
 (hx:ev ρ x= .pointer (some ⟨jx,off,Yw⟩)):Pure P ρ ⟨d, .fieldAddr t x f,ty,pos,aft,Yw⟩ (.pointer (some ⟨jx,off+k,Yw⟩)):=λw=>by
 subst hk;simp[execOp,Instr.fieldAt,run_underlying hs,hf,Instr.sureAddr,fieldPlace,sizeOf,typeInfo,hi,ir,hx,bK]
theorem iy{e:TypeId}{ti:TypeInfo}{jx off n cap i:Nat}(size:Nat)(ht:P.underlying t=some (.slice e))(hi:P.info? e=some ti)(ir:ti.size=size)
 (hx:ev ρ x= .slice (some ⟨jx,off,Yw⟩) n cap)(hy:ev ρ y= .int k a)(ha:a=(i:Int))(av:i<n):
 Pure P ρ ⟨d, .indexAddr t x y,ty,pos,aft,Yw⟩ (.pointer (some ⟨jx,off+i*size,Yw⟩)):=λw=>by
 subst ir;subst ha;simp[execOp,Instr.indexAt,asIntOf,run_underlying ht,sizeOf,typeInfo,hi,hx,hy,av,bK]
end
end Go.Proofs.YtbladfbbhijpmaaGreat
namespace Go.Proofs.YtbladfbbhijpmaaGreat
open Go Go.RowKit
inductive Path:Row->Row->Type where
 |here {r:Row}:Path r r
 |fst {a b s:Row} (p:Path a s):Path (.pair a b) s
 |snd {a b s:Row} (p:Path b s):Path (.pair a b) s
def Path.off:{r s:Row}->Path r s->Nat
 |_,_, .here=>0
 |_,_, .fst p=>p.off
 |_,_, .snd (a:=a) p=>a.size+p.off
@[reducible] def Path.get:{r s:Row}->Path r s->r.den->s.den
  |_,_, .here,x=>x
  |_,_, .fst p,x=>p.get x.1
  |_,_, .snd p,x=>p.get x.2
@[reducible] def Path.set:{r s:Row}->Path r s->r.den->s.den->r.den
  |_,_, .here,_,y=>y
  |_,_, .fst p,x,y=>(p.set x.1 y,x.2)
  |_,_, .snd p,x,y=>(x.1,p.set x.2 y)
section
variable {F:Nat->Prop} {w:World}
theorem Path.le:{r s:Row}->(p:Path r s)->p.off+s.size<=r.size
 |_,_, .here=>by simp[Path.off]
 |_,_, .fst p=>by have:=p.le;simp[Path.off];omega
 |_,_, .snd p=>by have:=p.le;simp[Path.off];omega
theorem bD.path:{r s:Row}->(p:Path r s)->{es:List Value}->{x:r.den}->bD F w r es x->bD F w s ((es.drop p.off).take s.size) (p.get x)
 |_,_, .here,es,x,h=>by
  have:=h.length;simp only[Path.off,List.drop_zero,Path.get];rw[<-this,W3];exact h
 |_,s, .fst (a:=a) p,_,x,h=>by
  obtain⟨c1,c2,rfl,h1,h2⟩:=h;have hr:=bD.path p h1;have hle:=p.le;have hl:=h1.length;simp only[Path.off,Path.get];rw[XC (by omega),List.take_append_of_le_length (by rw[List.length_drop];omega)];exact hr
 |_,s, .snd (a:=a) p,_,x,h=>by
  obtain⟨c1,c2,rfl,h1,h2⟩:=h;have hr:=bD.path p h2;have hl:=h1.length;simp only[Path.off,Path.get];rw[<-hl,List.drop_append,XK (by omega),List.nil_append,show c1.length+p.off-c1.length=p.off from by omega];exact hr
theorem bD.put:{r s:Row}->(p:Path r s)->{es vs:List Value}->{x:r.den}->{y:s.den}->bD F w r es x->bD F w s vs y->
 bD F w r (es.take p.off++vs++es.drop (p.off+s.size)) (p.set x y)
 |_,_, .here,es,vs,x,y,h,hv=>by
  have:=h.length;simp only[Path.off,Path.set,List.take_zero,List.nil_append,Xl];rw[<-this,List.drop_length,List.append_nil];exact hv
 |_,s, .fst (a:=a) p,_,vs,x,y,h,hv=>by
  obtain⟨c1,c2,rfl,h1,h2⟩:=h;have hr:=bD.put p h1 hv;have hle:=p.le;have hl:=h1.length;refine⟨_,c2,?_,hr,h2⟩;simp only[Path.off];rw[List.take_append_of_le_length (by omega),XC (by omega)];simp[W7]
 |_,s, .snd (a:=a) p,_,vs,x,y,h,hv=>by
  obtain⟨c1,c2,rfl,h1,h2⟩:=h;have hr:=bD.put p h2 hv;have hl:=h1.length;refine⟨c1,_,?_,h1,hr⟩;simp only[Path.off]
  rw[<-hl,List.take_append,List.take_of_length_le (by omega),List.drop_append,XK (by omega),show c1.length+p.off-c1.length=p.off from by omega,
   show c1.length+p.off+s.size-c1.length=p.off+s.size from by omega]
  simp[W7]
theorem At.path{r s:Row}{b off:Nat}{x:r.den}(h:At F w r b off x)(p:Path r s)(k:Nat)(hk:p.off=k):At F w s b (off+k) (p.get x):=by
 subst hk;obtain⟨es,hl,hc,hr⟩:=h;have hp:=hr.path p;refine⟨_,hp.length,λj u hu=>?_,hp⟩;rw[W5]at hu;split at hu
 .rw[WV]at hu;rw[Nat.add_assoc];exact hc _ u hu
 .cases hu
theorem At.int{k:IntKind}{b off:Nat}{x:Int}(h:At F w (.int k) b off x):w.cell? ⟨b,off,Yw⟩=some (.int k x):=by
 obtain⟨es,hl,hc,rfl⟩:=h;exact hc 0 _ rfl
theorem At.bool{b off:Nat}{x:Bool}(h:At F w .bool b off x):w.cell? ⟨b,off,Yw⟩=some (.bool x):=by
 obtain⟨es,hl,hc,rfl⟩:=h;exact hc 0 _ rfl
theorem At.str{b off:Nat}{x:ByteArray}(h:At F w .str b off x):w.cell? ⟨b,off,Yw⟩=some (.string x):=by
 obtain⟨es,hl,hc,rfl⟩:=h;exact hc 0 _ rfl
theorem At.slice{e:Row}{b off:Nat}{x:List e.den}(h:At F w (.slice e) b off x):∃v,w.cell? ⟨b,off,Yw⟩=some v/\bD F w (.slice e) [v] x:=by
 obtain⟨es,hl,hc,hr⟩:=h;obtain⟨A,cap,rfl,h⟩:=hr;exact⟨_,hc 0 _ rfl,A,cap,rfl,h⟩
theorem At.M8{r:Row}{b off:Nat}{x:r.den}(h:At F w r b off x):∃es,(∀j u,es[j]? =some u->w.cell? ⟨b,off+j,Yw⟩=some u)/\bD F w r es x:=by
 obtain⟨es,hl,hc,hr⟩:=h;exact⟨es,hc,hr⟩
def Reads(F:Nat->Prop)(w:World)(r:Row)(v:Value)(l:List r.den):Prop:=
 ∃A cap,v= .slice A l.length cap/\l.length<=cap/\cap<=maxLen/\∀i(h:i<l.length),∃b off,A=some ⟨b,off,Yw⟩/\At F w r b (off+i*r.size) l[i]
theorem bD.reads{r:Row}{v:Value}{l:List r.den}(h:bD F w (.slice r) [v] l):Reads F w r v l:=by
 obtain⟨A,cap,h1,h2,h3,h4⟩:=h;refine⟨A,cap,by simpa using h1,h2,h3,λi hi=>?_⟩;obtain⟨b,off,es,hA,_,pD,hc,hr⟩:=h4 i hi;exact⟨b,off,hA,es,pD,hc,hr⟩
def idx{α:Type}(l:List α)(i:Int):Option α:=if 0<=i then l[i.toNat]? else Yw
theorem dB{α:Type}{l:List α}{i:Int}{y:α}(h:idx l i=some y):∃k:Nat,i=k/\∃hk:k<l.length,l[k]=y:=by
 unfold idx at h;split at h
 .rename_i h0;obtain⟨hk,e⟩:=W2.1 h;exact⟨i.toNat,by omega,hk,e⟩
 .cases h
theorem Reads.elem{r:Row}{v:Value}{l:List r.den}(h:Reads F w r v l){i:Int}{y:r.den}(hi:idx l i=some y):
 ∃b off cap k,v= .slice (some ⟨b,off,Yw⟩) l.length cap/\i=(k:Nat)/\k<l.length/\At F w r b (off+k*r.size) y:=by
 obtain⟨A,cap,hv,_,_,h4⟩:=h;obtain⟨k,hk,av,rfl⟩:=dB hi;obtain⟨b,off,rfl,pT⟩:=h4 k av;exact⟨b,off,cap,k,hv,hk,av,pT⟩
end
section
variable {P:Program} {n:Nat} {ops:Array Oper} {K:(Nat->Value)->World->Prop} {rest:List Oper} {ρ:Nat->Value} {w:World} {F:Nat->Prop}
variable {d:Nat} {ty:TypeId} {pos:String} {aft:Array Edge} {x y:Operand} {t:TypeId}
def fm:TypeDesc->Bool
 | .struct _| .array _ _=>Yx
 |_=>Yy
theorem dj{D:TypeDesc}(hu:P.underlying t=some D)(w:World):(isAgg t).run P w= .ok (fm D) w:=by
 unfold isAgg;rw[Xd,run_underlying hu w]
 cases D<;>simp[fm]
theorem sd{dd:Option Nat}{D:TypeDesc}{b off:Nat}{v:Value}(hu:P.underlying t=some D)(hD:fm D=Yy)(hx:ev ρ x= .pointer (some ⟨b,off,Yw⟩))(hc:w.cell? ⟨b,off,Yw⟩=some v):
 (execOp (ev ρ) ⟨dd, .load t x,ty,pos,aft,Yw⟩).run P w= .ok (.value v) w:=by
 simp[execOp,hx,Instr.loadAt,Instr.sureAddr,loadVar,Xd,dj hu,hD,hc,go_sem]
theorem AX{dd:Option Nat}{D:TypeDesc}{ti:TypeInfo}{b off:Nat}{es:List Value}(hu:P.underlying t=some D)(hD:fm D=Yx)(hi:P.info? t=some ti)(hs:ti.size=es.length)
 (hx:ev ρ x= .pointer (some ⟨b,off,Yw⟩))(hc:∀j u,es[j]? =some u->w.cell? ⟨b,off+j,Yw⟩=some u):
 (execOp (ev ρ) ⟨dd, .load t x,ty,pos,aft,Yw⟩).run P w= .ok (.value (.agg es.toArray)) w:=by
 have hl:(loadCells ⟨b,off,Yw⟩ es.length).run P w= .ok es.toArray w:=
  run_loadCells_list (P:=P) w ⟨b,off,Yw⟩ es (λj v hv=>by rw[bK];exact hc j v hv)
 simp[execOp,hx,Instr.loadAt,Instr.sureAddr,loadVar,Xd,dj hu,hD,sizeOf,typeInfo,hi,hs,hl]
end
end Go.Proofs.YtbladfbbhijpmaaGreat
end
namespace Go.Proofs.YtbladfbbhijpmaaGreat
open Go Go.RowKit
set_option maxRecDepth 100000
set_option linter.unusedSimpArgs false
set_option linter.unusedVariables false
set_option linter.defProp false
section
theorem IM{ε α β:Type}{x:Except ε α}{f:α->Except ε β}{b:β}(h:(x >>= f)= .ok b):∃a,f a= .ok b:=by
 cases x with
 |error e=>cases h
 |ok a=>exact⟨a,h⟩
theorem pF{P:Program}{w w':World}{at_ k:Addr}{u:TypeId}{v:Value}{at':Bool}{l:List Addr}(h:World.viewStore P w at_ u k v at'= .ok (w',l)):w'.drawn=w.drawn:=by
 unfold World.viewStore at h
 repeat' (first
  |(obtain⟨_,h⟩:=IM h)
  |(split at h)
  |(cases h;done)
  |(cases h;rfl))
theorem AY{α:Type}(a:Ask α):(w:World)->w.drawn<=(World.ask w a).2.drawn:=by
 induction a with
 |done a=>intro w;exact WH _
 |ask KI range k ih=>
  intro w;unfold World.ask;simp only;split
  .exact ih _ _
  .have h2:=ih ((Question.extern KI range).cut (w.tape w.drawn (Question.extern KI range))) {w with drawn:=w.drawn+1};exact Xa (Nat.le_succ _) h2
theorem AZ(w:World)(c:Sys):w.drawn<=(w.sys c).2.drawn:=by
 unfold World.sys;have h:=AY (Kernel.perform c w.os) w;split
 .exact WH _
 .rename_i h1;rw[h1]at h;exact h
theorem A0{P:Program}{α:Type}{a:α}{w':World}(s:Sem α):(w:World)->s.run P w= .ok a w'->w.drawn<=w'.drawn:=by
 induction s with
 |pure a=>intro w h;cases h;exact WH _
 |load m a k ih=>
  intro w h;unfold Yu at h;split at h
  .exact ih _ _ h
  .split at h
   .exact ih _ _ h
   .cases h
 |store m a v k ih=>
  intro w h
  cases v<;>simp only[Yu]at h<;>first
   |(cases h;done)
   |(split at h
     .split at h
      .cases h
      .have h2:=ih _ h;exact h2
     .split at h
      .rename_i e3;have h2:=ih _ h;unfold World.farStore at e3;split at e3
       .split at e3
        .rename_i e4;cases e3;rw[pF e4]at h2;exact h2
        .cases e3
       .cases e3
      .cases h)
 |new o k ih=>intro w h;unfold Yu at h;have h2:=ih _ _ h;exact h2
 |shape r k ih=>intro w h;unfold Yu at h;exact ih _ _ h
 |freeze a n k ih=>intro w h;unfold Yu at h;have:=ih _ h;unfold World.freeze at this;split at this<;>exact this
 |frozen a k ih=>intro w h;unfold Yu at h;exact ih _ _ h
 |getObj r k ih=>intro w h;unfold Yu at h;split at h<;>first|cases h|exact ih _ _ h
 |setObj r o k ih=>intro w h;unfold Yu at h;split at h<;>first|(cases h;done)|(have h2:=ih _ h;exact h2)
 |choose q k ih=>
  intro w h;unfold Yu at h;split at h
  .exact ih _ _ h
  .have h2:=ih _ _ h;exact Xa (Nat.le_succ _) h2
 |sys c k ih=>intro w h;unfold Yu at h;exact Xa (AZ w c) (ih _ _ h)
 |program k ih=>intro w h;unfold Yu at h;exact ih _ _ h
 |mark m k ih=>intro w h;unfold Yu at h;exact ih _ h
 |halt hh=>intro w h;unfold Yu at h;cases h
structure Ext(g:Nat->Prop)(w w':World):Prop where
 os:w'.os=w.os
 tape:w'.tape=w.tape/\w.drawn<=w'.drawn
 output:w'.output=w.output
 size:w.heap.size<=w'.heap.size
 block:∀k,k<w.heap.size->¬g k->w'.heap[k]? =w.heap[k]?
theorem Ext.Dl{g:Nat->Prop}{a b:World}{row:Option Nat}(h:a.grownBy b row)(hd:a.drawn<=b.drawn)(hs:∀k,row=some k->g k):Ext g a b:=
 ⟨h.os,⟨h.tape,hd⟩,h.output,h.size,λk hk hn=>h.block k hk λe=>hn (hs k e.symm)⟩
section
variable {w0 w w':World} {F0 F F':Nat->Prop} {g:Nat->Prop}
theorem St.ext(h:St w0 F0 w F)(he:Ext g w w')(hg:∀k,g k->w0.heap.size<=k):St w0 F0 w' F:=
 ⟨h.below.trans ⟨he.os,he.tape.1,he.output,he.size,λk hk=>by
   rcases Nat.lt_or_ge k w.heap.size with av|hge
   .exact he.block k av λe=>by have:=hg k e;omega
   .have:=h.below.size;omega⟩,h.le,h.new,λb hb=>Xg (h.lt b hb) he.size⟩
theorem Step.ext(he:Ext g w w')(hF:∀b,F b->b<w.heap.size)(hg:∀k,g k->¬F k):Step F w F w':=
 λb hb=>⟨hb,he.block b (hF b hb) λe=>hg b e hb⟩
def jl(base:Nat)(F:Nat->Prop)(w:World)(b:Nat)(T:TypeId)(r:Row)(x:r.den):Prop:=
 base<=b/\¬F b/\∃es,w.heap[b]? =some (.cells es.toArray T (0,0))/\bD F w r es x
def aN(v:Value)(k:Nat):Prop:=v.ownBlock=some k
def is(b k:Nat):Prop:=k=b
def iS(w:World)(base:Nat)(e:TypeId)(size:Nat)(v:Value)(n:Nat)(xs:List Value):Prop:=
 xs.length=n*size/\
 ((v= .slice Yw 0 0/\n=0)\/
  ∃g o0 cap cur,v= .slice (some ⟨g,o0,Yw⟩) n cap/\base<=g/\w.heap[g]? =some (.cells cur e (0,0))/\n<=cap/\cap<=maxLen/\o0+cap*size<=cur.size/\(cur.toList.drop o0).take (n*size)=xs)
theorem iS.of{w:World}{base:Nat}{e:TypeId}{size:Nat}{v:Value}{n:Nat}{xs:List Value}(h:w.ownsRow base e size v n xs):iS w base e size v n xs:=by
 refine⟨h.1,?_⟩
 rcases h.2 with h|⟨g,cap,cur,hv,hb,hg,h1,h2,h3,h4⟩
 .exact .inl h
 .exact .inr ⟨g,0,cap,cur,hv,hb,hg,h1,h2,by omega,h4⟩
theorem A3(w:World)(base:Nat)(e:TypeId)(size:Nat):iS w base e size (.slice Yw 0 0) 0 []:= .of (World.ownsRow_nil w base e size)
theorem iS.lt{w:World}{base:Nat}{e:TypeId}{size:Nat}{v:Value}{n:Nat}{xs:List Value}(h:iS w base e size v n xs):∀k,v.ownBlock=some k->base<=k/\k<w.heap.size:=by
 intro k hk
 rcases h.2 with⟨rfl,_⟩|⟨g,o0,cap,cur,rfl,hb,hg,_⟩
 .cases hk
 .obtain rfl:g=k:=by simpa[Xh]using hk
  exact⟨hb,(Xj.1 hg).1⟩
def e7(base:Nat)(F:Nat->Prop)(w:World)(T:TypeId)(r:Row)(v:Value)(l:List r.den):Prop:=
 (∀k,aN v k->¬F k)/\∃xs,iS w base T r.size v l.length xs/\∀i(h:i<l.length),bD F w r ((xs.drop (i*r.size)).take r.size) l[i]
variable {base b:Nat} {T:TypeId} {r:Row}
theorem jl.lt{x:r.den}(h:jl base F w b T r x):∀k,is b k->k<w.heap.size:=λk hk=>by
 obtain⟨_,_,es,hh,_⟩:=h;rw[hk];exact(Xj.1 hh).1
theorem jl.ge{x:r.den}(h:jl base F w b T r x):∀k,is b k->base<=k:=λk hk=>by rw[hk];exact h.1
theorem jl.no{x:r.den}(h:jl base F w b T r x):∀k,is b k->¬F k:=λk hk=>by rw[hk];exact h.2.1
theorem jl.st{x:r.den}(h:jl base F w b T r x)(hF:∀b,F b->b<w.heap.size)(hs:St w F w' F'):jl base F' w' b T r x:=by
 have av:=h.lt b rfl;obtain⟨h1,h2,es,hh,hr⟩:=h;refine⟨h1,λe=>?_,es,(hs.below.block b av).trans hh,hr.step (hs.step hF)⟩
 rcases hs.new b e with h'|h'
 .exact h2 h'
 .omega
theorem jl.ext{x:r.den}(h:jl base F w b T r x)(hF:∀b,F b->b<w.heap.size)(he:Ext g w w')(hg:∀k,g k->¬F k)(hb:∀k,g k->¬is b k):jl base F w' b T r x:=by
 have av:=h.lt b rfl;obtain⟨h1,h2,es,hh,hr⟩:=h;exact⟨h1,h2,es,(he.block b av λe=>hb b e rfl).trans hh,hr.step (Step.ext he hF hg)⟩
theorem jl.at{x:r.den}(h:jl base F w b T r x):At F w r b 0 x:=by
 obtain⟨_,_,es,hh,hr⟩:=h;exact⟨es,hr.length,λj u hu=>by rw[Xl,cell_of_row w b j _ T (0,0) hh];simpa using hu,hr⟩
theorem e7.lt{v:Value}{l:List r.den}(h:e7 base F w T r v l):∀k,aN v k->k<w.heap.size:=by
 obtain⟨_,xs,h,_⟩:=h
 exact λk hk=>(h.lt k hk).2
theorem e7.ge{v:Value}{l:List r.den}(h:e7 base F w T r v l):∀k,aN v k->base<=k:=by
 obtain⟨_,xs,h,_⟩:=h
 exact λk hk=>(h.lt k hk).1
theorem e7.no{v:Value}{l:List r.den}(h:e7 base F w T r v l):∀k,aN v k->¬F k:=h.1
theorem e7.nil(base:Nat)(F:Nat->Prop)(w:World)(T:TypeId)(r:Row):e7 base F w T r (.slice Yw 0 0) []:=
 ⟨λk hk=>by simp[aN,Xh]at hk,[],A3 _ _ _ _,λi h=>absurd h (by simp)⟩
theorem e7.keep{v:Value}{l:List r.den}(h:e7 base F w T r v l)(hs:Step F w F' w')(h1:∀k,aN v k->¬F' k/\w'.heap[k]? =w.heap[k]?):e7 base F' w' T r v l:=by
 obtain⟨_,xs,⟨vj,xy⟩,h3⟩:=h;refine⟨λk hk=>(h1 k hk).1,xs,⟨vj,?_⟩,λi hi=>(h3 i hi).step hs⟩
 rcases xy with h2|⟨gg,o0,cap,cur,rfl,hb,hg,rest⟩
 .exact .inl h2
 .exact .inr ⟨gg,o0,cap,cur,rfl,hb,(h1 gg rfl).2.trans hg,rest⟩
theorem e7.st{v:Value}{l:List r.den}(h:e7 base F w T r v l)(hF:∀b,F b->b<w.heap.size)(hs:St w F w' F'):e7 base F' w' T r v l:=
 h.keep (hs.step hF) λk hk=>⟨λe=>by
   have av:=h.lt k hk
   rcases hs.new k e with h'|h'
   .exact h.no k hk h'
   .omega,hs.below.block k (h.lt k hk)⟩
theorem e7.ext{v:Value}{l:List r.den}(h:e7 base F w T r v l)(hF:∀b,F b->b<w.heap.size)(he:Ext g w w')(hg:∀k,g k->¬F k)(hb:∀k,g k->¬aN v k):e7 base F w' T r v l:=
 h.keep (Step.ext he hF hg) λk hk=>⟨h.no k hk,he.block k (h.lt k hk) λe=>hb k e hk⟩
theorem e7.reads{v:Value}{l:List r.den}(h:e7 base F w T r v l):Reads F w r v l:=by
 obtain⟨_,xs,hx,h3⟩:=h;have hlen:=hx.1
 rcases hx.2 with⟨rfl,h0⟩|⟨gg,o0,cap,cur,rfl,hb,hg,h1,h2,mH,se⟩
 .exact⟨Yw,0,by rw[h0],by omega,by simp[maxLen],λi hi=>absurd hi (by omega)⟩
 .refine⟨_,cap,rfl,h1,h2,λi hi=>⟨gg,o0,rfl,_,(h3 i hi).length,λj u hu=>?_,h3 i hi⟩⟩;rw[W5]at hu;split at hu
  .rw[WV]at hu;rw[cell_of_row w gg _ cur T (0,0) hg];rw[<-se,W5]at hu;split at hu
   .rw[WV]at hu;simpa[Nat.add_assoc]using hu
   .cases hu
  .cases hu
theorem e7.freeze{v:Value}{l:List r.den}(h:e7 base F w T r v l):bD (λb=>F b\/aN v b) w (.slice r) [v] l:=by
 obtain⟨A,cap,hv,h1,h2,h3⟩:=h.reads;refine⟨A,cap,by rw[hv],h1,h2,λi hi=>?_⟩;obtain⟨b,off,rfl,es,pD,hc,hr⟩:=h3 i hi;subst hv;exact⟨b,off,es,rfl, .inr (by simp[aN,Xh]),pD,hc,hr.step λb hb=>⟨.inl hb,rfl⟩⟩
@[reducible] def Row.zero:(r:Row)->r.den
  | .int _=>(0:Int)
  | .bool=>Yy
  | .str=>Yn
  | .slice _=>[]
  | .gP=> .slice Yw 0 0
  | .nul _=>()
  | .map .. =>[]
  | .pair a b=>(a.zero,b.zero)
def Row.da:(r:Row)->List Value
 | .int k=>[.int k 0]
 | .bool=>[.bool Yy]
 | .str=>[.string Yn]
 | .slice _=>[.slice Yw 0 0]
 | .gP=>[.slice Yw 0 0]
 | .nul k=>[k.val]
 | .map .. =>[.map Yw]
 | .pair a b=>a.da++b.da
theorem bD.zero(F:Nat->Prop)(w:World):(r:Row)->bD F w r r.da r.zero
 | .int _=>rfl
 | .bool=>rfl
 | .str=>rfl
 | .slice e=>bD.nil F w e
 | .gP=>⟨rfl,Yw,0,0,rfl⟩
 | .nul _=>rfl
 | .map .. =>⟨_,rfl, .inl ⟨rfl,rfl⟩⟩
 | .pair a b=>⟨_,_,rfl,bD.zero F w a,bD.zero F w b⟩
theorem jl.new(F:Nat->Prop){w:World}(T:TypeId){r:Row}{es:List Value}{x:r.den}(hF:∀b,F b->b<w.heap.size)(hb:base<=w.heap.size)(hr:bD F w r es x):jl base F (w.alloc (.cells es.toArray T)) w.heap.size T r x:=
 ⟨hb,λe=>by have:=hF _ e;omega,es,heap_alloc_new w _,hr.step (Step.alloc hF _)⟩
end
section
variable {P:Program} {n:Nat} {ops:Array Oper} {K:(Nat->Value)->World->Prop} {rest:List Oper} {ρ:Nat->Value} {w:World} {F:Nat->Prop} {base:Nat}
variable {d:Nat} {ty:TypeId} {pos:String} {aft:Array Edge} {x y:Operand} {t:TypeId}
theorem A4{dd:Option Nat}{ti:TypeInfo}{z:Value}(hi:P.info? t=some ti)(hz:ti.zero=some z):
 (execOp (ev ρ) ⟨dd, .alloc t,ty,pos,aft,Yw⟩).run P w= .ok (.value (.pointer (some ⟨w.heap.size,0,Yw⟩))) (w.alloc (.cells z.cells t)):=by
 simp[execOp,Instr.alloc,zeroValue,typeInfo,hi,hz,newVar,newRow]
theorem Gw{dd:Option Nat}{v:Value}(hx:ev ρ x=v):
 (execOp (ev ρ) ⟨dd, .box t x,ty,pos,aft,Yw⟩).run P w= .ok (.value (.pointer (some ⟨w.heap.size,0,Yw⟩))) (w.alloc (.cells v.cells t)):=by
 simp[execOp,Instr.box,hx,newVar,newRow]
theorem jX{dd:Option Nat}{ti:TypeInfo}{b off:Nat}{cur:Array Value}{T:TypeId}{v:Value}{vs:List Value}(hi:P.info? t=some ti)(hs:ti.size=vs.length)(hx:ev ρ x= .pointer (some ⟨b,off,Yw⟩))(hy:ev ρ y=v)
 (hv:v.cells.toList=vs)(h1:∀u∈vs,u.oneCell'=Yx)(hg:w.heap[b]? =some (.cells cur T (0,0)))(hl:off+vs.length<=cur.size):
 (execOp (ev ρ) ⟨dd, .store t x y,ty,pos,aft,Yw⟩).run P w= .ok .skip (w.setRow b (cur.toList.take off++vs++cur.toList.drop (off+vs.length)).toArray):=by
 have dz:=run_storeCells_at P b off T vs 0 cur w hg (by omega) h1
 have ir:v.cells.size=ti.size:=by rw[hs,<-hv];simp
 simp only[XL]at dz;simp[execOp,Instr.storeAt,Instr.sureAddr,storeVar,sizeOf,typeInfo,hi,ir,hx,hy,hv,dz]
theorem xK(w:World)(b:Nat)(cs:Array Value):Ext (is b) w (w.setRow b cs):=
 ⟨rfl,⟨rfl,WH _⟩,rfl,by simp,λk _ hk=>setRow_other w b k cs hk⟩
theorem jl.put{w:World}{b:Nat}{T:TypeId}{r s:Row}{a:r.den}{es:List Value}(hh:w.heap[b]? =some (.cells es.toArray T (0,0)))(hr:bD F w r es a)(hb:base<=b)(hn:¬F b)(hF:∀b,F b->b<w.heap.size)(p:Path r s){vs:List Value}{u:s.den}(hv:bD F w s vs u):
 jl base F (w.setRow b (es.take p.off++vs++es.drop (p.off+s.size)).toArray) b T r (p.set a u):=
 ⟨hb,hn,_,setRow_heap w b _ _ T (0,0) hh,(hr.put p hv).step (Step.ext (xK w b _) hF λk hk=>by rw[show k=b from hk];exact hn)⟩
def sf{α:Type}(m:Int)(z:α):Option (List α):=if 0<=m/\m<=4294967296 then some (Xb m.toNat z)else Yw
def bW{α:Type}(l m:List α):Option (List α):=if l.length+m.length<=4294967296 then some (l++m)else Yw
theorem nu(z:Array Value)(m j:Nat)(hj:j<m)(hz:0<z.size):(madeCells z m).toList[j]? =z[j%z.size]? :=by
 have:j%z.size<z.size:=Nat.mod_lt _ hz;simp[madeCells,hj,this]
theorem Dm(z:List Value)(m i:Nat)(hz:0<z.length)(hi:i<m):(((madeCells z.toArray (m*z.length)).toList.drop (i*z.length)).take z.length)=z:=by
 apply List.ext_getElem?
 intro j;rw[W5,WV];split
 .rename_i hj;have hle:(i+1)*z.length<=m*z.length:=W1 _ hi;rw[Xu]at hle;rw[nu z.toArray (m*z.length) (i*z.length+j) (by omega) (by simpa using hz)];rw[show z.toArray.size=z.length from by simp,List.getElem?_toArray];rw[Nat.add_comm,Nat.add_mul_mod_self_right,Nat.mod_eq_of_lt hj]
 .rename_i hj;rw[List.getElem?_eq_none (by omega)]
theorem Reads.news{r:Row}{A:Option Addr}{cap m:Nat}{l:List r.den}(h:Reads F w r (.slice A m cap) l)(b off:Nat)(hA:A=some ⟨b,off,Yw⟩):
 ∃news:List Value,news.length=l.length*r.size/\(∀j u,news[j]? =some u->w.cell? ⟨b,off+j,Yw⟩=some u)/\∀i(hi:i<l.length),bD F w r ((news.drop (i*r.size)).take r.size) l[i]:=by
 subst hA;obtain⟨A',Dn,hv,_,_,h4⟩:=h;simp only[X2]at hv;obtain⟨rfl,_,_⟩:=hv;have nv:=r.size_pos
 have nr:∀j,j<l.length*r.size->∃u,w.cell? ⟨b,off+j,Yw⟩=some u:=by
  intro j hj;have hi:j/r.size<l.length:=Nat.div_lt_of_lt_mul (by rwa [Nat.mul_comm]);obtain⟨b',cC,pU,es,pD,hc,_⟩:=h4 _ hi;simp only[WL,X8,and_true]at pU;obtain⟨rfl,rfl⟩:=pU
  have M9:j%r.size<es.length:=by rw[pD];exact Nat.mod_lt _ nv
  have:=hc (j%r.size) _ (WJ M9);rw[Nat.add_assoc,Nat.div_add_mod']at this;exact⟨_,this⟩
 have Gx:∀j u,((WM (l.length*r.size)).map λj=>(w.cell? ⟨b,off+j,Yw⟩).getD undef)[j]? =some u↔j<l.length*r.size/\w.cell? ⟨b,off+j,Yw⟩=some u:=by
  intro j u;by_cases hj:j<l.length*r.size
  .obtain⟨q,hq⟩:=nr j hj;simp[hj,hq]
  .simp[hj]
 refine⟨(WM (l.length*r.size)).map λj=>(w.cell? ⟨b,off+j,Yw⟩).getD undef,by simp,λj u hu=>((Gx j u).1 hu).2,λi hi=>?_⟩;obtain⟨b',cC,pU,es,pD,hc,hr⟩:=h4 i hi;simp only[WL,X8,and_true]at pU;obtain⟨rfl,rfl⟩:=pU
 have he:(((WM (l.length*r.size)).map λj=>(w.cell? ⟨b,off+j,Yw⟩).getD undef).drop (i*r.size)).take r.size=es:=by
  have hle:(i+1)*r.size<=l.length*r.size:=W1 _ hi;rw[Xu]at hle
  apply List.ext_getElem?
  intro j;rw[W5,WV];split
  .rename_i hj;rw[(Gx (i*r.size+j) (es[j]'(by omega))).2 ⟨by omega,by rw[<-Nat.add_assoc];exact hc j _ (WJ (by omega))⟩,WJ (by omega)]
  .rw[List.getElem?_eq_none (by omega)]
 rw[he];exact hr
theorem nw(w:World)(base:Nat)(t ty e:TypeId)(i:TypeInfo)(size:Nat)(ht:P.underlying t=some (.slice e))(hi:P.info? e=some i)
 (v:Value)(n:Nat)(xs:List Value)(cS:iS w base e size v n xs)(c:Nat):(Yg #[t,t] ty #[v, .slice Yw 0 c]).run P w= .ok v w:=by
 rcases cS.2 with⟨rfl,rfl⟩|⟨g,o0,cap,cur,rfl,_,_,KJ,_⟩
 .simp[Yg,run_underlying ht,sizeOf,typeInfo,hi,Builtin.lenOf,Builtin.firstCells]
 .simp[Yg,run_underlying ht,sizeOf,typeInfo,hi,Builtin.lenOf,Builtin.firstCells,KJ,storeCells]
theorem tN(w:World)(base:Nat)(t ty e:TypeId)(i:TypeInfo)(z:Value)(size bytes:Nat)(ht:P.underlying t=some (.slice e))(hi:P.info? e=some i)(hz:i.zero=some z)
 (Ia:i.size=size)(Kj:i.bytes=bytes)(KL:z.cells.size=size)(ir:0<size)
 (v:Value)(n:Nat)(xs:List Value)(cS:iS w base e size v n xs)
 (a:Addr)(m c:Nat)(news:List Value)(hl:news.length=m*size)(Dq:∀j u,news[j]? =some u->w.cell? (a.add j)=some u)(h1:∀u∈news,u.oneCell'=Yx)
 (NQ:n+m<=maxLen)(Dr:(n+m)*bytes<=140737488355328)(Ib:base<=w.heap.size):
 ∃v' w',(Yg #[t,t] ty #[v, .slice (some a) m c]).run P w= .ok v' w'/\iS w' base e size v' (n+m) (xs++news)/\w.grownBy w' v.ownBlock/\
  (v'.ownBlock=v.ownBlock\/v'.ownBlock=some w.heap.size):=by
 rcases cS.2 with⟨rfl,rfl⟩|⟨g,o0,cap,cur,rfl,Sr,hg,KJ,Gy,mH,se⟩
 .have hx:xs=[]:=List.eq_nil_of_length_eq_zero (by simpa using cS.1);subst hx;obtain⟨v',w',g1,g2,g3,_,g4⟩:=run_append_own_at (P:=P) w base t ty e i z size bytes ht hi hz Ia Kj KL ir (.slice Yw 0 0) 0 [] (World.ownsRow_nil w base e size) a m c news hl Dq h1 NQ Dr Ib;exact⟨v',w',g1, .of g2,g3,g4⟩
 subst Ia;subst Kj
 have NR:n+m<=9223372036854775807:=by simp only[maxLen]at NQ;omega
 have hlen:(xs++news).length=(n+m)*i.size:=by rw[WZ,cS.1,hl,Xu]
 have VM:n*i.size+news.length=(n+m)*i.size:=by rw[hl,Xu]
 have Su:n*i.size<=cap*i.size:=W1 _ KJ;by_cases Ds:n+m<=cap
 .have vn:(n+m)*i.size<=cap*i.size:=W1 _ Ds;have hf:=run_firstCells_some (P:=P) w i.size m a m c news hl Dq;have dz:=run_storeCells_at P g (o0+n*i.size) e news 0 cur w hg (by omega) h1;simp only[XL]at dz
  have hr:(Yg #[t,t] ty #[.slice (some ⟨g,o0,Yw⟩) n cap, .slice (some a) m c]).run P w=
   .ok (.slice (some ⟨g,o0,Yw⟩) (n+m) cap) (w.setRow g (cur.toList.take (o0+n*i.size)++news++cur.toList.drop (o0+n*i.size+news.length)).toArray):=by
   simp[Yg,run_underlying ht,sizeOf,typeInfo,hi,Builtin.lenOf,Ds,hf,Addr.add_lit,dz]
  refine⟨_,_,hr,⟨hlen, .inr ⟨g,o0,cap,_,rfl,Sr,setRow_heap w g cur _ e _ hg,Ds,Gy,?_,?_⟩⟩,⟨rfl,rfl,rfl,by simp,λk _ hk=>setRow_other w g k _ (λe=>hk (by simp[Xh,e]))⟩,Or.inl rfl⟩
  .simp only[List.size_toArray,WZ,XE,List.length_drop,Array.length_toList];omega
  .rw[List.toList_toArray,W7,XC (by simp;omega),List.drop_take,Nat.add_sub_cancel_left,se,<-W7,<-hlen];exact List.take_left
 .have holds:∀j u,xs[j]? =some u->w.cell? ((⟨g,o0,Yw⟩:Addr).add j)=some u:=λj u hj=>by
   rw[bK,cell_of_row w g _ cur e (0,0) hg];rw[<-se,W5]at hj;split at hj
   .rw[WV]at hj;simpa using hj
   .cases hj
  have hr:=run_append_grow (P:=P) w t ty e i z ht hi hz ⟨g,o0,Yw⟩ n cap xs cS.1 holds a m c news hl Dq (by omega) (by omega) (growslice_fits (by omega) Dr);have hge:=grownCap_ge w (n+m) cap e;have NS:grownCap w (n+m) cap e<=maxLen:=grownCap_le_maxLen w (n+m) cap e NQ;refine⟨_,_,hr, .of ⟨hlen, .inr ⟨w.heap.size,_,_,rfl,Ib,heap_alloc_new w.drew _,hge,NS,?_,?_⟩⟩,⟨rfl,rfl,rfl,by simp,λk hk _=>heap_alloc_old w.drew _ hk⟩,Or.inr rfl⟩
  .simp only[Array.size_append,List.size_toArray,size_zeroCells,KL,cS.1,hl,<-Xu]
   congr 1
   omega
  .simp only[Array.toList_append,W7];rw[<-W7,<-hlen];exact List.take_left
theorem Reads.same{r:Row}{v:Value}{l:List r.den}(h:Reads F w r v l):Reads F w r v l:=h
theorem qh{e:TypeId}{ti:TypeInfo}{z:Value}{r:Row}{v u:Value}{l m out:List r.den}(ty:TypeId)(ht:P.underlying t=some (.slice e))(hi:P.info? e=some ti)(hz:ti.zero=some z)(KM:z.cells.toList=r.da)(hs:ti.size=r.size)(Kj:ti.bytes<=32768)
 (hv:e7 base F w e r v l)(hu:Reads F w r u m)(hm:bW l m=some out)(hF:∀b,F b->b<w.heap.size)(hb:base<=w.heap.size):
 ∃v' w',(Yg #[t,t] ty #[v,u]).run P w= .ok v' w'/\Ext (aN v) w w'/\e7 base F w' e r v' out/\(aN v'=aN v\/aN v'=(w.heap.size= ·)):=by
 unfold bW at hm;split at hm
 case isFalse=>cases hm
 rename_i hlen;obtain rfl:=WD hm
 have KL:z.cells.size=r.size:=by rw[<-(bD.zero F w r).length,<-KM];simp
 obtain⟨xz,xs,hx,h3⟩:=hv;have Na:=hu;obtain⟨A,cap,rfl,VN,Gy,pD⟩:=hu
 have Dt:∀(v':Value)(w':World)(news:List Value),news.length=m.length*r.size->(∀i(hi:i<m.length),bD F w r ((news.drop (i*r.size)).take r.size) m[i])->
  iS w' base e r.size v' (l.length+m.length) (xs++news)->w.grownBy w' v.ownBlock->w.drawn<=w'.drawn->(v'.ownBlock=v.ownBlock\/v'.ownBlock=some w.heap.size)->
  Ext (aN v) w w'/\e7 base F w' e r v' (l++m)/\(aN v'=aN v\/aN v'=(w.heap.size= ·)):=by
  intro v' _ news Nb Nc dY hg gP pT
  have hm:aN v'=aN v\/aN v'=(w.heap.size= ·):=by
   rcases pT with h|h
   .exact .inl (by unfold aN;rw[h])
   .refine .inr ?_;funext b;unfold aN;rw[h];simp
  have aU:=Ext.Dl hg gP (g:=aN v) λk hk=>hk
  have cF:=Step.ext aU hF xz;refine⟨aU,⟨λk hk=>?_,xs++news,by simpa using dY,λk hk=>?_⟩,hm⟩
  .rcases hm with h|h
   .rw[h]at hk;exact xz k hk
   .rw[h]at hk;intro hf;have:=hF k hf;omega
  .have xL:=hx.1
   rcases Nat.lt_or_ge k l.length with av|hge
   .have hle:(k+1)*r.size<=l.length*r.size:=W1 _ av;rw[Xu]at hle;rw[List.getElem_append_left av,XC (by omega),List.take_append_of_le_length (by rw[List.length_drop];omega)];exact(h3 k av).step cF
   .have Kl:k-l.length<m.length:=by simp at hk;omega
    have hmul:k*r.size=l.length*r.size+(k-l.length)*r.size:=by rw[<-Xu];congr 1;omega
    rw[List.getElem_append_right hge,List.drop_append,xL,XK (by omega),List.nil_append,show k*r.size-l.length*r.size=(k-l.length)*r.size from by omega];exact(Nc _ Kl).step cF
 cases A with
 |none=>
  have IN:m=[]:=by
   cases m with
   |nil=>rfl
   |cons a q=>obtain⟨b,off,h,_⟩:=pD 0 (by simp);cases h
  subst IN;refine⟨v,w,nw w base t ty e ti r.size ht hi v _ xs hx _,?_⟩;exact Dt v w [] (by simp) (λi hi=>absurd hi (by simp)) (by simpa using hx) ⟨rfl,rfl,rfl,WH _,λ_ _ _=>rfl⟩ (WH _) (.inl rfl)
 |some ad=>
  have key:∃news:List Value,news.length=m.length*r.size/\(∀j u,news[j]? =some u->w.cell? (ad.add j)=some u)/\∀i(hi:i<m.length),bD F w r ((news.drop (i*r.size)).take r.size) m[i]:=by
   cases m with
   |nil=>exact⟨[],by simp,λj u h=>by simp at h,λi hi=>absurd hi (by simp)⟩
   |cons a q=>
    obtain⟨b,off,h,_⟩:=pD 0 (by simp);obtain⟨news,h1,h2,h3⟩:=Na.news b off h
    obtain rfl:ad=⟨b,off,Yw⟩:=by simpa using h
    exact⟨news,h1,λj u hj=>by rw[bK];exact h2 j u hj,h3⟩
  obtain⟨news,Nb,KJ,Nc⟩:=key
  have ic:∀u∈news,u.oneCell'=Yx:=by
   intro u hu;obtain⟨j,hj,rfl⟩:=XV hu;have nv:=r.size_pos;have hi:j/r.size<m.length:=Nat.div_lt_of_lt_mul (by rw[Nat.mul_comm,<-Nb];exact hj);have hr:=Nc _ hi;refine hr.fj _ ?_;have hle:(j/r.size)*r.size+j%r.size=j:=Nat.div_add_mod' j r.size;have av:=Nat.mod_lt j nv;rw[List.mem_iff_getElem?];refine⟨j%r.size,?_⟩;rw[W5,YB av,WV,hle,WJ hj]
  obtain⟨v',w',aV,dY,hg,pT⟩:=tN (P:=P) w base t ty e ti z r.size ti.bytes ht hi hz hs rfl KL r.size_pos v l.length xs hx ad m.length cap news Nb KJ ic (by simp only[maxLen];omega)
   (Xa (Nat.mul_le_mul hlen Kj) (by omega)) hb
  exact⟨v',w',aV,Dt v' w' news Nb Nc dY hg (A0 _ _ aV) pT⟩
end
end
end Go.Proofs.YtbladfbbhijpmaaGreat
section
open _root_.Bool renaming false->Yy,true->Yx,false_eq_true->W0
open _root_.Option renaming none->Yw
open _root_.List.cons renaming injEq->XT
open _root_.List renaming drop_eq_getElem_cons->Xm,length_take->XE,take_length->W3
open _root_.Nat renaming add_zero->XL,beq->WI,min_eq_left->XN
open _root_.Option.some renaming injEq->WL
open _root_.Prod.mk renaming injEq->XF
open _root_.Go.Result renaming andThen_ok->Xp
open _root_.Go.Sem renaming run_bind->Xd
namespace Go.Proofs.YtbladfbbhijpmaaGreat
open Go Go.RowKit
theorem bind_some{α β:Type}{o:Option α}{f:α->Option β}{r:β}(h:o.bind f=some r):∃x,o=some x/\f x=some r:=Option.bind_eq_some_iff.1 h
section
variable {P:Program} {n:Nat} {ρ:Nat->Value} {w:World} {K:(Nat->Value)->World->Prop} {Q:Exit->(Nat->Value)->World->Prop}
theorem Du{id:Nat}(h:Q .normal ρ w):Ki id Q (.exit id) ρ w:=by
 show(bif WI id id then _ else _)
 rw[show WI id id=Yx from Nat.beq_refl id];exact h
theorem A5{id AM:Nat}(bY:WI AM id=Yy)(h:Q (.exit AM) ρ w):Ki id Q (.exit AM) ρ w:=by
 show(bif WI AM id then _ else _)
 rw[bY];exact h
theorem e7.fz{base:Nat}{F G:Nat->Prop}{w:World}{T:TypeId}{r:Row}{v:Value}{l:List r.den}(h:e7 base F w T r v l)(hg:∀k,G k->¬aN v k):e7 base (λb=>F b\/G b) w T r v l:=
 h.keep (Step.freeze F w G) λk hk=>⟨λe=>e.elim (h.no k hk) λe=>hg k e hk,rfl⟩
theorem jl.fz{base:Nat}{F G:Nat->Prop}{w:World}{b:Nat}{T:TypeId}{r:Row}{x:r.den}(h:jl base F w b T r x)(hg:∀k,G k->¬is b k):jl base (λb=>F b\/G b) w b T r x:=by
 obtain⟨h1,h2,es,hh,hr⟩:=h;exact⟨h1,λe=>e.elim h2 λe=>hg b e rfl,es,hh,hr.step (Step.freeze F w G)⟩
theorem St.fz{w0 w:World}{F0 F:Nat->Prop}(h:St w0 F0 w F){T:TypeId}{r:Row}{v:Value}{l:List r.den}(ho:e7 w0.heap.size F w T r v l):St w0 F0 w (λb=>F b\/aN v b):=
 h.freeze (aN v) λb hb=>⟨ho.ge b hb,ho.lt b hb⟩
end
def TI(P:Program)(e:TypeId)(r:Row):Prop:=∃ti z,P.info? e=some ti/\ti.zero=some z/\z.cells.toList=r.da/\ti.size=r.size/\ti.bytes<=32768
theorem TI.mk{P:Program}{e:TypeId}{r:Row}{k:Nat}(h:(P.info? e).map (λi=>(i.zero.map (λz=>z.cells.toList),i.size,decide (i.bytes<=32768)))=some (some r.da,k,Yx))(hk:k=r.size):TI P e r:=by
 cases hi:P.info? e with
 |none=>simp[hi]at h
 |some ti=>
  simp only[hi,Option.map_some,WL,XF,YI]at h;obtain⟨h1,h2,h3⟩:=h
  cases hz:ti.zero with
  |none=>simp[hz]at h1
  |some z=>
   simp only[hz,Option.map_some,WL]at h1;exact⟨ti,z,hi,hz,h1,h2.trans hk,h3⟩
section
variable {P:Program} {n:Nat} {ops:Array Oper} {K:(Nat->Value)->World->Prop} {rest:List Oper} {ρ:Nat->Value} {w:World} {F:Nat->Prop} {base:Nat}
variable {d:Nat} {dd:Option Nat} {ty:TypeId} {pos:String} {aft:Array Edge} {x y c:Operand} {t e:TypeId} {r:Row}
theorem iT{f:Nat}{fs:Array Field}{fd:Field}{jx off:Nat}(k:Nat)(hs:P.underlying t=some (.struct fs))(hf:fs[f]? =some fd)(hi:TI P fd.type r)(hk:fd.offset=k)
 (hx:ev ρ x= .pointer (some ⟨jx,off,Yw⟩)):Pure P ρ ⟨dd, .fieldAddr t x f,ty,pos,aft,Yw⟩ (.pointer (some ⟨jx,off+k,Yw⟩)):=by
 obtain⟨ti,z,h1,_,_,h4,_⟩:=hi;exact qg k hs hf h1 (by rw[h4];have:=r.size_pos;omega) hk hx
end
end Go.Proofs.YtbladfbbhijpmaaGreat
namespace Go.Proofs.YtbladfbbhijpmaaGreat
open Go Go.RowKit
noncomputable def jY(r:Row)(x y:r.den):Bool:= @decide (x=y) (Row.decEq r x y)
theorem pV{r:Row}{x y:r.den}:jY r x y=Yx↔x=y:=by simp[jY]
theorem od{r:Row}{x y:r.den}:jY r x y=Yy↔x≠y:=by simp[jY]
def Dv(P:Program)(t:TypeId)(cs:List Value)(v:Value):Prop:=∃D,P.underlying t=some D/\(if fm D=Yx then v= .agg cs.toArray else cs=[v])
def jZ(P:Program)(t:TypeId)(r:Row)(K:Nat):Prop:=
 ∀(d:Nat)(w2 w:World)(F:Nat->Prop)(cs mI:List Value)(x y:r.den)(v v':Value),Dv P t cs v->Dv P t mI v'->bD F w r cs x->bD F w r mI y->
  (Op.equalIn (d+K) t v v').run P w2= .ok (decide (x=y)) w2
def Gz(P:Program)(fs:List Field)(r:Row)(off K:Nat):Prop:=
 ∀(d:Nat)(w2 w:World)(F:Nat->Prop)(xs ys:List Value)(x y:r.den),bD F w r ((xs.drop off).take r.size) x->bD F w r ((ys.drop off).take r.size) y->
  (Op.eqFields (d+K) xs.toArray ys.toArray fs).run P w2= .ok (decide (x=y)) w2
section
variable {P:Program} {t:TypeId} {r:Row} {k:IntKind} {K:Nat}
theorem zI(ht:P.underlying t=some (.int k)):jZ P t (.int k) 1:=by
 intro d w2 w F cs mI x y v v' ⟨D,hD,h1⟩ ⟨D',GA,h2⟩ hx hy;rw[ht]at hD GA;cases hD;cases GA;obtain rfl:cs=_:=hx;obtain rfl:mI=_:=hy;simp only[fm,W0,if_false,XT,and_true]at h1 h2;subst h1;subst h2;rw[run_equalIn_int (h:=ht),lJ]
theorem nz{D:TypeDesc}{ti:TypeInfo}{cs:List Value}{off:Nat}{F:Nat->Prop}{w:World}{x:r.den}(hD:P.underlying t=some D)(hi:P.info? t=some ti)(hs:ti.size=r.size)(ic:fm D=Yy->r.size=1)
 (hr:bD F w r ((cs.drop off).take r.size) x)(w2:World):∃v,(part t cs.toArray off).run P w2= .ok v w2/\Dv P t ((cs.drop off).take r.size) v:=by
 have hl:=hr.length;have nv:=r.size_pos
 cases hA:fm D with
 |true=>
  refine⟨.agg ((cs.drop off).take r.size).toArray,?_,D,hD,by rw[YB hA]⟩;unfold part;rw[Xd,dj hD,hA];simp[sizeOf,typeInfo,hi,hs]
 |false=>
  have h1:=ic hA;rw[h1]at hl⊢
  have av:off<cs.length:=by
   rw[XE,List.length_drop]at hl;omega
  refine⟨cs[off],?_,D,hD,?_⟩
  .unfold part;rw[Xd,dj hD,hA];simp[av]
  .rw[YA (by simp[hA])];rw[Xm av];rfl
theorem kV{f:Field}{off:Nat}(hn:(f.name != "_")=Yx)(ho:f.offset=off){D:TypeDesc}(hD:P.underlying f.type=some D)(ic:fm D=Yy->r.size=1)(hi:TI P f.type r)(he:jZ P f.type r K):Gz P [f] r off K:=by
 intro d w2 w F xs ys x y hx hy;subst ho;obtain⟨ti,z,h1,_,_,h4,_⟩:=hi;obtain⟨v,hv,jm⟩:=nz hD h1 h4 ic hx w2;obtain⟨v',cM,A6⟩:=nz hD h1 h4 ic hy w2;have:=he d w2 w F _ _ x y v v' jm A6 hx hy
 have Dw:f.name≠ "_" :=by simpa using hn
 unfold Op.eqFields;rw[YB Dw,Xd,hv,Xp,Xd,cM,Xp,Xd,this,Xp]
 by_cases mJ:x=y<;>simp[mJ,Op.eqFields]
theorem iz{f:Field}{fs:List Field}{a b:Row}{off:Nat}(hn:(f.name != "_")=Yx)(ho:f.offset=off){D:TypeDesc}(hD:P.underlying f.type=some D)(ic:fm D=Yy->a.size=1)(hi:TI P f.type a)(he:jZ P f.type a K)
 (hr:Gz P fs b (off+a.size) K):Gz P (f::fs) (.pair a b) off K:=by
 intro d w2 w F xs ys x y hx hy;subst ho;obtain⟨ti,z,h1,_,_,h4,_⟩:=hi
 have hle:a.size<=(Row.pair a b).size:=by simp
 have dQ:∀(zs:List Value)(u:(Row.pair a b).den),bD F w (.pair a b) ((zs.drop f.offset).take (Row.pair a b).size) u->bD F w a ((zs.drop f.offset).take a.size) u.1:=by
  intro zs u hu;have:=bD.path (.fst (.here (r:=a)):Path (.pair a b) a) hu;simp only[Path.off,List.drop_zero]at this;rw[List.take_take,XN hle]at this;exact this
 have KN:∀(zs:List Value)(u:(Row.pair a b).den),bD F w (.pair a b) ((zs.drop f.offset).take (Row.pair a b).size) u->bD F w b ((zs.drop (f.offset+a.size)).take b.size) u.2:=by
  intro zs u hu;have:=bD.path (.snd (.here (r:=b)):Path (.pair a b) b) hu;simp only[Path.off,XL]at this;rw[List.drop_take,List.drop_drop]at this;rw[show(Row.pair a b).size-a.size=b.size from by simp]at this;rw[List.take_take,Nat.min_self]at this;exact this
 obtain⟨v,hv,jm⟩:=nz hD h1 h4 ic (dQ xs x hx) w2;obtain⟨v',cM,A6⟩:=nz hD h1 h4 ic (dQ ys y hy) w2;have h5:=he d w2 w F _ _ _ _ v v' jm A6 (dQ xs x hx) (dQ ys y hy);have h6:=hr d w2 w F xs ys _ _ (KN xs x hx) (KN ys y hy)
 have Dw:f.name≠ "_" :=by simpa using hn
 unfold Op.eqFields;rw[YB Dw,Xd,hv,Xp,Xd,cM,Xp,Xd,h5,Xp];obtain⟨x1,x2⟩:=x;obtain⟨y1,y2⟩:=y;by_cases mJ:x1=y1
 .simp only[mJ,decide_true,Bool.not_true,W0,if_false,h6]
  congr 1
  simp[Prod.ext_iff]
 .simp[mJ,Prod.ext_iff]
theorem iA{fs:Array Field}(ht:P.underlying t=some (.struct fs))(hp:P.stoodInHeld t=Yy)(h:Gz P fs.toList r 0 K):jZ P t r (K+1):=by
 intro d w2 w F cs mI x y v v' ⟨D,hD,h1⟩ ⟨D',GA,h2⟩ hx hy;rw[ht]at hD GA;cases hD;cases GA;simp only[fm,if_true]at h1 h2;subst h1;subst h2
 have hf:P.fieldsOf t=fs:=by simp[Program.fieldsOf,ht]
 have KO:=hx.length;have Nd:=hy.length;rw[<-Nat.add_assoc,run_equalIn_struct _ _ _ _ _ (by rw[hf];exact ht) hp,hf];exact h d w2 w F cs mI x y (by rw[List.drop_zero,<-KO,W3];exact hx) (by rw[List.drop_zero,<-Nd,W3];exact hy)
variable {ρ:Nat->Value} {dd:Option Nat} {ty:TypeId} {pos:String} {aft:Array Edge} {x y:Operand} {u:TypeId}
theorem A7{d:Nat}{F:Nat->Prop}{w:World}{es gB:List Value}{a b:r.den}(hE:jZ P t r K)(hd:d+K=10000)(hg:P.eqGuardType P.depth t=Yy)(hD:(P.underlying t).any fm=Yx)
 (hx:ev ρ x= .agg es.toArray)(hy:ev ρ y= .agg gB.toArray)(ha:bD F w r es a)(hb:bD F w r gB b):
 Pure P ρ ⟨dd, .binOp .eql t x y u,ty,pos,aft,Yw⟩ (.bool (jY r a b)):=λw2=>by
 cases hu:P.underlying t with
 |none=>simp[hu]at hD
 |some D=>
  have hA:fm D=Yx:=by simpa[hu]using hD
  have:=hE d w2 w F es gB a b _ _ ⟨D,hu,by rw[YB hA]⟩ ⟨D,hu,by rw[YB hA]⟩ ha hb;rw[hd]at this;simp only[execOp,hx,hy,Xd,run_eqGuard_agg _ _ _ _ _ _ _ hg,Xp,run_eql_struct,this];rfl
theorem A8{d:Nat}{F:Nat->Prop}{w:World}{es gB:List Value}{a b:r.den}(hE:jZ P t r K)(hd:d+K=10000)(hg:P.eqGuardType P.depth t=Yy)(hD:(P.underlying t).any fm=Yx)
 (hx:ev ρ x= .agg es.toArray)(hy:ev ρ y= .agg gB.toArray)(ha:bD F w r es a)(hb:bD F w r gB b):
 Pure P ρ ⟨dd, .binOp .neq t x y u,ty,pos,aft,Yw⟩ (.bool (!jY r a b)):=λw2=>by
 cases hu:P.underlying t with
 |none=>simp[hu]at hD
 |some D=>
  have hA:fm D=Yx:=by simpa[hu]using hD
  have:=hE d w2 w F es gB a b _ _ ⟨D,hu,by rw[YB hA]⟩ ⟨D,hu,by rw[YB hA]⟩ ha hb;rw[hd]at this;simp only[execOp,hx,hy,Xd,run_eqGuard_agg _ _ _ _ _ _ _ hg,Xp,run_neq_struct,this];rfl
end
section
variable {P:Program} {n:Nat} {ops:Array Oper} {K:(Nat->Value)->Prop} {rest:List Oper} {ρ:Nat->Value} {w:World} {F:Nat->Prop}
variable {d:Nat} {ty:TypeId} {pos:String} {aft:Array Edge} {x y:Operand} {t e:TypeId} {r:Row}
theorem At.st{w':World}{b off:Nat}{a:r.den}(h:At F w r b off a)(hF:∀b,F b->b<w.heap.size)(hs:St w F w' F):At F w' r b off a:=by
 obtain⟨es,hl,hc,hr⟩:=h;refine⟨es,hl,λj u hu=>?_,hr.step (hs.step hF)⟩;have:=hc j u hu;have av:b<w.heap.size:=block_lt_of_cell this;exact(World.cell?_of_block (hs.below.block b av)).trans this
end
end Go.Proofs.YtbladfbbhijpmaaGreat
end
namespace Go.Proofs.YtbladfbbhijpmaaGreat
open Go Go.RowKit
set_option maxRecDepth 100000
set_option linter.unusedSimpArgs false
set_option linter.unusedVariables false
set_option linter.defProp false
section
theorem jZ.lift{P:Program}{t:TypeId}{r:Row}{K:Nat}(h:jZ P t r K)(m:Nat):jZ P t r (K+m):=by
 intro d w2 w F cs mI x y v v' h1 h2 h3 h4;have:=h (d+m) w2 w F cs mI x y v v' h1 h2 h3 h4
 rwa [show d+m+K=d+(K+m)from by omega]at this
section
variable {P:Program} {n:Nat} {ops:Array Oper} {K:(Nat->Value)->World->Prop} {rest:List Oper} {ρ:Nat->Value} {w:World} {F:Nat->Prop} {base:Nat}
variable {d:Nat} {ty:TypeId} {pos:String} {aft:Array Edge} {x y:Operand} {t e:TypeId} {r s:Row}
def be{α:Type}(l:List α)(i:Int)(y:α):List α:=l.set i.toNat y
theorem e7.put{g o0 m0 IP q:Nat}{v:Value}{l:List r.den}(h:e7 base F w e r v l)(hg:v= .slice (some ⟨g,o0,Yw⟩) m0 IP)(hq:q<l.length)(hF:∀b,F b->b<w.heap.size)(p:Path r s){vs:List Value}{u:s.den}(hv:bD F w s vs u):
 ∃cur,w.heap[g]? =some (.cells cur e (0,0))/\o0+q*r.size+p.off+vs.length<=cur.size/\
  Ext (aN v) w (w.setRow g (cur.toList.take (o0+q*r.size+p.off)++vs++cur.toList.drop (o0+q*r.size+p.off+vs.length)).toArray)/\
  e7 base F (w.setRow g (cur.toList.take (o0+q*r.size+p.off)++vs++cur.toList.drop (o0+q*r.size+p.off+vs.length)).toArray) e r v (l.set q (p.set l[q] u)):=by
 obtain⟨xz,xs,⟨xL,hx⟩,h3⟩:=h
 rcases hx with⟨rfl,_⟩|⟨g',o1,cap,cur,rfl,hb,hh,h1,h2,mH,se⟩
 .simp at hg
 .simp only[X2,WL,X8,and_true]at hg;obtain⟨⟨rfl,rfl⟩,rfl,rfl⟩:=hg;have hle:=p.le;have hl:=hv.length;have hmul:(q+1)*r.size<=l.length*r.size:=W1 _ hq;rw[Xu]at hmul;have vn:l.length*r.size<=cap*r.size:=W1 _ h1
  have aU:Ext (aN (.slice (some ⟨g',o1,Yw⟩) l.length cap)) w (w.setRow g' (cur.toList.take (o1+q*r.size+p.off)++vs++cur.toList.drop (o1+q*r.size+p.off+vs.length)).toArray):=
   ⟨rfl,⟨rfl,WH _⟩,rfl,by simp,λk _ hk=>setRow_other w g' k _ λe=>hk (by simp[aN,Xh,e])⟩
  have cF:=Step.ext aU hF xz;refine⟨cur,hh,by omega,aU,xz,xs.take (q*r.size+p.off)++vs++xs.drop (q*r.size+p.off+vs.length),⟨by simp;omega, .inr ⟨g',o1,cap,_,by simp,hb,setRow_heap w g' _ _ e (0,0) hh,by simpa using h1,h2,by simp;omega,?_⟩⟩,?_⟩
  .rw[List.length_set,List.toList_toArray,<-se]
   have e0:(cur.toList.take (o1+q*r.size+p.off)++vs++cur.toList.drop (o1+q*r.size+p.off+vs.length)).drop o1=(cur.toList.drop o1).take (q*r.size+p.off)++vs++(cur.toList.drop o1).drop (q*r.size+p.off+vs.length):=by
    rw[W7,XC (by simp;omega),List.drop_take,List.drop_drop,show o1+q*r.size+p.off-o1=q*r.size+p.off by omega,W7,show o1+q*r.size+p.off+vs.length=o1+(q*r.size+p.off+vs.length) by omega]
   rw[e0]
   have vo:cap*r.size<=(cur.toList.drop o1).length:=by simp;omega
   generalize cur.toList.drop o1=c2 at*
   have e1:(c2.take (l.length*r.size)).take (q*r.size+p.off)=c2.take (q*r.size+p.off):=by rw[List.take_take,XN (by omega)]
   rw[e1,List.take_append,List.take_of_length_le (by simp;omega),List.drop_take]
   congr 1
   simp
   congr 1
   omega
  .intro i gC
   have hi:i<l.length:=by simpa using gC
   have KP:(i+1)*r.size<=l.length*r.size:=W1 _ hi;rw[Xu]at KP
   have A:∀j,j<r.size->((xs.take (q*r.size+p.off)++vs++xs.drop (q*r.size+p.off+vs.length)))[i*r.size+j]? =
    if i*r.size+j<q*r.size+p.off then xs[i*r.size+j]? else if i*r.size+j<q*r.size+p.off+vs.length then vs[i*r.size+j-(q*r.size+p.off)]? else xs[i*r.size+j]? :=by
    intro j hj;rw[W7,Yo];simp only[XE,xL,XN (show q*r.size+p.off<=l.length*r.size from by omega)];split
    .rw[W5,YB (by assumption)]
    .rw[Yo];split
     .rename_i h1 h2;rw[YB (by omega)]
     .rename_i h1 h2;rw[YA (by omega),WV]
      congr 1
      omega
   by_cases NT:i=q
   .subst NT;rw[List.getElem_set_self];have hp:=(h3 i hi).put p hv
    have:((xs.take (i*r.size+p.off)++vs++xs.drop (i*r.size+p.off+vs.length)).drop (i*r.size)).take r.size=
     ((xs.drop (i*r.size)).take r.size).take p.off++vs++((xs.drop (i*r.size)).take r.size).drop (p.off+s.size):=by
     have KQ:((xs.drop (i*r.size)).take r.size).length=r.size:=by rw[XE,List.length_drop,xL];omega
     have NU:∀j,j<r.size->((xs.drop (i*r.size)).take r.size)[j]? =xs[i*r.size+j]? :=λj hj=>by rw[W5,YB hj,WV]
     generalize(xs.drop (i*r.size)).take r.size=Ra at KQ NU
     apply List.ext_getElem?
     intro j;rw[Yo (l₁:=Ra.take p.off++vs),Yo (l₁:=Ra.take p.off),WZ,XE,KQ,XN (show p.off<=r.size from by omega),W5 (l:=List.drop _ _)];by_cases hj:j<r.size
     .rw[YB hj,WV,A j hj];by_cases NV:j<p.off
      .rw[YB (by omega),YB (by omega),YB NV,W5,YB NV,NU j hj]
      .rw[YA (by omega)];by_cases M9:j<p.off+vs.length
       .rw[YB (by omega),YB M9,YA NV]
        congr 1
        omega
       .rw[YA (by omega),YA M9,WV,<-NU j hj]
        congr 1
        omega
     .rw[YA hj,YA (by omega),WV,List.getElem?_eq_none (by omega)]
    rw[this];exact hp.step cF
   .rw[List.getElem_set_ne (λe=>NT e.symm)]
    have:((xs.take (q*r.size+p.off)++vs++xs.drop (q*r.size+p.off+vs.length)).drop (i*r.size)).take r.size=(xs.drop (i*r.size)).take r.size:=by
     apply List.ext_getElem?
     intro j;rw[W5,W5];by_cases hj:j<r.size
     .rw[YB hj,YB hj,WV,A j hj,WV]
      rcases Nat.lt_or_gt_of_ne NT with av|hgt
      .have:(i+1)*r.size<=q*r.size:=W1 _ av;rw[Xu]at this;rw[YB (by omega)]
      .have:(q+1)*r.size<=i*r.size:=W1 _ hgt;rw[Xu]at this;rw[YA (by omega),YA (by omega)]
     .rw[YA hj,YA hj]
    rw[this];exact(h3 i hi).step cF
theorem e7.at{g o0 m0 IP q:Nat}{i:Int}{v:Value}{l:List r.den}{a:r.den}(h:e7 base F w e r v l)(hg:v= .slice (some ⟨g,o0,Yw⟩) m0 IP)(hq:i=(q:Nat))(kc:idx l i=some a):At F w r g (o0+q*r.size) a:=by
 obtain⟨b,off,cap,k,hv,hk,av,pT⟩:=h.reads.elem kc
 obtain rfl:k=q:=by omega
 rw[hg]at hv;simp only[X2,WL,X8,and_true]at hv;obtain⟨⟨rfl,rfl⟩,_⟩:=hv;exact pT
theorem Dx(cs:List Value):∀(k:Nat)(pre post:List Value),post.length=cs.length->∀(tail:List Value),
 (cs.zipIdx k).foldl (λ(acc:Array Value)(cj:Value×Nat)=>acc.setIfInBounds (pre.length-k+cj.2) cj.1) (pre++post++tail).toArray=(pre++cs++tail).toArray\/pre.length<k:=by
 induction cs with
 |nil=>intro k pre post hp tail;left;simp at hp;simp[hp]
 |cons c q ih=>
  intro k pre post hp tail;by_cases hk:pre.length<k
  .exact .inr hk
  cases post with
  |nil=>simp at hp
  |cons p0 post=>
   simp only[List.zipIdx_cons,XO]
   rcases ih (k+1) (pre++[c]) post (by simpa using hp) tail with h|h
   .left
    have e1:((pre++p0::post++tail).toArray.setIfInBounds (pre.length-k+k) c)=((pre++[c])++post++tail).toArray:=by
     rw[Nat.sub_add_cancel (by omega)];simp
    rw[e1]
    have e2:(pre++[c]).length-(k+1)=pre.length-k:=by simp
    rw[e2]at h;rw[h];simp
   .simp at h;omega
theorem oe{place:Nat->Option (Nat×Nat)}{i off size:Nat}{v:Value}{vs cells:List Value}{rest:List (Nat×Value)}(hp:place i=some (off,size))(hv:v.cells.toList=vs)(hs:vs.length=size)(hle:off+size<=cells.length):
 Yl place cells.toArray ((i,v)::rest)=Yl place (cells.take off++vs++cells.drop (off+size)).toArray rest:=by
 have Sv:v.cells=vs.toArray:=by rw[<-hv,Xq]
 have hf:=Dx vs 0 (cells.take off) ((cells.drop off).take size) (by simp;omega) (cells.drop (off+size))
 have xM:cells.take off++(cells.drop off).take size++cells.drop (off+size)=cells:=by
  rw[W7,<-List.drop_drop,XW,XW]
 have hlen:(cells.take off).length=off:=by simp;omega
 rw[xM,hlen,Nat.sub_zero]at hf
 rcases hf with hf|hf
 case inr=>omega
 rw[Yl];simp only[hp,Sv,List.size_toArray];rw[YA (by simp;omega)]
 congr 1
 rw[<-Array.foldl_toList,Array.toList_zipIdx];exact hf
inductive qi(F:Nat->Prop)(w:World)(r:Row):List Value->List r.den->Prop where
 |nil:qi F w r [] []
 |cons {v:Value} {vs:List Value} {cs:List Value} {a:r.den} {l:List r.den} (hc:v.cells.toList=cs) (hr:bD F w r cs a) (h:qi F w r vs l):qi F w r (v::vs) (a::l)
theorem qi.length{vs:List Value}{l:List r.den}(h:qi F w r vs l):vs.length=l.length:=by
 induction h with
 |nil=>rfl
 |cons _ _ _ ih=>simp[ih]
theorem qi.fill{vs:List Value}{l:List r.den}(h:qi F w r vs l):∀(k:Nat)(pre post:List Value),pre.length=k*r.size->post.length=vs.length*r.size->
 ∃xs,Yl (λi=>some (i*r.size,r.size)) (pre++post).toArray ((vs.zipIdx k).map λp=>(p.2,p.1))=some (pre++xs).toArray/\xs.length=l.length*r.size/\∀i(hi:i<l.length),bD F w r ((xs.drop (i*r.size)).take r.size) l[i]:=by
 induction h with
 |nil=>
  intro k pre post hp hq;have:post=[]:=List.eq_nil_of_length_eq_zero (by simpa using hq);subst this;exact⟨[],by simp[Yl],by simp,λi hi=>absurd hi (by simp)⟩
 | @cons v vs cs a l hc hr h ih=>
   intro k pre post hp hq;have hl:=hr.length;rw[WX,Xu,Nat.one_mul]at hq;obtain⟨xs,h1,h2,h3⟩:=ih (k+1) (pre++cs) (post.drop r.size) (by rw[WZ,hp,hl,Xu,Nat.one_mul]) (by rw[List.length_drop,hq];omega);refine⟨cs++xs,?_,by rw[WZ,hl,h2,WX,Xu,Nat.one_mul,Nat.add_comm],λi hi=>?_⟩
   .simp only[List.zipIdx_cons,List.map_cons];rw[oe (place:=λi=>some (i*r.size,r.size)) rfl hc hl (by rw[WZ,hp,hq];omega)];rw[<-hp,List.take_left',List.drop_append,XK (by omega),List.nil_append,show pre.length+r.size-pre.length=r.size from by omega]
    .rw[h1];simp[W7]
    .rfl
   .cases i with
    |zero=>
     simp only[Nat.zero_mul,List.drop_zero,List.getElem_cons_zero];rw[<-hl,List.take_left']
     .exact hr
     .rfl
    |succ i=>
     rw[Xu,Nat.one_mul,Nat.add_comm,<-List.drop_drop,<-hl,List.drop_left',hl]
     .simpa using h3 i (by simpa using hi)
     .rfl
def KR(place:Nat->Option (Nat×Nat))(F:Nat->Prop)(w:World)(r:Row)(parts:List (Nat×Value))(x x':r.den):Prop:=
 ∀es,bD F w r es x->∃gB,Yl place es.toArray parts=some gB.toArray/\bD F w r gB x'
theorem KR.nil{place:Nat->Option (Nat×Nat)}{x:r.den}:KR place F w r [] x x:=λes h=>⟨es,by simp[Yl],h⟩
theorem KR.cons{place:Nat->Option (Nat×Nat)}{i off size:Nat}{v:Value}{vs:List Value}{parts:List (Nat×Value)}{x x':r.den}{u:s.den}(p:Path r s)(hp:place i=some (off,size))(ho:p.off=off)(hz:s.size=size)(hv:v.cells.toList=vs)(hr:bD F w s vs u)
 (h:KR place F w r parts (p.set x u) x'):KR place F w r ((i,v)::parts) x x':=λes he=>by
 subst ho;subst hz;have hle:=p.le;have hl:=hr.length;rw[oe hp hv hl (by rw[he.length];omega)];exact h _ (he.put p hr)
end
end
section
open Go Go.RowKit Go.ChangeShapes Go.WideShapes Go.ChangeAt Go.Deep
def WF:(r:Row)->r.den->Prop
 | .int k,n=>k.min<=n/\n<=k.max
 | .bool,_=>True
 | .str,s=>s.size<=maxLen
 | .slice e,l=>l.length<=maxLen/\∀x∈l,WF e x
 | .gP,_=>True
 | .nul _,_=>True
 | .map ..,_=>True
 | .pair a b,x=>WF a x.1/\WF b x.2
def b7:(r:Row)->r.den->Nat
 | .int _,_=>1
 | .bool,_=>1
 | .str,s=>s.size+1
 | .slice e,l=>(l.map (b7 e)).sum+1
 | .gP,_=>1
 | .nul _,_=>1
 | .map ..,_=>1
 | .pair a b,x=>b7 a x.1+b7 b x.2
theorem vp:(r:Row)->(x:r.den)->0<b7 r x
 | .int _,_=>by simp[b7]
 | .bool,_=>by simp[b7]
 | .str,s=>by simp[b7]
 | .slice e,l=>by simp[b7]
 | .gP,_=>by simp[b7]
 | .nul _,_=>by simp[b7]
 | .map ..,_=>by simp[b7]
 | .pair a b,x=>by have:=vp a x.1;simp[b7];omega
theorem kF{H:Type}:(l:List (DataW H))->Rows.uptoBulkAll l=(l.map Rows.uptoBulk).sum
 |[]=>by simp[Rows.uptoBulkAll]
 |a::l=>by simp[Rows.uptoBulkAll,kF l]
def here(w:World)(b:Nat):Prop:=b<w.heap.size
def ga(P:Program)(t:TypeId)(r:Row):Prop:=
 ∀(H:Type)(enc:TypeId×Value->H)(w:World)(spare:Nat->Bool)(held:Bool)(fuel:Nat)(cs:List Value)(x:DataW H×List MemPlace),DataW.trod enc P w 0 spare held fuel t cs=some x->
  ∃y:r.den,bD (here w) w r cs y/\WF r y/\b7 r y<=Rows.uptoBulk x.1
def pW(P:Program)(fs:List Field)(r:Row)(off:Nat):Prop:=
 ∀(H:Type)(enc:TypeId×Value->H)(w:World)(spare:Nat->Bool)(held:Bool)(n:Nat)(cs:List Value)(xs:List (DataW H×List MemPlace)),xs.length=fs.length->
  (∀(i:Nat)(f:Field),fs[i]? =some f->DataW.trod enc P w 0 spare held n f.type ((cs.drop f.offset).take (P.cellsOf f.type))=xs[i]?)->off+r.size<=cs.length->
  ∃y:r.den,bD (here w) w r ((cs.drop off).take r.size) y/\WF r y/\b7 r y<=Rows.uptoBulkAll (xs.map (·.1))
section
variable {P:Program} {t e:TypeId} {r a b:Row} {k:IntKind}
theorem si(ht:P.underlying t=some (.int k)):ga P t (.int k):=by
 intro H enc w spare held fuel cs x h;obtain⟨n,rfl,rfl,hn⟩:=DataW.trod_int ht h;exact⟨n,rfl,by simpa[Lit.wf,WF]using hn,by simp[b7,Rows.uptoBulk]⟩
theorem A9(ht:P.underlying t=some .string):ga P t .str:=by
 intro H enc w spare held fuel cs x h;obtain⟨s,rfl,rfl,hs⟩:=DataW.trod_string ht h;exact⟨s,rfl,hs,Nat.le_of_eq rfl⟩
theorem kW{α:Type}{p:Nat->α->Prop}:(n:Nat)->(∀i,i<n->∃x,p i x)->∃l:List α,l.length=n/\∀i(h:i<l.length),p i l[i]
 |0,_=>⟨[],rfl,λi h=>absurd h (by simp)⟩
 |n+1,h=>by
  obtain⟨l,hl,hp⟩:=kW n λi hi=>h i (by omega)
  obtain⟨x,hx⟩:=h n (by omega);refine⟨l++[x],by simp[hl],λi hi=>?_⟩
  rcases Nat.lt_or_ge i l.length with av|hge
  .rw[List.getElem_append_left av];exact hp i av
  .obtain rfl:i=n:=by simp at hi;omega
   rw[List.getElem_append_right hge];simpa[hl]using hx
theorem iU(ht:P.underlying t=some (.slice e))(hs:P.cellsOf e=r.size)(he:ga P e r):ga P t (.slice r):=by
 intro H enc w spare held fuel cs x h
 rcases open_slice ht h with⟨rfl,rfl⟩|⟨ad,len,cap,m,n,D,Pl,rfl,_,hl,hm,NW,rfl,hi⟩
 .exact⟨[],bD.nil _ _ _,⟨by simp[maxLen],λx hx=>absurd hx (by simp)⟩,by simp[b7,Rows.uptoBulk]⟩
 .have VO:len<=m:=by rw[NW];split<;>omega
  have key:∀i,i<len->∃y:r.den,∃mI,(mI.length=r.size/\(∀j,j<r.size->w.cell? ((ad.add (i*r.size)).add j)=mI[j]?))/\bD (here w) w r mI y/\WF r y/\b7 r y<=Rows.uptoBulk (D i):=by
   intro i gC;obtain⟨mI,hc,Sw⟩:=hi i (by omega);rw[hs]at hc;obtain⟨_,rL,vo⟩:=World.cells?_some hc;obtain⟨y,h1,h2,h3⟩:=he H enc w spare held n mI _ Sw;exact⟨y,mI,⟨rL,vo⟩,h1,h2,h3⟩
  obtain⟨l,Km,hp⟩:=kW len key;subst Km;have nv:=r.size_pos;refine⟨l,⟨some ad,cap,rfl,hl,hm,λi hi=>?_⟩,⟨by omega,λx hx=>?_⟩,?_⟩
  .obtain⟨mI,⟨rL,vo⟩,hr,_,_⟩:=hp i hi;obtain⟨Rb,⟨sj,rG⟩,_⟩:=hp 0 (by omega);have h0:=rG 0 nv;rw[WJ (by omega)]at h0;simp only[Nat.zero_mul,Addr.add,if_true]at h0
   have rM:ad.spot=Yw:=by
    cases rM:ad.spot with
    |none=>rfl
    |some q=>
     unfold World.cell? at h0;split at h0
     .simp[rM]at h0
     .cases h0
   obtain⟨bb,off,sp⟩:=ad;simp only at rM;subst rM;refine⟨bb,off,mI,rfl,block_lt_of_cell h0,rL,λj u hu=>?_,hr⟩;have hj:j<mI.length:=(W2.1 hu).1;have:=vo j (by omega);rw[bK,bK]at this;rw[this,hu]
  .obtain⟨i,hi,rfl⟩:=XV hx;obtain⟨_,_,_,h2,_⟩:=hp i hi;exact h2
  .simp only[b7,Rows.uptoBulk,kF]
   have:∀(n:Nat),n<=l.length->((l.take n).map (b7 r)).sum<=(((WM n).map D).map Rows.uptoBulk).sum:=by
    intro n hn
    induction n with
    |zero=>simp
    |succ n ih=>
     have h1:=ih (by omega);obtain⟨_,_,_,_,h3⟩:=hp n (by omega);rw[List.take_succ_eq_append_getElem (by omega),List.range_succ];simp only[XP,List.sum_append,List.map_cons,List.map_nil,List.sum_cons,List.sum_nil];omega
   have h1:=this l.length (WH _);rw[W3]at h1;omega
theorem iV{f:Field}{off:Nat}(ho:f.offset=off)(hc:P.cellsOf f.type=r.size)(he:ga P f.type r):pW P [f] r off:=by
 intro H enc w spare held n cs xs hl hx _;subst ho
 match xs,hl with
 |[x],_=>
  have h:=hx 0 f rfl;rw[hc]at h;obtain⟨y,h1,h2,h3⟩:=he H enc w spare held n _ x h;exact⟨y,h1,h2,by simpa[Rows.uptoBulkAll]using h3⟩
theorem fu{f:Field}{fs:List Field}{off:Nat}(ho:f.offset=off)(hc:P.cellsOf f.type=a.size)(he:ga P f.type a)(hr:pW P fs b (off+a.size)):pW P (f::fs) (.pair a b) off:=by
 intro H enc w spare held n cs xs hl hx hle;subst ho
 match xs,hl with
 |x::xs,hl=>
  have h:=hx 0 f rfl;rw[hc]at h;obtain⟨y,h1,h2,h3⟩:=he H enc w spare held n _ x h;simp only[Row.size]at hle;obtain⟨z,g1,g2,g3⟩:=hr H enc w spare held n cs xs (by simpa using hl) (λi f' hf=>by simpa using hx (i+1) f' (by simpa using hf)) (by omega);refine⟨(y,z),⟨_,_,?_,h1,g1⟩,⟨h2,g2⟩,by simp only[b7,List.map_cons,Rows.uptoBulkAll];omega⟩;simp only[Row.size];rw[<-List.drop_drop,List.take_add]
theorem ie{fs:Array Field}(ht:P.underlying t=some (.struct fs))(hc:P.cellsOf t=r.size)(h:pW P fs.toList r 0):ga P t r:=by
 intro H enc w spare held fuel cs x hx;obtain⟨xs,n,_,rfl,hlen,xL,hf⟩:=DataW.trod_struct ht hx;rw[hc]at hlen;obtain⟨y,h1,h2,h3⟩:=h H enc w spare held n cs xs (by simpa using xL) (λi f hi=>hf i f (by simpa using hi)) (by omega);rw[List.drop_zero,<-hlen,W3]at h1;exact⟨y,h1,h2,by simp only[Rows.uptoBulk];omega⟩
variable {H:Type} {enc:TypeId×Value->H} {w:World} {base:Nat} {spare:Nat->Bool} {held:Bool} {v:Value} {d:DataW H} {ps:List MemPlace}
theorem GB(ht:P.underlying t=some (.int k))(hv:Value.okWide P w .any base t v)(h:DataW.Trod enc P w 0 spare held t v d ps):∃n:Int,v= .int k n/\WF (.int k) n/\b7 (.int k) n<=Rows.uptoBulk d:=by
 obtain⟨x,rfl,rfl,rfl,wx⟩:=open_int ht hv h;exact⟨x,rfl,by simpa[Lit.wf,WF]using wx,by simp[b7,Rows.uptoBulk]⟩
theorem xN{fs:Array Field}(ht:P.underlying t=some (.struct fs))(ho:ga P t r)(hv:Value.okWide P w .any base t v)(h:DataW.Trod enc P w 0 spare held t v d ps):
 ∃(es:List Value)(x:r.den),v= .agg es.toArray/\bD (here w) w r es x/\WF r x/\b7 r x<=Rows.uptoBulk d:=by
 obtain⟨cs,rfl,_⟩:=okWide_struct ht hv;obtain⟨fuel,hf⟩:=h;obtain⟨x,h1,h2,h3⟩:=ho H enc w spare held fuel _ _ hf;exact⟨cs.toList,x,by simp,by simpa[Value.cells]using h1,h2,h3⟩
theorem mr(hl:laidOutB P=Yx){W W':World}(hb:Below W.heap.size W W'){sp:Nat->Bool}:(ts:List TypeId)->(vs:List Value)->(ds:List (DataW H))->(ps:List MemPlace)->
 (∀t∈ts,(P.readableRec t&&Xt t P.types.size)=Yx)->DataW.TrodAll enc P W 0 (λ_=>Yx) Yx ts vs ds ps->(∀x∈ps,x.block<W.heap.size)->(∀x∈ps,sp x.block=Yx)->DataW.TrodAll enc P W' 0 sp Yx ts vs ds ps
 |[],[],[],_,_,h,_,_=>h
 |t::ts,v::vs,d::ds,ps,hr,h,av,rM=>by
  obtain⟨p,q,h1,h2,rfl⟩:=h;have ht:=hr t (by simp);simp only[Xz,Nat.blt_eq]at ht
  exact⟨p,q,WideElems.Trod_stays hl ht.1 ht.2 h1 (λx hx=>hb.same (av x (by simp[hx]))) (λx hx=>rM x (by simp[hx])),
   mr hl hb ts vs ds q (λt ht=>hr t (by simp[ht])) h2 (λx hx=>av x (by simp[hx])) (λx hx=>rM x (by simp[hx])),rfl⟩
theorem rN{f:Func}{s:ChangeSpec}{apart fresh handsOn again:Bool}{W W':World}{args:Array Value}{v:Value}{ds gs:List (DataW H)}{before pa pv:List MemPlace}
 (hW:DataW.Whole enc P f.params.toList s.vars apart W args.toList ds gs before)
 (tO:∀(b:Nat)(sp:Nat->Bool)(hd:Bool),DataW.TrodAll enc P W' b sp hd f.resultTypes.toList (v.resultList f.resultTypes.size) (s.fn H (ds++gs)).results [])
 (zJ:∀sp:Nat->Bool,(∀p∈before,sp p.block=Yx)->DataW.TrodAll enc P W' 0 sp Yx f.params.toList args.toList (s.fn H (ds++gs)).args pa)
 (Ic:∀sp:Nat->Bool,(∀p∈before,sp p.block=Yx)->DataW.TrodVars enc P W' sp s.vars (s.fn H (ds++gs)).vars pv)
 (Nf:before=pa++pv)(hb:Below W.heap.size W W')
 (iP:∀(j:Nat)(t:TypeId)(r:Value),f.resultTypes[j]? =some t->(v.resultList f.resultTypes.size)[j]? =some r->Value.okWide P W' .any 0 t r):
 s.post enc P f apart fresh handsOn again W args v W':=by
 have av:∀p∈before,p.block<W.heap.size:=λp hp=>hW.lt p hp
 have hold:∀p∈before,(λb=>decide (b<W.heap.size)) p.block=Yx:=λp hp=>by simpa using av p hp
 refine⟨ds,gs,before,[],pa,pv,hW,tO _ _ _,zJ _ hold,Ic _ hold,World.keptBut_mono (λp hp=>⟨hp,?_⟩) (hb.frame (· ∈before)),λ_=>?_⟩
 .rw[Nf,WQ]at hp;exact Or.inr hp
 .obtain⟨_,_,_,_,_,hz,hn⟩:=hW;refine⟨iP,_,_,([]++pa)++pv,⟨[]++pa,pv,trodAll_append (zJ _ (λ_ _=>rfl)) (tO _ _ _),Ic _ (λ_ _=>rfl),rfl,?_,?_⟩,?_⟩
  .intro b off hp
   have bF:MemPlace.cell b off∈before:=by rw[Nf];simpa using hp
   rw[hb.frozen (av _ bF)];exact hz b off bF
  .intro ha;have:=hn ha;rw[Nf]at this;simpa using this
  .intro p hp _;rw[Nf];simpa using hp
end
end
section
def dQ{α:Type}(l:List α)(a b:Int):Option (List α):=if 0<=a/\a<=b/\b<=l.length then some ((l.take b.toNat).drop a.toNat)else Yw
variable {F:Nat->Prop} {w:World} {r:Row}
theorem bD.cut{A:Option Addr}{cap:Nat}{l:List r.den}{a b:Nat}(h:bD F w (.slice r) [.slice A l.length cap] l)(h1:a<=b)(h2:b<=l.length):
 bD F w (.slice r) [sliced A a b cap r.size] ((l.take b).drop a):=by
 obtain⟨A',Dn,hv,hc,hm,hs⟩:=h;simp only[XT,X2,and_true,true_and]at hv;obtain⟨rfl,rfl⟩:=hv
 have hlen:((l.take b).drop a).length=b-a:=by simp;omega
 refine⟨_,cap-a,by rw[hlen];rfl,by omega,by omega,λi hi=>?_⟩
 have gC:a+i<l.length:=by omega
 obtain⟨g,off,es,rfl,hF,pD,nr,hr⟩:=hs (a+i) gC;refine⟨g,off+a*r.size,es,?_,hF,pD,λj u hu=>?_,?_⟩
 .rw[YA (by omega),Option.map_some,bK]
 .rw[<-nr j u hu]
  congr 2
  rw[Xu];omega
 .have:((l.take b).drop a)[i]=l[a+i]:=by simp
  rw[this];exact hr
section
variable {P:Program} {n:Nat} {ops:Array Oper} {K:(Nat->Value)->World->Prop} {rest:List Oper} {ρ:Nat->Value}
variable {d:Nat} {ty:TypeId} {pos:String} {aft:Array Edge} {x y z:Operand} {t e:TypeId}
theorem GC{t e:TypeId}(ht:P.underlying t=some (.slice e)):P.underlying t=some (.slice (P.elem t)):=by
 simp[Program.elem,ht]
inductive IQ(ρ:Nat->Value):Option Operand->Option Int->Prop
 |none:IQ ρ Yw Yw
 |some {x:Operand} {k:IntKind} {i:Int} (h:ev ρ x= .int k i):IQ ρ (some x) (some i)
theorem pX{ti:TypeInfo}{A:Option Addr}{len cap:Nat}{lo hi:Option Operand}{a b:Option Int}(ht:P.underlying t=some (.slice e))(gC:P.info? e=some ti)(hx:ev ρ x= .slice A len cap)
 (ha:IQ ρ lo a)(hb:IQ ρ hi b)(h0:0<=a.getD 0)(h1:a.getD 0<=b.getD len)(h2:b.getD len<=len)(hc:len<=cap):
 (execOp (ev ρ) ⟨some d, .slice t x lo hi Yw,ty,pos,aft,Yw⟩).run P w= .ok (.value (sliced A (a.getD 0).toNat (b.getD len).toNat cap ti.size)) w:=by
 have Ie:=GC ht
 have he:P.elem t=e:=by simp[Program.elem,ht]
 cases ha with
 |none=>
  cases hb with
  |none=>
   have:=run_slice_all (P:=P) (w:=w) t A len cap Ie;simp[execOp,hx,run_sliceAt_slice (P:=P) w t _ _ _ _ Ie,this,he,sizeOf,typeInfo,gC]
  |some hh=>
   rename_i xb kb ib;have:=run_slice_h (P:=P) (w:=w) t A len cap Ie kb ib (by simpa using h1) (by simp at h2;omega);simp[execOp,hx,hh,run_sliceAt_slice (P:=P) w t _ _ _ _ Ie,this,he,sizeOf,typeInfo,gC]
 |some hl=>
  rename_i xa ka ia
  cases hb with
  |none=>
   have:=run_slice_l (P:=P) (w:=w) t A len cap Ie ka ia (by simpa using h0) (by simpa using h1);simp[execOp,hx,hl,run_sliceAt_slice (P:=P) w t _ _ _ _ Ie,this,he,sizeOf,typeInfo,gC]
  |some hh=>
   rename_i xb kb ib;have:=run_slice_lh (P:=P) (w:=w) t A len cap Ie ka kb ia ib (by simpa using h0) (by simpa using h1) (by simp at h2;omega);simp[execOp,hx,hl,hh,run_sliceAt_slice (P:=P) w t _ _ _ _ Ie,this,he,sizeOf,typeInfo,gC]
theorem og{α:Type}{l m:List α}{a b:Int}(h:dQ l a b=some m):∃p q:Nat,a=p/\b=q/\p<=q/\q<=l.length/\m=(l.take q).drop p:=by
 unfold dQ at h;split at h
 case isFalse=>cases h
 rename_i hc;exact⟨a.toNat,b.toNat,by omega,by omega,by omega,by omega,(WD h).symm⟩
end
end
def Dy:List (Nat×((r:Row)×r.den)):=[]
section
inductive DR where
 |leaf (r:Row)
 |sl (T:TypeId) (d:DR)
 |pair (a b:DR)
@[reducible] def DR.row:DR->Row
  | .leaf r=>r
  | .sl _ d=> .slice d.row
  | .pair a b=> .pair a.row b.row
@[reducible] def DR.low:DR->Row
  | .leaf r=>r
  | .sl _ _=> .gP
  | .pair a b=> .pair a.low b.low
theorem DR.size:(d:DR)->d.low.size=d.row.size
 | .leaf _=>rfl
 | .sl _ _=>rfl
 | .pair a b=>by show a.low.size+b.low.size=a.row.size+b.row.size;rw[a.size,b.size]
inductive dx:DR->DR->Type where
 |here {d:DR}:dx d d
 |fst {a b e:DR} (p:dx a e):dx (.pair a b) e
 |snd {a b e:DR} (p:dx b e):dx (.pair a b) e
def dx.lo:{d e:DR}->dx d e->Path d.low e.low
 |_,_, .here=> .here
 |_,_, .fst p=> .fst p.lo
 |_,_, .snd p=> .snd p.lo
def dx.hi:{d e:DR}->dx d e->Path d.row e.row
 |_,_, .here=> .here
 |_,_, .fst p=> .fst p.hi
 |_,_, .snd p=> .snd p.hi
def DR.path:(d:DR)->List Bool->Option ((e:DR)×dx d e)
 |d,[]=>some ⟨d, .here⟩
 | .pair a b,c::p=>match c with
   |false=>match a.path p with
    |some ⟨e,q⟩=>some ⟨e, .fst q⟩
    |none=>Yw
   |true=>match b.path p with
    |some ⟨e,q⟩=>some ⟨e, .snd q⟩
    |none=>Yw
 |_,_::_=>Yw
def gD(F:Nat->Prop)(w:World)(T:TypeId)(r:Row)(v:Value)(l:List r.den):Prop:=
 ∃xs,iS w 0 T r.size v l.length xs/\∀i(h:i<l.length),bD F w r ((xs.drop (i*r.size)).take r.size) l[i]
structure jy(Ss:Nat->Nat->Prop)(n:Nat)(m:Nat->Prop)(S:Nat->Prop):Prop where
 all:∀k,S k↔m k\/∃i,i<n/\Ss i k
 two:∀i j k,i<n->j<n->i≠j->Ss i k->¬Ss j k
 out:∀i k,i<n->Ss i k->¬m k
structure Dz(A B S:Nat->Prop):Prop where
 all:∀k,S k↔A k\/B k
 off:∀k,A k->¬B k
def Ba{α:Type}(F:Nat->Prop)(w:World)(T:TypeId)(r:Row)(rel:Nat->r.den->α->(Nat->Prop)->Prop)(u:Value)(l:List α)(S:Nat->Prop):Prop:=
 ∃(lh:List r.den)(Ss:Nat->Nat->Prop),gD F w T r u lh/\lh.length=l.length/\(∀i(h1:i<lh.length)(h2:i<l.length),rel i lh[i] l[i] (Ss i))/\jy Ss l.length (aN u) S
def fI(F:Nat->Prop)(w:World):(d:DR)->d.low.den->d.row.den->(Nat->Prop)->Prop
 | .leaf _,x',x,S=>x'=x/\∀k,¬S k
 | .sl T d,u,l,S=>Ba F w T d.low (λ_=>fI F w d) u l S
 | .pair a b,x',x,S=>∃A B,fI F w a x'.1 x.1 A/\fI F w b x'.2 x.2 B/\Dz A B S
def gQ(F:Nat->Prop)(w:World):{d e:DR}->dx d e->d.low.den->d.row.den->(Nat->Prop)->Prop
 |_,_, .here,_,_,S=>∀k,¬S k
 |_,_, .fst (b:=b) p,x',x,S=>∃A B,gQ F w p x'.1 x.1 A/\fI F w b x'.2 x.2 B/\Dz A B S
 |_,_, .snd (a:=a) p,x',x,S=>∃A B,fI F w a x'.1 x.1 A/\gQ F w p x'.2 x.2 B/\Dz A B S
section
variable {F F':Nat->Prop} {w w':World} {T:TypeId} {S:Nat->Prop}
theorem gD.to{r:Row}{v:Value}{l:List r.den}(h:gD F w T r v l)(hn:∀k,aN v k->¬F k):e7 0 F w T r v l:=⟨hn,h⟩
theorem gD.keep{r:Row}{v:Value}{l:List r.den}(h:gD F w T r v l)(hs:Step F w F' w')(hb:∀k,aN v k->w'.heap[k]? =w.heap[k]?):gD F' w' T r v l:=by
 obtain⟨xs,⟨vj,xy⟩,h3⟩:=h;refine⟨xs,⟨vj,?_⟩,λi hi=>(h3 i hi).step hs⟩
 rcases xy with h2|⟨gg,o0,cap,cur,rfl,pU,hg,rest⟩
 .exact .inl h2
 .exact .inr ⟨gg,o0,cap,cur,rfl,pU,(hb gg rfl).trans hg,rest⟩
theorem gD.lt{r:Row}{v:Value}{l:List r.den}(h:gD F w T r v l):∀k,aN v k->k<w.heap.size:=by
 obtain⟨xs,h,_⟩:=h
 exact λk hk=>(h.lt k hk).2
theorem gD.one{r:Row}{v:Value}{l:List r.den}(h:gD F w T r v l):v.oneCell'=Yx:=by
 obtain⟨xs,⟨_,h⟩,_⟩:=h
 rcases h with⟨rfl,_⟩|⟨gg,o0,cap,cur,rfl,_⟩<;>rfl
theorem gD.nil(F:Nat->Prop)(w:World)(T:TypeId)(r:Row):gD F w T r (.slice Yw 0 0) []:=(e7.nil 0 F w T r).2
theorem Dz.left{A B:Nat->Prop}(h:Dz A B S):∀k,A k->S k:=λk hk=>(h.all k).2 (.inl hk)
theorem Dz.right{A B:Nat->Prop}(h:Dz A B S):∀k,B k->S k:=λk hk=>(h.all k).2 (.inr hk)
theorem jy.aN{Ss:Nat->Nat->Prop}{n:Nat}{m:Nat->Prop}(h:jy Ss n m S):∀k,m k->S k:=λk hk=>(h.all k).2 (.inl hk)
theorem jy.part{Ss:Nat->Nat->Prop}{n:Nat}{m:Nat->Prop}(h:jy Ss n m S){i:Nat}(hi:i<n):∀k,Ss i k->S k:=λk hk=>(h.all k).2 (.inr ⟨i,hi,hk⟩)
theorem Ba.mono{α:Type}{r:Row}{rel KS:Nat->r.den->α->(Nat->Prop)->Prop}{u:Value}{l:List α}(h:Ba F w T r rel u l S)(hs:Step F w F' w')(hb:∀k,S k->w'.heap[k]? =w.heap[k]?)
 (hr:∀i x'(hi:i<l.length)A,(∀k,A k->S k)->rel i x' l[i] A->KS i x' l[i] A):Ba F' w' T r KS u l S:=by
 obtain⟨lh,Ss,h1,h2,h3,h4⟩:=h;exact⟨lh,Ss,h1.keep hs λk hk=>hb k (h4.aN k hk),h2,λi a b=>hr i _ b _ (h4.part b) (h3 i a b),h4⟩
theorem fI.keep(hs:Step F w F' w'):{d:DR}->{x':d.low.den}->{x:d.row.den}->{S:Nat->Prop}->fI F w d x' x S->(∀k,S k->w'.heap[k]? =w.heap[k]?)->fI F' w' d x' x S
 | .leaf _,_,_,_,h,_=>h
 | .sl T d,u,l,S,h,hb=>Ba.mono (show Ba F w T d.low _ u l S from h) hs hb λi x' hi A hA hr=>fI.keep hs hr λk hk=>hb k (hA k hk)
 | .pair a b,_,_,_,h,hb=>by
   obtain⟨A,B,h1,h2,h3⟩:=h;exact⟨A,B,h1.keep hs λk hk=>hb k (h3.left k hk),h2.keep hs λk hk=>hb k (h3.right k hk),h3⟩
theorem gQ.keep(hs:Step F w F' w'):{d e:DR}->{p:dx d e}->{x':d.low.den}->{x:d.row.den}->{S:Nat->Prop}->gQ F w p x' x S->(∀k,S k->w'.heap[k]? =w.heap[k]?)->gQ F' w' p x' x S
 |_,_, .here,_,_,_,h,_=>h
 |_,_, .fst p,_,_,_,h,hb=>by
  obtain⟨A,B,h1,h2,h3⟩:=h;exact⟨A,B,gQ.keep hs h1 λk hk=>hb k (h3.left k hk),h2.keep hs λk hk=>hb k (h3.right k hk),h3⟩
 |_,_, .snd p,_,_,_,h,hb=>by
  obtain⟨A,B,h1,h2,h3⟩:=h;exact⟨A,B,h1.keep hs λk hk=>hb k (h3.left k hk),gQ.keep hs h2 λk hk=>hb k (h3.right k hk),h3⟩
theorem fI.lt:{d:DR}->{x':d.low.den}->{x:d.row.den}->{S:Nat->Prop}->fI F w d x' x S->∀k,S k->k<w.heap.size
 | .leaf _,_,_,_,h,k,hk=>absurd hk (h.2 k)
 | .sl T d,u,l,S,h,k,hk=>by
   obtain⟨lh,Ss,h1,h2,h3,h4⟩:=h
   rcases(h4.all k).1 hk with hm|⟨i,hi,hm⟩
   .exact h1.lt k hm
   .exact fI.lt (h3 i (by omega) hi) k hm
 | .pair a b,_,_,_,h,k,hk=>by
   obtain⟨A,B,h1,h2,h3⟩:=h
   rcases(h3.all k).1 hk with hm|hm
   .exact fI.lt h1 k hm
   .exact fI.lt h2 k hm
theorem fI.freeze:{d:DR}->{cs:List Value}->{x':d.low.den}->{x:d.row.den}->{S:Nat->Prop}->fI F w d x' x S->(∀k,S k->¬F k)->bD F w d.low cs x'->bD (λb=>F b\/S b) w d.row cs x
 | .leaf _,_,_,_,S,h,_,hr=>by
   obtain⟨rfl,_⟩:=h;exact hr.step (Step.freeze F w S)
 | .sl T d,cs,u,l,S,h,hn,hr=>by
   obtain⟨lh,Ss,⟨xs,hx,KT⟩,h2,h3,h4⟩:=h;obtain⟨rfl,_⟩:=hr
   have xO:e7 0 (λb=>F b\/∃i,i<l.length/\Ss i b) w T d.row u l:=by
    refine⟨λk hk hF=>?_,xs,?_,λi hi=>?_⟩
    .rcases hF with hF|⟨i,hi,hm⟩
     .exact hn k (h4.aN k hk) hF
     .exact h4.out i k hi hm hk
    .rw[<-d.size,<-h2];exact hx
    .have gC:i<lh.length:=by omega
     have:=fI.freeze (h3 i gC hi) (λk hk=>hn k (h4.part hi k hk)) (KT i gC);rw[<-d.size]
     exact this.step λb hb=>⟨hb.imp id λhb=>⟨i,hi,hb⟩,rfl⟩
   exact xO.freeze.step (r:= .slice d.row) λb hb=>⟨by
    rcases hb with(hb|⟨i,hi,hb⟩)|hb
    .exact .inl hb
    .exact .inr (h4.part hi b hb)
    .exact .inr (h4.aN b hb),rfl⟩
 | .pair a b,_,_,_,S,h,hn,hr=>by
   obtain⟨A,B,h1,h2,h3⟩:=h;obtain⟨c1,c2,rfl,r1,r2⟩:=hr;exact⟨c1,c2,rfl,(fI.freeze h1 (λk hk=>hn k (h3.left k hk)) r1).step λb hb=>⟨hb.imp id (h3.left b),rfl⟩,(fI.freeze h2 (λk hk=>hn k (h3.right k hk)) r2).step λb hb=>⟨hb.imp id (h3.right b),rfl⟩⟩
theorem fI.out:{d e:DR}->(p:dx d e)->{x':d.low.den}->{x:d.row.den}->{S:Nat->Prop}->fI F w d x' x S->∃A B,fI F w e (p.lo.get x') (p.hi.get x) A/\gQ F w p x' x B/\Dz A B S
 |_,_, .here,_,_,S,h=>⟨S,λ_=>False,h,λ_ h=>h,⟨λk=>by simp,λ_ _ h=>h⟩⟩
 |_,_, .fst p,_,_,S,h=>by
  obtain⟨A,B,h1,h2,h3⟩:=h;obtain⟨A1,A2,g1,g2,g3⟩:=fI.out p h1;refine⟨A1,λk=>A2 k\/B k,g1,⟨A2,B,g2,h2,λk=>Iff.rfl,λk hk=>h3.off k (g3.right k hk)⟩,λk=>?_,λk hk hh=>?_⟩
  .rw[h3.all,g3.all,or_assoc]
  .exact hh.elim (g3.off k hk) (h3.off k (g3.left k hk))
 |_,_, .snd p,_,_,S,h=>by
  obtain⟨A,B,h1,h2,h3⟩:=h;obtain⟨B1,B2,g1,g2,g3⟩:=fI.out p h2;refine⟨B1,λk=>A k\/B2 k,g1,⟨A,B2,h1,g2,λk=>Iff.rfl,λk hk hh=>h3.off k hk (g3.right k hh)⟩,λk=>?_,λk hk hh=>?_⟩
  .rw[h3.all,g3.all];constructor<;>(intro h;rcases h with h|h|h<;>simp[h])
  .exact hh.elim (λhh=>h3.off k hh (g3.left k hk)) (g3.off k hk)
theorem gQ.put:{d e:DR}->(p:dx d e)->{x':d.low.den}->{x:d.row.den}->{y':e.low.den}->{y:e.row.den}->{A B S:Nat->Prop}->gQ F w p x' x B->fI F w e y' y A->Dz A B S->fI F w d (p.lo.set x' y') (p.hi.set x y) S
 |_,_, .here,_,_,y',y,A,B,S,h,hy,h3=>by
  have:A=S:=by
   funext k;exact propext ⟨λhk=>h3.left k hk,λhk=>((h3.all k).1 hk).elim id λhb=>absurd hb (h k)⟩
  subst this;exact hy
 |_,_, .fst p,x',x,y',y,A,B,S,h,hy,h3=>by
  obtain⟨A2,B2,g1,g2,g3⟩:=h
  have t1:Dz A A2 (λk=>A k\/A2 k):=⟨λ_=>Iff.rfl,λk hk h2=>h3.off k hk (g3.left k h2)⟩
  refine⟨λk=>A k\/A2 k,B2,gQ.put p g1 hy t1,g2,λk=>?_,λk hk h2=>?_⟩
  .rw[h3.all,g3.all,or_assoc]
  .exact hk.elim (λhk=>h3.off k hk (g3.right k h2)) λhk=>g3.off k hk h2
 |_,_, .snd p,x',x,y',y,A,B,S,h,hy,h3=>by
  obtain⟨A2,B2,g1,g2,g3⟩:=h
  have t1:Dz A B2 (λk=>A k\/B2 k):=⟨λ_=>Iff.rfl,λk hk h2=>h3.off k hk (g3.right k h2)⟩
  refine⟨A2,λk=>A k\/B2 k,g1,gQ.put p g2 hy t1,λk=>?_,λk hk h2=>?_⟩
  .rw[h3.all,g3.all];constructor<;>(intro h;rcases h with h|h|h<;>simp[h])
  .exact h2.elim (λh2=>h3.off k h2 (g3.left k hk)) λh2=>g3.off k hk h2
theorem gQ.set:{d e:DR}->(p:dx d e)->{x':d.low.den}->{x:d.row.den}->{S:Nat->Prop}->(y':e.low.den)->(y:e.row.den)->gQ F w p x' x S->gQ F w p (p.lo.set x' y') (p.hi.set x y) S
 |_,_, .here,_,_,_,_,_,h=>h
 |_,_, .fst p,_,_,_,y',y,h=>by
  obtain⟨A,B,h1,h2,h3⟩:=h;exact⟨A,B,h1.set p y' y,h2,h3⟩
 |_,_, .snd p,_,_,_,y',y,h=>by
  obtain⟨A,B,h1,h2,h3⟩:=h;exact⟨A,B,h1,h2.set p y' y,h3⟩
end
end
section
inductive Tree where
 |leaf (r:Row) (x:r.den)
 |own (o:Nat)
 |nil
 |pair (a b:Tree)
 |view (o s:Nat) (r:Row) (m:List r.den)
 |junk (n:Nat)
structure qj where
 i:Int
 p:List Bool
 o:Nat
 s:Nat
inductive Th where
 |box (T:TypeId) (t:Tree)
 |own (T:TypeId) (r:Row) (l:List r.den)
 |oh (T:TypeId) (r:Row) (l:List r.den)
 |map (T:TypeId) (K:Row) (agg:Bool) (V:Row) (l:List (K.den×V.den))
 |fmap (T:TypeId) (K:Row) (agg:Bool) (V:Row) (l:List (K.den×V.den))
 |deep (T:TypeId) (d:DR) (l:List d.row.den) (h:Option qj)
 |fdeep (T:TypeId) (d:DR) (l:List d.row.den)
 |smap (T:TypeId) (K:Row) (agg:Bool) (V:Row) (l:List (K.den×V.den)) (it:Option (Nat×List (K.den×V.den)×Option (K.den×V.den)))
def Th.base:Th->Th
 | .oh T r l=> .own T r l
 | .fmap T K agg V l=> .map T K agg V l
 | .fdeep T d l=> .deep T d l Yw
 |t=>t
inductive ag where
 |dead
 |undef
 |val (agg:Bool) (t:Tree)
 |ptr (o:Nat) (p:List Bool) (off:Nat)
 |at (r:Row) (x:r.den)
 |elem (o s:Nat) (r:Row) (i:Int) (x:r.den) (p:List Bool) (off:Nat)
 |tup (ds:List (Bool×Tree))
 |dlm (o:Nat) (d:DR) (i:Int) (p:List Bool) (off:Nat)
 |fn (f:FuncId) (caps:List (Nat×List Bool×Nat))
 |ifc (T:TypeId) (d:ag)
structure ai where
 val:Nat->Option Value
 con:Nat->Option Th
 sub:Nat->Nat->Prop
structure ai.le(H H':ai):Prop where
 val:∀o v,H.val o=some v->H'.val o=some v
 con:∀s t,H.con s=some t->H'.con s=some t
 sub:∀s t,H.con s=some t->H'.sub s=H.sub s
theorem ai.le.refl(H:ai):H.le H:=⟨λ_ _ h=>h,λ_ _ h=>h,λ_ _ _=>rfl⟩
theorem ai.le.trans{H H' pG:ai}(h:H.le H')(k:H'.le pG):H.le pG:=⟨λo v e=>k.val o v (h.val o v e),λo v e=>k.con o v (h.con o v e),λs t e=>(k.sub s t (h.con s t e)).trans (h.sub s t e)⟩
def gR(H:ai)(o s:Nat)(r:Row)(m:List r.den)(v:Value):Prop:=
 ∃A cap T,∃l:List r.den,∃a b,H.val o=some (.slice A l.length cap)/\H.con s=some (.own T r l)/\a<=b/\b<=l.length/\m=(l.take b).drop a/\v=sliced A a b cap r.size
theorem gR.keep{H H':ai}(hH:H.le H'){o s:Nat}{r:Row}{m:List r.den}{v:Value}(h:gR H o s r m v):gR H' o s r m v:=by
 obtain⟨A,cap,T,l,a,b,h1,h2,h3⟩:=h;exact⟨A,cap,T,l,a,b,hH.val _ _ h1,hH.con _ _ h2,h3⟩
theorem gR.back{H H' pG:ai}(hH:H.le H')(xP:H.le pG){o s:Nat}{r:Row}{m:List r.den}{v0 v:Value}(h0:gR H o s r m v0)(h:gR H' o s r m v):gR pG o s r m v:=by
 obtain⟨A,cap,T,l,a,b,h1,h2,_⟩:=h0;obtain⟨A',Dn,T',l',a',b',k1,k2,k3⟩:=h;have e1:=hH.val _ _ h1;have e2:=hH.con _ _ h2;rw[k1]at e1;rw[k2]at e2;simp only[WL,Th.own.injEq,heq_eq_eq,true_and]at e2;obtain⟨rfl,rfl⟩:=e2;exact⟨A',Dn,T',l',a',b',by rw[e1];exact xP.val _ _ h1,xP.con _ _ h2,k3⟩
theorem gR.one{H:ai}{o s:Nat}{r:Row}{m:List r.den}{v:Value}(h:gR H o s r m v):v.oneCell'=Yx:=by
 obtain⟨A,cap,T,l,a,b,_,_,_,_,_,rfl⟩:=h;simp[sliced,X1]
def gf(H:ai):List (Nat×List Bool×Nat)->List Value->Prop
 |[],vs=>vs=[]
 |c::cs,vs=>∃v us,vs=v::us/\(∃b,H.val c.1=some (.pointer (some ⟨b,0,Yw⟩))/\v= .pointer (some ⟨b,c.2.2,Yw⟩))/\gf H cs us
theorem gf.keep{H H':ai}(hH:∀o v,H.val o=some v->H'.val o=some v):{cs:List (Nat×List Bool×Nat)}->{vs:List Value}->gf H cs vs->gf H' cs vs
 |[],_,h=>h
 |_::_,_,h=>by obtain⟨v,us,e,⟨b,h1,h2⟩,h3⟩:=h;exact⟨v,us,e,⟨b,hH _ _ h1,h2⟩,h3.keep hH⟩
def Holds(H:ai)(F:Nat->Prop)(w:World):Tree->List Value->Prop
 | .leaf r x,cs=>bD F w r cs x
 | .own o,cs=>∃v,H.val o=some v/\v.oneCell'=Yx/\cs=[v]
 | .nil,cs=>cs=[.slice Yw 0 0]
 | .pair a b,cs=>∃c1 c2,cs=c1++c2/\Holds H F w a c1/\Holds H F w b c2
 | .view o s r m,cs=>∃v,cs=[v]/\gR H o s r m v
 | .junk n,cs=>cs.length=n/\∀u∈cs,u.oneCell'=Yx
def Tree.size:Tree->Nat
 | .leaf r _=>r.size
 | .own _=>1
 | .nil=>1
 | .pair a b=>a.size+b.size
 | .view .. =>1
 | .junk n=>n
def au(H:ai)(F:Nat->Prop)(w:World)(agg:Bool)(t:Tree)(v:Value):Prop:=
 ∃cs,Holds H F w t cs/\v=(bif agg then .agg cs.toArray else cs.headD undef)/\(agg=Yy->cs=[v])
def nA(H:ai)(F:Nat->Prop)(w:World):List (Bool×Tree)->List Value->Prop
 |[],vs=>vs=[]
 |d::ds,vs=>∃v us,vs=v::us/\au H F w d.1 d.2 v/\nA H F w ds us
def af(H:ai)(F:Nat->Prop)(w:World):ag->Value->Prop
 | .dead,_=>True
 | .undef,v=>v=Go.undef
 | .val agg t,v=>au H F w agg t v
 | .ptr o _ off,v=>∃b,H.val o=some (.pointer (some ⟨b,0,Yw⟩))/\v= .pointer (some ⟨b,off,Yw⟩)
 | .at r x,v=>∃b off,v= .pointer (some ⟨b,off,Yw⟩)/\F b/\At F w r b off x
 | .elem o s r i x _ off,v=>∃g o0 q T m cap l,H.val o=some (.slice (some ⟨g,o0,Yw⟩) m cap)/\i=(q:Nat)/\H.con s=some (.own T r l)/\idx l i=some x/\v= .pointer (some ⟨g,o0+q*r.size+off,Yw⟩)
 | .tup ds,v=>∃vs,v= .tuple vs.toArray/\nA H F w ds vs
 | .dlm o d i _ off,v=>∃g o0 q m cap,H.val o=some (.slice (some ⟨g,o0,Yw⟩) m cap)/\i=(q:Nat)/\v= .pointer (some ⟨g,o0+q*d.low.size+off,Yw⟩)
 | .fn f caps,v=>∃vs,v= .func (.func f) #[] vs.toArray/\gf H caps vs
 | .ifc T d,v=>∃u,v= .iface T u/\af H F w d u
section
variable {H H':ai} {F F':Nat->Prop} {w w':World}
theorem Holds.length:{t:Tree}->{cs:List Value}->Holds H F w t cs->cs.length=t.size
 | .leaf _ _,_,h=>bD.length h
 | .own _,_,h=>by obtain⟨v,_,_,rfl⟩:=h;rfl
 | .nil,_,h=>by rw[show _=_ from h];rfl
 | .pair a b,_,h=>by obtain⟨c1,c2,rfl,h1,h2⟩:=h;simp[h1.length,h2.length,Tree.size]
 | .view ..,_,h=>by obtain⟨v,rfl,_⟩:=h;rfl
 | .junk _,_,h=>h.1
theorem Holds.fj:{t:Tree}->{cs:List Value}->Holds H F w t cs->∀u∈cs,u.oneCell'=Yx
 | .leaf _ _,_,h=>bD.fj h
 | .own _,_,h=>by obtain⟨v,_,h1,rfl⟩:=h;simpa using h1
 | .nil,_,h=>by rw[show _=_ from h];simp[X1]
 | .pair a b,_,h=>by
   obtain⟨c1,c2,rfl,h1,h2⟩:=h;intro u hu
   rcases WQ.1 hu with h'|h'
   .exact h1.fj u h'
   .exact h2.fj u h'
 | .view ..,_,h=>by obtain⟨v,rfl,h⟩:=h;simpa using h.one
 | .junk _,_,h=>h.2
theorem Holds.keep(hH:H.le H')(hs:Step F w F' w'):{t:Tree}->{cs:List Value}->Holds H F w t cs->Holds H' F' w' t cs
 | .leaf _ _,_,h=>bD.step hs h
 | .own _,_,h=>by obtain⟨v,h0,h1,rfl⟩:=h;exact⟨v,hH.val _ _ h0,h1,rfl⟩
 | .nil,_,h=>h
 | .pair a b,_,h=>by obtain⟨c1,c2,rfl,h1,h2⟩:=h;exact⟨c1,c2,rfl,h1.keep hH hs,h2.keep hH hs⟩
 | .view ..,_,h=>by obtain⟨v,rfl,h⟩:=h;exact⟨v,rfl,h.keep hH⟩
 | .junk _,_,h=>h
theorem Holds.back{pG:ai}{w0:World}{F0:Nat->Prop}(hH:H.le H')(xP:H.le pG):{t:Tree}->{Rb cs:List Value}->Holds H F0 w0 t Rb->Holds H' F w t cs->Holds pG F w t cs
 | .leaf _ _,_,_,_,h=>h
 | .own _,_,_,h0,h=>by
   obtain⟨v,a0,_,_⟩:=h0;obtain⟨u,b0,b1,rfl⟩:=h;have:=hH.val _ _ a0;rw[b0]at this;obtain rfl:=WD this;exact⟨u,xP.val _ _ a0,b1,rfl⟩
 | .nil,_,_,_,h=>h
 | .pair a b,_,_,h0,h=>by
   obtain⟨_,_,_,a1,a2⟩:=h0;obtain⟨c1,c2,rfl,h1,h2⟩:=h;exact⟨c1,c2,rfl,Holds.back (w0:=w0) (F0:=F0) hH xP a1 h1,Holds.back (w0:=w0) (F0:=F0) hH xP a2 h2⟩
 | .view ..,_,_,h0,h=>by
   obtain⟨_,_,h0⟩:=h0;obtain⟨v,rfl,h⟩:=h;exact⟨v,rfl,h0.back hH xP h⟩
 | .junk _,_,_,_,h=>h
theorem au.keep{agg:Bool}{t:Tree}{v:Value}(hH:H.le H')(hs:Step F w F' w')(h:au H F w agg t v):au H' F' w' agg t v:=by
 obtain⟨cs,h1,h2⟩:=h;exact⟨cs,h1.keep hH hs,h2⟩
theorem nA.keep(hH:H.le H')(hs:Step F w F' w'):{ds:List (Bool×Tree)}->{vs:List Value}->nA H F w ds vs->nA H' F' w' ds vs
 |[],_,h=>h
 |_::_,_,h=>by obtain⟨v,us,rfl,h1,h2⟩:=h;exact⟨v,us,rfl,h1.keep hH hs,h2.keep hH hs⟩
theorem At.keep{r:Row}{b off:Nat}{x:r.den}(hs:Step F w F' w')(hb:F b)(h:At F w r b off x):At F' w' r b off x:=by
 obtain⟨es,hl,hc,hr⟩:=h;exact⟨es,hl,λj u hu=>(World.cell?_of_block (hs b hb).2).trans (hc j u hu),hr.step hs⟩
theorem af.keep(hH:H.le H')(hs:Step F w F' w'):{d:ag}->{v:Value}->af H F w d v->af H' F' w' d v
 | .dead,_,_=>trivial
 | .undef,_,h=>h
 | .val _ _,_,h=>au.keep hH hs h
 | .ptr _ _ _,_,h=>by obtain⟨b,h1,h2⟩:=h;exact⟨b,hH.val _ _ h1,h2⟩
 | .at _ _,_,h=>by obtain⟨b,off,h1,h2,h3⟩:=h;exact⟨b,off,h1,(hs b h2).1,h3.keep hs h2⟩
 | .elem ..,_,h=>by obtain⟨g,o0,q,T,m,cap,l,h1,h2,h3,h4⟩:=h;exact⟨g,o0,q,T,m,cap,l,hH.val _ _ h1,h2,hH.con _ _ h3,h4⟩
 | .tup _,_,h=>by obtain⟨vs,h1,h2⟩:=h;exact⟨vs,h1,h2.keep hH hs⟩
 | .dlm ..,_,h=>by obtain⟨g,o0,q,m,cap,h1,h2,h3⟩:=h;exact⟨g,o0,q,m,cap,hH.val _ _ h1,h2,h3⟩
 | .fn ..,_,h=>by obtain⟨vs,h1,h2⟩:=h;exact⟨vs,h1,h2.keep hH.val⟩
 | .ifc _ d,_,h=>by obtain⟨u,h1,h2⟩:=h;exact⟨u,h1,af.keep hH hs (d:=d) h2⟩
def find{α:Type}:List (Nat×α)->Nat->Option α
 |[],_=>Yw
 |(m,a)::l,n=>bif WI m n then some a else find l n
def del{α:Type}(ns:List Nat):List (Nat×α)->List (Nat×α)
 |[]=>[]
 |(m,a)::l=>bif ns.any (WI m)then del ns l else(m,a)::del ns l
theorem aw{α:Type}{m:Nat}{a:α}{l:List (Nat×α)}{n:Nat}:find ((m,a)::l) n=if m=n then some a else find l n:=by
 show(bif WI m n then some a else find l n)=_
 by_cases h:m=n
 .subst h;simp
 .rw[YA h]
  have:WI m n=Yy:=by
   cases hb:WI m n with
   |false=>rfl
   |true=>exact absurd (Xw hb) h
  simp[this]
theorem eD{α:Type}{l l':List (Nat×α)}{n:Nat}:find (l++l') n=(find l n).or (find l' n):=by
 induction l with
 |nil=>rfl
 |cons p l ih=>
  obtain⟨m,a⟩:=p;rw[Ye,aw,aw,ih]
  split<;>rfl
theorem any_beq{ns:List Nat}{m:Nat}:ns.any (WI m)=Yx↔m∈ns:=by
 simp only[List.any_eq_true,Nat.beq_eq];exact⟨λ⟨x,hx,e⟩=>e▸hx,λh=>⟨m,h,rfl⟩⟩
theorem eE{α:Type}{ns:List Nat}{l:List (Nat×α)}{n:Nat}{a:α}:find (del ns l) n=some a↔n∉ns/\find l n=some a:=by
 induction l with
 |nil=>simp[del,find]
 |cons p l ih=>
  obtain⟨m,b⟩:=p;unfold del
  cases hm:ns.any (WI m)with
  |true=>
   have bF:=any_beq.1 hm;rw[cond_true,ih,aw];constructor
   .rintro⟨h1,h2⟩
    have bY:m≠n:=λe=>h1 (e▸bF)
    exact⟨h1,by rw[YA bY];exact h2⟩
   .rintro⟨h1,h2⟩
    have bY:m≠n:=λe=>h1 (e▸bF)
    rw[YA bY]at h2;exact⟨h1,h2⟩
  |false=>
   have bF:m∉ns:=λe=>by rw[any_beq.2 e]at hm;cases hm
   rw[cond_false,aw,aw];by_cases h:m=n
   .subst h;simp[bF]
   .simp only[YA h];exact ih
def mK(F:Nat->Prop)(w:World):Prop:=∀g d,find Dy g=some d->F g/\At F w d.1 g 0 d.2
theorem mK.step{F F':Nat->Prop}{w w':World}(h:mK F w)(hs:Step F w F' w'):mK F' w':=λg d hg=>⟨(hs g (h g d hg).1).1,(h g d hg).2.keep hs (h g d hg).1⟩
def dA(H:ai)(F:Nat->Prop)(w:World)(K:Row)(agg:Bool)(V:Row):List MapEntry->List (K.den×V.den)->Prop
 |[],l=>l=[]
 |e::es,l=>∃k x l',l=(k,x)::l'/\fH K k=some e.key/\au H F w agg (.leaf V x) e.val/\dA H F w K agg V es l'
theorem dA.keep{H H':ai}{F F':Nat->Prop}{w w':World}(hH:H.le H')(hs:Step F w F' w'){K:Row}{agg:Bool}{V:Row}:{es:List MapEntry}->{l:List (K.den×V.den)}->dA H F w K agg V es l->dA H' F' w' K agg V es l
 |[],_,h=>h
 |_::_,_,h=>by obtain⟨k,x,l',e,h1,h2,h3⟩:=h;exact⟨k,x,l',e,h1,h2.keep hH hs,dA.keep hH hs h3⟩
theorem dA.dR{H H':ai}{F:Nat->Prop}{w:World}{K:Row}{agg:Bool}{V:Row}:{es:List MapEntry}->{l:List (K.den×V.den)}->dA H F w K agg V es l->dA H' F w K agg V es l
 |[],_,h=>h
 |_::_,_,h=>by
  obtain⟨k,x,l',e,h1,⟨cs,h2,rH⟩,h3⟩:=h;exact⟨k,x,l',e,h1,⟨cs,h2,rH⟩,dA.dR h3⟩
noncomputable def bN:(K:Row)->K.den->K.den->Bool
 | .int _,a,b=>decide ((a:Int)=b)
 | .bool,a,b=>decide ((a:Bool)=b)
 | .str,a,b=>decide ((a:ByteArray)=b)
 | .pair (.int _) (.int _),a,b=>decide ((a.1:Int)=b.1/\(a.2:Int)=b.2)
 |_,_,_=>Yy
def xQ(H:ai)(F:Nat->Prop)(w:World)(S:Nat->Prop)(K:Row)(agg:Bool)(V:Row)(b:Nat)(es:Array MapEntry)(clock:Nat):Option (Nat×List (K.den×V.den)×Option (K.den×V.den))->Prop
 |none=>True
 |some (n,left,cur)=>∃r since seen last,S r/\r≠b/\H.val n=some (.pointer (some ⟨r,0,Yw⟩))/\w.heap[r]? =some (.mapIter (some b) since seen last)/\(∀x∈es.toList,x.born<since)/\since<=last/\since<=clock/\
   (∃l2,dA H F w K agg V (leftOf es seen).toList l2/\l2.Perm left)/\∀p,cur=some p->last=clock/\∃e∈es.toList,(∃s0:Array Nat,seen=s0.push e.born)/\fH K p.1=some e.key/\au H F w agg (.leaf V p.2) e.val
theorem xQ.keep{H H':ai}{F F':Nat->Prop}{w w':World}{S:Nat->Prop}{K:Row}{agg:Bool}{V:Row}{b:Nat}{es:Array MapEntry}{clock:Nat}{it:Option (Nat×List (K.den×V.den)×Option (K.den×V.den))}
 (hH:H.le H')(hs:Step F w F' w')(hb:∀k,S k->w'.heap[k]? =w.heap[k]?)(h:xQ H F w S K agg V b es clock it):xQ H' F' w' S K agg V b es clock it:=by
 match it,h with
 |none,_=>trivial
 |some (n,left,cur),⟨r,since,seen,last,h1,h2,h3,h4,h5,h6,NX,⟨l2,h7,h8⟩,h9⟩=>
  exact⟨r,since,seen,last,h1,h2,hH.val _ _ h3,(hb r h1).trans h4,h5,h6,NX,⟨l2,h7.keep hH hs,h8⟩,λp hp=>by
   obtain⟨g1,e,g2,g3,g4,g5⟩:=h9 p hp
   exact⟨g1,e,g2,g3,g4,g5.keep hH hs⟩⟩
theorem xQ.dR{H H':ai}{F:Nat->Prop}{w:World}{S:Nat->Prop}{K:Row}{agg:Bool}{V:Row}{b:Nat}{es:Array MapEntry}{clock:Nat}{it:Option (Nat×List (K.den×V.den)×Option (K.den×V.den))}
 (hn:∀n x u,it=some (n,x)->H.val n=some u->H'.val n=some u)(h:xQ H F w S K agg V b es clock it):xQ H' F w S K agg V b es clock it:=by
 match it,h,hn with
 |none,_,_=>trivial
 |some (n,left,cur),⟨r,since,seen,last,h1,h2,h3,h4,h5,h6,NX,⟨l2,h7,h8⟩,h9⟩,hn=>
  exact⟨r,since,seen,last,h1,h2,hn _ _ _ rfl h3,h4,h5,h6,NX,⟨l2,h7.dR,h8⟩,λp hp=>by
   obtain⟨g1,e,g2,g3,g4,cs,g5,g6⟩:=h9 p hp
   exact⟨g1,e,g2,g3,g4,cs,g5,g6⟩⟩
def ke(H:ai)(F:Nat->Prop)(w:World)(d:DR)(h:Option qj)(i:Nat)(x':d.low.den)(x:d.row.den)(S:Nat->Prop):Prop:=
 match h with
 |none=>fI F w d x' x S
 |some h=>(h.i≠(i:Int)->fI F w d x' x S)/\(h.i=(i:Int)->∃T' e,∃q:dx d (.sl T' e),d.path h.p=some ⟨_,q⟩/\gQ F w q x' x S/\H.val h.o=some (q.lo.get x'))
theorem ke.keep{H H':ai}{F F':Nat->Prop}{w w':World}{d:DR}{h:Option qj}{i:Nat}{x':d.low.den}{x:d.row.den}{S:Nat->Prop}(hr:ke H F w d h i x' x S)(hH:H.le H')(hs:Step F w F' w')(hb:∀k,S k->w'.heap[k]? =w.heap[k]?):ke H' F' w' d h i x' x S:=by
 cases h with
 |none=>exact fI.keep hs hr hb
 |some h=>
  refine⟨λhi=>(hr.1 hi).keep hs hb,λhi=>?_⟩;obtain⟨T',e,q,h1,h2,h3⟩:=hr.2 hi;exact⟨T',e,q,h1,h2.keep hs hb,hH.val _ _ h3⟩
def fp(S:Nat->Prop)(v:Value):Th->Nat->Prop
 | .box ..,k=>v= .pointer (some ⟨k,0,Yw⟩)
 | .own ..,k=>aN v k
 | .oh ..,_=>False
 | .map ..,k=>v= .map (some k)
 | .fmap ..,_=>False
 | .deep ..,k=>S k
 | .fdeep ..,_=>False
 | .smap ..,k=>S k
def eC(H:ai)(F:Nat->Prop)(w:World)(S:Nat->Prop)(v:Value):Th->Prop
 | .box T t=>∃b es,v= .pointer (some ⟨b,0,Yw⟩)/\w.heap[b]? =some (.cells es.toArray T (0,0))/\Holds H F w t es
 | .own T r l=>∃xs,iS w 0 T r.size v l.length xs/\∀i(h:i<l.length),bD F w r ((xs.drop (i*r.size)).take r.size) l[i]
 | .oh _ r l=>bD F w (.slice r) [v] l
 | .fmap _ K agg V l=>bD F w (.map K agg V) [v] l
 | .map _ K agg V l=>∃b es clock,v= .map (some b)/\w.heap[b]? =some (.map es clock)/\MapKept.Stamped es clock/\dA H F w K agg V es.toList l
 | .deep T d l h=>Ba F w T d.low (ke H F w d h) v l S
 | .fdeep _ d l=>bD F w (.slice d.row) [v] l
 | .smap _ K agg V l it=>∃b es clock l',v= .map (some b)/\S b/\w.heap[b]? =some (.map es clock)/\MapKept.Stamped es clock/\dA H F w K agg V es.toList l'/\l'.Perm l/\xQ H F w S K agg V b es clock it
structure Bb(U:Nat->Prop)(H:ai)(F:Nat->Prop)(w:World)(v:Value)(s:Nat)(t:Th):Prop where
 one:v.oneCell'=Yx
 con:H.con s=some t.base
 ok:eC H F w (H.sub s) v t
 no:∀k,fp (H.sub s) v t k->¬F k
 lt:∀k,fp (H.sub s) v t k->k<w.heap.size
 use:∀k,fp (H.sub s) v t k->U k
structure ak(U:Nat->Prop)(H:ai)(F:Nat->Prop)(w:World)(ob:Nat->Option (Nat×Th))(n:Nat):Prop where
 obj:∀o s t,ob o=some (s,t)->∃v,H.val o=some v/\Bb U H F w v s t
 apart:∀o o' s s' t t' v v',o≠o'->ob o=some (s,t)->ob o'=some (s',t')->H.val o=some v->H.val o'=some v'->∀k,fp (H.sub s) v t k->¬fp (H.sub s') v' t' k
 fresh:∀m,n<=m->m<n+16->H.val m=Yw/\H.con m=Yw
 lt:∀b,F b->b<w.heap.size
 new:∀b,w.heap.size<=b->U b
 gl:mK F w
theorem eC.heap{S:Nat->Prop}{v:Value}{t:Th}(h:eC H F w S v t)(hH:H.le H')(hs:Step F w F' w')(hb:∀k,fp S v t k->w'.heap[k]? =w.heap[k]?):eC H' F' w' S v t:=by
 cases t with
 |box T t=>
  obtain⟨b,es,rfl,h1,h2⟩:=h;exact⟨b,es,rfl,(hb b rfl).trans h1,h2.keep hH hs⟩
 |own T r l=>
  obtain⟨xs,⟨vj,xy⟩,h3⟩:=h;refine⟨xs,⟨vj,?_⟩,λi hi=>(h3 i hi).step hs⟩
  rcases xy with h2|⟨gg,o0,cap,cur,rfl,pU,hg,rest⟩
  .exact .inl h2
  .exact .inr ⟨gg,o0,cap,cur,rfl,pU,(hb gg rfl).trans hg,rest⟩
 |oh T r l=>exact bD.step (r:= .slice r) hs h
 |fmap T K agg V l=>exact bD.step (r:= .map K agg V) hs h
 |fdeep T d l=>exact bD.step (r:= .slice d.row) hs h
 |deep T d l hh=>exact Ba.mono (show Ba F w T d.low _ v l S from h) hs hb λi x' hi A hA hr=>hr.keep hH hs λk hk=>hb k (hA k hk)
 |map T K agg V l=>
  obtain⟨b,es,clock,rfl,h1,h2,h3⟩:=h;exact⟨b,es,clock,rfl,(hb b rfl).trans h1,h2,h3.keep hH hs⟩
 |smap T K agg V l it=>
  obtain⟨b,es,clock,l',rfl,h0,h1,h2,h3,h4,h5⟩:=h;exact⟨b,es,clock,l',rfl,h0,(hb b h0).trans h1,h2,h3.keep hH hs,h4,h5.keep hH hs hb⟩
theorem e7.of{v:Value}{T:TypeId}{r:Row}{l:List r.den}{S:Nat->Prop}(h:eC H F w S v (.own T r l))(hn:∀k,aN v k->¬F k):e7 0 F w T r v l:=⟨hn,h⟩
theorem e7.to{v:Value}{T:TypeId}{r:Row}{l:List r.den}(S:Nat->Prop)(h:e7 0 F w T r v l):eC H F w S v (.own T r l):=h.2
end
structure State where
 ah:List (Nat×ag)
 objs:List (Nat×(Nat×Th))
 nxt:Nat
def eF(H:ai)(n:Nat):Prop:=∀m,n<=m->H.val m=Yw/\H.con m=Yw
structure Sat(U:Nat->Prop)(H:ai)(F:Nat->Prop)(w:World)(ρ:Nat->Value)(st:State):Prop where
 slot:∀t d,find st.ah t=some d->af H F w d (ρ t)
 ob:ak U H F w (find st.objs) st.nxt
 all:eF H st.nxt
structure cI where
 dst:ag
 eat:List Nat:=[]
 make:List (Nat×(Nat×Th)):=[]
def State.apply(st:State)(d:Option Nat)(e:cI):State:=
 {ah:=(match d with|some d=>(d,e.dst)::st.ah|none=>st.ah),objs:=e.make++del e.eat st.objs,nxt:=st.nxt+16}
def bn(H:ai)(ob:Nat->Option (Nat×Th))(eat:List Nat)(k:Nat):Prop:=∃o∈eat,∃s t v,ob o=some (s,t)/\H.val o=some v/\fp (H.sub s) v t k
structure F8(H:ai)(F:Nat->Prop)(w:World)(H':ai)(F':Nat->Prop)(w':World)(g:Nat->Prop):Prop where
 dR:H.le H'
 ext:Ext g w w'
 le:∀b,F b->F' b
 grow:∀b,F' b->F b\/w.heap.size<=b\/g b
 lt:∀b,F' b->b<w'.heap.size
structure Made(H':ai)(F':Nat->Prop)(w w':World)(g:Nat->Prop)(make:List (Nat×(Nat×Th))):Prop where
 obj:∀o s t,find make o=some (s,t)->∃v,H'.val o=some v/\v.oneCell'=Yx/\H'.con s=some t.base/\eC H' F' w' (H'.sub s) v t/\∀k,fp (H'.sub s) v t k->¬F' k/\k<w'.heap.size/\(w.heap.size<=k\/g k)
 apart:∀o o' s s' t t' v v',o≠o'->find make o=some (s,t)->find make o'=some (s',t')->H'.val o=some v->H'.val o'=some v'->∀k,fp (H'.sub s) v t k->¬fp (H'.sub s') v' t' k
structure gS(H:ai)(F:Nat->Prop)(w:World)(ob:Nat->Option (Nat×Th))(n:Nat)(e:cI)(v:Value)(w':World)(H':ai)(F':Nat->Prop):Prop where
 gv:F8 H F w H' F' w' (bn H ob e.eat)
 fresh:∀m,(m<n\/n+16<=m)->(H.val m=Yw->H'.val m=Yw)/\(H.con m=Yw->H'.con m=Yw)
 dst:af H' F' w' e.dst v
 made:Made H' F' w w' (bn H ob e.eat) e.make
 ids:∀o,(find e.make o).isSome->o∈e.eat\/n<=o
def gW(H:ai)(F:Nat->Prop)(w:World)(ob:Nat->Option (Nat×Th))(n:Nat)(e:cI)(v:Value)(w':World):Prop:=∃H' F',gS H F w ob n e v w' H' F'
def pH(ρ:Nat->Value):Option Nat->Value->Nat->Value
 |some d,v=>xx ρ d v
 |none,_=>ρ
theorem kf(ρ:Nat->Value)(d:Nat)(v:Value)(t:Nat):xx ρ d v t=if t=d then v else ρ t:=by
 unfold xx;by_cases h:t=d
 .subst h;simp
 .have:WI t d=Yy:=by
   cases hb:WI t d with
   |false=>rfl
   |true=>exact absurd (Xw hb) h
  simp[this,h]
section
variable {U:Nat->Prop} {H H':ai} {F F':Nat->Prop} {w w':World} {ρ:Nat->Value} {st:State}
theorem F8.step{g:Nat->Prop}(h:F8 H F w H' F' w' g)(hF:∀b,F b->b<w.heap.size)(hg:∀k,g k->¬F k):Step F w F' w':=
 λb hb=>⟨h.le b hb,h.ext.block b (hF b hb) λe=>hg b e hb⟩
theorem ak.db{ob:Nat->Option (Nat×Th)}{n:Nat}(h:ak U H F w ob n){eat:List Nat}:∀k,bn H ob eat k->¬F k:=by
 rintro k ⟨o,_,s,t,v,h1,h2,h3⟩
 obtain⟨v',e,hi⟩:=h.obj o s t h1;rw[h2]at e;obtain rfl:=WD e;exact hi.no k h3
theorem ak.qk{ob:Nat->Option (Nat×Th)}{n:Nat}(h:ak U H F w ob n){eat:List Nat}:∀k,bn H ob eat k->k<w.heap.size:=by
 rintro k ⟨o,_,s,t,v,h1,h2,h3⟩
 obtain⟨v',e,hi⟩:=h.obj o s t h1;rw[h2]at e;obtain rfl:=WD e;exact hi.lt k h3
theorem ak.dC{ob:Nat->Option (Nat×Th)}{n:Nat}(h:ak U H F w ob n){eat:List Nat}:∀k,bn H ob eat k->U k:=by
 rintro k ⟨o,_,s,t,v,h1,h2,h3⟩
 obtain⟨v',e,hi⟩:=h.obj o s t h1;rw[h2]at e;obtain rfl:=WD e;exact hi.use k h3
theorem Bb.gv{ob:Nat->Option (Nat×Th)}{n:Nat}(hs:ak U H F w ob n){eat:List Nat}(he:F8 H F w H' F' w' (bn H ob eat)){o s:Nat}{t:Th}{v:Value}(ho:ob o=some (s,t))(hn:o∉eat)(hv:H.val o=some v)(h:Bb U H F w v s t):Bb U H' F' w' v s t:=by
 have Rc:∀k,fp (H.sub s) v t k->¬bn H ob eat k:=by
  rintro k hk ⟨o',fZ,s',t',v',h1,h2,h3⟩
  exact hs.apart o o' s s' t t' v v' (λe=>hn (e▸fZ)) ho h1 hv h2 k hk h3
 have dN:=he.dR.sub _ _ h.con;refine⟨h.one,he.dR.con _ _ h.con,by rw[dN];exact h.ok.heap he.dR (he.step hs.lt hs.db) λk hk=>he.ext.block k (h.lt k hk) (Rc k hk),λk hk hF=>?_,λk hk=>Xg (h.lt k (by rwa [dN]at hk)) he.ext.size,λk hk=>h.use k (by rwa [dN]at hk)⟩;rw[dN]at hk
 rcases he.grow k hF with h1|h1|h1
 .exact h.no k hk h1
 .have:=h.lt k hk;omega
 .exact Rc k hk h1
theorem ak.DA{ob F9 DB:Nat->Option (Nat×Th)}{n n' m:Nat}{e:cI}{v:Value}(h:ak U H F w ob n)(hR:∀o x,F9 o=some x->ob o=some x)(hp:gS H F w F9 m e v w' H' F')
 (part:∀o s t,DB o=some (s,t)->find e.make o=some (s,t)\/(o∉e.eat/\ob o=some (s,t)/\find e.make o=Yw))(tP:∀m,n'<=m->m<n'+16->H'.val m=Yw/\H'.con m=Yw):
 ak U H' F' w' DB n':=by
 have ql:∀k,bn H F9 e.eat k->bn H ob e.eat k:=λk ⟨o,ho,s,t,v,h1,h2⟩=>⟨o,ho,s,t,v,hR _ _ h1,h2⟩
 have KU:F8 H F w H' F' w' (bn H ob e.eat):=⟨hp.gv.dR,⟨hp.gv.ext.os,hp.gv.ext.tape,hp.gv.ext.output,hp.gv.ext.size,λk hk hn=>hp.gv.ext.block k hk λhh=>hn (ql k hh)⟩,hp.gv.le,λb hb=>(hp.gv.grow b hb).imp id λh=>h.imp id (ql b),hp.gv.lt⟩
 have Ga:∀o s t,o∉e.eat->ob o=some (s,t)->∃v,H.val o=some v/\H'.val o=some v/\Bb U H' F' w' v s t/\H'.sub s=H.sub s/\∀k,fp (H'.sub s) v t k->k<w.heap.size/\¬bn H ob e.eat k:=by
  intro o s t ho hf;obtain⟨v,hv,hi⟩:=h.obj o s t hf;have dN:=hp.gv.dR.sub _ _ hi.con;refine⟨v,hv,hp.gv.dR.val _ _ hv,hi.gv h KU hf ho hv,dN,λk hk=>?_⟩;rw[dN]at hk;refine⟨hi.lt k hk,?_⟩
  rintro⟨o',fZ,s',t',v',h1,h2,h3⟩
  exact h.apart o o' s s' t t' v v' (λe=>ho (e▸fZ)) hf h1 hv h2 k hk h3
 refine⟨λo s t ho=>?_,λo o' s s' t t' v v' bY ho fZ hv cM k hk gX=>?_,tP,hp.gv.lt,λb hb=>h.new b (Xa hp.gv.ext.size hb),h.gl.step (KU.step h.lt h.db)⟩
 .rcases part o s t ho with h1|⟨h1,h2,_⟩
  .obtain⟨v,a1,a2,a3,a4,a5⟩:=hp.made.obj o s t h1;exact⟨v,a1,a2,a3,a4,λk hk=>(a5 k hk).1,λk hk=>(a5 k hk).2.1,λk hk=>(a5 k hk).2.2.elim (h.new k) (λhh=>h.dC k (ql k hh))⟩
  .obtain⟨v,_,a2,a3,_,_⟩:=Ga o s t h1 h2;exact⟨v,a2,a3⟩
 .rcases part o s t ho with h1|⟨h1,h2,_⟩<;>rcases part o' s' t' fZ with qm|⟨qm,rH,_⟩
  .exact hp.made.apart o o' s s' t t' v v' bY h1 qm hv cM k hk gX
  .obtain⟨u,_,a1,_,_,a5⟩:=hp.made.obj o s t h1;obtain⟨u',_,b2,_,_,b4⟩:=Ga o' s' t' qm rH;have e1:=WD (cM.symm.trans b2);subst e1;have e2:=WD (hv.symm.trans ‹H'.val o=some u›);subst e2
   rcases(a5 k hk).2.2 with h3|h3
   .have:=(b4 k gX).1;omega
   .exact(b4 k gX).2 (ql k h3)
  .obtain⟨u,_,a1,_,_,a5⟩:=hp.made.obj o' s' t' qm;obtain⟨u',_,b2,_,_,b4⟩:=Ga o s t h1 h2;have e1:=WD (hv.symm.trans b2);subst e1;have e2:=WD (cM.symm.trans ‹H'.val o'=some u›);subst e2
   rcases(a5 k gX).2.2 with h3|h3
   .have:=(b4 k hk).1;omega
   .exact(b4 k hk).2 (ql k h3)
  .obtain⟨u,b1,b2,_,b5,_⟩:=Ga o s t h1 h2;obtain⟨u',c1,c2,_,c5,_⟩:=Ga o' s' t' qm rH;rw[b5]at hk;rw[c5]at gX;have e1:=WD (hv.symm.trans b2);have e2:=WD (cM.symm.trans c2);subst e1;subst e2;exact h.apart o o' s s' t t' v v' bY h2 rH b1 c1 k hk gX
theorem xR{objs:List (Nat×(Nat×Th))}{e:cI}:∀o s t,find (e.make++del e.eat objs) o=some (s,t)->find e.make o=some (s,t)\/(o∉e.eat/\find objs o=some (s,t)/\find e.make o=Yw):=by
 intro o s t ho;rw[eD]at ho
 cases hm:find e.make o with
 |some x=>rw[hm]at ho;exact .inl ho
 |none=>
  rw[hm,X3]at ho;obtain⟨h1,h2⟩:=eE.1 ho;exact .inr ⟨h1,h2,rfl⟩
theorem Sat.apply{d:Option Nat}{e:cI}{v:Value}(h:Sat U H F w ρ st)(hp:gS H F w (find st.objs) st.nxt e v w' H' F'):Sat U H' F' w' (pH ρ d v) (st.apply d e):=by
 have df:eF H' (st.nxt+16):=λm hm=>⟨(hp.fresh m (.inr hm)).1 (h.all m (by omega)).1,(hp.fresh m (.inr hm)).2 (h.all m (by omega)).2⟩
 refine⟨λt q hq=>?_,h.ob.DA (λ_ _ h=>h) hp xR λm hm _=>df m hm,df⟩;have dz:=hp.gv.step h.ob.lt h.ob.db
 cases d with
 |none=>exact(h.slot t q hq).keep hp.gv.dR dz
 |some d=>
  have o8:find ((d,e.dst)::st.ah) t=some q:=hq;rw[aw]at o8
  show af H' F' w' q (xx ρ d v t)
  rw[kf];by_cases hd:d=t
  .rw[YB hd]at o8;rw[YB hd.symm];obtain rfl:=WD o8;exact hp.dst
  .rw[YA hd]at o8;rw[YA (Ne.symm hd)];exact(h.slot t q o8).keep hp.gv.dR dz
end
end
section
def bj(P:Program)(ρ:Nat->Value)(o:Oper)(w:World)(Q:Value->World->Prop):Prop:=
 match(execOp (ev ρ) o).run P w with
 | .ok (.value v) w'=>True/\Q v w'
 | .ok .skip w'=>o.dst=Yw/\Q undef w'
 | .ok (.enter f args) w'=>Calls P f args w' λe pY=>∃v,e= .returned v/\Q v pY
 |_=>False
section
variable {P:Program} {n:Nat} {ops:Array Oper} {K:(Nat->Value)->World->Prop} {rest:List Oper} {ρ:Nat->Value} {w:World}
variable {dst:Option Nat} {op:Op} {ty:TypeId} {pos:String} {aft:Array Edge} {Q:Value->World->Prop}
theorem bj.mono{o:Oper}{Q':Value->World->Prop}(h:bj P ρ o w Q)(hq:∀v w',Q v w'->Q' v w'):bj P ρ o w Q':=by
 unfold bj at*;generalize(execOp (ev ρ) o).run P w=r at*
 cases r with
 |halt x w'=>exact h
 |ok x w'=>
  cases x<;>first
   |exact h
   |exact⟨h.1,hq _ _ h.2⟩
   |exact h.mono λe pY ⟨v,he,hv⟩=>⟨v,he,hq _ _ hv⟩
theorem bj.val{d:Option Nat}{v:Value}{w':World}(hr:(execOp (ev ρ) ⟨d,op,ty,pos,aft,Yw⟩).run P w= .ok (.value v) w')(h:Q v w'):bj P ρ ⟨d,op,ty,pos,aft,Yw⟩ w Q:=by
 unfold bj;rw[hr];exact⟨trivial,h⟩
theorem bj.unit{w':World}(hr:(execOp (ev ρ) ⟨Yw,op,ty,pos,aft,Yw⟩).run P w= .ok .skip w')(h:Q undef w'):bj P ρ ⟨Yw,op,ty,pos,aft,Yw⟩ w Q:=by
 unfold bj;rw[hr];exact⟨rfl,h⟩
theorem qn(h:bj P ρ ⟨dst,op,ty,pos,aft,Yw⟩ w Q)(hd:∀d,dst=some d->Xt d n=Yx)
 (hk:∀v w',Q v w'->wpS P n ops K rest (pH ρ dst v) w'):wpS P n ops K (⟨dst,op,ty,pos,aft,Yw⟩::rest) ρ w:=
 λQQ a hf Bc=>wpList_plain rfl λK' hK=>by
  unfold Oper.wp;rw[hf.eval];unfold bj at h;generalize(execOp (ev ρ) ⟨dst,op,ty,pos,aft,Yw⟩).run P w=r at*
  have mL:∀v,Fr n (a.put dst v) (pH ρ dst v):=λv=>by
   cases dst with
   |none=>exact hf
   |some d=>exact hf.put (hd d rfl) v
  cases r with
  |halt x w'=>exact h.elim
  |ok x w'=>
   cases x<;>first
    |exact h.elim
    |skip
   case value v=>exact hK _ _ (hk v w' h.2 QQ _ (mL v) Bc)
   case skip=>exact hK _ _ (hk undef w' h.2 QQ _ (mL undef) Bc)
   case enter f args=>
    refine h.mono λe pY ⟨v,he,hv⟩=>?_
    subst he;exact hK _ _ (hk v pY hv QQ _ (mL v) Bc)
end
inductive CR where
 |int (k:IntKind)
 |bool
 |str
 |slice (e:TypeId)
 |struct (fs:List (TypeId×Nat))
 |array (n:Nat) (e:TypeId)
 |map (k v:TypeId)
 |ptr (e:TypeId)
 |other
def sq(P:Program)(t:TypeId):CR->Prop
 | .int k=>P.underlying t=some (.int k)
 | .bool=>P.underlying t=some .bool
 | .str=>P.underlying t=some .string
 | .slice e=>P.underlying t=some (.slice e)
 | .struct fs=>∃arr:Array Field,P.underlying t=some (.struct arr)/\arr.toList.map (λf=>(f.type,f.offset))=fs
 | .array n e=>P.underlying t=some (.array n e)
 | .map k v=>P.underlying t=some (.map k v)
 | .ptr e=>P.underlying t=some (.pointer e)
 | .other=>∃d,P.underlying t=some d/\fm d=Yy
def tQ(P:Program)(t:TypeId)(agg:Bool)(r:Row):Prop:=∃z,(P.info? t).bind (·.zero)=some z/\z=(bif agg then .agg r.da.toArray else r.da.headD undef)
def zK(P:Program)(t:TypeId)(name:String)(f:FuncId)(pr:Bool):Prop:=
 ((P.info? t).bind λi=>i.methods.find? λm=>m.name==name).map (λm=>(m.path.toList.length,m.func))=some (0,some (f,pr))
structure aF(P:Program)where
 und:List (Nat×CR)
 row:List (Nat×Row)
 eqs:List (Nat×Row)
 zer:List (Nat×(Bool×Row))
 und_ok:∀t k,find und t=some k->sq P t k
 row_ok:∀t r,find row t=some r->TI P t r
 eqs_ok:∀t r,find eqs t=some r->∃K d,jZ P t r K/\d+K=10000/\P.eqGuardType P.depth t=Yy/\(P.underlying t).any fm=Yx
 zer_ok:∀t agg r,find zer t=some (agg,r)->tQ P t agg r
 kys:List TypeId
 kys_ok:∀t∈kys,∀(em:Bool)(a b:Value)(w:World),(Instr.checkKey em 10000 t (.agg #[a,b])).run P w= .ok () w
 mth:List (TypeId×(String×(FuncId×Bool)))
 mth_ok:∀p∈mth,zK P p.1 p.2.1 p.2.2.1 p.2.2.2
def fJ:CR->Bool
 | .struct _| .array _ _=>Yx
 |_=>Yy
theorem sq.agg{P:Program}{t:TypeId}{k:CR}(h:sq P t k):∃d,P.underlying t=some d/\fm d=fJ k:=by
 cases k<;>first
  |exact⟨_,h,rfl⟩
  |(obtain⟨arr,h,_⟩:=h;exact⟨_,h,rfl⟩)
  |exact h
theorem iW{α:Type}{Q:Nat->α->Prop}{l:List (Nat×α)}(h:∀p∈l,Q p.1 p.2):∀t a,find l t=some a->Q t a:=by
 intro t a
 induction l with
 |nil=>intro h';cases h'
 |cons p l ih=>
  obtain⟨m,b⟩:=p;rw[aw];split
  .rename_i e;intro h';obtain rfl:=WD h';subst e;exact h (m,b) (by simp)
  .exact ih (λq hq=>h q (by simp[hq]))
def xS:Value->Option ag
 | .int k n=>some (.val Yy (.leaf (.int k) n))
 | .bool b=>some (.val Yy (.leaf .bool b))
 | .string s=>some (.val Yy (.leaf .str s))
 | .slice Yw 0 0=>some (.val Yy .nil)
 | .map Yw=>some (.val Yy (.leaf (.nul .map) ()))
 | .pointer Yw=>some (.val Yy (.leaf (.nul .ptr) ()))
 | .nilFunc=>some (.val Yy (.leaf (.nul .func) ()))
 | .nilIface=>some .dead
 |_=>Yw
def Bd(ah:List (Nat×ag)):Operand->Option ag
 | .tmp t=>find ah t
 | .const v=>xS v
 | .func f=>some (.fn f [])
 | .global g=>match find Dy g with
   |some d=>some (.at d.1 d.2)
   |none=>Yw
theorem au.iX{H:ai}{F:Nat->Prop}{w:World}{r:Row}{x:r.den}{v:Value}(h:bD F w r [v] x):au H F w Yy (.leaf r x) v:=⟨[v],h,rfl,λ_=>rfl⟩
theorem Be{H:ai}{F:Nat->Prop}{w:World}{v:Value}{d:ag}(h:xS v=some d):af H F w d v:=by
 unfold xS at h
 split at h<;>first|cases h|skip
 .exact au.iX rfl
 .exact au.iX rfl
 .exact au.iX rfl
 .exact⟨_,rfl,rfl,λ_=>rfl⟩
 .exact au.iX rfl
 .exact au.iX rfl
 .exact au.iX rfl
 .trivial
theorem oi{H:ai}{F:Nat->Prop}{w:World}{ρ:Nat->Value}{ah:List (Nat×ag)}(hg:mK F w)(h:∀t d,find ah t=some d->af H F w d (ρ t)):∀x d,Bd ah x=some d->af H F w d (ev ρ x):=by
 intro x d hx
 cases x with
 |tmp t=>exact h t d hx
 |const v=>exact Be hx
 |global g=>
  have Gb:(match find Dy g with|some d=>some (ag.at d.1 d.2)|none=>Yw)=some d:=hx;split at Gb
  .rename_i q hq;obtain rfl:=WD Gb;obtain⟨h1,h2⟩:=hg g q hq;exact⟨g,0,rfl,h1,h2⟩
  .cases Gb
 |func f=>obtain rfl:=WD hx;exact⟨[],rfl,rfl⟩
theorem au.inv{H:ai}{F:Nat->Prop}{w:World}{r:Row}{x:r.den}{v:Value}(h:au H F w Yy (.leaf r x) v):bD F w r [v] x:=by
 obtain⟨cs,h1,_,h3⟩:=h;rw[h3 rfl]at h1;exact h1
theorem au.int{H:ai}{F:Nat->Prop}{w:World}{k:IntKind}{x:Int}{v:Value}(h:au H F w Yy (.leaf (.int k) x) v):v= .int k x:=by
 have:=h.inv;simpa[bD]using this
theorem au.bool{H:ai}{F:Nat->Prop}{w:World}{x:Bool}{v:Value}(h:au H F w Yy (.leaf .bool x) v):v= .bool x:=by
 have:=h.inv;simpa[bD]using this
theorem au.str{H:ai}{F:Nat->Prop}{w:World}{x:ByteArray}{v:Value}(h:au H F w Yy (.leaf .str x) v):v= .string x:=by
 have:=h.inv;simpa[bD]using this
theorem au.fx(H:ai)(F:Nat->Prop)(w:World)(k:IntKind)(x:Int):au H F w Yy (.leaf (.int k) x) (.int k x):=au.iX rfl
theorem au.dv(H:ai)(F:Nat->Prop)(w:World)(x:Bool):au H F w Yy (.leaf .bool x) (.bool x):=au.iX rfl
theorem au.mkStr(H:ai)(F:Nat->Prop)(w:World)(x:ByteArray):au H F w Yy (.leaf .str x) (.string x):=au.iX rfl
abbrev iB(k:IntKind)(x:Int):ag:= .val Yy (.leaf (.int k) x)
abbrev cG(x:Bool):ag:= .val Yy (.leaf .bool x)
abbrev NY(x:ByteArray):ag:= .val Yy (.leaf .str x)
def asInt:ag->Option (IntKind×Int)
 | .val Yy (.leaf (.int k) x)=>some (k,x)
 |_=>Yw
def asBool:ag->Option Bool
 | .val Yy (.leaf .bool x)=>some x
 |_=>Yw
def vq:ag->Option ByteArray
 | .val Yy (.leaf .str x)=>some x
 |_=>Yw
section
variable {P:Program} {ρ:Nat->Value} {w w':World} {H H':ai} {F F':Nat->Prop} {U:Nat->Prop} {ob:Nat->Option (Nat×Th)} {n:Nat} {R:Type}
variable {dst:Option Nat} {op:Op} {ty:TypeId} {pos:String} {aft:Array Edge} {d:Nat}
theorem eG{D:ag}{k:IntKind}{x:Int}{v:Value}(h:asInt D=some (k,x))(hd:af H F w D v):v= .int k x:=by
 unfold asInt at h
 split at h<;>cases h
 exact au.int hd
theorem jz{D:ag}{x:Bool}{v:Value}(h:asBool D=some x)(hd:af H F w D v):v= .bool x:=by
 unfold asBool at h
 split at h<;>cases h
 exact au.bool hd
theorem qp{D:ag}{x:ByteArray}{v:Value}(h:vq D=some x)(hd:af H F w D v):v= .string x:=by
 unfold vq at h
 split at h<;>cases h
 exact au.str hd
def bw(P:Program)(_U:Nat->Prop)(H:ai)(F:Nat->Prop)(w:World)(ρ:Nat->Value)(ob:Nat->Option (Nat×Th))(n:Nat)(o:Oper)(e:cI):Prop:=
 bj P ρ o w (gW H F w ob n e)
theorem F8.refl{g:Nat->Prop}(hF:∀b,F b->b<w.heap.size):F8 H F w H F w g:=⟨ai.le.refl H,⟨rfl,⟨rfl,WH _⟩,rfl,WH _,λ_ _ _=>rfl⟩,λ_ h=>h,λ_ h=> .inl h,hF⟩
theorem Made.nil{g:Nat->Prop}:Made H' F' w w' g []:=⟨λ_ _ _ h=>(by cases h),λ_ _ _ _ _ _ _ _ _ h=>(by cases h)⟩
theorem gS.pure(hs:ak U H F w ob n){D:ag}{v:Value}(h:af H F w D v):gW H F w ob n {dst:=D} v w:=
 ⟨H,F,F8.refl hs.lt,λm hm=>⟨id,id⟩,h,Made.nil,λo h=>by cases h⟩
theorem aS(hs:ak U H F w ob n){D:ag}{v:Value}(hr:(execOp (ev ρ) ⟨some d,op,ty,pos,aft,Yw⟩).run P w= .ok (.value v) w)(h:af H F w D v):bw P U H F w ρ ob n ⟨some d,op,ty,pos,aft,Yw⟩ {dst:=D}:=
 bj.val hr (gS.pure hs h)
theorem ay(hs:ak U H F w ob n){D:ag}{v:Value}(hr:Pure P ρ ⟨some d,op,ty,pos,aft,Yw⟩ v)(h:af H F w D v):bw P U H F w ρ ob n ⟨some d,op,ty,pos,aft,Yw⟩ {dst:=D}:=
 aS hs (hr w) h
def al(o:BinOp)(k:IntKind)(a b:Int):Int:=
 match o with
 | .and=>k.wrap (XI k.bits a&&& XI k.bits b).toNat
 | .or=>k.wrap (XI k.bits a|||XI k.bits b).toNat
 | .xor=>k.wrap (XI k.bits a ^^^ XI k.bits b).toNat
 |_=>k.wrap (XI k.bits a&&& ~~~XI k.bits b).toNat
def DC(k:IntKind)(a b:Int):Int:=k.wrap (a*2 ^ min b.toNat k.bits)
def bO(k:IntKind)(a b:Int):Int:=a.fdiv (2 ^ min b.toNat k.bits)
def oj(k:IntKind)(a b:Int):Option Int:=if b<0 then Yw else some (DC k a b)
def Bf(k:IntKind)(a b:Int):Option Int:=if b<0 then Yw else some (bO k a b)
def arith:BinOp->IntKind->Int->Int->Option ag
 | .add,k,a,b=>some (iB k (k.wrap (a+b)))
 | .sub,k,a,b=>some (iB k (k.wrap (a-b)))
 | .mul,k,a,b=>some (iB k (k.wrap (a*b)))
 | .lss,_,a,b=>some (cG (decide (a<b)))
 | .leq,_,a,b=>some (cG (decide (a<=b)))
 | .gtr,_,a,b=>some (cG (decide (b<a)))
 | .geq,_,a,b=>some (cG (decide (b<=a)))
 | .eql,_,a,b=>some (cG (decide (a=b)))
 | .neq,_,a,b=>some (cG (!decide (a=b)))
 | .and,k,a,b=>some (iB k (al .and k a b))
 | .or,k,a,b=>some (iB k (al .or k a b))
 | .xor,k,a,b=>some (iB k (al .xor k a b))
 | .andNot,k,a,b=>some (iB k (al .andNot k a b))
 |_,_,_,_=>Yw
theorem pure_and{k:IntKind}{a b:Int}{t u:TypeId}{x y:Operand}(hx:ev ρ x= .int k a)(hy:ev ρ y= .int k b):Pure P ρ ⟨some d, .binOp .and t x y u,ty,pos,aft,Yw⟩ (.int k (al .and k a b)):=λw=>by simp[execOp,hx,hy,binOp,Op.intBits,eqGuard,al,go_sem]
theorem pure_or{k:IntKind}{a b:Int}{t u:TypeId}{x y:Operand}(hx:ev ρ x= .int k a)(hy:ev ρ y= .int k b):Pure P ρ ⟨some d, .binOp .or t x y u,ty,pos,aft,Yw⟩ (.int k (al .or k a b)):=λw=>by simp[execOp,hx,hy,binOp,Op.intBits,eqGuard,al,go_sem]
theorem DD{k:IntKind}{a b:Int}{t u:TypeId}{x y:Operand}(hx:ev ρ x= .int k a)(hy:ev ρ y= .int k b):Pure P ρ ⟨some d, .binOp .xor t x y u,ty,pos,aft,Yw⟩ (.int k (al .xor k a b)):=λw=>by simp[execOp,hx,hy,binOp,Op.intBits,eqGuard,al,go_sem]
theorem vr{k:IntKind}{a b:Int}{t u:TypeId}{x y:Operand}(hx:ev ρ x= .int k a)(hy:ev ρ y= .int k b):Pure P ρ ⟨some d, .binOp .andNot t x y u,ty,pos,aft,Yw⟩ (.int k (al .andNot k a b)):=λw=>by simp[execOp,hx,hy,binOp,Op.intBits,eqGuard,al,go_sem]
theorem vu{k k':IntKind}{a b:Int}{t u:TypeId}{x y:Operand}(hx:ev ρ x= .int k a)(hy:ev ρ y= .int k' b)(hb:¬b<0):Pure P ρ ⟨some d, .binOp .shl t x y u,ty,pos,aft,Yw⟩ (.int k (DC k a b)):=λw=>by simp[execOp,hx,hy,binOp,Op.shift,eqGuard,DC,hb,go_sem]
theorem vv{k k':IntKind}{a b:Int}{t u:TypeId}{x y:Operand}(hx:ev ρ x= .int k a)(hy:ev ρ y= .int k' b)(hb:¬b<0):Pure P ρ ⟨some d, .binOp .shr t x y u,ty,pos,aft,Yw⟩ (.int k (bO k a b)):=λw=>by simp[execOp,hx,hy,binOp,Op.shift,eqGuard,bO,hb,go_sem]
theorem DE{o:BinOp}{k:IntKind}{a b:Int}{D:ag}{t u:TypeId}{x y:Operand}(h:arith o k a b=some D)(hs:ak U H F w ob n)(hx:ev ρ x= .int k a)(hy:ev ρ y= .int k b):
 bw P U H F w ρ ob n ⟨some d, .binOp o t x y u,ty,pos,aft,Yw⟩ {dst:=D}:=by
 unfold arith at h
 split at h<;>cases h
 .exact ay hs (C7 hx hy) (au.fx ..)
 .exact ay hs (C8 hx hy) (au.fx ..)
 .exact ay hs (C9 hx hy) (au.fx ..)
 .exact ay hs (Dc hx hy) (au.dv ..)
 .exact ay hs (Dd hx hy) (au.dv ..)
 .exact ay hs (De hx hy) (au.dv ..)
 .exact ay hs (Df hx hy) (au.dv ..)
 .exact ay hs (Dg hx hy) (au.dv ..)
 .exact ay hs (Dh hx hy) (au.dv ..)
 .exact ay hs (pure_and hx hy) (au.fx ..)
 .exact ay hs (pure_or hx hy) (au.fx ..)
 .exact ay hs (DD hx hy) (au.fx ..)
 .exact ay hs (vr hx hy) (au.fx ..)
def KV(a b:Int):Option Int:=if b=0 then Yw else some (XR a b)
def GD(a b:Int):Option Int:=if b=0 then Yw else some (Yd a b)
def KW:Operand->Bool
 | .const _=>Yx
 |_=>Yy
theorem DF{k:IntKind}{a b:Int}{t u:TypeId}{x y:Operand}(hb:b≠0)(hs:ak U H F w ob n)(hx:ev ρ x= .int k a)(hy:ev ρ y= .int k b):
 bw P U H F w ρ ob n ⟨some d, .binOp .quo t x y u,ty,pos,aft,Yw⟩ {dst:=iB k (k.wrap (XR a b))}:=
 ay hs (Da hx hy hb) (au.fx ..)
theorem DG{k:IntKind}{a b:Int}{t u:TypeId}{x y:Operand}(hb:b≠0)(hs:ak U H F w ob n)(hx:ev ρ x= .int k a)(hy:ev ρ y= .int k b):
 bw P U H F w ρ ob n ⟨some d, .binOp .rem t x y u,ty,pos,aft,Yw⟩ {dst:=iB k (Yd a b)}:=
 ay hs (Db hx hy hb) (au.fx ..)
end
end
end Go.Proofs.YtbladfbbhijpmaaGreat
