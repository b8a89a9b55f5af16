/- Joined texts: Base Mem Own More Lit Open Cut Glob Deep Sym Eff. -/
import Derived.WalkKit
import Derived.WalkSpells
import Derived.WalkLawsBesides
import Derived.LoopN
import Derived.Deep.Draws
import Derived.Deep.Quiet
import Derived.Maps.AppendAt
import Derived.OwnWalk
import Derived.KernelRfl
import Derived.MapKept
import Derived.Laws.StructEq
import Derived.Test.YtfjgcenlllgonaaGreatDoorRows
import Derived.ProofKit
import Derived.OpenShut
import Derived.JoinedCond
import Derived.Deep.Slices
import Derived.Laws.Slices
open _root_.Bool renaming false->ag,true->af,and_eq_true->apQ
open _root_.Option renaming none->ae,some->aa
open _root_.Array renaming getD_eq_getD_getElem?->apz,getElem?_eq_getElem->apm,toArray_toList->apF
open _root_.Classical renaming propDecidable->apU
open _root_.List renaming getElem?_eq_getElem->aoA,getElem?_eq_some_iff->aoI,mem_append->ao7,getElem?_drop->apx,getElem?_take->apV,getElem_append_left->aoK,getElem_append_right->ao1,getElem_of_mem->aoS,length_append->aoH,range->ap1,replicate->aoE,append_assoc->ape,getElem?_append->aqz,length_cons->apa,length_set->ap6,length_take->ao0,map_cons->aqi,take_append_drop->aqd,take_succ_eq_append_getElem->apf
open _root_.Nat renaming beq->aoL,blt->aps,le_refl->aoJ,lt_of_lt_of_le->api,add_mul->apl,add_zero->apO,lt_or_ge->aph,mod_lt->ap0,mul_comm->apt,mul_le_mul_right->aoZ,zero_add->apn,min_eq_left->apC
open _root_.Option.some renaming inj->aoB,injEq->aoW
open _root_.Go.Region renaming wanted->aqh
open _root_.Go.Value renaming oneCell'->aqa,ownBlock->apg
open _root_.Go.Builtin renaming append_->aqp
open _root_.Go.Value.slice renaming injEq->aqj
open _root_.Go.Instr renaming fill->aqw
open _root_.List.cons renaming injEq->ap5
open _root_.BitVec renaming ofInt->aqx
open _root_.Int renaming tdiv->aoM,tmod->aoP
namespace Go.Proofs.YtfjgcenlllgonaaGreatDoor
open Go Go.RowKit
set_option maxRecDepth 100000
set_option linter.unusedSimpArgs false
set_option linter.unusedVariables false
set_option linter.defProp false
section
theorem ai.{u}:type_of% @_root_.if_neg.{u}:= @_root_.if_neg.{u}
theorem aj.{u}:type_of% @_root_.if_pos.{u}:= @_root_.if_pos.{u}
theorem ak:type_of% @_root_.of_decide_eq_true:= @_root_.of_decide_eq_true
theorem al:type_of% @_root_.of_decide_eq_false:= @_root_.of_decide_eq_false
theorem ao:type_of% @_root_.decide_eq_true:= @_root_.decide_eq_true
theorem aq:type_of% @_root_.decide_eq_false:= @_root_.decide_eq_false
theorem au.{u}:type_of% @_root_.implies_true.{u}:= @_root_.implies_true.{u}
theorem av.{u}:type_of% @_root_.forall_const.{u}:= @_root_.forall_const.{u}
theorem aw.{u,v}:type_of% @_root_.congrArg.{u,v}:= @_root_.congrArg.{u,v}
theorem ax:type_of% @_root_.decide_eq_true_eq:= @_root_.decide_eq_true_eq
theorem ay:type_of% @_root_.iff_of_false:= @_root_.iff_of_false
theorem az:type_of% @_root_.decide_eq_false_iff_not:= @_root_.decide_eq_false_iff_not
open Go Go.RowKit
inductive Nt where
 |map
 |ptr
 |func
def Nt.val:Nt->Value
 | .map=> .map ae
 | .ptr=> .pointer ae
 | .func=> .nilFunc
theorem Nt.one(k:Nt):k.val.oneCell'=af:=by cases k<;>simp[Nt.val,aqa]
inductive Row where
 |int (k:IntKind)
 |bool
 |str
 |slice (e:Row)
 |mI
 |nul (k:Nt)
 |map (K:Row) (agg:Bool) (V:Row)
 |pair (a b:Row)
@[reducible] def Row.den:Row->Type
  | .int _=>Int
  | .bool=>Bool
  | .str=>ByteArray
  | .slice e=>List e.den
  | .mI=>Value
  | .nul _=>Unit
  | .map K _ V=>List (K.den×V.den)
  | .pair a b=>a.den×b.den
noncomputable instance Row.decEq:(r:Row)->DecidableEq r.den
 | .int _=>inferInstanceAs (DecidableEq Int)
 | .bool=>inferInstanceAs (DecidableEq Bool)
 | .str=>inferInstanceAs (DecidableEq ByteArray)
 | .slice e=>have:=Row.decEq e;inferInstanceAs (DecidableEq (List e.den))
 | .mI=>λa b=>apU (a=b)
 | .nul _=>inferInstanceAs (DecidableEq Unit)
 | .map K _ V=>have:=Row.decEq K;have:=Row.decEq V;inferInstanceAs (DecidableEq (List (K.den×V.den)))
 | .pair a b=>have:=Row.decEq a;have:=Row.decEq b;inferInstanceAs (DecidableEq (a.den×b.den))
@[simp] def Row.size:Row->Nat
  | .pair a b=>a.size+b.size
  |_=>1
theorem Row.size_pos:(r:Row)->0<r.size
 | .pair a b=>by have:=Row.size_pos a;simp;omega
 | .int _| .bool| .str| .slice _| .mI| .nul _| .map .. =>by simp
def Lb:(K:Row)->K.den->Option Value
 | .int k,n=>aa (.int k n)
 | .bool,b=>aa (.bool b)
 | .str,s=>aa (.string s)
 |_,_=>ae
def dF(F:Nat->Prop)(w:World):(r:Row)->List Value->r.den->Prop
 | .int k,cs,n=>cs=[.int k n]
 | .bool,cs,b=>cs=[.bool b]
 | .str,cs,s=>cs=[.string s]
 | .slice e,cs,l=>∃A cap,cs=[.slice A l.length cap]/\l.length<=cap/\cap<=maxLen/\
     ∀i(h:i<l.length),∃b off es,A=aa ⟨b,off,ae⟩/\F b/\es.length=e.size/\
      (∀j u,es[j]? =aa u->w.cell? ⟨b,off+i*e.size+j,ae⟩=aa u)/\dF F w e es l[i]
 | .mI,cs,v=>cs=[v]/\∃A m c,v= .slice A m c
 | .nul k,cs,_=>cs=[k.val]
 | .map K agg V,cs,l=>∃v,cs=[v]/\((v= .map ae/\l=[])\/∃b es clock,v= .map (aa b)/\F b/\w.heap[b]? =aa (.map es clock)/\MapKept.Stamped es clock/\es.size=l.length/\
     ∀i(h:i<l.length),∃(e:MapEntry)(cs:List Value),es[i]? =aa e/\Lb K l[i].1=aa e.key/\dF F w V cs l[i].2/\e.val=(bif agg then .agg cs.toArray else cs.headD undef)/\(agg=ag->cs=[e.val]))
 | .pair a b,cs,d=>∃c1 c2,cs=c1++c2/\dF F w a c1 d.1/\dF F w b c2 d.2
theorem dF.length{F:Nat->Prop}{w:World}:{r:Row}->{cs:List Value}->{d:r.den}->dF F w r cs d->cs.length=r.size
 | .int _,_,_,h=>by rw[show _=_ from h];rfl
 | .bool,_,_,h=>by rw[show _=_ from h];rfl
 | .str,_,_,h=>by rw[show _=_ from h];rfl
 | .slice _,_,_,h=>by obtain⟨A,cap,h,_⟩:=h;rw[h];rfl
 | .mI,_,_,h=>by rw[h.1];rfl
 | .nul _,_,_,h=>by rw[show _=_ from h];rfl
 | .map ..,_,_,h=>by obtain⟨v,rfl,_⟩:=h;rfl
 | .pair a b,_,_,h=>by
   obtain⟨c1,c2,rfl,h1,h2⟩:=h;simp[h1.length,h2.length]
theorem dF.lU{F:Nat->Prop}{w:World}:{r:Row}->{cs:List Value}->{d:r.den}->dF F w r cs d->∀u∈cs,u.oneCell'=af
 | .int _,_,_,h=>by rw[show _=_ from h];simp[aqa]
 | .bool,_,_,h=>by rw[show _=_ from h];simp[aqa]
 | .str,_,_,h=>by rw[show _=_ from h];simp[aqa]
 | .slice _,_,_,h=>by obtain⟨A,cap,rfl,_⟩:=h;simp[aqa]
 | .mI,_,_,h=>by obtain⟨rfl,A,m,c,rfl⟩:=h;simp[aqa]
 | .nul k,_,_,h=>by rw[show _=_ from h];simp[k.one]
 | .map ..,_,_,h=>by
   obtain⟨v,rfl,h⟩:=h
   rcases h with⟨rfl,_⟩|⟨b,es,clock,rfl,_⟩<;>simp[aqa]
 | .pair a b,_,_,h=>by
   obtain⟨c1,c2,rfl,h1,h2⟩:=h;intro u hu
   rcases ao7.1 hu with h'|h'
   .exact h1.lU u h'
   .exact h2.lU u h'
def Step(F:Nat->Prop)(w:World)(F':Nat->Prop)(w':World):Prop:=∀b,F b->F' b/\w'.heap[b]? =w.heap[b]?
theorem dF.step{F F':Nat->Prop}{w w':World}(ho:Step F w F' w'):{r:Row}->{cs:List Value}->{d:r.den}->dF F w r cs d->dF F' w' r cs d
 | .int _,_,_,h=>h
 | .bool,_,_,h=>h
 | .str,_,_,h=>h
 | .slice e,_,l,h=>by
   obtain⟨A,cap,hc,h1,h2,h3⟩:=h;refine⟨A,cap,hc,h1,h2,λi hi=>?_⟩;obtain⟨b,off,es,hA,hb,wJ,Ek,hr⟩:=h3 i hi;exact⟨b,off,es,hA,(ho b hb).1,wJ,λj u hu=>(World.cell?_of_block (ho b hb).2).trans (Ek j u hu),hr.step ho⟩
 | .mI,_,_,h=>h
 | .nul _,_,_,h=>h
 | .map K agg V,_,l,h=>by
   obtain⟨v,hv,h⟩:=h;refine⟨v,hv,h.imp id λ⟨b,es,clock,h1,h2,h3,h4,h5,h6⟩=>⟨b,es,clock,h1,(ho b h2).1,(ho b h2).2.trans h3,h4,h5,λi hi=>?_⟩⟩;obtain⟨e,cs,g1,g2,g3,g4⟩:=h6 i hi;exact⟨e,cs,g1,g2,g3.step ho,g4⟩
 | .pair a b,_,_,h=>by
   obtain⟨c1,c2,hc,h1,h2⟩:=h;exact⟨c1,c2,hc,h1.step ho,h2.step ho⟩
def At(F:Nat->Prop)(w:World)(r:Row)(b off:Nat)(x:r.den):Prop:=
 ∃es,es.length=r.size/\(∀j u,es[j]? =aa u->w.cell? ⟨b,off+j,ae⟩=aa u)/\dF F w r es x
theorem At.fst{F:Nat->Prop}{w:World}{r s:Row}{b off:Nat}{x:(Row.pair r s).den}(h:At F w (.pair r s) b off x):At F w r b off x.1:=by
 obtain⟨es,hl,hc,c1,c2,rfl,h1,h2⟩:=h;exact⟨c1,h1.length,(by grind),h1⟩
theorem At.snd{F:Nat->Prop}{w:World}{r s:Row}{b off:Nat}{x:(Row.pair r s).den}(h:At F w (.pair r s) b off x)(k:Nat)(hk:k=r.size):At F w s b (off+k) x.2:=by
 obtain⟨es,hl,hc,c1,c2,rfl,h1,h2⟩:=h;subst hk
 exact⟨c2,h2.length,λj u hu=>by
  have:=hc (r.size+j) u (by
   grind [dF.length])
  grind,h2⟩
theorem dF.nil(F:Nat->Prop)(w:World)(e:Row):dF F w (.slice e) [.slice ae 0 0] []:=⟨ae,0,rfl,aoJ _,by simp[maxLen],λi hi=>absurd hi (by simp)⟩
theorem dF.Hn{F:Nat->Prop}{w:World}{e:Row}{v:Value}{l:List e.den}(h:dF F w (.slice e) [v] l):
 ∃A cap,v= .slice A l.length cap/\l.length<=cap/\cap<=9223372036854775807:=by
 obtain⟨A,cap,h1,h2,h3,_⟩:=h;exact⟨A,cap,by simpa using h1,h2,h3⟩
structure St(w0:World)(F0:Nat->Prop)(w:World)(F:Nat->Prop):Prop where
 below:Below w0.heap.size w0 w
 le:∀b,F0 b->F b
 new:∀b,F b->F0 b\/w0.heap.size<=b
 lt:∀b,F b->b<w.heap.size
theorem St.refl{w:World}{F:Nat->Prop}(h:∀b,F b->b<w.heap.size):St w F w F:=⟨Below.refl _ _,λ_ h=>h,λ_ h=> .inl h,h⟩
theorem St.trans{w0 w1 w2:World}{F0 F1 F2:Nat->Prop}(h:St w0 F0 w1 F1)(k:St w1 F1 w2 F2):St w0 F0 w2 F2:=
 ⟨h.below.trans (k.below.mono h.below.size),λb hb=>k.le b (h.le b hb),λb hb=>by
   rcases k.new b hb with h1|h1
   .exact h.new b h1
   .exact .inr (Nat.le_trans h.below.size h1),k.lt⟩
theorem St.step{w0 w:World}{F0 F:Nat->Prop}(h:St w0 F0 w F)(h0:∀b,F0 b->b<w0.heap.size):Step F0 w0 F w:=λb hb=>⟨h.le b hb,h.below.block b (h0 b hb)⟩
theorem St.drew{w0 w:World}{F0 F:Nat->Prop}(h:St w0 F0 w F):St w0 F0 w.drew F:=⟨h.below.drew,h.le,h.new,h.lt⟩
theorem St.alloc{w0 w:World}{F0 F:Nat->Prop}(h:St w0 F0 w F)(o:Obj):St w0 F0 (w.alloc o) F:=
 ⟨h.below.alloc h.below.size o,h.le,h.new,λb hb=>by have:=h.lt b hb;simp;omega⟩
theorem St.freeze{w0 w:World}{F0 F:Nat->Prop}(h:St w0 F0 w F)(G:Nat->Prop)(h1:∀b,G b->w0.heap.size<=b/\b<w.heap.size):St w0 F0 w (λb=>F b\/G b):=
 ⟨h.below,λb hb=> .inl (h.le b hb),λb hb=>by
   rcases hb with hb|hb
   .exact h.new b hb
   .exact .inr (h1 b hb).1,λb hb=>by
   rcases hb with hb|hb
   .exact h.lt b hb
   .exact(h1 b hb).2⟩
theorem St.back{w0 w1 w2:World}{F0 F1 F2 F3:Nat->Prop}(h:St w0 F0 w1 F1)(k:St w1 F2 w2 F3):St w0 F0 w2 F1:=
 ⟨h.below.trans (k.below.mono h.below.size),h.le,h.new,λb hb=>api (h.lt b hb) k.below.size⟩
theorem Step.refl(F:Nat->Prop)(w:World):Step F w F w:=λ_ h=>⟨h,rfl⟩
theorem Step.trans{F F1 F2:Nat->Prop}{w w1 w2:World}(h:Step F w F1 w1)(k:Step F1 w1 F2 w2):Step F w F2 w2:=λb hb=>⟨(k b (h b hb).1).1,(k b (h b hb).1).2.trans (h b hb).2⟩
theorem Step.drew(F:Nat->Prop)(w:World):Step F w F w.drew:=λ_ h=>⟨h,rfl⟩
theorem Step.alloc{F:Nat->Prop}{w:World}(h:∀b,F b->b<w.heap.size)(o:Obj):Step F w F (w.alloc o):=λb hb=>⟨hb,Below.heap_alloc w o b (h b hb)⟩
theorem Step.freeze(F:Nat->Prop)(w:World)(G:Nat->Prop):Step F w (λb=>F b\/G b) w:=λ_ h=>⟨.inl h,rfl⟩
structure Fr(n:Nat)(a:Act)(ρ:Nat->Value):Prop where
 size:a.tmps.size=n
 defers:a.defers=[]
 get:∀t,a.tmps.getD t undef=ρ t
def Ho(ρ:Nat->Value)(d:Nat)(v:Value):Nat->Value:=λt=>bif aoL t d then v else ρ t
def ev(ρ:Nat->Value):Operand->Value
 | .tmp t=>ρ t
 | .const v=>v
 | .global g=> .pointer (aa ⟨g,0,ae⟩)
 | .func f=> .func (.func f) #[] #[]
theorem Fr.eval{n:Nat}{a:Act}{ρ:Nat->Value}(h:Fr n a ρ):a.eval=ev ρ:=by
 funext x
 cases x with
 |tmp t=>exact h.get t
 |const v=>rfl
 |global g=>rfl
 |func f=>rfl
theorem Fr.put{n:Nat}{a:Act}{ρ:Nat->Value}(h:Fr n a ρ){d:Nat}(hd:aps d n=af)(v:Value):Fr n (a.put (aa d) v) (Ho ρ d v):=by
 have aJ:d<n:=by simpa[Nat.blt_eq]using hd
 refine⟨by simpa[Act.put]using h.size,by simpa[Act.put]using h.defers,λt=>?_⟩;have hs:=h.size;have hg:=h.get t;simp only[Act.put,apz,Array.getElem?_setIfInBounds]at hg⊢;unfold Ho;by_cases ht:t=d
 .simp_all
 .have dS:¬d=t:=λe=>ht e.symm
  grind [Nat.eq_of_beq_eq_true]
def wpS(P:Program)(n:Nat)(ops:Array Oper)(K:(Nat->Value)->World->Prop)(l:List Oper)(ρ:Nat->Value)(w:World):Prop:=
 ∀(Q:Exit->Act->World->Prop)(a:Act),Fr n a ρ->(∀a' cX w',Fr n a' cX->K cX w'->Q .normal a' w')->wpList P ops Q l a w
section
variable {P:Program} {n:Nat} {ops:Array Oper} {K:(Nat->Value)->World->Prop} {rest:List Oper} {ρ:Nat->Value} {w:World}
theorem RA(h:K ρ w):wpS P n ops K [] ρ w:=λ_ _ hf hk=>hk _ _ _ hf h
def Pure(P:Program)(ρ:Nat->Value)(o:Oper)(v:Value):Prop:=∀w,(execOp (ev ρ) o).run P w= .ok (.value v) w
theorem rz{a:Act}(hf:Fr n a ρ){j d:Nat}{b:Bool}(hj:(ops[j]?).bind (·.dst)=aa d)(hd:aps d n=af)(hb:ρ d= .bool b):yielded ops a.tmps j=aa b:=by
 have aJ:d<n:=by simpa[Nat.blt_eq]using hd
 have hg:=hf.get d;have hs:=hf.size;rw[hb]at hg
 have:a.tmps[d]? =aa (.bool b):=by
  rw[apz]at hg;rw[apm (by omega)]at hg⊢;simpa using hg
 unfold yielded;rw[hj];simp[this]
theorem U3{dst:Option Nat}{op:Op}{ty:TypeId}{pos:String}{aft:Array Edge}{j:Nat}{b:Bool}(d:Nat)(hj:(ops[j]?).bind (·.dst)=aa d)(hd:aps d n=af)(hb:ρ d= .bool b)
 (h:wpS P n ops K (⟨dst,op,ty,pos,aft,ae⟩::rest) ρ w):wpS P n ops K (⟨dst,op,ty,pos,aft,aa (j,b)⟩::rest) ρ w:=
 λQ a hf hk=>by
  have:=h Q a hf hk;unfold wpList at this⊢;rw[aj (by simp[aqh])]at this;rw[aj (by simp[aqh,rz hf hj hd hb])];exact this
theorem RC{d':Nat}{op:Op}{ty:TypeId}{pos:String}{aft:Array Edge}{j:Nat}{b b':Bool}(d:Nat)(hj:(ops[j]?).bind (·.dst)=aa d)(hd:aps d n=af)(hb:ρ d= .bool b')(dS:b'≠b)(Hd:aps d' n=af)
 (h:wpS P n ops K rest (Ho ρ d' undef) w):wpS P n ops K (⟨aa d',op,ty,pos,aft,aa (j,b)⟩::rest) ρ w:=
 λQ a hf hk=>by
  have:=h Q _ (hf.put Hd undef) hk;unfold wpList;rw[ai (by simp[aqh,rz hf hj hd hb,dS])];exact this
theorem CJ{op:Op}{ty:TypeId}{pos:String}{aft:Array Edge}{j:Nat}{b b':Bool}(d:Nat)(hj:(ops[j]?).bind (·.dst)=aa d)(hd:aps d n=af)(hb:ρ d= .bool b')(dS:b'≠b)
 (h:wpS P n ops K rest ρ w):wpS P n ops K (⟨ae,op,ty,pos,aft,aa (j,b)⟩::rest) ρ w:=
 λQ a hf hk=>by
  have:=h Q _ hf hk;unfold wpList;rw[ai (by simp[aqh,rz hf hj hd hb,dS])];exact this
theorem qz{a:Act}(hf:Fr n a ρ){j d:Nat}(hj:(ops[j]?).bind (·.dst)=aa d)(hd:aps d n=af)(hb:ρ d=undef):yielded ops a.tmps j=ae:=by
 have aJ:d<n:=by simpa[Nat.blt_eq]using hd
 have hg:=hf.get d;have hs:=hf.size;rw[hb]at hg
 have:a.tmps[d]? =aa undef:=by
  rw[apz]at hg;rw[apm (by omega)]at hg⊢;simpa using hg
 unfold yielded;rw[hj];simp[this,undef]
theorem NO{d':Nat}{op:Op}{ty:TypeId}{pos:String}{aft:Array Edge}{j:Nat}{b:Bool}(d:Nat)(hj:(ops[j]?).bind (·.dst)=aa d)(hd:aps d n=af)(hb:ρ d=undef)(Hd:aps d' n=af)
 (h:wpS P n ops K rest (Ho ρ d' undef) w):wpS P n ops K (⟨aa d',op,ty,pos,aft,aa (j,b)⟩::rest) ρ w:=
 λQ a hf hk=>by
  have:=h Q _ (hf.put Hd undef) hk;unfold wpList;rw[ai (by simp[aqh,qz hf hj hd hb])];exact this
theorem AR{op:Op}{ty:TypeId}{pos:String}{aft:Array Edge}{j:Nat}{b:Bool}(d:Nat)(hj:(ops[j]?).bind (·.dst)=aa d)(hd:aps d n=af)(hb:ρ d=undef)
 (h:wpS P n ops K rest ρ w):wpS P n ops K (⟨ae,op,ty,pos,aft,aa (j,b)⟩::rest) ρ w:=
 λQ a hf hk=>by
  have:=h Q _ hf hk;unfold wpList;rw[ai (by simp[aqh,qz hf hj hd hb])];exact this
end
def uU(P:Program)(n:Nat)(c:Code)(Q:Exit->(Nat->Value)->World->Prop)(ρ:Nat->Value)(w:World):Prop:=
 ∀a,Fr n a ρ->c.wp P (λe a' w'=>∃cX,Fr n a' cX/\Q e cX w') a w
def thn(K:(Nat->Value)->World->Prop)(Q:Exit->(Nat->Value)->World->Prop):Exit->(Nat->Value)->World->Prop
 | .normal,ρ,w=>K ρ w
 |e,ρ,w=>Q e ρ w
def Xz(id:Nat)(Q:Exit->(Nat->Value)->World->Prop):Exit->(Nat->Value)->World->Prop
 | .exit Lc,ρ,w=>bif aoL Lc id then Q .normal ρ w else Q (.exit Lc) ρ w
 |e,ρ,w=>Q e ρ w
section
variable {P:Program} {n:Nat} {Q:Exit->(Nat->Value)->World->Prop} {ρ:Nat->Value} {w:World}
theorem NP{c:Code}{Q':Exit->(Nat->Value)->World->Prop}(h:uU P n c Q ρ w)(hq:∀e ρ w,Q e ρ w->Q' e ρ w):uU P n c Q' ρ w:=
 λa hf=>wp_mono (h a hf) (by grind)
theorem Hp{id:Nat}{l:List Oper}(h:wpS P n l.toArray (λρ w=>Q .normal ρ w) l ρ w):uU P n (.region id l.toArray ag) Q ρ w:=
 λa hf=>wp_region_lit (h _ a hf λ_ _ _ xD hk=>⟨_,xD,hk⟩)
theorem tL{a b:Code}(h:uU P n a (thn (λρ w=>uU P n b Q ρ w) Q) ρ w):uU P n (.seq a b) Q ρ w:=
 λact hf=>wp_seq (wp_mono (h act hf) λe a' w' ⟨cX,xD,hh⟩=>by
  cases e with
  |normal=>exact hh a' xD
  |_=>exact⟨cX,xD,hh⟩)
theorem NQ(h:Q .normal ρ w):uU P n .skip Q ρ w:=λ_ hf=>wp_skip ⟨_,hf,h⟩
theorem NR{id:Nat}(h:Q (.exit id) ρ w):uU P n (.exit id) Q ρ w:=λ_ hf=>wp_exit ⟨_,hf,h⟩
theorem RD(h:Q .ret ρ w):uU P n .ret Q ρ w:=λ_ hf=>wp_ret ⟨_,hf,h⟩
theorem wL{id:Nat}{c:Code}(h:uU P n c (Xz id Q) ρ w):uU P n (.block id c) Q ρ w:=
 λa hf=>wp_block (wp_mono (h a hf) λe a' w' ⟨cX,xD,hh⟩=>by
  cases e with
  |exit Lc=>
   unfold Exit.inBlock;by_cases he:Lc=id
   .subst he;simp only[Xz,show aoL Lc Lc=af from Nat.beq_refl _,cond_true]at hh;simpa using⟨cX,xD,hh⟩
   .have hb:aoL Lc id=ag:=by
     cases CK:aoL Lc id with
     |false=>rfl
     |true=>exact absurd (Nat.eq_of_beq_eq_true CK) he
    simp only[Xz,hb,cond_false]at hh;simpa[he]using⟨cX,xD,hh⟩
  |_=>exact⟨cX,xD,hh⟩)
theorem El{c:Operand}{x y:Code}(b:Bool)(hc:ev ρ c= .bool b)(h:uU P n (bif b then x else y) Q ρ w):uU P n (.cond c x y) Q ρ w:=
 λa hf=>wp_cond (t:=b) (by rw[hf.eval];exact hc) (by
  have:=h a hf
  cases b<;>exact this)
theorem NS{c:Operand}{x y:Code}(hc:ev ρ c= .bool af)(h:uU P n x Q ρ w):uU P n (.cond c x y) Q ρ w:=El af hc h
theorem Ld{c:Operand}{x y:Code}(hc:ev ρ c= .bool ag)(h:uU P n y Q ρ w):uU P n (.cond c x y) Q ρ w:=El ag hc h
def Loop{S X:Type}(body:S->Option (S⊕X)):Nat->S->Option X
 |0,_=>ae
 |k+1,s=>match body s with
  |none=>ae
  |some (.inl s')=>Loop body k s'
  |some (.inr x)=>aa x
def T8{S X:Type}(I:S->(Nat->Value)->World->Prop)(Q:Exit->(Nat->Value)->World->Prop)(x:X):S⊕X->Exit->(Nat->Value)->World->Prop
 | .inl s',e,ρ,w=>e= .normal/\I s' ρ w
 | .inr x',e,ρ,w=>e≠ .normal/\(x'=x->Q e ρ w)
theorem NT{S X:Type}{body:S->Option (S⊕X)}{c:Code}(I:S->(Nat->Value)->World->Prop){x:X}{N:Nat}{s:S}(hm:Loop body N s=aa x)(h0:I s ρ w)
 (hb:∀s ρ w y,I s ρ w->body s=aa y->uU P n c (T8 I Q x y) ρ w):uU P n (.loop c) Q ρ w:=by
 intro a hf;refine wp_loop_rounds N ?_
 induction N generalizing s ρ w a with
 |zero=>cases hm
 |succ k ih=>
  rw[rounds_succ];unfold Loop at hm
  cases hy:body s with
  |none=>simp[hy]at hm
  |some y=>
   refine wp_mono (hb s ρ w y h0 hy a hf) λe a' w' ⟨cX,xD,hh⟩=>?_
   cases y with
   |inl s'=>
    obtain⟨rfl,hI⟩:=hh;rw[hy]at hm;exact ih hm hI a' xD
   |inr x'=>
    rw[hy]at hm;obtain⟨dS,hq⟩:=hh;have:=hq (aoB hm)
    cases e with
    |normal=>exact absurd rfl dS
    |_=>exact⟨cX,xD,this⟩
def X0(P:Program)(fn:Func)(n:Nat)(R:Value->World->Prop):Exit->(Nat->Value)->World->Prop
 | .normal,ρ,w| .ret,ρ,w=>∀a,Fr n a ρ->∃v,(results fn a.tmps).run P w= .ok v w/\R v w
 |_,_,_=>False
theorem CL{f:FuncId}{fn:Func}{c:Code}{args:List Value}{R:Value->World->Prop}(hf:P.funcs[f]? =aa fn)(hb:fn.body=aa c)(hn:args.length<=fn.ntmps)
 (h:∀ρ,(∀t v,args[t]? =aa v->ρ t=v)->uU P fn.ntmps c (X0 P fn fn.ntmps R) ρ w):
 Calls P f args.toArray w λe w'=>∃v,e= .returned v/\R v w':=by
 refine calls_of_wp hf hb ?_
 have pS:(args.toArray++Array.replicate (fn.ntmps-args.toArray.size) undef).size=fn.ntmps:=by simp;omega
 refine wp_mono (h (λt=>(args.toArray++Array.replicate (fn.ntmps-args.toArray.size) undef).getD t undef) ?_ _ ⟨pS,rfl,λt=>rfl⟩) λe a' w' ⟨cX,xD,hh⟩=>?_
 .intro t v hv;have aJ:t<args.length:=(aoI.1 hv).1
  have gQ:args[t]=v:=by rw[aoA aJ]at hv;exact aoB hv
  simp[apz,Array.getElem?_append,aJ,gQ]
 .cases e with
  |normal=>exact⟨xD.defers,(hh a' xD).imp λv hv=>⟨hv.1,v,rfl,hv.2⟩⟩
  |ret=>exact⟨xD.defers,(hh a' xD).imp λv hv=>⟨hv.1,v,rfl,hv.2⟩⟩
  |_=>exact hh.elim
end
end
end Go.Proofs.YtfjgcenlllgonaaGreatDoor
section
open _root_.Bool renaming false->ag,true->af
open _root_.Option renaming none->ae,some->aa
open _root_.List renaming append_assoc->ape,append_nil->apq
open _root_.Nat renaming zero_add->apn
open _root_.Go.Sem renaming run_bind->ao9
namespace Go.Proofs.YtfjgcenlllgonaaGreatDoor
open Go Go.RowKit
theorem tM{α:Type}[BEq α][LawfulBEq α][DecidableEq α](a b:α):(a==b)=decide (a=b):=by
 grind
theorem run_equal_bool{P:Program}{t:TypeId}(ht:P.underlying t=aa .bool)(p q:Bool)(w:World):(Op.equal t (.bool p) (.bool q)).run P w= .ok (p==q) w:=by
 have h:∀d:Nat,(Op.equalIn (d+1) t (.bool p) (.bool q)).run P w= .ok (p==q) w:=λd=>by
  simp[Op.equalIn,run_underlying ht]
 exact h 9999
section
variable {P:Program} {ρ:Nat->Value} {d:Option Nat} {ty:TypeId} {pos:String} {aft:Array Edge} {x y c:Operand} {t u:TypeId} {k:IntKind} {a b:Int}
theorem Le{v:Value}(h:ev ρ x=v):Pure P ρ ⟨d, .move x,ty,pos,aft,ae⟩ v:=λw=>by simp[execOp,h]
theorem Em{v:Value}(h:ev ρ x=v):Pure P ρ ⟨d, .assign x,ty,pos,aft,ae⟩ v:=λw=>by simp[execOp,h]
theorem yP{v:Value}(hc:ev ρ c= .bool af)(hx:ev ρ x=v):Pure P ρ ⟨d, .pick c x y,ty,pos,aft,ae⟩ v:=λw=>by
 simp[execOp,asBool,hc,hx]
theorem yc{v:Value}(hc:ev ρ c= .bool ag)(hy:ev ρ y=v):Pure P ρ ⟨d, .pick c x y,ty,pos,aft,ae⟩ v:=λw=>by
 simp[execOp,asBool,hc,hy]
theorem NU(hx:ev ρ x= .int k a)(hy:ev ρ y= .int k b):Pure P ρ ⟨d, .binOp .add t x y u,ty,pos,aft,ae⟩ (.int k (k.wrap (a+b))):=λw=>by
 simp[execOp,eqGuard,binOp,Op.intArith,hx,hy]
theorem NV(hx:ev ρ x= .int k a)(hy:ev ρ y= .int k b):Pure P ρ ⟨d, .binOp .sub t x y u,ty,pos,aft,ae⟩ (.int k (k.wrap (a-b))):=λw=>by
 simp[execOp,eqGuard,binOp,Op.intArith,hx,hy]
theorem NW(hx:ev ρ x= .int k a)(hy:ev ρ y= .int k b):Pure P ρ ⟨d, .binOp .mul t x y u,ty,pos,aft,ae⟩ (.int k (k.wrap (a*b))):=λw=>by
 simp[execOp,eqGuard,binOp,Op.intArith,hx,hy]
theorem NX(hx:ev ρ x= .int k a)(hy:ev ρ y= .int k b)(hb:b≠0):Pure P ρ ⟨d, .binOp .quo t x y u,ty,pos,aft,ae⟩ (.int k (k.wrap (a.tdiv b))):=λw=>by
 simp[execOp,eqGuard,binOp,Op.intDiv,hx,hy,hb]
theorem NY(hx:ev ρ x= .int k a)(hy:ev ρ y= .int k b)(hb:b≠0):Pure P ρ ⟨d, .binOp .rem t x y u,ty,pos,aft,ae⟩ (.int k (a.tmod b)):=λw=>by
 simp[execOp,eqGuard,binOp,Op.intDiv,hx,hy,hb]
theorem NZ(hx:ev ρ x= .int k a)(hy:ev ρ y= .int k b):Pure P ρ ⟨d, .binOp .lss t x y u,ty,pos,aft,ae⟩ (.bool (decide (a<b))):=λw=>by
 simp[execOp,eqGuard,binOp,Op.intCmp,hx,hy]
theorem N0(hx:ev ρ x= .int k a)(hy:ev ρ y= .int k b):Pure P ρ ⟨d, .binOp .leq t x y u,ty,pos,aft,ae⟩ (.bool (decide (a<=b))):=λw=>by
 simp[execOp,eqGuard,binOp,Op.intCmp,hx,hy]
theorem N1(hx:ev ρ x= .int k a)(hy:ev ρ y= .int k b):Pure P ρ ⟨d, .binOp .gtr t x y u,ty,pos,aft,ae⟩ (.bool (decide (b<a))):=λw=>by
 simp[execOp,eqGuard,binOp,Op.intCmp,hx,hy]
theorem N2(hx:ev ρ x= .int k a)(hy:ev ρ y= .int k b):Pure P ρ ⟨d, .binOp .geq t x y u,ty,pos,aft,ae⟩ (.bool (decide (b<=a))):=λw=>by
 simp[execOp,eqGuard,binOp,Op.intCmp,hx,hy]
theorem N3(hx:ev ρ x= .int k a)(hy:ev ρ y= .int k b):Pure P ρ ⟨d, .binOp .eql t x y u,ty,pos,aft,ae⟩ (.bool (decide (a=b))):=λw=>by
 simp[execOp,eqGuard,binOp,Op.intCmp,hx,hy,tM]
theorem N4(hx:ev ρ x= .int k a)(hy:ev ρ y= .int k b):Pure P ρ ⟨d, .binOp .neq t x y u,ty,pos,aft,ae⟩ (.bool (!decide (a=b))):=λw=>by
 simp[execOp,eqGuard,binOp,Op.intCmp,hx,hy,bne,tM]
theorem Lf{p q:Bool}(ht:P.underlying t=aa .bool)(hx:ev ρ x= .bool p)(hy:ev ρ y= .bool q):Pure P ρ ⟨d, .binOp .eql t x y u,ty,pos,aft,ae⟩ (.bool (decide (p=q))):=λw=>by
 have h:=run_equal_bool ht p q w;rw[tM]at h;simp only[execOp,eqGuard,hx,hy];simp[binOp,h]
theorem Lg{p q:Bool}(ht:P.underlying t=aa .bool)(hx:ev ρ x= .bool p)(hy:ev ρ y= .bool q):Pure P ρ ⟨d, .binOp .neq t x y u,ty,pos,aft,ae⟩ (.bool (!decide (p=q))):=λw=>by
 have h:=run_equal_bool ht p q w;rw[tM]at h;simp only[execOp,eqGuard,hx,hy];simp[binOp,h]
theorem bytes_beq(p q:ByteArray):(p.toList==q.toList)=decide (p=q):=by
 rw[tM]
 congr 1
 rw[ByteArray.toList_eq,ByteArray.toList_eq];refine propext ⟨λh=>?_,λh=>by rw[h]⟩;cases p;cases q;simpa using h
theorem Lh{p q:ByteArray}(hx:ev ρ x= .string p)(hy:ev ρ y= .string q):Pure P ρ ⟨d, .binOp .eql t x y u,ty,pos,aft,ae⟩ (.bool (decide (p=q))):=λw=>by
 simp[execOp,eqGuard,binOp,Op.stringOp,hx,hy,bytes_beq]
theorem Li{p q:ByteArray}(hx:ev ρ x= .string p)(hy:ev ρ y= .string q):Pure P ρ ⟨d, .binOp .neq t x y u,ty,pos,aft,ae⟩ (.bool (!decide (p=q))):=λw=>by
 simp[execOp,eqGuard,binOp,Op.stringOp,hx,hy,bytes_beq]
theorem N5{p:Bool}(hx:ev ρ x= .bool p):Pure P ρ ⟨d, .unOp .not t x,ty,pos,aft,ae⟩ (.bool !p):=λw=>by
 simp[execOp,Op.unary,hx]
theorem N6(hx:ev ρ x= .int k a):Pure P ρ ⟨d, .unOp .neg t x,ty,pos,aft,ae⟩ (.int k (k.wrap (0-a))):=λw=>by
 simp[execOp,Op.unary,Op.intArith,hx]
theorem Lj{k':IntKind}{e:TypeDesc}(hs:P.underlying t=aa e)(hu:P.underlying u=aa (.int k'))(hx:ev ρ x= .int k a):Pure P ρ ⟨d, .convert t u x,ty,pos,aft,ae⟩ (.int k' (k'.wrap a)):=λw=>by
 simp[execOp,convert,run_underlying hs,run_underlying hu,hx,Conv.intToInt]
theorem N7{e:TypeId}{A:Option Addr}{n cap:Nat}{m:Nat}(hm:m=n)(ht:P.underlying t=aa (.slice e))(hx:ev ρ x= .slice A n cap):
 Pure P ρ ⟨d, .call {callee:= .builtin .len,args:= #[x],argTypes:= #[t]},ty,pos,aft,ae⟩ (.int .i64 (m:Int)):=λw=>by
 subst hm;simp[execOp,resolve,invoke,builtin,Builtin.len_,run_underlying ht,hx,goInt]
theorem Lk{s:ByteArray}(ht:P.underlying t=aa .string)(hx:ev ρ x= .string s):
 Pure P ρ ⟨d, .call {callee:= .builtin .len,args:= #[x],argTypes:= #[t]},ty,pos,aft,ae⟩ (.int .i64 (s.size:Int)):=λw=>by
 simp[execOp,resolve,invoke,builtin,Builtin.len_,run_underlying ht,hx,goInt]
theorem Ll{t':TypeId}(hx:ev ρ x= .int k a)(hy:ev ρ y= .int k b):
 Pure P ρ ⟨d, .call {callee:= .builtin .max,args:= #[x,y],argTypes:= #[t,t']},ty,pos,aft,ae⟩ (.int k (if a<b then b else a)):=λw=>by
 simp[execOp,resolve,invoke,builtin,Builtin.max_,Builtin.max2,hx,hy]
theorem Lm{t':TypeId}(hx:ev ρ x= .int k a)(hy:ev ρ y= .int k b):
 Pure P ρ ⟨d, .call {callee:= .builtin .min,args:= #[x,y],argTypes:= #[t,t']},ty,pos,aft,ae⟩ (.int k (if b<a then b else a)):=λw=>by
 simp[execOp,resolve,invoke,builtin,Builtin.min_,Builtin.min2,hx,hy]
theorem CM{vs:Array Value}{i:Nat}{v:Value}(hx:ev ρ x= .tuple vs)(hi:vs[i]? =aa v):Pure P ρ ⟨d, .extract x i,ty,pos,aft,ae⟩ v:=λw=>by
 simp[execOp,Instr.extract,hx,hi]
theorem dY(b o k:Nat):(⟨b,o,ae⟩:Addr).add k=⟨b,o+k,ae⟩:=by unfold Addr.add;grind
theorem yQ{f:Nat}{fs:Array Field}{fd:Field}{ti:TypeInfo}{sI off:Nat}(k:Nat)(hs:P.underlying t=aa (.struct fs))(hf:fs[f]? =aa fd)(hi:P.info? fd.type=aa ti)(pS:ti.size≠0)(hk:fd.offset=k)
 (hx:ev ρ x= .pointer (aa ⟨sI,off,ae⟩)):Pure P ρ ⟨d, .fieldAddr t x f,ty,pos,aft,ae⟩ (.pointer (aa ⟨sI,off+k,ae⟩)):=λw=>by
 subst hk;simp[execOp,Instr.fieldAt,run_underlying hs,hf,Instr.sureAddr,fieldPlace,sizeOf,typeInfo,hi,pS,hx,dY]
theorem pB{e:TypeId}{ti:TypeInfo}{sI off n cap i:Nat}(size:Nat)(ht:P.underlying t=aa (.slice e))(hi:P.info? e=aa ti)(pS:ti.size=size)
 (hx:ev ρ x= .slice (aa ⟨sI,off,ae⟩) n cap)(hy:ev ρ y= .int k a)(ha:a=(i:Int))(aJ:i<n):
 Pure P ρ ⟨d, .indexAddr t x y,ty,pos,aft,ae⟩ (.pointer (aa ⟨sI,off+i*size,ae⟩)):=λw=>by
 subst pS;subst ha;simp[execOp,Instr.indexAt,asIntOf,run_underlying ht,sizeOf,typeInfo,hi,hx,hy,aJ,dY]
end
end Go.Proofs.YtfjgcenlllgonaaGreatDoor
namespace Go.Proofs.YtfjgcenlllgonaaGreatDoor
open Go Go.RowKit
inductive Path:Row->Row->Type where
 |here {r:Row}:Path r r
 |fst {a b s:Row} (p:Path a s):Path (.pair a b) s
 |snd {a b s:Row} (p:Path b s):Path (.pair a b) s
def Path.off:{r s:Row}->Path r s->Nat
 |_,_, .here=>0
 |_,_, .fst p=>p.off
 |_,_, .snd (a:=a) p=>a.size+p.off
@[reducible] def Path.get:{r s:Row}->Path r s->r.den->s.den
  |_,_, .here,x=>x
  |_,_, .fst p,x=>p.get x.1
  |_,_, .snd p,x=>p.get x.2
@[reducible] def Path.set:{r s:Row}->Path r s->r.den->s.den->r.den
  |_,_, .here,_,y=>y
  |_,_, .fst p,x,y=>(p.set x.1 y,x.2)
  |_,_, .snd p,x,y=>(x.1,p.set x.2 y)
section
variable {F:Nat->Prop} {w:World}
theorem Path.le:{r s:Row}->(p:Path r s)->p.off+s.size<=r.size
 |_,_, .here=>by simp[Path.off]
 |_,_, .fst p=>by have:=p.le;simp[Path.off];omega
 |_,_, .snd p=>by have:=p.le;simp[Path.off];omega
theorem dF.path:{r s:Row}->(p:Path r s)->{es:List Value}->{x:r.den}->dF F w r es x->dF F w s ((es.drop p.off).take s.size) (p.get x)
 |_,_, .here,es,x,h=>by
  have:=h.length;simp only[Path.off,List.drop_zero,Path.get]
  grind
 |_,s, .fst (a:=a) p,_,x,h=>by
  obtain⟨c1,c2,rfl,h1,h2⟩:=h;have hr:=dF.path p h1;have hle:=p.le;have hl:=h1.length;simp only[Path.off,Path.get]
  grind
 |_,s, .snd (a:=a) p,_,x,h=>by
  obtain⟨c1,c2,rfl,h1,h2⟩:=h;have hr:=dF.path p h2;have hl:=h1.length;simp only[Path.off,Path.get]
  grind [List.drop_append,List.drop_of_length_le]
theorem dF.put:{r s:Row}->(p:Path r s)->{es vs:List Value}->{x:r.den}->{y:s.den}->dF F w r es x->dF F w s vs y->
 dF F w r (es.take p.off++vs++es.drop (p.off+s.size)) (p.set x y)
 |_,_, .here,es,vs,x,y,h,hv=>by
  have:=h.length;simp only[Path.off,Path.set,List.take_zero,List.nil_append,apn];rw[<-this,List.drop_length,apq];exact hv
 |_,s, .fst (a:=a) p,_,vs,x,y,h,hv=>by
  obtain⟨c1,c2,rfl,h1,h2⟩:=h;have hr:=dF.put p h1 hv;have hle:=p.le;have hl:=h1.length;refine⟨_,c2,?_,hr,h2⟩;simp only[Path.off];rw[List.take_append_of_le_length (by omega),List.drop_append_of_le_length (by omega)];simp[ape]
 |_,s, .snd (a:=a) p,_,vs,x,y,h,hv=>by
  obtain⟨c1,c2,rfl,h1,h2⟩:=h;have hr:=dF.put p h2 hv;have hl:=h1.length;refine⟨c1,_,?_,h1,hr⟩;simp only[Path.off]
  rw[<-hl,List.take_append,List.take_of_length_le (by omega),List.drop_append,List.drop_of_length_le (by omega),show c1.length+p.off-c1.length=p.off from by omega,
   show c1.length+p.off+s.size-c1.length=p.off+s.size from by omega]
  simp[ape]
theorem At.path{r s:Row}{b off:Nat}{x:r.den}(h:At F w r b off x)(p:Path r s)(k:Nat)(hk:p.off=k):At F w s b (off+k) (p.get x):=by
 subst hk;obtain⟨es,hl,hc,hr⟩:=h;have hp:=hr.path p;refine⟨_,hp.length,λj u hu=>?_,hp⟩
 grind
theorem At.int{k:IntKind}{b off:Nat}{x:Int}(h:At F w (.int k) b off x):w.cell? ⟨b,off,ae⟩=aa (.int k x):=by
 obtain⟨es,hl,hc,rfl⟩:=h;exact hc 0 _ rfl
theorem At.bool{b off:Nat}{x:Bool}(h:At F w .bool b off x):w.cell? ⟨b,off,ae⟩=aa (.bool x):=by
 obtain⟨es,hl,hc,rfl⟩:=h;exact hc 0 _ rfl
theorem At.str{b off:Nat}{x:ByteArray}(h:At F w .str b off x):w.cell? ⟨b,off,ae⟩=aa (.string x):=by
 obtain⟨es,hl,hc,rfl⟩:=h;exact hc 0 _ rfl
theorem At.slice{e:Row}{b off:Nat}{x:List e.den}(h:At F w (.slice e) b off x):∃v,w.cell? ⟨b,off,ae⟩=aa v/\dF F w (.slice e) [v] x:=by
 obtain⟨es,hl,hc,hr⟩:=h;obtain⟨A,cap,rfl,h⟩:=hr;exact⟨_,hc 0 _ rfl,A,cap,rfl,h⟩
def Reads(F:Nat->Prop)(w:World)(r:Row)(v:Value)(l:List r.den):Prop:=
 ∃A cap,v= .slice A l.length cap/\l.length<=cap/\cap<=maxLen/\∀i(h:i<l.length),∃b off,A=aa ⟨b,off,ae⟩/\At F w r b (off+i*r.size) l[i]
theorem dF.reads{r:Row}{v:Value}{l:List r.den}(h:dF F w (.slice r) [v] l):Reads F w r v l:=by
 obtain⟨A,cap,h1,h2,h3,h4⟩:=h;refine⟨A,cap,by simpa using h1,h2,h3,λi hi=>?_⟩;obtain⟨b,off,es,hA,_,wJ,hc,hr⟩:=h4 i hi;exact⟨b,off,hA,es,wJ,hc,hr⟩
def idx{α:Type}(l:List α)(i:Int):Option α:=if 0<=i then l[i.toNat]? else ae
theorem jv{α:Type}{l:List α}{i:Int}{y:α}(h:idx l i=aa y):∃k:Nat,i=k/\∃hk:k<l.length,l[k]=y:=by
 grind [idx]
theorem Reads.elem{r:Row}{v:Value}{l:List r.den}(h:Reads F w r v l){i:Int}{y:r.den}(hi:idx l i=aa y):
 ∃b off cap k,v= .slice (aa ⟨b,off,ae⟩) l.length cap/\i=(k:Nat)/\k<l.length/\At F w r b (off+k*r.size) y:=by
 obtain⟨A,cap,hv,_,_,h4⟩:=h
 grind [jv]
end
section
variable {P:Program} {n:Nat} {ops:Array Oper} {K:(Nat->Value)->World->Prop} {rest:List Oper} {ρ:Nat->Value} {w:World} {F:Nat->Prop}
variable {d:Nat} {ty:TypeId} {pos:String} {aft:Array Edge} {x y:Operand} {t:TypeId}
def lH:TypeDesc->Bool
 | .struct _| .array _ _=>af
 |_=>ag
theorem gW{D:TypeDesc}(hu:P.underlying t=aa D)(w:World):(isAgg t).run P w= .ok (lH D) w:=by
 unfold isAgg;rw[ao9,run_underlying hu w]
 cases D<;>simp[lH]
theorem Bx{dd:Option Nat}{D:TypeDesc}{b off:Nat}{v:Value}(hu:P.underlying t=aa D)(hD:lH D=ag)(hx:ev ρ x= .pointer (aa ⟨b,off,ae⟩))(hc:w.cell? ⟨b,off,ae⟩=aa v):
 (execOp (ev ρ) ⟨dd, .load t x,ty,pos,aft,ae⟩).run P w= .ok (.value v) w:=by
 simp[execOp,hx,Instr.loadAt,Instr.sureAddr,loadVar,ao9,gW hu,hD,hc,go_sem]
theorem Ln{dd:Option Nat}{D:TypeDesc}{ti:TypeInfo}{b off:Nat}{es:List Value}(hu:P.underlying t=aa D)(hD:lH D=af)(hi:P.info? t=aa ti)(hs:ti.size=es.length)
 (hx:ev ρ x= .pointer (aa ⟨b,off,ae⟩))(hc:∀j u,es[j]? =aa u->w.cell? ⟨b,off+j,ae⟩=aa u):
 (execOp (ev ρ) ⟨dd, .load t x,ty,pos,aft,ae⟩).run P w= .ok (.value (.agg es.toArray)) w:=by
 have hl:(loadCells ⟨b,off,ae⟩ es.length).run P w= .ok es.toArray w:=
  run_loadCells_list (P:=P) w ⟨b,off,ae⟩ es (λj v hv=>by rw[dY];exact hc j v hv)
 simp[execOp,hx,Instr.loadAt,Instr.sureAddr,loadVar,ao9,gW hu,hD,sizeOf,typeInfo,hi,hs,hl]
end
end Go.Proofs.YtfjgcenlllgonaaGreatDoor
end
namespace Go.Proofs.YtfjgcenlllgonaaGreatDoor
open Go Go.RowKit
set_option maxRecDepth 100000
set_option linter.unusedSimpArgs false
set_option linter.unusedVariables false
set_option linter.defProp false
section
structure Ext(g:Nat->Prop)(w w':World):Prop where
 os:w'.os=w.os
 tape:w'.tape=w.tape
 output:w'.output=w.output
 size:w.heap.size<=w'.heap.size
 block:∀k,k<w.heap.size->¬g k->w'.heap[k]? =w.heap[k]?
theorem Ext.N8{g:Nat->Prop}{a b:World}{row:Option Nat}(h:a.grownBy b row)(hs:∀k,row=aa k->g k):Ext g a b:=
 ⟨h.os,h.tape,h.output,h.size,λk hk hn=>h.block k hk λe=>hn (hs k e.symm)⟩
section
variable {w0 w w':World} {F0 F F':Nat->Prop} {g:Nat->Prop}
theorem St.ext(h:St w0 F0 w F)(he:Ext g w w')(hg:∀k,g k->w0.heap.size<=k):St w0 F0 w' F:=
 ⟨h.below.trans ⟨he.os,he.tape,he.output,he.size,λk hk=>by
   rcases aph k w.heap.size with aJ|hge
   .exact he.block k aJ λe=>by have:=hg k e;omega
   .have:=h.below.size;omega⟩,h.le,h.new,λb hb=>api (h.lt b hb) he.size⟩
theorem Step.ext(he:Ext g w w')(hF:∀b,F b->b<w.heap.size)(hg:∀k,g k->¬F k):Step F w F w':=
 λb hb=>⟨hb,he.block b (hF b hb) λe=>hg b e hb⟩
def qA(base:Nat)(F:Nat->Prop)(w:World)(b:Nat)(T:TypeId)(r:Row)(x:r.den):Prop:=
 base<=b/\¬F b/\∃es,w.heap[b]? =aa (.cells es.toArray T (0,0))/\dF F w r es x
def cc(v:Value)(k:Nat):Prop:=v.ownBlock=aa k
def is(b k:Nat):Prop:=k=b
def pZ(w:World)(base:Nat)(e:TypeId)(size:Nat)(v:Value)(n:Nat)(xs:List Value):Prop:=
 xs.length=n*size/\
 ((v= .slice ae 0 0/\n=0)\/
  ∃g o0 cap cur,v= .slice (aa ⟨g,o0,ae⟩) n cap/\base<=g/\w.heap[g]? =aa (.cells cur e (0,0))/\n<=cap/\cap<=maxLen/\o0+cap*size<=cur.size/\(cur.toList.drop o0).take (n*size)=xs)
theorem pZ.of{w:World}{base:Nat}{e:TypeId}{size:Nat}{v:Value}{n:Nat}{xs:List Value}(h:w.ownsRow base e size v n xs):pZ w base e size v n xs:=by
 refine⟨h.1,?_⟩
 rcases h.2 with h|⟨g,cap,cur,hv,hb,hg,h1,h2,h3,h4⟩
 .exact .inl h
 .exact .inr ⟨g,0,cap,cur,hv,hb,hg,h1,h2,by omega,h4⟩
theorem Lo(w:World)(base:Nat)(e:TypeId)(size:Nat):pZ w base e size (.slice ae 0 0) 0 []:= .of (World.ownsRow_nil w base e size)
theorem pZ.lt{w:World}{base:Nat}{e:TypeId}{size:Nat}{v:Value}{n:Nat}{xs:List Value}(h:pZ w base e size v n xs):∀k,v.ownBlock=aa k->base<=k/\k<w.heap.size:=by
 intro k hk
 rcases h.2 with⟨rfl,_⟩|⟨g,o0,cap,cur,rfl,hb,hg,_⟩
 .cases hk
 .obtain rfl:g=k:=by simpa[apg]using hk
  grind
def lV(base:Nat)(F:Nat->Prop)(w:World)(T:TypeId)(r:Row)(v:Value)(l:List r.den):Prop:=
 (∀k,cc v k->¬F k)/\∃xs,pZ w base T r.size v l.length xs/\∀i(h:i<l.length),dF F w r ((xs.drop (i*r.size)).take r.size) l[i]
variable {base b:Nat} {T:TypeId} {r:Row}
theorem qA.lt{x:r.den}(h:qA base F w b T r x):∀k,is b k->k<w.heap.size:=λk hk=>by
 obtain⟨_,_,es,hh,_⟩:=h;rw[hk]
 grind
theorem qA.ge{x:r.den}(h:qA base F w b T r x):∀k,is b k->base<=k:=λk hk=>by rw[hk];exact h.1
theorem qA.no{x:r.den}(h:qA base F w b T r x):∀k,is b k->¬F k:=λk hk=>by rw[hk];exact h.2.1
theorem qA.st{x:r.den}(h:qA base F w b T r x)(hF:∀b,F b->b<w.heap.size)(hs:St w F w' F'):qA base F' w' b T r x:=by
 have aJ:=h.lt b rfl;obtain⟨h1,h2,es,hh,hr⟩:=h;refine⟨h1,λe=>?_,es,(hs.below.block b aJ).trans hh,hr.step (hs.step hF)⟩
 rcases hs.new b e with h'|h'
 .exact h2 h'
 .omega
theorem qA.ext{x:r.den}(h:qA base F w b T r x)(hF:∀b,F b->b<w.heap.size)(he:Ext g w w')(hg:∀k,g k->¬F k)(hb:∀k,g k->¬is b k):qA base F w' b T r x:=by
 have aJ:=h.lt b rfl;obtain⟨h1,h2,es,hh,hr⟩:=h;exact⟨h1,h2,es,(he.block b aJ λe=>hb b e rfl).trans hh,hr.step (Step.ext he hF hg)⟩
theorem qA.at{x:r.den}(h:qA base F w b T r x):At F w r b 0 x:=by
 obtain⟨_,_,es,hh,hr⟩:=h;exact⟨es,hr.length,λj u hu=>by rw[apn,cell_of_row w b j _ T (0,0) hh];simpa using hu,hr⟩
theorem lV.lt{v:Value}{l:List r.den}(h:lV base F w T r v l):∀k,cc v k->k<w.heap.size:=by
 obtain⟨_,xs,h,_⟩:=h
 exact λk hk=>(h.lt k hk).2
theorem lV.ge{v:Value}{l:List r.den}(h:lV base F w T r v l):∀k,cc v k->base<=k:=by
 obtain⟨_,xs,h,_⟩:=h
 exact λk hk=>(h.lt k hk).1
theorem lV.no{v:Value}{l:List r.den}(h:lV base F w T r v l):∀k,cc v k->¬F k:=h.1
theorem lV.nil(base:Nat)(F:Nat->Prop)(w:World)(T:TypeId)(r:Row):lV base F w T r (.slice ae 0 0) []:=
 ⟨λk hk=>by simp[cc,apg]at hk,[],Lo _ _ _ _,λi h=>absurd h (by simp)⟩
theorem lV.keep{v:Value}{l:List r.den}(h:lV base F w T r v l)(hs:Step F w F' w')(h1:∀k,cc v k->¬F' k/\w'.heap[k]? =w.heap[k]?):lV base F' w' T r v l:=by
 obtain⟨_,xs,⟨X1,Lp⟩,h3⟩:=h;refine⟨λk hk=>(h1 k hk).1,xs,⟨X1,?_⟩,λi hi=>(h3 i hi).step hs⟩
 rcases Lp with h2|⟨gg,o0,cap,cur,rfl,hb,hg,rest⟩
 .exact .inl h2
 .exact .inr ⟨gg,o0,cap,cur,rfl,hb,(h1 gg rfl).2.trans hg,rest⟩
theorem lV.st{v:Value}{l:List r.den}(h:lV base F w T r v l)(hF:∀b,F b->b<w.heap.size)(hs:St w F w' F'):lV base F' w' T r v l:=
 h.keep (hs.step hF) λk hk=>⟨λe=>by
   have aJ:=h.lt k hk
   rcases hs.new k e with h'|h'
   .exact h.no k hk h'
   .omega,hs.below.block k (h.lt k hk)⟩
theorem lV.ext{v:Value}{l:List r.den}(h:lV base F w T r v l)(hF:∀b,F b->b<w.heap.size)(he:Ext g w w')(hg:∀k,g k->¬F k)(hb:∀k,g k->¬cc v k):lV base F w' T r v l:=
 h.keep (Step.ext he hF hg) λk hk=>⟨h.no k hk,he.block k (h.lt k hk) λe=>hb k e hk⟩
theorem lV.reads{v:Value}{l:List r.den}(h:lV base F w T r v l):Reads F w r v l:=by
 obtain⟨_,xs,hx,h3⟩:=h;have hlen:=hx.1
 rcases hx.2 with⟨rfl,h0⟩|⟨gg,o0,cap,cur,rfl,hb,hg,h1,h2,vA,N9⟩
 .exact⟨ae,0,by rw[h0],by omega,by simp[maxLen],λi hi=>absurd hi (by omega)⟩
 .refine⟨_,cap,rfl,h1,h2,λi hi=>⟨gg,o0,rfl,_,(h3 i hi).length,λj u hu=>?_,h3 i hi⟩⟩
  grind [Go.cell_of_row]
theorem lV.freeze{v:Value}{l:List r.den}(h:lV base F w T r v l):dF (λb=>F b\/cc v b) w (.slice r) [v] l:=by
 obtain⟨A,cap,hv,h1,h2,h3⟩:=h.reads;refine⟨A,cap,by rw[hv],h1,h2,λi hi=>?_⟩;obtain⟨b,off,rfl,es,wJ,hc,hr⟩:=h3 i hi;subst hv;exact⟨b,off,es,rfl, .inr (by simp[cc,apg]),wJ,hc,hr.step λb hb=>⟨.inl hb,rfl⟩⟩
@[reducible] def Row.zero:(r:Row)->r.den
  | .int _=>(0:Int)
  | .bool=>ag
  | .str=>ByteArray.empty
  | .slice _=>[]
  | .mI=> .slice ae 0 0
  | .nul _=>()
  | .map .. =>[]
  | .pair a b=>(a.zero,b.zero)
def Row.iK:(r:Row)->List Value
 | .int k=>[.int k 0]
 | .bool=>[.bool ag]
 | .str=>[.string ByteArray.empty]
 | .slice _=>[.slice ae 0 0]
 | .mI=>[.slice ae 0 0]
 | .nul k=>[k.val]
 | .map .. =>[.map ae]
 | .pair a b=>a.iK++b.iK
theorem dF.zero(F:Nat->Prop)(w:World):(r:Row)->dF F w r r.iK r.zero
 | .int _=>rfl
 | .bool=>rfl
 | .str=>rfl
 | .slice e=>dF.nil F w e
 | .mI=>⟨rfl,ae,0,0,rfl⟩
 | .nul _=>rfl
 | .map .. =>⟨_,rfl, .inl ⟨rfl,rfl⟩⟩
 | .pair a b=>⟨_,_,rfl,dF.zero F w a,dF.zero F w b⟩
theorem qA.new(F:Nat->Prop){w:World}(T:TypeId){r:Row}{es:List Value}{x:r.den}(hF:∀b,F b->b<w.heap.size)(hb:base<=w.heap.size)(hr:dF F w r es x):qA base F (w.alloc (.cells es.toArray T)) w.heap.size T r x:=
 ⟨hb,λe=>by have:=hF _ e;omega,es,heap_alloc_new w _,hr.step (Step.alloc hF _)⟩
end
section
variable {P:Program} {n:Nat} {ops:Array Oper} {K:(Nat->Value)->World->Prop} {rest:List Oper} {ρ:Nat->Value} {w:World} {F:Nat->Prop} {base:Nat}
variable {d:Nat} {ty:TypeId} {pos:String} {aft:Array Edge} {x y:Operand} {t:TypeId}
theorem Lq{dd:Option Nat}{ti:TypeInfo}{z:Value}(hi:P.info? t=aa ti)(hz:ti.zero=aa z):
 (execOp (ev ρ) ⟨dd, .alloc t,ty,pos,aft,ae⟩).run P w= .ok (.value (.pointer (aa ⟨w.heap.size,0,ae⟩))) (w.alloc (.cells z.cells t)):=by
 simp[execOp,Instr.alloc,zeroValue,typeInfo,hi,hz,newVar,newRow]
theorem RE{dd:Option Nat}{v:Value}(hx:ev ρ x=v):
 (execOp (ev ρ) ⟨dd, .box t x,ty,pos,aft,ae⟩).run P w= .ok (.value (.pointer (aa ⟨w.heap.size,0,ae⟩))) (w.alloc (.cells v.cells t)):=by
 simp[execOp,Instr.box,hx,newVar,newRow]
theorem rA{dd:Option Nat}{ti:TypeInfo}{b off:Nat}{cur:Array Value}{T:TypeId}{v:Value}{vs:List Value}(hi:P.info? t=aa ti)(hs:ti.size=vs.length)(hx:ev ρ x= .pointer (aa ⟨b,off,ae⟩))(hy:ev ρ y=v)
 (hv:v.cells.toList=vs)(h1:∀u∈vs,u.oneCell'=af)(hg:w.heap[b]? =aa (.cells cur T (0,0)))(hl:off+vs.length<=cur.size):
 (execOp (ev ρ) ⟨dd, .store t x y,ty,pos,aft,ae⟩).run P w= .ok .skip (w.setRow b (cur.toList.take off++vs++cur.toList.drop (off+vs.length)).toArray):=by
 have lm:=run_storeCells_at P b off T vs 0 cur w hg (by omega) h1
 have pS:v.cells.size=ti.size:=by rw[hs,<-hv];simp
 simp only[apO]at lm;simp[execOp,Instr.storeAt,Instr.sureAddr,storeVar,sizeOf,typeInfo,hi,pS,hx,hy,hv,lm]
theorem Hq(w:World)(b:Nat)(cs:Array Value):Ext (is b) w (w.setRow b cs):=
 ⟨rfl,rfl,rfl,by simp,λk _ hk=>setRow_other w b k cs hk⟩
theorem qA.put{w:World}{b:Nat}{T:TypeId}{r s:Row}{a:r.den}{es:List Value}(hh:w.heap[b]? =aa (.cells es.toArray T (0,0)))(hr:dF F w r es a)(hb:base<=b)(hn:¬F b)(hF:∀b,F b->b<w.heap.size)(p:Path r s){vs:List Value}{u:s.den}(hv:dF F w s vs u):
 qA base F (w.setRow b (es.take p.off++vs++es.drop (p.off+s.size)).toArray) b T r (p.set a u):=
 ⟨hb,hn,_,setRow_heap w b _ _ T (0,0) hh,(hr.put p hv).step (Step.ext (Hq w b _) hF λk hk=>by rw[show k=b from hk];exact hn)⟩
def pw{α:Type}(m:Int)(z:α):Option (List α):=if 0<=m/\m<=4294967296 then aa (aoE m.toNat z)else ae
def bR{α:Type}(l m:List α):Option (List α):=if l.length+m.length<=4294967296 then aa (l++m)else ae
theorem vB(z:Array Value)(m j:Nat)(hj:j<m)(hz:0<z.size):(madeCells z m).toList[j]? =z[j%z.size]? :=by
 have:j%z.size<z.size:=ap0 _ hz;simp[madeCells,hj,this]
theorem Oa(z:List Value)(m i:Nat)(hz:0<z.length)(hi:i<m):(((madeCells z.toArray (m*z.length)).toList.drop (i*z.length)).take z.length)=z:=by
 apply List.ext_getElem?
 intro j;rw[apV,apx];split
 .rename_i hj;have hle:(i+1)*z.length<=m*z.length:=aoZ _ hi
  grind [vB,Nat.add_mul_mod_self_right,Nat.mod_eq_of_lt]
 grind
theorem Reads.news{r:Row}{A:Option Addr}{cap m:Nat}{l:List r.den}(h:Reads F w r (.slice A m cap) l)(b off:Nat)(hA:A=aa ⟨b,off,ae⟩):
 ∃news:List Value,news.length=l.length*r.size/\(∀j u,news[j]? =aa u->w.cell? ⟨b,off+j,ae⟩=aa u)/\∀i(hi:i<l.length),dF F w r ((news.drop (i*r.size)).take r.size) l[i]:=by
 subst hA;obtain⟨A',Ob,hv,_,_,h4⟩:=h;simp only[aqj]at hv;obtain⟨rfl,_,_⟩:=hv;have pC:=r.size_pos
 have Ek:∀j,j<l.length*r.size->∃u,w.cell? ⟨b,off+j,ae⟩=aa u:=by
  intro j hj;have hi:j/r.size<l.length:=Nat.div_lt_of_lt_mul (by rwa [apt]);obtain⟨b',fI,rB,es,wJ,hc,_⟩:=h4 _ hi;simp only[aoW,Addr.mk.injEq,and_true]at rB;obtain⟨rfl,rfl⟩:=rB
  have Nu:j%r.size<es.length:=by rw[wJ];exact ap0 _ pC
  have:=hc (j%r.size) _ (aoA Nu);rw[Nat.add_assoc,Nat.div_add_mod']at this;exact⟨_,this⟩
 have Lr:∀j u,((ap1 (l.length*r.size)).map λj=>(w.cell? ⟨b,off+j,ae⟩).getD undef)[j]? =aa u↔j<l.length*r.size/\w.cell? ⟨b,off+j,ae⟩=aa u:=by
  intro j u;by_cases hj:j<l.length*r.size
  .obtain⟨q,hq⟩:=Ek j hj;simp[hj,hq]
  .simp[hj]
 refine⟨(ap1 (l.length*r.size)).map λj=>(w.cell? ⟨b,off+j,ae⟩).getD undef,by simp,λj u hu=>((Lr j u).1 hu).2,λi hi=>?_⟩;obtain⟨b',fI,rB,es,wJ,hc,hr⟩:=h4 i hi;simp only[aoW,Addr.mk.injEq,and_true]at rB;obtain⟨rfl,rfl⟩:=rB
 have he:(((ap1 (l.length*r.size)).map λj=>(w.cell? ⟨b,off+j,ae⟩).getD undef).drop (i*r.size)).take r.size=es:=by
  have hle:(i+1)*r.size<=l.length*r.size:=aoZ _ hi;rw[apl]at hle
  apply List.ext_getElem?
  intro j;rw[apV,apx];split
  .rename_i hj;rw[(Lr (i*r.size+j) (es[j]'(by omega))).2 ⟨by omega,by rw[<-Nat.add_assoc];exact hc j _ (aoA (by omega))⟩,aoA (by omega)]
  .rw[List.getElem?_eq_none (by omega)]
 rw[he];exact hr
theorem vC(w:World)(base:Nat)(t ty e:TypeId)(i:TypeInfo)(size:Nat)(ht:P.underlying t=aa (.slice e))(hi:P.info? e=aa i)
 (v:Value)(n:Nat)(xs:List Value)(gS:pZ w base e size v n xs)(c:Nat):(aqp #[t,t] ty #[v, .slice ae 0 c]).run P w= .ok v w:=by
 rcases gS.2 with⟨rfl,rfl⟩|⟨g,o0,cap,cur,rfl,_,_,X2,_⟩
 .simp[aqp,run_underlying ht,sizeOf,typeInfo,hi,Builtin.lenOf,Builtin.firstCells]
 .simp[aqp,run_underlying ht,sizeOf,typeInfo,hi,Builtin.lenOf,Builtin.firstCells,X2,storeCells]
theorem CN(w:World)(base:Nat)(t ty e:TypeId)(i:TypeInfo)(z:Value)(size bytes:Nat)(ht:P.underlying t=aa (.slice e))(hi:P.info? e=aa i)(hz:i.zero=aa z)
 (T9:i.size=size)(Nv:i.bytes=bytes)(X3:z.cells.size=size)(pS:0<size)
 (v:Value)(n:Nat)(xs:List Value)(gS:pZ w base e size v n xs)
 (a:Addr)(m c:Nat)(news:List Value)(hl:news.length=m*size)(Oc:∀j u,news[j]? =aa u->w.cell? (a.add j)=aa u)(h1:∀u∈news,u.oneCell'=af)
 (h63:n+m<=maxLen)(Od:(n+m)*bytes<=140737488355328)(Ua:base<=w.heap.size):
 ∃v' w',(aqp #[t,t] ty #[v, .slice (aa a) m c]).run P w= .ok v' w'/\pZ w' base e size v' (n+m) (xs++news)/\w.grownBy w' v.ownBlock/\
  (v'.ownBlock=v.ownBlock\/v'.ownBlock=aa w.heap.size):=by
 rcases gS.2 with⟨rfl,rfl⟩|⟨g,o0,cap,cur,rfl,hbg,hg,X2,hcm,vA,N9⟩
 .have hx:xs=[]:=List.eq_nil_of_length_eq_zero (by simpa using gS.1);subst hx;obtain⟨v',w',g1,g2,g3,_,g4⟩:=run_append_own_at (P:=P) w base t ty e i z size bytes ht hi hz T9 Nv X3 pS (.slice ae 0 0) 0 [] (World.ownsRow_nil w base e size) a m c news hl Oc h1 h63 Od Ua;exact⟨v',w',g1, .of g2,g3,g4⟩
 subst T9;subst Nv
 have abS:n+m<=9223372036854775807:=by simp only[maxLen]at h63;omega
 have hlen:(xs++news).length=(n+m)*i.size:=by rw[aoH,gS.1,hl,apl]
 have hnm:n*i.size+news.length=(n+m)*i.size:=by rw[hl,apl]
 have ajk:n*i.size<=cap*i.size:=aoZ _ X2;by_cases Oe:n+m<=cap
 .have Ls:(n+m)*i.size<=cap*i.size:=aoZ _ Oe;have hf:=run_firstCells_some (P:=P) w i.size m a m c news hl Oc;have lm:=run_storeCells_at P g (o0+n*i.size) e news 0 cur w hg (by omega) h1;simp only[apO]at lm
  have hr:(aqp #[t,t] ty #[.slice (aa ⟨g,o0,ae⟩) n cap, .slice (aa a) m c]).run P w=
   .ok (.slice (aa ⟨g,o0,ae⟩) (n+m) cap) (w.setRow g (cur.toList.take (o0+n*i.size)++news++cur.toList.drop (o0+n*i.size+news.length)).toArray):=by
   simp[aqp,run_underlying ht,sizeOf,typeInfo,hi,Builtin.lenOf,Oe,hf,Addr.add_lit,lm]
  refine⟨_,_,hr,⟨hlen, .inr ⟨g,o0,cap,_,rfl,hbg,setRow_heap w g cur _ e _ hg,Oe,hcm,?_,?_⟩⟩,⟨rfl,rfl,rfl,by simp,λk _ hk=>setRow_other w g k _ (λe=>hk (by simp[apg,e]))⟩,Or.inl rfl⟩
  all_goals grind
 .have holds:∀j u,xs[j]? =aa u->w.cell? ((⟨g,o0,ae⟩:Addr).add j)=aa u:=λj u hj=>by
   grind [dY,Go.cell_of_row]
  have hr:=run_append_grow (P:=P) w t ty e i z ht hi hz ⟨g,o0,ae⟩ n cap xs gS.1 holds a m c news hl Oc (by omega) (by omega) (growslice_fits (by omega) Od);have hge:=grownCap_ge w (n+m) cap e;have abT:grownCap w (n+m) cap e<=maxLen:=grownCap_le_maxLen w (n+m) cap e h63;refine⟨_,_,hr, .of ⟨hlen, .inr ⟨w.heap.size,_,_,rfl,Ua,heap_alloc_new w.drew _,hge,abT,?_,?_⟩⟩,⟨rfl,rfl,rfl,by simp,λk hk _=>heap_alloc_old w.drew _ hk⟩,Or.inr rfl⟩
  .simp only[Array.size_append,List.size_toArray,size_zeroCells,X3,gS.1,hl,<-apl]
   congr 1
   omega
  grind
theorem Reads.same{r:Row}{v:Value}{l:List r.den}(h:Reads F w r v l):Reads F w r v l:=h
theorem yR{e:TypeId}{ti:TypeInfo}{z:Value}{r:Row}{v u:Value}{l m out:List r.den}(ty:TypeId)(ht:P.underlying t=aa (.slice e))(hi:P.info? e=aa ti)(hz:ti.zero=aa z)(X4:z.cells.toList=r.iK)(hs:ti.size=r.size)(Nv:ti.bytes<=32768)
 (hv:lV base F w e r v l)(hu:Reads F w r u m)(hm:bR l m=aa out)(hF:∀b,F b->b<w.heap.size)(hb:base<=w.heap.size):
 ∃v' w',(aqp #[t,t] ty #[v,u]).run P w= .ok v' w'/\Ext (cc v) w w'/\lV base F w' e r v' out/\(cc v'=cc v\/cc v'=(w.heap.size= ·)):=by
 unfold bR at hm;split at hm
 case isFalse=>cases hm
 rename_i hlen;obtain rfl:=aoB hm
 have X3:z.cells.size=r.size:=by rw[<-(dF.zero F w r).length,<-X4];simp
 obtain⟨By,xs,hx,h3⟩:=hv;have hu0:=hu;obtain⟨A,cap,rfl,hmc,hcm,wJ⟩:=hu
 have Of:∀(v':Value)(w':World)(news:List Value),news.length=m.length*r.size->(∀i(hi:i<m.length),dF F w r ((news.drop (i*r.size)).take r.size) m[i])->
  pZ w' base e r.size v' (l.length+m.length) (xs++news)->w.grownBy w' v.ownBlock->(v'.ownBlock=v.ownBlock\/v'.ownBlock=aa w.heap.size)->
  Ext (cc v) w w'/\lV base F w' e r v' (l++m)/\(cc v'=cc v\/cc v'=(w.heap.size= ·)):=by
  intro v' _ news hnl hnr lI hg vD
  have hm:cc v'=cc v\/cc v'=(w.heap.size= ·):=by
   rcases vD with h|h
   .exact .inl (by unfold cc;rw[h])
   .refine .inr ?_;funext b;unfold cc;rw[h];simp
  have cG:=Ext.N8 hg (g:=cc v) λk hk=>hk
  have sL:=Step.ext cG hF By;refine⟨cG,⟨λk hk=>?_,xs++news,by simpa using lI,λk hk=>?_⟩,hm⟩
  .rcases hm with h|h
   .rw[h]at hk;exact By k hk
   .rw[h]at hk;intro hf;have:=hF k hf;omega
  .have He:=hx.1
   rcases aph k l.length with aJ|hge
   .have hle:(k+1)*r.size<=l.length*r.size:=aoZ _ aJ;rw[apl]at hle;rw[aoK aJ,List.drop_append_of_le_length (by omega),List.take_append_of_le_length (by rw[List.length_drop];omega)];exact(h3 k aJ).step sL
   .have Js:k-l.length<m.length:=by simp at hk;omega
    have hmul:k*r.size=l.length*r.size+(k-l.length)*r.size:=by rw[<-apl];congr 1;omega
    rw[ao1 hge,List.drop_append,He,List.drop_of_length_le (by omega),List.nil_append,show k*r.size-l.length*r.size=(k-l.length)*r.size from by omega];exact(hnr _ Js).step sL
 cases A with
 |none=>
  have U4:m=[]:=by
   cases m with
   |nil=>rfl
   |cons a q=>obtain⟨b,off,h,_⟩:=wJ 0 (by simp);cases h
  subst U4;refine⟨v,w,vC w base t ty e ti r.size ht hi v _ xs hx _,?_⟩;exact Of v w [] (by simp) (λi hi=>absurd hi (by simp)) (by simpa using hx) ⟨rfl,rfl,rfl,aoJ _,λ_ _ _=>rfl⟩ (.inl rfl)
 |some ad=>
  have key:∃news:List Value,news.length=m.length*r.size/\(∀j u,news[j]? =aa u->w.cell? (ad.add j)=aa u)/\∀i(hi:i<m.length),dF F w r ((news.drop (i*r.size)).take r.size) m[i]:=by
   cases m with
   |nil=>exact⟨[],by simp,λj u h=>by simp at h,λi hi=>absurd hi (by simp)⟩
   |cons a q=>
    obtain⟨b,off,h,_⟩:=wJ 0 (by simp);obtain⟨news,h1,h2,h3⟩:=hu0.news b off h
    obtain rfl:ad=⟨b,off,ae⟩:=by simpa using h
    exact⟨news,h1,λj u hj=>by rw[dY];exact h2 j u hj,h3⟩
  obtain⟨news,hnl,X2,hnr⟩:=key
  have pd:∀u∈news,u.oneCell'=af:=by
   intro u hu;obtain⟨j,hj,rfl⟩:=aoS hu;have pC:=r.size_pos;have hi:j/r.size<m.length:=Nat.div_lt_of_lt_mul (by rw[apt,<-hnl];exact hj);have hr:=hnr _ hi;refine hr.lU _ ?_;have hle:(j/r.size)*r.size+j%r.size=j:=Nat.div_add_mod' j r.size;have aJ:=ap0 j pC;rw[List.mem_iff_getElem?];refine⟨j%r.size,?_⟩;rw[apV,aj aJ,apx,hle,aoA hj]
  obtain⟨v',w',cD,lI,hg,vD⟩:=CN (P:=P) w base t ty e ti z r.size ti.bytes ht hi hz hs rfl X3 r.size_pos v l.length xs hx ad m.length cap news hnl X2 pd (by simp only[maxLen];omega)
   (Nat.le_trans (Nat.mul_le_mul hlen Nv) (by omega)) hb
  exact⟨v',w',cD,Of v' w' news hnl hnr lI hg vD⟩
end
end
end Go.Proofs.YtfjgcenlllgonaaGreatDoor
section
open _root_.Bool renaming false->ag,true->af,false_eq_true->aoC,not_true->aoX
open _root_.Option renaming none->ae,some->aa,bind_eq_some_iff->ao6
open _root_.List.cons renaming injEq->ap5
open _root_.List renaming drop_eq_getElem_cons->ao2,length_take->ao0,take_length->ao3
open _root_.Nat renaming add_zero->apO,beq->aoL,min_eq_left->apC
open _root_.Option.some renaming injEq->aoW
open _root_.Go.Result renaming andThen_ok->apM
open _root_.Go.Sem renaming run_bind->ao9
namespace Go.Proofs.YtfjgcenlllgonaaGreatDoor
open Go Go.RowKit
theorem bind_some{α β:Type}{o:Option α}{f:α->Option β}{r:β}(h:o.bind f=aa r):∃x,o=aa x/\f x=aa r:=ao6.1 h
section
variable {P:Program} {n:Nat} {ρ:Nat->Value} {w:World} {K:(Nat->Value)->World->Prop} {Q:Exit->(Nat->Value)->World->Prop}
theorem Og{id:Nat}(h:Q .normal ρ w):Xz id Q (.exit id) ρ w:=by
 show(bif aoL id id then _ else _)
 simp_all
theorem Lt{id Lc:Nat}(dS:aoL Lc id=ag)(h:Q (.exit Lc) ρ w):Xz id Q (.exit Lc) ρ w:=by
 show(bif aoL Lc id then _ else _)
 grind
theorem lV.fz{base:Nat}{F G:Nat->Prop}{w:World}{T:TypeId}{r:Row}{v:Value}{l:List r.den}(h:lV base F w T r v l)(hg:∀k,G k->¬cc v k):lV base (λb=>F b\/G b) w T r v l:=
 h.keep (Step.freeze F w G) λk hk=>⟨λe=>e.elim (h.no k hk) λe=>hg k e hk,rfl⟩
theorem qA.fz{base:Nat}{F G:Nat->Prop}{w:World}{b:Nat}{T:TypeId}{r:Row}{x:r.den}(h:qA base F w b T r x)(hg:∀k,G k->¬is b k):qA base (λb=>F b\/G b) w b T r x:=by
 obtain⟨h1,h2,es,hh,hr⟩:=h;exact⟨h1,λe=>e.elim h2 λe=>hg b e rfl,es,hh,hr.step (Step.freeze F w G)⟩
theorem St.fz{w0 w:World}{F0 F:Nat->Prop}(h:St w0 F0 w F){T:TypeId}{r:Row}{v:Value}{l:List r.den}(ho:lV w0.heap.size F w T r v l):St w0 F0 w (λb=>F b\/cc v b):=
 h.freeze (cc v) λb hb=>⟨ho.ge b hb,ho.lt b hb⟩
end
def TI(P:Program)(e:TypeId)(r:Row):Prop:=∃ti z,P.info? e=aa ti/\ti.zero=aa z/\z.cells.toList=r.iK/\ti.size=r.size/\ti.bytes<=32768
theorem TI.mk{P:Program}{e:TypeId}{r:Row}{k:Nat}(h:(P.info? e).map (λi=>(i.zero.map (λz=>z.cells.toList),i.size,decide (i.bytes<=32768)))=aa (aa r.iK,k,af))(hk:k=r.size):TI P e r:=by
 cases hi:P.info? e with
 |none=>simp[hi]at h
 |some ti=>
  simp only[hi,Option.map_some,aoW,Prod.mk.injEq,ax]at h;obtain⟨h1,h2,h3⟩:=h
  cases hz:ti.zero with
  |none=>simp[hz]at h1
  |some z=>
   simp only[hz,Option.map_some,aoW]at h1;exact⟨ti,z,hi,hz,h1,h2.trans hk,h3⟩
section
variable {P:Program} {n:Nat} {ops:Array Oper} {K:(Nat->Value)->World->Prop} {rest:List Oper} {ρ:Nat->Value} {w:World} {F:Nat->Prop} {base:Nat}
variable {d:Nat} {dd:Option Nat} {ty:TypeId} {pos:String} {aft:Array Edge} {x y c:Operand} {t e:TypeId} {r:Row}
theorem p3{f:Nat}{fs:Array Field}{fd:Field}{sI off:Nat}(k:Nat)(hs:P.underlying t=aa (.struct fs))(hf:fs[f]? =aa fd)(hi:TI P fd.type r)(hk:fd.offset=k)
 (hx:ev ρ x= .pointer (aa ⟨sI,off,ae⟩)):Pure P ρ ⟨dd, .fieldAddr t x f,ty,pos,aft,ae⟩ (.pointer (aa ⟨sI,off+k,ae⟩)):=by
 obtain⟨ti,z,h1,_,_,h4,_⟩:=hi
 grind [yQ,Row.size_pos]
end
end Go.Proofs.YtfjgcenlllgonaaGreatDoor
namespace Go.Proofs.YtfjgcenlllgonaaGreatDoor
open Go Go.RowKit
noncomputable def px(r:Row)(x y:r.den):Bool:= @decide (x=y) (Row.decEq r x y)
def Oh(P:Program)(t:TypeId)(cs:List Value)(v:Value):Prop:=∃D,P.underlying t=aa D/\(if lH D=af then v= .agg cs.toArray else cs=[v])
def uV(P:Program)(t:TypeId)(r:Row)(K:Nat):Prop:=
 ∀(d:Nat)(w2 w:World)(F:Nat->Prop)(cs yd:List Value)(x y:r.den)(v v':Value),Oh P t cs v->Oh P t yd v'->dF F w r cs x->dF F w r yd y->
  (Op.equalIn (d+K) t v v').run P w2= .ok (decide (x=y)) w2
def RF(P:Program)(fs:List Field)(r:Row)(off K:Nat):Prop:=
 ∀(d:Nat)(w2 w:World)(F:Nat->Prop)(xs ys:List Value)(x y:r.den),dF F w r ((xs.drop off).take r.size) x->dF F w r ((ys.drop off).take r.size) y->
  (Op.eqFields (d+K) xs.toArray ys.toArray fs).run P w2= .ok (decide (x=y)) w2
section
variable {P:Program} {t:TypeId} {r:Row} {k:IntKind} {K:Nat}
theorem Jt(ht:P.underlying t=aa (.int k)):uV P t (.int k) 1:=by
 intro d w2 w F cs yd x y v v' ⟨D,hD,h1⟩ ⟨D',RG,h2⟩ hx hy;rw[ht]at hD RG;cases hD;cases RG;obtain rfl:cs=_:=hx;obtain rfl:yd=_:=hy;simp only[lH,aoC,if_false,ap5,and_true]at h1 h2;subst h1;subst h2;rw[run_equalIn_int (h:=ht),tM]
theorem vE{D:TypeDesc}{ti:TypeInfo}{cs:List Value}{off:Nat}{F:Nat->Prop}{w:World}{x:r.den}(hD:P.underlying t=aa D)(hi:P.info? t=aa ti)(hs:ti.size=r.size)(pd:lH D=ag->r.size=1)
 (hr:dF F w r ((cs.drop off).take r.size) x)(w2:World):∃v,(part t cs.toArray off).run P w2= .ok v w2/\Oh P t ((cs.drop off).take r.size) v:=by
 have hl:=hr.length;have pC:=r.size_pos
 cases hA:lH D with
 |true=>
  refine⟨.agg ((cs.drop off).take r.size).toArray,?_,D,hD,by rw[aj hA]⟩;unfold part;rw[ao9,gW hD,hA];simp[sizeOf,typeInfo,hi,hs]
 |false=>
  have h1:=pd hA;rw[h1]at hl⊢
  have aJ:off<cs.length:=by
   rw[ao0,List.length_drop]at hl;omega
  refine⟨cs[off],?_,D,hD,?_⟩
  .unfold part;rw[ao9,gW hD,hA];simp[aJ]
  .rw[ai (by simp[hA])]
   grind [ao2]
theorem sM{f:Field}{off:Nat}(hn:(f.name != "_")=af)(ho:f.offset=off){D:TypeDesc}(hD:P.underlying f.type=aa D)(pd:lH D=ag->r.size=1)(hi:TI P f.type r)(he:uV P f.type r K):RF P [f] r off K:=by
 intro d w2 w F xs ys x y hx hy;subst ho;obtain⟨ti,z,h1,_,_,h4,_⟩:=hi;obtain⟨v,hv,Lu⟩:=vE hD h1 h4 pd hx w2;obtain⟨v',gQ,Lv⟩:=vE hD h1 h4 pd hy w2;have:=he d w2 w F _ _ x y v v' Lu Lv hx hy
 have RH:f.name≠ "_" :=by simpa using hn
 unfold Op.eqFields;rw[aj RH,ao9,hv,apM,ao9,gQ,apM,ao9,this,apM]
 by_cases AS:x=y<;>simp[AS,Op.eqFields]
theorem oB{f:Field}{fs:List Field}{a b:Row}{off:Nat}(hn:(f.name != "_")=af)(ho:f.offset=off){D:TypeDesc}(hD:P.underlying f.type=aa D)(pd:lH D=ag->a.size=1)(hi:TI P f.type a)(he:uV P f.type a K)
 (hr:RF P fs b (off+a.size) K):RF P (f::fs) (.pair a b) off K:=by
 intro d w2 w F xs ys x y hx hy;subst ho;obtain⟨ti,z,h1,_,_,h4,_⟩:=hi
 have hle:a.size<=(Row.pair a b).size:=by simp
 have fo:∀(zs:List Value)(u:(Row.pair a b).den),dF F w (.pair a b) ((zs.drop f.offset).take (Row.pair a b).size) u->dF F w a ((zs.drop f.offset).take a.size) u.1:=by
  intro zs u hu;have:=dF.path (.fst (.here (r:=a)):Path (.pair a b) a) hu;simp only[Path.off,List.drop_zero]at this;rw[List.take_take,apC hle]at this;exact this
 have X5:∀(zs:List Value)(u:(Row.pair a b).den),dF F w (.pair a b) ((zs.drop f.offset).take (Row.pair a b).size) u->dF F w b ((zs.drop (f.offset+a.size)).take b.size) u.2:=by
  intro zs u hu;have:=dF.path (.snd (.here (r:=b)):Path (.pair a b) b) hu;simp only[Path.off,apO]at this;rw[List.drop_take,List.drop_drop]at this;rw[show(Row.pair a b).size-a.size=b.size from by simp]at this;rw[List.take_take,Nat.min_self]at this;exact this
 obtain⟨v,hv,Lu⟩:=vE hD h1 h4 pd (fo xs x hx) w2;obtain⟨v',gQ,Lv⟩:=vE hD h1 h4 pd (fo ys y hy) w2;have h5:=he d w2 w F _ _ _ _ v v' Lu Lv (fo xs x hx) (fo ys y hy);have h6:=hr d w2 w F xs ys _ _ (X5 xs x hx) (X5 ys y hy)
 have RH:f.name≠ "_" :=by simpa using hn
 unfold Op.eqFields;rw[aj RH,ao9,hv,apM,ao9,gQ,apM,ao9,h5,apM];obtain⟨x1,x2⟩:=x;obtain⟨y1,y2⟩:=y;by_cases AS:x1=y1
 .simp only[AS,decide_true,aoX,aoC,if_false,h6]
  congr 1
  simp[Prod.ext_iff]
 .simp[AS,Prod.ext_iff]
theorem pD{fs:Array Field}(ht:P.underlying t=aa (.struct fs))(hp:P.stoodInHeld t=ag)(h:RF P fs.toList r 0 K):uV P t r (K+1):=by
 intro d w2 w F cs yd x y v v' ⟨D,hD,h1⟩ ⟨D',RG,h2⟩ hx hy;rw[ht]at hD RG;cases hD;cases RG;simp only[lH,if_true]at h1 h2;subst h1;subst h2
 have hf:P.fieldsOf t=fs:=by simp[Program.fieldsOf,ht]
 have X6:=hx.length;have hly:=hy.length;rw[<-Nat.add_assoc,run_equalIn_struct _ _ _ _ _ (by grind) hp,hf];exact h d w2 w F cs yd x y (by rw[List.drop_zero,<-X6,ao3];exact hx) (by grind)
variable {ρ:Nat->Value} {dd:Option Nat} {ty:TypeId} {pos:String} {aft:Array Edge} {x y:Operand} {u:TypeId}
theorem Lx{d:Nat}{F:Nat->Prop}{w:World}{es uW:List Value}{a b:r.den}(hE:uV P t r K)(hd:d+K=10000)(hg:P.eqGuardType P.depth t=ag)(hD:(P.underlying t).any lH=af)
 (hx:ev ρ x= .agg es.toArray)(hy:ev ρ y= .agg uW.toArray)(ha:dF F w r es a)(hb:dF F w r uW b):
 Pure P ρ ⟨dd, .binOp .eql t x y u,ty,pos,aft,ae⟩ (.bool (px r a b)):=λw2=>by
 cases hu:P.underlying t with
 |none=>simp[hu]at hD
 |some D=>
  have hA:lH D=af:=by simpa[hu]using hD
  have:=hE d w2 w F es uW a b _ _ ⟨D,hu,by rw[aj hA]⟩ ⟨D,hu,by rw[aj hA]⟩ ha hb;rw[hd]at this;simp only[execOp,hx,hy,ao9,run_eqGuard_agg _ _ _ _ _ _ _ hg,apM,run_eql_struct,this];rfl
theorem Ly{d:Nat}{F:Nat->Prop}{w:World}{es uW:List Value}{a b:r.den}(hE:uV P t r K)(hd:d+K=10000)(hg:P.eqGuardType P.depth t=ag)(hD:(P.underlying t).any lH=af)
 (hx:ev ρ x= .agg es.toArray)(hy:ev ρ y= .agg uW.toArray)(ha:dF F w r es a)(hb:dF F w r uW b):
 Pure P ρ ⟨dd, .binOp .neq t x y u,ty,pos,aft,ae⟩ (.bool (!px r a b)):=λw2=>by
 cases hu:P.underlying t with
 |none=>simp[hu]at hD
 |some D=>
  have hA:lH D=af:=by simpa[hu]using hD
  have:=hE d w2 w F es uW a b _ _ ⟨D,hu,by rw[aj hA]⟩ ⟨D,hu,by rw[aj hA]⟩ ha hb;rw[hd]at this;simp only[execOp,hx,hy,ao9,run_eqGuard_agg _ _ _ _ _ _ _ hg,apM,run_neq_struct,this];rfl
end
section
variable {P:Program} {n:Nat} {ops:Array Oper} {K:(Nat->Value)->Prop} {rest:List Oper} {ρ:Nat->Value} {w:World} {F:Nat->Prop}
variable {d:Nat} {ty:TypeId} {pos:String} {aft:Array Edge} {x y:Operand} {t e:TypeId} {r:Row}
theorem At.st{w':World}{b off:Nat}{a:r.den}(h:At F w r b off a)(hF:∀b,F b->b<w.heap.size)(hs:St w F w' F):At F w' r b off a:=by
 obtain⟨es,hl,hc,hr⟩:=h;refine⟨es,hl,λj u hu=>?_,hr.step (hs.step hF)⟩;have:=hc j u hu;have aJ:b<w.heap.size:=block_lt_of_cell this;exact(World.cell?_of_block (hs.below.block b aJ)).trans this
end
end Go.Proofs.YtfjgcenlllgonaaGreatDoor
end
namespace Go.Proofs.YtfjgcenlllgonaaGreatDoor
open Go Go.RowKit
set_option maxRecDepth 100000
set_option linter.unusedSimpArgs false
set_option linter.unusedVariables false
set_option linter.defProp false
section
section
variable {P:Program} {n:Nat} {ops:Array Oper} {K:(Nat->Value)->World->Prop} {rest:List Oper} {ρ:Nat->Value} {w:World} {F:Nat->Prop} {base:Nat}
variable {d:Nat} {ty:TypeId} {pos:String} {aft:Array Edge} {x y:Operand} {t e:TypeId} {r s:Row}
def be{α:Type}(l:List α)(i:Int)(y:α):List α:=l.set i.toNat y
theorem lV.put{g o0 m0 U5 q:Nat}{v:Value}{l:List r.den}(h:lV base F w e r v l)(hg:v= .slice (aa ⟨g,o0,ae⟩) m0 U5)(hq:q<l.length)(hF:∀b,F b->b<w.heap.size)(p:Path r s){vs:List Value}{u:s.den}(hv:dF F w s vs u):
 ∃cur,w.heap[g]? =aa (.cells cur e (0,0))/\o0+q*r.size+p.off+vs.length<=cur.size/\
  Ext (cc v) w (w.setRow g (cur.toList.take (o0+q*r.size+p.off)++vs++cur.toList.drop (o0+q*r.size+p.off+vs.length)).toArray)/\
  lV base F (w.setRow g (cur.toList.take (o0+q*r.size+p.off)++vs++cur.toList.drop (o0+q*r.size+p.off+vs.length)).toArray) e r v (l.set q (p.set l[q] u)):=by
 obtain⟨By,xs,⟨He,hx⟩,h3⟩:=h
 rcases hx with⟨rfl,_⟩|⟨g',o1,cap,cur,rfl,hb,hh,h1,h2,vA,N9⟩
 .simp at hg
 .simp only[aqj,aoW,Addr.mk.injEq,and_true]at hg;obtain⟨⟨rfl,rfl⟩,rfl,rfl⟩:=hg;have hle:=p.le;have hl:=hv.length;have hmul:(q+1)*r.size<=l.length*r.size:=aoZ _ hq;rw[apl]at hmul;have Ls:l.length*r.size<=cap*r.size:=aoZ _ h1
  have cG:Ext (cc (.slice (aa ⟨g',o1,ae⟩) l.length cap)) w (w.setRow g' (cur.toList.take (o1+q*r.size+p.off)++vs++cur.toList.drop (o1+q*r.size+p.off+vs.length)).toArray):=
   ⟨rfl,rfl,rfl,by simp,λk _ hk=>setRow_other w g' k _ λe=>hk (by simp[cc,apg,e])⟩
  have sL:=Step.ext cG hF By;refine⟨cur,hh,by omega,cG,By,xs.take (q*r.size+p.off)++vs++xs.drop (q*r.size+p.off+vs.length),⟨by simp;omega, .inr ⟨g',o1,cap,_,by simp,hb,setRow_heap w g' _ _ e (0,0) hh,by simpa using h1,h2,by simp;omega,?_⟩⟩,?_⟩
  .rw[ap6,List.toList_toArray,<-N9]
   have e0:(cur.toList.take (o1+q*r.size+p.off)++vs++cur.toList.drop (o1+q*r.size+p.off+vs.length)).drop o1=(cur.toList.drop o1).take (q*r.size+p.off)++vs++(cur.toList.drop o1).drop (q*r.size+p.off+vs.length):=by
    rw[ape,List.drop_append_of_le_length (by simp;omega),List.drop_take,List.drop_drop,show o1+q*r.size+p.off-o1=q*r.size+p.off by omega,ape,show o1+q*r.size+p.off+vs.length=o1+(q*r.size+p.off+vs.length) by omega]
   rw[e0]
   have CO:cap*r.size<=(cur.toList.drop o1).length:=by simp;omega
   generalize cur.toList.drop o1=c2 at*
   have e1:(c2.take (l.length*r.size)).take (q*r.size+p.off)=c2.take (q*r.size+p.off):=by rw[List.take_take,apC (by omega)]
   rw[e1,List.take_append,List.take_of_length_le (by simp;omega),List.drop_take]
   congr 1
   simp
   congr 1
   omega
  .intro i gh
   have hi:i<l.length:=by simpa using gh
   have X7:(i+1)*r.size<=l.length*r.size:=aoZ _ hi;rw[apl]at X7
   have A:∀j,j<r.size->((xs.take (q*r.size+p.off)++vs++xs.drop (q*r.size+p.off+vs.length)))[i*r.size+j]? =
    if i*r.size+j<q*r.size+p.off then xs[i*r.size+j]? else if i*r.size+j<q*r.size+p.off+vs.length then vs[i*r.size+j-(q*r.size+p.off)]? else xs[i*r.size+j]? :=by
    intro j hj;rw[ape,aqz];simp only[ao0,He,apC (show q*r.size+p.off<=l.length*r.size from by omega)];split
    .grind
    .rw[aqz];split
     .grind
     .rename_i h1 h2;rw[ai (by omega),apx]
      grind
   by_cases hiq:i=q
   .subst hiq;rw[List.getElem_set_self];have hp:=(h3 i hi).put p hv
    have:((xs.take (i*r.size+p.off)++vs++xs.drop (i*r.size+p.off+vs.length)).drop (i*r.size)).take r.size=
     ((xs.drop (i*r.size)).take r.size).take p.off++vs++((xs.drop (i*r.size)).take r.size).drop (p.off+s.size):=by
     have X8:((xs.drop (i*r.size)).take r.size).length=r.size:=by rw[ao0,List.length_drop,He];omega
     have hsj:∀j,j<r.size->((xs.drop (i*r.size)).take r.size)[j]? =xs[i*r.size+j]? :=(by grind)
     generalize(xs.drop (i*r.size)).take r.size=seg at X8 hsj
     apply List.ext_getElem?
     intro j;rw[aqz (l₁:=seg.take p.off++vs),aqz (l₁:=seg.take p.off),aoH,ao0,X8,apC (show p.off<=r.size from by omega),apV (l:=List.drop _ _)];by_cases hj:j<r.size
     .rw[aj hj,apx,A j hj];by_cases hj1:j<p.off
      .rw[aj (by omega),aj (by omega),aj hj1,apV,aj hj1,hsj j hj]
      .rw[ai (by omega)];by_cases Nu:j<p.off+vs.length
       .rw[aj (by omega),aj Nu,ai hj1]
        congr 1
        omega
       .rw[ai (by omega),ai Nu,apx,<-hsj j hj]
        congr 1
        omega
     .grind
    rw[this];exact hp.step sL
   .rw[List.getElem_set_ne (λe=>hiq e.symm)]
    have:((xs.take (q*r.size+p.off)++vs++xs.drop (q*r.size+p.off+vs.length)).drop (i*r.size)).take r.size=(xs.drop (i*r.size)).take r.size:=by
     apply List.ext_getElem?
     intro j;rw[apV,apV];by_cases hj:j<r.size
     .rw[aj hj,aj hj,apx,A j hj,apx]
      rcases Nat.lt_or_gt_of_ne hiq with aJ|hgt
      .have:(i+1)*r.size<=q*r.size:=aoZ _ aJ
       grind
      .have:(q+1)*r.size<=i*r.size:=aoZ _ hgt
       grind
     .grind
    rw[this];exact(h3 i hi).step sL
theorem lV.at{g o0 m0 U5 q:Nat}{i:Int}{v:Value}{l:List r.den}{a:r.den}(h:lV base F w e r v l)(hg:v= .slice (aa ⟨g,o0,ae⟩) m0 U5)(hq:i=(q:Nat))(rC:idx l i=aa a):At F w r g (o0+q*r.size) a:=by
 obtain⟨b,off,cap,k,hv,hk,aJ,vD⟩:=h.reads.elem rC
 grind
theorem Oi(cs:List Value):∀(k:Nat)(pre post:List Value),post.length=cs.length->∀(tail:List Value),
 (cs.zipIdx k).foldl (λ(acc:Array Value)(cj:Value×Nat)=>acc.setIfInBounds (pre.length-k+cj.2) cj.1) (pre++post++tail).toArray=(pre++cs++tail).toArray\/pre.length<k:=by
 induction cs with
 |nil=>simp_all
 |cons c q ih=>
  intro k pre post hp tail;by_cases hk:pre.length<k
  .exact .inr hk
  cases post with
  |nil=>simp at hp
  |cons p0 post=>
   simp only[List.zipIdx_cons,List.foldl_cons]
   rcases ih (k+1) (pre++[c]) post (by simpa using hp) tail with h|h
   all_goals simp_all
theorem wM{place:Nat->Option (Nat×Nat)}{i off size:Nat}{v:Value}{vs cells:List Value}{rest:List (Nat×Value)}(hp:place i=aa (off,size))(hv:v.cells.toList=vs)(hs:vs.length=size)(hle:off+size<=cells.length):
 aqw place cells.toArray ((i,v)::rest)=aqw place (cells.take off++vs++cells.drop (off+size)).toArray rest:=by
 have hvc:v.cells=vs.toArray:=by rw[<-hv,apF]
 have hf:=Oi vs 0 (cells.take off) ((cells.drop off).take size) (by simp;omega) (cells.drop (off+size))
 have AT:cells.take off++(cells.drop off).take size++cells.drop (off+size)=cells:=by
  rw[ape,<-List.drop_drop,aqd,aqd]
 have hlen:(cells.take off).length=off:=by simp;omega
 rw[AT,hlen,Nat.sub_zero]at hf
 rcases hf with hf|hf
 case inr=>omega
 rw[aqw]
 grind
inductive yS(F:Nat->Prop)(w:World)(r:Row):List Value->List r.den->Prop where
 |nil:yS F w r [] []
 |cons {v:Value} {vs:List Value} {cs:List Value} {a:r.den} {l:List r.den} (hc:v.cells.toList=cs) (hr:dF F w r cs a) (h:yS F w r vs l):yS F w r (v::vs) (a::l)
theorem yS.length{vs:List Value}{l:List r.den}(h:yS F w r vs l):vs.length=l.length:=by
 induction h<;>grind
theorem yS.fill{vs:List Value}{l:List r.den}(h:yS F w r vs l):∀(k:Nat)(pre post:List Value),pre.length=k*r.size->post.length=vs.length*r.size->
 ∃xs,aqw (λi=>aa (i*r.size,r.size)) (pre++post).toArray ((vs.zipIdx k).map λp=>(p.2,p.1))=aa (pre++xs).toArray/\xs.length=l.length*r.size/\∀i(hi:i<l.length),dF F w r ((xs.drop (i*r.size)).take r.size) l[i]:=by
 induction h with
 |nil=>
  intro k pre post hp hq
  have:post=[]:=(by simp_all)
  subst this;exact⟨[],by simp[aqw],by simp,λi hi=>absurd hi (by simp)⟩
 | @cons v vs cs a l hc hr h ih=>
   intro k pre post hp hq;have hl:=hr.length;rw[apa,apl,Nat.one_mul]at hq;obtain⟨xs,h1,h2,h3⟩:=ih (k+1) (pre++cs) (post.drop r.size) (by grind) (by grind);refine⟨cs++xs,?_,by grind,λi hi=>?_⟩
   .simp only[List.zipIdx_cons,aqi];rw[wM (place:=λi=>aa (i*r.size,r.size)) rfl hc hl (by grind)];rw[<-hp,List.take_left',List.drop_append,List.drop_of_length_le (by omega),List.nil_append,show pre.length+r.size-pre.length=r.size from by omega]
    all_goals grind
   .cases i with
    |zero=>
     grind
    |succ i=>
     rw[apl,Nat.one_mul,Nat.add_comm,<-List.drop_drop,<-hl,List.drop_left',hl]
     all_goals grind
def X9(place:Nat->Option (Nat×Nat))(F:Nat->Prop)(w:World)(r:Row)(parts:List (Nat×Value))(x x':r.den):Prop:=
 ∀es,dF F w r es x->∃uW,aqw place es.toArray parts=aa uW.toArray/\dF F w r uW x'
theorem X9.nil{place:Nat->Option (Nat×Nat)}{x:r.den}:X9 place F w r [] x x:=λes h=>⟨es,by simp[aqw],h⟩
theorem X9.cons{place:Nat->Option (Nat×Nat)}{i off size:Nat}{v:Value}{vs:List Value}{parts:List (Nat×Value)}{x x':r.den}{u:s.den}(p:Path r s)(hp:place i=aa (off,size))(ho:p.off=off)(hz:s.size=size)(hv:v.cells.toList=vs)(hr:dF F w s vs u)
 (h:X9 place F w r parts (p.set x u) x'):X9 place F w r ((i,v)::parts) x x':=λes he=>by
 subst ho;subst hz;have hle:=p.le;have hl:=hr.length;rw[wM hp hv hl (by rw[he.length];omega)];exact h _ (he.put p hr)
end
end
section
open Go Go.RowKit Go.ChangeShapes Go.WideShapes Go.ChangeAt Go.Deep
def WF:(r:Row)->r.den->Prop
 | .int k,n=>k.min<=n/\n<=k.max
 | .bool,_=>True
 | .str,s=>s.size<=maxLen
 | .slice e,l=>l.length<=maxLen/\∀x∈l,WF e x
 | .mI,_=>True
 | .nul _,_=>True
 | .map ..,_=>True
 | .pair a b,x=>WF a x.1/\WF b x.2
def eg:(r:Row)->r.den->Nat
 | .int _,_=>1
 | .bool,_=>1
 | .str,s=>s.size+1
 | .slice e,l=>(l.map (eg e)).sum+1
 | .mI,_=>1
 | .nul _,_=>1
 | .map ..,_=>1
 | .pair a b,x=>eg a x.1+eg b x.2
theorem Eo:(r:Row)->(x:r.den)->0<eg r x
 | .int _,_=>by simp[eg]
 | .bool,_=>by simp[eg]
 | .str,s=>by simp[eg]
 | .slice e,l=>by simp[eg]
 | .mI,_=>by simp[eg]
 | .nul _,_=>by simp[eg]
 | .map ..,_=>by simp[eg]
 | .pair a b,x=>by have:=Eo a x.1;simp[eg];omega
theorem sf{H:Type}:(l:List (DataW H))->Rows.uptoBulkAll l=(l.map Rows.uptoBulk).sum
 |[]=>by simp[Rows.uptoBulkAll]
 |a::l=>by simp[Rows.uptoBulkAll,sf l]
def here(w:World)(b:Nat):Prop:=b<w.heap.size
def iL(P:Program)(t:TypeId)(r:Row):Prop:=
 ∀(H:Type)(enc:TypeId×Value->H)(w:World)(spare:Nat->Bool)(held:Bool)(fuel:Nat)(cs:List Value)(x:DataW H×List MemPlace),DataW.trod enc P w 0 spare held fuel t cs=aa x->
  ∃y:r.den,dF (here w) w r cs y/\WF r y/\eg r y<=Rows.uptoBulk x.1
def yx(P:Program)(fs:List Field)(r:Row)(off:Nat):Prop:=
 ∀(H:Type)(enc:TypeId×Value->H)(w:World)(spare:Nat->Bool)(held:Bool)(n:Nat)(cs:List Value)(xs:List (DataW H×List MemPlace)),xs.length=fs.length->
  (∀(i:Nat)(f:Field),fs[i]? =aa f->DataW.trod enc P w 0 spare held n f.type ((cs.drop f.offset).take (P.cellsOf f.type))=xs[i]?)->off+r.size<=cs.length->
  ∃y:r.den,dF (here w) w r ((cs.drop off).take r.size) y/\WF r y/\eg r y<=Rows.uptoBulkAll (xs.map (·.1))
section
variable {P:Program} {t e:TypeId} {r a b:Row} {k:IntKind}
theorem Lz(ht:P.underlying t=aa (.int k)):iL P t (.int k):=by
 intro H enc w spare held fuel cs x h;obtain⟨n,rfl,rfl,hn⟩:=DataW.trod_int ht h;exact⟨n,rfl,by simpa[Lit.wf,WF]using hn,by simp[eg,Rows.uptoBulk]⟩
theorem Bz(ht:P.underlying t=aa .string):iL P t .str:=by
 intro H enc w spare held fuel cs x h;obtain⟨s,rfl,rfl,hs⟩:=DataW.trod_string ht h;exact⟨s,rfl,hs,Nat.le_of_eq rfl⟩
theorem sN{α:Type}{p:Nat->α->Prop}:(n:Nat)->(∀i,i<n->∃x,p i x)->∃l:List α,l.length=n/\∀i(h:i<l.length),p i l[i]
 |0,_=>(by simp_all)
 |n+1,h=>by
  obtain⟨l,hl,hp⟩:=sN n λi hi=>h i (by omega)
  obtain⟨x,hx⟩:=h n (by omega);refine⟨l++[x],by simp[hl],λi hi=>?_⟩
  grind
theorem jc(ht:P.underlying t=aa (.slice e))(hs:P.cellsOf e=r.size)(he:iL P e r):iL P t (.slice r):=by
 intro H enc w spare held fuel cs x h
 rcases open_slice ht h with⟨rfl,rfl⟩|⟨ad,len,cap,m,n,D,Pl,rfl,_,hl,hm,Ya,rfl,hi⟩
 .exact⟨[],dF.nil _ _ _,⟨by simp[maxLen],λx hx=>absurd hx (by simp)⟩,by simp[eg,Rows.uptoBulk]⟩
 .have hlm:len<=m:=by rw[Ya];split<;>omega
  have key:∀i,i<len->∃y:r.den,∃yd,(yd.length=r.size/\(∀j,j<r.size->w.cell? ((ad.add (i*r.size)).add j)=yd[j]?))/\dF (here w) w r yd y/\WF r y/\eg r y<=Rows.uptoBulk (D i):=by
   intro i gh;obtain⟨yd,hc,htr⟩:=hi i (by omega);rw[hs]at hc;obtain⟨_,Nw,CO⟩:=World.cells?_some hc;obtain⟨y,h1,h2,h3⟩:=he H enc w spare held n yd _ htr;exact(by grind)
  obtain⟨l,vx,hp⟩:=sN len key;subst vx;have pC:=r.size_pos;refine⟨l,⟨aa ad,cap,rfl,hl,hm,λi hi=>?_⟩,⟨by omega,λx hx=>?_⟩,?_⟩
  .obtain⟨yd,⟨Nw,CO⟩,hr,_,_⟩:=hp i hi;obtain⟨cs0,⟨ye,yT⟩,_⟩:=hp 0 (by omega);have h0:=yT 0 pC;rw[aoA (by omega)]at h0;simp only[Nat.zero_mul,Addr.add,if_true]at h0
   have BA:ad.spot=ae:=by
    cases BA:ad.spot with
    |none=>rfl
    |some q=>
     unfold World.cell? at h0
     grind
   obtain⟨bb,off,sp⟩:=ad;simp only at BA;subst BA;refine⟨bb,off,yd,rfl,block_lt_of_cell h0,Nw,λj u hu=>?_,hr⟩
   grind [dY]
  .grind [aoS]
  .simp only[eg,Rows.uptoBulk,sf]
   have:∀(n:Nat),n<=l.length->((l.take n).map (eg r)).sum<=(((ap1 n).map D).map Rows.uptoBulk).sum:=by
    intro n hn
    induction n with
    |zero=>simp
    |succ n ih=>
     have h1:=ih (by omega);obtain⟨_,_,_,_,h3⟩:=hp n (by omega)
     grind [apf,List.range_succ]
   grind
theorem gi{f:Field}{off:Nat}(ho:f.offset=off)(hc:P.cellsOf f.type=r.size)(he:iL P f.type r):yx P [f] r off:=by
 intro H enc w spare held n cs xs hl hx _;subst ho
 match xs,hl with
 |[x],_=>
  have h:=hx 0 f rfl;rw[hc]at h;obtain⟨y,h1,h2,h3⟩:=he H enc w spare held n _ x h
  grind [Rows.uptoBulkAll]
theorem bY{f:Field}{fs:List Field}{off:Nat}(ho:f.offset=off)(hc:P.cellsOf f.type=a.size)(he:iL P f.type a)(hr:yx P fs b (off+a.size)):yx P (f::fs) (.pair a b) off:=by
 intro H enc w spare held n cs xs hl hx hle;subst ho
 match xs,hl with
 |x::xs,hl=>
  have h:=hx 0 f rfl;rw[hc]at h;obtain⟨y,h1,h2,h3⟩:=he H enc w spare held n _ x h;simp only[Row.size]at hle;obtain⟨z,g1,g2,g3⟩:=hr H enc w spare held n cs xs (by simpa using hl) (λi f' hf=>by simpa using hx (i+1) f' (by simpa using hf)) (by omega);refine⟨(y,z),⟨_,_,?_,h1,g1⟩,⟨h2,g2⟩,by grind [eg,Rows.uptoBulkAll]⟩
  grind [Row.size,List.drop_drop]
theorem fC{fs:Array Field}(ht:P.underlying t=aa (.struct fs))(hc:P.cellsOf t=r.size)(h:yx P fs.toList r 0):iL P t r:=by
 intro H enc w spare held fuel cs x hx;obtain⟨xs,n,_,rfl,hlen,He,hf⟩:=DataW.trod_struct ht hx;rw[hc]at hlen;obtain⟨y,h1,h2,h3⟩:=h H enc w spare held n cs xs (by simpa using He) (by grind) (by omega)
 grind [Rows.uptoBulk]
variable {H:Type} {enc:TypeId×Value->H} {w:World} {base:Nat} {spare:Nat->Bool} {held:Bool} {v:Value} {d:DataW H} {ps:List MemPlace}
theorem Ju(ht:P.underlying t=aa (.int k))(hv:Value.okWide P w .any base t v)(h:DataW.Trod enc P w 0 spare held t v d ps):∃n:Int,v= .int k n/\WF (.int k) n/\eg (.int k) n<=Rows.uptoBulk d:=by
 obtain⟨x,rfl,rfl,rfl,wx⟩:=open_int ht hv h;exact⟨x,rfl,by simpa[Lit.wf,WF]using wx,by simp[eg,Rows.uptoBulk]⟩
theorem Hr{fs:Array Field}(ht:P.underlying t=aa (.struct fs))(ho:iL P t r)(hv:Value.okWide P w .any base t v)(h:DataW.Trod enc P w 0 spare held t v d ps):
 ∃(es:List Value)(x:r.den),v= .agg es.toArray/\dF (here w) w r es x/\WF r x/\eg r x<=Rows.uptoBulk d:=by
 obtain⟨cs,rfl,_⟩:=okWide_struct ht hv;obtain⟨fuel,hf⟩:=h;obtain⟨x,h1,h2,h3⟩:=ho H enc w spare held fuel _ _ hf;exact⟨cs.toList,x,by simp,by simpa[Value.cells]using h1,h2,h3⟩
theorem uG(hl:laidOutB P=af){W W':World}(hb:Below W.heap.size W W'){sp:Nat->Bool}:(ts:List TypeId)->(vs:List Value)->(ds:List (DataW H))->(ps:List MemPlace)->
 (∀t∈ts,(P.readableRec t&&aps t P.types.size)=af)->DataW.TrodAll enc P W 0 (λ_=>af) af ts vs ds ps->(∀x∈ps,x.block<W.heap.size)->(∀x∈ps,sp x.block=af)->DataW.TrodAll enc P W' 0 sp af ts vs ds ps
 |[],[],[],_,_,h,_,_=>h
 |t::ts,v::vs,d::ds,ps,hr,h,aJ,BA=>by
  obtain⟨p,q,h1,h2,rfl⟩:=h;have ht:=hr t (by simp);simp only[apQ,Nat.blt_eq]at ht
  exact⟨p,q,WideElems.Trod_stays hl ht.1 ht.2 h1 (λx hx=>hb.same (aJ x (by simp[hx]))) (λx hx=>BA x (by simp[hx])),
   uG hl hb ts vs ds q (λt ht=>hr t (by simp[ht])) h2 (λx hx=>aJ x (by simp[hx])) (λx hx=>BA x (by simp[hx])),rfl⟩
theorem AU{f:Func}{s:ChangeSpec}{apart fresh handsOn again:Bool}{W W':World}{args:Array Value}{v:Value}{ds gs:List (DataW H)}{before pa pv:List MemPlace}
 (hW:DataW.Whole enc P f.params.toList s.vars apart W args.toList ds gs before)
 (AV:∀(b:Nat)(sp:Nat->Bool)(hd:Bool),DataW.TrodAll enc P W' b sp hd f.resultTypes.toList (v.resultList f.resultTypes.size) (s.fn H (ds++gs)).results [])
 (Jv:∀sp:Nat->Bool,(∀p∈before,sp p.block=af)->DataW.TrodAll enc P W' 0 sp af f.params.toList args.toList (s.fn H (ds++gs)).args pa)
 (Ub:∀sp:Nat->Bool,(∀p∈before,sp p.block=af)->DataW.TrodVars enc P W' sp s.vars (s.fn H (ds++gs)).vars pv)
 (Uc:before=pa++pv)(hb:Below W.heap.size W W')
 (sJ:∀(j:Nat)(t:TypeId)(r:Value),f.resultTypes[j]? =aa t->(v.resultList f.resultTypes.size)[j]? =aa r->Value.okWide P W' .any 0 t r):
 s.post enc P f apart fresh handsOn again W args v W':=by
 have aJ:∀p∈before,p.block<W.heap.size:=λp hp=>hW.lt p hp
 have hold:∀p∈before,(λb=>decide (b<W.heap.size)) p.block=af:=λp hp=>by grind
 refine⟨ds,gs,before,[],pa,pv,hW,AV _ _ _,Jv _ hold,Ub _ hold,World.keptBut_mono (λp hp=>⟨hp,?_⟩) (hb.frame (· ∈before)),λ_=>?_⟩
 .grind
 .obtain⟨_,_,_,_,_,hz,hn⟩:=hW;refine⟨sJ,_,_,([]++pa)++pv,⟨[]++pa,pv,trodAll_append (Jv _ (λ_ _=>rfl)) (AV _ _ _),Ub _ (λ_ _=>rfl),rfl,?_,?_⟩,?_⟩
  .intro b off hp
   have eK:MemPlace.cell b off∈before:=by rw[Uc];simpa using hp
   rw[hb.frozen (aJ _ eK)];exact hz b off eK
  all_goals grind
end
end
section
def fo{α:Type}(l:List α)(a b:Int):Option (List α):=if 0<=a/\a<=b/\b<=l.length then aa ((l.take b.toNat).drop a.toNat)else ae
variable {F:Nat->Prop} {w:World} {r:Row}
theorem dF.cut{A:Option Addr}{cap:Nat}{l:List r.den}{a b:Nat}(h:dF F w (.slice r) [.slice A l.length cap] l)(h1:a<=b)(h2:b<=l.length):
 dF F w (.slice r) [sliced A a b cap r.size] ((l.take b).drop a):=by
 obtain⟨A',Ob,hv,hc,hm,hs⟩:=h;simp only[ap5,aqj,and_true,true_and]at hv;obtain⟨rfl,rfl⟩:=hv
 have hlen:((l.take b).drop a).length=b-a:=by simp;omega
 refine⟨_,cap-a,by rw[hlen];rfl,by omega,by omega,λi hi=>?_⟩
 have gh:a+i<l.length:=by omega
 grind [dY]
section
variable {P:Program} {n:Nat} {ops:Array Oper} {K:(Nat->Value)->World->Prop} {rest:List Oper} {ρ:Nat->Value}
variable {d:Nat} {ty:TypeId} {pos:String} {aft:Array Edge} {x y z:Operand} {t e:TypeId}
theorem RJ{t e:TypeId}(ht:P.underlying t=aa (.slice e)):P.underlying t=aa (.slice (P.elem t)):=by
 simp[Program.elem,ht]
inductive U6(ρ:Nat->Value):Option Operand->Option Int->Prop
 |none:U6 ρ ae ae
 |some {x:Operand} {k:IntKind} {i:Int} (h:ev ρ x= .int k i):U6 ρ (aa x) (aa i)
theorem yy{ti:TypeInfo}{A:Option Addr}{len cap:Nat}{lo hi:Option Operand}{a b:Option Int}(ht:P.underlying t=aa (.slice e))(gh:P.info? e=aa ti)(hx:ev ρ x= .slice A len cap)
 (ha:U6 ρ lo a)(hb:U6 ρ hi b)(h0:0<=a.getD 0)(h1:a.getD 0<=b.getD len)(h2:b.getD len<=len)(hc:len<=cap):
 (execOp (ev ρ) ⟨aa d, .slice t x lo hi ae,ty,pos,aft,ae⟩).run P w= .ok (.value (sliced A (a.getD 0).toNat (b.getD len).toNat cap ti.size)) w:=by
 have Jw:=RJ ht
 have he:P.elem t=e:=by simp[Program.elem,ht]
 cases ha with
 |none=>
  cases hb with
  |none=>
   have:=run_slice_all (P:=P) (w:=w) t A len cap Jw;simp[execOp,hx,run_sliceAt_slice (P:=P) w t _ _ _ _ Jw,this,he,sizeOf,typeInfo,gh]
  |some hh=>
   rename_i xb kb ib;have:=run_slice_h (P:=P) (w:=w) t A len cap Jw kb ib (by simpa using h1) (by grind);simp[execOp,hx,hh,run_sliceAt_slice (P:=P) w t _ _ _ _ Jw,this,he,sizeOf,typeInfo,gh]
 |some hl=>
  rename_i xa ka ia
  cases hb with
  |none=>
   have:=run_slice_l (P:=P) (w:=w) t A len cap Jw ka ia (by simpa using h0) (by simpa using h1);simp[execOp,hx,hl,run_sliceAt_slice (P:=P) w t _ _ _ _ Jw,this,he,sizeOf,typeInfo,gh]
  |some hh=>
   rename_i xb kb ib;have:=run_slice_lh (P:=P) (w:=w) t A len cap Jw ka kb ia ib (by simpa using h0) (by simpa using h1) (by grind);simp[execOp,hx,hl,hh,run_sliceAt_slice (P:=P) w t _ _ _ _ Jw,this,he,sizeOf,typeInfo,gh]
theorem wN{α:Type}{l m:List α}{a b:Int}(h:fo l a b=aa m):∃p q:Nat,a=p/\b=q/\p<=q/\q<=l.length/\m=(l.take q).drop p:=by
 grind [fo]
end
end
abbrev si:Row:= .int .i64
def Jx:List (Nat×((r:Row)×r.den)):=[(2,⟨.pair si (.pair si (.pair si (.pair si (.pair si (.pair si (.pair si (.pair si (.pair si (.pair si (.pair si si)))))))))),(31,28,31,30,31,30,31,31,30,31,30,31)⟩)]
section
inductive DR where
 |leaf (r:Row)
 |sl (T:TypeId) (d:DR)
 |pair (a b:DR)
@[reducible] def DR.row:DR->Row
  | .leaf r=>r
  | .sl _ d=> .slice d.row
  | .pair a b=> .pair a.row b.row
@[reducible] def DR.low:DR->Row
  | .leaf r=>r
  | .sl _ _=> .mI
  | .pair a b=> .pair a.low b.low
theorem DR.size:(d:DR)->d.low.size=d.row.size
 | .leaf _=>rfl
 | .sl _ _=>rfl
 | .pair a b=>by show a.low.size+b.low.size=a.row.size+b.row.size;rw[a.size,b.size]
inductive iM:DR->DR->Type where
 |here {d:DR}:iM d d
 |fst {a b e:DR} (p:iM a e):iM (.pair a b) e
 |snd {a b e:DR} (p:iM b e):iM (.pair a b) e
def iM.lo:{d e:DR}->iM d e->Path d.low e.low
 |_,_, .here=> .here
 |_,_, .fst p=> .fst p.lo
 |_,_, .snd p=> .snd p.lo
def iM.hi:{d e:DR}->iM d e->Path d.row e.row
 |_,_, .here=> .here
 |_,_, .fst p=> .fst p.hi
 |_,_, .snd p=> .snd p.hi
def DR.path:(d:DR)->List Bool->Option ((e:DR)×iM d e)
 |d,[]=>aa ⟨d, .here⟩
 | .pair a b,c::p=>match c with
   |false=>match a.path p with
    |some ⟨e,q⟩=>aa ⟨e, .fst q⟩
    |none=>ae
   |true=>match b.path p with
    |some ⟨e,q⟩=>aa ⟨e, .snd q⟩
    |none=>ae
 |_,_::_=>ae
def nQ(F:Nat->Prop)(w:World)(T:TypeId)(r:Row)(v:Value)(l:List r.den):Prop:=
 ∃xs,pZ w 0 T r.size v l.length xs/\∀i(h:i<l.length),dF F w r ((xs.drop (i*r.size)).take r.size) l[i]
structure qL(Ss:Nat->Nat->Prop)(n:Nat)(m:Nat->Prop)(S:Nat->Prop):Prop where
 all:∀k,S k↔m k\/∃i,i<n/\Ss i k
 two:∀i j k,i<n->j<n->i≠j->Ss i k->¬Ss j k
 out:∀i k,i<n->Ss i k->¬m k
structure Hf(A B S:Nat->Prop):Prop where
 all:∀k,S k↔A k\/B k
 off:∀k,A k->¬B k
def LA{α:Type}(F:Nat->Prop)(w:World)(T:TypeId)(r:Row)(rel:Nat->r.den->α->(Nat->Prop)->Prop)(u:Value)(l:List α)(S:Nat->Prop):Prop:=
 ∃(lh:List r.den)(Ss:Nat->Nat->Prop),nQ F w T r u lh/\lh.length=l.length/\(∀i(h1:i<lh.length)(h2:i<l.length),rel i lh[i] l[i] (Ss i))/\qL Ss l.length (cc u) S
def mL(F:Nat->Prop)(w:World):(d:DR)->d.low.den->d.row.den->(Nat->Prop)->Prop
 | .leaf _,x',x,S=>x'=x/\∀k,¬S k
 | .sl T d,u,l,S=>LA F w T d.low (λ_=>mL F w d) u l S
 | .pair a b,x',x,S=>∃A B,mL F w a x'.1 x.1 A/\mL F w b x'.2 x.2 B/\Hf A B S
def pe(F:Nat->Prop)(w:World):{d e:DR}->iM d e->d.low.den->d.row.den->(Nat->Prop)->Prop
 |_,_, .here,_,_,S=>∀k,¬S k
 |_,_, .fst (b:=b) p,x',x,S=>∃A B,pe F w p x'.1 x.1 A/\mL F w b x'.2 x.2 B/\Hf A B S
 |_,_, .snd (a:=a) p,x',x,S=>∃A B,mL F w a x'.1 x.1 A/\pe F w p x'.2 x.2 B/\Hf A B S
section
variable {F F':Nat->Prop} {w w':World} {T:TypeId} {S:Nat->Prop}
theorem nQ.to{r:Row}{v:Value}{l:List r.den}(h:nQ F w T r v l)(hn:∀k,cc v k->¬F k):lV 0 F w T r v l:=⟨hn,h⟩
theorem nQ.keep{r:Row}{v:Value}{l:List r.den}(h:nQ F w T r v l)(hs:Step F w F' w')(hb:∀k,cc v k->w'.heap[k]? =w.heap[k]?):nQ F' w' T r v l:=by
 obtain⟨xs,⟨X1,Lp⟩,h3⟩:=h;refine⟨xs,⟨X1,?_⟩,λi hi=>(h3 i hi).step hs⟩
 rcases Lp with h2|⟨gg,o0,cap,cur,rfl,rB,hg,rest⟩
 .exact .inl h2
 .exact .inr ⟨gg,o0,cap,cur,rfl,rB,(hb gg rfl).trans hg,rest⟩
theorem nQ.lt{r:Row}{v:Value}{l:List r.den}(h:nQ F w T r v l):∀k,cc v k->k<w.heap.size:=by
 obtain⟨xs,h,_⟩:=h
 exact λk hk=>(h.lt k hk).2
theorem nQ.one{r:Row}{v:Value}{l:List r.den}(h:nQ F w T r v l):v.oneCell'=af:=by
 obtain⟨xs,⟨_,h⟩,_⟩:=h
 rcases h with⟨rfl,_⟩|⟨gg,o0,cap,cur,rfl,_⟩<;>rfl
theorem nQ.nil(F:Nat->Prop)(w:World)(T:TypeId)(r:Row):nQ F w T r (.slice ae 0 0) []:=(lV.nil 0 F w T r).2
theorem Hf.left{A B:Nat->Prop}(h:Hf A B S):∀k,A k->S k:=λk hk=>(h.all k).2 (.inl hk)
theorem Hf.right{A B:Nat->Prop}(h:Hf A B S):∀k,B k->S k:=λk hk=>(h.all k).2 (.inr hk)
theorem qL.cc{Ss:Nat->Nat->Prop}{n:Nat}{m:Nat->Prop}(h:qL Ss n m S):∀k,m k->S k:=λk hk=>(h.all k).2 (.inl hk)
theorem qL.part{Ss:Nat->Nat->Prop}{n:Nat}{m:Nat->Prop}(h:qL Ss n m S){i:Nat}(hi:i<n):∀k,Ss i k->S k:=λk hk=>(h.all k).2 (.inr ⟨i,hi,hk⟩)
theorem LA.mono{α:Type}{r:Row}{rel Yb:Nat->r.den->α->(Nat->Prop)->Prop}{u:Value}{l:List α}(h:LA F w T r rel u l S)(hs:Step F w F' w')(hb:∀k,S k->w'.heap[k]? =w.heap[k]?)
 (hr:∀i x'(hi:i<l.length)A,(∀k,A k->S k)->rel i x' l[i] A->Yb i x' l[i] A):LA F' w' T r Yb u l S:=by
 obtain⟨lh,Ss,h1,h2,h3,h4⟩:=h;exact⟨lh,Ss,h1.keep hs λk hk=>hb k (h4.cc k hk),h2,λi a b=>hr i _ b _ (h4.part b) (h3 i a b),h4⟩
theorem mL.keep(hs:Step F w F' w'):{d:DR}->{x':d.low.den}->{x:d.row.den}->{S:Nat->Prop}->mL F w d x' x S->(∀k,S k->w'.heap[k]? =w.heap[k]?)->mL F' w' d x' x S
 | .leaf _,_,_,_,h,_=>h
 | .sl T d,u,l,S,h,hb=>LA.mono (show LA F w T d.low _ u l S from h) hs hb λi x' hi A hA hr=>mL.keep hs hr λk hk=>hb k (hA k hk)
 | .pair a b,_,_,_,h,hb=>by
   obtain⟨A,B,h1,h2,h3⟩:=h;exact⟨A,B,h1.keep hs λk hk=>hb k (h3.left k hk),h2.keep hs λk hk=>hb k (h3.right k hk),h3⟩
theorem pe.keep(hs:Step F w F' w'):{d e:DR}->{p:iM d e}->{x':d.low.den}->{x:d.row.den}->{S:Nat->Prop}->pe F w p x' x S->(∀k,S k->w'.heap[k]? =w.heap[k]?)->pe F' w' p x' x S
 |_,_, .here,_,_,_,h,_=>h
 |_,_, .fst p,_,_,_,h,hb=>by
  obtain⟨A,B,h1,h2,h3⟩:=h;exact⟨A,B,pe.keep hs h1 λk hk=>hb k (h3.left k hk),h2.keep hs λk hk=>hb k (h3.right k hk),h3⟩
 |_,_, .snd p,_,_,_,h,hb=>by
  obtain⟨A,B,h1,h2,h3⟩:=h;exact⟨A,B,h1.keep hs λk hk=>hb k (h3.left k hk),pe.keep hs h2 λk hk=>hb k (h3.right k hk),h3⟩
theorem mL.lt:{d:DR}->{x':d.low.den}->{x:d.row.den}->{S:Nat->Prop}->mL F w d x' x S->∀k,S k->k<w.heap.size
 | .leaf _,_,_,_,h,k,hk=>absurd hk (h.2 k)
 | .sl T d,u,l,S,h,k,hk=>by
   obtain⟨lh,Ss,h1,h2,h3,h4⟩:=h
   rcases(h4.all k).1 hk with hm|⟨i,hi,hm⟩
   .exact h1.lt k hm
   .exact mL.lt (h3 i (by omega) hi) k hm
 | .pair a b,_,_,_,h,k,hk=>by
   obtain⟨A,B,h1,h2,h3⟩:=h
   rcases(h3.all k).1 hk with hm|hm
   .exact mL.lt h1 k hm
   .exact mL.lt h2 k hm
theorem mL.freeze:{d:DR}->{cs:List Value}->{x':d.low.den}->{x:d.row.den}->{S:Nat->Prop}->mL F w d x' x S->(∀k,S k->¬F k)->dF F w d.low cs x'->dF (λb=>F b\/S b) w d.row cs x
 | .leaf _,_,_,_,S,h,_,hr=>by
   obtain⟨rfl,_⟩:=h
   simp_all
 | .sl T d,cs,u,l,S,h,hn,hr=>by
   obtain⟨lh,Ss,⟨xs,hx,Ud⟩,h2,h3,h4⟩:=h;obtain⟨rfl,_⟩:=hr
   have Ep:lV 0 (λb=>F b\/∃i,i<l.length/\Ss i b) w T d.row u l:=by
    refine⟨λk hk hF=>?_,xs,?_,λi hi=>?_⟩
    .rcases hF with hF|⟨i,hi,hm⟩
     .exact hn k (h4.cc k hk) hF
     .exact h4.out i k hi hm hk
    .rw[<-d.size,<-h2];exact hx
    .have gh:i<lh.length:=by omega
     have:=mL.freeze (h3 i gh hi) (λk hk=>hn k (h4.part hi k hk)) (Ud i gh);rw[<-d.size]
     exact this.step λb hb=>(by grind)
   exact Ep.freeze.step (r:= .slice d.row) λb hb=>⟨by
    rcases hb with(hb|⟨i,hi,hb⟩)|hb
    .exact .inl hb
    .exact .inr (h4.part hi b hb)
    .exact .inr (h4.cc b hb),rfl⟩
 | .pair a b,_,_,_,S,h,hn,hr=>by
   obtain⟨A,B,h1,h2,h3⟩:=h;obtain⟨c1,c2,rfl,r1,r2⟩:=hr;exact⟨c1,c2,rfl,(mL.freeze h1 (λk hk=>hn k (h3.left k hk)) r1).step λb hb=>⟨hb.imp id (h3.left b),rfl⟩,(mL.freeze h2 (λk hk=>hn k (h3.right k hk)) r2).step λb hb=>⟨hb.imp id (h3.right b),rfl⟩⟩
theorem mL.out:{d e:DR}->(p:iM d e)->{x':d.low.den}->{x:d.row.den}->{S:Nat->Prop}->mL F w d x' x S->∃A B,mL F w e (p.lo.get x') (p.hi.get x) A/\pe F w p x' x B/\Hf A B S
 |_,_, .here,_,_,S,h=>⟨S,λ_=>False,h,λ_ h=>h,⟨λk=>by simp,λ_ _ h=>h⟩⟩
 |_,_, .fst p,_,_,S,h=>by
  obtain⟨A,B,h1,h2,h3⟩:=h;obtain⟨A1,A2,g1,g2,g3⟩:=mL.out p h1;refine⟨A1,λk=>A2 k\/B k,g1,⟨A2,B,g2,h2,λk=>Iff.rfl,λk hk=>h3.off k (g3.right k hk)⟩,λk=>?_,λk hk hh=>?_⟩
  .rw[h3.all,g3.all,or_assoc]
  .exact hh.elim (g3.off k hk) (h3.off k (g3.left k hk))
 |_,_, .snd p,_,_,S,h=>by
  obtain⟨A,B,h1,h2,h3⟩:=h;obtain⟨B1,B2,g1,g2,g3⟩:=mL.out p h2;refine⟨B1,λk=>A k\/B2 k,g1,⟨A,B2,h1,g2,λk=>Iff.rfl,λk hk hh=>h3.off k hk (g3.right k hh)⟩,λk=>?_,λk hk hh=>?_⟩
  .rw[h3.all,g3.all];grind
  .exact hh.elim (λhh=>h3.off k hh (g3.left k hk)) (g3.off k hk)
theorem pe.put:{d e:DR}->(p:iM d e)->{x':d.low.den}->{x:d.row.den}->{y':e.low.den}->{y:e.row.den}->{A B S:Nat->Prop}->pe F w p x' x B->mL F w e y' y A->Hf A B S->mL F w d (p.lo.set x' y') (p.hi.set x y) S
 |_,_, .here,_,_,y',y,A,B,S,h,hy,h3=>by
  have:A=S:=by
   funext k;exact propext ⟨λhk=>h3.left k hk,λhk=>((h3.all k).1 hk).elim id λhb=>absurd hb (h k)⟩
  subst this;exact hy
 |_,_, .fst p,x',x,y',y,A,B,S,h,hy,h3=>by
  obtain⟨A2,B2,g1,g2,g3⟩:=h
  have t1:Hf A A2 (λk=>A k\/A2 k):=⟨λ_=>Iff.rfl,λk hk h2=>h3.off k hk (g3.left k h2)⟩
  refine⟨λk=>A k\/A2 k,B2,pe.put p g1 hy t1,g2,λk=>?_,λk hk h2=>?_⟩
  .rw[h3.all,g3.all,or_assoc]
  .exact hk.elim (λhk=>h3.off k hk (g3.right k h2)) λhk=>g3.off k hk h2
 |_,_, .snd p,x',x,y',y,A,B,S,h,hy,h3=>by
  obtain⟨A2,B2,g1,g2,g3⟩:=h
  have t1:Hf A B2 (λk=>A k\/B2 k):=⟨λ_=>Iff.rfl,λk hk h2=>h3.off k hk (g3.right k h2)⟩
  refine⟨A2,λk=>A k\/B2 k,g1,pe.put p g2 hy t1,λk=>?_,λk hk h2=>?_⟩
  .rw[h3.all,g3.all];grind
  .exact h2.elim (λh2=>h3.off k h2 (g3.left k hk)) λh2=>g3.off k hk h2
theorem pe.set:{d e:DR}->(p:iM d e)->{x':d.low.den}->{x:d.row.den}->{S:Nat->Prop}->(y':e.low.den)->(y:e.row.den)->pe F w p x' x S->pe F w p (p.lo.set x' y') (p.hi.set x y) S
 |_,_, .here,_,_,_,_,_,h=>h
 |_,_, .fst p,_,_,_,y',y,h=>by
  obtain⟨A,B,h1,h2,h3⟩:=h;exact⟨A,B,h1.set p y' y,h2,h3⟩
 |_,_, .snd p,_,_,_,y',y,h=>by
  obtain⟨A,B,h1,h2,h3⟩:=h;exact⟨A,B,h1,h2.set p y' y,h3⟩
end
end
section
inductive Tree where
 |leaf (r:Row) (x:r.den)
 |own (o:Nat)
 |nil
 |pair (a b:Tree)
 |view (o s:Nat) (r:Row) (m:List r.den)
 |junk (n:Nat)
structure yU where
 i:Int
 p:List Bool
 o:Nat
 s:Nat
inductive Th where
 |box (T:TypeId) (t:Tree)
 |own (T:TypeId) (r:Row) (l:List r.den)
 |yf (T:TypeId) (r:Row) (l:List r.den)
 |map (T:TypeId) (K:Row) (agg:Bool) (V:Row) (l:List (K.den×V.den))
 |fmap (T:TypeId) (K:Row) (agg:Bool) (V:Row) (l:List (K.den×V.den))
 |deep (T:TypeId) (d:DR) (l:List d.row.den) (h:Option yU)
 |fdeep (T:TypeId) (d:DR) (l:List d.row.den)
 |dmap (T:TypeId) (K:Row) (E:TypeId) (r:Row) (l:List (K.den×List r.den)) (h:Option (K.den×Nat))
 |fdmap (T:TypeId) (K:Row) (E:TypeId) (r:Row) (l:List (K.den×List r.den))
def Th.base:Th->Th
 | .yf T r l=> .own T r l
 | .fmap T K agg V l=> .map T K agg V l
 | .fdeep T d l=> .deep T d l ae
 | .fdmap T K E r l=> .dmap T K E r l ae
 |t=>t
inductive aM where
 |dead
 |undef
 |val (agg:Bool) (t:Tree)
 |ptr (o:Nat) (p:List Bool) (off:Nat)
 |at (r:Row) (x:r.den)
 |elem (o s:Nat) (r:Row) (i:Int) (x:r.den) (p:List Bool) (off:Nat)
 |tup (ds:List (Bool×Tree))
 |dlm (o:Nat) (d:DR) (i:Int) (p:List Bool) (off:Nat)
 |fn (f:FuncId) (caps:List (Nat×List Bool×Nat))
 |ifc (T:TypeId) (d:aM)
structure aR where
 val:Nat->Option Value
 con:Nat->Option Th
 sub:Nat->Nat->Prop
structure aR.le(H H':aR):Prop where
 val:∀o v,H.val o=aa v->H'.val o=aa v
 con:∀s t,H.con s=aa t->H'.con s=aa t
 sub:∀s t,H.con s=aa t->H'.sub s=H.sub s
theorem aR.le.refl(H:aR):H.le H:=⟨λ_ _ h=>h,λ_ _ h=>h,λ_ _ _=>rfl⟩
theorem aR.le.trans{H H' wO:aR}(h:H.le H')(k:H'.le wO):H.le wO:=⟨λo v e=>k.val o v (h.val o v e),λo v e=>k.con o v (h.con o v e),λs t e=>(k.sub s t (h.con s t e)).trans (h.sub s t e)⟩
def oT(H:aR)(o s:Nat)(r:Row)(m:List r.den)(v:Value):Prop:=
 ∃A cap T,∃l:List r.den,∃a b,H.val o=aa (.slice A l.length cap)/\H.con s=aa (.own T r l)/\a<=b/\b<=l.length/\m=(l.take b).drop a/\v=sliced A a b cap r.size
theorem oT.keep{H H':aR}(hH:H.le H'){o s:Nat}{r:Row}{m:List r.den}{v:Value}(h:oT H o s r m v):oT H' o s r m v:=by
 obtain⟨A,cap,T,l,a,b,h1,h2,h3⟩:=h;exact⟨A,cap,T,l,a,b,hH.val _ _ h1,hH.con _ _ h2,h3⟩
theorem oT.back{H H' wO:aR}(hH:H.le H')(Hs:H.le wO){o s:Nat}{r:Row}{m:List r.den}{v0 v:Value}(h0:oT H o s r m v0)(h:oT H' o s r m v):oT wO o s r m v:=by
 obtain⟨A,cap,T,l,a,b,h1,h2,_⟩:=h0;obtain⟨A',Ob,T',l',a',b',k1,k2,k3⟩:=h;have e1:=hH.val _ _ h1;have e2:=hH.con _ _ h2;rw[k1]at e1;rw[k2]at e2;simp only[aoW,Th.own.injEq,heq_eq_eq,true_and]at e2;obtain⟨rfl,rfl⟩:=e2;exact⟨A',Ob,T',l',a',b',by rw[e1];exact Hs.val _ _ h1,Hs.con _ _ h2,k3⟩
theorem oT.one{H:aR}{o s:Nat}{r:Row}{m:List r.den}{v:Value}(h:oT H o s r m v):v.oneCell'=af:=by
 obtain⟨A,cap,T,l,a,b,_,_,_,_,_,rfl⟩:=h;simp[sliced,aqa]
def nR(H:aR):List (Nat×List Bool×Nat)->List Value->Prop
 |[],vs=>vs=[]
 |c::cs,vs=>∃v us,vs=v::us/\(∃b,H.val c.1=aa (.pointer (aa ⟨b,0,ae⟩))/\v= .pointer (aa ⟨b,c.2.2,ae⟩))/\nR H cs us
theorem nR.keep{H H':aR}(hH:∀o v,H.val o=aa v->H'.val o=aa v):{cs:List (Nat×List Bool×Nat)}->{vs:List Value}->nR H cs vs->nR H' cs vs
 |[],_,h=>h
 |_::_,_,h=>by obtain⟨v,us,e,⟨b,h1,h2⟩,h3⟩:=h;exact⟨v,us,e,⟨b,hH _ _ h1,h2⟩,h3.keep hH⟩
def Holds(H:aR)(F:Nat->Prop)(w:World):Tree->List Value->Prop
 | .leaf r x,cs=>dF F w r cs x
 | .own o,cs=>∃v,H.val o=aa v/\v.oneCell'=af/\cs=[v]
 | .nil,cs=>cs=[.slice ae 0 0]
 | .pair a b,cs=>∃c1 c2,cs=c1++c2/\Holds H F w a c1/\Holds H F w b c2
 | .view o s r m,cs=>∃v,cs=[v]/\oT H o s r m v
 | .junk n,cs=>cs.length=n/\∀u∈cs,u.oneCell'=af
def Tree.size:Tree->Nat
 | .leaf r _=>r.size
 | .own _=>1
 | .nil=>1
 | .pair a b=>a.size+b.size
 | .view .. =>1
 | .junk n=>n
def bq(H:aR)(F:Nat->Prop)(w:World)(agg:Bool)(t:Tree)(v:Value):Prop:=
 ∃cs,Holds H F w t cs/\v=(bif agg then .agg cs.toArray else cs.headD undef)/\(agg=ag->cs=[v])
def vF(H:aR)(F:Nat->Prop)(w:World):List (Bool×Tree)->List Value->Prop
 |[],vs=>vs=[]
 |d::ds,vs=>∃v us,vs=v::us/\bq H F w d.1 d.2 v/\vF H F w ds us
def aN(H:aR)(F:Nat->Prop)(w:World):aM->Value->Prop
 | .dead,_=>True
 | .undef,v=>v=Go.undef
 | .val agg t,v=>bq H F w agg t v
 | .ptr o _ off,v=>∃b,H.val o=aa (.pointer (aa ⟨b,0,ae⟩))/\v= .pointer (aa ⟨b,off,ae⟩)
 | .at r x,v=>∃b off,v= .pointer (aa ⟨b,off,ae⟩)/\F b/\At F w r b off x
 | .elem o s r i x _ off,v=>∃g o0 q T m cap l,H.val o=aa (.slice (aa ⟨g,o0,ae⟩) m cap)/\i=(q:Nat)/\H.con s=aa (.own T r l)/\idx l i=aa x/\v= .pointer (aa ⟨g,o0+q*r.size+off,ae⟩)
 | .tup ds,v=>∃vs,v= .tuple vs.toArray/\vF H F w ds vs
 | .dlm o d i _ off,v=>∃g o0 q m cap,H.val o=aa (.slice (aa ⟨g,o0,ae⟩) m cap)/\i=(q:Nat)/\v= .pointer (aa ⟨g,o0+q*d.low.size+off,ae⟩)
 | .fn f caps,v=>∃vs,v= .func (.func f) #[] vs.toArray/\nR H caps vs
 | .ifc T d,v=>∃u,v= .iface T u/\aN H F w d u
section
variable {H H':aR} {F F':Nat->Prop} {w w':World}
theorem Holds.length:{t:Tree}->{cs:List Value}->Holds H F w t cs->cs.length=t.size
 | .leaf _ _,_,h=>dF.length h
 | .own _,_,h=>by obtain⟨v,_,_,rfl⟩:=h;rfl
 | .nil,_,h=>by rw[show _=_ from h];rfl
 | .pair a b,_,h=>by obtain⟨c1,c2,rfl,h1,h2⟩:=h;simp[h1.length,h2.length,Tree.size]
 | .view ..,_,h=>by obtain⟨v,rfl,_⟩:=h;rfl
 | .junk _,_,h=>h.1
theorem Holds.lU:{t:Tree}->{cs:List Value}->Holds H F w t cs->∀u∈cs,u.oneCell'=af
 | .leaf _ _,_,h=>dF.lU h
 | .own _,_,h=>by obtain⟨v,_,h1,rfl⟩:=h;simpa using h1
 | .nil,_,h=>by rw[show _=_ from h];simp[aqa]
 | .pair a b,_,h=>by
   obtain⟨c1,c2,rfl,h1,h2⟩:=h;intro u hu
   rcases ao7.1 hu with h'|h'
   .exact h1.lU u h'
   .exact h2.lU u h'
 | .view ..,_,h=>by obtain⟨v,rfl,h⟩:=h;simpa using h.one
 | .junk _,_,h=>h.2
theorem Holds.keep(hH:H.le H')(hs:Step F w F' w'):{t:Tree}->{cs:List Value}->Holds H F w t cs->Holds H' F' w' t cs
 | .leaf _ _,_,h=>dF.step hs h
 | .own _,_,h=>by obtain⟨v,h0,h1,rfl⟩:=h;exact⟨v,hH.val _ _ h0,h1,rfl⟩
 | .nil,_,h=>h
 | .pair a b,_,h=>by obtain⟨c1,c2,rfl,h1,h2⟩:=h;exact⟨c1,c2,rfl,h1.keep hH hs,h2.keep hH hs⟩
 | .view ..,_,h=>by obtain⟨v,rfl,h⟩:=h;exact⟨v,rfl,h.keep hH⟩
 | .junk _,_,h=>h
theorem Holds.back{wO:aR}{w0:World}{F0:Nat->Prop}(hH:H.le H')(Hs:H.le wO):{t:Tree}->{cs0 cs:List Value}->Holds H F0 w0 t cs0->Holds H' F w t cs->Holds wO F w t cs
 | .leaf _ _,_,_,_,h=>h
 | .own _,_,_,h0,h=>by
   obtain⟨v,a0,_,_⟩:=h0;obtain⟨u,b0,b1,rfl⟩:=h;have:=hH.val _ _ a0;rw[b0]at this;obtain rfl:=aoB this;exact⟨u,Hs.val _ _ a0,b1,rfl⟩
 | .nil,_,_,_,h=>h
 | .pair a b,_,_,h0,h=>by
   obtain⟨_,_,_,a1,a2⟩:=h0;obtain⟨c1,c2,rfl,h1,h2⟩:=h;exact⟨c1,c2,rfl,Holds.back (w0:=w0) (F0:=F0) hH Hs a1 h1,Holds.back (w0:=w0) (F0:=F0) hH Hs a2 h2⟩
 | .view ..,_,_,h0,h=>by
   obtain⟨_,_,h0⟩:=h0;obtain⟨v,rfl,h⟩:=h;exact⟨v,rfl,h0.back hH Hs h⟩
 | .junk _,_,_,_,h=>h
theorem bq.keep{agg:Bool}{t:Tree}{v:Value}(hH:H.le H')(hs:Step F w F' w')(h:bq H F w agg t v):bq H' F' w' agg t v:=by
 obtain⟨cs,h1,h2⟩:=h;exact⟨cs,h1.keep hH hs,h2⟩
theorem vF.keep(hH:H.le H')(hs:Step F w F' w'):{ds:List (Bool×Tree)}->{vs:List Value}->vF H F w ds vs->vF H' F' w' ds vs
 |[],_,h=>h
 |_::_,_,h=>by obtain⟨v,us,rfl,h1,h2⟩:=h;exact⟨v,us,rfl,h1.keep hH hs,h2.keep hH hs⟩
theorem At.keep{r:Row}{b off:Nat}{x:r.den}(hs:Step F w F' w')(hb:F b)(h:At F w r b off x):At F' w' r b off x:=by
 obtain⟨es,hl,hc,hr⟩:=h;exact⟨es,hl,λj u hu=>(World.cell?_of_block (hs b hb).2).trans (hc j u hu),hr.step hs⟩
theorem aN.keep(hH:H.le H')(hs:Step F w F' w'):{d:aM}->{v:Value}->aN H F w d v->aN H' F' w' d v
 | .dead,_,_=>trivial
 | .undef,_,h=>h
 | .val _ _,_,h=>bq.keep hH hs h
 | .ptr _ _ _,_,h=>by obtain⟨b,h1,h2⟩:=h;exact⟨b,hH.val _ _ h1,h2⟩
 | .at _ _,_,h=>by obtain⟨b,off,h1,h2,h3⟩:=h;exact⟨b,off,h1,(hs b h2).1,h3.keep hs h2⟩
 | .elem ..,_,h=>by obtain⟨g,o0,q,T,m,cap,l,h1,h2,h3,h4⟩:=h;exact⟨g,o0,q,T,m,cap,l,hH.val _ _ h1,h2,hH.con _ _ h3,h4⟩
 | .tup _,_,h=>by obtain⟨vs,h1,h2⟩:=h;exact⟨vs,h1,h2.keep hH hs⟩
 | .dlm ..,_,h=>by obtain⟨g,o0,q,m,cap,h1,h2,h3⟩:=h;exact⟨g,o0,q,m,cap,hH.val _ _ h1,h2,h3⟩
 | .fn ..,_,h=>by obtain⟨vs,h1,h2⟩:=h;exact⟨vs,h1,h2.keep hH.val⟩
 | .ifc _ d,_,h=>by obtain⟨u,h1,h2⟩:=h;exact⟨u,h1,aN.keep hH hs (d:=d) h2⟩
def find{α:Type}:List (Nat×α)->Nat->Option α
 |[],_=>ae
 |(m,a)::l,n=>bif aoL m n then aa a else find l n
def del{α:Type}(ns:List Nat):List (Nat×α)->List (Nat×α)
 |[]=>[]
 |(m,a)::l=>bif ns.any (aoL m)then del ns l else(m,a)::del ns l
theorem bp{α:Type}{m:Nat}{a:α}{l:List (Nat×α)}{n:Nat}:find ((m,a)::l) n=if m=n then aa a else find l n:=by
 show(bif aoL m n then aa a else find l n)=_
 simp_all
theorem jV{α:Type}{l l':List (Nat×α)}{n:Nat}:find (l++l') n=(find l n).or (find l' n):=by
 induction l with
 |nil=>rfl
 |cons p l ih=>
  grind [bp]
theorem any_beq{ns:List Nat}{m:Nat}:ns.any (aoL m)=af↔m∈ns:=by
 simp_all
theorem jW{α:Type}{ns:List Nat}{l:List (Nat×α)}{n:Nat}{a:α}:find (del ns l) n=aa a↔n∉ns/\find l n=aa a:=by
 induction l with
 |nil=>simp[del,find]
 |cons p l ih=>
  grind [del,any_beq,bp]
def uX(F:Nat->Prop)(w:World):Prop:=∀g d,find Jx g=aa d->F g/\At F w d.1 g 0 d.2
theorem uX.step{F F':Nat->Prop}{w w':World}(h:uX F w)(hs:Step F w F' w'):uX F' w':=λg d hg=>⟨(hs g (h g d hg).1).1,(h g d hg).2.keep hs (h g d hg).1⟩
def uy(H:aR)(F:Nat->Prop)(w:World)(K:Row)(agg:Bool)(V:Row):List MapEntry->List (K.den×V.den)->Prop
 |[],l=>l=[]
 |e::es,l=>∃k x l',l=(k,x)::l'/\Lb K k=aa e.key/\bq H F w agg (.leaf V x) e.val/\uy H F w K agg V es l'
theorem uy.keep{H H':aR}{F F':Nat->Prop}{w w':World}(hH:H.le H')(hs:Step F w F' w'){K:Row}{agg:Bool}{V:Row}:{es:List MapEntry}->{l:List (K.den×V.den)}->uy H F w K agg V es l->uy H' F' w' K agg V es l
 |[],_,h=>h
 |_::_,_,h=>by obtain⟨k,x,l',e,h1,h2,h3⟩:=h;exact⟨k,x,l',e,h1,h2.keep hH hs,uy.keep hH hs h3⟩
theorem uy.lJ{H H':aR}{F:Nat->Prop}{w:World}{K:Row}{agg:Bool}{V:Row}:{es:List MapEntry}->{l:List (K.den×V.den)}->uy H F w K agg V es l->uy H' F w K agg V es l
 |[],_,h=>h
 |_::_,_,h=>by
  obtain⟨k,x,l',e,h1,⟨cs,h2,Ra⟩,h3⟩:=h;exact⟨k,x,l',e,h1,⟨cs,h2,Ra⟩,uy.lJ h3⟩
noncomputable def Ue:(K:Row)->K.den->K.den->Bool
 | .int _,a,b=>decide ((a:Int)=b)
 | .bool,a,b=>decide ((a:Bool)=b)
 | .str,a,b=>decide ((a:ByteArray)=b)
 |_,_,_=>ag
def LB(F:Nat->Prop)(w:World)(E:TypeId)(r:Row)(v:Value)(y:List r.den)(A:Nat->Prop):Prop:=nQ F w E r v y/\∀k,A k↔cc v k
def sj(H:aR)(F:Nat->Prop)(w:World)(K:Row)(E:TypeId)(r:Row):Option (K.den×Nat)->List MapEntry->List (K.den×List r.den)->(Nat->Prop)->Prop
 |_,[],l,S=>l=[]/\∀k,¬S k
 |none,e::es,l,S=>∃k y l' A B,l=(k,y)::l'/\Lb K k=aa e.key/\LB F w E r e.val y A/\sj H F w K E r ae es l' B/\Hf A B S
 |some (a,o),e::es,l,S=>∃k y l' A B,l=(k,y)::l'/\Lb K k=aa e.key/\((Ue K k a=af/\H.val o=aa e.val/\(∀j,¬A j)/\sj H F w K E r ae es l' B)\/(Ue K k a=ag/\LB F w E r e.val y A/\sj H F w K E r (aa (a,o)) es l' B))/\Hf A B S
theorem LB.keep{F F':Nat->Prop}{w w':World}{E:TypeId}{r:Row}{v:Value}{y:List r.den}{A:Nat->Prop}(h:LB F w E r v y A)(hs:Step F w F' w')(hb:∀k,A k->w'.heap[k]? =w.heap[k]?):LB F' w' E r v y A:=
 ⟨h.1.keep hs λk hk=>hb k ((h.2 k).2 hk),h.2⟩
theorem sj.keep{H H':aR}{F F':Nat->Prop}{w w':World}{K:Row}{E:TypeId}{r:Row}(hs:Step F w F' w'):{h:Option (K.den×Nat)}->{es:List MapEntry}->{l:List (K.den×List r.den)}->{S:Nat->Prop}->(∀a o u,h=aa (a,o)->H.val o=aa u->H'.val o=aa u)->sj H F w K E r h es l S->(∀k,S k->w'.heap[k]? =w.heap[k]?)->sj H' F' w' K E r h es l S
 |none,[],_,_,_,h,_=>h
 |some _,[],_,_,_,h,_=>h
 |none,_::_,_,_,hH,h,hb=>by
  obtain⟨k,y,l',A,B,e,h1,h2,h3,h4⟩:=h;exact⟨k,y,l',A,B,e,h1,h2.keep hs λk hk=>hb k (h4.left k hk),h3.keep hs (λ_ _ _ e=>by cases e) λk hk=>hb k (h4.right k hk),h4⟩
 |some (a,o),_::_,_,_,hH,h,hb=>by
  obtain⟨k,y,l',A,B,e,h1,h2,h4⟩:=h;refine⟨k,y,l',A,B,e,h1,?_,h4⟩
  rcases h2 with⟨g1,g2,g3,g4⟩|⟨g1,g2,g3⟩
  .exact .inl ⟨g1,hH _ _ _ rfl g2,g3,g4.keep hs (λ_ _ _ e=>by cases e) λk hk=>hb k (h4.right k hk)⟩
  .exact .inr ⟨g1,g2.keep hs λk hk=>hb k (h4.left k hk),g3.keep hs hH λk hk=>hb k (h4.right k hk)⟩
def rD(H:aR)(F:Nat->Prop)(w:World)(d:DR)(h:Option yU)(i:Nat)(x':d.low.den)(x:d.row.den)(S:Nat->Prop):Prop:=
 match h with
 |none=>mL F w d x' x S
 |some h=>(h.i≠(i:Int)->mL F w d x' x S)/\(h.i=(i:Int)->∃T' e,∃q:iM d (.sl T' e),d.path h.p=aa ⟨_,q⟩/\pe F w q x' x S/\H.val h.o=aa (q.lo.get x'))
theorem rD.keep{H H':aR}{F F':Nat->Prop}{w w':World}{d:DR}{h:Option yU}{i:Nat}{x':d.low.den}{x:d.row.den}{S:Nat->Prop}(hr:rD H F w d h i x' x S)(hH:H.le H')(hs:Step F w F' w')(hb:∀k,S k->w'.heap[k]? =w.heap[k]?):rD H' F' w' d h i x' x S:=by
 cases h with
 |none=>exact mL.keep hs hr hb
 |some h=>
  refine⟨λhi=>(hr.1 hi).keep hs hb,λhi=>?_⟩;obtain⟨T',e,q,h1,h2,h3⟩:=hr.2 hi;exact⟨T',e,q,h1,h2.keep hs hb,hH.val _ _ h3⟩
def fp(S:Nat->Prop)(v:Value):Th->Nat->Prop
 | .box ..,k=>v= .pointer (aa ⟨k,0,ae⟩)
 | .own ..,k=>cc v k
 | .yf ..,_=>False
 | .map ..,k=>v= .map (aa k)
 | .fmap ..,_=>False
 | .deep ..,k=>S k
 | .fdeep ..,_=>False
 | .dmap ..,k=>S k
 | .fdmap ..,_=>False
def lK(H:aR)(F:Nat->Prop)(w:World)(S:Nat->Prop)(v:Value):Th->Prop
 | .box T t=>∃b es,v= .pointer (aa ⟨b,0,ae⟩)/\w.heap[b]? =aa (.cells es.toArray T (0,0))/\Holds H F w t es
 | .own T r l=>∃xs,pZ w 0 T r.size v l.length xs/\∀i(h:i<l.length),dF F w r ((xs.drop (i*r.size)).take r.size) l[i]
 | .yf _ r l=>dF F w (.slice r) [v] l
 | .fmap _ K agg V l=>dF F w (.map K agg V) [v] l
 | .map _ K agg V l=>∃b es clock,v= .map (aa b)/\w.heap[b]? =aa (.map es clock)/\MapKept.Stamped es clock/\uy H F w K agg V es.toList l
 | .deep T d l h=>LA F w T d.low (rD H F w d h) v l S
 | .fdeep _ d l=>dF F w (.slice d.row) [v] l
 | .dmap _ K E r l h=>∃b es clock B,v= .map (aa b)/\w.heap[b]? =aa (.map es clock)/\MapKept.Stamped es clock/\sj H F w K E r h es.toList l B/\Hf (is b) B S/\∀a o,h=aa (a,o)->∃u,H.val o=aa u
 | .fdmap _ K _ r l=>dF F w (.map K ag (.slice r)) [v] l
structure LC(U:Nat->Prop)(H:aR)(F:Nat->Prop)(w:World)(v:Value)(s:Nat)(t:Th):Prop where
 one:v.oneCell'=af
 con:H.con s=aa t.base
 ok:lK H F w (H.sub s) v t
 no:∀k,fp (H.sub s) v t k->¬F k
 lt:∀k,fp (H.sub s) v t k->k<w.heap.size
 use:∀k,fp (H.sub s) v t k->U k
structure aS(U:Nat->Prop)(H:aR)(F:Nat->Prop)(w:World)(ob:Nat->Option (Nat×Th))(n:Nat):Prop where
 obj:∀o s t,ob o=aa (s,t)->∃v,H.val o=aa v/\LC U H F w v s t
 apart:∀o o' s s' t t' v v',o≠o'->ob o=aa (s,t)->ob o'=aa (s',t')->H.val o=aa v->H.val o'=aa v'->∀k,fp (H.sub s) v t k->¬fp (H.sub s') v' t' k
 fresh:∀m,n<=m->m<n+16->H.val m=ae/\H.con m=ae
 lt:∀b,F b->b<w.heap.size
 new:∀b,w.heap.size<=b->U b
 gl:uX F w
theorem lK.heap{S:Nat->Prop}{v:Value}{t:Th}(h:lK H F w S v t)(hH:H.le H')(hs:Step F w F' w')(hb:∀k,fp S v t k->w'.heap[k]? =w.heap[k]?):lK H' F' w' S v t:=by
 cases t with
 |box T t=>
  obtain⟨b,es,rfl,h1,h2⟩:=h;exact⟨b,es,rfl,(hb b rfl).trans h1,h2.keep hH hs⟩
 |own T r l=>
  obtain⟨xs,⟨X1,Lp⟩,h3⟩:=h;refine⟨xs,⟨X1,?_⟩,λi hi=>(h3 i hi).step hs⟩
  rcases Lp with h2|⟨gg,o0,cap,cur,rfl,rB,hg,rest⟩
  .exact .inl h2
  .exact .inr ⟨gg,o0,cap,cur,rfl,rB,(hb gg rfl).trans hg,rest⟩
 |yf T r l=>exact dF.step (r:= .slice r) hs h
 |fmap T K agg V l=>exact dF.step (r:= .map K agg V) hs h
 |fdeep T d l=>exact dF.step (r:= .slice d.row) hs h
 |deep T d l hh=>exact LA.mono (show LA F w T d.low _ v l S from h) hs hb λi x' hi A hA hr=>hr.keep hH hs λk hk=>hb k (hA k hk)
 |map T K agg V l=>
  obtain⟨b,es,clock,rfl,h1,h2,h3⟩:=h;exact⟨b,es,clock,rfl,(hb b rfl).trans h1,h2,h3.keep hH hs⟩
 |fdmap T K E r l=>exact dF.step (r:= .map K ag (.slice r)) hs h
 |dmap T K E r l hh=>
  obtain⟨b,es,clock,B,rfl,h1,h2,h3,h4,h5⟩:=h;exact⟨b,es,clock,B,rfl,(hb b (h4.left b rfl)).trans h1,h2,h3.keep hs (λa o u _ hu=>hH.val _ _ hu) λk hk=>hb k (h4.right k hk),h4,λa o e=>(h5 a o e).imp λu hu=>hH.val _ _ hu⟩
theorem lV.of{v:Value}{T:TypeId}{r:Row}{l:List r.den}{S:Nat->Prop}(h:lK H F w S v (.own T r l))(hn:∀k,cc v k->¬F k):lV 0 F w T r v l:=⟨hn,h⟩
theorem lV.to{v:Value}{T:TypeId}{r:Row}{l:List r.den}(S:Nat->Prop)(h:lV 0 F w T r v l):lK H F w S v (.own T r l):=h.2
end
structure State where
 aH:List (Nat×aM)
 objs:List (Nat×(Nat×Th))
 nxt:Nat
def ln(H:aR)(n:Nat):Prop:=∀m,n<=m->H.val m=ae/\H.con m=ae
structure Sat(U:Nat->Prop)(H:aR)(F:Nat->Prop)(w:World)(ρ:Nat->Value)(st:State):Prop where
 slot:∀t d,find st.aH t=aa d->aN H F w d (ρ t)
 ob:aS U H F w (find st.objs) st.nxt
 all:ln H st.nxt
structure gw where
 dst:aM
 eat:List Nat:=[]
 make:List (Nat×(Nat×Th)):=[]
def State.apply(st:State)(d:Option Nat)(e:gw):State:=
 {aH:=(match d with|some d=>(d,e.dst)::st.aH|none=>st.aH),objs:=e.make++del e.eat st.objs,nxt:=st.nxt+16}
def dt(H:aR)(ob:Nat->Option (Nat×Th))(eat:List Nat)(k:Nat):Prop:=∃o∈eat,∃s t v,ob o=aa (s,t)/\H.val o=aa v/\fp (H.sub s) v t k
structure Rb(H:aR)(F:Nat->Prop)(w:World)(H':aR)(F':Nat->Prop)(w':World)(g:Nat->Prop):Prop where
 lJ:H.le H'
 ext:Ext g w w'
 le:∀b,F b->F' b
 grow:∀b,F' b->F b\/w.heap.size<=b\/g b
 lt:∀b,F' b->b<w'.heap.size
structure Made(H':aR)(F':Nat->Prop)(w w':World)(g:Nat->Prop)(make:List (Nat×(Nat×Th))):Prop where
 obj:∀o s t,find make o=aa (s,t)->∃v,H'.val o=aa v/\v.oneCell'=af/\H'.con s=aa t.base/\lK H' F' w' (H'.sub s) v t/\∀k,fp (H'.sub s) v t k->¬F' k/\k<w'.heap.size/\(w.heap.size<=k\/g k)
 apart:∀o o' s s' t t' v v',o≠o'->find make o=aa (s,t)->find make o'=aa (s',t')->H'.val o=aa v->H'.val o'=aa v'->∀k,fp (H'.sub s) v t k->¬fp (H'.sub s') v' t' k
structure qB(H:aR)(F:Nat->Prop)(w:World)(ob:Nat->Option (Nat×Th))(n:Nat)(e:gw)(v:Value)(w':World)(H':aR)(F':Nat->Prop):Prop where
 oU:Rb H F w H' F' w' (dt H ob e.eat)
 fresh:∀m,(m<n\/n+16<=m)->(H.val m=ae->H'.val m=ae)/\(H.con m=ae->H'.con m=ae)
 dst:aN H' F' w' e.dst v
 made:Made H' F' w w' (dt H ob e.eat) e.make
 ids:∀o,(find e.make o).isSome->o∈e.eat\/n<=o
def o8(H:aR)(F:Nat->Prop)(w:World)(ob:Nat->Option (Nat×Th))(n:Nat)(e:gw)(v:Value)(w':World):Prop:=∃H' F',qB H F w ob n e v w' H' F'
def yg(ρ:Nat->Value):Option Nat->Value->Nat->Value
 |some d,v=>Ho ρ d v
 |none,_=>ρ
theorem sO(ρ:Nat->Value)(d:Nat)(v:Value)(t:Nat):Ho ρ d v t=if t=d then v else ρ t:=by
 unfold Ho
 simp_all
section
variable {U:Nat->Prop} {H H':aR} {F F':Nat->Prop} {w w':World} {ρ:Nat->Value} {st:State}
theorem Rb.step{g:Nat->Prop}(h:Rb H F w H' F' w' g)(hF:∀b,F b->b<w.heap.size)(hg:∀k,g k->¬F k):Step F w F' w':=
 λb hb=>⟨h.le b hb,h.ext.block b (hF b hb) λe=>hg b e hb⟩
theorem aS.jX{ob:Nat->Option (Nat×Th)}{n:Nat}(h:aS U H F w ob n){eat:List Nat}:∀k,dt H ob eat k->¬F k:=by
 rintro k ⟨o,_,s,t,v,h1,h2,h3⟩
 obtain⟨v',e,hi⟩:=h.obj o s t h1;rw[h2]at e;obtain rfl:=aoB e;exact hi.no k h3
theorem aS.yV{ob:Nat->Option (Nat×Th)}{n:Nat}(h:aS U H F w ob n){eat:List Nat}:∀k,dt H ob eat k->k<w.heap.size:=by
 rintro k ⟨o,_,s,t,v,h1,h2,h3⟩
 obtain⟨v',e,hi⟩:=h.obj o s t h1;rw[h2]at e;obtain rfl:=aoB e;exact hi.lt k h3
theorem aS.jE{ob:Nat->Option (Nat×Th)}{n:Nat}(h:aS U H F w ob n){eat:List Nat}:∀k,dt H ob eat k->U k:=by
 rintro k ⟨o,_,s,t,v,h1,h2,h3⟩
 obtain⟨v',e,hi⟩:=h.obj o s t h1;rw[h2]at e;obtain rfl:=aoB e;exact hi.use k h3
theorem LC.oU{ob:Nat->Option (Nat×Th)}{n:Nat}(hs:aS U H F w ob n){eat:List Nat}(he:Rb H F w H' F' w' (dt H ob eat)){o s:Nat}{t:Th}{v:Value}(ho:ob o=aa (s,t))(hn:o∉eat)(hv:H.val o=aa v)(h:LC U H F w v s t):LC U H' F' w' v s t:=by
 have Ee:∀k,fp (H.sub s) v t k->¬dt H ob eat k:=by
  rintro k hk ⟨o',py,s',t',v',h1,h2,h3⟩
  exact hs.apart o o' s s' t t' v v' (λe=>hn (e▸py)) ho h1 hv h2 k hk h3
 have jY:=he.lJ.sub _ _ h.con;refine⟨h.one,he.lJ.con _ _ h.con,by rw[jY];exact h.ok.heap he.lJ (he.step hs.lt hs.jX) λk hk=>he.ext.block k (h.lt k hk) (Ee k hk),λk hk hF=>?_,λk hk=>api (h.lt k (by rwa [jY]at hk)) he.ext.size,λk hk=>h.use k (by rwa [jY]at hk)⟩;rw[jY]at hk
 rcases he.grow k hF with h1|h1|h1
 .exact h.no k hk h1
 .have:=h.lt k hk;omega
 .exact Ee k hk h1
theorem aS.Oj{ob Rc Ol:Nat->Option (Nat×Th)}{n n' m:Nat}{e:gw}{v:Value}(h:aS U H F w ob n)(hR:∀o x,Rc o=aa x->ob o=aa x)(hp:qB H F w Rc m e v w' H' F')
 (part:∀o s t,Ol o=aa (s,t)->find e.make o=aa (s,t)\/(o∉e.eat/\ob o=aa (s,t)/\find e.make o=ae))(Er:∀m,n'<=m->m<n'+16->H'.val m=ae/\H'.con m=ae):
 aS U H' F' w' Ol n':=by
 have Ht:∀k,dt H Rc e.eat k->dt H ob e.eat k:=λk ⟨o,ho,s,t,v,h1,h2⟩=>⟨o,ho,s,t,v,hR _ _ h1,h2⟩
 have Yc:Rb H F w H' F' w' (dt H ob e.eat):=⟨hp.oU.lJ,⟨hp.oU.ext.os,hp.oU.ext.tape,hp.oU.ext.output,hp.oU.ext.size,λk hk hn=>hp.oU.ext.block k hk λhh=>hn (Ht k hh)⟩,hp.oU.le,λb hb=>(hp.oU.grow b hb).imp id λh=>h.imp id (Ht b),hp.oU.lt⟩
 have Re:∀o s t,o∉e.eat->ob o=aa (s,t)->∃v,H.val o=aa v/\H'.val o=aa v/\LC U H' F' w' v s t/\H'.sub s=H.sub s/\∀k,fp (H'.sub s) v t k->k<w.heap.size/\¬dt H ob e.eat k:=by
  intro o s t ho hf;obtain⟨v,hv,hi⟩:=h.obj o s t hf;have jY:=hp.oU.lJ.sub _ _ hi.con;refine⟨v,hv,hp.oU.lJ.val _ _ hv,hi.oU h Yc hf ho hv,jY,λk hk=>?_⟩;rw[jY]at hk;refine⟨hi.lt k hk,?_⟩
  rintro⟨o',py,s',t',v',h1,h2,h3⟩
  exact h.apart o o' s s' t t' v v' (λe=>ho (e▸py)) hf h1 hv h2 k hk h3
 refine⟨λo s t ho=>?_,λo o' s s' t t' v v' dS ho py hv gQ k hk dT=>?_,Er,hp.oU.lt,λb hb=>h.new b (Nat.le_trans hp.oU.ext.size hb),h.gl.step (Yc.step h.lt h.jX)⟩
 .rcases part o s t ho with h1|⟨h1,h2,_⟩
  .obtain⟨v,a1,a2,a3,a4,a5⟩:=hp.made.obj o s t h1;exact⟨v,a1,a2,a3,a4,λk hk=>(a5 k hk).1,λk hk=>(a5 k hk).2.1,λk hk=>(a5 k hk).2.2.elim (h.new k) (λhh=>h.jE k (Ht k hh))⟩
  grind
 .rcases part o s t ho with h1|⟨h1,h2,_⟩<;>rcases part o' s' t' py with Ef|⟨Ef,Ra,_⟩
  .exact hp.made.apart o o' s s' t t' v v' dS h1 Ef hv gQ k hk dT
  .obtain⟨u,_,a1,_,_,a5⟩:=hp.made.obj o s t h1
   grind
  .obtain⟨u,_,a1,_,_,a5⟩:=hp.made.obj o' s' t' Ef
   grind
  .obtain⟨u,b1,b2,_,b5,_⟩:=Re o s t h1 h2;obtain⟨u',c1,c2,_,c5,_⟩:=Re o' s' t' Ef Ra;rw[b5]at hk;rw[c5]at dT;have e1:=aoB (hv.symm.trans b2);have e2:=aoB (gQ.symm.trans c2);subst e1;subst e2;exact h.apart o o' s s' t t' v v' dS h2 Ra b1 c1 k hk dT
theorem Hu{objs:List (Nat×(Nat×Th))}{e:gw}:∀o s t,find (e.make++del e.eat objs) o=aa (s,t)->find e.make o=aa (s,t)\/(o∉e.eat/\find objs o=aa (s,t)/\find e.make o=ae):=by
 intro o s t ho;rw[jV]at ho
 cases hm:find e.make o with
 |some x=>grind
 |none=>
  grind [jW]
theorem Sat.apply{d:Option Nat}{e:gw}{v:Value}(h:Sat U H F w ρ st)(hp:qB H F w (find st.objs) st.nxt e v w' H' F'):Sat U H' F' w' (yg ρ d v) (st.apply d e):=by
 have jJ:ln H' (st.nxt+16):=λm hm=>⟨(hp.fresh m (.inr hm)).1 (h.all m (by omega)).1,(hp.fresh m (.inr hm)).2 (h.all m (by omega)).2⟩
 refine⟨λt q hq=>?_,h.ob.Oj (λ_ _ h=>h) hp Hu λm hm _=>jJ m hm,jJ⟩;have lm:=hp.oU.step h.ob.lt h.ob.jX
 cases d with
 |none=>exact(h.slot t q hq).keep hp.oU.lJ lm
 |some d=>
  have uH:find ((d,e.dst)::st.aH) t=aa q:=hq;rw[bp]at uH
  show aN H' F' w' q (Ho ρ d v t)
  rw[sO];by_cases hd:d=t
  .grind [qB.dst]
  .rw[ai hd]at uH;rw[ai (Ne.symm hd)];exact(h.slot t q uH).keep hp.oU.lJ lm
end
end
section
def dL(P:Program)(ρ:Nat->Value)(o:Oper)(w:World)(Q:Value->World->Prop):Prop:=
 match(execOp (ev ρ) o).run P w with
 | .ok (.value v) w'=>o.dst.isSome/\Q v w'
 | .ok .skip w'=>o.dst=ae/\Q undef w'
 | .ok (.enter f args) w'=>Calls P f args w' λe yz=>∃v,e= .returned v/\Q v yz
 |_=>False
section
variable {P:Program} {n:Nat} {ops:Array Oper} {K:(Nat->Value)->World->Prop} {rest:List Oper} {ρ:Nat->Value} {w:World}
variable {dst:Option Nat} {op:Op} {ty:TypeId} {pos:String} {aft:Array Edge} {Q:Value->World->Prop}
theorem dL.mono{o:Oper}{Q':Value->World->Prop}(h:dL P ρ o w Q)(hq:∀v w',Q v w'->Q' v w'):dL P ρ o w Q':=by
 unfold dL at*;generalize(execOp (ev ρ) o).run P w=r at*
 cases r with
 |halt x w'=>exact h
 |ok x w'=>
  cases x<;>first
   |exact h
   |exact⟨h.1,hq _ _ h.2⟩
   |exact h.mono (by grind)
theorem dL.val{d:Nat}{v:Value}{w':World}(hr:(execOp (ev ρ) ⟨aa d,op,ty,pos,aft,ae⟩).run P w= .ok (.value v) w')(h:Q v w'):dL P ρ ⟨aa d,op,ty,pos,aft,ae⟩ w Q:=by
 unfold dL;rw[hr];exact⟨rfl,h⟩
theorem dL.unit{w':World}(hr:(execOp (ev ρ) ⟨ae,op,ty,pos,aft,ae⟩).run P w= .ok .skip w')(h:Q undef w'):dL P ρ ⟨ae,op,ty,pos,aft,ae⟩ w Q:=by
 unfold dL;rw[hr];exact⟨rfl,h⟩
theorem Es(h:dL P ρ ⟨dst,op,ty,pos,aft,ae⟩ w Q)(hd:∀d,dst=aa d->aps d n=af)
 (hk:∀v w',Q v w'->wpS P n ops K rest (yg ρ dst v) w'):wpS P n ops K (⟨dst,op,ty,pos,aft,ae⟩::rest) ρ w:=
 λQQ a hf Yd=>wpList_plain rfl λK' hK=>by
  unfold Oper.wp;rw[hf.eval];unfold dL at h;generalize(execOp (ev ρ) ⟨dst,op,ty,pos,aft,ae⟩).run P w=r at*
  have yW:∀v,Fr n (a.put dst v) (yg ρ dst v):=λv=>by
   cases dst with
   |none=>exact hf
   |some d=>exact hf.put (hd d rfl) v
  cases r with
  |halt x w'=>exact h.elim
  |ok x w'=>
   cases x<;>first
    |exact h.elim
    |skip
   case value v=>exact hK _ _ (hk v w' h.2 QQ _ (yW v) Yd)
   case skip=>exact hK _ _ (hk undef w' h.2 QQ _ (yW undef) Yd)
   case enter f args=>
    refine h.mono λe yz ⟨v,he,hv⟩=>?_
    subst he;exact hK _ _ (hk v yz hv QQ _ (yW v) Yd)
end
inductive Nx where
 |int (k:IntKind)
 |bool
 |str
 |slice (e:TypeId)
 |struct (fs:List (TypeId×Nat))
 |array (n:Nat) (e:TypeId)
 |map (k v:TypeId)
 |ptr (e:TypeId)
 |other
def BB(P:Program)(t:TypeId):Nx->Prop
 | .int k=>P.underlying t=aa (.int k)
 | .bool=>P.underlying t=aa .bool
 | .str=>P.underlying t=aa .string
 | .slice e=>P.underlying t=aa (.slice e)
 | .struct fs=>∃arr:Array Field,P.underlying t=aa (.struct arr)/\arr.toList.map (λf=>(f.type,f.offset))=fs
 | .array n e=>P.underlying t=aa (.array n e)
 | .map k v=>P.underlying t=aa (.map k v)
 | .ptr e=>P.underlying t=aa (.pointer e)
 | .other=>∃d,P.underlying t=aa d/\lH d=ag
def U7(P:Program)(t:TypeId)(agg:Bool)(r:Row):Prop:=∃z,(P.info? t).bind (·.zero)=aa z/\z=(bif agg then .agg r.iK.toArray else r.iK.headD undef)
def uI(P:Program)(t:TypeId)(name:String)(f:FuncId)(pr:Bool):Prop:=
 ((P.info? t).bind λi=>i.methods.find? λm=>m.name==name).map (λm=>(m.path.toList.length,m.func))=aa (0,aa (f,pr))
structure bU(P:Program)where
 und:List (Nat×Nx)
 row:List (Nat×Row)
 eqs:List (Nat×Row)
 zer:List (Nat×(Bool×Row))
 und_ok:∀t k,find und t=aa k->BB P t k
 row_ok:∀t r,find row t=aa r->TI P t r
 eqs_ok:∀t r,find eqs t=aa r->∃K d,uV P t r K/\d+K=10000/\P.eqGuardType P.depth t=ag/\(P.underlying t).any lH=af
 zer_ok:∀t agg r,find zer t=aa (agg,r)->U7 P t agg r
 mth:List (TypeId×(String×(FuncId×Bool)))
 mth_ok:∀p∈mth,uI P p.1 p.2.1 p.2.2.1 p.2.2.2
def oV:Nx->Bool
 | .struct _| .array _ _=>af
 |_=>ag
theorem BB.agg{P:Program}{t:TypeId}{k:Nx}(h:BB P t k):∃d,P.underlying t=aa d/\lH d=oV k:=by
 cases k<;>first
  |exact⟨_,h,rfl⟩
  |(obtain⟨arr,h,_⟩:=h;exact⟨_,h,rfl⟩)
  |exact h
theorem sP{α:Type}{Q:Nat->α->Prop}{l:List (Nat×α)}(h:∀p∈l,Q p.1 p.2):∀t a,find l t=aa a->Q t a:=by
 intro t a
 induction l with
 |nil=>intro h';cases h'
 |cons p l ih=>
  grind [bp]
def Hv:Value->Option aM
 | .int k n=>aa (.val ag (.leaf (.int k) n))
 | .bool b=>aa (.val ag (.leaf .bool b))
 | .string s=>aa (.val ag (.leaf .str s))
 | .slice ae 0 0=>aa (.val ag .nil)
 | .map ae=>aa (.val ag (.leaf (.nul .map) ()))
 | .pointer ae=>aa (.val ag (.leaf (.nul .ptr) ()))
 | .nilFunc=>aa (.val ag (.leaf (.nul .func) ()))
 | .nilIface=>aa .dead
 |_=>ae
def Ny(aH:List (Nat×aM)):Operand->Option aM
 | .tmp t=>find aH t
 | .const v=>Hv v
 | .func f=>aa (.fn f [])
 | .global g=>match find Jx g with
   |some d=>aa (.at d.1 d.2)
   |none=>ae
theorem bq.p4{H:aR}{F:Nat->Prop}{w:World}{r:Row}{x:r.den}{v:Value}(h:dF F w r [v] x):bq H F w ag (.leaf r x) v:=⟨[v],h,rfl,λ_=>rfl⟩
theorem LD{H:aR}{F:Nat->Prop}{w:World}{v:Value}{d:aM}(h:Hv v=aa d):aN H F w d v:=by
 unfold Hv at h
 split at h<;>first|cases h|skip
 .exact bq.p4 rfl
 .exact bq.p4 rfl
 .exact bq.p4 rfl
 .exact⟨_,rfl,rfl,λ_=>rfl⟩
 .exact bq.p4 rfl
 .exact bq.p4 rfl
 .exact bq.p4 rfl
 .trivial
theorem yX{H:aR}{F:Nat->Prop}{w:World}{ρ:Nat->Value}{aH:List (Nat×aM)}(hg:uX F w)(h:∀t d,find aH t=aa d->aN H F w d (ρ t)):∀x d,Ny aH x=aa d->aN H F w d (ev ρ x):=by
 intro x d hx
 cases x with
 |tmp t=>exact h t d hx
 |const v=>exact LD hx
 |global g=>
  have U8:(match find Jx g with|some d=>aa (aM.at d.1 d.2)|none=>ae)=aa d:=hx;split at U8
  .rename_i q hq;obtain rfl:=aoB U8;obtain⟨h1,h2⟩:=hg g q hq;exact⟨g,0,rfl,h1,h2⟩
  .cases U8
 |func f=>obtain rfl:=aoB hx;exact⟨[],rfl,rfl⟩
theorem bq.inv{H:aR}{F:Nat->Prop}{w:World}{r:Row}{x:r.den}{v:Value}(h:bq H F w ag (.leaf r x) v):dF F w r [v] x:=by
 obtain⟨cs,h1,_,h3⟩:=h;rw[h3 rfl]at h1;exact h1
theorem bq.int{H:aR}{F:Nat->Prop}{w:World}{k:IntKind}{x:Int}{v:Value}(h:bq H F w ag (.leaf (.int k) x) v):v= .int k x:=by
 have:=h.inv;simpa[dF]using this
theorem bq.bool{H:aR}{F:Nat->Prop}{w:World}{x:Bool}{v:Value}(h:bq H F w ag (.leaf .bool x) v):v= .bool x:=by
 have:=h.inv;simpa[dF]using this
theorem bq.str{H:aR}{F:Nat->Prop}{w:World}{x:ByteArray}{v:Value}(h:bq H F w ag (.leaf .str x) v):v= .string x:=by
 have:=h.inv;simpa[dF]using this
theorem bq.mu(H:aR)(F:Nat->Prop)(w:World)(k:IntKind)(x:Int):bq H F w ag (.leaf (.int k) x) (.int k x):=bq.p4 rfl
theorem bq.jZ(H:aR)(F:Nat->Prop)(w:World)(x:Bool):bq H F w ag (.leaf .bool x) (.bool x):=bq.p4 rfl
theorem bq.mkStr(H:aR)(F:Nat->Prop)(w:World)(x:ByteArray):bq H F w ag (.leaf .str x) (.string x):=bq.p4 rfl
abbrev pE(k:IntKind)(x:Int):aM:= .val ag (.leaf (.int k) x)
abbrev fB(x:Bool):aM:= .val ag (.leaf .bool x)
abbrev abY(x:ByteArray):aM:= .val ag (.leaf .str x)
def asInt:aM->Option (IntKind×Int)
 | .val ag (.leaf (.int k) x)=>aa (k,x)
 |_=>ae
def asBool:aM->Option Bool
 | .val ag (.leaf .bool x)=>aa x
 |_=>ae
def Et:aM->Option ByteArray
 | .val ag (.leaf .str x)=>aa x
 |_=>ae
section
variable {P:Program} {ρ:Nat->Value} {w w':World} {H H':aR} {F F':Nat->Prop} {U:Nat->Prop} {ob:Nat->Option (Nat×Th)} {n:Nat} {R:Type}
variable {dst:Option Nat} {op:Op} {ty:TypeId} {pos:String} {aft:Array Edge} {d:Nat}
theorem ke{D:aM}{k:IntKind}{x:Int}{v:Value}(h:asInt D=aa (k,x))(hd:aN H F w D v):v= .int k x:=by
 unfold asInt at h
 split at h<;>cases h
 exact bq.int hd
theorem qM{D:aM}{x:Bool}{v:Value}(h:asBool D=aa x)(hd:aN H F w D v):v= .bool x:=by
 unfold asBool at h
 split at h<;>cases h
 exact bq.bool hd
theorem yY{D:aM}{x:ByteArray}{v:Value}(h:Et D=aa x)(hd:aN H F w D v):v= .string x:=by
 unfold Et at h
 split at h<;>cases h
 exact bq.str hd
def dZ(P:Program)(_U:Nat->Prop)(H:aR)(F:Nat->Prop)(w:World)(ρ:Nat->Value)(ob:Nat->Option (Nat×Th))(n:Nat)(o:Oper)(e:gw):Prop:=
 dL P ρ o w (o8 H F w ob n e)
theorem Rb.refl{g:Nat->Prop}(hF:∀b,F b->b<w.heap.size):Rb H F w H F w g:=⟨aR.le.refl H,⟨rfl,rfl,rfl,aoJ _,λ_ _ _=>rfl⟩,λ_ h=>h,λ_ h=> .inl h,hF⟩
theorem Made.nil{g:Nat->Prop}:Made H' F' w w' g []:=⟨λ_ _ _ h=>(by cases h),λ_ _ _ _ _ _ _ _ _ h=>(by cases h)⟩
theorem qB.pure(hs:aS U H F w ob n){D:aM}{v:Value}(h:aN H F w D v):o8 H F w ob n {dst:=D} v w:=
 ⟨H,F,Rb.refl hs.lt,λm hm=>⟨id,id⟩,h,Made.nil,λo h=>by cases h⟩
theorem cP(hs:aS U H F w ob n){D:aM}{v:Value}(hr:(execOp (ev ρ) ⟨aa d,op,ty,pos,aft,ae⟩).run P w= .ok (.value v) w)(h:aN H F w D v):dZ P U H F w ρ ob n ⟨aa d,op,ty,pos,aft,ae⟩ {dst:=D}:=
 dL.val hr (qB.pure hs h)
theorem bm(hs:aS U H F w ob n){D:aM}{v:Value}(hr:Pure P ρ ⟨aa d,op,ty,pos,aft,ae⟩ v)(h:aN H F w D v):dZ P U H F w ρ ob n ⟨aa d,op,ty,pos,aft,ae⟩ {dst:=D}:=
 cP hs (hr w) h
def fU(o:BinOp)(k:IntKind)(a b:Int):Int:=
 match o with
 | .and=>k.wrap (aqx k.bits a&&& aqx k.bits b).toNat
 | .or=>k.wrap (aqx k.bits a|||aqx k.bits b).toNat
 | .xor=>k.wrap (aqx k.bits a ^^^ aqx k.bits b).toNat
 |_=>k.wrap (aqx k.bits a&&& ~~~aqx k.bits b).toNat
def yh(k:IntKind)(a b:Int):Int:=k.wrap (a*2 ^ min b.toNat k.bits)
def iA(k:IntKind)(a b:Int):Int:=a.fdiv (2 ^ min b.toNat k.bits)
def Hw(k:IntKind)(a b:Int):Option Int:=if b<0 then ae else aa (yh k a b)
def Eu(k:IntKind)(a b:Int):Option Int:=if b<0 then ae else aa (iA k a b)
def arith:BinOp->IntKind->Int->Int->Option aM
 | .add,k,a,b=>aa (pE k (k.wrap (a+b)))
 | .sub,k,a,b=>aa (pE k (k.wrap (a-b)))
 | .mul,k,a,b=>aa (pE k (k.wrap (a*b)))
 | .lss,_,a,b=>aa (fB (decide (a<b)))
 | .leq,_,a,b=>aa (fB (decide (a<=b)))
 | .gtr,_,a,b=>aa (fB (decide (b<a)))
 | .geq,_,a,b=>aa (fB (decide (b<=a)))
 | .eql,_,a,b=>aa (fB (decide (a=b)))
 | .neq,_,a,b=>aa (fB (!decide (a=b)))
 | .and,k,a,b=>aa (pE k (fU .and k a b))
 | .or,k,a,b=>aa (pE k (fU .or k a b))
 | .xor,k,a,b=>aa (pE k (fU .xor k a b))
 | .andNot,k,a,b=>aa (pE k (fU .andNot k a b))
 |_,_,_,_=>ae
theorem pure_and{k:IntKind}{a b:Int}{t u:TypeId}{x y:Operand}(hx:ev ρ x= .int k a)(hy:ev ρ y= .int k b):Pure P ρ ⟨aa d, .binOp .and t x y u,ty,pos,aft,ae⟩ (.int k (fU .and k a b)):=λw=>by simp[execOp,hx,hy,binOp,Op.intBits,eqGuard,fU,go_sem]
theorem pure_or{k:IntKind}{a b:Int}{t u:TypeId}{x y:Operand}(hx:ev ρ x= .int k a)(hy:ev ρ y= .int k b):Pure P ρ ⟨aa d, .binOp .or t x y u,ty,pos,aft,ae⟩ (.int k (fU .or k a b)):=λw=>by simp[execOp,hx,hy,binOp,Op.intBits,eqGuard,fU,go_sem]
theorem Om{k:IntKind}{a b:Int}{t u:TypeId}{x y:Operand}(hx:ev ρ x= .int k a)(hy:ev ρ y= .int k b):Pure P ρ ⟨aa d, .binOp .xor t x y u,ty,pos,aft,ae⟩ (.int k (fU .xor k a b)):=λw=>by simp[execOp,hx,hy,binOp,Op.intBits,eqGuard,fU,go_sem]
theorem Ev{k:IntKind}{a b:Int}{t u:TypeId}{x y:Operand}(hx:ev ρ x= .int k a)(hy:ev ρ y= .int k b):Pure P ρ ⟨aa d, .binOp .andNot t x y u,ty,pos,aft,ae⟩ (.int k (fU .andNot k a b)):=λw=>by simp[execOp,hx,hy,binOp,Op.intBits,eqGuard,fU,go_sem]
theorem Ew{k k':IntKind}{a b:Int}{t u:TypeId}{x y:Operand}(hx:ev ρ x= .int k a)(hy:ev ρ y= .int k' b)(hb:¬b<0):Pure P ρ ⟨aa d, .binOp .shl t x y u,ty,pos,aft,ae⟩ (.int k (yh k a b)):=λw=>by simp[execOp,hx,hy,binOp,Op.shift,eqGuard,yh,hb,go_sem]
theorem Ey{k k':IntKind}{a b:Int}{t u:TypeId}{x y:Operand}(hx:ev ρ x= .int k a)(hy:ev ρ y= .int k' b)(hb:¬b<0):Pure P ρ ⟨aa d, .binOp .shr t x y u,ty,pos,aft,ae⟩ (.int k (iA k a b)):=λw=>by simp[execOp,hx,hy,binOp,Op.shift,eqGuard,iA,hb,go_sem]
theorem On{o:BinOp}{k:IntKind}{a b:Int}{D:aM}{t u:TypeId}{x y:Operand}(h:arith o k a b=aa D)(hs:aS U H F w ob n)(hx:ev ρ x= .int k a)(hy:ev ρ y= .int k b):
 dZ P U H F w ρ ob n ⟨aa d, .binOp o t x y u,ty,pos,aft,ae⟩ {dst:=D}:=by
 unfold arith at h
 split at h<;>cases h
 .exact bm hs (NU hx hy) (bq.mu ..)
 .exact bm hs (NV hx hy) (bq.mu ..)
 .exact bm hs (NW hx hy) (bq.mu ..)
 .exact bm hs (NZ hx hy) (bq.jZ ..)
 .exact bm hs (N0 hx hy) (bq.jZ ..)
 .exact bm hs (N1 hx hy) (bq.jZ ..)
 .exact bm hs (N2 hx hy) (bq.jZ ..)
 .exact bm hs (N3 hx hy) (bq.jZ ..)
 .exact bm hs (N4 hx hy) (bq.jZ ..)
 .exact bm hs (pure_and hx hy) (bq.mu ..)
 .exact bm hs (pure_or hx hy) (bq.mu ..)
 .exact bm hs (Om hx hy) (bq.mu ..)
 .exact bm hs (Ev hx hy) (bq.mu ..)
def nG(a b:Int):Option Int:=if b=0 then ae else aa (aoM a b)
def sQ(a b:Int):Option Int:=if b=0 then ae else aa (aoP a b)
def Ye:Operand->Bool
 | .const _=>af
 |_=>ag
theorem Oo{k:IntKind}{a b:Int}{t u:TypeId}{x y:Operand}(hb:b≠0)(hs:aS U H F w ob n)(hx:ev ρ x= .int k a)(hy:ev ρ y= .int k b):
 dZ P U H F w ρ ob n ⟨aa d, .binOp .quo t x y u,ty,pos,aft,ae⟩ {dst:=pE k (k.wrap (aoM a b))}:=
 bm hs (NX hx hy hb) (bq.mu ..)
theorem Oq{k:IntKind}{a b:Int}{t u:TypeId}{x y:Operand}(hb:b≠0)(hs:aS U H F w ob n)(hx:ev ρ x= .int k a)(hy:ev ρ y= .int k b):
 dZ P U H F w ρ ob n ⟨aa d, .binOp .rem t x y u,ty,pos,aft,ae⟩ {dst:=pE k (aoP a b)}:=
 bm hs (NY hx hy hb) (bq.mu ..)
end
end
end Go.Proofs.YtfjgcenlllgonaaGreatDoor
