/- Joined texts: Base Mem Own More Lit Open Cut Glob Deep. -/
import Derived.WalkKit
import Derived.WalkSpells
import Derived.WalkLawsBesides
import Derived.LoopN
import Derived.Deep.Draws
import Derived.Deep.Quiet
import Derived.Maps.AppendAt
import Derived.OwnWalk
import Derived.KernelRfl
import Derived.MapKept
import Derived.Laws.StructEq
import Derived.Test.YtilaieogabgamaaGreatDoorRows
import Derived.ProofKit
import Derived.OpenShut
import Derived.JoinedCond
import Derived.Deep.Slices
import Derived.Laws.Slices
section
open _root_.Array renaming getD_eq_getD_getElem?->ajM,getElem?_eq_getElem->ajB
open _root_.Classical renaming propDecidable->akh
open _root_.List renaming getElem?_append_left->ajA,getElem?_append_right->ajN,getElem?_eq_getElem->ai5,getElem?_eq_some_iff->ai7,mem_append->ajs
open _root_.Nat renaming add_assoc->akf,beq->aje,blt->ajX,eq_of_beq_eq_true->ajT,le_refl->ai8,le_trans->ajE,lt_of_lt_of_le->ajJ
open _root_.Option.some renaming inj->ai4
open _root_.Go.Region renaming wanted->akA
open _root_.Go.Value renaming oneCell'->akq
namespace Go.Proofs.YtilaieogabgamaaGreatDoor
open Go Go.RowKit
inductive Iy where
 |map
 |ptr
 |func
def Iy.val:Iy->Value
 | .map=> .map none
 | .ptr=> .pointer none
 | .func=> .nilFunc
theorem Iy.one(k:Iy):k.val.oneCell'=true:=by cases k<;>simp[Iy.val,akq]
inductive Row where
 |int (k:IntKind)
 |bool
 |str
 |slice (e:Row)
 |jJ
 |nul (k:Iy)
 |map (K:Row) (agg:Bool) (V:Row)
 |pair (a b:Row)
@[reducible] def Row.den:Row->Type
  | .int _=>Int
  | .bool=>Bool
  | .str=>ByteArray
  | .slice e=>List e.den
  | .jJ=>Value
  | .nul _=>Unit
  | .map K _ V=>List (K.den×V.den)
  | .pair a b=>a.den×b.den
noncomputable instance Row.decEq:(r:Row)->DecidableEq r.den
 | .int _=>inferInstanceAs (DecidableEq Int)
 | .bool=>inferInstanceAs (DecidableEq Bool)
 | .str=>inferInstanceAs (DecidableEq ByteArray)
 | .slice e=>have:=Row.decEq e;inferInstanceAs (DecidableEq (List e.den))
 | .jJ=>fun a b=>akh (a=b)
 | .nul _=>inferInstanceAs (DecidableEq Unit)
 | .map K _ V=>have:=Row.decEq K;have:=Row.decEq V;inferInstanceAs (DecidableEq (List (K.den×V.den)))
 | .pair a b=>have:=Row.decEq a;have:=Row.decEq b;inferInstanceAs (DecidableEq (a.den×b.den))
@[simp] def Row.size:Row->Nat
  | .pair a b=>a.size+b.size
  |_=>1
theorem Row.size_pos:(r:Row)->0<r.size
 | .pair a b=>by have:=Row.size_pos a;simp;omega
 | .int _| .bool| .str| .slice _| .jJ| .nul _| .map .. =>by simp
def nO:(K:Row)->K.den->Option Value
 | .int k,n=>some (.int k n)
 | .bool,b=>some (.bool b)
 | .str,s=>some (.string s)
 |_,_=>none
def cA(F:Nat->Prop)(w:World):(r:Row)->List Value->r.den->Prop
 | .int k,cs,n=>cs=[.int k n]
 | .bool,cs,b=>cs=[.bool b]
 | .str,cs,s=>cs=[.string s]
 | .slice e,cs,l=>∃A cap,cs=[.slice A l.length cap]/\l.length<=cap/\cap<=maxLen/\
     ∀i(h:i<l.length),∃b off es,A=some ⟨b,off,none⟩/\F b/\es.length=e.size/\
      (∀j u,es[j]? =some u->w.cell? ⟨b,off+i*e.size+j,none⟩=some u)/\cA F w e es l[i]
 | .jJ,cs,v=>cs=[v]/\∃A m c,v= .slice A m c
 | .nul k,cs,_=>cs=[k.val]
 | .map K agg V,cs,l=>∃v,cs=[v]/\((v= .map none/\l=[])\/∃b es clock,v= .map (some b)/\F b/\w.heap[b]? =some (.map es clock)/\MapKept.Stamped es clock/\es.size=l.length/\
     ∀i(h:i<l.length),∃(e:MapEntry)(cs:List Value),es[i]? =some e/\nO K l[i].1=some e.key/\cA F w V cs l[i].2/\e.val=(bif agg then .agg cs.toArray else cs.headD undef)/\(agg=false->cs=[e.val]))
 | .pair a b,cs,d=>∃c1 c2,cs=c1++c2/\cA F w a c1 d.1/\cA F w b c2 d.2
theorem cA.length{F:Nat->Prop}{w:World}:{r:Row}->{cs:List Value}->{d:r.den}->cA F w r cs d->cs.length=r.size
 | .int _,_,_,h=>by rw[show _=_ from h];rfl
 | .bool,_,_,h=>by rw[show _=_ from h];rfl
 | .str,_,_,h=>by rw[show _=_ from h];rfl
 | .slice _,_,_,h=>by obtain⟨A,cap,h,_⟩:=h;rw[h];rfl
 | .jJ,_,_,h=>by rw[h.1];rfl
 | .nul _,_,_,h=>by rw[show _=_ from h];rfl
 | .map ..,_,_,h=>by obtain⟨v,rfl,_⟩:=h;rfl
 | .pair a b,_,_,h=>by
   obtain⟨c1,c2,rfl,h1,h2⟩:=h;simp[h1.length,h2.length]
theorem cA.iT{F:Nat->Prop}{w:World}:{r:Row}->{cs:List Value}->{d:r.den}->cA F w r cs d->∀u∈cs,u.oneCell'=true
 | .int _,_,_,h=>by rw[show _=_ from h];simp[akq]
 | .bool,_,_,h=>by rw[show _=_ from h];simp[akq]
 | .str,_,_,h=>by rw[show _=_ from h];simp[akq]
 | .slice _,_,_,h=>by obtain⟨A,cap,rfl,_⟩:=h;simp[akq]
 | .jJ,_,_,h=>by obtain⟨rfl,A,m,c,rfl⟩:=h;simp[akq]
 | .nul k,_,_,h=>by rw[show _=_ from h];simp[k.one]
 | .map ..,_,_,h=>by
   obtain⟨v,rfl,h⟩:=h
   rcases h with⟨rfl,_⟩|⟨b,es,clock,rfl,_⟩<;>simp[akq]
 | .pair a b,_,_,h=>by
   obtain⟨c1,c2,rfl,h1,h2⟩:=h;intro u hu
   rcases ajs.1 hu with h'|h'
   .exact h1.iT u h'
   .exact h2.iT u h'
def Step(F:Nat->Prop)(w:World)(F':Nat->Prop)(w':World):Prop:=∀b,F b->F' b/\w'.heap[b]? =w.heap[b]?
theorem cA.step{F F':Nat->Prop}{w w':World}(ho:Step F w F' w'):{r:Row}->{cs:List Value}->{d:r.den}->cA F w r cs d->cA F' w' r cs d
 | .int _,_,_,h=>h
 | .bool,_,_,h=>h
 | .str,_,_,h=>h
 | .slice e,_,l,h=>by
   obtain⟨A,cap,hc,h1,h2,h3⟩:=h;refine⟨A,cap,hc,h1,h2,fun i hi=>?_⟩;obtain⟨b,off,es,hA,hb,qW,uJ,hr⟩:=h3 i hi;exact⟨b,off,es,hA,(ho b hb).1,qW,fun j u hu=>(World.cell?_of_block (ho b hb).2).trans (uJ j u hu),hr.step ho⟩
 | .jJ,_,_,h=>h
 | .nul _,_,_,h=>h
 | .map K agg V,_,l,h=>by
   obtain⟨v,hv,h⟩:=h;refine⟨v,hv,h.imp id fun⟨b,es,clock,h1,h2,h3,h4,h5,h6⟩=>⟨b,es,clock,h1,(ho b h2).1,(ho b h2).2.trans h3,h4,h5,fun i hi=>?_⟩⟩;obtain⟨e,cs,g1,g2,g3,g4⟩:=h6 i hi;exact⟨e,cs,g1,g2,g3.step ho,g4⟩
 | .pair a b,_,_,h=>by
   obtain⟨c1,c2,hc,h1,h2⟩:=h;exact⟨c1,c2,hc,h1.step ho,h2.step ho⟩
def At(F:Nat->Prop)(w:World)(r:Row)(b off:Nat)(x:r.den):Prop:=
 ∃es,es.length=r.size/\(∀j u,es[j]? =some u->w.cell? ⟨b,off+j,none⟩=some u)/\cA F w r es x
theorem At.fst{F:Nat->Prop}{w:World}{r s:Row}{b off:Nat}{x:(Row.pair r s).den}(h:At F w (.pair r s) b off x):At F w r b off x.1:=by
 obtain⟨es,hl,hc,c1,c2,rfl,h1,h2⟩:=h
 exact⟨c1,h1.length,fun j u hu=>hc j u (by
  rw[ajA]
  .exact hu
  .exact(ai7.1 hu).1),h1⟩
theorem At.snd{F:Nat->Prop}{w:World}{r s:Row}{b off:Nat}{x:(Row.pair r s).den}(h:At F w (.pair r s) b off x)(k:Nat)(hk:k=r.size):At F w s b (off+k) x.2:=by
 obtain⟨es,hl,hc,c1,c2,rfl,h1,h2⟩:=h;subst hk
 exact⟨c2,h2.length,fun j u hu=>by
  have:=hc (r.size+j) u (by
   rw[ajN (by rw[h1.length];omega),h1.length];rw[show r.size+j-r.size=j from by omega]
   exact hu)
  rw[akf]
  exact this,h2⟩
theorem cA.nil(F:Nat->Prop)(w:World)(e:Row):cA F w (.slice e) [.slice none 0 0] []:=⟨none,0,rfl,ai8 _,by simp[maxLen],fun i hi=>absurd hi (by simp)⟩
theorem cA.CS{F:Nat->Prop}{w:World}{e:Row}{v:Value}{l:List e.den}(h:cA F w (.slice e) [v] l):
 ∃A cap,v= .slice A l.length cap/\l.length<=cap/\cap<=9223372036854775807:=by
 obtain⟨A,cap,h1,h2,h3,_⟩:=h;exact⟨A,cap,by simpa using h1,h2,h3⟩
structure St(w0:World)(F0:Nat->Prop)(w:World)(F:Nat->Prop):Prop where
 below:Below w0.heap.size w0 w
 le:∀b,F0 b->F b
 new:∀b,F b->F0 b\/w0.heap.size<=b
 lt:∀b,F b->b<w.heap.size
theorem St.refl{w:World}{F:Nat->Prop}(h:∀b,F b->b<w.heap.size):St w F w F:=⟨Below.refl _ _,fun _ h=>h,fun _ h=> .inl h,h⟩
theorem St.trans{w0 w1 w2:World}{F0 F1 F2:Nat->Prop}(h:St w0 F0 w1 F1)(k:St w1 F1 w2 F2):St w0 F0 w2 F2:=
 ⟨h.below.trans (k.below.mono h.below.size),fun b hb=>k.le b (h.le b hb),fun b hb=>by
   rcases k.new b hb with h1|h1
   .exact h.new b h1
   .exact .inr (ajE h.below.size h1),k.lt⟩
theorem St.step{w0 w:World}{F0 F:Nat->Prop}(h:St w0 F0 w F)(h0:∀b,F0 b->b<w0.heap.size):Step F0 w0 F w:=fun b hb=>⟨h.le b hb,h.below.block b (h0 b hb)⟩
theorem St.drew{w0 w:World}{F0 F:Nat->Prop}(h:St w0 F0 w F):St w0 F0 w.drew F:=⟨h.below.drew,h.le,h.new,h.lt⟩
theorem St.alloc{w0 w:World}{F0 F:Nat->Prop}(h:St w0 F0 w F)(o:Obj):St w0 F0 (w.alloc o) F:=
 ⟨h.below.alloc h.below.size o,h.le,h.new,fun b hb=>by have:=h.lt b hb;simp;omega⟩
theorem St.freeze{w0 w:World}{F0 F:Nat->Prop}(h:St w0 F0 w F)(G:Nat->Prop)(h1:∀b,G b->w0.heap.size<=b/\b<w.heap.size):St w0 F0 w (fun b=>F b\/G b):=
 ⟨h.below,fun b hb=> .inl (h.le b hb),fun b hb=>by
   rcases hb with hb|hb
   .exact h.new b hb
   .exact .inr (h1 b hb).1,fun b hb=>by
   rcases hb with hb|hb
   .exact h.lt b hb
   .exact(h1 b hb).2⟩
theorem St.back{w0 w1 w2:World}{F0 F1 F2 F3:Nat->Prop}(h:St w0 F0 w1 F1)(k:St w1 F2 w2 F3):St w0 F0 w2 F1:=
 ⟨h.below.trans (k.below.mono h.below.size),h.le,h.new,fun b hb=>ajJ (h.lt b hb) k.below.size⟩
theorem Step.refl(F:Nat->Prop)(w:World):Step F w F w:=fun _ h=>⟨h,rfl⟩
theorem Step.trans{F F1 F2:Nat->Prop}{w w1 w2:World}(h:Step F w F1 w1)(k:Step F1 w1 F2 w2):Step F w F2 w2:=fun b hb=>⟨(k b (h b hb).1).1,(k b (h b hb).1).2.trans (h b hb).2⟩
theorem Step.drew(F:Nat->Prop)(w:World):Step F w F w.drew:=fun _ h=>⟨h,rfl⟩
theorem Step.alloc{F:Nat->Prop}{w:World}(h:∀b,F b->b<w.heap.size)(o:Obj):Step F w F (w.alloc o):=fun b hb=>⟨hb,Below.heap_alloc w o b (h b hb)⟩
theorem Step.freeze(F:Nat->Prop)(w:World)(G:Nat->Prop):Step F w (fun b=>F b\/G b) w:=fun _ h=>⟨.inl h,rfl⟩
structure Fr(n:Nat)(a:Act)(ρ:Nat->Value):Prop where
 size:a.tmps.size=n
 defers:a.defers=[]
 get:∀t,a.tmps.getD t undef=ρ t
def CU(ρ:Nat->Value)(d:Nat)(v:Value):Nat->Value:=fun t=>bif aje t d then v else ρ t
def ev(ρ:Nat->Value):Operand->Value
 | .tmp t=>ρ t
 | .const v=>v
 | .global g=> .pointer (some ⟨g,0,none⟩)
 | .func f=> .func (.func f) #[] #[]
theorem Fr.eval{n:Nat}{a:Act}{ρ:Nat->Value}(h:Fr n a ρ):a.eval=ev ρ:=by
 funext x
 cases x with
 |tmp t=>exact h.get t
 |const v=>rfl
 |global g=>rfl
 |func f=>rfl
theorem Fr.put{n:Nat}{a:Act}{ρ:Nat->Value}(h:Fr n a ρ){d:Nat}(hd:ajX d n=true)(v:Value):Fr n (a.put (some d) v) (CU ρ d v):=by
 have al:d<n:=by simpa[Nat.blt_eq]using hd
 refine⟨by simpa[Act.put]using h.size,by simpa[Act.put]using h.defers,fun t=>?_⟩;have hs:=h.size;have hg:=h.get t;simp only[Act.put,ajM,Array.getElem?_setIfInBounds]at hg⊢;unfold CU;by_cases ht:t=d
 .subst ht;simp[hs,al]
 .have bN:¬d=t:=fun e=>ht e.symm
  have hb:aje t d=false:=by
   cases CV:aje t d with
   |false=>rfl
   |true=>exact absurd (ajT CV) ht
  simp[bN,hb,hg]
def wpS(P:Program)(n:Nat)(ops:Array Oper)(K:(Nat->Value)->World->Prop)(l:List Oper)(ρ:Nat->Value)(w:World):Prop:=
 ∀(Q:Exit->Act->World->Prop)(a:Act),Fr n a ρ->(∀a' b7 w',Fr n a' b7->K b7 w'->Q .normal a' w')->wpList P ops Q l a w
section
variable {P:Program} {n:Nat} {ops:Array Oper} {K:(Nat->Value)->World->Prop} {rest:List Oper} {ρ:Nat->Value} {w:World}
theorem Mc(h:K ρ w):wpS P n ops K [] ρ w:=fun _ _ hf hk=>hk _ _ _ hf h
def Pure(P:Program)(ρ:Nat->Value)(o:Oper)(v:Value):Prop:=∀w,(execOp (ev ρ) o).run P w= .ok (.value v) w
theorem nP{a:Act}(hf:Fr n a ρ){j d:Nat}{b:Bool}(hj:(ops[j]?).bind (·.dst)=some d)(hd:ajX d n=true)(hb:ρ d= .bool b):yielded ops a.tmps j=some b:=by
 have al:d<n:=by simpa[Nat.blt_eq]using hd
 have hg:=hf.get d;have hs:=hf.size;rw[hb]at hg
 have:a.tmps[d]? =some (.bool b):=by
  rw[ajM]at hg;rw[ajB (by omega)]at hg⊢;simpa using hg
 unfold yielded;rw[hj];simp[this]
theorem OZ{dst:Option Nat}{op:Op}{ty:TypeId}{pos:String}{aft:Array Edge}{j:Nat}{b:Bool}(d:Nat)(hj:(ops[j]?).bind (·.dst)=some d)(hd:ajX d n=true)(hb:ρ d= .bool b)
 (h:wpS P n ops K (⟨dst,op,ty,pos,aft,none⟩::rest) ρ w):wpS P n ops K (⟨dst,op,ty,pos,aft,some (j,b)⟩::rest) ρ w:=
 fun Q a hf hk=>by
  have:=h Q a hf hk;unfold wpList at this⊢;rw[if_pos (by simp[akA])]at this;rw[if_pos (by simp[akA,nP hf hj hd hb])];exact this
theorem Md{d':Nat}{op:Op}{ty:TypeId}{pos:String}{aft:Array Edge}{j:Nat}{b b':Bool}(d:Nat)(hj:(ops[j]?).bind (·.dst)=some d)(hd:ajX d n=true)(hb:ρ d= .bool b')(bN:b'≠b)(xu:ajX d' n=true)
 (h:wpS P n ops K rest (CU ρ d' undef) w):wpS P n ops K (⟨some d',op,ty,pos,aft,some (j,b)⟩::rest) ρ w:=
 fun Q a hf hk=>by
  have:=h Q _ (hf.put xu undef) hk;unfold wpList;rw[if_neg (by simp[akA,nP hf hj hd hb,bN])];exact this
theorem yz{op:Op}{ty:TypeId}{pos:String}{aft:Array Edge}{j:Nat}{b b':Bool}(d:Nat)(hj:(ops[j]?).bind (·.dst)=some d)(hd:ajX d n=true)(hb:ρ d= .bool b')(bN:b'≠b)
 (h:wpS P n ops K rest ρ w):wpS P n ops K (⟨none,op,ty,pos,aft,some (j,b)⟩::rest) ρ w:=
 fun Q a hf hk=>by
  have:=h Q _ hf hk;unfold wpList;rw[if_neg (by simp[akA,nP hf hj hd hb,bN])];exact this
theorem mT{a:Act}(hf:Fr n a ρ){j d:Nat}(hj:(ops[j]?).bind (·.dst)=some d)(hd:ajX d n=true)(hb:ρ d=undef):yielded ops a.tmps j=none:=by
 have al:d<n:=by simpa[Nat.blt_eq]using hd
 have hg:=hf.get d;have hs:=hf.size;rw[hb]at hg
 have:a.tmps[d]? =some undef:=by
  rw[ajM]at hg;rw[ajB (by omega)]at hg⊢;simpa using hg
 unfold yielded;rw[hj];simp[this,undef]
theorem IS{d':Nat}{op:Op}{ty:TypeId}{pos:String}{aft:Array Edge}{j:Nat}{b:Bool}(d:Nat)(hj:(ops[j]?).bind (·.dst)=some d)(hd:ajX d n=true)(hb:ρ d=undef)(xu:ajX d' n=true)
 (h:wpS P n ops K rest (CU ρ d' undef) w):wpS P n ops K (⟨some d',op,ty,pos,aft,some (j,b)⟩::rest) ρ w:=
 fun Q a hf hk=>by
  have:=h Q _ (hf.put xu undef) hk;unfold wpList;rw[if_neg (by simp[akA,mT hf hj hd hb])];exact this
theorem wN{op:Op}{ty:TypeId}{pos:String}{aft:Array Edge}{j:Nat}{b:Bool}(d:Nat)(hj:(ops[j]?).bind (·.dst)=some d)(hd:ajX d n=true)(hb:ρ d=undef)
 (h:wpS P n ops K rest ρ w):wpS P n ops K (⟨none,op,ty,pos,aft,some (j,b)⟩::rest) ρ w:=
 fun Q a hf hk=>by
  have:=h Q _ hf hk;unfold wpList;rw[if_neg (by simp[akA,mT hf hj hd hb])];exact this
end
def qn(P:Program)(n:Nat)(c:Code)(Q:Exit->(Nat->Value)->World->Prop)(ρ:Nat->Value)(w:World):Prop:=
 ∀a,Fr n a ρ->c.wp P (fun e a' w'=>∃b7,Fr n a' b7/\Q e b7 w') a w
def thn(K:(Nat->Value)->World->Prop)(Q:Exit->(Nat->Value)->World->Prop):Exit->(Nat->Value)->World->Prop
 | .normal,ρ,w=>K ρ w
 |e,ρ,w=>Q e ρ w
def Rz(id:Nat)(Q:Exit->(Nat->Value)->World->Prop):Exit->(Nat->Value)->World->Prop
 | .exit Ge,ρ,w=>bif aje Ge id then Q .normal ρ w else Q (.exit Ge) ρ w
 |e,ρ,w=>Q e ρ w
section
variable {P:Program} {n:Nat} {Q:Exit->(Nat->Value)->World->Prop} {ρ:Nat->Value} {w:World}
theorem IT{c:Code}{Q':Exit->(Nat->Value)->World->Prop}(h:qn P n c Q ρ w)(hq:∀e ρ w,Q e ρ w->Q' e ρ w):qn P n c Q' ρ w:=
 fun a hf=>wp_mono (h a hf) fun _ _ _ ⟨b7,pS,hh⟩=>⟨b7,pS,hq _ _ _ hh⟩
theorem CW{id:Nat}{l:List Oper}(h:wpS P n l.toArray (fun ρ w=>Q .normal ρ w) l ρ w):qn P n (.region id l.toArray false) Q ρ w:=
 fun a hf=>wp_region_lit (h _ a hf fun _ _ _ pS hk=>⟨_,pS,hk⟩)
theorem pj{a b:Code}(h:qn P n a (thn (fun ρ w=>qn P n b Q ρ w) Q) ρ w):qn P n (.seq a b) Q ρ w:=
 fun act hf=>wp_seq (wp_mono (h act hf) fun e a' w' ⟨b7,pS,hh⟩=>by
  cases e with
  |normal=>exact hh a' pS
  |_=>exact⟨b7,pS,hh⟩)
theorem IU(h:Q .normal ρ w):qn P n .skip Q ρ w:=fun _ hf=>wp_skip ⟨_,hf,h⟩
theorem IV{id:Nat}(h:Q (.exit id) ρ w):qn P n (.exit id) Q ρ w:=fun _ hf=>wp_exit ⟨_,hf,h⟩
theorem Me(h:Q .ret ρ w):qn P n .ret Q ρ w:=fun _ hf=>wp_ret ⟨_,hf,h⟩
theorem sa{id:Nat}{c:Code}(h:qn P n c (Rz id Q) ρ w):qn P n (.block id c) Q ρ w:=
 fun a hf=>wp_block (wp_mono (h a hf) fun e a' w' ⟨b7,pS,hh⟩=>by
  cases e with
  |exit Ge=>
   unfold Exit.inBlock;by_cases he:Ge=id
   .subst he;simp only[Rz,show aje Ge Ge=true from Nat.beq_refl _,cond_true]at hh;simpa using⟨b7,pS,hh⟩
   .have hb:aje Ge id=false:=by
     cases CV:aje Ge id with
     |false=>rfl
     |true=>exact absurd (ajT CV) he
    simp only[Rz,hb,cond_false]at hh;simpa[he]using⟨b7,pS,hh⟩
  |_=>exact⟨b7,pS,hh⟩)
theorem An{c:Operand}{x y:Code}(b:Bool)(hc:ev ρ c= .bool b)(h:qn P n (bif b then x else y) Q ρ w):qn P n (.cond c x y) Q ρ w:=
 fun a hf=>wp_cond (t:=b) (by rw[hf.eval];exact hc) (by
  have:=h a hf
  cases b<;>exact this)
theorem IW{c:Operand}{x y:Code}(hc:ev ρ c= .bool true)(h:qn P n x Q ρ w):qn P n (.cond c x y) Q ρ w:=An true hc h
theorem Gf{c:Operand}{x y:Code}(hc:ev ρ c= .bool false)(h:qn P n y Q ρ w):qn P n (.cond c x y) Q ρ w:=An false hc h
def Loop{S X:Type}(body:S->Option (S⊕X)):Nat->S->Option X
 |0,_=>none
 |k+1,s=>match body s with
  |none=>none
  |some (.inl s')=>Loop body k s'
  |some (.inr x)=>some x
def N8{S X:Type}(I:S->(Nat->Value)->World->Prop)(Q:Exit->(Nat->Value)->World->Prop)(x:X):S⊕X->Exit->(Nat->Value)->World->Prop
 | .inl s',e,ρ,w=>e= .normal/\I s' ρ w
 | .inr x',e,ρ,w=>e≠ .normal/\(x'=x->Q e ρ w)
theorem IX{S X:Type}{body:S->Option (S⊕X)}{c:Code}(I:S->(Nat->Value)->World->Prop){x:X}{N:Nat}{s:S}(hm:Loop body N s=some x)(h0:I s ρ w)
 (hb:∀s ρ w y,I s ρ w->body s=some y->qn P n c (N8 I Q x y) ρ w):qn P n (.loop c) Q ρ w:=by
 intro a hf;refine wp_loop_rounds N ?_
 induction N generalizing s ρ w a with
 |zero=>cases hm
 |succ k ih=>
  rw[rounds_succ];unfold Loop at hm
  cases hy:body s with
  |none=>simp[hy]at hm
  |some y=>
   refine wp_mono (hb s ρ w y h0 hy a hf) fun e a' w' ⟨b7,pS,hh⟩=>?_
   cases y with
   |inl s'=>
    obtain⟨rfl,hI⟩:=hh;rw[hy]at hm;exact ih hm hI a' pS
   |inr x'=>
    rw[hy]at hm;obtain⟨bN,hq⟩:=hh;have:=hq (ai4 hm)
    cases e with
    |normal=>exact absurd rfl bN
    |_=>exact⟨b7,pS,this⟩
def R5(P:Program)(fn:Func)(n:Nat)(R:Value->World->Prop):Exit->(Nat->Value)->World->Prop
 | .normal,ρ,w| .ret,ρ,w=>∀a,Fr n a ρ->∃v,(results fn a.tmps).run P w= .ok v w/\R v w
 |_,_,_=>False
theorem yA{f:FuncId}{fn:Func}{c:Code}{args:List Value}{R:Value->World->Prop}(hf:P.funcs[f]? =some fn)(hb:fn.body=some c)(hn:args.length<=fn.ntmps)
 (h:∀ρ,(∀t v,args[t]? =some v->ρ t=v)->qn P fn.ntmps c (R5 P fn fn.ntmps R) ρ w):
 Calls P f args.toArray w fun e w'=>∃v,e= .returned v/\R v w':=by
 refine calls_of_wp hf hb ?_
 have kz:(args.toArray++Array.replicate (fn.ntmps-args.toArray.size) undef).size=fn.ntmps:=by simp;omega
 refine wp_mono (h (fun t=>(args.toArray++Array.replicate (fn.ntmps-args.toArray.size) undef).getD t undef) ?_ _ ⟨kz,rfl,fun t=>rfl⟩) fun e a' w' ⟨b7,pS,hh⟩=>?_
 .intro t v hv;have al:t<args.length:=(ai7.1 hv).1
  have di:args[t]=v:=by rw[ai5 al]at hv;exact ai4 hv
  simp[ajM,Array.getElem?_append,al,di]
 .cases e with
  |normal=>exact⟨pS.defers,(hh a' pS).imp fun v hv=>⟨hv.1,v,rfl,hv.2⟩⟩
  |ret=>exact⟨pS.defers,(hh a' pS).imp fun v hv=>⟨hv.1,v,rfl,hv.2⟩⟩
  |_=>exact hh.elim
end
end Go.Proofs.YtilaieogabgamaaGreatDoor
end
section
open _root_.List renaming append_assoc->ajr,append_nil->ajW,drop_append_of_le_length->ajZ,getElem?_drop->ajp,getElem?_eq_some_iff->ai7,getElem?_take->ajF,take_append_of_le_length->ajy,take_length->aju
open _root_.Nat renaming add_assoc->akf,zero_add->ajC
open _root_.Go.Sem renaming run_bind->ajx
namespace Go.Proofs.YtilaieogabgamaaGreatDoor
open Go Go.RowKit
theorem pk{α:Type}[BEq α][LawfulBEq α][DecidableEq α](a b:α):(a==b)=decide (a=b):=by
 by_cases h:a=b
 .subst h;simp
 .simp[h]
theorem run_equal_bool{P:Program}{t:TypeId}(ht:P.underlying t=some .bool)(p q:Bool)(w:World):(Op.equal t (.bool p) (.bool q)).run P w= .ok (p==q) w:=by
 have h:∀d:Nat,(Op.equalIn (d+1) t (.bool p) (.bool q)).run P w= .ok (p==q) w:=fun d=>by
  simp[Op.equalIn,run_underlying ht]
 exact h 9999
section
variable {P:Program} {ρ:Nat->Value} {d:Option Nat} {ty:TypeId} {pos:String} {aft:Array Edge} {x y c:Operand} {t u:TypeId} {k:IntKind} {a b:Int}
theorem Gg{v:Value}(h:ev ρ x=v):Pure P ρ ⟨d, .move x,ty,pos,aft,none⟩ v:=fun w=>by simp[execOp,h]
theorem Ao{v:Value}(h:ev ρ x=v):Pure P ρ ⟨d, .assign x,ty,pos,aft,none⟩ v:=fun w=>by simp[execOp,h]
theorem uK{v:Value}(hc:ev ρ c= .bool true)(hx:ev ρ x=v):Pure P ρ ⟨d, .pick c x y,ty,pos,aft,none⟩ v:=fun w=>by
 simp[execOp,asBool,hc,hx]
theorem tZ{v:Value}(hc:ev ρ c= .bool false)(hy:ev ρ y=v):Pure P ρ ⟨d, .pick c x y,ty,pos,aft,none⟩ v:=fun w=>by
 simp[execOp,asBool,hc,hy]
theorem IY(hx:ev ρ x= .int k a)(hy:ev ρ y= .int k b):Pure P ρ ⟨d, .binOp .add t x y u,ty,pos,aft,none⟩ (.int k (k.wrap (a+b))):=fun w=>by
 simp[execOp,eqGuard,binOp,Op.intArith,hx,hy]
theorem IZ(hx:ev ρ x= .int k a)(hy:ev ρ y= .int k b):Pure P ρ ⟨d, .binOp .sub t x y u,ty,pos,aft,none⟩ (.int k (k.wrap (a-b))):=fun w=>by
 simp[execOp,eqGuard,binOp,Op.intArith,hx,hy]
theorem I0(hx:ev ρ x= .int k a)(hy:ev ρ y= .int k b):Pure P ρ ⟨d, .binOp .mul t x y u,ty,pos,aft,none⟩ (.int k (k.wrap (a*b))):=fun w=>by
 simp[execOp,eqGuard,binOp,Op.intArith,hx,hy]
theorem I1(hx:ev ρ x= .int k a)(hy:ev ρ y= .int k b)(hb:b≠0):Pure P ρ ⟨d, .binOp .quo t x y u,ty,pos,aft,none⟩ (.int k (k.wrap (a.tdiv b))):=fun w=>by
 simp[execOp,eqGuard,binOp,Op.intDiv,hx,hy,hb]
theorem I2(hx:ev ρ x= .int k a)(hy:ev ρ y= .int k b)(hb:b≠0):Pure P ρ ⟨d, .binOp .rem t x y u,ty,pos,aft,none⟩ (.int k (a.tmod b)):=fun w=>by
 simp[execOp,eqGuard,binOp,Op.intDiv,hx,hy,hb]
theorem I3(hx:ev ρ x= .int k a)(hy:ev ρ y= .int k b):Pure P ρ ⟨d, .binOp .lss t x y u,ty,pos,aft,none⟩ (.bool (decide (a<b))):=fun w=>by
 simp[execOp,eqGuard,binOp,Op.intCmp,hx,hy]
theorem I4(hx:ev ρ x= .int k a)(hy:ev ρ y= .int k b):Pure P ρ ⟨d, .binOp .leq t x y u,ty,pos,aft,none⟩ (.bool (decide (a<=b))):=fun w=>by
 simp[execOp,eqGuard,binOp,Op.intCmp,hx,hy]
theorem I5(hx:ev ρ x= .int k a)(hy:ev ρ y= .int k b):Pure P ρ ⟨d, .binOp .gtr t x y u,ty,pos,aft,none⟩ (.bool (decide (b<a))):=fun w=>by
 simp[execOp,eqGuard,binOp,Op.intCmp,hx,hy]
theorem I6(hx:ev ρ x= .int k a)(hy:ev ρ y= .int k b):Pure P ρ ⟨d, .binOp .geq t x y u,ty,pos,aft,none⟩ (.bool (decide (b<=a))):=fun w=>by
 simp[execOp,eqGuard,binOp,Op.intCmp,hx,hy]
theorem I7(hx:ev ρ x= .int k a)(hy:ev ρ y= .int k b):Pure P ρ ⟨d, .binOp .eql t x y u,ty,pos,aft,none⟩ (.bool (decide (a=b))):=fun w=>by
 simp[execOp,eqGuard,binOp,Op.intCmp,hx,hy,pk]
theorem I8(hx:ev ρ x= .int k a)(hy:ev ρ y= .int k b):Pure P ρ ⟨d, .binOp .neq t x y u,ty,pos,aft,none⟩ (.bool (!decide (a=b))):=fun w=>by
 simp[execOp,eqGuard,binOp,Op.intCmp,hx,hy,bne,pk]
theorem Gh{p q:Bool}(ht:P.underlying t=some .bool)(hx:ev ρ x= .bool p)(hy:ev ρ y= .bool q):Pure P ρ ⟨d, .binOp .eql t x y u,ty,pos,aft,none⟩ (.bool (decide (p=q))):=fun w=>by
 have h:=run_equal_bool ht p q w;rw[pk]at h;simp only[execOp,eqGuard,hx,hy];simp[binOp,h]
theorem Gi{p q:Bool}(ht:P.underlying t=some .bool)(hx:ev ρ x= .bool p)(hy:ev ρ y= .bool q):Pure P ρ ⟨d, .binOp .neq t x y u,ty,pos,aft,none⟩ (.bool (!decide (p=q))):=fun w=>by
 have h:=run_equal_bool ht p q w;rw[pk]at h;simp only[execOp,eqGuard,hx,hy];simp[binOp,h]
theorem bytes_beq(p q:ByteArray):(p.toList==q.toList)=decide (p=q):=by
 rw[pk]
 congr 1
 rw[ByteArray.toList_eq,ByteArray.toList_eq];refine propext ⟨fun h=>?_,fun h=>by rw[h]⟩;cases p;cases q;simpa using h
theorem Gj{p q:ByteArray}(hx:ev ρ x= .string p)(hy:ev ρ y= .string q):Pure P ρ ⟨d, .binOp .eql t x y u,ty,pos,aft,none⟩ (.bool (decide (p=q))):=fun w=>by
 simp[execOp,eqGuard,binOp,Op.stringOp,hx,hy,bytes_beq]
theorem Gk{p q:ByteArray}(hx:ev ρ x= .string p)(hy:ev ρ y= .string q):Pure P ρ ⟨d, .binOp .neq t x y u,ty,pos,aft,none⟩ (.bool (!decide (p=q))):=fun w=>by
 simp[execOp,eqGuard,binOp,Op.stringOp,hx,hy,bytes_beq]
theorem I9{p:Bool}(hx:ev ρ x= .bool p):Pure P ρ ⟨d, .unOp .not t x,ty,pos,aft,none⟩ (.bool !p):=fun w=>by
 simp[execOp,Op.unary,hx]
theorem Ja(hx:ev ρ x= .int k a):Pure P ρ ⟨d, .unOp .neg t x,ty,pos,aft,none⟩ (.int k (k.wrap (0-a))):=fun w=>by
 simp[execOp,Op.unary,Op.intArith,hx]
theorem Gl{k':IntKind}{e:TypeDesc}(hs:P.underlying t=some e)(hu:P.underlying u=some (.int k'))(hx:ev ρ x= .int k a):Pure P ρ ⟨d, .convert t u x,ty,pos,aft,none⟩ (.int k' (k'.wrap a)):=fun w=>by
 simp[execOp,convert,run_underlying hs,run_underlying hu,hx,Conv.intToInt]
theorem Jb{e:TypeId}{A:Option Addr}{n cap:Nat}{m:Nat}(hm:m=n)(ht:P.underlying t=some (.slice e))(hx:ev ρ x= .slice A n cap):
 Pure P ρ ⟨d, .call {callee:= .builtin .len,args:= #[x],argTypes:= #[t]},ty,pos,aft,none⟩ (.int .i64 (m:Int)):=fun w=>by
 subst hm;simp[execOp,resolve,invoke,builtin,Builtin.len_,run_underlying ht,hx,goInt]
theorem Gm{s:ByteArray}(ht:P.underlying t=some .string)(hx:ev ρ x= .string s):
 Pure P ρ ⟨d, .call {callee:= .builtin .len,args:= #[x],argTypes:= #[t]},ty,pos,aft,none⟩ (.int .i64 (s.size:Int)):=fun w=>by
 simp[execOp,resolve,invoke,builtin,Builtin.len_,run_underlying ht,hx,goInt]
theorem Gn{t':TypeId}(hx:ev ρ x= .int k a)(hy:ev ρ y= .int k b):
 Pure P ρ ⟨d, .call {callee:= .builtin .max,args:= #[x,y],argTypes:= #[t,t']},ty,pos,aft,none⟩ (.int k (if a<b then b else a)):=fun w=>by
 simp[execOp,resolve,invoke,builtin,Builtin.max_,Builtin.max2,hx,hy]
theorem Gp{t':TypeId}(hx:ev ρ x= .int k a)(hy:ev ρ y= .int k b):
 Pure P ρ ⟨d, .call {callee:= .builtin .min,args:= #[x,y],argTypes:= #[t,t']},ty,pos,aft,none⟩ (.int k (if b<a then b else a)):=fun w=>by
 simp[execOp,resolve,invoke,builtin,Builtin.min_,Builtin.min2,hx,hy]
theorem yB{vs:Array Value}{i:Nat}{v:Value}(hx:ev ρ x= .tuple vs)(hi:vs[i]? =some v):Pure P ρ ⟨d, .extract x i,ty,pos,aft,none⟩ v:=fun w=>by
 simp[execOp,Instr.extract,hx,hi]
theorem cI(b o k:Nat):(⟨b,o,none⟩:Addr).add k=⟨b,o+k,none⟩:=by unfold Addr.add;split<;>simp_all
theorem uL{f:Nat}{fs:Array Field}{fd:Field}{ti:TypeInfo}{lA off:Nat}(k:Nat)(hs:P.underlying t=some (.struct fs))(hf:fs[f]? =some fd)(hi:P.info? fd.type=some ti)(kz:ti.size≠0)(hk:fd.offset=k)
 (hx:ev ρ x= .pointer (some ⟨lA,off,none⟩)):Pure P ρ ⟨d, .fieldAddr t x f,ty,pos,aft,none⟩ (.pointer (some ⟨lA,off+k,none⟩)):=fun w=>by
 subst hk;simp[execOp,Instr.fieldAt,run_underlying hs,hf,Instr.sureAddr,fieldPlace,sizeOf,typeInfo,hi,kz,hx,cI]
theorem lS{e:TypeId}{ti:TypeInfo}{lA off n cap i:Nat}(size:Nat)(ht:P.underlying t=some (.slice e))(hi:P.info? e=some ti)(kz:ti.size=size)
 (hx:ev ρ x= .slice (some ⟨lA,off,none⟩) n cap)(hy:ev ρ y= .int k a)(ha:a=(i:Int))(al:i<n):
 Pure P ρ ⟨d, .indexAddr t x y,ty,pos,aft,none⟩ (.pointer (some ⟨lA,off+i*size,none⟩)):=fun w=>by
 subst kz;subst ha;simp[execOp,Instr.indexAt,asIntOf,run_underlying ht,sizeOf,typeInfo,hi,hx,hy,al,cI]
end
end Go.Proofs.YtilaieogabgamaaGreatDoor
namespace Go.Proofs.YtilaieogabgamaaGreatDoor
open Go Go.RowKit
inductive Path:Row->Row->Type where
 |here {r:Row}:Path r r
 |fst {a b s:Row} (p:Path a s):Path (.pair a b) s
 |snd {a b s:Row} (p:Path b s):Path (.pair a b) s
def Path.off:{r s:Row}->Path r s->Nat
 |_,_, .here=>0
 |_,_, .fst p=>p.off
 |_,_, .snd (a:=a) p=>a.size+p.off
@[reducible] def Path.get:{r s:Row}->Path r s->r.den->s.den
  |_,_, .here,x=>x
  |_,_, .fst p,x=>p.get x.1
  |_,_, .snd p,x=>p.get x.2
@[reducible] def Path.set:{r s:Row}->Path r s->r.den->s.den->r.den
  |_,_, .here,_,y=>y
  |_,_, .fst p,x,y=>(p.set x.1 y,x.2)
  |_,_, .snd p,x,y=>(x.1,p.set x.2 y)
section
variable {F:Nat->Prop} {w:World}
theorem Path.le:{r s:Row}->(p:Path r s)->p.off+s.size<=r.size
 |_,_, .here=>by simp[Path.off]
 |_,_, .fst p=>by have:=p.le;simp[Path.off];omega
 |_,_, .snd p=>by have:=p.le;simp[Path.off];omega
theorem cA.path:{r s:Row}->(p:Path r s)->{es:List Value}->{x:r.den}->cA F w r es x->cA F w s ((es.drop p.off).take s.size) (p.get x)
 |_,_, .here,es,x,h=>by
  have:=h.length;simp only[Path.off,List.drop_zero,Path.get];rw[<-this,aju];exact h
 |_,s, .fst (a:=a) p,_,x,h=>by
  obtain⟨c1,c2,rfl,h1,h2⟩:=h;have hr:=cA.path p h1;have hle:=p.le;have hl:=h1.length;simp only[Path.off,Path.get];rw[ajZ (by omega),ajy (by rw[List.length_drop];omega)];exact hr
 |_,s, .snd (a:=a) p,_,x,h=>by
  obtain⟨c1,c2,rfl,h1,h2⟩:=h;have hr:=cA.path p h2;have hl:=h1.length;simp only[Path.off,Path.get];rw[<-hl,List.drop_append,List.drop_of_length_le (by omega),List.nil_append,show c1.length+p.off-c1.length=p.off from by omega];exact hr
theorem cA.put:{r s:Row}->(p:Path r s)->{es vs:List Value}->{x:r.den}->{y:s.den}->cA F w r es x->cA F w s vs y->
 cA F w r (es.take p.off++vs++es.drop (p.off+s.size)) (p.set x y)
 |_,_, .here,es,vs,x,y,h,hv=>by
  have:=h.length;simp only[Path.off,Path.set,List.take_zero,List.nil_append,ajC];rw[<-this,List.drop_length,ajW];exact hv
 |_,s, .fst (a:=a) p,_,vs,x,y,h,hv=>by
  obtain⟨c1,c2,rfl,h1,h2⟩:=h;have hr:=cA.put p h1 hv;have hle:=p.le;have hl:=h1.length;refine⟨_,c2,?_,hr,h2⟩;simp only[Path.off];rw[ajy (by omega),ajZ (by omega)];simp[ajr]
 |_,s, .snd (a:=a) p,_,vs,x,y,h,hv=>by
  obtain⟨c1,c2,rfl,h1,h2⟩:=h;have hr:=cA.put p h2 hv;have hl:=h1.length;refine⟨c1,_,?_,h1,hr⟩;simp only[Path.off]
  rw[<-hl,List.take_append,List.take_of_length_le (by omega),List.drop_append,List.drop_of_length_le (by omega),show c1.length+p.off-c1.length=p.off from by omega,
   show c1.length+p.off+s.size-c1.length=p.off+s.size from by omega]
  simp[ajr]
theorem At.path{r s:Row}{b off:Nat}{x:r.den}(h:At F w r b off x)(p:Path r s)(k:Nat)(hk:p.off=k):At F w s b (off+k) (p.get x):=by
 subst hk;obtain⟨es,hl,hc,hr⟩:=h;have hp:=hr.path p;refine⟨_,hp.length,fun j u hu=>?_,hp⟩;rw[ajF]at hu;split at hu
 .rw[ajp]at hu;rw[akf];exact hc _ u hu
 .cases hu
theorem At.int{k:IntKind}{b off:Nat}{x:Int}(h:At F w (.int k) b off x):w.cell? ⟨b,off,none⟩=some (.int k x):=by
 obtain⟨es,hl,hc,rfl⟩:=h;exact hc 0 _ rfl
theorem At.bool{b off:Nat}{x:Bool}(h:At F w .bool b off x):w.cell? ⟨b,off,none⟩=some (.bool x):=by
 obtain⟨es,hl,hc,rfl⟩:=h;exact hc 0 _ rfl
theorem At.str{b off:Nat}{x:ByteArray}(h:At F w .str b off x):w.cell? ⟨b,off,none⟩=some (.string x):=by
 obtain⟨es,hl,hc,rfl⟩:=h;exact hc 0 _ rfl
theorem At.slice{e:Row}{b off:Nat}{x:List e.den}(h:At F w (.slice e) b off x):∃v,w.cell? ⟨b,off,none⟩=some v/\cA F w (.slice e) [v] x:=by
 obtain⟨es,hl,hc,hr⟩:=h;obtain⟨A,cap,rfl,h⟩:=hr;exact⟨_,hc 0 _ rfl,A,cap,rfl,h⟩
def Reads(F:Nat->Prop)(w:World)(r:Row)(v:Value)(l:List r.den):Prop:=
 ∃A cap,v= .slice A l.length cap/\l.length<=cap/\cap<=maxLen/\∀i(h:i<l.length),∃b off,A=some ⟨b,off,none⟩/\At F w r b (off+i*r.size) l[i]
theorem cA.reads{r:Row}{v:Value}{l:List r.den}(h:cA F w (.slice r) [v] l):Reads F w r v l:=by
 obtain⟨A,cap,h1,h2,h3,h4⟩:=h;refine⟨A,cap,by simpa using h1,h2,h3,fun i hi=>?_⟩;obtain⟨b,off,es,hA,_,qW,hc,hr⟩:=h4 i hi;exact⟨b,off,hA,es,qW,hc,hr⟩
def idx{α:Type}(l:List α)(i:Int):Option α:=if 0<=i then l[i.toNat]? else none
theorem fG{α:Type}{l:List α}{i:Int}{y:α}(h:idx l i=some y):∃k:Nat,i=k/\∃hk:k<l.length,l[k]=y:=by
 unfold idx at h;split at h
 .rename_i h0;obtain⟨hk,e⟩:=ai7.1 h;exact⟨i.toNat,by omega,hk,e⟩
 .cases h
theorem Reads.elem{r:Row}{v:Value}{l:List r.den}(h:Reads F w r v l){i:Int}{y:r.den}(hi:idx l i=some y):
 ∃b off cap k,v= .slice (some ⟨b,off,none⟩) l.length cap/\i=(k:Nat)/\k<l.length/\At F w r b (off+k*r.size) y:=by
 obtain⟨A,cap,hv,_,_,h4⟩:=h;obtain⟨k,hk,al,rfl⟩:=fG hi;obtain⟨b,off,rfl,oi⟩:=h4 k al;exact⟨b,off,cap,k,hv,hk,al,oi⟩
end
section
variable {P:Program} {n:Nat} {ops:Array Oper} {K:(Nat->Value)->World->Prop} {rest:List Oper} {ρ:Nat->Value} {w:World} {F:Nat->Prop}
variable {d:Nat} {ty:TypeId} {pos:String} {aft:Array Edge} {x y:Operand} {t:TypeId}
def iL:TypeDesc->Bool
 | .struct _| .array _ _=>true
 |_=>false
theorem eY{D:TypeDesc}(hu:P.underlying t=some D)(w:World):(isAgg t).run P w= .ok (iL D) w:=by
 unfold isAgg;rw[ajx,run_underlying hu w]
 cases D<;>simp[iL]
theorem xv{dd:Option Nat}{D:TypeDesc}{b off:Nat}{v:Value}(hu:P.underlying t=some D)(hD:iL D=false)(hx:ev ρ x= .pointer (some ⟨b,off,none⟩))(hc:w.cell? ⟨b,off,none⟩=some v):
 (execOp (ev ρ) ⟨dd, .load t x,ty,pos,aft,none⟩).run P w= .ok (.value v) w:=by
 simp[execOp,hx,Instr.loadAt,Instr.sureAddr,loadVar,ajx,eY hu,hD,hc,go_sem]
theorem Gq{dd:Option Nat}{D:TypeDesc}{ti:TypeInfo}{b off:Nat}{es:List Value}(hu:P.underlying t=some D)(hD:iL D=true)(hi:P.info? t=some ti)(hs:ti.size=es.length)
 (hx:ev ρ x= .pointer (some ⟨b,off,none⟩))(hc:∀j u,es[j]? =some u->w.cell? ⟨b,off+j,none⟩=some u):
 (execOp (ev ρ) ⟨dd, .load t x,ty,pos,aft,none⟩).run P w= .ok (.value (.agg es.toArray)) w:=by
 have hl:(loadCells ⟨b,off,none⟩ es.length).run P w= .ok es.toArray w:=
  run_loadCells_list (P:=P) w ⟨b,off,none⟩ es (fun j v hv=>by rw[cI];exact hc j v hv)
 simp[execOp,hx,Instr.loadAt,Instr.sureAddr,loadVar,ajx,eY hu,hD,sizeOf,typeInfo,hi,hs,hl]
end
end Go.Proofs.YtilaieogabgamaaGreatDoor
end
section
open _root_.Go.Addr.mk renaming injEq->akB
open _root_.Array renaming getElem?_eq_some_iff->aj0
open _root_.Go.Builtin renaming append_->akF
open _root_.List renaming append_assoc->ajr,drop_append_of_le_length->ajZ,getElem?_drop->ajp,getElem?_eq_getElem->ai5,getElem?_take->ajF,getElem_append_left->ajf,getElem_append_right->ajn,getElem_of_mem->aji,length_append->ai6,length_take->ajl,replicate->ai9,take_append_of_le_length->ajy
open _root_.Nat renaming add_assoc->akf,add_mul->aj4,add_zero->aj7,le_refl->ai8,le_trans->ajE,lt_of_lt_of_le->ajJ,mul_le_mul_right->ajw,zero_add->ajC
open _root_.Option.some renaming inj->ai4,injEq->ajg
open _root_.Go.Value renaming ownBlock->ajz
open _root_.Go.Value.slice renaming injEq->akr
namespace Go.Proofs.YtilaieogabgamaaGreatDoor
open Go Go.RowKit
structure Ext(g:Nat->Prop)(w w':World):Prop where
 os:w'.os=w.os
 tape:w'.tape=w.tape
 output:w'.output=w.output
 size:w.heap.size<=w'.heap.size
 block:∀k,k<w.heap.size->¬g k->w'.heap[k]? =w.heap[k]?
theorem Ext.Jc{g:Nat->Prop}{a b:World}{row:Option Nat}(h:a.grownBy b row)(hs:∀k,row=some k->g k):Ext g a b:=
 ⟨h.os,h.tape,h.output,h.size,fun k hk hn=>h.block k hk fun e=>hn (hs k e.symm)⟩
section
variable {w0 w w':World} {F0 F F':Nat->Prop} {g:Nat->Prop}
theorem St.ext(h:St w0 F0 w F)(he:Ext g w w')(hg:∀k,g k->w0.heap.size<=k):St w0 F0 w' F:=
 ⟨h.below.trans ⟨he.os,he.tape,he.output,he.size,fun k hk=>by
   rcases Nat.lt_or_ge k w.heap.size with al|hge
   .exact he.block k al fun e=>by have:=hg k e;omega
   .have:=h.below.size;omega⟩,h.le,h.new,fun b hb=>ajJ (h.lt b hb) he.size⟩
theorem Step.ext(he:Ext g w w')(hF:∀b,F b->b<w.heap.size)(hg:∀k,g k->¬F k):Step F w F w':=
 fun b hb=>⟨hb,he.block b (hF b hb) fun e=>hg b e hb⟩
def mU(base:Nat)(F:Nat->Prop)(w:World)(b:Nat)(T:TypeId)(r:Row)(x:r.den):Prop:=
 base<=b/\¬F b/\∃es,w.heap[b]? =some (.cells es.toArray T (0,0))/\cA F w r es x
def bm(v:Value)(k:Nat):Prop:=v.ownBlock=some k
def is(b k:Nat):Prop:=k=b
def mu(w:World)(base:Nat)(e:TypeId)(size:Nat)(v:Value)(n:Nat)(xs:List Value):Prop:=
 xs.length=n*size/\
 ((v= .slice none 0 0/\n=0)\/
  ∃g o0 cap cur,v= .slice (some ⟨g,o0,none⟩) n cap/\base<=g/\w.heap[g]? =some (.cells cur e (0,0))/\n<=cap/\cap<=maxLen/\o0+cap*size<=cur.size/\(cur.toList.drop o0).take (n*size)=xs)
theorem mu.of{w:World}{base:Nat}{e:TypeId}{size:Nat}{v:Value}{n:Nat}{xs:List Value}(h:w.ownsRow base e size v n xs):mu w base e size v n xs:=by
 refine⟨h.1,?_⟩
 rcases h.2 with h|⟨g,cap,cur,hv,hb,hg,h1,h2,h3,h4⟩
 .exact .inl h
 .exact .inr ⟨g,0,cap,cur,hv,hb,hg,h1,h2,by omega,h4⟩
theorem Gr(w:World)(base:Nat)(e:TypeId)(size:Nat):mu w base e size (.slice none 0 0) 0 []:= .of (World.ownsRow_nil w base e size)
theorem mu.lt{w:World}{base:Nat}{e:TypeId}{size:Nat}{v:Value}{n:Nat}{xs:List Value}(h:mu w base e size v n xs):∀k,v.ownBlock=some k->base<=k/\k<w.heap.size:=by
 intro k hk
 rcases h.2 with⟨rfl,_⟩|⟨g,o0,cap,cur,rfl,hb,hg,_⟩
 .cases hk
 .obtain rfl:g=k:=by simpa[ajz]using hk
  exact⟨hb,(aj0.1 hg).1⟩
def iE(base:Nat)(F:Nat->Prop)(w:World)(T:TypeId)(r:Row)(v:Value)(l:List r.den):Prop:=
 (∀k,bm v k->¬F k)/\∃xs,mu w base T r.size v l.length xs/\∀i(h:i<l.length),cA F w r ((xs.drop (i*r.size)).take r.size) l[i]
variable {base b:Nat} {T:TypeId} {r:Row}
theorem mU.lt{x:r.den}(h:mU base F w b T r x):∀k,is b k->k<w.heap.size:=fun k hk=>by
 obtain⟨_,_,es,hh,_⟩:=h;rw[hk];exact(aj0.1 hh).1
theorem mU.ge{x:r.den}(h:mU base F w b T r x):∀k,is b k->base<=k:=fun k hk=>by rw[hk];exact h.1
theorem mU.no{x:r.den}(h:mU base F w b T r x):∀k,is b k->¬F k:=fun k hk=>by rw[hk];exact h.2.1
theorem mU.st{x:r.den}(h:mU base F w b T r x)(hF:∀b,F b->b<w.heap.size)(hs:St w F w' F'):mU base F' w' b T r x:=by
 have al:=h.lt b rfl;obtain⟨h1,h2,es,hh,hr⟩:=h;refine⟨h1,fun e=>?_,es,(hs.below.block b al).trans hh,hr.step (hs.step hF)⟩
 rcases hs.new b e with h'|h'
 .exact h2 h'
 .omega
theorem mU.ext{x:r.den}(h:mU base F w b T r x)(hF:∀b,F b->b<w.heap.size)(he:Ext g w w')(hg:∀k,g k->¬F k)(hb:∀k,g k->¬is b k):mU base F w' b T r x:=by
 have al:=h.lt b rfl;obtain⟨h1,h2,es,hh,hr⟩:=h;exact⟨h1,h2,es,(he.block b al fun e=>hb b e rfl).trans hh,hr.step (Step.ext he hF hg)⟩
theorem mU.at{x:r.den}(h:mU base F w b T r x):At F w r b 0 x:=by
 obtain⟨_,_,es,hh,hr⟩:=h;exact⟨es,hr.length,fun j u hu=>by rw[ajC,cell_of_row w b j _ T (0,0) hh];simpa using hu,hr⟩
theorem iE.lt{v:Value}{l:List r.den}(h:iE base F w T r v l):∀k,bm v k->k<w.heap.size:=by
 obtain⟨_,xs,h,_⟩:=h
 exact fun k hk=>(h.lt k hk).2
theorem iE.ge{v:Value}{l:List r.den}(h:iE base F w T r v l):∀k,bm v k->base<=k:=by
 obtain⟨_,xs,h,_⟩:=h
 exact fun k hk=>(h.lt k hk).1
theorem iE.no{v:Value}{l:List r.den}(h:iE base F w T r v l):∀k,bm v k->¬F k:=h.1
theorem iE.nil(base:Nat)(F:Nat->Prop)(w:World)(T:TypeId)(r:Row):iE base F w T r (.slice none 0 0) []:=
 ⟨fun k hk=>by simp[bm,ajz]at hk,[],Gr _ _ _ _,fun i h=>absurd h (by simp)⟩
theorem iE.keep{v:Value}{l:List r.den}(h:iE base F w T r v l)(hs:Step F w F' w')(h1:∀k,bm v k->¬F' k/\w'.heap[k]? =w.heap[k]?):iE base F' w' T r v l:=by
 obtain⟨_,xs,⟨R6,Jd⟩,h3⟩:=h;refine⟨fun k hk=>(h1 k hk).1,xs,⟨R6,?_⟩,fun i hi=>(h3 i hi).step hs⟩
 rcases Jd with h2|⟨gg,o0,cap,cur,rfl,hb,hg,rest⟩
 .exact .inl h2
 .exact .inr ⟨gg,o0,cap,cur,rfl,hb,(h1 gg rfl).2.trans hg,rest⟩
theorem iE.st{v:Value}{l:List r.den}(h:iE base F w T r v l)(hF:∀b,F b->b<w.heap.size)(hs:St w F w' F'):iE base F' w' T r v l:=
 h.keep (hs.step hF) fun k hk=>⟨fun e=>by
   have al:=h.lt k hk
   rcases hs.new k e with h'|h'
   .exact h.no k hk h'
   .omega,hs.below.block k (h.lt k hk)⟩
theorem iE.ext{v:Value}{l:List r.den}(h:iE base F w T r v l)(hF:∀b,F b->b<w.heap.size)(he:Ext g w w')(hg:∀k,g k->¬F k)(hb:∀k,g k->¬bm v k):iE base F w' T r v l:=
 h.keep (Step.ext he hF hg) fun k hk=>⟨h.no k hk,he.block k (h.lt k hk) fun e=>hb k e hk⟩
theorem iE.reads{v:Value}{l:List r.den}(h:iE base F w T r v l):Reads F w r v l:=by
 obtain⟨_,xs,hx,h3⟩:=h;have hlen:=hx.1
 rcases hx.2 with⟨rfl,h0⟩|⟨gg,o0,cap,cur,rfl,hb,hg,h1,h2,qp,tz⟩
 .exact⟨none,0,by rw[h0],by omega,by simp[maxLen],fun i hi=>absurd hi (by omega)⟩
 .refine⟨_,cap,rfl,h1,h2,fun i hi=>⟨gg,o0,rfl,_,(h3 i hi).length,fun j u hu=>?_,h3 i hi⟩⟩;rw[ajF]at hu;split at hu
  .rw[ajp]at hu;rw[cell_of_row w gg _ cur T (0,0) hg];rw[<-tz,ajF]at hu;split at hu
   .rw[ajp]at hu;simpa[akf]using hu
   .cases hu
  .cases hu
theorem iE.freeze{v:Value}{l:List r.den}(h:iE base F w T r v l):cA (fun b=>F b\/bm v b) w (.slice r) [v] l:=by
 obtain⟨A,cap,hv,h1,h2,h3⟩:=h.reads;refine⟨A,cap,by rw[hv],h1,h2,fun i hi=>?_⟩;obtain⟨b,off,rfl,es,qW,hc,hr⟩:=h3 i hi;subst hv;exact⟨b,off,es,rfl, .inr (by simp[bm,ajz]),qW,hc,hr.step fun b hb=>⟨.inl hb,rfl⟩⟩
@[reducible] def Row.zero:(r:Row)->r.den
  | .int _=>(0:Int)
  | .bool=>false
  | .str=>ByteArray.empty
  | .slice _=>[]
  | .jJ=> .slice none 0 0
  | .nul _=>()
  | .map .. =>[]
  | .pair a b=>(a.zero,b.zero)
def Row.eA:(r:Row)->List Value
 | .int k=>[.int k 0]
 | .bool=>[.bool false]
 | .str=>[.string ByteArray.empty]
 | .slice _=>[.slice none 0 0]
 | .jJ=>[.slice none 0 0]
 | .nul k=>[k.val]
 | .map .. =>[.map none]
 | .pair a b=>a.eA++b.eA
theorem cA.zero(F:Nat->Prop)(w:World):(r:Row)->cA F w r r.eA r.zero
 | .int _=>rfl
 | .bool=>rfl
 | .str=>rfl
 | .slice e=>cA.nil F w e
 | .jJ=>⟨rfl,none,0,0,rfl⟩
 | .nul _=>rfl
 | .map .. =>⟨_,rfl, .inl ⟨rfl,rfl⟩⟩
 | .pair a b=>⟨_,_,rfl,cA.zero F w a,cA.zero F w b⟩
theorem mU.new(F:Nat->Prop){w:World}(T:TypeId){r:Row}{es:List Value}{x:r.den}(hF:∀b,F b->b<w.heap.size)(hb:base<=w.heap.size)(hr:cA F w r es x):mU base F (w.alloc (.cells es.toArray T)) w.heap.size T r x:=
 ⟨hb,fun e=>by have:=hF _ e;omega,es,heap_alloc_new w _,hr.step (Step.alloc hF _)⟩
end
section
variable {P:Program} {n:Nat} {ops:Array Oper} {K:(Nat->Value)->World->Prop} {rest:List Oper} {ρ:Nat->Value} {w:World} {F:Nat->Prop} {base:Nat}
variable {d:Nat} {ty:TypeId} {pos:String} {aft:Array Edge} {x y:Operand} {t:TypeId}
theorem Gs{dd:Option Nat}{ti:TypeInfo}{z:Value}(hi:P.info? t=some ti)(hz:ti.zero=some z):
 (execOp (ev ρ) ⟨dd, .alloc t,ty,pos,aft,none⟩).run P w= .ok (.value (.pointer (some ⟨w.heap.size,0,none⟩))) (w.alloc (.cells z.cells t)):=by
 simp[execOp,Instr.alloc,zeroValue,typeInfo,hi,hz,newVar,newRow]
theorem Mf{dd:Option Nat}{v:Value}(hx:ev ρ x=v):
 (execOp (ev ρ) ⟨dd, .box t x,ty,pos,aft,none⟩).run P w= .ok (.value (.pointer (some ⟨w.heap.size,0,none⟩))) (w.alloc (.cells v.cells t)):=by
 simp[execOp,Instr.box,hx,newVar,newRow]
theorem nQ{dd:Option Nat}{ti:TypeInfo}{b off:Nat}{cur:Array Value}{T:TypeId}{v:Value}{vs:List Value}(hi:P.info? t=some ti)(hs:ti.size=vs.length)(hx:ev ρ x= .pointer (some ⟨b,off,none⟩))(hy:ev ρ y=v)
 (hv:v.cells.toList=vs)(h1:∀u∈vs,u.oneCell'=true)(hg:w.heap[b]? =some (.cells cur T (0,0)))(hl:off+vs.length<=cur.size):
 (execOp (ev ρ) ⟨dd, .store t x y,ty,pos,aft,none⟩).run P w= .ok .skip (w.setRow b (cur.toList.take off++vs++cur.toList.drop (off+vs.length)).toArray):=by
 have eB:=run_storeCells_at P b off T vs 0 cur w hg (by omega) h1
 have kz:v.cells.size=ti.size:=by rw[hs,<-hv];simp
 simp only[aj7]at eB;simp[execOp,Instr.storeAt,Instr.sureAddr,storeVar,sizeOf,typeInfo,hi,kz,hx,hy,hv,eB]
theorem CX(w:World)(b:Nat)(cs:Array Value):Ext (is b) w (w.setRow b cs):=
 ⟨rfl,rfl,rfl,by simp,fun k _ hk=>setRow_other w b k cs hk⟩
theorem mU.put{w:World}{b:Nat}{T:TypeId}{r s:Row}{a:r.den}{es:List Value}(hh:w.heap[b]? =some (.cells es.toArray T (0,0)))(hr:cA F w r es a)(hb:base<=b)(hn:¬F b)(hF:∀b,F b->b<w.heap.size)(p:Path r s){vs:List Value}{u:s.den}(hv:cA F w s vs u):
 mU base F (w.setRow b (es.take p.off++vs++es.drop (p.off+s.size)).toArray) b T r (p.set a u):=
 ⟨hb,hn,_,setRow_heap w b _ _ T (0,0) hh,(hr.put p hv).step (Step.ext (CX w b _) hF fun k hk=>by rw[show k=b from hk];exact hn)⟩
def mV{α:Type}(m:Int)(z:α):Option (List α):=if 0<=m/\m<=4294967296 then some (ai9 m.toNat z)else none
def bR{α:Type}(l m:List α):Option (List α):=if l.length+m.length<=4294967296 then some (l++m)else none
theorem qX(z:Array Value)(m j:Nat)(hj:j<m)(hz:0<z.size):(madeCells z m).toList[j]? =z[j%z.size]? :=by
 have:j%z.size<z.size:=Nat.mod_lt _ hz;simp[madeCells,hj,this]
theorem Je(z:List Value)(m i:Nat)(hz:0<z.length)(hi:i<m):(((madeCells z.toArray (m*z.length)).toList.drop (i*z.length)).take z.length)=z:=by
 apply List.ext_getElem?
 intro j;rw[ajF,ajp];split
 .rename_i hj;have hle:(i+1)*z.length<=m*z.length:=ajw _ hi;rw[aj4]at hle;rw[qX z.toArray (m*z.length) (i*z.length+j) (by omega) (by simpa using hz)];rw[show z.toArray.size=z.length from by simp,List.getElem?_toArray];rw[Nat.add_comm,Nat.add_mul_mod_self_right,Nat.mod_eq_of_lt hj]
 .rename_i hj;rw[List.getElem?_eq_none (by omega)]
theorem Reads.news{r:Row}{A:Option Addr}{cap m:Nat}{l:List r.den}(h:Reads F w r (.slice A m cap) l)(b off:Nat)(hA:A=some ⟨b,off,none⟩):
 ∃news:List Value,news.length=l.length*r.size/\(∀j u,news[j]? =some u->w.cell? ⟨b,off+j,none⟩=some u)/\∀i(hi:i<l.length),cA F w r ((news.drop (i*r.size)).take r.size) l[i]:=by
 subst hA;obtain⟨A',Jf,hv,_,_,h4⟩:=h;simp only[akr]at hv;obtain⟨rfl,_,_⟩:=hv;have nR:=r.size_pos
 have uJ:∀j,j<l.length*r.size->∃u,w.cell? ⟨b,off+j,none⟩=some u:=by
  intro j hj;have hi:j/r.size<l.length:=Nat.div_lt_of_lt_mul (by rwa [Nat.mul_comm]);obtain⟨b',dx,p5,es,qW,hc,_⟩:=h4 _ hi;simp only[ajg,akB,and_true]at p5;obtain⟨rfl,rfl⟩:=p5
  have N9:j%r.size<es.length:=by rw[qW];exact Nat.mod_lt _ nR
  have:=hc (j%r.size) _ (ai5 N9);rw[akf,Nat.div_add_mod']at this;exact⟨_,this⟩
 have Gt:∀j u,((List.range (l.length*r.size)).map fun j=>(w.cell? ⟨b,off+j,none⟩).getD undef)[j]? =some u↔j<l.length*r.size/\w.cell? ⟨b,off+j,none⟩=some u:=by
  intro j u;by_cases hj:j<l.length*r.size
  .obtain⟨q,hq⟩:=uJ j hj;simp[hj,hq]
  .simp[hj]
 refine⟨(List.range (l.length*r.size)).map fun j=>(w.cell? ⟨b,off+j,none⟩).getD undef,by simp,fun j u hu=>((Gt j u).1 hu).2,fun i hi=>?_⟩;obtain⟨b',dx,p5,es,qW,hc,hr⟩:=h4 i hi;simp only[ajg,akB,and_true]at p5;obtain⟨rfl,rfl⟩:=p5
 have he:(((List.range (l.length*r.size)).map fun j=>(w.cell? ⟨b,off+j,none⟩).getD undef).drop (i*r.size)).take r.size=es:=by
  have hle:(i+1)*r.size<=l.length*r.size:=ajw _ hi;rw[aj4]at hle
  apply List.ext_getElem?
  intro j;rw[ajF,ajp];split
  .rename_i hj;rw[(Gt (i*r.size+j) (es[j]'(by omega))).2 ⟨by omega,by rw[<-akf];exact hc j _ (ai5 (by omega))⟩,ai5 (by omega)]
  .rw[List.getElem?_eq_none (by omega)]
 rw[he];exact hr
theorem qY(w:World)(base:Nat)(t ty e:TypeId)(i:TypeInfo)(size:Nat)(ht:P.underlying t=some (.slice e))(hi:P.info? e=some i)
 (v:Value)(n:Nat)(xs:List Value)(dH:mu w base e size v n xs)(c:Nat):(akF #[t,t] ty #[v, .slice none 0 c]).run P w= .ok v w:=by
 rcases dH.2 with⟨rfl,rfl⟩|⟨g,o0,cap,cur,rfl,_,_,R7,_⟩
 .simp[akF,run_underlying ht,sizeOf,typeInfo,hi,Builtin.lenOf,Builtin.firstCells]
 .simp[akF,run_underlying ht,sizeOf,typeInfo,hi,Builtin.lenOf,Builtin.firstCells,R7,storeCells]
theorem yC(w:World)(base:Nat)(t ty e:TypeId)(i:TypeInfo)(z:Value)(size bytes:Nat)(ht:P.underlying t=some (.slice e))(hi:P.info? e=some i)(hz:i.zero=some z)
 (Oa:i.size=size)(RA:i.bytes=bytes)(R8:z.cells.size=size)(kz:0<size)
 (v:Value)(n:Nat)(xs:List Value)(dH:mu w base e size v n xs)
 (a:Addr)(m c:Nat)(news:List Value)(hl:news.length=m*size)(Jg:∀j u,news[j]? =some u->w.cell? (a.add j)=some u)(h1:∀u∈news,u.oneCell'=true)
 (VP:n+m<=maxLen)(Jh:(n+m)*bytes<=140737488355328)(Ob:base<=w.heap.size):
 ∃v' w',(akF #[t,t] ty #[v, .slice (some a) m c]).run P w= .ok v' w'/\mu w' base e size v' (n+m) (xs++news)/\w.grownBy w' v.ownBlock/\
  (v'.ownBlock=v.ownBlock\/v'.ownBlock=some w.heap.size):=by
 rcases dH.2 with⟨rfl,rfl⟩|⟨g,o0,cap,cur,rfl,hbg,hg,R7,VQ,qp,tz⟩
 .have hx:xs=[]:=List.eq_nil_of_length_eq_zero (by simpa using dH.1);subst hx;obtain⟨v',w',g1,g2,g3,_,g4⟩:=run_append_own_at (P:=P) w base t ty e i z size bytes ht hi hz Oa RA R8 kz (.slice none 0 0) 0 [] (World.ownsRow_nil w base e size) a m c news hl Jg h1 VP Jh Ob;exact⟨v',w',g1, .of g2,g3,g4⟩
 subst Oa;subst RA
 have VS:n+m<=9223372036854775807:=by simp only[maxLen]at VP;omega
 have hlen:(xs++news).length=(n+m)*i.size:=by rw[ai6,dH.1,hl,aj4]
 have hnm:n*i.size+news.length=(n+m)*i.size:=by rw[hl,aj4]
 have adv:n*i.size<=cap*i.size:=ajw _ R7;by_cases xw:n+m<=cap
 .have ua:(n+m)*i.size<=cap*i.size:=ajw _ xw;have hf:=run_firstCells_some (P:=P) w i.size m a m c news hl Jg;have eB:=run_storeCells_at P g (o0+n*i.size) e news 0 cur w hg (by omega) h1;simp only[aj7]at eB
  have hr:(akF #[t,t] ty #[.slice (some ⟨g,o0,none⟩) n cap, .slice (some a) m c]).run P w=
   .ok (.slice (some ⟨g,o0,none⟩) (n+m) cap) (w.setRow g (cur.toList.take (o0+n*i.size)++news++cur.toList.drop (o0+n*i.size+news.length)).toArray):=by
   simp[akF,run_underlying ht,sizeOf,typeInfo,hi,Builtin.lenOf,xw,hf,Addr.add_lit,eB]
  refine⟨_,_,hr,⟨hlen, .inr ⟨g,o0,cap,_,rfl,hbg,setRow_heap w g cur _ e _ hg,xw,VQ,?_,?_⟩⟩,⟨rfl,rfl,rfl,by simp,fun k _ hk=>setRow_other w g k _ (fun e=>hk (by simp[ajz,e]))⟩,Or.inl rfl⟩
  .simp only[List.size_toArray,ai6,ajl,List.length_drop,Array.length_toList];omega
  .rw[List.toList_toArray,ajr,ajZ (by simp;omega),List.drop_take,Nat.add_sub_cancel_left,tz,<-ajr,<-hlen];exact List.take_left
 .have holds:∀j u,xs[j]? =some u->w.cell? ((⟨g,o0,none⟩:Addr).add j)=some u:=fun j u hj=>by
   rw[cI,cell_of_row w g _ cur e (0,0) hg];rw[<-tz,ajF]at hj;split at hj
   .rw[ajp]at hj;simpa using hj
   .cases hj
  have hr:=run_append_grow (P:=P) w t ty e i z ht hi hz ⟨g,o0,none⟩ n cap xs dH.1 holds a m c news hl Jg (by omega) (by omega) (growslice_fits (by omega) Jh);have hge:=grownCap_ge w (n+m) cap e;have VT:grownCap w (n+m) cap e<=maxLen:=grownCap_le_maxLen w (n+m) cap e VP;refine⟨_,_,hr, .of ⟨hlen, .inr ⟨w.heap.size,_,_,rfl,Ob,heap_alloc_new w.drew _,hge,VT,?_,?_⟩⟩,⟨rfl,rfl,rfl,by simp,fun k hk _=>heap_alloc_old w.drew _ hk⟩,Or.inr rfl⟩
  .simp only[Array.size_append,List.size_toArray,size_zeroCells,R8,dH.1,hl,<-aj4]
   congr 1
   omega
  .simp only[Array.toList_append,ajr];rw[<-ajr,<-hlen];exact List.take_left
theorem Reads.same{r:Row}{v:Value}{l:List r.den}(h:Reads F w r v l):Reads F w r v l:=h
theorem uM{e:TypeId}{ti:TypeInfo}{z:Value}{r:Row}{v u:Value}{l m out:List r.den}(ty:TypeId)(ht:P.underlying t=some (.slice e))(hi:P.info? e=some ti)(hz:ti.zero=some z)(R9:z.cells.toList=r.eA)(hs:ti.size=r.size)(RA:ti.bytes<=32768)
 (hv:iE base F w e r v l)(hu:Reads F w r u m)(hm:bR l m=some out)(hF:∀b,F b->b<w.heap.size)(hb:base<=w.heap.size):
 ∃v' w',(akF #[t,t] ty #[v,u]).run P w= .ok v' w'/\Ext (bm v) w w'/\iE base F w' e r v' out/\(bm v'=bm v\/bm v'=(w.heap.size= ·)):=by
 unfold bR at hm;split at hm
 case isFalse=>cases hm
 rename_i hlen;obtain rfl:=ai4 hm
 have R8:z.cells.size=r.size:=by rw[<-(cA.zero F w r).length,<-R9];simp
 obtain⟨CG,xs,hx,h3⟩:=hv;have U0:=hu;obtain⟨A,cap,rfl,hmc,VQ,qW⟩:=hu
 have Sa:∀(v':Value)(w':World)(news:List Value),news.length=m.length*r.size->(∀i(hi:i<m.length),cA F w r ((news.drop (i*r.size)).take r.size) m[i])->
  mu w' base e r.size v' (l.length+m.length) (xs++news)->w.grownBy w' v.ownBlock->(v'.ownBlock=v.ownBlock\/v'.ownBlock=some w.heap.size)->
  Ext (bm v) w w'/\iE base F w' e r v' (l++m)/\(bm v'=bm v\/bm v'=(w.heap.size= ·)):=by
  intro v' _ news U1 U2 fQ hg oi
  have hm:bm v'=bm v\/bm v'=(w.heap.size= ·):=by
   rcases oi with h|h
   .exact .inl (by unfold bm;rw[h])
   .refine .inr ?_;funext b;unfold bm;rw[h];simp
  have bI:=Ext.Jc hg (g:=bm v) fun k hk=>hk
  have kD:=Step.ext bI hF CG;refine⟨bI,⟨fun k hk=>?_,xs++news,by simpa using fQ,fun k hk=>?_⟩,hm⟩
  .rcases hm with h|h
   .rw[h]at hk;exact CG k hk
   .rw[h]at hk;intro hf;have:=hF k hf;omega
  .have Ji:=hx.1
   rcases Nat.lt_or_ge k l.length with al|hge
   .have hle:(k+1)*r.size<=l.length*r.size:=ajw _ al;rw[aj4]at hle;rw[ajf al,ajZ (by omega),ajy (by rw[List.length_drop];omega)];exact(h3 k al).step kD
   .have CY:k-l.length<m.length:=by simp at hk;omega
    have hmul:k*r.size=l.length*r.size+(k-l.length)*r.size:=by rw[<-aj4];congr 1;omega
    rw[ajn hge,List.drop_append,Ji,List.drop_of_length_le (by omega),List.nil_append,show k*r.size-l.length*r.size=(k-l.length)*r.size from by omega];exact(U2 _ CY).step kD
 cases A with
 |none=>
  have O0:m=[]:=by
   cases m with
   |nil=>rfl
   |cons a q=>obtain⟨b,off,h,_⟩:=qW 0 (by simp);cases h
  subst O0;refine⟨v,w,qY w base t ty e ti r.size ht hi v _ xs hx _,?_⟩;exact Sa v w [] (by simp) (fun i hi=>absurd hi (by simp)) (by simpa using hx) ⟨rfl,rfl,rfl,ai8 _,fun _ _ _=>rfl⟩ (.inl rfl)
 |some ad=>
  have key:∃news:List Value,news.length=m.length*r.size/\(∀j u,news[j]? =some u->w.cell? (ad.add j)=some u)/\∀i(hi:i<m.length),cA F w r ((news.drop (i*r.size)).take r.size) m[i]:=by
   cases m with
   |nil=>exact⟨[],by simp,fun j u h=>by simp at h,fun i hi=>absurd hi (by simp)⟩
   |cons a q=>
    obtain⟨b,off,h,_⟩:=qW 0 (by simp);obtain⟨news,h1,h2,h3⟩:=U0.news b off h
    obtain rfl:ad=⟨b,off,none⟩:=by simpa using h
    exact⟨news,h1,fun j u hj=>by rw[cI];exact h2 j u hj,h3⟩
  obtain⟨news,U1,R7,U2⟩:=key
  have k8:∀u∈news,u.oneCell'=true:=by
   intro u hu;obtain⟨j,hj,rfl⟩:=aji hu;have nR:=r.size_pos;have hi:j/r.size<m.length:=Nat.div_lt_of_lt_mul (by rw[Nat.mul_comm,<-U1];exact hj);have hr:=U2 _ hi;refine hr.iT _ ?_;have hle:(j/r.size)*r.size+j%r.size=j:=Nat.div_add_mod' j r.size;have al:=Nat.mod_lt j nR;rw[List.mem_iff_getElem?];refine⟨j%r.size,?_⟩;rw[ajF,if_pos al,ajp,hle,ai5 hj]
  obtain⟨v',w',bx,fQ,hg,oi⟩:=yC (P:=P) w base t ty e ti z r.size ti.bytes ht hi hz hs rfl R8 r.size_pos v l.length xs hx ad m.length cap news U1 R7 k8 (by simp only[maxLen];omega)
   (ajE (Nat.mul_le_mul hlen RA) (by omega)) hb
  exact⟨v',w',bx,Sa v' w' news U1 U2 fQ hg oi⟩
end
end Go.Proofs.YtilaieogabgamaaGreatDoor
end
section
open _root_.Bool renaming false_eq_true->ajb
open _root_.List.cons renaming injEq->aka
open _root_.List renaming drop_eq_getElem_cons->ajK,length_take->ajl,take_length->aju
open _root_.Nat renaming add_assoc->akf,add_zero->aj7,beq->aje,min_eq_left->ajQ
open _root_.Option renaming bind_eq_some_iff->ajS
open _root_.Option.some renaming injEq->ajg
open _root_.Prod.mk renaming injEq->aj3
open _root_.Go.Result renaming andThen_ok->ajO
open _root_.Go.Sem renaming run_bind->ajx
namespace Go.Proofs.YtilaieogabgamaaGreatDoor
open Go Go.RowKit
theorem bind_some{α β:Type}{o:Option α}{f:α->Option β}{r:β}(h:o.bind f=some r):∃x,o=some x/\f x=some r:=ajS.1 h
section
variable {P:Program} {n:Nat} {ρ:Nat->Value} {w:World} {K:(Nat->Value)->World->Prop} {Q:Exit->(Nat->Value)->World->Prop}
theorem Jj{id:Nat}(h:Q .normal ρ w):Rz id Q (.exit id) ρ w:=by
 show(bif aje id id then _ else _)
 rw[show aje id id=true from Nat.beq_refl id];exact h
theorem Gu{id Ge:Nat}(bN:aje Ge id=false)(h:Q (.exit Ge) ρ w):Rz id Q (.exit Ge) ρ w:=by
 show(bif aje Ge id then _ else _)
 rw[bN];exact h
theorem iE.fz{base:Nat}{F G:Nat->Prop}{w:World}{T:TypeId}{r:Row}{v:Value}{l:List r.den}(h:iE base F w T r v l)(hg:∀k,G k->¬bm v k):iE base (fun b=>F b\/G b) w T r v l:=
 h.keep (Step.freeze F w G) fun k hk=>⟨fun e=>e.elim (h.no k hk) fun e=>hg k e hk,rfl⟩
theorem mU.fz{base:Nat}{F G:Nat->Prop}{w:World}{b:Nat}{T:TypeId}{r:Row}{x:r.den}(h:mU base F w b T r x)(hg:∀k,G k->¬is b k):mU base (fun b=>F b\/G b) w b T r x:=by
 obtain⟨h1,h2,es,hh,hr⟩:=h;exact⟨h1,fun e=>e.elim h2 fun e=>hg b e rfl,es,hh,hr.step (Step.freeze F w G)⟩
theorem St.fz{w0 w:World}{F0 F:Nat->Prop}(h:St w0 F0 w F){T:TypeId}{r:Row}{v:Value}{l:List r.den}(ho:iE w0.heap.size F w T r v l):St w0 F0 w (fun b=>F b\/bm v b):=
 h.freeze (bm v) fun b hb=>⟨ho.ge b hb,ho.lt b hb⟩
end
def TI(P:Program)(e:TypeId)(r:Row):Prop:=∃ti z,P.info? e=some ti/\ti.zero=some z/\z.cells.toList=r.eA/\ti.size=r.size/\ti.bytes<=32768
theorem TI.mk{P:Program}{e:TypeId}{r:Row}{k:Nat}(h:(P.info? e).map (fun i=>(i.zero.map (fun z=>z.cells.toList),i.size,decide (i.bytes<=32768)))=some (some r.eA,k,true))(hk:k=r.size):TI P e r:=by
 cases hi:P.info? e with
 |none=>simp[hi]at h
 |some ti=>
  simp only[hi,Option.map_some,ajg,aj3,decide_eq_true_eq]at h;obtain⟨h1,h2,h3⟩:=h
  cases hz:ti.zero with
  |none=>simp[hz]at h1
  |some z=>
   simp only[hz,Option.map_some,ajg]at h1;exact⟨ti,z,hi,hz,h1,h2.trans hk,h3⟩
section
variable {P:Program} {n:Nat} {ops:Array Oper} {K:(Nat->Value)->World->Prop} {rest:List Oper} {ρ:Nat->Value} {w:World} {F:Nat->Prop} {base:Nat}
variable {d:Nat} {dd:Option Nat} {ty:TypeId} {pos:String} {aft:Array Edge} {x y c:Operand} {t e:TypeId} {r:Row}
theorem mv{f:Nat}{fs:Array Field}{fd:Field}{lA off:Nat}(k:Nat)(hs:P.underlying t=some (.struct fs))(hf:fs[f]? =some fd)(hi:TI P fd.type r)(hk:fd.offset=k)
 (hx:ev ρ x= .pointer (some ⟨lA,off,none⟩)):Pure P ρ ⟨dd, .fieldAddr t x f,ty,pos,aft,none⟩ (.pointer (some ⟨lA,off+k,none⟩)):=by
 obtain⟨ti,z,h1,_,_,h4,_⟩:=hi;exact uL k hs hf h1 (by rw[h4];have:=r.size_pos;omega) hk hx
end
end Go.Proofs.YtilaieogabgamaaGreatDoor
namespace Go.Proofs.YtilaieogabgamaaGreatDoor
open Go Go.RowKit
noncomputable def nh(r:Row)(x y:r.den):Bool:= @decide (x=y) (Row.decEq r x y)
def Jk(P:Program)(t:TypeId)(cs:List Value)(v:Value):Prop:=∃D,P.underlying t=some D/\(if iL D=true then v= .agg cs.toArray else cs=[v])
def qs(P:Program)(t:TypeId)(r:Row)(K:Nat):Prop:=
 ∀(d:Nat)(w2 w:World)(F:Nat->Prop)(cs qZ:List Value)(x y:r.den)(v v':Value),Jk P t cs v->Jk P t qZ v'->cA F w r cs x->cA F w r qZ y->
  (Op.equalIn (d+K) t v v').run P w2= .ok (decide (x=y)) w2
def Mg(P:Program)(fs:List Field)(r:Row)(off K:Nat):Prop:=
 ∀(d:Nat)(w2 w:World)(F:Nat->Prop)(xs ys:List Value)(x y:r.den),cA F w r ((xs.drop off).take r.size) x->cA F w r ((ys.drop off).take r.size) y->
  (Op.eqFields (d+K) xs.toArray ys.toArray fs).run P w2= .ok (decide (x=y)) w2
section
variable {P:Program} {t:TypeId} {r:Row} {k:IntKind} {K:Nat}
theorem ER(ht:P.underlying t=some (.int k)):qs P t (.int k) 1:=by
 intro d w2 w F cs qZ x y v v' ⟨D,hD,h1⟩ ⟨D',Mh,h2⟩ hx hy;rw[ht]at hD Mh;cases hD;cases Mh;obtain rfl:cs=_:=hx;obtain rfl:qZ=_:=hy;simp only[iL,ajb,if_false,aka,and_true]at h1 h2;subst h1;subst h2;rw[run_equalIn_int (h:=ht),pk]
theorem q6{D:TypeDesc}{ti:TypeInfo}{cs:List Value}{off:Nat}{F:Nat->Prop}{w:World}{x:r.den}(hD:P.underlying t=some D)(hi:P.info? t=some ti)(hs:ti.size=r.size)(k8:iL D=false->r.size=1)
 (hr:cA F w r ((cs.drop off).take r.size) x)(w2:World):∃v,(part t cs.toArray off).run P w2= .ok v w2/\Jk P t ((cs.drop off).take r.size) v:=by
 have hl:=hr.length;have nR:=r.size_pos
 cases hA:iL D with
 |true=>
  refine⟨.agg ((cs.drop off).take r.size).toArray,?_,D,hD,by rw[if_pos hA]⟩;unfold part;rw[ajx,eY hD,hA];simp[sizeOf,typeInfo,hi,hs]
 |false=>
  have h1:=k8 hA;rw[h1]at hl⊢
  have al:off<cs.length:=by
   rw[ajl,List.length_drop]at hl;omega
  refine⟨cs[off],?_,D,hD,?_⟩
  .unfold part;rw[ajx,eY hD,hA];simp[al]
  .rw[if_neg (by simp[hA])];rw[ajK al];rfl
theorem oB{f:Field}{off:Nat}(hn:(f.name != "_")=true)(ho:f.offset=off){D:TypeDesc}(hD:P.underlying f.type=some D)(k8:iL D=false->r.size=1)(hi:TI P f.type r)(he:qs P f.type r K):Mg P [f] r off K:=by
 intro d w2 w F xs ys x y hx hy;subst ho;obtain⟨ti,z,h1,_,_,h4,_⟩:=hi;obtain⟨v,hv,tA⟩:=q6 hD h1 h4 k8 hx w2;obtain⟨v',di,Gv⟩:=q6 hD h1 h4 k8 hy w2;have:=he d w2 w F _ _ x y v v' tA Gv hx hy
 have Mi:f.name≠ "_" :=by simpa using hn
 unfold Op.eqFields;rw[if_pos Mi,ajx,hv,ajO,ajx,di,ajO,ajx,this,ajO]
 by_cases wO:x=y<;>simp[wO,Op.eqFields]
theorem k9{f:Field}{fs:List Field}{a b:Row}{off:Nat}(hn:(f.name != "_")=true)(ho:f.offset=off){D:TypeDesc}(hD:P.underlying f.type=some D)(k8:iL D=false->a.size=1)(hi:TI P f.type a)(he:qs P f.type a K)
 (hr:Mg P fs b (off+a.size) K):Mg P (f::fs) (.pair a b) off K:=by
 intro d w2 w F xs ys x y hx hy;subst ho;obtain⟨ti,z,h1,_,_,h4,_⟩:=hi
 have hle:a.size<=(Row.pair a b).size:=by simp
 have eR:∀(zs:List Value)(u:(Row.pair a b).den),cA F w (.pair a b) ((zs.drop f.offset).take (Row.pair a b).size) u->cA F w a ((zs.drop f.offset).take a.size) u.1:=by
  intro zs u hu;have:=cA.path (.fst (.here (r:=a)):Path (.pair a b) a) hu;simp only[Path.off,List.drop_zero]at this;rw[List.take_take,ajQ hle]at this;exact this
 have Sb:∀(zs:List Value)(u:(Row.pair a b).den),cA F w (.pair a b) ((zs.drop f.offset).take (Row.pair a b).size) u->cA F w b ((zs.drop (f.offset+a.size)).take b.size) u.2:=by
  intro zs u hu;have:=cA.path (.snd (.here (r:=b)):Path (.pair a b) b) hu;simp only[Path.off,aj7]at this;rw[List.drop_take,List.drop_drop]at this;rw[show(Row.pair a b).size-a.size=b.size from by simp]at this;rw[List.take_take,Nat.min_self]at this;exact this
 obtain⟨v,hv,tA⟩:=q6 hD h1 h4 k8 (eR xs x hx) w2;obtain⟨v',di,Gv⟩:=q6 hD h1 h4 k8 (eR ys y hy) w2;have h5:=he d w2 w F _ _ _ _ v v' tA Gv (eR xs x hx) (eR ys y hy);have h6:=hr d w2 w F xs ys _ _ (Sb xs x hx) (Sb ys y hy)
 have Mi:f.name≠ "_" :=by simpa using hn
 unfold Op.eqFields;rw[if_pos Mi,ajx,hv,ajO,ajx,di,ajO,ajx,h5,ajO];obtain⟨x1,x2⟩:=x;obtain⟨y1,y2⟩:=y;by_cases wO:x1=y1
 .simp only[wO,decide_true,Bool.not_true,ajb,if_false,h6]
  congr 1
  simp[Prod.ext_iff]
 .simp[wO,Prod.ext_iff]
theorem lT{fs:Array Field}(ht:P.underlying t=some (.struct fs))(hp:P.stoodInHeld t=false)(h:Mg P fs.toList r 0 K):qs P t r (K+1):=by
 intro d w2 w F cs qZ x y v v' ⟨D,hD,h1⟩ ⟨D',Mh,h2⟩ hx hy;rw[ht]at hD Mh;cases hD;cases Mh;simp only[iL,if_true]at h1 h2;subst h1;subst h2
 have hf:P.fieldsOf t=fs:=by simp[Program.fieldsOf,ht]
 have Sc:=hx.length;have U3:=hy.length;rw[<-akf,run_equalIn_struct _ _ _ _ _ (by rw[hf];exact ht) hp,hf];exact h d w2 w F cs qZ x y (by rw[List.drop_zero,<-Sc,aju];exact hx) (by rw[List.drop_zero,<-U3,aju];exact hy)
variable {ρ:Nat->Value} {dd:Option Nat} {ty:TypeId} {pos:String} {aft:Array Edge} {x y:Operand} {u:TypeId}
theorem Gw{d:Nat}{F:Nat->Prop}{w:World}{es mw:List Value}{a b:r.den}(hE:qs P t r K)(hd:d+K=10000)(hg:P.eqGuardType P.depth t=false)(hD:(P.underlying t).any iL=true)
 (hx:ev ρ x= .agg es.toArray)(hy:ev ρ y= .agg mw.toArray)(ha:cA F w r es a)(hb:cA F w r mw b):
 Pure P ρ ⟨dd, .binOp .eql t x y u,ty,pos,aft,none⟩ (.bool (nh r a b)):=fun w2=>by
 cases hu:P.underlying t with
 |none=>simp[hu]at hD
 |some D=>
  have hA:iL D=true:=by simpa[hu]using hD
  have:=hE d w2 w F es mw a b _ _ ⟨D,hu,by rw[if_pos hA]⟩ ⟨D,hu,by rw[if_pos hA]⟩ ha hb;rw[hd]at this;simp only[execOp,hx,hy,ajx,run_eqGuard_agg _ _ _ _ _ _ _ hg,ajO,run_eql_struct,this];rfl
theorem Gx{d:Nat}{F:Nat->Prop}{w:World}{es mw:List Value}{a b:r.den}(hE:qs P t r K)(hd:d+K=10000)(hg:P.eqGuardType P.depth t=false)(hD:(P.underlying t).any iL=true)
 (hx:ev ρ x= .agg es.toArray)(hy:ev ρ y= .agg mw.toArray)(ha:cA F w r es a)(hb:cA F w r mw b):
 Pure P ρ ⟨dd, .binOp .neq t x y u,ty,pos,aft,none⟩ (.bool (!nh r a b)):=fun w2=>by
 cases hu:P.underlying t with
 |none=>simp[hu]at hD
 |some D=>
  have hA:iL D=true:=by simpa[hu]using hD
  have:=hE d w2 w F es mw a b _ _ ⟨D,hu,by rw[if_pos hA]⟩ ⟨D,hu,by rw[if_pos hA]⟩ ha hb;rw[hd]at this;simp only[execOp,hx,hy,ajx,run_eqGuard_agg _ _ _ _ _ _ _ hg,ajO,run_neq_struct,this];rfl
end
section
variable {P:Program} {n:Nat} {ops:Array Oper} {K:(Nat->Value)->Prop} {rest:List Oper} {ρ:Nat->Value} {w:World} {F:Nat->Prop}
variable {d:Nat} {ty:TypeId} {pos:String} {aft:Array Edge} {x y:Operand} {t e:TypeId} {r:Row}
theorem At.st{w':World}{b off:Nat}{a:r.den}(h:At F w r b off a)(hF:∀b,F b->b<w.heap.size)(hs:St w F w' F):At F w' r b off a:=by
 obtain⟨es,hl,hc,hr⟩:=h;refine⟨es,hl,fun j u hu=>?_,hr.step (hs.step hF)⟩;have:=hc j u hu;have al:b<w.heap.size:=block_lt_of_cell this;exact(World.cell?_of_block (hs.below.block b al)).trans this
end
end Go.Proofs.YtilaieogabgamaaGreatDoor
end
section
open _root_.Go.Addr.mk renaming injEq->akB
open _root_.Array renaming toArray_toList->ajR
open _root_.Go.Instr renaming fill->akJ
open _root_.List renaming append_assoc->ajr,drop_append_of_le_length->ajZ,getElem?_append->akO,getElem?_drop->ajp,getElem?_take->ajF,length_append->ai6,length_cons->ajk,length_set->akw,length_take->ajl,take_append_drop->akz
open _root_.Nat renaming add_mul->aj4,min_eq_left->ajQ,mul_le_mul_right->ajw
open _root_.Option.some renaming injEq->ajg
open _root_.Go.Value renaming ownBlock->ajz
open _root_.Go.Value.slice renaming injEq->akr
namespace Go.Proofs.YtilaieogabgamaaGreatDoor
open Go Go.RowKit
section
variable {P:Program} {n:Nat} {ops:Array Oper} {K:(Nat->Value)->World->Prop} {rest:List Oper} {ρ:Nat->Value} {w:World} {F:Nat->Prop} {base:Nat}
variable {d:Nat} {ty:TypeId} {pos:String} {aft:Array Edge} {x y:Operand} {t e:TypeId} {r s:Row}
def aT{α:Type}(l:List α)(i:Int)(y:α):List α:=l.set i.toNat y
theorem iE.put{g o0 m0 O1 q:Nat}{v:Value}{l:List r.den}(h:iE base F w e r v l)(hg:v= .slice (some ⟨g,o0,none⟩) m0 O1)(hq:q<l.length)(hF:∀b,F b->b<w.heap.size)(p:Path r s){vs:List Value}{u:s.den}(hv:cA F w s vs u):
 ∃cur,w.heap[g]? =some (.cells cur e (0,0))/\o0+q*r.size+p.off+vs.length<=cur.size/\
  Ext (bm v) w (w.setRow g (cur.toList.take (o0+q*r.size+p.off)++vs++cur.toList.drop (o0+q*r.size+p.off+vs.length)).toArray)/\
  iE base F (w.setRow g (cur.toList.take (o0+q*r.size+p.off)++vs++cur.toList.drop (o0+q*r.size+p.off+vs.length)).toArray) e r v (l.set q (p.set l[q] u)):=by
 obtain⟨CG,xs,⟨Ji,hx⟩,h3⟩:=h
 rcases hx with⟨rfl,_⟩|⟨g',o1,cap,cur,rfl,hb,hh,h1,h2,qp,tz⟩
 .simp at hg
 .simp only[akr,ajg,akB,and_true]at hg;obtain⟨⟨rfl,rfl⟩,rfl,rfl⟩:=hg;have hle:=p.le;have hl:=hv.length;have hmul:(q+1)*r.size<=l.length*r.size:=ajw _ hq;rw[aj4]at hmul;have ua:l.length*r.size<=cap*r.size:=ajw _ h1
  have bI:Ext (bm (.slice (some ⟨g',o1,none⟩) l.length cap)) w (w.setRow g' (cur.toList.take (o1+q*r.size+p.off)++vs++cur.toList.drop (o1+q*r.size+p.off+vs.length)).toArray):=
   ⟨rfl,rfl,rfl,by simp,fun k _ hk=>setRow_other w g' k _ fun e=>hk (by simp[bm,ajz,e])⟩
  have kD:=Step.ext bI hF CG;refine⟨cur,hh,by omega,bI,CG,xs.take (q*r.size+p.off)++vs++xs.drop (q*r.size+p.off+vs.length),⟨by simp;omega, .inr ⟨g',o1,cap,_,by simp,hb,setRow_heap w g' _ _ e (0,0) hh,by simpa using h1,h2,by simp;omega,?_⟩⟩,?_⟩
  .rw[akw,List.toList_toArray,<-tz]
   have e0:(cur.toList.take (o1+q*r.size+p.off)++vs++cur.toList.drop (o1+q*r.size+p.off+vs.length)).drop o1=(cur.toList.drop o1).take (q*r.size+p.off)++vs++(cur.toList.drop o1).drop (q*r.size+p.off+vs.length):=by
    rw[ajr,ajZ (by simp;omega),List.drop_take,List.drop_drop,show o1+q*r.size+p.off-o1=q*r.size+p.off by omega,ajr,show o1+q*r.size+p.off+vs.length=o1+(q*r.size+p.off+vs.length) by omega]
   rw[e0]
   have uo:cap*r.size<=(cur.toList.drop o1).length:=by simp;omega
   generalize cur.toList.drop o1=c2 at*
   have e1:(c2.take (l.length*r.size)).take (q*r.size+p.off)=c2.take (q*r.size+p.off):=by rw[List.take_take,ajQ (by omega)]
   rw[e1,List.take_append,List.take_of_length_le (by simp;omega),List.drop_take]
   congr 1
   simp
   congr 1
   omega
  .intro i gv
   have hi:i<l.length:=by simpa using gv
   have Sd:(i+1)*r.size<=l.length*r.size:=ajw _ hi;rw[aj4]at Sd
   have A:∀j,j<r.size->((xs.take (q*r.size+p.off)++vs++xs.drop (q*r.size+p.off+vs.length)))[i*r.size+j]? =
    if i*r.size+j<q*r.size+p.off then xs[i*r.size+j]? else if i*r.size+j<q*r.size+p.off+vs.length then vs[i*r.size+j-(q*r.size+p.off)]? else xs[i*r.size+j]? :=by
    intro j hj;rw[ajr,akO];simp only[ajl,Ji,ajQ (show q*r.size+p.off<=l.length*r.size from by omega)];split
    .rw[ajF,if_pos (by assumption)]
    .rw[akO];split
     .rename_i h1 h2;rw[if_pos (by omega)]
     .rename_i h1 h2;rw[if_neg (by omega),ajp]
      congr 1
      omega
   by_cases VU:i=q
   .subst VU;rw[List.getElem_set_self];have hp:=(h3 i hi).put p hv
    have:((xs.take (i*r.size+p.off)++vs++xs.drop (i*r.size+p.off+vs.length)).drop (i*r.size)).take r.size=
     ((xs.drop (i*r.size)).take r.size).take p.off++vs++((xs.drop (i*r.size)).take r.size).drop (p.off+s.size):=by
     have Se:((xs.drop (i*r.size)).take r.size).length=r.size:=by rw[ajl,List.length_drop,Ji];omega
     have VV:∀j,j<r.size->((xs.drop (i*r.size)).take r.size)[j]? =xs[i*r.size+j]? :=fun j hj=>by rw[ajF,if_pos hj,ajp]
     generalize(xs.drop (i*r.size)).take r.size=seg at Se VV
     apply List.ext_getElem?
     intro j;rw[akO (l₁:=seg.take p.off++vs),akO (l₁:=seg.take p.off),ai6,ajl,Se,ajQ (show p.off<=r.size from by omega),ajF (l:=List.drop _ _)];by_cases hj:j<r.size
     .rw[if_pos hj,ajp,A j hj];by_cases VW:j<p.off
      .rw[if_pos (by omega),if_pos (by omega),if_pos VW,ajF,if_pos VW,VV j hj]
      .rw[if_neg (by omega)];by_cases N9:j<p.off+vs.length
       .rw[if_pos (by omega),if_pos N9,if_neg VW]
        congr 1
        omega
       .rw[if_neg (by omega),if_neg N9,ajp,<-VV j hj]
        congr 1
        omega
     .rw[if_neg hj,if_neg (by omega),ajp,List.getElem?_eq_none (by omega)]
    rw[this];exact hp.step kD
   .rw[List.getElem_set_ne (fun e=>VU e.symm)]
    have:((xs.take (q*r.size+p.off)++vs++xs.drop (q*r.size+p.off+vs.length)).drop (i*r.size)).take r.size=(xs.drop (i*r.size)).take r.size:=by
     apply List.ext_getElem?
     intro j;rw[ajF,ajF];by_cases hj:j<r.size
     .rw[if_pos hj,if_pos hj,ajp,A j hj,ajp]
      rcases Nat.lt_or_gt_of_ne VU with al|hgt
      .have:(i+1)*r.size<=q*r.size:=ajw _ al;rw[aj4]at this;rw[if_pos (by omega)]
      .have:(q+1)*r.size<=i*r.size:=ajw _ hgt;rw[aj4]at this;rw[if_neg (by omega),if_neg (by omega)]
     .rw[if_neg hj,if_neg hj]
    rw[this];exact(h3 i hi).step kD
theorem iE.at{g o0 m0 O1 q:Nat}{i:Int}{v:Value}{l:List r.den}{a:r.den}(h:iE base F w e r v l)(hg:v= .slice (some ⟨g,o0,none⟩) m0 O1)(hq:i=(q:Nat))(nS:idx l i=some a):At F w r g (o0+q*r.size) a:=by
 obtain⟨b,off,cap,k,hv,hk,al,oi⟩:=h.reads.elem nS
 obtain rfl:k=q:=by omega
 rw[hg]at hv;simp only[akr,ajg,akB,and_true]at hv;obtain⟨⟨rfl,rfl⟩,_⟩:=hv;exact oi
theorem Jl(cs:List Value):∀(k:Nat)(pre post:List Value),post.length=cs.length->∀(tail:List Value),
 (cs.zipIdx k).foldl (fun(acc:Array Value)(cj:Value×Nat)=>acc.setIfInBounds (pre.length-k+cj.2) cj.1) (pre++post++tail).toArray=(pre++cs++tail).toArray\/pre.length<k:=by
 induction cs with
 |nil=>intro k pre post hp tail;left;simp at hp;simp[hp]
 |cons c q ih=>
  intro k pre post hp tail;by_cases hk:pre.length<k
  .exact .inr hk
  cases post with
  |nil=>simp at hp
  |cons p0 post=>
   simp only[List.zipIdx_cons,List.foldl_cons]
   rcases ih (k+1) (pre++[c]) post (by simpa using hp) tail with h|h
   .left
    have e1:((pre++p0::post++tail).toArray.setIfInBounds (pre.length-k+k) c)=((pre++[c])++post++tail).toArray:=by
     rw[Nat.sub_add_cancel (by omega)];simp
    rw[e1]
    have e2:(pre++[c]).length-(k+1)=pre.length-k:=by simp
    rw[e2]at h;rw[h];simp
   .simp at h;omega
theorem sd{place:Nat->Option (Nat×Nat)}{i off size:Nat}{v:Value}{vs cells:List Value}{rest:List (Nat×Value)}(hp:place i=some (off,size))(hv:v.cells.toList=vs)(hs:vs.length=size)(hle:off+size<=cells.length):
 akJ place cells.toArray ((i,v)::rest)=akJ place (cells.take off++vs++cells.drop (off+size)).toArray rest:=by
 have hvc:v.cells=vs.toArray:=by rw[<-hv,ajR]
 have hf:=Jl vs 0 (cells.take off) ((cells.drop off).take size) (by simp;omega) (cells.drop (off+size))
 have wP:cells.take off++(cells.drop off).take size++cells.drop (off+size)=cells:=by
  rw[ajr,<-List.drop_drop,akz,akz]
 have hlen:(cells.take off).length=off:=by simp;omega
 rw[wP,hlen,Nat.sub_zero]at hf
 rcases hf with hf|hf
 case inr=>omega
 rw[akJ];simp only[hp,hvc,List.size_toArray];rw[if_neg (by simp;omega)]
 congr 1
 rw[<-Array.foldl_toList,Array.toList_zipIdx];exact hf
inductive uN(F:Nat->Prop)(w:World)(r:Row):List Value->List r.den->Prop where
 |nil:uN F w r [] []
 |cons {v:Value} {vs:List Value} {cs:List Value} {a:r.den} {l:List r.den} (hc:v.cells.toList=cs) (hr:cA F w r cs a) (h:uN F w r vs l):uN F w r (v::vs) (a::l)
theorem uN.length{vs:List Value}{l:List r.den}(h:uN F w r vs l):vs.length=l.length:=by
 induction h with
 |nil=>rfl
 |cons _ _ _ ih=>simp[ih]
theorem uN.fill{vs:List Value}{l:List r.den}(h:uN F w r vs l):∀(k:Nat)(pre post:List Value),pre.length=k*r.size->post.length=vs.length*r.size->
 ∃xs,akJ (fun i=>some (i*r.size,r.size)) (pre++post).toArray ((vs.zipIdx k).map fun p=>(p.2,p.1))=some (pre++xs).toArray/\xs.length=l.length*r.size/\∀i(hi:i<l.length),cA F w r ((xs.drop (i*r.size)).take r.size) l[i]:=by
 induction h with
 |nil=>
  intro k pre post hp hq;have:post=[]:=List.eq_nil_of_length_eq_zero (by simpa using hq);subst this;exact⟨[],by simp[akJ],by simp,fun i hi=>absurd hi (by simp)⟩
 | @cons v vs cs a l hc hr h ih=>
   intro k pre post hp hq;have hl:=hr.length;rw[ajk,aj4,Nat.one_mul]at hq;obtain⟨xs,h1,h2,h3⟩:=ih (k+1) (pre++cs) (post.drop r.size) (by rw[ai6,hp,hl,aj4,Nat.one_mul]) (by rw[List.length_drop,hq];omega);refine⟨cs++xs,?_,by rw[ai6,hl,h2,ajk,aj4,Nat.one_mul,Nat.add_comm],fun i hi=>?_⟩
   .simp only[List.zipIdx_cons,List.map_cons];rw[sd (place:=fun i=>some (i*r.size,r.size)) rfl hc hl (by rw[ai6,hp,hq];omega)];rw[<-hp,List.take_left',List.drop_append,List.drop_of_length_le (by omega),List.nil_append,show pre.length+r.size-pre.length=r.size from by omega]
    .rw[h1];simp[ajr]
    .rfl
   .cases i with
    |zero=>
     simp only[Nat.zero_mul,List.drop_zero,List.getElem_cons_zero];rw[<-hl,List.take_left']
     .exact hr
     .rfl
    |succ i=>
     rw[aj4,Nat.one_mul,Nat.add_comm,<-List.drop_drop,<-hl,List.drop_left',hl]
     .simpa using h3 i (by simpa using hi)
     .rfl
def Sf(place:Nat->Option (Nat×Nat))(F:Nat->Prop)(w:World)(r:Row)(parts:List (Nat×Value))(x x':r.den):Prop:=
 ∀es,cA F w r es x->∃mw,akJ place es.toArray parts=some mw.toArray/\cA F w r mw x'
theorem Sf.nil{place:Nat->Option (Nat×Nat)}{x:r.den}:Sf place F w r [] x x:=fun es h=>⟨es,by simp[akJ],h⟩
theorem Sf.cons{place:Nat->Option (Nat×Nat)}{i off size:Nat}{v:Value}{vs:List Value}{parts:List (Nat×Value)}{x x':r.den}{u:s.den}(p:Path r s)(hp:place i=some (off,size))(ho:p.off=off)(hz:s.size=size)(hv:v.cells.toList=vs)(hr:cA F w s vs u)
 (h:Sf place F w r parts (p.set x u) x'):Sf place F w r ((i,v)::parts) x x':=fun es he=>by
 subst ho;subst hz;have hle:=p.le;have hl:=hr.length;rw[sd hp hv hl (by rw[he.length];omega)];exact h _ (he.put p hr)
end
end Go.Proofs.YtilaieogabgamaaGreatDoor
end
section
open _root_.Bool renaming and_eq_true->akm
open _root_.List renaming getElem?_eq_getElem->ai5,getElem?_eq_some_iff->ai7,getElem_append_left->ajf,getElem_append_right->ajn,getElem_of_mem->aji,mem_append->ajs,take_length->aju
open _root_.Nat renaming blt->ajX,le_refl->ai8
namespace Go.Proofs.YtilaieogabgamaaGreatDoor
open Go Go.RowKit Go.ChangeShapes Go.WideShapes Go.ChangeAt Go.Deep
def WF:(r:Row)->r.den->Prop
 | .int k,n=>k.min<=n/\n<=k.max
 | .bool,_=>True
 | .str,s=>s.size<=maxLen
 | .slice e,l=>l.length<=maxLen/\∀x∈l,WF e x
 | .jJ,_=>True
 | .nul _,_=>True
 | .map ..,_=>True
 | .pair a b,x=>WF a x.1/\WF b x.2
def cB:(r:Row)->r.den->Nat
 | .int _,_=>1
 | .bool,_=>1
 | .str,s=>s.size+1
 | .slice e,l=>(l.map (cB e)).sum+1
 | .jJ,_=>1
 | .nul _,_=>1
 | .map ..,_=>1
 | .pair a b,x=>cB a x.1+cB b x.2
theorem Ap:(r:Row)->(x:r.den)->0<cB r x
 | .int _,_=>by simp[cB]
 | .bool,_=>by simp[cB]
 | .str,s=>by simp[cB]
 | .slice e,l=>by simp[cB]
 | .jJ,_=>by simp[cB]
 | .nul _,_=>by simp[cB]
 | .map ..,_=>by simp[cB]
 | .pair a b,x=>by have:=Ap a x.1;simp[cB];omega
theorem oj{H:Type}:(l:List (DataW H))->Rows.uptoBulkAll l=(l.map Rows.uptoBulk).sum
 |[]=>by simp[Rows.uptoBulkAll]
 |a::l=>by simp[Rows.uptoBulkAll,oj l]
def here(w:World)(b:Nat):Prop:=b<w.heap.size
def fA(P:Program)(t:TypeId)(r:Row):Prop:=
 ∀(H:Type)(enc:TypeId×Value->H)(w:World)(spare:Nat->Bool)(held:Bool)(fuel:Nat)(cs:List Value)(x:DataW H×List MemPlace),DataW.trod enc P w 0 spare held fuel t cs=some x->
  ∃y:r.den,cA (here w) w r cs y/\WF r y/\cB r y<=Rows.uptoBulk x.1
def uq(P:Program)(fs:List Field)(r:Row)(off:Nat):Prop:=
 ∀(H:Type)(enc:TypeId×Value->H)(w:World)(spare:Nat->Bool)(held:Bool)(n:Nat)(cs:List Value)(xs:List (DataW H×List MemPlace)),xs.length=fs.length->
  (∀(i:Nat)(f:Field),fs[i]? =some f->DataW.trod enc P w 0 spare held n f.type ((cs.drop f.offset).take (P.cellsOf f.type))=xs[i]?)->off+r.size<=cs.length->
  ∃y:r.den,cA (here w) w r ((cs.drop off).take r.size) y/\WF r y/\cB r y<=Rows.uptoBulkAll (xs.map (·.1))
section
variable {P:Program} {t e:TypeId} {r a b:Row} {k:IntKind}
theorem Gy(ht:P.underlying t=some (.int k)):fA P t (.int k):=by
 intro H enc w spare held fuel cs x h;obtain⟨n,rfl,rfl,hn⟩:=DataW.trod_int ht h;exact⟨n,rfl,by simpa[Lit.wf,WF]using hn,by simp[cB,Rows.uptoBulk]⟩
theorem xx(ht:P.underlying t=some .string):fA P t .str:=by
 intro H enc w spare held fuel cs x h;obtain⟨s,rfl,rfl,hs⟩:=DataW.trod_string ht h;exact⟨s,rfl,hs,Nat.le_of_eq rfl⟩
theorem oC{α:Type}{p:Nat->α->Prop}:(n:Nat)->(∀i,i<n->∃x,p i x)->∃l:List α,l.length=n/\∀i(h:i<l.length),p i l[i]
 |0,_=>⟨[],rfl,fun i h=>absurd h (by simp)⟩
 |n+1,h=>by
  obtain⟨l,hl,hp⟩:=oC n fun i hi=>h i (by omega)
  obtain⟨x,hx⟩:=h n (by omega);refine⟨l++[x],by simp[hl],fun i hi=>?_⟩
  rcases Nat.lt_or_ge i l.length with al|hge
  .rw[ajf al];exact hp i al
  .obtain rfl:i=n:=by simp at hi;omega
   rw[ajn hge];simpa[hl]using hx
theorem fR(ht:P.underlying t=some (.slice e))(hs:P.cellsOf e=r.size)(he:fA P e r):fA P t (.slice r):=by
 intro H enc w spare held fuel cs x h
 rcases open_slice ht h with⟨rfl,rfl⟩|⟨ad,len,cap,m,n,D,Pl,rfl,_,hl,hm,Mj,rfl,hi⟩
 .exact⟨[],cA.nil _ _ _,⟨by simp[maxLen],fun x hx=>absurd hx (by simp)⟩,by simp[cB,Rows.uptoBulk]⟩
 .have hlm:len<=m:=by rw[Mj];split<;>omega
  have key:∀i,i<len->∃y:r.den,∃qZ,(qZ.length=r.size/\(∀j,j<r.size->w.cell? ((ad.add (i*r.size)).add j)=qZ[j]?))/\cA (here w) w r qZ y/\WF r y/\cB r y<=Rows.uptoBulk (D i):=by
   intro i gv;obtain⟨qZ,hc,htr⟩:=hi i (by omega);rw[hs]at hc;obtain⟨_,Aq,uo⟩:=World.cells?_some hc;obtain⟨y,h1,h2,h3⟩:=he H enc w spare held n qZ _ htr;exact⟨y,qZ,⟨Aq,uo⟩,h1,h2,h3⟩
  obtain⟨l,Ah,hp⟩:=oC len key;subst Ah;have nR:=r.size_pos;refine⟨l,⟨some ad,cap,rfl,hl,hm,fun i hi=>?_⟩,⟨by omega,fun x hx=>?_⟩,?_⟩
  .obtain⟨qZ,⟨Aq,uo⟩,hr,_,_⟩:=hp i hi;obtain⟨U4,⟨wQ,xy⟩,_⟩:=hp 0 (by omega);have h0:=xy 0 nR;rw[ai5 (by omega)]at h0;simp only[Nat.zero_mul,Addr.add,if_true]at h0
   have wR:ad.spot=none:=by
    cases wR:ad.spot with
    |none=>rfl
    |some q=>
     unfold World.cell? at h0;split at h0
     .simp[wR]at h0
     .cases h0
   obtain⟨bb,off,sp⟩:=ad;simp only at wR;subst wR;refine⟨bb,off,qZ,rfl,block_lt_of_cell h0,Aq,fun j u hu=>?_,hr⟩;have hj:j<qZ.length:=(ai7.1 hu).1;have:=uo j (by omega);rw[cI,cI]at this;rw[this,hu]
  .obtain⟨i,hi,rfl⟩:=aji hx;obtain⟨_,_,_,h2,_⟩:=hp i hi;exact h2
  .simp only[cB,Rows.uptoBulk,oj]
   have:∀(n:Nat),n<=l.length->((l.take n).map (cB r)).sum<=(((List.range n).map D).map Rows.uptoBulk).sum:=by
    intro n hn
    induction n with
    |zero=>simp
    |succ n ih=>
     have h1:=ih (by omega);obtain⟨_,_,_,_,h3⟩:=hp n (by omega);rw[List.take_succ_eq_append_getElem (by omega),List.range_succ];simp only[List.map_append,List.sum_append,List.map_cons,List.map_nil,List.sum_cons,List.sum_nil];omega
   have h1:=this l.length (ai8 _);rw[aju]at h1;omega
theorem eh{f:Field}{off:Nat}(ho:f.offset=off)(hc:P.cellsOf f.type=r.size)(he:fA P f.type r):uq P [f] r off:=by
 intro H enc w spare held n cs xs hl hx _;subst ho
 match xs,hl with
 |[x],_=>
  have h:=hx 0 f rfl;rw[hc]at h;obtain⟨y,h1,h2,h3⟩:=he H enc w spare held n _ x h;exact⟨y,h1,h2,by simpa[Rows.uptoBulkAll]using h3⟩
theorem bt{f:Field}{fs:List Field}{off:Nat}(ho:f.offset=off)(hc:P.cellsOf f.type=a.size)(he:fA P f.type a)(hr:uq P fs b (off+a.size)):uq P (f::fs) (.pair a b) off:=by
 intro H enc w spare held n cs xs hl hx hle;subst ho
 match xs,hl with
 |x::xs,hl=>
  have h:=hx 0 f rfl;rw[hc]at h;obtain⟨y,h1,h2,h3⟩:=he H enc w spare held n _ x h;simp only[Row.size]at hle;obtain⟨z,g1,g2,g3⟩:=hr H enc w spare held n cs xs (by simpa using hl) (fun i f' hf=>by simpa using hx (i+1) f' (by simpa using hf)) (by omega);refine⟨(y,z),⟨_,_,?_,h1,g1⟩,⟨h2,g2⟩,by simp only[cB,List.map_cons,Rows.uptoBulkAll];omega⟩;simp only[Row.size];rw[<-List.drop_drop,List.take_add]
theorem dE{fs:Array Field}(ht:P.underlying t=some (.struct fs))(hc:P.cellsOf t=r.size)(h:uq P fs.toList r 0):fA P t r:=by
 intro H enc w spare held fuel cs x hx;obtain⟨xs,n,_,rfl,hlen,Ji,hf⟩:=DataW.trod_struct ht hx;rw[hc]at hlen;obtain⟨y,h1,h2,h3⟩:=h H enc w spare held n cs xs (by simpa using Ji) (fun i f hi=>hf i f (by simpa using hi)) (by omega);rw[List.drop_zero,<-hlen,aju]at h1;exact⟨y,h1,h2,by simp only[Rows.uptoBulk];omega⟩
variable {H:Type} {enc:TypeId×Value->H} {w:World} {base:Nat} {spare:Nat->Bool} {held:Bool} {v:Value} {d:DataW H} {ps:List MemPlace}
theorem yD(ht:P.underlying t=some (.int k))(hv:Value.okWide P w .any base t v)(h:DataW.Trod enc P w 0 spare held t v d ps):∃n:Int,v= .int k n/\WF (.int k) n/\cB (.int k) n<=Rows.uptoBulk d:=by
 obtain⟨x,rfl,rfl,rfl,wx⟩:=open_int ht hv h;exact⟨x,rfl,by simpa[Lit.wf,WF]using wx,by simp[cB,Rows.uptoBulk]⟩
theorem CZ{fs:Array Field}(ht:P.underlying t=some (.struct fs))(ho:fA P t r)(hv:Value.okWide P w .any base t v)(h:DataW.Trod enc P w 0 spare held t v d ps):
 ∃(es:List Value)(x:r.den),v= .agg es.toArray/\cA (here w) w r es x/\WF r x/\cB r x<=Rows.uptoBulk d:=by
 obtain⟨cs,rfl,_⟩:=okWide_struct ht hv;obtain⟨fuel,hf⟩:=h;obtain⟨x,h1,h2,h3⟩:=ho H enc w spare held fuel _ _ hf;exact⟨cs.toList,x,by simp,by simpa[Value.cells]using h1,h2,h3⟩
theorem p6(hl:laidOutB P=true){W W':World}(hb:Below W.heap.size W W'){sp:Nat->Bool}:(ts:List TypeId)->(vs:List Value)->(ds:List (DataW H))->(ps:List MemPlace)->
 (∀t∈ts,(P.readableRec t&&ajX t P.types.size)=true)->DataW.TrodAll enc P W 0 (fun _=>true) true ts vs ds ps->(∀x∈ps,x.block<W.heap.size)->(∀x∈ps,sp x.block=true)->DataW.TrodAll enc P W' 0 sp true ts vs ds ps
 |[],[],[],_,_,h,_,_=>h
 |t::ts,v::vs,d::ds,ps,hr,h,al,wR=>by
  obtain⟨p,q,h1,h2,rfl⟩:=h;have ht:=hr t (by simp);simp only[akm,Nat.blt_eq]at ht
  exact⟨p,q,WideElems.Trod_stays hl ht.1 ht.2 h1 (fun x hx=>hb.same (al x (by simp[hx]))) (fun x hx=>wR x (by simp[hx])),
   p6 hl hb ts vs ds q (fun t ht=>hr t (by simp[ht])) h2 (fun x hx=>al x (by simp[hx])) (fun x hx=>wR x (by simp[hx])),rfl⟩
theorem wS{f:Func}{s:ChangeSpec}{apart fresh handsOn again:Bool}{W W':World}{args:Array Value}{v:Value}{ds gs:List (DataW H)}{before pa pv:List MemPlace}
 (hW:DataW.Whole enc P f.params.toList s.vars apart W args.toList ds gs before)
 (uO:∀(b:Nat)(sp:Nat->Bool)(hd:Bool),DataW.TrodAll enc P W' b sp hd f.resultTypes.toList (v.resultList f.resultTypes.size) (s.fn H (ds++gs)).results [])
 (ES:∀sp:Nat->Bool,(∀p∈before,sp p.block=true)->DataW.TrodAll enc P W' 0 sp true f.params.toList args.toList (s.fn H (ds++gs)).args pa)
 (Oc:∀sp:Nat->Bool,(∀p∈before,sp p.block=true)->DataW.TrodVars enc P W' sp s.vars (s.fn H (ds++gs)).vars pv)
 (RB:before=pa++pv)(hb:Below W.heap.size W W')
 (my:∀(j:Nat)(t:TypeId)(r:Value),f.resultTypes[j]? =some t->(v.resultList f.resultTypes.size)[j]? =some r->Value.okWide P W' .any 0 t r):
 s.post enc P f apart fresh handsOn again W args v W':=by
 have al:∀p∈before,p.block<W.heap.size:=fun p hp=>hW.lt p hp
 have hold:∀p∈before,(fun b=>decide (b<W.heap.size)) p.block=true:=fun p hp=>by simpa using al p hp
 refine⟨ds,gs,before,[],pa,pv,hW,uO _ _ _,ES _ hold,Oc _ hold,World.keptBut_mono (fun p hp=>⟨hp,?_⟩) (hb.frame (· ∈before)),fun _=>?_⟩
 .rw[RB,ajs]at hp;exact Or.inr hp
 .obtain⟨_,_,_,_,_,hz,hn⟩:=hW;refine⟨my,_,_,([]++pa)++pv,⟨[]++pa,pv,trodAll_append (ES _ (fun _ _=>rfl)) (uO _ _ _),Oc _ (fun _ _=>rfl),rfl,?_,?_⟩,?_⟩
  .intro b off hp
   have cc:MemPlace.cell b off∈before:=by rw[RB];simpa using hp
   rw[hb.frozen (al _ cc)];exact hz b off cc
  .intro ha;have:=hn ha;rw[RB]at this;simpa using this
  .intro p hp _;rw[RB];simpa using hp
end
end Go.Proofs.YtilaieogabgamaaGreatDoor
end
section
open _root_.List.cons renaming injEq->aka
open _root_.Nat renaming add_mul->aj4
open _root_.Option.some renaming inj->ai4
open _root_.Go.Value.slice renaming injEq->akr
namespace Go.Proofs.YtilaieogabgamaaGreatDoor
open Go Go.RowKit
def eR{α:Type}(l:List α)(a b:Int):Option (List α):=if 0<=a/\a<=b/\b<=l.length then some ((l.take b.toNat).drop a.toNat)else none
variable {F:Nat->Prop} {w:World} {r:Row}
theorem cA.cut{A:Option Addr}{cap:Nat}{l:List r.den}{a b:Nat}(h:cA F w (.slice r) [.slice A l.length cap] l)(h1:a<=b)(h2:b<=l.length):
 cA F w (.slice r) [sliced A a b cap r.size] ((l.take b).drop a):=by
 obtain⟨A',Jf,hv,hc,hm,hs⟩:=h;simp only[aka,akr,and_true,true_and]at hv;obtain⟨rfl,rfl⟩:=hv
 have hlen:((l.take b).drop a).length=b-a:=by simp;omega
 refine⟨_,cap-a,by rw[hlen];rfl,by omega,by omega,fun i hi=>?_⟩
 have gv:a+i<l.length:=by omega
 obtain⟨g,off,es,rfl,hF,qW,uJ,hr⟩:=hs (a+i) gv;refine⟨g,off+a*r.size,es,?_,hF,qW,fun j u hu=>?_,?_⟩
 .rw[if_neg (by omega),Option.map_some,cI]
 .rw[<-uJ j u hu]
  congr 2
  rw[aj4];omega
 .have:((l.take b).drop a)[i]=l[a+i]:=by simp
  rw[this];exact hr
section
variable {P:Program} {n:Nat} {ops:Array Oper} {K:(Nat->Value)->World->Prop} {rest:List Oper} {ρ:Nat->Value}
variable {d:Nat} {ty:TypeId} {pos:String} {aft:Array Edge} {x y z:Operand} {t e:TypeId}
theorem Mk{t e:TypeId}(ht:P.underlying t=some (.slice e)):P.underlying t=some (.slice (P.elem t)):=by
 simp[Program.elem,ht]
inductive O2(ρ:Nat->Value):Option Operand->Option Int->Prop
 |none:O2 ρ none none
 |some {x:Operand} {k:IntKind} {i:Int} (h:ev ρ x= .int k i):O2 ρ (some x) (some i)
theorem ur{ti:TypeInfo}{A:Option Addr}{len cap:Nat}{lo hi:Option Operand}{a b:Option Int}(ht:P.underlying t=some (.slice e))(gv:P.info? e=some ti)(hx:ev ρ x= .slice A len cap)
 (ha:O2 ρ lo a)(hb:O2 ρ hi b)(h0:0<=a.getD 0)(h1:a.getD 0<=b.getD len)(h2:b.getD len<=len)(hc:len<=cap):
 (execOp (ev ρ) ⟨some d, .slice t x lo hi none,ty,pos,aft,none⟩).run P w= .ok (.value (sliced A (a.getD 0).toNat (b.getD len).toNat cap ti.size)) w:=by
 have ET:=Mk ht
 have he:P.elem t=e:=by simp[Program.elem,ht]
 cases ha with
 |none=>
  cases hb with
  |none=>
   have:=run_slice_all (P:=P) (w:=w) t A len cap ET;simp[execOp,hx,run_sliceAt_slice (P:=P) w t _ _ _ _ ET,this,he,sizeOf,typeInfo,gv]
  |some hh=>
   rename_i xb kb ib;have:=run_slice_h (P:=P) (w:=w) t A len cap ET kb ib (by simpa using h1) (by simp at h2;omega);simp[execOp,hx,hh,run_sliceAt_slice (P:=P) w t _ _ _ _ ET,this,he,sizeOf,typeInfo,gv]
 |some hl=>
  rename_i xa ka ia
  cases hb with
  |none=>
   have:=run_slice_l (P:=P) (w:=w) t A len cap ET ka ia (by simpa using h0) (by simpa using h1);simp[execOp,hx,hl,run_sliceAt_slice (P:=P) w t _ _ _ _ ET,this,he,sizeOf,typeInfo,gv]
  |some hh=>
   rename_i xb kb ib;have:=run_slice_lh (P:=P) (w:=w) t A len cap ET ka kb ia ib (by simpa using h0) (by simpa using h1) (by simp at h2;omega);simp[execOp,hx,hl,hh,run_sliceAt_slice (P:=P) w t _ _ _ _ ET,this,he,sizeOf,typeInfo,gv]
theorem se{α:Type}{l m:List α}{a b:Int}(h:eR l a b=some m):∃p q:Nat,a=p/\b=q/\p<=q/\q<=l.length/\m=(l.take q).drop p:=by
 unfold eR at h;split at h
 case isFalse=>cases h
 rename_i hc;exact⟨a.toNat,b.toNat,by omega,by omega,by omega,by omega,(ai4 h).symm⟩
end
end Go.Proofs.YtilaieogabgamaaGreatDoor
end
section
namespace Go.Proofs.YtilaieogabgamaaGreatDoor
open Go Go.RowKit
abbrev ol:Row:= .int .i64
def EU:List (Nat×((r:Row)×r.den)):=[(2,⟨.pair ol (.pair ol (.pair ol (.pair ol (.pair ol (.pair ol (.pair ol (.pair ol (.pair ol (.pair ol (.pair ol ol)))))))))),(31,28,31,30,31,30,31,31,30,31,30,31)⟩)]
end Go.Proofs.YtilaieogabgamaaGreatDoor
end
section
namespace Go.Proofs.YtilaieogabgamaaGreatDoor
open Go Go.RowKit
inductive DR where
 |leaf (r:Row)
 |sl (T:TypeId) (d:DR)
 |pair (a b:DR)
@[reducible] def DR.row:DR->Row
  | .leaf r=>r
  | .sl _ d=> .slice d.row
  | .pair a b=> .pair a.row b.row
@[reducible] def DR.low:DR->Row
  | .leaf r=>r
  | .sl _ _=> .jJ
  | .pair a b=> .pair a.low b.low
theorem DR.size:(d:DR)->d.low.size=d.row.size
 | .leaf _=>rfl
 | .sl _ _=>rfl
 | .pair a b=>by show a.low.size+b.low.size=a.row.size+b.row.size;rw[a.size,b.size]
inductive fB:DR->DR->Type where
 |here {d:DR}:fB d d
 |fst {a b e:DR} (p:fB a e):fB (.pair a b) e
 |snd {a b e:DR} (p:fB b e):fB (.pair a b) e
def fB.lo:{d e:DR}->fB d e->Path d.low e.low
 |_,_, .here=> .here
 |_,_, .fst p=> .fst p.lo
 |_,_, .snd p=> .snd p.lo
def fB.hi:{d e:DR}->fB d e->Path d.row e.row
 |_,_, .here=> .here
 |_,_, .fst p=> .fst p.hi
 |_,_, .snd p=> .snd p.hi
def DR.path:(d:DR)->List Bool->Option ((e:DR)×fB d e)
 |d,[]=>some ⟨d, .here⟩
 | .pair a b,c::p=>match c with
   |false=>match a.path p with
    |some ⟨e,q⟩=>some ⟨e, .fst q⟩
    |none=>none
   |true=>match b.path p with
    |some ⟨e,q⟩=>some ⟨e, .snd q⟩
    |none=>none
 |_,_::_=>none
def jG(F:Nat->Prop)(w:World)(T:TypeId)(r:Row)(v:Value)(l:List r.den):Prop:=
 ∃xs,mu w 0 T r.size v l.length xs/\∀i(h:i<l.length),cA F w r ((xs.drop (i*r.size)).take r.size) l[i]
structure ni(Ss:Nat->Nat->Prop)(n:Nat)(m:Nat->Prop)(S:Nat->Prop):Prop where
 all:∀k,S k↔m k\/∃i,i<n/\Ss i k
 two:∀i j k,i<n->j<n->i≠j->Ss i k->¬Ss j k
 out:∀i k,i<n->Ss i k->¬m k
structure qU(A B S:Nat->Prop):Prop where
 all:∀k,S k↔A k\/B k
 off:∀k,A k->¬B k
def Gz{α:Type}(F:Nat->Prop)(w:World)(T:TypeId)(r:Row)(rel:Nat->r.den->α->(Nat->Prop)->Prop)(u:Value)(l:List α)(S:Nat->Prop):Prop:=
 ∃(lh:List r.den)(Ss:Nat->Nat->Prop),jG F w T r u lh/\lh.length=l.length/\(∀i(h1:i<lh.length)(h2:i<l.length),rel i lh[i] l[i] (Ss i))/\ni Ss l.length (bm u) S
def jH(F:Nat->Prop)(w:World):(d:DR)->d.low.den->d.row.den->(Nat->Prop)->Prop
 | .leaf _,x',x,S=>x'=x/\∀k,¬S k
 | .sl T d,u,l,S=>Gz F w T d.low (fun _=>jH F w d) u l S
 | .pair a b,x',x,S=>∃A B,jH F w a x'.1 x.1 A/\jH F w b x'.2 x.2 B/\qU A B S
def lp(F:Nat->Prop)(w:World):{d e:DR}->fB d e->d.low.den->d.row.den->(Nat->Prop)->Prop
 |_,_, .here,_,_,S=>∀k,¬S k
 |_,_, .fst (b:=b) p,x',x,S=>∃A B,lp F w p x'.1 x.1 A/\jH F w b x'.2 x.2 B/\qU A B S
 |_,_, .snd (a:=a) p,x',x,S=>∃A B,jH F w a x'.1 x.1 A/\lp F w p x'.2 x.2 B/\qU A B S
section
variable {F F':Nat->Prop} {w w':World} {T:TypeId} {S:Nat->Prop}
theorem jG.to{r:Row}{v:Value}{l:List r.den}(h:jG F w T r v l)(hn:∀k,bm v k->¬F k):iE 0 F w T r v l:=⟨hn,h⟩
theorem jG.keep{r:Row}{v:Value}{l:List r.den}(h:jG F w T r v l)(hs:Step F w F' w')(hb:∀k,bm v k->w'.heap[k]? =w.heap[k]?):jG F' w' T r v l:=by
 obtain⟨xs,⟨R6,Jd⟩,h3⟩:=h;refine⟨xs,⟨R6,?_⟩,fun i hi=>(h3 i hi).step hs⟩
 rcases Jd with h2|⟨gg,o0,cap,cur,rfl,p5,hg,rest⟩
 .exact .inl h2
 .exact .inr ⟨gg,o0,cap,cur,rfl,p5,(hb gg rfl).trans hg,rest⟩
theorem jG.lt{r:Row}{v:Value}{l:List r.den}(h:jG F w T r v l):∀k,bm v k->k<w.heap.size:=by
 obtain⟨xs,h,_⟩:=h
 exact fun k hk=>(h.lt k hk).2
theorem jG.one{r:Row}{v:Value}{l:List r.den}(h:jG F w T r v l):v.oneCell'=true:=by
 obtain⟨xs,⟨_,h⟩,_⟩:=h
 rcases h with⟨rfl,_⟩|⟨gg,o0,cap,cur,rfl,_⟩<;>rfl
theorem jG.nil(F:Nat->Prop)(w:World)(T:TypeId)(r:Row):jG F w T r (.slice none 0 0) []:=(iE.nil 0 F w T r).2
theorem qU.left{A B:Nat->Prop}(h:qU A B S):∀k,A k->S k:=fun k hk=>(h.all k).2 (.inl hk)
theorem qU.right{A B:Nat->Prop}(h:qU A B S):∀k,B k->S k:=fun k hk=>(h.all k).2 (.inr hk)
theorem ni.bm{Ss:Nat->Nat->Prop}{n:Nat}{m:Nat->Prop}(h:ni Ss n m S):∀k,m k->S k:=fun k hk=>(h.all k).2 (.inl hk)
theorem ni.part{Ss:Nat->Nat->Prop}{n:Nat}{m:Nat->Prop}(h:ni Ss n m S){i:Nat}(hi:i<n):∀k,Ss i k->S k:=fun k hk=>(h.all k).2 (.inr ⟨i,hi,hk⟩)
theorem Gz.mono{α:Type}{r:Row}{rel Si:Nat->r.den->α->(Nat->Prop)->Prop}{u:Value}{l:List α}(h:Gz F w T r rel u l S)(hs:Step F w F' w')(hb:∀k,S k->w'.heap[k]? =w.heap[k]?)
 (hr:∀i x'(hi:i<l.length)A,(∀k,A k->S k)->rel i x' l[i] A->Si i x' l[i] A):Gz F' w' T r Si u l S:=by
 obtain⟨lh,Ss,h1,h2,h3,h4⟩:=h;exact⟨lh,Ss,h1.keep hs fun k hk=>hb k (h4.bm k hk),h2,fun i a b=>hr i _ b _ (h4.part b) (h3 i a b),h4⟩
theorem jH.keep(hs:Step F w F' w'):{d:DR}->{x':d.low.den}->{x:d.row.den}->{S:Nat->Prop}->jH F w d x' x S->(∀k,S k->w'.heap[k]? =w.heap[k]?)->jH F' w' d x' x S
 | .leaf _,_,_,_,h,_=>h
 | .sl T d,u,l,S,h,hb=>Gz.mono (show Gz F w T d.low _ u l S from h) hs hb fun i x' hi A hA hr=>jH.keep hs hr fun k hk=>hb k (hA k hk)
 | .pair a b,_,_,_,h,hb=>by
   obtain⟨A,B,h1,h2,h3⟩:=h;exact⟨A,B,h1.keep hs fun k hk=>hb k (h3.left k hk),h2.keep hs fun k hk=>hb k (h3.right k hk),h3⟩
theorem lp.keep(hs:Step F w F' w'):{d e:DR}->{p:fB d e}->{x':d.low.den}->{x:d.row.den}->{S:Nat->Prop}->lp F w p x' x S->(∀k,S k->w'.heap[k]? =w.heap[k]?)->lp F' w' p x' x S
 |_,_, .here,_,_,_,h,_=>h
 |_,_, .fst p,_,_,_,h,hb=>by
  obtain⟨A,B,h1,h2,h3⟩:=h;exact⟨A,B,lp.keep hs h1 fun k hk=>hb k (h3.left k hk),h2.keep hs fun k hk=>hb k (h3.right k hk),h3⟩
 |_,_, .snd p,_,_,_,h,hb=>by
  obtain⟨A,B,h1,h2,h3⟩:=h;exact⟨A,B,h1.keep hs fun k hk=>hb k (h3.left k hk),lp.keep hs h2 fun k hk=>hb k (h3.right k hk),h3⟩
theorem jH.lt:{d:DR}->{x':d.low.den}->{x:d.row.den}->{S:Nat->Prop}->jH F w d x' x S->∀k,S k->k<w.heap.size
 | .leaf _,_,_,_,h,k,hk=>absurd hk (h.2 k)
 | .sl T d,u,l,S,h,k,hk=>by
   obtain⟨lh,Ss,h1,h2,h3,h4⟩:=h
   rcases(h4.all k).1 hk with hm|⟨i,hi,hm⟩
   .exact h1.lt k hm
   .exact jH.lt (h3 i (by omega) hi) k hm
 | .pair a b,_,_,_,h,k,hk=>by
   obtain⟨A,B,h1,h2,h3⟩:=h
   rcases(h3.all k).1 hk with hm|hm
   .exact jH.lt h1 k hm
   .exact jH.lt h2 k hm
theorem jH.freeze:{d:DR}->{cs:List Value}->{x':d.low.den}->{x:d.row.den}->{S:Nat->Prop}->jH F w d x' x S->(∀k,S k->¬F k)->cA F w d.low cs x'->cA (fun b=>F b\/S b) w d.row cs x
 | .leaf _,_,_,_,S,h,_,hr=>by
   obtain⟨rfl,_⟩:=h;exact hr.step (Step.freeze F w S)
 | .sl T d,cs,u,l,S,h,hn,hr=>by
   obtain⟨lh,Ss,⟨xs,hx,Od⟩,h2,h3,h4⟩:=h;obtain⟨rfl,_⟩:=hr
   have C0:iE 0 (fun b=>F b\/∃i,i<l.length/\Ss i b) w T d.row u l:=by
    refine⟨fun k hk hF=>?_,xs,?_,fun i hi=>?_⟩
    .rcases hF with hF|⟨i,hi,hm⟩
     .exact hn k (h4.bm k hk) hF
     .exact h4.out i k hi hm hk
    .rw[<-d.size,<-h2];exact hx
    .have gv:i<lh.length:=by omega
     have:=jH.freeze (h3 i gv hi) (fun k hk=>hn k (h4.part hi k hk)) (Od i gv);rw[<-d.size]
     exact this.step fun b hb=>⟨hb.imp id fun hb=>⟨i,hi,hb⟩,rfl⟩
   exact C0.freeze.step (r:= .slice d.row) fun b hb=>⟨by
    rcases hb with(hb|⟨i,hi,hb⟩)|hb
    .exact .inl hb
    .exact .inr (h4.part hi b hb)
    .exact .inr (h4.bm b hb),rfl⟩
 | .pair a b,_,_,_,S,h,hn,hr=>by
   obtain⟨A,B,h1,h2,h3⟩:=h;obtain⟨c1,c2,rfl,r1,r2⟩:=hr;exact⟨c1,c2,rfl,(jH.freeze h1 (fun k hk=>hn k (h3.left k hk)) r1).step fun b hb=>⟨hb.imp id (h3.left b),rfl⟩,(jH.freeze h2 (fun k hk=>hn k (h3.right k hk)) r2).step fun b hb=>⟨hb.imp id (h3.right b),rfl⟩⟩
theorem jH.out:{d e:DR}->(p:fB d e)->{x':d.low.den}->{x:d.row.den}->{S:Nat->Prop}->jH F w d x' x S->∃A B,jH F w e (p.lo.get x') (p.hi.get x) A/\lp F w p x' x B/\qU A B S
 |_,_, .here,_,_,S,h=>⟨S,fun _=>False,h,fun _ h=>h,⟨fun k=>by simp,fun _ _ h=>h⟩⟩
 |_,_, .fst p,_,_,S,h=>by
  obtain⟨A,B,h1,h2,h3⟩:=h;obtain⟨A1,A2,g1,g2,g3⟩:=jH.out p h1;refine⟨A1,fun k=>A2 k\/B k,g1,⟨A2,B,g2,h2,fun k=>Iff.rfl,fun k hk=>h3.off k (g3.right k hk)⟩,fun k=>?_,fun k hk hh=>?_⟩
  .rw[h3.all,g3.all,or_assoc]
  .exact hh.elim (g3.off k hk) (h3.off k (g3.left k hk))
 |_,_, .snd p,_,_,S,h=>by
  obtain⟨A,B,h1,h2,h3⟩:=h;obtain⟨B1,B2,g1,g2,g3⟩:=jH.out p h2;refine⟨B1,fun k=>A k\/B2 k,g1,⟨A,B2,h1,g2,fun k=>Iff.rfl,fun k hk hh=>h3.off k hk (g3.right k hh)⟩,fun k=>?_,fun k hk hh=>?_⟩
  .rw[h3.all,g3.all];constructor<;>(intro h;rcases h with h|h|h<;>simp[h])
  .exact hh.elim (fun hh=>h3.off k hh (g3.left k hk)) (g3.off k hk)
theorem lp.put:{d e:DR}->(p:fB d e)->{x':d.low.den}->{x:d.row.den}->{y':e.low.den}->{y:e.row.den}->{A B S:Nat->Prop}->lp F w p x' x B->jH F w e y' y A->qU A B S->jH F w d (p.lo.set x' y') (p.hi.set x y) S
 |_,_, .here,_,_,y',y,A,B,S,h,hy,h3=>by
  have:A=S:=by
   funext k;exact propext ⟨fun hk=>h3.left k hk,fun hk=>((h3.all k).1 hk).elim id fun hb=>absurd hb (h k)⟩
  subst this;exact hy
 |_,_, .fst p,x',x,y',y,A,B,S,h,hy,h3=>by
  obtain⟨A2,B2,g1,g2,g3⟩:=h
  have t1:qU A A2 (fun k=>A k\/A2 k):=⟨fun _=>Iff.rfl,fun k hk h2=>h3.off k hk (g3.left k h2)⟩
  refine⟨fun k=>A k\/A2 k,B2,lp.put p g1 hy t1,g2,fun k=>?_,fun k hk h2=>?_⟩
  .rw[h3.all,g3.all,or_assoc]
  .exact hk.elim (fun hk=>h3.off k hk (g3.right k h2)) fun hk=>g3.off k hk h2
 |_,_, .snd p,x',x,y',y,A,B,S,h,hy,h3=>by
  obtain⟨A2,B2,g1,g2,g3⟩:=h
  have t1:qU A B2 (fun k=>A k\/B2 k):=⟨fun _=>Iff.rfl,fun k hk h2=>h3.off k hk (g3.right k h2)⟩
  refine⟨A2,fun k=>A k\/B2 k,g1,lp.put p g2 hy t1,fun k=>?_,fun k hk h2=>?_⟩
  .rw[h3.all,g3.all];constructor<;>(intro h;rcases h with h|h|h<;>simp[h])
  .exact h2.elim (fun h2=>h3.off k h2 (g3.left k hk)) fun h2=>g3.off k hk h2
theorem lp.set:{d e:DR}->(p:fB d e)->{x':d.low.den}->{x:d.row.den}->{S:Nat->Prop}->(y':e.low.den)->(y:e.row.den)->lp F w p x' x S->lp F w p (p.lo.set x' y') (p.hi.set x y) S
 |_,_, .here,_,_,_,_,_,h=>h
 |_,_, .fst p,_,_,_,y',y,h=>by
  obtain⟨A,B,h1,h2,h3⟩:=h;exact⟨A,B,h1.set p y' y,h2,h3⟩
 |_,_, .snd p,_,_,_,y',y,h=>by
  obtain⟨A,B,h1,h2,h3⟩:=h;exact⟨A,B,h1,h2.set p y' y,h3⟩
end
end Go.Proofs.YtilaieogabgamaaGreatDoor
end
