/- Joined texts: Base Mem Own More Lit Open Cut Glob Deep. -/
import Derived.WalkKit
import Derived.WalkSpells
import Derived.WalkLawsBesides
import Derived.LoopN
import Derived.Deep.Draws
import Derived.Deep.Quiet
import Derived.Maps.AppendAt
import Derived.OwnWalk
import Derived.KernelRfl
import Derived.MapKept
import Derived.Laws.StructEq
import Derived.Test.YtmihpkfkbfgigaaGreatDoorRows
import Derived.ProofKit
import Derived.OpenShut
import Derived.JoinedCond
import Derived.Deep.Slices
import Derived.Laws.Slices
section
open _root_.Array renaming getD_eq_getD_getElem?->aj2,getElem?_eq_getElem->ajT
open _root_.Classical renaming propDecidable->akz
open _root_.List renaming getElem?_append_left->ajQ,getElem?_append_right->aj6,getElem?_eq_getElem->ajl,getElem?_eq_some_iff->ajn,mem_append->ajL
open _root_.Nat renaming add_assoc->akq,beq->aju,blt->akf,eq_of_beq_eq_true->akb,le_refl->ajo,lt_of_lt_of_le->aj7
open _root_.Option.some renaming inj->ajk
open _root_.Go.Region renaming wanted->akR
open _root_.Go.Value renaming oneCell'->akJ
namespace Go.Proofs.YtmihpkfkbfgigaaGreatDoor
open Go Go.RowKit
inductive II where
 |map
 |ptr
 |func
def II.val:II->Value
 | .map=> .map none
 | .ptr=> .pointer none
 | .func=> .nilFunc
theorem II.one(k:II):k.val.oneCell'=true:=by cases k<;>simp[II.val,akJ]
inductive Row where
 |int (k:IntKind)
 |bool
 |str
 |slice (e:Row)
 |jE
 |nul (k:II)
 |map (K:Row) (agg:Bool) (V:Row)
 |pair (a b:Row)
@[reducible] def Row.den:Row->Type
  | .int _=>Int
  | .bool=>Bool
  | .str=>ByteArray
  | .slice e=>List e.den
  | .jE=>Value
  | .nul _=>Unit
  | .map K _ V=>List (K.den×V.den)
  | .pair a b=>a.den×b.den
noncomputable instance Row.decEq:(r:Row)->DecidableEq r.den
 | .int _=>inferInstanceAs (DecidableEq Int)
 | .bool=>inferInstanceAs (DecidableEq Bool)
 | .str=>inferInstanceAs (DecidableEq ByteArray)
 | .slice e=>have:=Row.decEq e;inferInstanceAs (DecidableEq (List e.den))
 | .jE=>fun a b=>akz (a=b)
 | .nul _=>inferInstanceAs (DecidableEq Unit)
 | .map K _ V=>have:=Row.decEq K;have:=Row.decEq V;inferInstanceAs (DecidableEq (List (K.den×V.den)))
 | .pair a b=>have:=Row.decEq a;have:=Row.decEq b;inferInstanceAs (DecidableEq (a.den×b.den))
@[simp] def Row.size:Row->Nat
  | .pair a b=>a.size+b.size
  |_=>1
theorem Row.size_pos:(r:Row)->0<r.size
 | .pair a b=>by have:=Row.size_pos a;simp;omega
 | .int _| .bool| .str| .slice _| .jE| .nul _| .map .. =>by simp
def nS:(K:Row)->K.den->Option Value
 | .int k,n=>some (.int k n)
 | .bool,b=>some (.bool b)
 | .str,s=>some (.string s)
 |_,_=>none
def cD(F:Nat->Prop)(w:World):(r:Row)->List Value->r.den->Prop
 | .int k,cs,n=>cs=[.int k n]
 | .bool,cs,b=>cs=[.bool b]
 | .str,cs,s=>cs=[.string s]
 | .slice e,cs,l=>∃A cap,cs=[.slice A l.length cap]/\l.length<=cap/\cap<=maxLen/\
     ∀i(h:i<l.length),∃b off es,A=some ⟨b,off,none⟩/\F b/\es.length=e.size/\
      (∀j u,es[j]? =some u->w.cell? ⟨b,off+i*e.size+j,none⟩=some u)/\cD F w e es l[i]
 | .jE,cs,v=>cs=[v]/\∃A m c,v= .slice A m c
 | .nul k,cs,_=>cs=[k.val]
 | .map K agg V,cs,l=>∃v,cs=[v]/\((v= .map none/\l=[])\/∃b es clock,v= .map (some b)/\F b/\w.heap[b]? =some (.map es clock)/\MapKept.Stamped es clock/\es.size=l.length/\
     ∀i(h:i<l.length),∃(e:MapEntry)(cs:List Value),es[i]? =some e/\nS K l[i].1=some e.key/\cD F w V cs l[i].2/\e.val=(bif agg then .agg cs.toArray else cs.headD undef)/\(agg=false->cs=[e.val]))
 | .pair a b,cs,d=>∃c1 c2,cs=c1++c2/\cD F w a c1 d.1/\cD F w b c2 d.2
theorem cD.length{F:Nat->Prop}{w:World}:{r:Row}->{cs:List Value}->{d:r.den}->cD F w r cs d->cs.length=r.size
 | .int _,_,_,h=>by rw[show _=_ from h];rfl
 | .bool,_,_,h=>by rw[show _=_ from h];rfl
 | .str,_,_,h=>by rw[show _=_ from h];rfl
 | .slice _,_,_,h=>by obtain⟨A,cap,h,_⟩:=h;rw[h];rfl
 | .jE,_,_,h=>by rw[h.1];rfl
 | .nul _,_,_,h=>by rw[show _=_ from h];rfl
 | .map ..,_,_,h=>by obtain⟨v,rfl,_⟩:=h;rfl
 | .pair a b,_,_,h=>by
   obtain⟨c1,c2,rfl,h1,h2⟩:=h;simp[h1.length,h2.length]
theorem cD.je{F:Nat->Prop}{w:World}:{r:Row}->{cs:List Value}->{d:r.den}->cD F w r cs d->∀u∈cs,u.oneCell'=true
 | .int _,_,_,h=>by rw[show _=_ from h];simp[akJ]
 | .bool,_,_,h=>by rw[show _=_ from h];simp[akJ]
 | .str,_,_,h=>by rw[show _=_ from h];simp[akJ]
 | .slice _,_,_,h=>by obtain⟨A,cap,rfl,_⟩:=h;simp[akJ]
 | .jE,_,_,h=>by obtain⟨rfl,A,m,c,rfl⟩:=h;simp[akJ]
 | .nul k,_,_,h=>by rw[show _=_ from h];simp[k.one]
 | .map ..,_,_,h=>by
   obtain⟨v,rfl,h⟩:=h
   rcases h with⟨rfl,_⟩|⟨b,es,clock,rfl,_⟩<;>simp[akJ]
 | .pair a b,_,_,h=>by
   obtain⟨c1,c2,rfl,h1,h2⟩:=h;intro u hu
   rcases ajL.1 hu with h'|h'
   .exact h1.je u h'
   .exact h2.je u h'
def Step(F:Nat->Prop)(w:World)(F':Nat->Prop)(w':World):Prop:=∀b,F b->F' b/\w'.heap[b]? =w.heap[b]?
theorem cD.step{F F':Nat->Prop}{w w':World}(ho:Step F w F' w'):{r:Row}->{cs:List Value}->{d:r.den}->cD F w r cs d->cD F' w' r cs d
 | .int _,_,_,h=>h
 | .bool,_,_,h=>h
 | .str,_,_,h=>h
 | .slice e,_,l,h=>by
   obtain⟨A,cap,hc,h1,h2,h3⟩:=h;refine⟨A,cap,hc,h1,h2,fun i hi=>?_⟩;obtain⟨b,off,es,hA,hb,qX,uO,hr⟩:=h3 i hi;exact⟨b,off,es,hA,(ho b hb).1,qX,fun j u hu=>(World.cell?_of_block (ho b hb).2).trans (uO j u hu),hr.step ho⟩
 | .jE,_,_,h=>h
 | .nul _,_,_,h=>h
 | .map K agg V,_,l,h=>by
   obtain⟨v,hv,h⟩:=h;refine⟨v,hv,h.imp id fun⟨b,es,clock,h1,h2,h3,h4,h5,h6⟩=>⟨b,es,clock,h1,(ho b h2).1,(ho b h2).2.trans h3,h4,h5,fun i hi=>?_⟩⟩;obtain⟨e,cs,g1,g2,g3,g4⟩:=h6 i hi;exact⟨e,cs,g1,g2,g3.step ho,g4⟩
 | .pair a b,_,_,h=>by
   obtain⟨c1,c2,hc,h1,h2⟩:=h;exact⟨c1,c2,hc,h1.step ho,h2.step ho⟩
def At(F:Nat->Prop)(w:World)(r:Row)(b off:Nat)(x:r.den):Prop:=
 ∃es,es.length=r.size/\(∀j u,es[j]? =some u->w.cell? ⟨b,off+j,none⟩=some u)/\cD F w r es x
theorem At.fst{F:Nat->Prop}{w:World}{r s:Row}{b off:Nat}{x:(Row.pair r s).den}(h:At F w (.pair r s) b off x):At F w r b off x.1:=by
 obtain⟨es,hl,hc,c1,c2,rfl,h1,h2⟩:=h
 exact⟨c1,h1.length,fun j u hu=>hc j u (by
  rw[ajQ]
  .exact hu
  .exact(ajn.1 hu).1),h1⟩
theorem At.snd{F:Nat->Prop}{w:World}{r s:Row}{b off:Nat}{x:(Row.pair r s).den}(h:At F w (.pair r s) b off x)(k:Nat)(hk:k=r.size):At F w s b (off+k) x.2:=by
 obtain⟨es,hl,hc,c1,c2,rfl,h1,h2⟩:=h;subst hk
 exact⟨c2,h2.length,fun j u hu=>by
  have:=hc (r.size+j) u (by
   rw[aj6 (by rw[h1.length];omega),h1.length];rw[show r.size+j-r.size=j from by omega]
   exact hu)
  rw[akq]
  exact this,h2⟩
theorem cD.nil(F:Nat->Prop)(w:World)(e:Row):cD F w (.slice e) [.slice none 0 0] []:=⟨none,0,rfl,ajo _,by simp[maxLen],fun i hi=>absurd hi (by simp)⟩
theorem cD.C5{F:Nat->Prop}{w:World}{e:Row}{v:Value}{l:List e.den}(h:cD F w (.slice e) [v] l):
 ∃A cap,v= .slice A l.length cap/\l.length<=cap/\cap<=9223372036854775807:=by
 obtain⟨A,cap,h1,h2,h3,_⟩:=h;exact⟨A,cap,by simpa using h1,h2,h3⟩
structure St(w0:World)(F0:Nat->Prop)(w:World)(F:Nat->Prop):Prop where
 below:Below w0.heap.size w0 w
 le:∀b,F0 b->F b
 new:∀b,F b->F0 b\/w0.heap.size<=b
 lt:∀b,F b->b<w.heap.size
theorem St.refl{w:World}{F:Nat->Prop}(h:∀b,F b->b<w.heap.size):St w F w F:=⟨Below.refl _ _,fun _ h=>h,fun _ h=> .inl h,h⟩
theorem St.trans{w0 w1 w2:World}{F0 F1 F2:Nat->Prop}(h:St w0 F0 w1 F1)(k:St w1 F1 w2 F2):St w0 F0 w2 F2:=
 ⟨h.below.trans (k.below.mono h.below.size),fun b hb=>k.le b (h.le b hb),fun b hb=>by
   rcases k.new b hb with h1|h1
   .exact h.new b h1
   .exact .inr (Nat.le_trans h.below.size h1),k.lt⟩
theorem St.step{w0 w:World}{F0 F:Nat->Prop}(h:St w0 F0 w F)(h0:∀b,F0 b->b<w0.heap.size):Step F0 w0 F w:=fun b hb=>⟨h.le b hb,h.below.block b (h0 b hb)⟩
theorem St.drew{w0 w:World}{F0 F:Nat->Prop}(h:St w0 F0 w F):St w0 F0 w.drew F:=⟨h.below.drew,h.le,h.new,h.lt⟩
theorem St.alloc{w0 w:World}{F0 F:Nat->Prop}(h:St w0 F0 w F)(o:Obj):St w0 F0 (w.alloc o) F:=
 ⟨h.below.alloc h.below.size o,h.le,h.new,fun b hb=>by have:=h.lt b hb;simp;omega⟩
theorem St.freeze{w0 w:World}{F0 F:Nat->Prop}(h:St w0 F0 w F)(G:Nat->Prop)(h1:∀b,G b->w0.heap.size<=b/\b<w.heap.size):St w0 F0 w (fun b=>F b\/G b):=
 ⟨h.below,fun b hb=> .inl (h.le b hb),fun b hb=>by
   rcases hb with hb|hb
   .exact h.new b hb
   .exact .inr (h1 b hb).1,fun b hb=>by
   rcases hb with hb|hb
   .exact h.lt b hb
   .exact(h1 b hb).2⟩
theorem St.back{w0 w1 w2:World}{F0 F1 F2 F3:Nat->Prop}(h:St w0 F0 w1 F1)(k:St w1 F2 w2 F3):St w0 F0 w2 F1:=
 ⟨h.below.trans (k.below.mono h.below.size),h.le,h.new,fun b hb=>aj7 (h.lt b hb) k.below.size⟩
theorem Step.refl(F:Nat->Prop)(w:World):Step F w F w:=fun _ h=>⟨h,rfl⟩
theorem Step.trans{F F1 F2:Nat->Prop}{w w1 w2:World}(h:Step F w F1 w1)(k:Step F1 w1 F2 w2):Step F w F2 w2:=fun b hb=>⟨(k b (h b hb).1).1,(k b (h b hb).1).2.trans (h b hb).2⟩
theorem Step.drew(F:Nat->Prop)(w:World):Step F w F w.drew:=fun _ h=>⟨h,rfl⟩
theorem Step.alloc{F:Nat->Prop}{w:World}(h:∀b,F b->b<w.heap.size)(o:Obj):Step F w F (w.alloc o):=fun b hb=>⟨hb,Below.heap_alloc w o b (h b hb)⟩
theorem Step.freeze(F:Nat->Prop)(w:World)(G:Nat->Prop):Step F w (fun b=>F b\/G b) w:=fun _ h=>⟨.inl h,rfl⟩
structure Fr(n:Nat)(a:Act)(ρ:Nat->Value):Prop where
 size:a.tmps.size=n
 defers:a.defers=[]
 get:∀t,a.tmps.getD t undef=ρ t
def C6(ρ:Nat->Value)(d:Nat)(v:Value):Nat->Value:=fun t=>bif aju t d then v else ρ t
def ev(ρ:Nat->Value):Operand->Value
 | .tmp t=>ρ t
 | .const v=>v
 | .global g=> .pointer (some ⟨g,0,none⟩)
 | .func f=> .func (.func f) #[] #[]
theorem Fr.eval{n:Nat}{a:Act}{ρ:Nat->Value}(h:Fr n a ρ):a.eval=ev ρ:=by
 funext x
 cases x with
 |tmp t=>exact h.get t
 |const v=>rfl
 |global g=>rfl
 |func f=>rfl
theorem Fr.put{n:Nat}{a:Act}{ρ:Nat->Value}(h:Fr n a ρ){d:Nat}(hd:akf d n=true)(v:Value):Fr n (a.put (some d) v) (C6 ρ d v):=by
 have ao:d<n:=by simpa[Nat.blt_eq]using hd
 refine⟨by simpa[Act.put]using h.size,by simpa[Act.put]using h.defers,fun t=>?_⟩;have hs:=h.size;have hg:=h.get t;simp only[Act.put,aj2,Array.getElem?_setIfInBounds]at hg⊢;unfold C6;by_cases ht:t=d
 .subst ht;simp[hs,ao]
 .have bP:¬d=t:=fun e=>ht e.symm
  have hb:aju t d=false:=by
   cases C7:aju t d with
   |false=>rfl
   |true=>exact absurd (akb C7) ht
  simp[bP,hb,hg]
def wpS(P:Program)(n:Nat)(ops:Array Oper)(K:(Nat->Value)->World->Prop)(l:List Oper)(ρ:Nat->Value)(w:World):Prop:=
 ∀(Q:Exit->Act->World->Prop)(a:Act),Fr n a ρ->(∀a' b8 w',Fr n a' b8->K b8 w'->Q .normal a' w')->wpList P ops Q l a w
section
variable {P:Program} {n:Nat} {ops:Array Oper} {K:(Nat->Value)->World->Prop} {rest:List Oper} {ρ:Nat->Value} {w:World}
theorem Mu(h:K ρ w):wpS P n ops K [] ρ w:=fun _ _ hf hk=>hk _ _ _ hf h
def Pure(P:Program)(ρ:Nat->Value)(o:Oper)(v:Value):Prop:=∀w,(execOp (ev ρ) o).run P w= .ok (.value v) w
theorem nT{a:Act}(hf:Fr n a ρ){j d:Nat}{b:Bool}(hj:(ops[j]?).bind (·.dst)=some d)(hd:akf d n=true)(hb:ρ d= .bool b):yielded ops a.tmps j=some b:=by
 have ao:d<n:=by simpa[Nat.blt_eq]using hd
 have hg:=hf.get d;have hs:=hf.size;rw[hb]at hg
 have:a.tmps[d]? =some (.bool b):=by
  rw[aj2]at hg;rw[ajT (by omega)]at hg⊢;simpa using hg
 unfold yielded;rw[hj];simp[this]
theorem Ps{dst:Option Nat}{op:Op}{ty:TypeId}{pos:String}{aft:Array Edge}{j:Nat}{b:Bool}(d:Nat)(hj:(ops[j]?).bind (·.dst)=some d)(hd:akf d n=true)(hb:ρ d= .bool b)
 (h:wpS P n ops K (⟨dst,op,ty,pos,aft,none⟩::rest) ρ w):wpS P n ops K (⟨dst,op,ty,pos,aft,some (j,b)⟩::rest) ρ w:=
 fun Q a hf hk=>by
  have:=h Q a hf hk;unfold wpList at this⊢;rw[if_pos (by simp[akR])]at this;rw[if_pos (by simp[akR,nT hf hj hd hb])];exact this
theorem Mv{d':Nat}{op:Op}{ty:TypeId}{pos:String}{aft:Array Edge}{j:Nat}{b b':Bool}(d:Nat)(hj:(ops[j]?).bind (·.dst)=some d)(hd:akf d n=true)(hb:ρ d= .bool b')(bP:b'≠b)(xq:akf d' n=true)
 (h:wpS P n ops K rest (C6 ρ d' undef) w):wpS P n ops K (⟨some d',op,ty,pos,aft,some (j,b)⟩::rest) ρ w:=
 fun Q a hf hk=>by
  have:=h Q _ (hf.put xq undef) hk;unfold wpList;rw[if_neg (by simp[akR,nT hf hj hd hb,bP])];exact this
theorem yE{op:Op}{ty:TypeId}{pos:String}{aft:Array Edge}{j:Nat}{b b':Bool}(d:Nat)(hj:(ops[j]?).bind (·.dst)=some d)(hd:akf d n=true)(hb:ρ d= .bool b')(bP:b'≠b)
 (h:wpS P n ops K rest ρ w):wpS P n ops K (⟨none,op,ty,pos,aft,some (j,b)⟩::rest) ρ w:=
 fun Q a hf hk=>by
  have:=h Q _ hf hk;unfold wpList;rw[if_neg (by simp[akR,nT hf hj hd hb,bP])];exact this
theorem m8{a:Act}(hf:Fr n a ρ){j d:Nat}(hj:(ops[j]?).bind (·.dst)=some d)(hd:akf d n=true)(hb:ρ d=undef):yielded ops a.tmps j=none:=by
 have ao:d<n:=by simpa[Nat.blt_eq]using hd
 have hg:=hf.get d;have hs:=hf.size;rw[hb]at hg
 have:a.tmps[d]? =some undef:=by
  rw[aj2]at hg;rw[ajT (by omega)]at hg⊢;simpa using hg
 unfold yielded;rw[hj];simp[this,undef]
theorem IZ{d':Nat}{op:Op}{ty:TypeId}{pos:String}{aft:Array Edge}{j:Nat}{b:Bool}(d:Nat)(hj:(ops[j]?).bind (·.dst)=some d)(hd:akf d n=true)(hb:ρ d=undef)(xq:akf d' n=true)
 (h:wpS P n ops K rest (C6 ρ d' undef) w):wpS P n ops K (⟨some d',op,ty,pos,aft,some (j,b)⟩::rest) ρ w:=
 fun Q a hf hk=>by
  have:=h Q _ (hf.put xq undef) hk;unfold wpList;rw[if_neg (by simp[akR,m8 hf hj hd hb])];exact this
theorem wU{op:Op}{ty:TypeId}{pos:String}{aft:Array Edge}{j:Nat}{b:Bool}(d:Nat)(hj:(ops[j]?).bind (·.dst)=some d)(hd:akf d n=true)(hb:ρ d=undef)
 (h:wpS P n ops K rest ρ w):wpS P n ops K (⟨none,op,ty,pos,aft,some (j,b)⟩::rest) ρ w:=
 fun Q a hf hk=>by
  have:=h Q _ hf hk;unfold wpList;rw[if_neg (by simp[akR,m8 hf hj hd hb])];exact this
end
def qv(P:Program)(n:Nat)(c:Code)(Q:Exit->(Nat->Value)->World->Prop)(ρ:Nat->Value)(w:World):Prop:=
 ∀a,Fr n a ρ->c.wp P (fun e a' w'=>∃b8,Fr n a' b8/\Q e b8 w') a w
def thn(K:(Nat->Value)->World->Prop)(Q:Exit->(Nat->Value)->World->Prop):Exit->(Nat->Value)->World->Prop
 | .normal,ρ,w=>K ρ w
 |e,ρ,w=>Q e ρ w
def Rv(id:Nat)(Q:Exit->(Nat->Value)->World->Prop):Exit->(Nat->Value)->World->Prop
 | .exit Gp,ρ,w=>bif aju Gp id then Q .normal ρ w else Q (.exit Gp) ρ w
 |e,ρ,w=>Q e ρ w
section
variable {P:Program} {n:Nat} {Q:Exit->(Nat->Value)->World->Prop} {ρ:Nat->Value} {w:World}
theorem I0{c:Code}{Q':Exit->(Nat->Value)->World->Prop}(h:qv P n c Q ρ w)(hq:∀e ρ w,Q e ρ w->Q' e ρ w):qv P n c Q' ρ w:=
 fun a hf=>wp_mono (h a hf) fun _ _ _ ⟨b8,pW,hh⟩=>⟨b8,pW,hq _ _ _ hh⟩
theorem C8{id:Nat}{l:List Oper}(h:wpS P n l.toArray (fun ρ w=>Q .normal ρ w) l ρ w):qv P n (.region id l.toArray false) Q ρ w:=
 fun a hf=>wp_region_lit (h _ a hf fun _ _ _ pW hk=>⟨_,pW,hk⟩)
theorem pw{a b:Code}(h:qv P n a (thn (fun ρ w=>qv P n b Q ρ w) Q) ρ w):qv P n (.seq a b) Q ρ w:=
 fun act hf=>wp_seq (wp_mono (h act hf) fun e a' w' ⟨b8,pW,hh⟩=>by
  cases e with
  |normal=>exact hh a' pW
  |_=>exact⟨b8,pW,hh⟩)
theorem I1(h:Q .normal ρ w):qv P n .skip Q ρ w:=fun _ hf=>wp_skip ⟨_,hf,h⟩
theorem I2{id:Nat}(h:Q (.exit id) ρ w):qv P n (.exit id) Q ρ w:=fun _ hf=>wp_exit ⟨_,hf,h⟩
theorem Mw(h:Q .ret ρ w):qv P n .ret Q ρ w:=fun _ hf=>wp_ret ⟨_,hf,h⟩
theorem se{id:Nat}{c:Code}(h:qv P n c (Rv id Q) ρ w):qv P n (.block id c) Q ρ w:=
 fun a hf=>wp_block (wp_mono (h a hf) fun e a' w' ⟨b8,pW,hh⟩=>by
  cases e with
  |exit Gp=>
   unfold Exit.inBlock;by_cases he:Gp=id
   .subst he;simp only[Rv,show aju Gp Gp=true from Nat.beq_refl _,cond_true]at hh;simpa using⟨b8,pW,hh⟩
   .have hb:aju Gp id=false:=by
     cases C7:aju Gp id with
     |false=>rfl
     |true=>exact absurd (akb C7) he
    simp only[Rv,hb,cond_false]at hh;simpa[he]using⟨b8,pW,hh⟩
  |_=>exact⟨b8,pW,hh⟩)
theorem Ap{c:Operand}{x y:Code}(b:Bool)(hc:ev ρ c= .bool b)(h:qv P n (bif b then x else y) Q ρ w):qv P n (.cond c x y) Q ρ w:=
 fun a hf=>wp_cond (t:=b) (by rw[hf.eval];exact hc) (by
  have:=h a hf
  cases b<;>exact this)
theorem I3{c:Operand}{x y:Code}(hc:ev ρ c= .bool true)(h:qv P n x Q ρ w):qv P n (.cond c x y) Q ρ w:=Ap true hc h
theorem Gq{c:Operand}{x y:Code}(hc:ev ρ c= .bool false)(h:qv P n y Q ρ w):qv P n (.cond c x y) Q ρ w:=Ap false hc h
def Loop{S X:Type}(body:S->Option (S⊕X)):Nat->S->Option X
 |0,_=>none
 |k+1,s=>match body s with
  |none=>none
  |some (.inl s')=>Loop body k s'
  |some (.inr x)=>some x
def Ov{S X:Type}(I:S->(Nat->Value)->World->Prop)(Q:Exit->(Nat->Value)->World->Prop)(x:X):S⊕X->Exit->(Nat->Value)->World->Prop
 | .inl s',e,ρ,w=>e= .normal/\I s' ρ w
 | .inr x',e,ρ,w=>e≠ .normal/\(x'=x->Q e ρ w)
theorem I4{S X:Type}{body:S->Option (S⊕X)}{c:Code}(I:S->(Nat->Value)->World->Prop){x:X}{N:Nat}{s:S}(hm:Loop body N s=some x)(h0:I s ρ w)
 (hb:∀s ρ w y,I s ρ w->body s=some y->qv P n c (Ov I Q x y) ρ w):qv P n (.loop c) Q ρ w:=by
 intro a hf;refine wp_loop_rounds N ?_
 induction N generalizing s ρ w a with
 |zero=>cases hm
 |succ k ih=>
  rw[rounds_succ];unfold Loop at hm
  cases hy:body s with
  |none=>simp[hy]at hm
  |some y=>
   refine wp_mono (hb s ρ w y h0 hy a hf) fun e a' w' ⟨b8,pW,hh⟩=>?_
   cases y with
   |inl s'=>
    obtain⟨rfl,hI⟩:=hh;rw[hy]at hm;exact ih hm hI a' pW
   |inr x'=>
    rw[hy]at hm;obtain⟨bP,hq⟩:=hh;have:=hq (ajk hm)
    cases e with
    |normal=>exact absurd rfl bP
    |_=>exact⟨b8,pW,this⟩
def R0(P:Program)(fn:Func)(n:Nat)(R:Value->World->Prop):Exit->(Nat->Value)->World->Prop
 | .normal,ρ,w| .ret,ρ,w=>∀a,Fr n a ρ->∃v,(results fn a.tmps).run P w= .ok v w/\R v w
 |_,_,_=>False
theorem yF{f:FuncId}{fn:Func}{c:Code}{args:List Value}{R:Value->World->Prop}(hf:P.funcs[f]? =some fn)(hb:fn.body=some c)(hn:args.length<=fn.ntmps)
 (h:∀ρ,(∀t v,args[t]? =some v->ρ t=v)->qv P fn.ntmps c (R0 P fn fn.ntmps R) ρ w):
 Calls P f args.toArray w fun e w'=>∃v,e= .returned v/\R v w':=by
 refine calls_of_wp hf hb ?_
 have lM:(args.toArray++Array.replicate (fn.ntmps-args.toArray.size) undef).size=fn.ntmps:=by simp;omega
 refine wp_mono (h (fun t=>(args.toArray++Array.replicate (fn.ntmps-args.toArray.size) undef).getD t undef) ?_ _ ⟨lM,rfl,fun t=>rfl⟩) fun e a' w' ⟨b8,pW,hh⟩=>?_
 .intro t v hv;have ao:t<args.length:=(ajn.1 hv).1
  have dz:args[t]=v:=by rw[ajl ao]at hv;exact ajk hv
  simp[aj2,Array.getElem?_append,ao,dz]
 .cases e with
  |normal=>exact⟨pW.defers,(hh a' pW).imp fun v hv=>⟨hv.1,v,rfl,hv.2⟩⟩
  |ret=>exact⟨pW.defers,(hh a' pW).imp fun v hv=>⟨hv.1,v,rfl,hv.2⟩⟩
  |_=>exact hh.elim
end
end Go.Proofs.YtmihpkfkbfgigaaGreatDoor
end
section
open _root_.List renaming append_assoc->ajH,append_nil->akd,drop_append_of_le_length->aj5,drop_of_length_le->aj1,getElem?_drop->ajF,getElem?_eq_some_iff->ajn,getElem?_take->ajU,take_append_of_le_length->ajK,take_length->ajD
open _root_.Nat renaming add_assoc->akq,zero_add->ajO
open _root_.Go.Sem renaming run_bind->ajR
namespace Go.Proofs.YtmihpkfkbfgigaaGreatDoor
open Go Go.RowKit
theorem px{α:Type}[BEq α][LawfulBEq α][DecidableEq α](a b:α):(a==b)=decide (a=b):=by
 by_cases h:a=b
 .subst h;simp
 .simp[h]
theorem run_equal_bool{P:Program}{t:TypeId}(ht:P.underlying t=some .bool)(p q:Bool)(w:World):(Op.equal t (.bool p) (.bool q)).run P w= .ok (p==q) w:=by
 have h:∀d:Nat,(Op.equalIn (d+1) t (.bool p) (.bool q)).run P w= .ok (p==q) w:=fun d=>by
  simp[Op.equalIn,run_underlying ht]
 exact h 9999
section
variable {P:Program} {ρ:Nat->Value} {d:Option Nat} {ty:TypeId} {pos:String} {aft:Array Edge} {x y c:Operand} {t u:TypeId} {k:IntKind} {a b:Int}
theorem Gr{v:Value}(h:ev ρ x=v):Pure P ρ ⟨d, .move x,ty,pos,aft,none⟩ v:=fun w=>by simp[execOp,h]
theorem Aq{v:Value}(h:ev ρ x=v):Pure P ρ ⟨d, .assign x,ty,pos,aft,none⟩ v:=fun w=>by simp[execOp,h]
theorem uP{v:Value}(hc:ev ρ c= .bool true)(hx:ev ρ x=v):Pure P ρ ⟨d, .pick c x y,ty,pos,aft,none⟩ v:=fun w=>by
 simp[execOp,asBool,hc,hx]
theorem ub{v:Value}(hc:ev ρ c= .bool false)(hy:ev ρ y=v):Pure P ρ ⟨d, .pick c x y,ty,pos,aft,none⟩ v:=fun w=>by
 simp[execOp,asBool,hc,hy]
theorem I5(hx:ev ρ x= .int k a)(hy:ev ρ y= .int k b):Pure P ρ ⟨d, .binOp .add t x y u,ty,pos,aft,none⟩ (.int k (k.wrap (a+b))):=fun w=>by
 simp[execOp,eqGuard,binOp,Op.intArith,hx,hy]
theorem I6(hx:ev ρ x= .int k a)(hy:ev ρ y= .int k b):Pure P ρ ⟨d, .binOp .sub t x y u,ty,pos,aft,none⟩ (.int k (k.wrap (a-b))):=fun w=>by
 simp[execOp,eqGuard,binOp,Op.intArith,hx,hy]
theorem I7(hx:ev ρ x= .int k a)(hy:ev ρ y= .int k b):Pure P ρ ⟨d, .binOp .mul t x y u,ty,pos,aft,none⟩ (.int k (k.wrap (a*b))):=fun w=>by
 simp[execOp,eqGuard,binOp,Op.intArith,hx,hy]
theorem I8(hx:ev ρ x= .int k a)(hy:ev ρ y= .int k b)(hb:b≠0):Pure P ρ ⟨d, .binOp .quo t x y u,ty,pos,aft,none⟩ (.int k (k.wrap (a.tdiv b))):=fun w=>by
 simp[execOp,eqGuard,binOp,Op.intDiv,hx,hy,hb]
theorem I9(hx:ev ρ x= .int k a)(hy:ev ρ y= .int k b)(hb:b≠0):Pure P ρ ⟨d, .binOp .rem t x y u,ty,pos,aft,none⟩ (.int k (a.tmod b)):=fun w=>by
 simp[execOp,eqGuard,binOp,Op.intDiv,hx,hy,hb]
theorem Ja(hx:ev ρ x= .int k a)(hy:ev ρ y= .int k b):Pure P ρ ⟨d, .binOp .lss t x y u,ty,pos,aft,none⟩ (.bool (decide (a<b))):=fun w=>by
 simp[execOp,eqGuard,binOp,Op.intCmp,hx,hy]
theorem Jb(hx:ev ρ x= .int k a)(hy:ev ρ y= .int k b):Pure P ρ ⟨d, .binOp .leq t x y u,ty,pos,aft,none⟩ (.bool (decide (a<=b))):=fun w=>by
 simp[execOp,eqGuard,binOp,Op.intCmp,hx,hy]
theorem Jc(hx:ev ρ x= .int k a)(hy:ev ρ y= .int k b):Pure P ρ ⟨d, .binOp .gtr t x y u,ty,pos,aft,none⟩ (.bool (decide (b<a))):=fun w=>by
 simp[execOp,eqGuard,binOp,Op.intCmp,hx,hy]
theorem Jd(hx:ev ρ x= .int k a)(hy:ev ρ y= .int k b):Pure P ρ ⟨d, .binOp .geq t x y u,ty,pos,aft,none⟩ (.bool (decide (b<=a))):=fun w=>by
 simp[execOp,eqGuard,binOp,Op.intCmp,hx,hy]
theorem Je(hx:ev ρ x= .int k a)(hy:ev ρ y= .int k b):Pure P ρ ⟨d, .binOp .eql t x y u,ty,pos,aft,none⟩ (.bool (decide (a=b))):=fun w=>by
 simp[execOp,eqGuard,binOp,Op.intCmp,hx,hy,px]
theorem Jf(hx:ev ρ x= .int k a)(hy:ev ρ y= .int k b):Pure P ρ ⟨d, .binOp .neq t x y u,ty,pos,aft,none⟩ (.bool (!decide (a=b))):=fun w=>by
 simp[execOp,eqGuard,binOp,Op.intCmp,hx,hy,bne,px]
theorem Gs{p q:Bool}(ht:P.underlying t=some .bool)(hx:ev ρ x= .bool p)(hy:ev ρ y= .bool q):Pure P ρ ⟨d, .binOp .eql t x y u,ty,pos,aft,none⟩ (.bool (decide (p=q))):=fun w=>by
 have h:=run_equal_bool ht p q w;rw[px]at h;simp only[execOp,eqGuard,hx,hy];simp[binOp,h]
theorem Gt{p q:Bool}(ht:P.underlying t=some .bool)(hx:ev ρ x= .bool p)(hy:ev ρ y= .bool q):Pure P ρ ⟨d, .binOp .neq t x y u,ty,pos,aft,none⟩ (.bool (!decide (p=q))):=fun w=>by
 have h:=run_equal_bool ht p q w;rw[px]at h;simp only[execOp,eqGuard,hx,hy];simp[binOp,h]
theorem bytes_beq(p q:ByteArray):(p.toList==q.toList)=decide (p=q):=by
 rw[px]
 congr 1
 rw[ByteArray.toList_eq,ByteArray.toList_eq];refine propext ⟨fun h=>?_,fun h=>by rw[h]⟩;cases p;cases q;simpa using h
theorem Gu{p q:ByteArray}(hx:ev ρ x= .string p)(hy:ev ρ y= .string q):Pure P ρ ⟨d, .binOp .eql t x y u,ty,pos,aft,none⟩ (.bool (decide (p=q))):=fun w=>by
 simp[execOp,eqGuard,binOp,Op.stringOp,hx,hy,bytes_beq]
theorem Gv{p q:ByteArray}(hx:ev ρ x= .string p)(hy:ev ρ y= .string q):Pure P ρ ⟨d, .binOp .neq t x y u,ty,pos,aft,none⟩ (.bool (!decide (p=q))):=fun w=>by
 simp[execOp,eqGuard,binOp,Op.stringOp,hx,hy,bytes_beq]
theorem Jg{p:Bool}(hx:ev ρ x= .bool p):Pure P ρ ⟨d, .unOp .not t x,ty,pos,aft,none⟩ (.bool !p):=fun w=>by
 simp[execOp,Op.unary,hx]
theorem Jh(hx:ev ρ x= .int k a):Pure P ρ ⟨d, .unOp .neg t x,ty,pos,aft,none⟩ (.int k (k.wrap (0-a))):=fun w=>by
 simp[execOp,Op.unary,Op.intArith,hx]
theorem Gw{k':IntKind}{e:TypeDesc}(hs:P.underlying t=some e)(hu:P.underlying u=some (.int k'))(hx:ev ρ x= .int k a):Pure P ρ ⟨d, .convert t u x,ty,pos,aft,none⟩ (.int k' (k'.wrap a)):=fun w=>by
 simp[execOp,convert,run_underlying hs,run_underlying hu,hx,Conv.intToInt]
theorem Ji{e:TypeId}{A:Option Addr}{n cap:Nat}{m:Nat}(hm:m=n)(ht:P.underlying t=some (.slice e))(hx:ev ρ x= .slice A n cap):
 Pure P ρ ⟨d, .call {callee:= .builtin .len,args:= #[x],argTypes:= #[t]},ty,pos,aft,none⟩ (.int .i64 (m:Int)):=fun w=>by
 subst hm;simp[execOp,resolve,invoke,builtin,Builtin.len_,run_underlying ht,hx,goInt]
theorem Gx{s:ByteArray}(ht:P.underlying t=some .string)(hx:ev ρ x= .string s):
 Pure P ρ ⟨d, .call {callee:= .builtin .len,args:= #[x],argTypes:= #[t]},ty,pos,aft,none⟩ (.int .i64 (s.size:Int)):=fun w=>by
 simp[execOp,resolve,invoke,builtin,Builtin.len_,run_underlying ht,hx,goInt]
theorem Gy{t':TypeId}(hx:ev ρ x= .int k a)(hy:ev ρ y= .int k b):
 Pure P ρ ⟨d, .call {callee:= .builtin .max,args:= #[x,y],argTypes:= #[t,t']},ty,pos,aft,none⟩ (.int k (if a<b then b else a)):=fun w=>by
 simp[execOp,resolve,invoke,builtin,Builtin.max_,Builtin.max2,hx,hy]
theorem Gz{t':TypeId}(hx:ev ρ x= .int k a)(hy:ev ρ y= .int k b):
 Pure P ρ ⟨d, .call {callee:= .builtin .min,args:= #[x,y],argTypes:= #[t,t']},ty,pos,aft,none⟩ (.int k (if b<a then b else a)):=fun w=>by
 simp[execOp,resolve,invoke,builtin,Builtin.min_,Builtin.min2,hx,hy]
theorem yG{vs:Array Value}{i:Nat}{v:Value}(hx:ev ρ x= .tuple vs)(hi:vs[i]? =some v):Pure P ρ ⟨d, .extract x i,ty,pos,aft,none⟩ v:=fun w=>by
 simp[execOp,Instr.extract,hx,hi]
theorem cL(b o k:Nat):(⟨b,o,none⟩:Addr).add k=⟨b,o+k,none⟩:=by unfold Addr.add;split<;>simp_all
theorem uQ{f:Nat}{fs:Array Field}{fd:Field}{ti:TypeInfo}{oC off:Nat}(k:Nat)(hs:P.underlying t=some (.struct fs))(hf:fs[f]? =some fd)(hi:P.info? fd.type=some ti)(lM:ti.size≠0)(hk:fd.offset=k)
 (hx:ev ρ x= .pointer (some ⟨oC,off,none⟩)):Pure P ρ ⟨d, .fieldAddr t x f,ty,pos,aft,none⟩ (.pointer (some ⟨oC,off+k,none⟩)):=fun w=>by
 subst hk;simp[execOp,Instr.fieldAt,run_underlying hs,hf,Instr.sureAddr,fieldPlace,sizeOf,typeInfo,hi,lM,hx,cL]
theorem mm{e:TypeId}{ti:TypeInfo}{oC off n cap i:Nat}(size:Nat)(ht:P.underlying t=some (.slice e))(hi:P.info? e=some ti)(lM:ti.size=size)
 (hx:ev ρ x= .slice (some ⟨oC,off,none⟩) n cap)(hy:ev ρ y= .int k a)(ha:a=(i:Int))(ao:i<n):
 Pure P ρ ⟨d, .indexAddr t x y,ty,pos,aft,none⟩ (.pointer (some ⟨oC,off+i*size,none⟩)):=fun w=>by
 subst lM;subst ha;simp[execOp,Instr.indexAt,asIntOf,run_underlying ht,sizeOf,typeInfo,hi,hx,hy,ao,cL]
end
end Go.Proofs.YtmihpkfkbfgigaaGreatDoor
namespace Go.Proofs.YtmihpkfkbfgigaaGreatDoor
open Go Go.RowKit
inductive Path:Row->Row->Type where
 |here {r:Row}:Path r r
 |fst {a b s:Row} (p:Path a s):Path (.pair a b) s
 |snd {a b s:Row} (p:Path b s):Path (.pair a b) s
def Path.off:{r s:Row}->Path r s->Nat
 |_,_, .here=>0
 |_,_, .fst p=>p.off
 |_,_, .snd (a:=a) p=>a.size+p.off
@[reducible] def Path.get:{r s:Row}->Path r s->r.den->s.den
  |_,_, .here,x=>x
  |_,_, .fst p,x=>p.get x.1
  |_,_, .snd p,x=>p.get x.2
@[reducible] def Path.set:{r s:Row}->Path r s->r.den->s.den->r.den
  |_,_, .here,_,y=>y
  |_,_, .fst p,x,y=>(p.set x.1 y,x.2)
  |_,_, .snd p,x,y=>(x.1,p.set x.2 y)
section
variable {F:Nat->Prop} {w:World}
theorem Path.le:{r s:Row}->(p:Path r s)->p.off+s.size<=r.size
 |_,_, .here=>by simp[Path.off]
 |_,_, .fst p=>by have:=p.le;simp[Path.off];omega
 |_,_, .snd p=>by have:=p.le;simp[Path.off];omega
theorem cD.path:{r s:Row}->(p:Path r s)->{es:List Value}->{x:r.den}->cD F w r es x->cD F w s ((es.drop p.off).take s.size) (p.get x)
 |_,_, .here,es,x,h=>by
  have:=h.length;simp only[Path.off,List.drop_zero,Path.get];rw[<-this,ajD];exact h
 |_,s, .fst (a:=a) p,_,x,h=>by
  obtain⟨c1,c2,rfl,h1,h2⟩:=h;have hr:=cD.path p h1;have hle:=p.le;have hl:=h1.length;simp only[Path.off,Path.get];rw[aj5 (by omega),ajK (by rw[List.length_drop];omega)];exact hr
 |_,s, .snd (a:=a) p,_,x,h=>by
  obtain⟨c1,c2,rfl,h1,h2⟩:=h;have hr:=cD.path p h2;have hl:=h1.length;simp only[Path.off,Path.get];rw[<-hl,List.drop_append,aj1 (by omega),List.nil_append,show c1.length+p.off-c1.length=p.off from by omega];exact hr
theorem cD.put:{r s:Row}->(p:Path r s)->{es vs:List Value}->{x:r.den}->{y:s.den}->cD F w r es x->cD F w s vs y->
 cD F w r (es.take p.off++vs++es.drop (p.off+s.size)) (p.set x y)
 |_,_, .here,es,vs,x,y,h,hv=>by
  have:=h.length;simp only[Path.off,Path.set,List.take_zero,List.nil_append,ajO];rw[<-this,List.drop_length,akd];exact hv
 |_,s, .fst (a:=a) p,_,vs,x,y,h,hv=>by
  obtain⟨c1,c2,rfl,h1,h2⟩:=h;have hr:=cD.put p h1 hv;have hle:=p.le;have hl:=h1.length;refine⟨_,c2,?_,hr,h2⟩;simp only[Path.off];rw[ajK (by omega),aj5 (by omega)];simp[ajH]
 |_,s, .snd (a:=a) p,_,vs,x,y,h,hv=>by
  obtain⟨c1,c2,rfl,h1,h2⟩:=h;have hr:=cD.put p h2 hv;have hl:=h1.length;refine⟨c1,_,?_,h1,hr⟩;simp only[Path.off]
  rw[<-hl,List.take_append,List.take_of_length_le (by omega),List.drop_append,aj1 (by omega),show c1.length+p.off-c1.length=p.off from by omega,
   show c1.length+p.off+s.size-c1.length=p.off+s.size from by omega]
  simp[ajH]
theorem At.path{r s:Row}{b off:Nat}{x:r.den}(h:At F w r b off x)(p:Path r s)(k:Nat)(hk:p.off=k):At F w s b (off+k) (p.get x):=by
 subst hk;obtain⟨es,hl,hc,hr⟩:=h;have hp:=hr.path p;refine⟨_,hp.length,fun j u hu=>?_,hp⟩;rw[ajU]at hu;split at hu
 .rw[ajF]at hu;rw[akq];exact hc _ u hu
 .cases hu
theorem At.int{k:IntKind}{b off:Nat}{x:Int}(h:At F w (.int k) b off x):w.cell? ⟨b,off,none⟩=some (.int k x):=by
 obtain⟨es,hl,hc,rfl⟩:=h;exact hc 0 _ rfl
theorem At.bool{b off:Nat}{x:Bool}(h:At F w .bool b off x):w.cell? ⟨b,off,none⟩=some (.bool x):=by
 obtain⟨es,hl,hc,rfl⟩:=h;exact hc 0 _ rfl
theorem At.str{b off:Nat}{x:ByteArray}(h:At F w .str b off x):w.cell? ⟨b,off,none⟩=some (.string x):=by
 obtain⟨es,hl,hc,rfl⟩:=h;exact hc 0 _ rfl
theorem At.slice{e:Row}{b off:Nat}{x:List e.den}(h:At F w (.slice e) b off x):∃v,w.cell? ⟨b,off,none⟩=some v/\cD F w (.slice e) [v] x:=by
 obtain⟨es,hl,hc,hr⟩:=h;obtain⟨A,cap,rfl,h⟩:=hr;exact⟨_,hc 0 _ rfl,A,cap,rfl,h⟩
def Reads(F:Nat->Prop)(w:World)(r:Row)(v:Value)(l:List r.den):Prop:=
 ∃A cap,v= .slice A l.length cap/\l.length<=cap/\cap<=maxLen/\∀i(h:i<l.length),∃b off,A=some ⟨b,off,none⟩/\At F w r b (off+i*r.size) l[i]
theorem cD.reads{r:Row}{v:Value}{l:List r.den}(h:cD F w (.slice r) [v] l):Reads F w r v l:=by
 obtain⟨A,cap,h1,h2,h3,h4⟩:=h;refine⟨A,cap,by simpa using h1,h2,h3,fun i hi=>?_⟩;obtain⟨b,off,es,hA,_,qX,hc,hr⟩:=h4 i hi;exact⟨b,off,hA,es,qX,hc,hr⟩
def idx{α:Type}(l:List α)(i:Int):Option α:=if 0<=i then l[i.toNat]? else none
theorem fP{α:Type}{l:List α}{i:Int}{y:α}(h:idx l i=some y):∃k:Nat,i=k/\∃hk:k<l.length,l[k]=y:=by
 unfold idx at h;split at h
 .rename_i h0;obtain⟨hk,e⟩:=ajn.1 h;exact⟨i.toNat,by omega,hk,e⟩
 .cases h
theorem Reads.elem{r:Row}{v:Value}{l:List r.den}(h:Reads F w r v l){i:Int}{y:r.den}(hi:idx l i=some y):
 ∃b off cap k,v= .slice (some ⟨b,off,none⟩) l.length cap/\i=(k:Nat)/\k<l.length/\At F w r b (off+k*r.size) y:=by
 obtain⟨A,cap,hv,_,_,h4⟩:=h;obtain⟨k,hk,ao,rfl⟩:=fP hi;obtain⟨b,off,rfl,oi⟩:=h4 k ao;exact⟨b,off,cap,k,hv,hk,ao,oi⟩
end
section
variable {P:Program} {n:Nat} {ops:Array Oper} {K:(Nat->Value)->World->Prop} {rest:List Oper} {ρ:Nat->Value} {w:World} {F:Nat->Prop}
variable {d:Nat} {ty:TypeId} {pos:String} {aft:Array Edge} {x y:Operand} {t:TypeId}
def jT:TypeDesc->Bool
 | .struct _| .array _ _=>true
 |_=>false
theorem fh{D:TypeDesc}(hu:P.underlying t=some D)(w:World):(isAgg t).run P w= .ok (jT D) w:=by
 unfold isAgg;rw[ajR,run_underlying hu w]
 cases D<;>simp[jT]
theorem xr{dd:Option Nat}{D:TypeDesc}{b off:Nat}{v:Value}(hu:P.underlying t=some D)(hD:jT D=false)(hx:ev ρ x= .pointer (some ⟨b,off,none⟩))(hc:w.cell? ⟨b,off,none⟩=some v):
 (execOp (ev ρ) ⟨dd, .load t x,ty,pos,aft,none⟩).run P w= .ok (.value v) w:=by
 simp[execOp,hx,Instr.loadAt,Instr.sureAddr,loadVar,ajR,fh hu,hD,hc,go_sem]
theorem GA{dd:Option Nat}{D:TypeDesc}{ti:TypeInfo}{b off:Nat}{es:List Value}(hu:P.underlying t=some D)(hD:jT D=true)(hi:P.info? t=some ti)(hs:ti.size=es.length)
 (hx:ev ρ x= .pointer (some ⟨b,off,none⟩))(hc:∀j u,es[j]? =some u->w.cell? ⟨b,off+j,none⟩=some u):
 (execOp (ev ρ) ⟨dd, .load t x,ty,pos,aft,none⟩).run P w= .ok (.value (.agg es.toArray)) w:=by
 have hl:(loadCells ⟨b,off,none⟩ es.length).run P w= .ok es.toArray w:=
  run_loadCells_list (P:=P) w ⟨b,off,none⟩ es (fun j v hv=>by rw[cL];exact hc j v hv)
 simp[execOp,hx,Instr.loadAt,Instr.sureAddr,loadVar,ajR,fh hu,hD,sizeOf,typeInfo,hi,hs,hl]
end
end Go.Proofs.YtmihpkfkbfgigaaGreatDoor
end
section
open _root_.Go.Addr.mk renaming injEq->akS
open _root_.Array renaming getElem?_eq_some_iff->akh
open _root_.Go.Builtin renaming append_->akW
open _root_.List renaming append_assoc->ajH,drop_append_of_le_length->aj5,drop_of_length_le->aj1,getElem?_drop->ajF,getElem?_eq_getElem->ajl,getElem?_take->ajU,getElem_append_left->ajv,getElem_append_right->ajA,getElem_of_mem->ajG,length_append->ajm,length_take->ajB,replicate->ajq,take_append_of_le_length->ajK
open _root_.Nat renaming add_assoc->akq,add_mul->akk,add_zero->akm,le_refl->ajo,lt_of_lt_of_le->aj7,mul_le_mul_right->ajS,zero_add->ajO
open _root_.Option.some renaming inj->ajk,injEq->ajx
open _root_.Go.Value renaming ownBlock->ajV
open _root_.Go.Value.slice renaming injEq->akK
namespace Go.Proofs.YtmihpkfkbfgigaaGreatDoor
open Go Go.RowKit
structure Ext(g:Nat->Prop)(w w':World):Prop where
 os:w'.os=w.os
 tape:w'.tape=w.tape
 output:w'.output=w.output
 size:w.heap.size<=w'.heap.size
 block:∀k,k<w.heap.size->¬g k->w'.heap[k]? =w.heap[k]?
theorem Ext.Jj{g:Nat->Prop}{a b:World}{row:Option Nat}(h:a.grownBy b row)(hs:∀k,row=some k->g k):Ext g a b:=
 ⟨h.os,h.tape,h.output,h.size,fun k hk hn=>h.block k hk fun e=>hn (hs k e.symm)⟩
section
variable {w0 w w':World} {F0 F F':Nat->Prop} {g:Nat->Prop}
theorem St.ext(h:St w0 F0 w F)(he:Ext g w w')(hg:∀k,g k->w0.heap.size<=k):St w0 F0 w' F:=
 ⟨h.below.trans ⟨he.os,he.tape,he.output,he.size,fun k hk=>by
   rcases Nat.lt_or_ge k w.heap.size with ao|hge
   .exact he.block k ao fun e=>by have:=hg k e;omega
   .have:=h.below.size;omega⟩,h.le,h.new,fun b hb=>aj7 (h.lt b hb) he.size⟩
theorem Step.ext(he:Ext g w w')(hF:∀b,F b->b<w.heap.size)(hg:∀k,g k->¬F k):Step F w F w':=
 fun b hb=>⟨hb,he.block b (hF b hb) fun e=>hg b e hb⟩
def m9(base:Nat)(F:Nat->Prop)(w:World)(b:Nat)(T:TypeId)(r:Row)(x:r.den):Prop:=
 base<=b/\¬F b/\∃es,w.heap[b]? =some (.cells es.toArray T (0,0))/\cD F w r es x
def bq(v:Value)(k:Nat):Prop:=v.ownBlock=some k
def is(b k:Nat):Prop:=k=b
def mJ(w:World)(base:Nat)(e:TypeId)(size:Nat)(v:Value)(n:Nat)(xs:List Value):Prop:=
 xs.length=n*size/\
 ((v= .slice none 0 0/\n=0)\/
  ∃g o0 cap cur,v= .slice (some ⟨g,o0,none⟩) n cap/\base<=g/\w.heap[g]? =some (.cells cur e (0,0))/\n<=cap/\cap<=maxLen/\o0+cap*size<=cur.size/\(cur.toList.drop o0).take (n*size)=xs)
theorem mJ.of{w:World}{base:Nat}{e:TypeId}{size:Nat}{v:Value}{n:Nat}{xs:List Value}(h:w.ownsRow base e size v n xs):mJ w base e size v n xs:=by
 refine⟨h.1,?_⟩
 rcases h.2 with h|⟨g,cap,cur,hv,hb,hg,h1,h2,h3,h4⟩
 .exact .inl h
 .exact .inr ⟨g,0,cap,cur,hv,hb,hg,h1,h2,by omega,h4⟩
theorem GB(w:World)(base:Nat)(e:TypeId)(size:Nat):mJ w base e size (.slice none 0 0) 0 []:= .of (World.ownsRow_nil w base e size)
theorem mJ.lt{w:World}{base:Nat}{e:TypeId}{size:Nat}{v:Value}{n:Nat}{xs:List Value}(h:mJ w base e size v n xs):∀k,v.ownBlock=some k->base<=k/\k<w.heap.size:=by
 intro k hk
 rcases h.2 with⟨rfl,_⟩|⟨g,o0,cap,cur,rfl,hb,hg,_⟩
 .cases hk
 .obtain rfl:g=k:=by simpa[ajV]using hk
  exact⟨hb,(akh.1 hg).1⟩
def jf(base:Nat)(F:Nat->Prop)(w:World)(T:TypeId)(r:Row)(v:Value)(l:List r.den):Prop:=
 (∀k,bq v k->¬F k)/\∃xs,mJ w base T r.size v l.length xs/\∀i(h:i<l.length),cD F w r ((xs.drop (i*r.size)).take r.size) l[i]
variable {base b:Nat} {T:TypeId} {r:Row}
theorem m9.lt{x:r.den}(h:m9 base F w b T r x):∀k,is b k->k<w.heap.size:=fun k hk=>by
 obtain⟨_,_,es,hh,_⟩:=h;rw[hk];exact(akh.1 hh).1
theorem m9.ge{x:r.den}(h:m9 base F w b T r x):∀k,is b k->base<=k:=fun k hk=>by rw[hk];exact h.1
theorem m9.no{x:r.den}(h:m9 base F w b T r x):∀k,is b k->¬F k:=fun k hk=>by rw[hk];exact h.2.1
theorem m9.st{x:r.den}(h:m9 base F w b T r x)(hF:∀b,F b->b<w.heap.size)(hs:St w F w' F'):m9 base F' w' b T r x:=by
 have ao:=h.lt b rfl;obtain⟨h1,h2,es,hh,hr⟩:=h;refine⟨h1,fun e=>?_,es,(hs.below.block b ao).trans hh,hr.step (hs.step hF)⟩
 rcases hs.new b e with h'|h'
 .exact h2 h'
 .omega
theorem m9.ext{x:r.den}(h:m9 base F w b T r x)(hF:∀b,F b->b<w.heap.size)(he:Ext g w w')(hg:∀k,g k->¬F k)(hb:∀k,g k->¬is b k):m9 base F w' b T r x:=by
 have ao:=h.lt b rfl;obtain⟨h1,h2,es,hh,hr⟩:=h;exact⟨h1,h2,es,(he.block b ao fun e=>hb b e rfl).trans hh,hr.step (Step.ext he hF hg)⟩
theorem m9.at{x:r.den}(h:m9 base F w b T r x):At F w r b 0 x:=by
 obtain⟨_,_,es,hh,hr⟩:=h;exact⟨es,hr.length,fun j u hu=>by rw[ajO,cell_of_row w b j _ T (0,0) hh];simpa using hu,hr⟩
theorem jf.lt{v:Value}{l:List r.den}(h:jf base F w T r v l):∀k,bq v k->k<w.heap.size:=by
 obtain⟨_,xs,h,_⟩:=h
 exact fun k hk=>(h.lt k hk).2
theorem jf.ge{v:Value}{l:List r.den}(h:jf base F w T r v l):∀k,bq v k->base<=k:=by
 obtain⟨_,xs,h,_⟩:=h
 exact fun k hk=>(h.lt k hk).1
theorem jf.no{v:Value}{l:List r.den}(h:jf base F w T r v l):∀k,bq v k->¬F k:=h.1
theorem jf.nil(base:Nat)(F:Nat->Prop)(w:World)(T:TypeId)(r:Row):jf base F w T r (.slice none 0 0) []:=
 ⟨fun k hk=>by simp[bq,ajV]at hk,[],GB _ _ _ _,fun i h=>absurd h (by simp)⟩
theorem jf.keep{v:Value}{l:List r.den}(h:jf base F w T r v l)(hs:Step F w F' w')(h1:∀k,bq v k->¬F' k/\w'.heap[k]? =w.heap[k]?):jf base F' w' T r v l:=by
 obtain⟨_,xs,⟨R1,Jk⟩,h3⟩:=h;refine⟨fun k hk=>(h1 k hk).1,xs,⟨R1,?_⟩,fun i hi=>(h3 i hi).step hs⟩
 rcases Jk with h2|⟨gg,o0,cap,cur,rfl,hb,hg,rest⟩
 .exact .inl h2
 .exact .inr ⟨gg,o0,cap,cur,rfl,hb,(h1 gg rfl).2.trans hg,rest⟩
theorem jf.st{v:Value}{l:List r.den}(h:jf base F w T r v l)(hF:∀b,F b->b<w.heap.size)(hs:St w F w' F'):jf base F' w' T r v l:=
 h.keep (hs.step hF) fun k hk=>⟨fun e=>by
   have ao:=h.lt k hk
   rcases hs.new k e with h'|h'
   .exact h.no k hk h'
   .omega,hs.below.block k (h.lt k hk)⟩
theorem jf.ext{v:Value}{l:List r.den}(h:jf base F w T r v l)(hF:∀b,F b->b<w.heap.size)(he:Ext g w w')(hg:∀k,g k->¬F k)(hb:∀k,g k->¬bq v k):jf base F w' T r v l:=
 h.keep (Step.ext he hF hg) fun k hk=>⟨h.no k hk,he.block k (h.lt k hk) fun e=>hb k e hk⟩
theorem jf.reads{v:Value}{l:List r.den}(h:jf base F w T r v l):Reads F w r v l:=by
 obtain⟨_,xs,hx,h3⟩:=h;have hlen:=hx.1
 rcases hx.2 with⟨rfl,h0⟩|⟨gg,o0,cap,cur,rfl,hb,hg,h1,h2,qY,tC⟩
 .exact⟨none,0,by rw[h0],by omega,by simp[maxLen],fun i hi=>absurd hi (by omega)⟩
 .refine⟨_,cap,rfl,h1,h2,fun i hi=>⟨gg,o0,rfl,_,(h3 i hi).length,fun j u hu=>?_,h3 i hi⟩⟩;rw[ajU]at hu;split at hu
  .rw[ajF]at hu;rw[cell_of_row w gg _ cur T (0,0) hg];rw[<-tC,ajU]at hu;split at hu
   .rw[ajF]at hu;simpa[akq]using hu
   .cases hu
  .cases hu
theorem jf.freeze{v:Value}{l:List r.den}(h:jf base F w T r v l):cD (fun b=>F b\/bq v b) w (.slice r) [v] l:=by
 obtain⟨A,cap,hv,h1,h2,h3⟩:=h.reads;refine⟨A,cap,by rw[hv],h1,h2,fun i hi=>?_⟩;obtain⟨b,off,rfl,es,qX,hc,hr⟩:=h3 i hi;subst hv;exact⟨b,off,es,rfl, .inr (by simp[bq,ajV]),qX,hc,hr.step fun b hb=>⟨.inl hb,rfl⟩⟩
@[reducible] def Row.zero:(r:Row)->r.den
  | .int _=>(0:Int)
  | .bool=>false
  | .str=>ByteArray.empty
  | .slice _=>[]
  | .jE=> .slice none 0 0
  | .nul _=>()
  | .map .. =>[]
  | .pair a b=>(a.zero,b.zero)
def Row.eL:(r:Row)->List Value
 | .int k=>[.int k 0]
 | .bool=>[.bool false]
 | .str=>[.string ByteArray.empty]
 | .slice _=>[.slice none 0 0]
 | .jE=>[.slice none 0 0]
 | .nul k=>[k.val]
 | .map .. =>[.map none]
 | .pair a b=>a.eL++b.eL
theorem cD.zero(F:Nat->Prop)(w:World):(r:Row)->cD F w r r.eL r.zero
 | .int _=>rfl
 | .bool=>rfl
 | .str=>rfl
 | .slice e=>cD.nil F w e
 | .jE=>⟨rfl,none,0,0,rfl⟩
 | .nul _=>rfl
 | .map .. =>⟨_,rfl, .inl ⟨rfl,rfl⟩⟩
 | .pair a b=>⟨_,_,rfl,cD.zero F w a,cD.zero F w b⟩
theorem m9.new(F:Nat->Prop){w:World}(T:TypeId){r:Row}{es:List Value}{x:r.den}(hF:∀b,F b->b<w.heap.size)(hb:base<=w.heap.size)(hr:cD F w r es x):m9 base F (w.alloc (.cells es.toArray T)) w.heap.size T r x:=
 ⟨hb,fun e=>by have:=hF _ e;omega,es,heap_alloc_new w _,hr.step (Step.alloc hF _)⟩
end
section
variable {P:Program} {n:Nat} {ops:Array Oper} {K:(Nat->Value)->World->Prop} {rest:List Oper} {ρ:Nat->Value} {w:World} {F:Nat->Prop} {base:Nat}
variable {d:Nat} {ty:TypeId} {pos:String} {aft:Array Edge} {x y:Operand} {t:TypeId}
theorem GC{dd:Option Nat}{ti:TypeInfo}{z:Value}(hi:P.info? t=some ti)(hz:ti.zero=some z):
 (execOp (ev ρ) ⟨dd, .alloc t,ty,pos,aft,none⟩).run P w= .ok (.value (.pointer (some ⟨w.heap.size,0,none⟩))) (w.alloc (.cells z.cells t)):=by
 simp[execOp,Instr.alloc,zeroValue,typeInfo,hi,hz,newVar,newRow]
theorem Mx{dd:Option Nat}{v:Value}(hx:ev ρ x=v):
 (execOp (ev ρ) ⟨dd, .box t x,ty,pos,aft,none⟩).run P w= .ok (.value (.pointer (some ⟨w.heap.size,0,none⟩))) (w.alloc (.cells v.cells t)):=by
 simp[execOp,Instr.box,hx,newVar,newRow]
theorem nU{dd:Option Nat}{ti:TypeInfo}{b off:Nat}{cur:Array Value}{T:TypeId}{v:Value}{vs:List Value}(hi:P.info? t=some ti)(hs:ti.size=vs.length)(hx:ev ρ x= .pointer (some ⟨b,off,none⟩))(hy:ev ρ y=v)
 (hv:v.cells.toList=vs)(h1:∀u∈vs,u.oneCell'=true)(hg:w.heap[b]? =some (.cells cur T (0,0)))(hl:off+vs.length<=cur.size):
 (execOp (ev ρ) ⟨dd, .store t x y,ty,pos,aft,none⟩).run P w= .ok .skip (w.setRow b (cur.toList.take off++vs++cur.toList.drop (off+vs.length)).toArray):=by
 have eM:=run_storeCells_at P b off T vs 0 cur w hg (by omega) h1
 have lM:v.cells.size=ti.size:=by rw[hs,<-hv];simp
 simp only[akm]at eM;simp[execOp,Instr.storeAt,Instr.sureAddr,storeVar,sizeOf,typeInfo,hi,lM,hx,hy,hv,eM]
theorem C9(w:World)(b:Nat)(cs:Array Value):Ext (is b) w (w.setRow b cs):=
 ⟨rfl,rfl,rfl,by simp,fun k _ hk=>setRow_other w b k cs hk⟩
theorem m9.put{w:World}{b:Nat}{T:TypeId}{r s:Row}{a:r.den}{es:List Value}(hh:w.heap[b]? =some (.cells es.toArray T (0,0)))(hr:cD F w r es a)(hb:base<=b)(hn:¬F b)(hF:∀b,F b->b<w.heap.size)(p:Path r s){vs:List Value}{u:s.den}(hv:cD F w s vs u):
 m9 base F (w.setRow b (es.take p.off++vs++es.drop (p.off+s.size)).toArray) b T r (p.set a u):=
 ⟨hb,hn,_,setRow_heap w b _ _ T (0,0) hh,(hr.put p hv).step (Step.ext (C9 w b _) hF fun k hk=>by rw[show k=b from hk];exact hn)⟩
def mI{α:Type}(m:Int)(z:α):Option (List α):=if 0<=m/\m<=4294967296 then some (ajq m.toNat z)else none
def bZ{α:Type}(l m:List α):Option (List α):=if l.length+m.length<=4294967296 then some (l++m)else none
theorem qZ(z:Array Value)(m j:Nat)(hj:j<m)(hz:0<z.size):(madeCells z m).toList[j]? =z[j%z.size]? :=by
 have:j%z.size<z.size:=Nat.mod_lt _ hz;simp[madeCells,hj,this]
theorem Jl(z:List Value)(m i:Nat)(hz:0<z.length)(hi:i<m):(((madeCells z.toArray (m*z.length)).toList.drop (i*z.length)).take z.length)=z:=by
 apply List.ext_getElem?
 intro j;rw[ajU,ajF];split
 .rename_i hj;have hle:(i+1)*z.length<=m*z.length:=ajS _ hi;rw[akk]at hle;rw[qZ z.toArray (m*z.length) (i*z.length+j) (by omega) (by simpa using hz)];rw[show z.toArray.size=z.length from by simp,List.getElem?_toArray];rw[Nat.add_comm,Nat.add_mul_mod_self_right,Nat.mod_eq_of_lt hj]
 .rename_i hj;rw[List.getElem?_eq_none (by omega)]
theorem Reads.news{r:Row}{A:Option Addr}{cap m:Nat}{l:List r.den}(h:Reads F w r (.slice A m cap) l)(b off:Nat)(hA:A=some ⟨b,off,none⟩):
 ∃news:List Value,news.length=l.length*r.size/\(∀j u,news[j]? =some u->w.cell? ⟨b,off+j,none⟩=some u)/\∀i(hi:i<l.length),cD F w r ((news.drop (i*r.size)).take r.size) l[i]:=by
 subst hA;obtain⟨A',Jm,hv,_,_,h4⟩:=h;simp only[akK]at hv;obtain⟨rfl,_,_⟩:=hv;have nl:=r.size_pos
 have uO:∀j,j<l.length*r.size->∃u,w.cell? ⟨b,off+j,none⟩=some u:=by
  intro j hj;have hi:j/r.size<l.length:=Nat.div_lt_of_lt_mul (by rwa [Nat.mul_comm]);obtain⟨b',dI,p5,es,qX,hc,_⟩:=h4 _ hi;simp only[ajx,akS,and_true]at p5;obtain⟨rfl,rfl⟩:=p5
  have Ow:j%r.size<es.length:=by rw[qX];exact Nat.mod_lt _ nl
  have:=hc (j%r.size) _ (ajl Ow);rw[akq,Nat.div_add_mod']at this;exact⟨_,this⟩
 have GD:∀j u,((List.range (l.length*r.size)).map fun j=>(w.cell? ⟨b,off+j,none⟩).getD undef)[j]? =some u↔j<l.length*r.size/\w.cell? ⟨b,off+j,none⟩=some u:=by
  intro j u;by_cases hj:j<l.length*r.size
  .obtain⟨q,hq⟩:=uO j hj;simp[hj,hq]
  .simp[hj]
 refine⟨(List.range (l.length*r.size)).map fun j=>(w.cell? ⟨b,off+j,none⟩).getD undef,by simp,fun j u hu=>((GD j u).1 hu).2,fun i hi=>?_⟩;obtain⟨b',dI,p5,es,qX,hc,hr⟩:=h4 i hi;simp only[ajx,akS,and_true]at p5;obtain⟨rfl,rfl⟩:=p5
 have he:(((List.range (l.length*r.size)).map fun j=>(w.cell? ⟨b,off+j,none⟩).getD undef).drop (i*r.size)).take r.size=es:=by
  have hle:(i+1)*r.size<=l.length*r.size:=ajS _ hi;rw[akk]at hle
  apply List.ext_getElem?
  intro j;rw[ajU,ajF];split
  .rename_i hj;rw[(GD (i*r.size+j) (es[j]'(by omega))).2 ⟨by omega,by rw[<-akq];exact hc j _ (ajl (by omega))⟩,ajl (by omega)]
  .rw[List.getElem?_eq_none (by omega)]
 rw[he];exact hr
theorem q6(w:World)(base:Nat)(t ty e:TypeId)(i:TypeInfo)(size:Nat)(ht:P.underlying t=some (.slice e))(hi:P.info? e=some i)
 (v:Value)(n:Nat)(xs:List Value)(eo:mJ w base e size v n xs)(c:Nat):(akW #[t,t] ty #[v, .slice none 0 c]).run P w= .ok v w:=by
 rcases eo.2 with⟨rfl,rfl⟩|⟨g,o0,cap,cur,rfl,_,_,R2,_⟩
 .simp[akW,run_underlying ht,sizeOf,typeInfo,hi,Builtin.lenOf,Builtin.firstCells]
 .simp[akW,run_underlying ht,sizeOf,typeInfo,hi,Builtin.lenOf,Builtin.firstCells,R2,storeCells]
theorem yH(w:World)(base:Nat)(t ty e:TypeId)(i:TypeInfo)(z:Value)(size bytes:Nat)(ht:P.underlying t=some (.slice e))(hi:P.info? e=some i)(hz:i.zero=some z)
 (Ox:i.size=size)(Rx:i.bytes=bytes)(R3:z.cells.size=size)(lM:0<size)
 (v:Value)(n:Nat)(xs:List Value)(eo:mJ w base e size v n xs)
 (a:Addr)(m c:Nat)(news:List Value)(hl:news.length=m*size)(Jn:∀j u,news[j]? =some u->w.cell? (a.add j)=some u)(h1:∀u∈news,u.oneCell'=true)
 (Wb:n+m<=maxLen)(Jo:(n+m)*bytes<=140737488355328)(Oy:base<=w.heap.size):
 ∃v' w',(akW #[t,t] ty #[v, .slice (some a) m c]).run P w= .ok v' w'/\mJ w' base e size v' (n+m) (xs++news)/\w.grownBy w' v.ownBlock/\
  (v'.ownBlock=v.ownBlock\/v'.ownBlock=some w.heap.size):=by
 rcases eo.2 with⟨rfl,rfl⟩|⟨g,o0,cap,cur,rfl,hbg,hg,R2,Wc,qY,tC⟩
 .have hx:xs=[]:=List.eq_nil_of_length_eq_zero (by simpa using eo.1);subst hx;obtain⟨v',w',g1,g2,g3,_,g4⟩:=run_append_own_at (P:=P) w base t ty e i z size bytes ht hi hz Ox Rx R3 lM (.slice none 0 0) 0 [] (World.ownsRow_nil w base e size) a m c news hl Jn h1 Wb Jo Oy;exact⟨v',w',g1, .of g2,g3,g4⟩
 subst Ox;subst Rx
 have We:n+m<=9223372036854775807:=by simp only[maxLen]at Wb;omega
 have hlen:(xs++news).length=(n+m)*i.size:=by rw[ajm,eo.1,hl,akk]
 have hnm:n*i.size+news.length=(n+m)*i.size:=by rw[hl,akk]
 have adD:n*i.size<=cap*i.size:=ajS _ R2;by_cases xu:n+m<=cap
 .have GF:(n+m)*i.size<=cap*i.size:=ajS _ xu;have hf:=run_firstCells_some (P:=P) w i.size m a m c news hl Jn;have eM:=run_storeCells_at P g (o0+n*i.size) e news 0 cur w hg (by omega) h1;simp only[akm]at eM
  have hr:(akW #[t,t] ty #[.slice (some ⟨g,o0,none⟩) n cap, .slice (some a) m c]).run P w=
   .ok (.slice (some ⟨g,o0,none⟩) (n+m) cap) (w.setRow g (cur.toList.take (o0+n*i.size)++news++cur.toList.drop (o0+n*i.size+news.length)).toArray):=by
   simp[akW,run_underlying ht,sizeOf,typeInfo,hi,Builtin.lenOf,xu,hf,Addr.add_lit,eM]
  refine⟨_,_,hr,⟨hlen, .inr ⟨g,o0,cap,_,rfl,hbg,setRow_heap w g cur _ e _ hg,xu,Wc,?_,?_⟩⟩,⟨rfl,rfl,rfl,by simp,fun k _ hk=>setRow_other w g k _ (fun e=>hk (by simp[ajV,e]))⟩,Or.inl rfl⟩
  .simp only[List.size_toArray,ajm,ajB,List.length_drop,Array.length_toList];omega
  .rw[List.toList_toArray,ajH,aj5 (by simp;omega),List.drop_take,Nat.add_sub_cancel_left,tC,<-ajH,<-hlen];exact List.take_left
 .have holds:∀j u,xs[j]? =some u->w.cell? ((⟨g,o0,none⟩:Addr).add j)=some u:=fun j u hj=>by
   rw[cL,cell_of_row w g _ cur e (0,0) hg];rw[<-tC,ajU]at hj;split at hj
   .rw[ajF]at hj;simpa using hj
   .cases hj
  have hr:=run_append_grow (P:=P) w t ty e i z ht hi hz ⟨g,o0,none⟩ n cap xs eo.1 holds a m c news hl Jn (by omega) (by omega) (growslice_fits (by omega) Jo);have hge:=grownCap_ge w (n+m) cap e;have Wf:grownCap w (n+m) cap e<=maxLen:=grownCap_le_maxLen w (n+m) cap e Wb;refine⟨_,_,hr, .of ⟨hlen, .inr ⟨w.heap.size,_,_,rfl,Oy,heap_alloc_new w.drew _,hge,Wf,?_,?_⟩⟩,⟨rfl,rfl,rfl,by simp,fun k hk _=>heap_alloc_old w.drew _ hk⟩,Or.inr rfl⟩
  .simp only[Array.size_append,List.size_toArray,size_zeroCells,R3,eo.1,hl,<-akk]
   congr 1
   omega
  .simp only[Array.toList_append,ajH];rw[<-ajH,<-hlen];exact List.take_left
theorem Reads.same{r:Row}{v:Value}{l:List r.den}(h:Reads F w r v l):Reads F w r v l:=h
theorem uR{e:TypeId}{ti:TypeInfo}{z:Value}{r:Row}{v u:Value}{l m out:List r.den}(ty:TypeId)(ht:P.underlying t=some (.slice e))(hi:P.info? e=some ti)(hz:ti.zero=some z)(R4:z.cells.toList=r.eL)(hs:ti.size=r.size)(Rx:ti.bytes<=32768)
 (hv:jf base F w e r v l)(hu:Reads F w r u m)(hm:bZ l m=some out)(hF:∀b,F b->b<w.heap.size)(hb:base<=w.heap.size):
 ∃v' w',(akW #[t,t] ty #[v,u]).run P w= .ok v' w'/\Ext (bq v) w w'/\jf base F w' e r v' out/\(bq v'=bq v\/bq v'=(w.heap.size= ·)):=by
 unfold bZ at hm;split at hm
 case isFalse=>cases hm
 rename_i hlen;obtain rfl:=ajk hm
 have R3:z.cells.size=r.size:=by rw[<-(cD.zero F w r).length,<-R4];simp
 obtain⟨CP,xs,hx,h3⟩:=hv;have Vo:=hu;obtain⟨A,cap,rfl,hmc,Wc,qX⟩:=hu
 have R5:∀(v':Value)(w':World)(news:List Value),news.length=m.length*r.size->(∀i(hi:i<m.length),cD F w r ((news.drop (i*r.size)).take r.size) m[i])->
  mJ w' base e r.size v' (l.length+m.length) (xs++news)->w.grownBy w' v.ownBlock->(v'.ownBlock=v.ownBlock\/v'.ownBlock=some w.heap.size)->
  Ext (bq v) w w'/\jf base F w' e r v' (l++m)/\(bq v'=bq v\/bq v'=(w.heap.size= ·)):=by
  intro v' _ news Vp Vq iY hg oi
  have hm:bq v'=bq v\/bq v'=(w.heap.size= ·):=by
   rcases oi with h|h
   .exact .inl (by unfold bq;rw[h])
   .refine .inr ?_;funext b;unfold bq;rw[h];simp
  have bU:=Ext.Jj hg (g:=bq v) fun k hk=>hk
  have kR:=Step.ext bU hF CP;refine⟨bU,⟨fun k hk=>?_,xs++news,by simpa using iY,fun k hk=>?_⟩,hm⟩
  .rcases hm with h|h
   .rw[h]at hk;exact CP k hk
   .rw[h]at hk;intro hf;have:=hF k hf;omega
  .have Jp:=hx.1
   rcases Nat.lt_or_ge k l.length with ao|hge
   .have hle:(k+1)*r.size<=l.length*r.size:=ajS _ ao;rw[akk]at hle;rw[ajv ao,aj5 (by omega),ajK (by rw[List.length_drop];omega)];exact(h3 k ao).step kR
   .have xv:k-l.length<m.length:=by simp at hk;omega
    have hmul:k*r.size=l.length*r.size+(k-l.length)*r.size:=by rw[<-akk];congr 1;omega
    rw[ajA hge,List.drop_append,Jp,aj1 (by omega),List.nil_append,show k*r.size-l.length*r.size=(k-l.length)*r.size from by omega];exact(Vq _ xv).step kR
 cases A with
 |none=>
  have IJ:m=[]:=by
   cases m with
   |nil=>rfl
   |cons a q=>obtain⟨b,off,h,_⟩:=qX 0 (by simp);cases h
  subst IJ;refine⟨v,w,q6 w base t ty e ti r.size ht hi v _ xs hx _,?_⟩;exact R5 v w [] (by simp) (fun i hi=>absurd hi (by simp)) (by simpa using hx) ⟨rfl,rfl,rfl,ajo _,fun _ _ _=>rfl⟩ (.inl rfl)
 |some ad=>
  have key:∃news:List Value,news.length=m.length*r.size/\(∀j u,news[j]? =some u->w.cell? (ad.add j)=some u)/\∀i(hi:i<m.length),cD F w r ((news.drop (i*r.size)).take r.size) m[i]:=by
   cases m with
   |nil=>exact⟨[],by simp,fun j u h=>by simp at h,fun i hi=>absurd hi (by simp)⟩
   |cons a q=>
    obtain⟨b,off,h,_⟩:=qX 0 (by simp);obtain⟨news,h1,h2,h3⟩:=Vo.news b off h
    obtain rfl:ad=⟨b,off,none⟩:=by simpa using h
    exact⟨news,h1,fun j u hj=>by rw[cL];exact h2 j u hj,h3⟩
  obtain⟨news,Vp,R2,Vq⟩:=key
  have kN:∀u∈news,u.oneCell'=true:=by
   intro u hu;obtain⟨j,hj,rfl⟩:=ajG hu;have nl:=r.size_pos;have hi:j/r.size<m.length:=Nat.div_lt_of_lt_mul (by rw[Nat.mul_comm,<-Vp];exact hj);have hr:=Vq _ hi;refine hr.je _ ?_;have hle:(j/r.size)*r.size+j%r.size=j:=Nat.div_add_mod' j r.size;have ao:=Nat.mod_lt j nl;rw[List.mem_iff_getElem?];refine⟨j%r.size,?_⟩;rw[ajU,if_pos ao,ajF,hle,ajl hj]
  obtain⟨v',w',bw,iY,hg,oi⟩:=yH (P:=P) w base t ty e ti z r.size ti.bytes ht hi hz hs rfl R3 r.size_pos v l.length xs hx ad m.length cap news Vp R2 kN (by simp only[maxLen];omega)
   (Nat.le_trans (Nat.mul_le_mul hlen Rx) (by omega)) hb
  exact⟨v',w',bw,R5 v' w' news Vp Vq iY hg oi⟩
end
end Go.Proofs.YtmihpkfkbfgigaaGreatDoor
end
section
open _root_.Bool renaming false_eq_true->ajp,not_true->akr
open _root_.List.cons renaming injEq->ake
open _root_.List renaming drop_eq_getElem_cons->ajX,length_take->ajB,take_length->ajD
open _root_.Nat renaming add_assoc->akq,add_zero->akm,beq->aju,min_eq_left->aj3
open _root_.Option.some renaming injEq->ajx
open _root_.Prod.mk renaming injEq->akl
open _root_.Go.Result renaming andThen_ok->aj8
open _root_.Go.Sem renaming run_bind->ajR
namespace Go.Proofs.YtmihpkfkbfgigaaGreatDoor
open Go Go.RowKit
theorem bind_some{α β:Type}{o:Option α}{f:α->Option β}{r:β}(h:o.bind f=some r):∃x,o=some x/\f x=some r:=Option.bind_eq_some_iff.1 h
section
variable {P:Program} {n:Nat} {ρ:Nat->Value} {w:World} {K:(Nat->Value)->World->Prop} {Q:Exit->(Nat->Value)->World->Prop}
theorem Jq{id:Nat}(h:Q .normal ρ w):Rv id Q (.exit id) ρ w:=by
 show(bif aju id id then _ else _)
 rw[show aju id id=true from Nat.beq_refl id];exact h
theorem GG{id Gp:Nat}(bP:aju Gp id=false)(h:Q (.exit Gp) ρ w):Rv id Q (.exit Gp) ρ w:=by
 show(bif aju Gp id then _ else _)
 rw[bP];exact h
theorem jf.fz{base:Nat}{F G:Nat->Prop}{w:World}{T:TypeId}{r:Row}{v:Value}{l:List r.den}(h:jf base F w T r v l)(hg:∀k,G k->¬bq v k):jf base (fun b=>F b\/G b) w T r v l:=
 h.keep (Step.freeze F w G) fun k hk=>⟨fun e=>e.elim (h.no k hk) fun e=>hg k e hk,rfl⟩
theorem m9.fz{base:Nat}{F G:Nat->Prop}{w:World}{b:Nat}{T:TypeId}{r:Row}{x:r.den}(h:m9 base F w b T r x)(hg:∀k,G k->¬is b k):m9 base (fun b=>F b\/G b) w b T r x:=by
 obtain⟨h1,h2,es,hh,hr⟩:=h;exact⟨h1,fun e=>e.elim h2 fun e=>hg b e rfl,es,hh,hr.step (Step.freeze F w G)⟩
theorem St.fz{w0 w:World}{F0 F:Nat->Prop}(h:St w0 F0 w F){T:TypeId}{r:Row}{v:Value}{l:List r.den}(ho:jf w0.heap.size F w T r v l):St w0 F0 w (fun b=>F b\/bq v b):=
 h.freeze (bq v) fun b hb=>⟨ho.ge b hb,ho.lt b hb⟩
end
def TI(P:Program)(e:TypeId)(r:Row):Prop:=∃ti z,P.info? e=some ti/\ti.zero=some z/\z.cells.toList=r.eL/\ti.size=r.size/\ti.bytes<=32768
theorem TI.mk{P:Program}{e:TypeId}{r:Row}{k:Nat}(h:(P.info? e).map (fun i=>(i.zero.map (fun z=>z.cells.toList),i.size,decide (i.bytes<=32768)))=some (some r.eL,k,true))(hk:k=r.size):TI P e r:=by
 cases hi:P.info? e with
 |none=>simp[hi]at h
 |some ti=>
  simp only[hi,Option.map_some,ajx,akl,decide_eq_true_eq]at h;obtain⟨h1,h2,h3⟩:=h
  cases hz:ti.zero with
  |none=>simp[hz]at h1
  |some z=>
   simp only[hz,Option.map_some,ajx]at h1;exact⟨ti,z,hi,hz,h1,h2.trans hk,h3⟩
section
variable {P:Program} {n:Nat} {ops:Array Oper} {K:(Nat->Value)->World->Prop} {rest:List Oper} {ρ:Nat->Value} {w:World} {F:Nat->Prop} {base:Nat}
variable {d:Nat} {dd:Option Nat} {ty:TypeId} {pos:String} {aft:Array Edge} {x y c:Operand} {t e:TypeId} {r:Row}
theorem mK{f:Nat}{fs:Array Field}{fd:Field}{oC off:Nat}(k:Nat)(hs:P.underlying t=some (.struct fs))(hf:fs[f]? =some fd)(hi:TI P fd.type r)(hk:fd.offset=k)
 (hx:ev ρ x= .pointer (some ⟨oC,off,none⟩)):Pure P ρ ⟨dd, .fieldAddr t x f,ty,pos,aft,none⟩ (.pointer (some ⟨oC,off+k,none⟩)):=by
 obtain⟨ti,z,h1,_,_,h4,_⟩:=hi;exact uQ k hs hf h1 (by rw[h4];have:=r.size_pos;omega) hk hx
end
end Go.Proofs.YtmihpkfkbfgigaaGreatDoor
namespace Go.Proofs.YtmihpkfkbfgigaaGreatDoor
open Go Go.RowKit
noncomputable def oD(r:Row)(x y:r.den):Bool:= @decide (x=y) (Row.decEq r x y)
def Jr(P:Program)(t:TypeId)(cs:List Value)(v:Value):Prop:=∃D,P.underlying t=some D/\(if jT D=true then v= .agg cs.toArray else cs=[v])
def q7(P:Program)(t:TypeId)(r:Row)(K:Nat):Prop:=
 ∀(d:Nat)(w2 w:World)(F:Nat->Prop)(cs q8:List Value)(x y:r.den)(v v':Value),Jr P t cs v->Jr P t q8 v'->cD F w r cs x->cD F w r q8 y->
  (Op.equalIn (d+K) t v v').run P w2= .ok (decide (x=y)) w2
def My(P:Program)(fs:List Field)(r:Row)(off K:Nat):Prop:=
 ∀(d:Nat)(w2 w:World)(F:Nat->Prop)(xs ys:List Value)(x y:r.den),cD F w r ((xs.drop off).take r.size) x->cD F w r ((ys.drop off).take r.size) y->
  (Op.eqFields (d+K) xs.toArray ys.toArray fs).run P w2= .ok (decide (x=y)) w2
section
variable {P:Program} {t:TypeId} {r:Row} {k:IntKind} {K:Nat}
theorem ER(ht:P.underlying t=some (.int k)):q7 P t (.int k) 1:=by
 intro d w2 w F cs q8 x y v v' ⟨D,hD,h1⟩ ⟨D',Mz,h2⟩ hx hy;rw[ht]at hD Mz;cases hD;cases Mz;obtain rfl:cs=_:=hx;obtain rfl:q8=_:=hy;simp only[jT,ajp,if_false,ake,and_true]at h1 h2;subst h1;subst h2;rw[run_equalIn_int (h:=ht),px]
theorem q9{D:TypeDesc}{ti:TypeInfo}{cs:List Value}{off:Nat}{F:Nat->Prop}{w:World}{x:r.den}(hD:P.underlying t=some D)(hi:P.info? t=some ti)(hs:ti.size=r.size)(kN:jT D=false->r.size=1)
 (hr:cD F w r ((cs.drop off).take r.size) x)(w2:World):∃v,(part t cs.toArray off).run P w2= .ok v w2/\Jr P t ((cs.drop off).take r.size) v:=by
 have hl:=hr.length;have nl:=r.size_pos
 cases hA:jT D with
 |true=>
  refine⟨.agg ((cs.drop off).take r.size).toArray,?_,D,hD,by rw[if_pos hA]⟩;unfold part;rw[ajR,fh hD,hA];simp[sizeOf,typeInfo,hi,hs]
 |false=>
  have h1:=kN hA;rw[h1]at hl⊢
  have ao:off<cs.length:=by
   rw[ajB,List.length_drop]at hl;omega
  refine⟨cs[off],?_,D,hD,?_⟩
  .unfold part;rw[ajR,fh hD,hA];simp[ao]
  .rw[if_neg (by simp[hA])];rw[ajX ao];rfl
theorem ra{f:Field}{off:Nat}(hn:(f.name != "_")=true)(ho:f.offset=off){D:TypeDesc}(hD:P.underlying f.type=some D)(kN:jT D=false->r.size=1)(hi:TI P f.type r)(he:q7 P f.type r K):My P [f] r off K:=by
 intro d w2 w F xs ys x y hx hy;subst ho;obtain⟨ti,z,h1,_,_,h4,_⟩:=hi;obtain⟨v,hv,uS⟩:=q9 hD h1 h4 kN hx w2;obtain⟨v',dz,GH⟩:=q9 hD h1 h4 kN hy w2;have:=he d w2 w F _ _ x y v v' uS GH hx hy
 have MA:f.name≠ "_" :=by simpa using hn
 unfold Op.eqFields;rw[if_pos MA,ajR,hv,aj8,ajR,dz,aj8,ajR,this,aj8]
 by_cases yI:x=y<;>simp[yI,Op.eqFields]
theorem mn{f:Field}{fs:List Field}{a b:Row}{off:Nat}(hn:(f.name != "_")=true)(ho:f.offset=off){D:TypeDesc}(hD:P.underlying f.type=some D)(kN:jT D=false->a.size=1)(hi:TI P f.type a)(he:q7 P f.type a K)
 (hr:My P fs b (off+a.size) K):My P (f::fs) (.pair a b) off K:=by
 intro d w2 w F xs ys x y hx hy;subst ho;obtain⟨ti,z,h1,_,_,h4,_⟩:=hi
 have hle:a.size<=(Row.pair a b).size:=by simp
 have fa:∀(zs:List Value)(u:(Row.pair a b).den),cD F w (.pair a b) ((zs.drop f.offset).take (Row.pair a b).size) u->cD F w a ((zs.drop f.offset).take a.size) u.1:=by
  intro zs u hu;have:=cD.path (.fst (.here (r:=a)):Path (.pair a b) a) hu;simp only[Path.off,List.drop_zero]at this;rw[List.take_take,aj3 hle]at this;exact this
 have R6:∀(zs:List Value)(u:(Row.pair a b).den),cD F w (.pair a b) ((zs.drop f.offset).take (Row.pair a b).size) u->cD F w b ((zs.drop (f.offset+a.size)).take b.size) u.2:=by
  intro zs u hu;have:=cD.path (.snd (.here (r:=b)):Path (.pair a b) b) hu;simp only[Path.off,akm]at this;rw[List.drop_take,List.drop_drop]at this;rw[show(Row.pair a b).size-a.size=b.size from by simp]at this;rw[List.take_take,Nat.min_self]at this;exact this
 obtain⟨v,hv,uS⟩:=q9 hD h1 h4 kN (fa xs x hx) w2;obtain⟨v',dz,GH⟩:=q9 hD h1 h4 kN (fa ys y hy) w2;have h5:=he d w2 w F _ _ _ _ v v' uS GH (fa xs x hx) (fa ys y hy);have h6:=hr d w2 w F xs ys _ _ (R6 xs x hx) (R6 ys y hy)
 have MA:f.name≠ "_" :=by simpa using hn
 unfold Op.eqFields;rw[if_pos MA,ajR,hv,aj8,ajR,dz,aj8,ajR,h5,aj8];obtain⟨x1,x2⟩:=x;obtain⟨y1,y2⟩:=y;by_cases yI:x1=y1
 .simp only[yI,decide_true,akr,ajp,if_false,h6]
  congr 1
  simp[Prod.ext_iff]
 .simp[yI,Prod.ext_iff]
theorem nV{fs:Array Field}(ht:P.underlying t=some (.struct fs))(hp:P.stoodInHeld t=false)(h:My P fs.toList r 0 K):q7 P t r (K+1):=by
 intro d w2 w F cs q8 x y v v' ⟨D,hD,h1⟩ ⟨D',Mz,h2⟩ hx hy;rw[ht]at hD Mz;cases hD;cases Mz;simp only[jT,if_true]at h1 h2;subst h1;subst h2
 have hf:P.fieldsOf t=fs:=by simp[Program.fieldsOf,ht]
 have R7:=hx.length;have Vr:=hy.length;rw[<-akq,run_equalIn_struct _ _ _ _ _ (by rw[hf];exact ht) hp,hf];exact h d w2 w F cs q8 x y (by rw[List.drop_zero,<-R7,ajD];exact hx) (by rw[List.drop_zero,<-Vr,ajD];exact hy)
variable {ρ:Nat->Value} {dd:Option Nat} {ty:TypeId} {pos:String} {aft:Array Edge} {x y:Operand} {u:TypeId}
theorem GI{d:Nat}{F:Nat->Prop}{w:World}{es mL:List Value}{a b:r.den}(hE:q7 P t r K)(hd:d+K=10000)(hg:P.eqGuardType P.depth t=false)(hD:(P.underlying t).any jT=true)
 (hx:ev ρ x= .agg es.toArray)(hy:ev ρ y= .agg mL.toArray)(ha:cD F w r es a)(hb:cD F w r mL b):
 Pure P ρ ⟨dd, .binOp .eql t x y u,ty,pos,aft,none⟩ (.bool (oD r a b)):=fun w2=>by
 cases hu:P.underlying t with
 |none=>simp[hu]at hD
 |some D=>
  have hA:jT D=true:=by simpa[hu]using hD
  have:=hE d w2 w F es mL a b _ _ ⟨D,hu,by rw[if_pos hA]⟩ ⟨D,hu,by rw[if_pos hA]⟩ ha hb;rw[hd]at this;simp only[execOp,hx,hy,ajR,run_eqGuard_agg _ _ _ _ _ _ _ hg,aj8,run_eql_struct,this];rfl
theorem GJ{d:Nat}{F:Nat->Prop}{w:World}{es mL:List Value}{a b:r.den}(hE:q7 P t r K)(hd:d+K=10000)(hg:P.eqGuardType P.depth t=false)(hD:(P.underlying t).any jT=true)
 (hx:ev ρ x= .agg es.toArray)(hy:ev ρ y= .agg mL.toArray)(ha:cD F w r es a)(hb:cD F w r mL b):
 Pure P ρ ⟨dd, .binOp .neq t x y u,ty,pos,aft,none⟩ (.bool (!oD r a b)):=fun w2=>by
 cases hu:P.underlying t with
 |none=>simp[hu]at hD
 |some D=>
  have hA:jT D=true:=by simpa[hu]using hD
  have:=hE d w2 w F es mL a b _ _ ⟨D,hu,by rw[if_pos hA]⟩ ⟨D,hu,by rw[if_pos hA]⟩ ha hb;rw[hd]at this;simp only[execOp,hx,hy,ajR,run_eqGuard_agg _ _ _ _ _ _ _ hg,aj8,run_neq_struct,this];rfl
end
section
variable {P:Program} {n:Nat} {ops:Array Oper} {K:(Nat->Value)->Prop} {rest:List Oper} {ρ:Nat->Value} {w:World} {F:Nat->Prop}
variable {d:Nat} {ty:TypeId} {pos:String} {aft:Array Edge} {x y:Operand} {t e:TypeId} {r:Row}
theorem At.st{w':World}{b off:Nat}{a:r.den}(h:At F w r b off a)(hF:∀b,F b->b<w.heap.size)(hs:St w F w' F):At F w' r b off a:=by
 obtain⟨es,hl,hc,hr⟩:=h;refine⟨es,hl,fun j u hu=>?_,hr.step (hs.step hF)⟩;have:=hc j u hu;have ao:b<w.heap.size:=block_lt_of_cell this;exact(World.cell?_of_block (hs.below.block b ao)).trans this
end
end Go.Proofs.YtmihpkfkbfgigaaGreatDoor
end
section
open _root_.Go.Addr.mk renaming injEq->akS
open _root_.Array renaming toArray_toList->aj9
open _root_.Go.Instr renaming fill->ak0
open _root_.List renaming append_assoc->ajH,drop_append_of_le_length->aj5,drop_of_length_le->aj1,getElem?_append->ak5,getElem?_drop->ajF,getElem?_take->ajU,length_append->ajm,length_cons->ajy,length_set->akN,length_take->ajB,map_cons->akv,take_append_drop->akQ
open _root_.Nat renaming add_mul->akk,min_eq_left->aj3,mul_le_mul_right->ajS
open _root_.Option.some renaming injEq->ajx
open _root_.Go.Value renaming ownBlock->ajV
open _root_.Go.Value.slice renaming injEq->akK
namespace Go.Proofs.YtmihpkfkbfgigaaGreatDoor
open Go Go.RowKit
section
variable {P:Program} {n:Nat} {ops:Array Oper} {K:(Nat->Value)->World->Prop} {rest:List Oper} {ρ:Nat->Value} {w:World} {F:Nat->Prop} {base:Nat}
variable {d:Nat} {ty:TypeId} {pos:String} {aft:Array Edge} {x y:Operand} {t e:TypeId} {r s:Row}
def aQ{α:Type}(l:List α)(i:Int)(y:α):List α:=l.set i.toNat y
theorem jf.put{g o0 m0 Pt q:Nat}{v:Value}{l:List r.den}(h:jf base F w e r v l)(hg:v= .slice (some ⟨g,o0,none⟩) m0 Pt)(hq:q<l.length)(hF:∀b,F b->b<w.heap.size)(p:Path r s){vs:List Value}{u:s.den}(hv:cD F w s vs u):
 ∃cur,w.heap[g]? =some (.cells cur e (0,0))/\o0+q*r.size+p.off+vs.length<=cur.size/\
  Ext (bq v) w (w.setRow g (cur.toList.take (o0+q*r.size+p.off)++vs++cur.toList.drop (o0+q*r.size+p.off+vs.length)).toArray)/\
  jf base F (w.setRow g (cur.toList.take (o0+q*r.size+p.off)++vs++cur.toList.drop (o0+q*r.size+p.off+vs.length)).toArray) e r v (l.set q (p.set l[q] u)):=by
 obtain⟨CP,xs,⟨Jp,hx⟩,h3⟩:=h
 rcases hx with⟨rfl,_⟩|⟨g',o1,cap,cur,rfl,hb,hh,h1,h2,qY,tC⟩
 .simp at hg
 .simp only[akK,ajx,akS,and_true]at hg;obtain⟨⟨rfl,rfl⟩,rfl,rfl⟩:=hg;have hle:=p.le;have hl:=hv.length;have hmul:(q+1)*r.size<=l.length*r.size:=ajS _ hq;rw[akk]at hmul;have GF:l.length*r.size<=cap*r.size:=ajS _ h1
  have bU:Ext (bq (.slice (some ⟨g',o1,none⟩) l.length cap)) w (w.setRow g' (cur.toList.take (o1+q*r.size+p.off)++vs++cur.toList.drop (o1+q*r.size+p.off+vs.length)).toArray):=
   ⟨rfl,rfl,rfl,by simp,fun k _ hk=>setRow_other w g' k _ fun e=>hk (by simp[bq,ajV,e])⟩
  have kR:=Step.ext bU hF CP;refine⟨cur,hh,by omega,bU,CP,xs.take (q*r.size+p.off)++vs++xs.drop (q*r.size+p.off+vs.length),⟨by simp;omega, .inr ⟨g',o1,cap,_,by simp,hb,setRow_heap w g' _ _ e (0,0) hh,by simpa using h1,h2,by simp;omega,?_⟩⟩,?_⟩
  .rw[akN,List.toList_toArray,<-tC]
   have e0:(cur.toList.take (o1+q*r.size+p.off)++vs++cur.toList.drop (o1+q*r.size+p.off+vs.length)).drop o1=(cur.toList.drop o1).take (q*r.size+p.off)++vs++(cur.toList.drop o1).drop (q*r.size+p.off+vs.length):=by
    rw[ajH,aj5 (by simp;omega),List.drop_take,List.drop_drop,show o1+q*r.size+p.off-o1=q*r.size+p.off by omega,ajH,show o1+q*r.size+p.off+vs.length=o1+(q*r.size+p.off+vs.length) by omega]
   rw[e0]
   have uv:cap*r.size<=(cur.toList.drop o1).length:=by simp;omega
   generalize cur.toList.drop o1=c2 at*
   have e1:(c2.take (l.length*r.size)).take (q*r.size+p.off)=c2.take (q*r.size+p.off):=by rw[List.take_take,aj3 (by omega)]
   rw[e1,List.take_append,List.take_of_length_le (by simp;omega),List.drop_take]
   congr 1
   simp
   congr 1
   omega
  .intro i gj
   have hi:i<l.length:=by simpa using gj
   have R8:(i+1)*r.size<=l.length*r.size:=ajS _ hi;rw[akk]at R8
   have A:∀j,j<r.size->((xs.take (q*r.size+p.off)++vs++xs.drop (q*r.size+p.off+vs.length)))[i*r.size+j]? =
    if i*r.size+j<q*r.size+p.off then xs[i*r.size+j]? else if i*r.size+j<q*r.size+p.off+vs.length then vs[i*r.size+j-(q*r.size+p.off)]? else xs[i*r.size+j]? :=by
    intro j hj;rw[ajH,ak5];simp only[ajB,Jp,aj3 (show q*r.size+p.off<=l.length*r.size from by omega)];split
    .rw[ajU,if_pos (by assumption)]
    .rw[ak5];split
     .rename_i h1 h2;rw[if_pos (by omega)]
     .rename_i h1 h2;rw[if_neg (by omega),ajF]
      congr 1
      omega
   by_cases Wg:i=q
   .subst Wg;rw[List.getElem_set_self];have hp:=(h3 i hi).put p hv
    have:((xs.take (i*r.size+p.off)++vs++xs.drop (i*r.size+p.off+vs.length)).drop (i*r.size)).take r.size=
     ((xs.drop (i*r.size)).take r.size).take p.off++vs++((xs.drop (i*r.size)).take r.size).drop (p.off+s.size):=by
     have R9:((xs.drop (i*r.size)).take r.size).length=r.size:=by rw[ajB,List.length_drop,Jp];omega
     have Wh:∀j,j<r.size->((xs.drop (i*r.size)).take r.size)[j]? =xs[i*r.size+j]? :=fun j hj=>by rw[ajU,if_pos hj,ajF]
     generalize(xs.drop (i*r.size)).take r.size=seg at R9 Wh
     apply List.ext_getElem?
     intro j;rw[ak5 (l₁:=seg.take p.off++vs),ak5 (l₁:=seg.take p.off),ajm,ajB,R9,aj3 (show p.off<=r.size from by omega),ajU (l:=List.drop _ _)];by_cases hj:j<r.size
     .rw[if_pos hj,ajF,A j hj];by_cases Wi:j<p.off
      .rw[if_pos (by omega),if_pos (by omega),if_pos Wi,ajU,if_pos Wi,Wh j hj]
      .rw[if_neg (by omega)];by_cases Ow:j<p.off+vs.length
       .rw[if_pos (by omega),if_pos Ow,if_neg Wi]
        congr 1
        omega
       .rw[if_neg (by omega),if_neg Ow,ajF,<-Wh j hj]
        congr 1
        omega
     .rw[if_neg hj,if_neg (by omega),ajF,List.getElem?_eq_none (by omega)]
    rw[this];exact hp.step kR
   .rw[List.getElem_set_ne (fun e=>Wg e.symm)]
    have:((xs.take (q*r.size+p.off)++vs++xs.drop (q*r.size+p.off+vs.length)).drop (i*r.size)).take r.size=(xs.drop (i*r.size)).take r.size:=by
     apply List.ext_getElem?
     intro j;rw[ajU,ajU];by_cases hj:j<r.size
     .rw[if_pos hj,if_pos hj,ajF,A j hj,ajF]
      rcases Nat.lt_or_gt_of_ne Wg with ao|hgt
      .have:(i+1)*r.size<=q*r.size:=ajS _ ao;rw[akk]at this;rw[if_pos (by omega)]
      .have:(q+1)*r.size<=i*r.size:=ajS _ hgt;rw[akk]at this;rw[if_neg (by omega),if_neg (by omega)]
     .rw[if_neg hj,if_neg hj]
    rw[this];exact(h3 i hi).step kR
theorem jf.at{g o0 m0 Pt q:Nat}{i:Int}{v:Value}{l:List r.den}{a:r.den}(h:jf base F w e r v l)(hg:v= .slice (some ⟨g,o0,none⟩) m0 Pt)(hq:i=(q:Nat))(nW:idx l i=some a):At F w r g (o0+q*r.size) a:=by
 obtain⟨b,off,cap,k,hv,hk,ao,oi⟩:=h.reads.elem nW
 obtain rfl:k=q:=by omega
 rw[hg]at hv;simp only[akK,ajx,akS,and_true]at hv;obtain⟨⟨rfl,rfl⟩,_⟩:=hv;exact oi
theorem Js(cs:List Value):∀(k:Nat)(pre post:List Value),post.length=cs.length->∀(tail:List Value),
 (cs.zipIdx k).foldl (fun(acc:Array Value)(cj:Value×Nat)=>acc.setIfInBounds (pre.length-k+cj.2) cj.1) (pre++post++tail).toArray=(pre++cs++tail).toArray\/pre.length<k:=by
 induction cs with
 |nil=>intro k pre post hp tail;left;simp at hp;simp[hp]
 |cons c q ih=>
  intro k pre post hp tail;by_cases hk:pre.length<k
  .exact .inr hk
  cases post with
  |nil=>simp at hp
  |cons p0 post=>
   simp only[List.zipIdx_cons,List.foldl_cons]
   rcases ih (k+1) (pre++[c]) post (by simpa using hp) tail with h|h
   .left
    have e1:((pre++p0::post++tail).toArray.setIfInBounds (pre.length-k+k) c)=((pre++[c])++post++tail).toArray:=by
     rw[Nat.sub_add_cancel (by omega)];simp
    rw[e1]
    have e2:(pre++[c]).length-(k+1)=pre.length-k:=by simp
    rw[e2]at h;rw[h];simp
   .simp at h;omega
theorem sf{place:Nat->Option (Nat×Nat)}{i off size:Nat}{v:Value}{vs cells:List Value}{rest:List (Nat×Value)}(hp:place i=some (off,size))(hv:v.cells.toList=vs)(hs:vs.length=size)(hle:off+size<=cells.length):
 ak0 place cells.toArray ((i,v)::rest)=ak0 place (cells.take off++vs++cells.drop (off+size)).toArray rest:=by
 have hvc:v.cells=vs.toArray:=by rw[<-hv,aj9]
 have hf:=Js vs 0 (cells.take off) ((cells.drop off).take size) (by simp;omega) (cells.drop (off+size))
 have wV:cells.take off++(cells.drop off).take size++cells.drop (off+size)=cells:=by
  rw[ajH,<-List.drop_drop,akQ,akQ]
 have hlen:(cells.take off).length=off:=by simp;omega
 rw[wV,hlen,Nat.sub_zero]at hf
 rcases hf with hf|hf
 case inr=>omega
 rw[ak0];simp only[hp,hvc,List.size_toArray];rw[if_neg (by simp;omega)]
 congr 1
 rw[<-Array.foldl_toList,Array.toList_zipIdx];exact hf
inductive uT(F:Nat->Prop)(w:World)(r:Row):List Value->List r.den->Prop where
 |nil:uT F w r [] []
 |cons {v:Value} {vs:List Value} {cs:List Value} {a:r.den} {l:List r.den} (hc:v.cells.toList=cs) (hr:cD F w r cs a) (h:uT F w r vs l):uT F w r (v::vs) (a::l)
theorem uT.length{vs:List Value}{l:List r.den}(h:uT F w r vs l):vs.length=l.length:=by
 induction h with
 |nil=>rfl
 |cons _ _ _ ih=>simp[ih]
theorem uT.fill{vs:List Value}{l:List r.den}(h:uT F w r vs l):∀(k:Nat)(pre post:List Value),pre.length=k*r.size->post.length=vs.length*r.size->
 ∃xs,ak0 (fun i=>some (i*r.size,r.size)) (pre++post).toArray ((vs.zipIdx k).map fun p=>(p.2,p.1))=some (pre++xs).toArray/\xs.length=l.length*r.size/\∀i(hi:i<l.length),cD F w r ((xs.drop (i*r.size)).take r.size) l[i]:=by
 induction h with
 |nil=>
  intro k pre post hp hq;have:post=[]:=List.eq_nil_of_length_eq_zero (by simpa using hq);subst this;exact⟨[],by simp[ak0],by simp,fun i hi=>absurd hi (by simp)⟩
 | @cons v vs cs a l hc hr h ih=>
   intro k pre post hp hq;have hl:=hr.length;rw[ajy,akk,Nat.one_mul]at hq;obtain⟨xs,h1,h2,h3⟩:=ih (k+1) (pre++cs) (post.drop r.size) (by rw[ajm,hp,hl,akk,Nat.one_mul]) (by rw[List.length_drop,hq];omega);refine⟨cs++xs,?_,by rw[ajm,hl,h2,ajy,akk,Nat.one_mul,Nat.add_comm],fun i hi=>?_⟩
   .simp only[List.zipIdx_cons,akv];rw[sf (place:=fun i=>some (i*r.size,r.size)) rfl hc hl (by rw[ajm,hp,hq];omega)];rw[<-hp,List.take_left',List.drop_append,aj1 (by omega),List.nil_append,show pre.length+r.size-pre.length=r.size from by omega]
    .rw[h1];simp[ajH]
    .rfl
   .cases i with
    |zero=>
     simp only[Nat.zero_mul,List.drop_zero,List.getElem_cons_zero];rw[<-hl,List.take_left']
     .exact hr
     .rfl
    |succ i=>
     rw[akk,Nat.one_mul,Nat.add_comm,<-List.drop_drop,<-hl,List.drop_left',hl]
     .simpa using h3 i (by simpa using hi)
     .rfl
def Sa(place:Nat->Option (Nat×Nat))(F:Nat->Prop)(w:World)(r:Row)(parts:List (Nat×Value))(x x':r.den):Prop:=
 ∀es,cD F w r es x->∃mL,ak0 place es.toArray parts=some mL.toArray/\cD F w r mL x'
theorem Sa.nil{place:Nat->Option (Nat×Nat)}{x:r.den}:Sa place F w r [] x x:=fun es h=>⟨es,by simp[ak0],h⟩
theorem Sa.cons{place:Nat->Option (Nat×Nat)}{i off size:Nat}{v:Value}{vs:List Value}{parts:List (Nat×Value)}{x x':r.den}{u:s.den}(p:Path r s)(hp:place i=some (off,size))(ho:p.off=off)(hz:s.size=size)(hv:v.cells.toList=vs)(hr:cD F w s vs u)
 (h:Sa place F w r parts (p.set x u) x'):Sa place F w r ((i,v)::parts) x x':=fun es he=>by
 subst ho;subst hz;have hle:=p.le;have hl:=hr.length;rw[sf hp hv hl (by rw[he.length];omega)];exact h _ (he.put p hr)
end
end Go.Proofs.YtmihpkfkbfgigaaGreatDoor
end
section
open _root_.Bool renaming and_eq_true->akD
open _root_.List renaming getElem?_eq_getElem->ajl,getElem?_eq_some_iff->ajn,getElem_append_left->ajv,getElem_append_right->ajA,getElem_of_mem->ajG,map_cons->akv,mem_append->ajL,take_length->ajD
open _root_.Nat renaming blt->akf,le_refl->ajo
namespace Go.Proofs.YtmihpkfkbfgigaaGreatDoor
open Go Go.RowKit Go.ChangeShapes Go.WideShapes Go.ChangeAt Go.Deep
def WF:(r:Row)->r.den->Prop
 | .int k,n=>k.min<=n/\n<=k.max
 | .bool,_=>True
 | .str,s=>s.size<=maxLen
 | .slice e,l=>l.length<=maxLen/\∀x∈l,WF e x
 | .jE,_=>True
 | .nul _,_=>True
 | .map ..,_=>True
 | .pair a b,x=>WF a x.1/\WF b x.2
def db:(r:Row)->r.den->Nat
 | .int _,_=>1
 | .bool,_=>1
 | .str,s=>s.size+1
 | .slice e,l=>(l.map (db e)).sum+1
 | .jE,_=>1
 | .nul _,_=>1
 | .map ..,_=>1
 | .pair a b,x=>db a x.1+db b x.2
theorem Ar:(r:Row)->(x:r.den)->0<db r x
 | .int _,_=>by simp[db]
 | .bool,_=>by simp[db]
 | .str,s=>by simp[db]
 | .slice e,l=>by simp[db]
 | .jE,_=>by simp[db]
 | .nul _,_=>by simp[db]
 | .map ..,_=>by simp[db]
 | .pair a b,x=>by have:=Ar a x.1;simp[db];omega
theorem oj{H:Type}:(l:List (DataW H))->Rows.uptoBulkAll l=(l.map Rows.uptoBulk).sum
 |[]=>by simp[Rows.uptoBulkAll]
 |a::l=>by simp[Rows.uptoBulkAll,oj l]
def here(w:World)(b:Nat):Prop:=b<w.heap.size
def fI(P:Program)(t:TypeId)(r:Row):Prop:=
 ∀(H:Type)(enc:TypeId×Value->H)(w:World)(spare:Nat->Bool)(held:Bool)(fuel:Nat)(cs:List Value)(x:DataW H×List MemPlace),DataW.trod enc P w 0 spare held fuel t cs=some x->
  ∃y:r.den,cD (here w) w r cs y/\WF r y/\db r y<=Rows.uptoBulk x.1
def uw(P:Program)(fs:List Field)(r:Row)(off:Nat):Prop:=
 ∀(H:Type)(enc:TypeId×Value->H)(w:World)(spare:Nat->Bool)(held:Bool)(n:Nat)(cs:List Value)(xs:List (DataW H×List MemPlace)),xs.length=fs.length->
  (∀(i:Nat)(f:Field),fs[i]? =some f->DataW.trod enc P w 0 spare held n f.type ((cs.drop f.offset).take (P.cellsOf f.type))=xs[i]?)->off+r.size<=cs.length->
  ∃y:r.den,cD (here w) w r ((cs.drop off).take r.size) y/\WF r y/\db r y<=Rows.uptoBulkAll (xs.map (·.1))
section
variable {P:Program} {t e:TypeId} {r a b:Row} {k:IntKind}
theorem GK(ht:P.underlying t=some (.int k)):fI P t (.int k):=by
 intro H enc w spare held fuel cs x h;obtain⟨n,rfl,rfl,hn⟩:=DataW.trod_int ht h;exact⟨n,rfl,by simpa[Lit.wf,WF]using hn,by simp[db,Rows.uptoBulk]⟩
theorem xw(ht:P.underlying t=some .string):fI P t .str:=by
 intro H enc w spare held fuel cs x h;obtain⟨s,rfl,rfl,hs⟩:=DataW.trod_string ht h;exact⟨s,rfl,hs,Nat.le_of_eq rfl⟩
theorem oF{α:Type}{p:Nat->α->Prop}:(n:Nat)->(∀i,i<n->∃x,p i x)->∃l:List α,l.length=n/\∀i(h:i<l.length),p i l[i]
 |0,_=>⟨[],rfl,fun i h=>absurd h (by simp)⟩
 |n+1,h=>by
  obtain⟨l,hl,hp⟩:=oF n fun i hi=>h i (by omega)
  obtain⟨x,hx⟩:=h n (by omega);refine⟨l++[x],by simp[hl],fun i hi=>?_⟩
  rcases Nat.lt_or_ge i l.length with ao|hge
  .rw[ajv ao];exact hp i ao
  .obtain rfl:i=n:=by simp at hi;omega
   rw[ajA hge];simpa[hl]using hx
theorem gf(ht:P.underlying t=some (.slice e))(hs:P.cellsOf e=r.size)(he:fI P e r):fI P t (.slice r):=by
 intro H enc w spare held fuel cs x h
 rcases open_slice ht h with⟨rfl,rfl⟩|⟨ad,len,cap,m,n,D,Pl,rfl,_,hl,hm,MB,rfl,hi⟩
 .exact⟨[],cD.nil _ _ _,⟨by simp[maxLen],fun x hx=>absurd hx (by simp)⟩,by simp[db,Rows.uptoBulk]⟩
 .have hlm:len<=m:=by rw[MB];split<;>omega
  have key:∀i,i<len->∃y:r.den,∃q8,(q8.length=r.size/\(∀j,j<r.size->w.cell? ((ad.add (i*r.size)).add j)=q8[j]?))/\cD (here w) w r q8 y/\WF r y/\db r y<=Rows.uptoBulk (D i):=by
   intro i gj;obtain⟨q8,hc,htr⟩:=hi i (by omega);rw[hs]at hc;obtain⟨_,As,uv⟩:=World.cells?_some hc;obtain⟨y,h1,h2,h3⟩:=he H enc w spare held n q8 _ htr;exact⟨y,q8,⟨As,uv⟩,h1,h2,h3⟩
  obtain⟨l,Ah,hp⟩:=oF len key;subst Ah;have nl:=r.size_pos;refine⟨l,⟨some ad,cap,rfl,hl,hm,fun i hi=>?_⟩,⟨by omega,fun x hx=>?_⟩,?_⟩
  .obtain⟨q8,⟨As,uv⟩,hr,_,_⟩:=hp i hi;obtain⟨Vs,⟨wW,xx⟩,_⟩:=hp 0 (by omega);have h0:=xx 0 nl;rw[ajl (by omega)]at h0;simp only[Nat.zero_mul,Addr.add,if_true]at h0
   have r8:ad.spot=none:=by
    cases r8:ad.spot with
    |none=>rfl
    |some q=>
     unfold World.cell? at h0;split at h0
     .simp[r8]at h0
     .cases h0
   obtain⟨bb,off,sp⟩:=ad;simp only at r8;subst r8;refine⟨bb,off,q8,rfl,block_lt_of_cell h0,As,fun j u hu=>?_,hr⟩;have hj:j<q8.length:=(ajn.1 hu).1;have:=uv j (by omega);rw[cL,cL]at this;rw[this,hu]
  .obtain⟨i,hi,rfl⟩:=ajG hx;obtain⟨_,_,_,h2,_⟩:=hp i hi;exact h2
  .simp only[db,Rows.uptoBulk,oj]
   have:∀(n:Nat),n<=l.length->((l.take n).map (db r)).sum<=(((List.range n).map D).map Rows.uptoBulk).sum:=by
    intro n hn
    induction n with
    |zero=>simp
    |succ n ih=>
     have h1:=ih (by omega);obtain⟨_,_,_,_,h3⟩:=hp n (by omega);rw[List.take_succ_eq_append_getElem (by omega),List.range_succ];simp only[List.map_append,List.sum_append,akv,List.map_nil,List.sum_cons,List.sum_nil];omega
   have h1:=this l.length (ajo _);rw[ajD]at h1;omega
theorem eG{f:Field}{off:Nat}(ho:f.offset=off)(hc:P.cellsOf f.type=r.size)(he:fI P f.type r):uw P [f] r off:=by
 intro H enc w spare held n cs xs hl hx _;subst ho
 match xs,hl with
 |[x],_=>
  have h:=hx 0 f rfl;rw[hc]at h;obtain⟨y,h1,h2,h3⟩:=he H enc w spare held n _ x h;exact⟨y,h1,h2,by simpa[Rows.uptoBulkAll]using h3⟩
theorem bx{f:Field}{fs:List Field}{off:Nat}(ho:f.offset=off)(hc:P.cellsOf f.type=a.size)(he:fI P f.type a)(hr:uw P fs b (off+a.size)):uw P (f::fs) (.pair a b) off:=by
 intro H enc w spare held n cs xs hl hx hle;subst ho
 match xs,hl with
 |x::xs,hl=>
  have h:=hx 0 f rfl;rw[hc]at h;obtain⟨y,h1,h2,h3⟩:=he H enc w spare held n _ x h;simp only[Row.size]at hle;obtain⟨z,g1,g2,g3⟩:=hr H enc w spare held n cs xs (by simpa using hl) (fun i f' hf=>by simpa using hx (i+1) f' (by simpa using hf)) (by omega);refine⟨(y,z),⟨_,_,?_,h1,g1⟩,⟨h2,g2⟩,by simp only[db,akv,Rows.uptoBulkAll];omega⟩;simp only[Row.size];rw[<-List.drop_drop,List.take_add]
theorem dN{fs:Array Field}(ht:P.underlying t=some (.struct fs))(hc:P.cellsOf t=r.size)(h:uw P fs.toList r 0):fI P t r:=by
 intro H enc w spare held fuel cs x hx;obtain⟨xs,n,_,rfl,hlen,Jp,hf⟩:=DataW.trod_struct ht hx;rw[hc]at hlen;obtain⟨y,h1,h2,h3⟩:=h H enc w spare held n cs xs (by simpa using Jp) (fun i f hi=>hf i f (by simpa using hi)) (by omega);rw[List.drop_zero,<-hlen,ajD]at h1;exact⟨y,h1,h2,by simp only[Rows.uptoBulk];omega⟩
variable {H:Type} {enc:TypeId×Value->H} {w:World} {base:Nat} {spare:Nat->Bool} {held:Bool} {v:Value} {d:DataW H} {ps:List MemPlace}
theorem ES(ht:P.underlying t=some (.int k))(hv:Value.okWide P w .any base t v)(h:DataW.Trod enc P w 0 spare held t v d ps):∃n:Int,v= .int k n/\WF (.int k) n/\db (.int k) n<=Rows.uptoBulk d:=by
 obtain⟨x,rfl,rfl,rfl,wx⟩:=open_int ht hv h;exact⟨x,rfl,by simpa[Lit.wf,WF]using wx,by simp[db,Rows.uptoBulk]⟩
theorem Da{fs:Array Field}(ht:P.underlying t=some (.struct fs))(ho:fI P t r)(hv:Value.okWide P w .any base t v)(h:DataW.Trod enc P w 0 spare held t v d ps):
 ∃(es:List Value)(x:r.den),v= .agg es.toArray/\cD (here w) w r es x/\WF r x/\db r x<=Rows.uptoBulk d:=by
 obtain⟨cs,rfl,_⟩:=okWide_struct ht hv;obtain⟨fuel,hf⟩:=h;obtain⟨x,h1,h2,h3⟩:=ho H enc w spare held fuel _ _ hf;exact⟨cs.toList,x,by simp,by simpa[Value.cells]using h1,h2,h3⟩
theorem p6(hl:laidOutB P=true){W W':World}(hb:Below W.heap.size W W'){sp:Nat->Bool}:(ts:List TypeId)->(vs:List Value)->(ds:List (DataW H))->(ps:List MemPlace)->
 (∀t∈ts,(P.readableRec t&&akf t P.types.size)=true)->DataW.TrodAll enc P W 0 (fun _=>true) true ts vs ds ps->(∀x∈ps,x.block<W.heap.size)->(∀x∈ps,sp x.block=true)->DataW.TrodAll enc P W' 0 sp true ts vs ds ps
 |[],[],[],_,_,h,_,_=>h
 |t::ts,v::vs,d::ds,ps,hr,h,ao,r8=>by
  obtain⟨p,q,h1,h2,rfl⟩:=h;have ht:=hr t (by simp);simp only[akD,Nat.blt_eq]at ht
  exact⟨p,q,WideElems.Trod_stays hl ht.1 ht.2 h1 (fun x hx=>hb.same (ao x (by simp[hx]))) (fun x hx=>r8 x (by simp[hx])),
   p6 hl hb ts vs ds q (fun t ht=>hr t (by simp[ht])) h2 (fun x hx=>ao x (by simp[hx])) (fun x hx=>r8 x (by simp[hx])),rfl⟩
theorem wX{f:Func}{s:ChangeSpec}{apart fresh handsOn again:Bool}{W W':World}{args:Array Value}{v:Value}{ds gs:List (DataW H)}{before pa pv:List MemPlace}
 (hW:DataW.Whole enc P f.params.toList s.vars apart W args.toList ds gs before)
 (uU:∀(b:Nat)(sp:Nat->Bool)(hd:Bool),DataW.TrodAll enc P W' b sp hd f.resultTypes.toList (v.resultList f.resultTypes.size) (s.fn H (ds++gs)).results [])
 (ET:∀sp:Nat->Bool,(∀p∈before,sp p.block=true)->DataW.TrodAll enc P W' 0 sp true f.params.toList args.toList (s.fn H (ds++gs)).args pa)
 (Oz:∀sp:Nat->Bool,(∀p∈before,sp p.block=true)->DataW.TrodVars enc P W' sp s.vars (s.fn H (ds++gs)).vars pv)
 (Ry:before=pa++pv)(hb:Below W.heap.size W W')
 (nn:∀(j:Nat)(t:TypeId)(r:Value),f.resultTypes[j]? =some t->(v.resultList f.resultTypes.size)[j]? =some r->Value.okWide P W' .any 0 t r):
 s.post enc P f apart fresh handsOn again W args v W':=by
 have ao:∀p∈before,p.block<W.heap.size:=fun p hp=>hW.lt p hp
 have hold:∀p∈before,(fun b=>decide (b<W.heap.size)) p.block=true:=fun p hp=>by simpa using ao p hp
 refine⟨ds,gs,before,[],pa,pv,hW,uU _ _ _,ET _ hold,Oz _ hold,World.keptBut_mono (fun p hp=>⟨hp,?_⟩) (hb.frame (· ∈before)),fun _=>?_⟩
 .rw[Ry,ajL]at hp;exact Or.inr hp
 .obtain⟨_,_,_,_,_,hz,hn⟩:=hW;refine⟨nn,_,_,([]++pa)++pv,⟨[]++pa,pv,trodAll_append (ET _ (fun _ _=>rfl)) (uU _ _ _),Oz _ (fun _ _=>rfl),rfl,?_,?_⟩,?_⟩
  .intro b off hp
   have cn:MemPlace.cell b off∈before:=by rw[Ry];simpa using hp
   rw[hb.frozen (ao _ cn)];exact hz b off cn
  .intro ha;have:=hn ha;rw[Ry]at this;simpa using this
  .intro p hp _;rw[Ry];simpa using hp
end
end Go.Proofs.YtmihpkfkbfgigaaGreatDoor
end
section
open _root_.List.cons renaming injEq->ake
open _root_.Nat renaming add_mul->akk
open _root_.Option.some renaming inj->ajk
open _root_.Go.Value.slice renaming injEq->akK
namespace Go.Proofs.YtmihpkfkbfgigaaGreatDoor
open Go Go.RowKit
def fa{α:Type}(l:List α)(a b:Int):Option (List α):=if 0<=a/\a<=b/\b<=l.length then some ((l.take b.toNat).drop a.toNat)else none
variable {F:Nat->Prop} {w:World} {r:Row}
theorem cD.cut{A:Option Addr}{cap:Nat}{l:List r.den}{a b:Nat}(h:cD F w (.slice r) [.slice A l.length cap] l)(h1:a<=b)(h2:b<=l.length):
 cD F w (.slice r) [sliced A a b cap r.size] ((l.take b).drop a):=by
 obtain⟨A',Jm,hv,hc,hm,hs⟩:=h;simp only[ake,akK,and_true,true_and]at hv;obtain⟨rfl,rfl⟩:=hv
 have hlen:((l.take b).drop a).length=b-a:=by simp;omega
 refine⟨_,cap-a,by rw[hlen];rfl,by omega,by omega,fun i hi=>?_⟩
 have gj:a+i<l.length:=by omega
 obtain⟨g,off,es,rfl,hF,qX,uO,hr⟩:=hs (a+i) gj;refine⟨g,off+a*r.size,es,?_,hF,qX,fun j u hu=>?_,?_⟩
 .rw[if_neg (by omega),Option.map_some,cL]
 .rw[<-uO j u hu]
  congr 2
  rw[akk];omega
 .have:((l.take b).drop a)[i]=l[a+i]:=by simp
  rw[this];exact hr
section
variable {P:Program} {n:Nat} {ops:Array Oper} {K:(Nat->Value)->World->Prop} {rest:List Oper} {ρ:Nat->Value}
variable {d:Nat} {ty:TypeId} {pos:String} {aft:Array Edge} {x y z:Operand} {t e:TypeId}
theorem MC{t e:TypeId}(ht:P.underlying t=some (.slice e)):P.underlying t=some (.slice (P.elem t)):=by
 simp[Program.elem,ht]
inductive Pu(ρ:Nat->Value):Option Operand->Option Int->Prop
 |none:Pu ρ none none
 |some {x:Operand} {k:IntKind} {i:Int} (h:ev ρ x= .int k i):Pu ρ (some x) (some i)
theorem ux{ti:TypeInfo}{A:Option Addr}{len cap:Nat}{lo hi:Option Operand}{a b:Option Int}(ht:P.underlying t=some (.slice e))(gj:P.info? e=some ti)(hx:ev ρ x= .slice A len cap)
 (ha:Pu ρ lo a)(hb:Pu ρ hi b)(h0:0<=a.getD 0)(h1:a.getD 0<=b.getD len)(h2:b.getD len<=len)(hc:len<=cap):
 (execOp (ev ρ) ⟨some d, .slice t x lo hi none,ty,pos,aft,none⟩).run P w= .ok (.value (sliced A (a.getD 0).toNat (b.getD len).toNat cap ti.size)) w:=by
 have EU:=MC ht
 have he:P.elem t=e:=by simp[Program.elem,ht]
 cases ha with
 |none=>
  cases hb with
  |none=>
   have:=run_slice_all (P:=P) (w:=w) t A len cap EU;simp[execOp,hx,run_sliceAt_slice (P:=P) w t _ _ _ _ EU,this,he,sizeOf,typeInfo,gj]
  |some hh=>
   rename_i xb kb ib;have:=run_slice_h (P:=P) (w:=w) t A len cap EU kb ib (by simpa using h1) (by simp at h2;omega);simp[execOp,hx,hh,run_sliceAt_slice (P:=P) w t _ _ _ _ EU,this,he,sizeOf,typeInfo,gj]
 |some hl=>
  rename_i xa ka ia
  cases hb with
  |none=>
   have:=run_slice_l (P:=P) (w:=w) t A len cap EU ka ia (by simpa using h0) (by simpa using h1);simp[execOp,hx,hl,run_sliceAt_slice (P:=P) w t _ _ _ _ EU,this,he,sizeOf,typeInfo,gj]
  |some hh=>
   rename_i xb kb ib;have:=run_slice_lh (P:=P) (w:=w) t A len cap EU ka kb ia ib (by simpa using h0) (by simpa using h1) (by simp at h2;omega);simp[execOp,hx,hl,hh,run_sliceAt_slice (P:=P) w t _ _ _ _ EU,this,he,sizeOf,typeInfo,gj]
theorem si{α:Type}{l m:List α}{a b:Int}(h:fa l a b=some m):∃p q:Nat,a=p/\b=q/\p<=q/\q<=l.length/\m=(l.take q).drop p:=by
 unfold fa at h;split at h
 case isFalse=>cases h
 rename_i hc;exact⟨a.toNat,b.toNat,by omega,by omega,by omega,by omega,(ajk h).symm⟩
end
end Go.Proofs.YtmihpkfkbfgigaaGreatDoor
end
section
namespace Go.Proofs.YtmihpkfkbfgigaaGreatDoor
open Go Go.RowKit
abbrev ol:Row:= .int .i64
def EV:List (Nat×((r:Row)×r.den)):=[(2,⟨.pair ol (.pair ol (.pair ol (.pair ol (.pair ol (.pair ol (.pair ol (.pair ol (.pair ol (.pair ol (.pair ol ol)))))))))),(31,28,31,30,31,30,31,31,30,31,30,31)⟩)]
end Go.Proofs.YtmihpkfkbfgigaaGreatDoor
end
section
namespace Go.Proofs.YtmihpkfkbfgigaaGreatDoor
open Go Go.RowKit
inductive DR where
 |leaf (r:Row)
 |sl (T:TypeId) (d:DR)
 |pair (a b:DR)
@[reducible] def DR.row:DR->Row
  | .leaf r=>r
  | .sl _ d=> .slice d.row
  | .pair a b=> .pair a.row b.row
@[reducible] def DR.low:DR->Row
  | .leaf r=>r
  | .sl _ _=> .jE
  | .pair a b=> .pair a.low b.low
theorem DR.size:(d:DR)->d.low.size=d.row.size
 | .leaf _=>rfl
 | .sl _ _=>rfl
 | .pair a b=>by show a.low.size+b.low.size=a.row.size+b.row.size;rw[a.size,b.size]
inductive fJ:DR->DR->Type where
 |here {d:DR}:fJ d d
 |fst {a b e:DR} (p:fJ a e):fJ (.pair a b) e
 |snd {a b e:DR} (p:fJ b e):fJ (.pair a b) e
def fJ.lo:{d e:DR}->fJ d e->Path d.low e.low
 |_,_, .here=> .here
 |_,_, .fst p=> .fst p.lo
 |_,_, .snd p=> .snd p.lo
def fJ.hi:{d e:DR}->fJ d e->Path d.row e.row
 |_,_, .here=> .here
 |_,_, .fst p=> .fst p.hi
 |_,_, .snd p=> .snd p.hi
def DR.path:(d:DR)->List Bool->Option ((e:DR)×fJ d e)
 |d,[]=>some ⟨d, .here⟩
 | .pair a b,c::p=>match c with
   |false=>match a.path p with
    |some ⟨e,q⟩=>some ⟨e, .fst q⟩
    |none=>none
   |true=>match b.path p with
    |some ⟨e,q⟩=>some ⟨e, .snd q⟩
    |none=>none
 |_,_::_=>none
def jW(F:Nat->Prop)(w:World)(T:TypeId)(r:Row)(v:Value)(l:List r.den):Prop:=
 ∃xs,mJ w 0 T r.size v l.length xs/\∀i(h:i<l.length),cD F w r ((xs.drop (i*r.size)).take r.size) l[i]
structure np(Ss:Nat->Nat->Prop)(n:Nat)(m:Nat->Prop)(S:Nat->Prop):Prop where
 all:∀k,S k↔m k\/∃i,i<n/\Ss i k
 two:∀i j k,i<n->j<n->i≠j->Ss i k->¬Ss j k
 out:∀i k,i<n->Ss i k->¬m k
structure qW(A B S:Nat->Prop):Prop where
 all:∀k,S k↔A k\/B k
 off:∀k,A k->¬B k
def GL{α:Type}(F:Nat->Prop)(w:World)(T:TypeId)(r:Row)(rel:Nat->r.den->α->(Nat->Prop)->Prop)(u:Value)(l:List α)(S:Nat->Prop):Prop:=
 ∃(lh:List r.den)(Ss:Nat->Nat->Prop),jW F w T r u lh/\lh.length=l.length/\(∀i(h1:i<lh.length)(h2:i<l.length),rel i lh[i] l[i] (Ss i))/\np Ss l.length (bq u) S
def jU(F:Nat->Prop)(w:World):(d:DR)->d.low.den->d.row.den->(Nat->Prop)->Prop
 | .leaf _,x',x,S=>x'=x/\∀k,¬S k
 | .sl T d,u,l,S=>GL F w T d.low (fun _=>jU F w d) u l S
 | .pair a b,x',x,S=>∃A B,jU F w a x'.1 x.1 A/\jU F w b x'.2 x.2 B/\qW A B S
def lE(F:Nat->Prop)(w:World):{d e:DR}->fJ d e->d.low.den->d.row.den->(Nat->Prop)->Prop
 |_,_, .here,_,_,S=>∀k,¬S k
 |_,_, .fst (b:=b) p,x',x,S=>∃A B,lE F w p x'.1 x.1 A/\jU F w b x'.2 x.2 B/\qW A B S
 |_,_, .snd (a:=a) p,x',x,S=>∃A B,jU F w a x'.1 x.1 A/\lE F w p x'.2 x.2 B/\qW A B S
section
variable {F F':Nat->Prop} {w w':World} {T:TypeId} {S:Nat->Prop}
theorem jW.to{r:Row}{v:Value}{l:List r.den}(h:jW F w T r v l)(hn:∀k,bq v k->¬F k):jf 0 F w T r v l:=⟨hn,h⟩
theorem jW.keep{r:Row}{v:Value}{l:List r.den}(h:jW F w T r v l)(hs:Step F w F' w')(hb:∀k,bq v k->w'.heap[k]? =w.heap[k]?):jW F' w' T r v l:=by
 obtain⟨xs,⟨R1,Jk⟩,h3⟩:=h;refine⟨xs,⟨R1,?_⟩,fun i hi=>(h3 i hi).step hs⟩
 rcases Jk with h2|⟨gg,o0,cap,cur,rfl,p5,hg,rest⟩
 .exact .inl h2
 .exact .inr ⟨gg,o0,cap,cur,rfl,p5,(hb gg rfl).trans hg,rest⟩
theorem jW.lt{r:Row}{v:Value}{l:List r.den}(h:jW F w T r v l):∀k,bq v k->k<w.heap.size:=by
 obtain⟨xs,h,_⟩:=h
 exact fun k hk=>(h.lt k hk).2
theorem jW.one{r:Row}{v:Value}{l:List r.den}(h:jW F w T r v l):v.oneCell'=true:=by
 obtain⟨xs,⟨_,h⟩,_⟩:=h
 rcases h with⟨rfl,_⟩|⟨gg,o0,cap,cur,rfl,_⟩<;>rfl
theorem jW.nil(F:Nat->Prop)(w:World)(T:TypeId)(r:Row):jW F w T r (.slice none 0 0) []:=(jf.nil 0 F w T r).2
theorem qW.left{A B:Nat->Prop}(h:qW A B S):∀k,A k->S k:=fun k hk=>(h.all k).2 (.inl hk)
theorem qW.right{A B:Nat->Prop}(h:qW A B S):∀k,B k->S k:=fun k hk=>(h.all k).2 (.inr hk)
theorem np.bq{Ss:Nat->Nat->Prop}{n:Nat}{m:Nat->Prop}(h:np Ss n m S):∀k,m k->S k:=fun k hk=>(h.all k).2 (.inl hk)
theorem np.part{Ss:Nat->Nat->Prop}{n:Nat}{m:Nat->Prop}(h:np Ss n m S){i:Nat}(hi:i<n):∀k,Ss i k->S k:=fun k hk=>(h.all k).2 (.inr ⟨i,hi,hk⟩)
theorem GL.mono{α:Type}{r:Row}{rel Sb:Nat->r.den->α->(Nat->Prop)->Prop}{u:Value}{l:List α}(h:GL F w T r rel u l S)(hs:Step F w F' w')(hb:∀k,S k->w'.heap[k]? =w.heap[k]?)
 (hr:∀i x'(hi:i<l.length)A,(∀k,A k->S k)->rel i x' l[i] A->Sb i x' l[i] A):GL F' w' T r Sb u l S:=by
 obtain⟨lh,Ss,h1,h2,h3,h4⟩:=h;exact⟨lh,Ss,h1.keep hs fun k hk=>hb k (h4.bq k hk),h2,fun i a b=>hr i _ b _ (h4.part b) (h3 i a b),h4⟩
theorem jU.keep(hs:Step F w F' w'):{d:DR}->{x':d.low.den}->{x:d.row.den}->{S:Nat->Prop}->jU F w d x' x S->(∀k,S k->w'.heap[k]? =w.heap[k]?)->jU F' w' d x' x S
 | .leaf _,_,_,_,h,_=>h
 | .sl T d,u,l,S,h,hb=>GL.mono (show GL F w T d.low _ u l S from h) hs hb fun i x' hi A hA hr=>jU.keep hs hr fun k hk=>hb k (hA k hk)
 | .pair a b,_,_,_,h,hb=>by
   obtain⟨A,B,h1,h2,h3⟩:=h;exact⟨A,B,h1.keep hs fun k hk=>hb k (h3.left k hk),h2.keep hs fun k hk=>hb k (h3.right k hk),h3⟩
theorem lE.keep(hs:Step F w F' w'):{d e:DR}->{p:fJ d e}->{x':d.low.den}->{x:d.row.den}->{S:Nat->Prop}->lE F w p x' x S->(∀k,S k->w'.heap[k]? =w.heap[k]?)->lE F' w' p x' x S
 |_,_, .here,_,_,_,h,_=>h
 |_,_, .fst p,_,_,_,h,hb=>by
  obtain⟨A,B,h1,h2,h3⟩:=h;exact⟨A,B,lE.keep hs h1 fun k hk=>hb k (h3.left k hk),h2.keep hs fun k hk=>hb k (h3.right k hk),h3⟩
 |_,_, .snd p,_,_,_,h,hb=>by
  obtain⟨A,B,h1,h2,h3⟩:=h;exact⟨A,B,h1.keep hs fun k hk=>hb k (h3.left k hk),lE.keep hs h2 fun k hk=>hb k (h3.right k hk),h3⟩
theorem jU.lt:{d:DR}->{x':d.low.den}->{x:d.row.den}->{S:Nat->Prop}->jU F w d x' x S->∀k,S k->k<w.heap.size
 | .leaf _,_,_,_,h,k,hk=>absurd hk (h.2 k)
 | .sl T d,u,l,S,h,k,hk=>by
   obtain⟨lh,Ss,h1,h2,h3,h4⟩:=h
   rcases(h4.all k).1 hk with hm|⟨i,hi,hm⟩
   .exact h1.lt k hm
   .exact jU.lt (h3 i (by omega) hi) k hm
 | .pair a b,_,_,_,h,k,hk=>by
   obtain⟨A,B,h1,h2,h3⟩:=h
   rcases(h3.all k).1 hk with hm|hm
   .exact jU.lt h1 k hm
   .exact jU.lt h2 k hm
theorem jU.freeze:{d:DR}->{cs:List Value}->{x':d.low.den}->{x:d.row.den}->{S:Nat->Prop}->jU F w d x' x S->(∀k,S k->¬F k)->cD F w d.low cs x'->cD (fun b=>F b\/S b) w d.row cs x
 | .leaf _,_,_,_,S,h,_,hr=>by
   obtain⟨rfl,_⟩:=h;exact hr.step (Step.freeze F w S)
 | .sl T d,cs,u,l,S,h,hn,hr=>by
   obtain⟨lh,Ss,⟨xs,hx,OA⟩,h2,h3,h4⟩:=h;obtain⟨rfl,_⟩:=hr
   have Db:jf 0 (fun b=>F b\/∃i,i<l.length/\Ss i b) w T d.row u l:=by
    refine⟨fun k hk hF=>?_,xs,?_,fun i hi=>?_⟩
    .rcases hF with hF|⟨i,hi,hm⟩
     .exact hn k (h4.bq k hk) hF
     .exact h4.out i k hi hm hk
    .rw[<-d.size,<-h2];exact hx
    .have gj:i<lh.length:=by omega
     have:=jU.freeze (h3 i gj hi) (fun k hk=>hn k (h4.part hi k hk)) (OA i gj);rw[<-d.size]
     exact this.step fun b hb=>⟨hb.imp id fun hb=>⟨i,hi,hb⟩,rfl⟩
   exact Db.freeze.step (r:= .slice d.row) fun b hb=>⟨by
    rcases hb with(hb|⟨i,hi,hb⟩)|hb
    .exact .inl hb
    .exact .inr (h4.part hi b hb)
    .exact .inr (h4.bq b hb),rfl⟩
 | .pair a b,_,_,_,S,h,hn,hr=>by
   obtain⟨A,B,h1,h2,h3⟩:=h;obtain⟨c1,c2,rfl,r1,r2⟩:=hr;exact⟨c1,c2,rfl,(jU.freeze h1 (fun k hk=>hn k (h3.left k hk)) r1).step fun b hb=>⟨hb.imp id (h3.left b),rfl⟩,(jU.freeze h2 (fun k hk=>hn k (h3.right k hk)) r2).step fun b hb=>⟨hb.imp id (h3.right b),rfl⟩⟩
theorem jU.out:{d e:DR}->(p:fJ d e)->{x':d.low.den}->{x:d.row.den}->{S:Nat->Prop}->jU F w d x' x S->∃A B,jU F w e (p.lo.get x') (p.hi.get x) A/\lE F w p x' x B/\qW A B S
 |_,_, .here,_,_,S,h=>⟨S,fun _=>False,h,fun _ h=>h,⟨fun k=>by simp,fun _ _ h=>h⟩⟩
 |_,_, .fst p,_,_,S,h=>by
  obtain⟨A,B,h1,h2,h3⟩:=h;obtain⟨A1,A2,g1,g2,g3⟩:=jU.out p h1;refine⟨A1,fun k=>A2 k\/B k,g1,⟨A2,B,g2,h2,fun k=>Iff.rfl,fun k hk=>h3.off k (g3.right k hk)⟩,fun k=>?_,fun k hk hh=>?_⟩
  .rw[h3.all,g3.all,or_assoc]
  .exact hh.elim (g3.off k hk) (h3.off k (g3.left k hk))
 |_,_, .snd p,_,_,S,h=>by
  obtain⟨A,B,h1,h2,h3⟩:=h;obtain⟨B1,B2,g1,g2,g3⟩:=jU.out p h2;refine⟨B1,fun k=>A k\/B2 k,g1,⟨A,B2,h1,g2,fun k=>Iff.rfl,fun k hk hh=>h3.off k hk (g3.right k hh)⟩,fun k=>?_,fun k hk hh=>?_⟩
  .rw[h3.all,g3.all];constructor<;>(intro h;rcases h with h|h|h<;>simp[h])
  .exact hh.elim (fun hh=>h3.off k hh (g3.left k hk)) (g3.off k hk)
theorem lE.put:{d e:DR}->(p:fJ d e)->{x':d.low.den}->{x:d.row.den}->{y':e.low.den}->{y:e.row.den}->{A B S:Nat->Prop}->lE F w p x' x B->jU F w e y' y A->qW A B S->jU F w d (p.lo.set x' y') (p.hi.set x y) S
 |_,_, .here,_,_,y',y,A,B,S,h,hy,h3=>by
  have:A=S:=by
   funext k;exact propext ⟨fun hk=>h3.left k hk,fun hk=>((h3.all k).1 hk).elim id fun hb=>absurd hb (h k)⟩
  subst this;exact hy
 |_,_, .fst p,x',x,y',y,A,B,S,h,hy,h3=>by
  obtain⟨A2,B2,g1,g2,g3⟩:=h
  have t1:qW A A2 (fun k=>A k\/A2 k):=⟨fun _=>Iff.rfl,fun k hk h2=>h3.off k hk (g3.left k h2)⟩
  refine⟨fun k=>A k\/A2 k,B2,lE.put p g1 hy t1,g2,fun k=>?_,fun k hk h2=>?_⟩
  .rw[h3.all,g3.all,or_assoc]
  .exact hk.elim (fun hk=>h3.off k hk (g3.right k h2)) fun hk=>g3.off k hk h2
 |_,_, .snd p,x',x,y',y,A,B,S,h,hy,h3=>by
  obtain⟨A2,B2,g1,g2,g3⟩:=h
  have t1:qW A B2 (fun k=>A k\/B2 k):=⟨fun _=>Iff.rfl,fun k hk h2=>h3.off k hk (g3.right k h2)⟩
  refine⟨A2,fun k=>A k\/B2 k,g1,lE.put p g2 hy t1,fun k=>?_,fun k hk h2=>?_⟩
  .rw[h3.all,g3.all];constructor<;>(intro h;rcases h with h|h|h<;>simp[h])
  .exact h2.elim (fun h2=>h3.off k h2 (g3.left k hk)) fun h2=>g3.off k hk h2
theorem lE.set:{d e:DR}->(p:fJ d e)->{x':d.low.den}->{x:d.row.den}->{S:Nat->Prop}->(y':e.low.den)->(y:e.row.den)->lE F w p x' x S->lE F w p (p.lo.set x' y') (p.hi.set x y) S
 |_,_, .here,_,_,_,_,_,h=>h
 |_,_, .fst p,_,_,_,y',y,h=>by
  obtain⟨A,B,h1,h2,h3⟩:=h;exact⟨A,B,h1.set p y' y,h2,h3⟩
 |_,_, .snd p,_,_,_,y',y,h=>by
  obtain⟨A,B,h1,h2,h3⟩:=h;exact⟨A,B,h1,h2.set p y' y,h3⟩
end
end Go.Proofs.YtmihpkfkbfgigaaGreatDoor
end
