/- Joined texts: Base Mem Own More Lit Open Cut Glob Deep. -/
import Derived.WalkKit
import Derived.WalkSpells
import Derived.WalkLawsBesides
import Derived.LoopN
import Derived.Deep.Draws
import Derived.Deep.Quiet
import Derived.Maps.AppendAt
import Derived.OwnWalk
import Derived.KernelRfl
import Derived.MapKept
import Derived.Maps.RangeRun
import Derived.Laws.StructEq
import Derived.Test.YtbladfbbhijpmaaGreatRows
import Derived.ProofKit
import Derived.OpenShut
import Derived.JoinedCond
import Derived.Deep.Slices
import Derived.Laws.Slices
section
open _root_.Array renaming getD_eq_getD_getElem?->Zf,getElem?_eq_getElem->YU
open _root_.Classical renaming propDecidable->Zj
open _root_.List renaming getElem?_eq_getElem->YF,getElem?_eq_some_iff->YY,mem_append->YL
open _root_.Nat renaming beq->YE,blt->Zl,eq_of_beq_eq_true->Zo,le_refl->YD,le_trans->Y3,lt_of_lt_of_le->Y8
open _root_.Option.some renaming inj->YA
open _root_.Go.Region renaming wanted->Z1
open _root_.Go.Value renaming oneCell'->ZU
namespace Go.Proofs.YtbladfbbhijpmaaGreat
open Go Go.RowKit
inductive CU where
 |map
 |ptr
 |func
def CU.val:CU->Value
 | .map=> .map none
 | .ptr=> .pointer none
 | .func=> .nilFunc
theorem CU.one(k:CU):k.val.oneCell'=true:=by cases k<;>simp[CU.val,ZU]
inductive Row where
 |int (k:IntKind)
 |bool
 |str
 |slice (e:Row)
 |gW
 |nul (k:CU)
 |map (K:Row) (agg:Bool) (V:Row)
 |pair (a b:Row)
@[reducible] def Row.den:Row->Type
  | .int _=>Int
  | .bool=>Bool
  | .str=>ByteArray
  | .slice e=>List e.den
  | .gW=>Value
  | .nul _=>Unit
  | .map K _ V=>List (K.den×V.den)
  | .pair a b=>a.den×b.den
noncomputable instance Row.decEq:(r:Row)->DecidableEq r.den
 | .int _=>inferInstanceAs (DecidableEq Int)
 | .bool=>inferInstanceAs (DecidableEq Bool)
 | .str=>inferInstanceAs (DecidableEq ByteArray)
 | .slice e=>have:=Row.decEq e;inferInstanceAs (DecidableEq (List e.den))
 | .gW=>fun a b=>Zj (a=b)
 | .nul _=>inferInstanceAs (DecidableEq Unit)
 | .map K _ V=>have:=Row.decEq K;have:=Row.decEq V;inferInstanceAs (DecidableEq (List (K.den×V.den)))
 | .pair a b=>have:=Row.decEq a;have:=Row.decEq b;inferInstanceAs (DecidableEq (a.den×b.den))
@[simp] def Row.size:Row->Nat
  | .pair a b=>a.size+b.size
  |_=>1
theorem Row.size_pos:(r:Row)->0<r.size
 | .pair a b=>by have:=Row.size_pos a;simp;omega
 | .int _| .bool| .str| .slice _| .gW| .nul _| .map .. =>by simp
def fN:(K:Row)->K.den->Option Value
 | .int k,n=>some (.int k n)
 | .bool,b=>some (.bool b)
 | .str,s=>some (.string s)
 | .pair (.int j) (.int k),x=>some (.agg #[.int j x.1, .int k x.2])
 |_,_=>none
def bF(F:Nat->Prop)(w:World):(r:Row)->List Value->r.den->Prop
 | .int k,cs,n=>cs=[.int k n]
 | .bool,cs,b=>cs=[.bool b]
 | .str,cs,s=>cs=[.string s]
 | .slice e,cs,l=>∃A cap,cs=[.slice A l.length cap]/\l.length<=cap/\cap<=maxLen/\
     ∀i(h:i<l.length),∃b off es,A=some ⟨b,off,none⟩/\F b/\es.length=e.size/\
      (∀j u,es[j]? =some u->w.cell? ⟨b,off+i*e.size+j,none⟩=some u)/\bF F w e es l[i]
 | .gW,cs,v=>cs=[v]/\∃A m c,v= .slice A m c
 | .nul k,cs,_=>cs=[k.val]
 | .map K agg V,cs,l=>∃v,cs=[v]/\((v= .map none/\l=[])\/∃b es clock,v= .map (some b)/\F b/\w.heap[b]? =some (.map es clock)/\MapKept.Stamped es clock/\es.size=l.length/\
     ∀i(h:i<l.length),∃(e:MapEntry)(cs:List Value),es[i]? =some e/\fN K l[i].1=some e.key/\bF F w V cs l[i].2/\e.val=(bif agg then .agg cs.toArray else cs.headD undef)/\(agg=false->cs=[e.val]))
 | .pair a b,cs,d=>∃c1 c2,cs=c1++c2/\bF F w a c1 d.1/\bF F w b c2 d.2
theorem bF.length{F:Nat->Prop}{w:World}:{r:Row}->{cs:List Value}->{d:r.den}->bF F w r cs d->cs.length=r.size
 | .int _,_,_,h=>by rw[show _=_ from h];rfl
 | .bool,_,_,h=>by rw[show _=_ from h];rfl
 | .str,_,_,h=>by rw[show _=_ from h];rfl
 | .slice _,_,_,h=>by obtain⟨A,cap,h,_⟩:=h;rw[h];rfl
 | .gW,_,_,h=>by rw[h.1];rfl
 | .nul _,_,_,h=>by rw[show _=_ from h];rfl
 | .map ..,_,_,h=>by obtain⟨v,rfl,_⟩:=h;rfl
 | .pair a b,_,_,h=>by
   obtain⟨c1,c2,rfl,h1,h2⟩:=h;simp[h1.length,h2.length]
theorem bF.fu{F:Nat->Prop}{w:World}:{r:Row}->{cs:List Value}->{d:r.den}->bF F w r cs d->∀u∈cs,u.oneCell'=true
 | .int _,_,_,h=>by rw[show _=_ from h];simp[ZU]
 | .bool,_,_,h=>by rw[show _=_ from h];simp[ZU]
 | .str,_,_,h=>by rw[show _=_ from h];simp[ZU]
 | .slice _,_,_,h=>by obtain⟨A,cap,rfl,_⟩:=h;simp[ZU]
 | .gW,_,_,h=>by obtain⟨rfl,A,m,c,rfl⟩:=h;simp[ZU]
 | .nul k,_,_,h=>by rw[show _=_ from h];simp[k.one]
 | .map ..,_,_,h=>by
   obtain⟨v,rfl,h⟩:=h
   rcases h with⟨rfl,_⟩|⟨b,es,clock,rfl,_⟩<;>simp[ZU]
 | .pair a b,_,_,h=>by
   obtain⟨c1,c2,rfl,h1,h2⟩:=h;intro u hu
   rcases YL.1 hu with h'|h'
   .exact h1.fu u h'
   .exact h2.fu u h'
def Step(F:Nat->Prop)(w:World)(F':Nat->Prop)(w':World):Prop:=∀b,F b->F' b/\w'.heap[b]? =w.heap[b]?
theorem bF.step{F F':Nat->Prop}{w w':World}(ho:Step F w F' w'):{r:Row}->{cs:List Value}->{d:r.den}->bF F w r cs d->bF F' w' r cs d
 | .int _,_,_,h=>h
 | .bool,_,_,h=>h
 | .str,_,_,h=>h
 | .slice e,_,l,h=>by
   obtain⟨A,cap,hc,h1,h2,h3⟩:=h;refine⟨A,cap,hc,h1,h2,fun i hi=>?_⟩;obtain⟨b,off,es,hA,hb,pF,nv,hr⟩:=h3 i hi;exact⟨b,off,es,hA,(ho b hb).1,pF,fun j u hu=>(World.cell?_of_block (ho b hb).2).trans (nv j u hu),hr.step ho⟩
 | .gW,_,_,h=>h
 | .nul _,_,_,h=>h
 | .map K agg V,_,l,h=>by
   obtain⟨v,hv,h⟩:=h;refine⟨v,hv,h.imp id fun⟨b,es,clock,h1,h2,h3,h4,h5,h6⟩=>⟨b,es,clock,h1,(ho b h2).1,(ho b h2).2.trans h3,h4,h5,fun i hi=>?_⟩⟩;obtain⟨e,cs,g1,g2,g3,g4⟩:=h6 i hi;exact⟨e,cs,g1,g2,g3.step ho,g4⟩
 | .pair a b,_,_,h=>by
   obtain⟨c1,c2,hc,h1,h2⟩:=h;exact⟨c1,c2,hc,h1.step ho,h2.step ho⟩
def At(F:Nat->Prop)(w:World)(r:Row)(b off:Nat)(x:r.den):Prop:=
 ∃es,es.length=r.size/\(∀j u,es[j]? =some u->w.cell? ⟨b,off+j,none⟩=some u)/\bF F w r es x
theorem At.fst{F:Nat->Prop}{w:World}{r s:Row}{b off:Nat}{x:(Row.pair r s).den}(h:At F w (.pair r s) b off x):At F w r b off x.1:=by
 obtain⟨es,hl,hc,c1,c2,rfl,h1,h2⟩:=h
 exact⟨c1,h1.length,fun j u hu=>hc j u (by
  rw[List.getElem?_append_left]
  .exact hu
  .exact(YY.1 hu).1),h1⟩
theorem At.snd{F:Nat->Prop}{w:World}{r s:Row}{b off:Nat}{x:(Row.pair r s).den}(h:At F w (.pair r s) b off x)(k:Nat)(hk:k=r.size):At F w s b (off+k) x.2:=by
 obtain⟨es,hl,hc,c1,c2,rfl,h1,h2⟩:=h;subst hk
 exact⟨c2,h2.length,fun j u hu=>by
  have:=hc (r.size+j) u (by
   rw[List.getElem?_append_right (by rw[h1.length];omega),h1.length];rw[show r.size+j-r.size=j from by omega]
   exact hu)
  rw[Nat.add_assoc]
  exact this,h2⟩
theorem bF.nil(F:Nat->Prop)(w:World)(e:Row):bF F w (.slice e) [.slice none 0 0] []:=⟨none,0,rfl,YD _,by simp[maxLen],fun i hi=>absurd hi (by simp)⟩
theorem bF.xH{F:Nat->Prop}{w:World}{e:Row}{v:Value}{l:List e.den}(h:bF F w (.slice e) [v] l):
 ∃A cap,v= .slice A l.length cap/\l.length<=cap/\cap<=9223372036854775807:=by
 obtain⟨A,cap,h1,h2,h3,_⟩:=h;exact⟨A,cap,by simpa using h1,h2,h3⟩
structure St(w0:World)(F0:Nat->Prop)(w:World)(F:Nat->Prop):Prop where
 below:Below w0.heap.size w0 w
 le:∀b,F0 b->F b
 new:∀b,F b->F0 b\/w0.heap.size<=b
 lt:∀b,F b->b<w.heap.size
theorem St.refl{w:World}{F:Nat->Prop}(h:∀b,F b->b<w.heap.size):St w F w F:=⟨Below.refl _ _,fun _ h=>h,fun _ h=> .inl h,h⟩
theorem St.trans{w0 w1 w2:World}{F0 F1 F2:Nat->Prop}(h:St w0 F0 w1 F1)(k:St w1 F1 w2 F2):St w0 F0 w2 F2:=
 ⟨h.below.trans (k.below.mono h.below.size),fun b hb=>k.le b (h.le b hb),fun b hb=>by
   rcases k.new b hb with h1|h1
   .exact h.new b h1
   .exact .inr (Y3 h.below.size h1),k.lt⟩
theorem St.step{w0 w:World}{F0 F:Nat->Prop}(h:St w0 F0 w F)(h0:∀b,F0 b->b<w0.heap.size):Step F0 w0 F w:=fun b hb=>⟨h.le b hb,h.below.block b (h0 b hb)⟩
theorem St.drew{w0 w:World}{F0 F:Nat->Prop}(h:St w0 F0 w F):St w0 F0 w.drew F:=⟨h.below.drew,h.le,h.new,h.lt⟩
theorem St.alloc{w0 w:World}{F0 F:Nat->Prop}(h:St w0 F0 w F)(o:Obj):St w0 F0 (w.alloc o) F:=
 ⟨h.below.alloc h.below.size o,h.le,h.new,fun b hb=>by have:=h.lt b hb;simp;omega⟩
theorem St.freeze{w0 w:World}{F0 F:Nat->Prop}(h:St w0 F0 w F)(G:Nat->Prop)(h1:∀b,G b->w0.heap.size<=b/\b<w.heap.size):St w0 F0 w (fun b=>F b\/G b):=
 ⟨h.below,fun b hb=> .inl (h.le b hb),fun b hb=>by
   rcases hb with hb|hb
   .exact h.new b hb
   .exact .inr (h1 b hb).1,fun b hb=>by
   rcases hb with hb|hb
   .exact h.lt b hb
   .exact(h1 b hb).2⟩
theorem St.back{w0 w1 w2:World}{F0 F1 F2 F3:Nat->Prop}(h:St w0 F0 w1 F1)(k:St w1 F2 w2 F3):St w0 F0 w2 F1:=
 ⟨h.below.trans (k.below.mono h.below.size),h.le,h.new,fun b hb=>Y8 (h.lt b hb) k.below.size⟩
theorem Step.refl(F:Nat->Prop)(w:World):Step F w F w:=fun _ h=>⟨h,rfl⟩
theorem Step.trans{F F1 F2:Nat->Prop}{w w1 w2:World}(h:Step F w F1 w1)(k:Step F1 w1 F2 w2):Step F w F2 w2:=fun b hb=>⟨(k b (h b hb).1).1,(k b (h b hb).1).2.trans (h b hb).2⟩
theorem Step.drew(F:Nat->Prop)(w:World):Step F w F w.drew:=fun _ h=>⟨h,rfl⟩
theorem Step.alloc{F:Nat->Prop}{w:World}(h:∀b,F b->b<w.heap.size)(o:Obj):Step F w F (w.alloc o):=fun b hb=>⟨hb,Below.heap_alloc w o b (h b hb)⟩
theorem Step.freeze(F:Nat->Prop)(w:World)(G:Nat->Prop):Step F w (fun b=>F b\/G b) w:=fun _ h=>⟨.inl h,rfl⟩
structure Fr(n:Nat)(a:Act)(ρ:Nat->Value):Prop where
 size:a.tmps.size=n
 defers:a.defers=[]
 get:∀t,a.tmps.getD t undef=ρ t
def xw(ρ:Nat->Value)(d:Nat)(v:Value):Nat->Value:=fun t=>bif YE t d then v else ρ t
def ev(ρ:Nat->Value):Operand->Value
 | .tmp t=>ρ t
 | .const v=>v
 | .global g=> .pointer (some ⟨g,0,none⟩)
 | .func f=> .func (.func f) #[] #[]
theorem Fr.eval{n:Nat}{a:Act}{ρ:Nat->Value}(h:Fr n a ρ):a.eval=ev ρ:=by
 funext x
 cases x with
 |tmp t=>exact h.get t
 |const v=>rfl
 |global g=>rfl
 |func f=>rfl
theorem Fr.put{n:Nat}{a:Act}{ρ:Nat->Value}(h:Fr n a ρ){d:Nat}(hd:Zl d n=true)(v:Value):Fr n (a.put (some d) v) (xw ρ d v):=by
 have av:d<n:=by simpa[Nat.blt_eq]using hd
 refine⟨by simpa[Act.put]using h.size,by simpa[Act.put]using h.defers,fun t=>?_⟩;have hs:=h.size;have hg:=h.get t;simp only[Act.put,Zf,Array.getElem?_setIfInBounds]at hg⊢;unfold xw;by_cases ht:t=d
 .subst ht;simp[hs,av]
 .have b8:¬d=t:=fun e=>ht e.symm
  have hb:YE t d=false:=by
   cases tK:YE t d with
   |false=>rfl
   |true=>exact absurd (Zo tK) ht
  simp[b8,hb,hg]
def wpS(P:Program)(n:Nat)(ops:Array Oper)(K:(Nat->Value)->World->Prop)(l:List Oper)(ρ:Nat->Value)(w:World):Prop:=
 ∀(Q:Exit->Act->World->Prop)(a:Act),Fr n a ρ->(∀a' bT w',Fr n a' bT->K bT w'->Q .normal a' w')->wpList P ops Q l a w
section
variable {P:Program} {n:Nat} {ops:Array Oper} {K:(Nat->Value)->World->Prop} {rest:List Oper} {ρ:Nat->Value} {w:World}
theorem Gr(h:K ρ w):wpS P n ops K [] ρ w:=fun _ _ hf hk=>hk _ _ _ hf h
def Pure(P:Program)(ρ:Nat->Value)(o:Oper)(v:Value):Prop:=∀w,(execOp (ev ρ) o).run P w= .ok (.value v) w
theorem kg{a:Act}(hf:Fr n a ρ){j d:Nat}{b:Bool}(hj:(ops[j]?).bind (·.dst)=some d)(hd:Zl d n=true)(hb:ρ d= .bool b):yielded ops a.tmps j=some b:=by
 have av:d<n:=by simpa[Nat.blt_eq]using hd
 have hg:=hf.get d;have hs:=hf.size;rw[hb]at hg
 have:a.tmps[d]? =some (.bool b):=by
  rw[Zf]at hg;rw[YU (by omega)]at hg⊢;simpa using hg
 unfold yielded;rw[hj];simp[this]
theorem IL{dst:Option Nat}{op:Op}{ty:TypeId}{pos:String}{aft:Array Edge}{j:Nat}{b:Bool}(d:Nat)(hj:(ops[j]?).bind (·.dst)=some d)(hd:Zl d n=true)(hb:ρ d= .bool b)
 (h:wpS P n ops K (⟨dst,op,ty,pos,aft,none⟩::rest) ρ w):wpS P n ops K (⟨dst,op,ty,pos,aft,some (j,b)⟩::rest) ρ w:=
 fun Q a hf hk=>by
  have:=h Q a hf hk;unfold wpList at this⊢;rw[if_pos (by simp[Z1])]at this;rw[if_pos (by simp[Z1,kg hf hj hd hb])];exact this
theorem Gs{d':Nat}{op:Op}{ty:TypeId}{pos:String}{aft:Array Edge}{j:Nat}{b b':Bool}(d:Nat)(hj:(ops[j]?).bind (·.dst)=some d)(hd:Zl d n=true)(hb:ρ d= .bool b')(b8:b'≠b)(sb:Zl d' n=true)
 (h:wpS P n ops K rest (xw ρ d' undef) w):wpS P n ops K (⟨some d',op,ty,pos,aft,some (j,b)⟩::rest) ρ w:=
 fun Q a hf hk=>by
  have:=h Q _ (hf.put sb undef) hk;unfold wpList;rw[if_neg (by simp[Z1,kg hf hj hd hb,b8])];exact this
theorem tL{op:Op}{ty:TypeId}{pos:String}{aft:Array Edge}{j:Nat}{b b':Bool}(d:Nat)(hj:(ops[j]?).bind (·.dst)=some d)(hd:Zl d n=true)(hb:ρ d= .bool b')(b8:b'≠b)
 (h:wpS P n ops K rest ρ w):wpS P n ops K (⟨none,op,ty,pos,aft,some (j,b)⟩::rest) ρ w:=
 fun Q a hf hk=>by
  have:=h Q _ hf hk;unfold wpList;rw[if_neg (by simp[Z1,kg hf hj hd hb,b8])];exact this
theorem ju{a:Act}(hf:Fr n a ρ){j d:Nat}(hj:(ops[j]?).bind (·.dst)=some d)(hd:Zl d n=true)(hb:ρ d=undef):yielded ops a.tmps j=none:=by
 have av:d<n:=by simpa[Nat.blt_eq]using hd
 have hg:=hf.get d;have hs:=hf.size;rw[hb]at hg
 have:a.tmps[d]? =some undef:=by
  rw[Zf]at hg;rw[YU (by omega)]at hg⊢;simpa using hg
 unfold yielded;rw[hj];simp[this,undef]
theorem C3{d':Nat}{op:Op}{ty:TypeId}{pos:String}{aft:Array Edge}{j:Nat}{b:Bool}(d:Nat)(hj:(ops[j]?).bind (·.dst)=some d)(hd:Zl d n=true)(hb:ρ d=undef)(sb:Zl d' n=true)
 (h:wpS P n ops K rest (xw ρ d' undef) w):wpS P n ops K (⟨some d',op,ty,pos,aft,some (j,b)⟩::rest) ρ w:=
 fun Q a hf hk=>by
  have:=h Q _ (hf.put sb undef) hk;unfold wpList;rw[if_neg (by simp[Z1,ju hf hj hd hb])];exact this
theorem rL{op:Op}{ty:TypeId}{pos:String}{aft:Array Edge}{j:Nat}{b:Bool}(d:Nat)(hj:(ops[j]?).bind (·.dst)=some d)(hd:Zl d n=true)(hb:ρ d=undef)
 (h:wpS P n ops K rest ρ w):wpS P n ops K (⟨none,op,ty,pos,aft,some (j,b)⟩::rest) ρ w:=
 fun Q a hf hk=>by
  have:=h Q _ hf hk;unfold wpList;rw[if_neg (by simp[Z1,ju hf hj hd hb])];exact this
end
def pU(P:Program)(n:Nat)(c:Code)(Q:Exit->(Nat->Value)->World->Prop)(ρ:Nat->Value)(w:World):Prop:=
 ∀a,Fr n a ρ->c.wp P (fun e a' w'=>∃bT,Fr n a' bT/\Q e bT w') a w
def TE(K:(Nat->Value)->World->Prop)(Q:Exit->(Nat->Value)->World->Prop):Exit->(Nat->Value)->World->Prop
 | .normal,ρ,w=>K ρ w
 |e,ρ,w=>Q e ρ w
def Ku(id:Nat)(Q:Exit->(Nat->Value)->World->Prop):Exit->(Nat->Value)->World->Prop
 | .exit AL,ρ,w=>bif YE AL id then Q .normal ρ w else Q (.exit AL) ρ w
 |e,ρ,w=>Q e ρ w
section
variable {P:Program} {n:Nat} {Q:Exit->(Nat->Value)->World->Prop} {ρ:Nat->Value} {w:World}
theorem xI{id:Nat}{l:List Oper}(h:wpS P n l.toArray (fun ρ w=>Q .normal ρ w) l ρ w):pU P n (.region id l.toArray false) Q ρ w:=
 fun a hf=>wp_region_lit (h _ a hf fun _ _ _ mr hk=>⟨_,mr,hk⟩)
theorem tM{a b:Code}(h:pU P n a (TE (fun ρ w=>pU P n b Q ρ w) Q) ρ w):pU P n (.seq a b) Q ρ w:=
 fun act hf=>wp_seq (wp_mono (h act hf) fun e a' w' ⟨bT,mr,hh⟩=>by
  cases e with
  |normal=>exact hh a' mr
  |_=>exact⟨bT,mr,hh⟩)
theorem C4(h:Q .normal ρ w):pU P n .skip Q ρ w:=fun _ hf=>wp_skip ⟨_,hf,h⟩
theorem C5{id:Nat}(h:Q (.exit id) ρ w):pU P n (.exit id) Q ρ w:=fun _ hf=>wp_exit ⟨_,hf,h⟩
theorem Gt(h:Q .ret ρ w):pU P n .ret Q ρ w:=fun _ hf=>wp_ret ⟨_,hf,h⟩
theorem oe{id:Nat}{c:Code}(h:pU P n c (Ku id Q) ρ w):pU P n (.block id c) Q ρ w:=
 fun a hf=>wp_block (wp_mono (h a hf) fun e a' w' ⟨bT,mr,hh⟩=>by
  cases e with
  |exit AL=>
   unfold Exit.inBlock;by_cases he:AL=id
   .subst he;simp only[Ku,show YE AL AL=true from Nat.beq_refl _,cond_true]at hh;simpa using⟨bT,mr,hh⟩
   .have hb:YE AL id=false:=by
     cases tK:YE AL id with
     |false=>rfl
     |true=>exact absurd (Zo tK) he
    simp only[Ku,hb,cond_false]at hh;simpa[he]using⟨bT,mr,hh⟩
  |_=>exact⟨bT,mr,hh⟩)
theorem vj{c:Operand}{x y:Code}(b:Bool)(hc:ev ρ c= .bool b)(h:pU P n (bif b then x else y) Q ρ w):pU P n (.cond c x y) Q ρ w:=
 fun a hf=>wp_cond (t:=b) (by rw[hf.eval];exact hc) (by
  have:=h a hf
  cases b<;>exact this)
theorem C6{c:Operand}{x y:Code}(hc:ev ρ c= .bool true)(h:pU P n x Q ρ w):pU P n (.cond c x y) Q ρ w:=vj true hc h
theorem AM{c:Operand}{x y:Code}(hc:ev ρ c= .bool false)(h:pU P n y Q ρ w):pU P n (.cond c x y) Q ρ w:=vj false hc h
def Loop{S X:Type}(body:S->Option (S⊕X)):Nat->S->Option X
 |0,_=>none
 |k+1,s=>match body s with
  |none=>none
  |some (.inl s')=>Loop body k s'
  |some (.inr x)=>some x
def HX{S X:Type}(I:S->(Nat->Value)->World->Prop)(Q:Exit->(Nat->Value)->World->Prop)(x:X):S⊕X->Exit->(Nat->Value)->World->Prop
 | .inl s',e,ρ,w=>e= .normal/\I s' ρ w
 | .inr x',e,ρ,w=>e≠ .normal/\(x'=x->Q e ρ w)
theorem C7{S X:Type}{body:S->Option (S⊕X)}{c:Code}(I:S->(Nat->Value)->World->Prop){x:X}{N:Nat}{s:S}(hm:Loop body N s=some x)(h0:I s ρ w)
 (hb:∀s ρ w y,I s ρ w->body s=some y->pU P n c (HX I Q x y) ρ w):pU P n (.loop c) Q ρ w:=by
 intro a hf;refine wp_loop_rounds N ?_
 induction N generalizing s ρ w a with
 |zero=>cases hm
 |succ k ih=>
  rw[rounds_succ];unfold Loop at hm
  cases hy:body s with
  |none=>simp[hy]at hm
  |some y=>
   refine wp_mono (hb s ρ w y h0 hy a hf) fun e a' w' ⟨bT,mr,hh⟩=>?_
   cases y with
   |inl s'=>
    obtain⟨rfl,hI⟩:=hh;rw[hy]at hm;exact ih hm hI a' mr
   |inr x'=>
    rw[hy]at hm;obtain⟨b8,hq⟩:=hh;have:=hq (YA hm)
    cases e with
    |normal=>exact absurd rfl b8
    |_=>exact⟨bT,mr,this⟩
def KT(P:Program)(fn:Func)(n:Nat)(R:Value->World->Prop):Exit->(Nat->Value)->World->Prop
 | .normal,ρ,w| .ret,ρ,w=>∀a,Fr n a ρ->∃v,(results fn a.tmps).run P w= .ok v w/\R v w
 |_,_,_=>False
theorem tN{f:FuncId}{fn:Func}{c:Code}{args:List Value}{R:Value->World->Prop}(hf:P.funcs[f]? =some fn)(hb:fn.body=some c)(hn:args.length<=fn.ntmps)
 (h:∀ρ,(∀t v,args[t]? =some v->ρ t=v)->pU P fn.ntmps c (KT P fn fn.ntmps R) ρ w):
 Calls P f args.toArray w fun e w'=>∃v,e= .returned v/\R v w':=by
 refine calls_of_wp hf hb ?_
 have iz:(args.toArray++Array.replicate (fn.ntmps-args.toArray.size) undef).size=fn.ntmps:=by simp;omega
 refine wp_mono (h (fun t=>(args.toArray++Array.replicate (fn.ntmps-args.toArray.size) undef).getD t undef) ?_ _ ⟨iz,rfl,fun t=>rfl⟩) fun e a' w' ⟨bT,mr,hh⟩=>?_
 .intro t v hv;have av:t<args.length:=(YY.1 hv).1
  have cQ:args[t]=v:=by rw[YF av]at hv;exact YA hv
  simp[Zf,Array.getElem?_append,av,cQ]
 .cases e with
  |normal=>exact⟨mr.defers,(hh a' mr).imp fun v hv=>⟨hv.1,v,rfl,hv.2⟩⟩
  |ret=>exact⟨mr.defers,(hh a' mr).imp fun v hv=>⟨hv.1,v,rfl,hv.2⟩⟩
  |_=>exact hh.elim
end
end Go.Proofs.YtbladfbbhijpmaaGreat
end
section
open _root_.List renaming append_assoc->Y2,drop_append_of_le_length->Zu,drop_of_length_le->ZC,getElem?_drop->YR,getElem?_eq_some_iff->YY,getElem?_take->Y0,take_length->YS
open _root_.Nat renaming zero_add->Ze
open _root_.Go.Sem renaming run_bind->Y6
namespace Go.Proofs.YtbladfbbhijpmaaGreat
open Go Go.RowKit
theorem lN{α:Type}[BEq α][LawfulBEq α][DecidableEq α](a b:α):(a==b)=decide (a=b):=by
 by_cases h:a=b
 .subst h;simp
 .simp[h]
theorem run_equal_bool{P:Program}{t:TypeId}(ht:P.underlying t=some .bool)(p q:Bool)(w:World):(Op.equal t (.bool p) (.bool q)).run P w= .ok (p==q) w:=by
 have h:∀d:Nat,(Op.equalIn (d+1) t (.bool p) (.bool q)).run P w= .ok (p==q) w:=fun d=>by
  simp[Op.equalIn,run_underlying ht]
 exact h 9999
section
variable {P:Program} {ρ:Nat->Value} {d:Option Nat} {ty:TypeId} {pos:String} {aft:Array Edge} {x y c:Operand} {t u:TypeId} {k:IntKind} {a b:Int}
theorem AN{v:Value}(h:ev ρ x=v):Pure P ρ ⟨d, .move x,ty,pos,aft,none⟩ v:=fun w=>by simp[execOp,h]
theorem vk{v:Value}(h:ev ρ x=v):Pure P ρ ⟨d, .assign x,ty,pos,aft,none⟩ v:=fun w=>by simp[execOp,h]
theorem qh{v:Value}(hc:ev ρ c= .bool true)(hx:ev ρ x=v):Pure P ρ ⟨d, .pick c x y,ty,pos,aft,none⟩ v:=fun w=>by
 simp[execOp,asBool,hc,hx]
theorem pG{v:Value}(hc:ev ρ c= .bool false)(hy:ev ρ y=v):Pure P ρ ⟨d, .pick c x y,ty,pos,aft,none⟩ v:=fun w=>by
 simp[execOp,asBool,hc,hy]
theorem C8(hx:ev ρ x= .int k a)(hy:ev ρ y= .int k b):Pure P ρ ⟨d, .binOp .add t x y u,ty,pos,aft,none⟩ (.int k (k.wrap (a+b))):=fun w=>by
 simp[execOp,eqGuard,binOp,Op.intArith,hx,hy]
theorem C9(hx:ev ρ x= .int k a)(hy:ev ρ y= .int k b):Pure P ρ ⟨d, .binOp .sub t x y u,ty,pos,aft,none⟩ (.int k (k.wrap (a-b))):=fun w=>by
 simp[execOp,eqGuard,binOp,Op.intArith,hx,hy]
theorem Da(hx:ev ρ x= .int k a)(hy:ev ρ y= .int k b):Pure P ρ ⟨d, .binOp .mul t x y u,ty,pos,aft,none⟩ (.int k (k.wrap (a*b))):=fun w=>by
 simp[execOp,eqGuard,binOp,Op.intArith,hx,hy]
theorem Db(hx:ev ρ x= .int k a)(hy:ev ρ y= .int k b)(hb:b≠0):Pure P ρ ⟨d, .binOp .quo t x y u,ty,pos,aft,none⟩ (.int k (k.wrap (a.tdiv b))):=fun w=>by
 simp[execOp,eqGuard,binOp,Op.intDiv,hx,hy,hb]
theorem Dc(hx:ev ρ x= .int k a)(hy:ev ρ y= .int k b)(hb:b≠0):Pure P ρ ⟨d, .binOp .rem t x y u,ty,pos,aft,none⟩ (.int k (a.tmod b)):=fun w=>by
 simp[execOp,eqGuard,binOp,Op.intDiv,hx,hy,hb]
theorem Dd(hx:ev ρ x= .int k a)(hy:ev ρ y= .int k b):Pure P ρ ⟨d, .binOp .lss t x y u,ty,pos,aft,none⟩ (.bool (decide (a<b))):=fun w=>by
 simp[execOp,eqGuard,binOp,Op.intCmp,hx,hy]
theorem De(hx:ev ρ x= .int k a)(hy:ev ρ y= .int k b):Pure P ρ ⟨d, .binOp .leq t x y u,ty,pos,aft,none⟩ (.bool (decide (a<=b))):=fun w=>by
 simp[execOp,eqGuard,binOp,Op.intCmp,hx,hy]
theorem Df(hx:ev ρ x= .int k a)(hy:ev ρ y= .int k b):Pure P ρ ⟨d, .binOp .gtr t x y u,ty,pos,aft,none⟩ (.bool (decide (b<a))):=fun w=>by
 simp[execOp,eqGuard,binOp,Op.intCmp,hx,hy]
theorem Dg(hx:ev ρ x= .int k a)(hy:ev ρ y= .int k b):Pure P ρ ⟨d, .binOp .geq t x y u,ty,pos,aft,none⟩ (.bool (decide (b<=a))):=fun w=>by
 simp[execOp,eqGuard,binOp,Op.intCmp,hx,hy]
theorem Dh(hx:ev ρ x= .int k a)(hy:ev ρ y= .int k b):Pure P ρ ⟨d, .binOp .eql t x y u,ty,pos,aft,none⟩ (.bool (decide (a=b))):=fun w=>by
 simp[execOp,eqGuard,binOp,Op.intCmp,hx,hy,lN]
theorem Di(hx:ev ρ x= .int k a)(hy:ev ρ y= .int k b):Pure P ρ ⟨d, .binOp .neq t x y u,ty,pos,aft,none⟩ (.bool (!decide (a=b))):=fun w=>by
 simp[execOp,eqGuard,binOp,Op.intCmp,hx,hy,bne,lN]
theorem AO{p q:Bool}(ht:P.underlying t=some .bool)(hx:ev ρ x= .bool p)(hy:ev ρ y= .bool q):Pure P ρ ⟨d, .binOp .eql t x y u,ty,pos,aft,none⟩ (.bool (decide (p=q))):=fun w=>by
 have h:=run_equal_bool ht p q w;rw[lN]at h;simp only[execOp,eqGuard,hx,hy];simp[binOp,h]
theorem AP{p q:Bool}(ht:P.underlying t=some .bool)(hx:ev ρ x= .bool p)(hy:ev ρ y= .bool q):Pure P ρ ⟨d, .binOp .neq t x y u,ty,pos,aft,none⟩ (.bool (!decide (p=q))):=fun w=>by
 have h:=run_equal_bool ht p q w;rw[lN]at h;simp only[execOp,eqGuard,hx,hy];simp[binOp,h]
theorem bytes_beq(p q:ByteArray):(p.toList==q.toList)=decide (p=q):=by
 rw[lN]
 congr 1
 rw[ByteArray.toList_eq,ByteArray.toList_eq];refine propext ⟨fun h=>?_,fun h=>by rw[h]⟩;cases p;cases q;simpa using h
theorem AQ{p q:ByteArray}(hx:ev ρ x= .string p)(hy:ev ρ y= .string q):Pure P ρ ⟨d, .binOp .eql t x y u,ty,pos,aft,none⟩ (.bool (decide (p=q))):=fun w=>by
 simp[execOp,eqGuard,binOp,Op.stringOp,hx,hy,bytes_beq]
theorem AR{p q:ByteArray}(hx:ev ρ x= .string p)(hy:ev ρ y= .string q):Pure P ρ ⟨d, .binOp .neq t x y u,ty,pos,aft,none⟩ (.bool (!decide (p=q))):=fun w=>by
 simp[execOp,eqGuard,binOp,Op.stringOp,hx,hy,bytes_beq]
theorem Dj{p:Bool}(hx:ev ρ x= .bool p):Pure P ρ ⟨d, .unOp .not t x,ty,pos,aft,none⟩ (.bool !p):=fun w=>by
 simp[execOp,Op.unary,hx]
theorem Dk(hx:ev ρ x= .int k a):Pure P ρ ⟨d, .unOp .neg t x,ty,pos,aft,none⟩ (.int k (k.wrap (0-a))):=fun w=>by
 simp[execOp,Op.unary,Op.intArith,hx]
theorem AS{k':IntKind}{e:TypeDesc}(hs:P.underlying t=some e)(hu:P.underlying u=some (.int k'))(hx:ev ρ x= .int k a):Pure P ρ ⟨d, .convert t u x,ty,pos,aft,none⟩ (.int k' (k'.wrap a)):=fun w=>by
 simp[execOp,convert,run_underlying hs,run_underlying hu,hx,Conv.intToInt]
theorem Dl{e:TypeId}{A:Option Addr}{n cap:Nat}{m:Nat}(hm:m=n)(ht:P.underlying t=some (.slice e))(hx:ev ρ x= .slice A n cap):
 Pure P ρ ⟨d, .call {callee:= .builtin .len,args:= #[x],argTypes:= #[t]},ty,pos,aft,none⟩ (.int .i64 (m:Int)):=fun w=>by
 subst hm;simp[execOp,resolve,invoke,builtin,Builtin.len_,run_underlying ht,hx,goInt]
theorem AT{s:ByteArray}(ht:P.underlying t=some .string)(hx:ev ρ x= .string s):
 Pure P ρ ⟨d, .call {callee:= .builtin .len,args:= #[x],argTypes:= #[t]},ty,pos,aft,none⟩ (.int .i64 (s.size:Int)):=fun w=>by
 simp[execOp,resolve,invoke,builtin,Builtin.len_,run_underlying ht,hx,goInt]
theorem AU{t':TypeId}(hx:ev ρ x= .int k a)(hy:ev ρ y= .int k b):
 Pure P ρ ⟨d, .call {callee:= .builtin .max,args:= #[x,y],argTypes:= #[t,t']},ty,pos,aft,none⟩ (.int k (if a<b then b else a)):=fun w=>by
 simp[execOp,resolve,invoke,builtin,Builtin.max_,Builtin.max2,hx,hy]
theorem AV{t':TypeId}(hx:ev ρ x= .int k a)(hy:ev ρ y= .int k b):
 Pure P ρ ⟨d, .call {callee:= .builtin .min,args:= #[x,y],argTypes:= #[t,t']},ty,pos,aft,none⟩ (.int k (if b<a then b else a)):=fun w=>by
 simp[execOp,resolve,invoke,builtin,Builtin.min_,Builtin.min2,hx,hy]
theorem tO{vs:Array Value}{i:Nat}{v:Value}(hx:ev ρ x= .tuple vs)(hi:vs[i]? =some v):Pure P ρ ⟨d, .extract x i,ty,pos,aft,none⟩ v:=fun w=>by
 simp[execOp,Instr.extract,hx,hi]
theorem bM(b o k:Nat):(⟨b,o,none⟩:Addr).add k=⟨b,o+k,none⟩:=by unfold Addr.add;split<;>simp_all
theorem qi{f:Nat}{fs:Array Field}{fd:Field}{ti:TypeInfo}{jE off:Nat}(k:Nat)(hs:P.underlying t=some (.struct fs))(hf:fs[f]? =some fd)(hi:P.info? fd.type=some ti)(iz:ti.size≠0)(hk:fd.offset=k)
 (hx:ev ρ x= .pointer (some ⟨jE,off,none⟩)):Pure P ρ ⟨d, .fieldAddr t x f,ty,pos,aft,none⟩ (.pointer (some ⟨jE,off+k,none⟩)):=fun w=>by
 subst hk;simp[execOp,Instr.fieldAt,run_underlying hs,hf,Instr.sureAddr,fieldPlace,sizeOf,typeInfo,hi,iz,hx,bM]
theorem iD{e:TypeId}{ti:TypeInfo}{jE off n cap i:Nat}(size:Nat)(ht:P.underlying t=some (.slice e))(hi:P.info? e=some ti)(iz:ti.size=size)
 (hx:ev ρ x= .slice (some ⟨jE,off,none⟩) n cap)(hy:ev ρ y= .int k a)(ha:a=(i:Int))(av:i<n):
 Pure P ρ ⟨d, .indexAddr t x y,ty,pos,aft,none⟩ (.pointer (some ⟨jE,off+i*size,none⟩)):=fun w=>by
 subst iz;subst ha;simp[execOp,Instr.indexAt,asIntOf,run_underlying ht,sizeOf,typeInfo,hi,hx,hy,av,bM]
end
end Go.Proofs.YtbladfbbhijpmaaGreat
namespace Go.Proofs.YtbladfbbhijpmaaGreat
open Go Go.RowKit
inductive Path:Row->Row->Type where
 |here {r:Row}:Path r r
 |fst {a b s:Row} (p:Path a s):Path (.pair a b) s
 |snd {a b s:Row} (p:Path b s):Path (.pair a b) s
def Path.off:{r s:Row}->Path r s->Nat
 |_,_, .here=>0
 |_,_, .fst p=>p.off
 |_,_, .snd (a:=a) p=>a.size+p.off
@[reducible] def Path.get:{r s:Row}->Path r s->r.den->s.den
  |_,_, .here,x=>x
  |_,_, .fst p,x=>p.get x.1
  |_,_, .snd p,x=>p.get x.2
@[reducible] def Path.set:{r s:Row}->Path r s->r.den->s.den->r.den
  |_,_, .here,_,y=>y
  |_,_, .fst p,x,y=>(p.set x.1 y,x.2)
  |_,_, .snd p,x,y=>(x.1,p.set x.2 y)
section
variable {F:Nat->Prop} {w:World}
theorem Path.le:{r s:Row}->(p:Path r s)->p.off+s.size<=r.size
 |_,_, .here=>by simp[Path.off]
 |_,_, .fst p=>by have:=p.le;simp[Path.off];omega
 |_,_, .snd p=>by have:=p.le;simp[Path.off];omega
theorem bF.path:{r s:Row}->(p:Path r s)->{es:List Value}->{x:r.den}->bF F w r es x->bF F w s ((es.drop p.off).take s.size) (p.get x)
 |_,_, .here,es,x,h=>by
  have:=h.length;simp only[Path.off,List.drop_zero,Path.get];rw[<-this,YS];exact h
 |_,s, .fst (a:=a) p,_,x,h=>by
  obtain⟨c1,c2,rfl,h1,h2⟩:=h;have hr:=bF.path p h1;have hle:=p.le;have hl:=h1.length;simp only[Path.off,Path.get];rw[Zu (by omega),List.take_append_of_le_length (by rw[List.length_drop];omega)];exact hr
 |_,s, .snd (a:=a) p,_,x,h=>by
  obtain⟨c1,c2,rfl,h1,h2⟩:=h;have hr:=bF.path p h2;have hl:=h1.length;simp only[Path.off,Path.get];rw[<-hl,List.drop_append,ZC (by omega),List.nil_append,show c1.length+p.off-c1.length=p.off from by omega];exact hr
theorem bF.put:{r s:Row}->(p:Path r s)->{es vs:List Value}->{x:r.den}->{y:s.den}->bF F w r es x->bF F w s vs y->
 bF F w r (es.take p.off++vs++es.drop (p.off+s.size)) (p.set x y)
 |_,_, .here,es,vs,x,y,h,hv=>by
  have:=h.length;simp only[Path.off,Path.set,List.take_zero,List.nil_append,Ze];rw[<-this,List.drop_length,List.append_nil];exact hv
 |_,s, .fst (a:=a) p,_,vs,x,y,h,hv=>by
  obtain⟨c1,c2,rfl,h1,h2⟩:=h;have hr:=bF.put p h1 hv;have hle:=p.le;have hl:=h1.length;refine⟨_,c2,?_,hr,h2⟩;simp only[Path.off];rw[List.take_append_of_le_length (by omega),Zu (by omega)];simp[Y2]
 |_,s, .snd (a:=a) p,_,vs,x,y,h,hv=>by
  obtain⟨c1,c2,rfl,h1,h2⟩:=h;have hr:=bF.put p h2 hv;have hl:=h1.length;refine⟨c1,_,?_,h1,hr⟩;simp only[Path.off]
  rw[<-hl,List.take_append,List.take_of_length_le (by omega),List.drop_append,ZC (by omega),show c1.length+p.off-c1.length=p.off from by omega,
   show c1.length+p.off+s.size-c1.length=p.off+s.size from by omega]
  simp[Y2]
theorem At.path{r s:Row}{b off:Nat}{x:r.den}(h:At F w r b off x)(p:Path r s)(k:Nat)(hk:p.off=k):At F w s b (off+k) (p.get x):=by
 subst hk;obtain⟨es,hl,hc,hr⟩:=h;have hp:=hr.path p;refine⟨_,hp.length,fun j u hu=>?_,hp⟩;rw[Y0]at hu;split at hu
 .rw[YR]at hu;rw[Nat.add_assoc];exact hc _ u hu
 .cases hu
theorem At.int{k:IntKind}{b off:Nat}{x:Int}(h:At F w (.int k) b off x):w.cell? ⟨b,off,none⟩=some (.int k x):=by
 obtain⟨es,hl,hc,rfl⟩:=h;exact hc 0 _ rfl
theorem At.bool{b off:Nat}{x:Bool}(h:At F w .bool b off x):w.cell? ⟨b,off,none⟩=some (.bool x):=by
 obtain⟨es,hl,hc,rfl⟩:=h;exact hc 0 _ rfl
theorem At.str{b off:Nat}{x:ByteArray}(h:At F w .str b off x):w.cell? ⟨b,off,none⟩=some (.string x):=by
 obtain⟨es,hl,hc,rfl⟩:=h;exact hc 0 _ rfl
theorem At.slice{e:Row}{b off:Nat}{x:List e.den}(h:At F w (.slice e) b off x):∃v,w.cell? ⟨b,off,none⟩=some v/\bF F w (.slice e) [v] x:=by
 obtain⟨es,hl,hc,hr⟩:=h;obtain⟨A,cap,rfl,h⟩:=hr;exact⟨_,hc 0 _ rfl,A,cap,rfl,h⟩
theorem At.NA{r:Row}{b off:Nat}{x:r.den}(h:At F w r b off x):∃es,(∀j u,es[j]? =some u->w.cell? ⟨b,off+j,none⟩=some u)/\bF F w r es x:=by
 obtain⟨es,hl,hc,hr⟩:=h;exact⟨es,hc,hr⟩
def Reads(F:Nat->Prop)(w:World)(r:Row)(v:Value)(l:List r.den):Prop:=
 ∃A cap,v= .slice A l.length cap/\l.length<=cap/\cap<=maxLen/\∀i(h:i<l.length),∃b off,A=some ⟨b,off,none⟩/\At F w r b (off+i*r.size) l[i]
theorem bF.reads{r:Row}{v:Value}{l:List r.den}(h:bF F w (.slice r) [v] l):Reads F w r v l:=by
 obtain⟨A,cap,h1,h2,h3,h4⟩:=h;refine⟨A,cap,by simpa using h1,h2,h3,fun i hi=>?_⟩;obtain⟨b,off,es,hA,_,pF,hc,hr⟩:=h4 i hi;exact⟨b,off,hA,es,pF,hc,hr⟩
def idx{α:Type}(l:List α)(i:Int):Option α:=if 0<=i then l[i.toNat]? else none
theorem dF{α:Type}{l:List α}{i:Int}{y:α}(h:idx l i=some y):∃k:Nat,i=k/\∃hk:k<l.length,l[k]=y:=by
 unfold idx at h;split at h
 .rename_i h0;obtain⟨hk,e⟩:=YY.1 h;exact⟨i.toNat,by omega,hk,e⟩
 .cases h
theorem Reads.elem{r:Row}{v:Value}{l:List r.den}(h:Reads F w r v l){i:Int}{y:r.den}(hi:idx l i=some y):
 ∃b off cap k,v= .slice (some ⟨b,off,none⟩) l.length cap/\i=(k:Nat)/\k<l.length/\At F w r b (off+k*r.size) y:=by
 obtain⟨A,cap,hv,_,_,h4⟩:=h;obtain⟨k,hk,av,rfl⟩:=dF hi;obtain⟨b,off,rfl,pV⟩:=h4 k av;exact⟨b,off,cap,k,hv,hk,av,pV⟩
end
section
variable {P:Program} {n:Nat} {ops:Array Oper} {K:(Nat->Value)->World->Prop} {rest:List Oper} {ρ:Nat->Value} {w:World} {F:Nat->Prop}
variable {d:Nat} {ty:TypeId} {pos:String} {aft:Array Edge} {x y:Operand} {t:TypeId}
def fy:TypeDesc->Bool
 | .struct _| .array _ _=>true
 |_=>false
theorem dn{D:TypeDesc}(hu:P.underlying t=some D)(w:World):(isAgg t).run P w= .ok (fy D) w:=by
 unfold isAgg;rw[Y6,run_underlying hu w]
 cases D<;>simp[fy]
theorem sd{dd:Option Nat}{D:TypeDesc}{b off:Nat}{v:Value}(hu:P.underlying t=some D)(hD:fy D=false)(hx:ev ρ x= .pointer (some ⟨b,off,none⟩))(hc:w.cell? ⟨b,off,none⟩=some v):
 (execOp (ev ρ) ⟨dd, .load t x,ty,pos,aft,none⟩).run P w= .ok (.value v) w:=by
 simp[execOp,hx,Instr.loadAt,Instr.sureAddr,loadVar,Y6,dn hu,hD,hc,go_sem]
theorem AW{dd:Option Nat}{D:TypeDesc}{ti:TypeInfo}{b off:Nat}{es:List Value}(hu:P.underlying t=some D)(hD:fy D=true)(hi:P.info? t=some ti)(hs:ti.size=es.length)
 (hx:ev ρ x= .pointer (some ⟨b,off,none⟩))(hc:∀j u,es[j]? =some u->w.cell? ⟨b,off+j,none⟩=some u):
 (execOp (ev ρ) ⟨dd, .load t x,ty,pos,aft,none⟩).run P w= .ok (.value (.agg es.toArray)) w:=by
 have hl:(loadCells ⟨b,off,none⟩ es.length).run P w= .ok es.toArray w:=
  run_loadCells_list (P:=P) w ⟨b,off,none⟩ es (fun j v hv=>by rw[bM];exact hc j v hv)
 simp[execOp,hx,Instr.loadAt,Instr.sureAddr,loadVar,Y6,dn hu,hD,sizeOf,typeInfo,hi,hs,hl]
end
end Go.Proofs.YtbladfbbhijpmaaGreat
end
section
open _root_.Go.Addr.mk renaming injEq->Z2
open _root_.Array renaming getElem?_eq_some_iff->Zb
open _root_.Go.Builtin renaming append_->aaa
open _root_.ByteArray renaming empty->aah
open _root_.List renaming append_assoc->Y2,drop_append_of_le_length->Zu,drop_of_length_le->ZC,getElem?_drop->YR,getElem?_eq_getElem->YF,getElem?_take->Y0,getElem_of_mem->ZO,length_append->YV,length_take->Zw,range->YI,replicate->Y4
open _root_.Nat renaming add_mul->Zm,add_zero->ZD,le_refl->YD,le_trans->Y3,lt_of_lt_of_le->Y8,mul_le_mul_right->YX,zero_add->Ze
open _root_.Option.some renaming inj->YA,injEq->YH
open _root_.Go.Sem renaming run->aao
open _root_.Go.Value renaming ownBlock->Y9
open _root_.Go.Value.slice renaming injEq->ZV
namespace Go.Proofs.YtbladfbbhijpmaaGreat
open Go Go.RowKit
theorem IM{ε α β:Type}{x:Except ε α}{f:α->Except ε β}{b:β}(h:(x >>= f)= .ok b):∃a,f a= .ok b:=by
 cases x with
 |error e=>cases h
 |ok a=>exact⟨a,h⟩
theorem pH{P:Program}{w w':World}{at_ k:Addr}{u:TypeId}{v:Value}{at':Bool}{l:List Addr}(h:World.viewStore P w at_ u k v at'= .ok (w',l)):w'.drawn=w.drawn:=by
 unfold World.viewStore at h
 repeat' (first
  |(obtain⟨_,h⟩:=IM h)
  |(split at h)
  |(cases h;done)
  |(cases h;rfl))
theorem AX{α:Type}(a:Ask α):(w:World)->w.drawn<=(World.ask w a).2.drawn:=by
 induction a with
 |done a=>intro w;exact YD _
 |ask KU range k ih=>
  intro w;unfold World.ask;simp only;split
  .exact ih _ _
  .have h2:=ih ((Question.extern KU range).cut (w.tape w.drawn (Question.extern KU range))) {w with drawn:=w.drawn+1};exact Y3 (Nat.le_succ _) h2
theorem AY(w:World)(c:Sys):w.drawn<=(w.sys c).2.drawn:=by
 unfold World.sys;have h:=AX (Kernel.perform c w.os) w;split
 .exact YD _
 .rename_i h1;rw[h1]at h;exact h
theorem AZ{P:Program}{α:Type}{a:α}{w':World}(s:Sem α):(w:World)->s.run P w= .ok a w'->w.drawn<=w'.drawn:=by
 induction s with
 |pure a=>intro w h;cases h;exact YD _
 |load m a k ih=>
  intro w h;unfold aao at h;split at h
  .exact ih _ _ h
  .split at h
   .exact ih _ _ h
   .cases h
 |store m a v k ih=>
  intro w h
  cases v<;>simp only[aao]at h<;>first
   |(cases h;done)
   |(split at h
     .split at h
      .cases h
      .have h2:=ih _ h;exact h2
     .split at h
      .rename_i e3;have h2:=ih _ h;unfold World.farStore at e3;split at e3
       .split at e3
        .rename_i e4;cases e3;rw[pH e4]at h2;exact h2
        .cases e3
       .cases e3
      .cases h)
 |new o k ih=>intro w h;unfold aao at h;have h2:=ih _ _ h;exact h2
 |shape r k ih=>intro w h;unfold aao at h;exact ih _ _ h
 |freeze a n k ih=>intro w h;unfold aao at h;have:=ih _ h;unfold World.freeze at this;split at this<;>exact this
 |frozen a k ih=>intro w h;unfold aao at h;exact ih _ _ h
 |getObj r k ih=>intro w h;unfold aao at h;split at h<;>first|cases h|exact ih _ _ h
 |setObj r o k ih=>intro w h;unfold aao at h;split at h<;>first|(cases h;done)|(have h2:=ih _ h;exact h2)
 |choose q k ih=>
  intro w h;unfold aao at h;split at h
  .exact ih _ _ h
  .have h2:=ih _ _ h;exact Y3 (Nat.le_succ _) h2
 |sys c k ih=>intro w h;unfold aao at h;exact Y3 (AY w c) (ih _ _ h)
 |program k ih=>intro w h;unfold aao at h;exact ih _ _ h
 |mark m k ih=>intro w h;unfold aao at h;exact ih _ h
 |halt hh=>intro w h;unfold aao at h;cases h
structure Ext(g:Nat->Prop)(w w':World):Prop where
 os:w'.os=w.os
 tape:w'.tape=w.tape/\w.drawn<=w'.drawn
 output:w'.output=w.output
 size:w.heap.size<=w'.heap.size
 block:∀k,k<w.heap.size->¬g k->w'.heap[k]? =w.heap[k]?
theorem Ext.Dm{g:Nat->Prop}{a b:World}{row:Option Nat}(h:a.grownBy b row)(hd:a.drawn<=b.drawn)(hs:∀k,row=some k->g k):Ext g a b:=
 ⟨h.os,⟨h.tape,hd⟩,h.output,h.size,fun k hk hn=>h.block k hk fun e=>hn (hs k e.symm)⟩
section
variable {w0 w w':World} {F0 F F':Nat->Prop} {g:Nat->Prop}
theorem St.ext(h:St w0 F0 w F)(he:Ext g w w')(hg:∀k,g k->w0.heap.size<=k):St w0 F0 w' F:=
 ⟨h.below.trans ⟨he.os,he.tape.1,he.output,he.size,fun k hk=>by
   rcases Nat.lt_or_ge k w.heap.size with av|hge
   .exact he.block k av fun e=>by have:=hg k e;omega
   .have:=h.below.size;omega⟩,h.le,h.new,fun b hb=>Y8 (h.lt b hb) he.size⟩
theorem Step.ext(he:Ext g w w')(hF:∀b,F b->b<w.heap.size)(hg:∀k,g k->¬F k):Step F w F w':=
 fun b hb=>⟨hb,he.block b (hF b hb) fun e=>hg b e hb⟩
def jv(base:Nat)(F:Nat->Prop)(w:World)(b:Nat)(T:TypeId)(r:Row)(x:r.den):Prop:=
 base<=b/\¬F b/\∃es,w.heap[b]? =some (.cells es.toArray T (0,0))/\bF F w r es x
def aS(v:Value)(k:Nat):Prop:=v.ownBlock=some k
def is(b k:Nat):Prop:=k=b
def iY(w:World)(base:Nat)(e:TypeId)(size:Nat)(v:Value)(n:Nat)(xs:List Value):Prop:=
 xs.length=n*size/\
 ((v= .slice none 0 0/\n=0)\/
  ∃g o0 cap cur,v= .slice (some ⟨g,o0,none⟩) n cap/\base<=g/\w.heap[g]? =some (.cells cur e (0,0))/\n<=cap/\cap<=maxLen/\o0+cap*size<=cur.size/\(cur.toList.drop o0).take (n*size)=xs)
theorem iY.of{w:World}{base:Nat}{e:TypeId}{size:Nat}{v:Value}{n:Nat}{xs:List Value}(h:w.ownsRow base e size v n xs):iY w base e size v n xs:=by
 refine⟨h.1,?_⟩
 rcases h.2 with h|⟨g,cap,cur,hv,hb,hg,h1,h2,h3,h4⟩
 .exact .inl h
 .exact .inr ⟨g,0,cap,cur,hv,hb,hg,h1,h2,by omega,h4⟩
theorem A0(w:World)(base:Nat)(e:TypeId)(size:Nat):iY w base e size (.slice none 0 0) 0 []:= .of (World.ownsRow_nil w base e size)
theorem iY.lt{w:World}{base:Nat}{e:TypeId}{size:Nat}{v:Value}{n:Nat}{xs:List Value}(h:iY w base e size v n xs):∀k,v.ownBlock=some k->base<=k/\k<w.heap.size:=by
 intro k hk
 rcases h.2 with⟨rfl,_⟩|⟨g,o0,cap,cur,rfl,hb,hg,_⟩
 .cases hk
 .obtain rfl:g=k:=by simpa[Y9]using hk
  exact⟨hb,(Zb.1 hg).1⟩
def fa(base:Nat)(F:Nat->Prop)(w:World)(T:TypeId)(r:Row)(v:Value)(l:List r.den):Prop:=
 (∀k,aS v k->¬F k)/\∃xs,iY w base T r.size v l.length xs/\∀i(h:i<l.length),bF F w r ((xs.drop (i*r.size)).take r.size) l[i]
variable {base b:Nat} {T:TypeId} {r:Row}
theorem jv.lt{x:r.den}(h:jv base F w b T r x):∀k,is b k->k<w.heap.size:=fun k hk=>by
 obtain⟨_,_,es,hh,_⟩:=h;rw[hk];exact(Zb.1 hh).1
theorem jv.ge{x:r.den}(h:jv base F w b T r x):∀k,is b k->base<=k:=fun k hk=>by rw[hk];exact h.1
theorem jv.no{x:r.den}(h:jv base F w b T r x):∀k,is b k->¬F k:=fun k hk=>by rw[hk];exact h.2.1
theorem jv.st{x:r.den}(h:jv base F w b T r x)(hF:∀b,F b->b<w.heap.size)(hs:St w F w' F'):jv base F' w' b T r x:=by
 have av:=h.lt b rfl;obtain⟨h1,h2,es,hh,hr⟩:=h;refine⟨h1,fun e=>?_,es,(hs.below.block b av).trans hh,hr.step (hs.step hF)⟩
 rcases hs.new b e with h'|h'
 .exact h2 h'
 .omega
theorem jv.ext{x:r.den}(h:jv base F w b T r x)(hF:∀b,F b->b<w.heap.size)(he:Ext g w w')(hg:∀k,g k->¬F k)(hb:∀k,g k->¬is b k):jv base F w' b T r x:=by
 have av:=h.lt b rfl;obtain⟨h1,h2,es,hh,hr⟩:=h;exact⟨h1,h2,es,(he.block b av fun e=>hb b e rfl).trans hh,hr.step (Step.ext he hF hg)⟩
theorem jv.at{x:r.den}(h:jv base F w b T r x):At F w r b 0 x:=by
 obtain⟨_,_,es,hh,hr⟩:=h;exact⟨es,hr.length,fun j u hu=>by rw[Ze,cell_of_row w b j _ T (0,0) hh];simpa using hu,hr⟩
theorem fa.lt{v:Value}{l:List r.den}(h:fa base F w T r v l):∀k,aS v k->k<w.heap.size:=by
 obtain⟨_,xs,h,_⟩:=h
 exact fun k hk=>(h.lt k hk).2
theorem fa.ge{v:Value}{l:List r.den}(h:fa base F w T r v l):∀k,aS v k->base<=k:=by
 obtain⟨_,xs,h,_⟩:=h
 exact fun k hk=>(h.lt k hk).1
theorem fa.no{v:Value}{l:List r.den}(h:fa base F w T r v l):∀k,aS v k->¬F k:=h.1
theorem fa.nil(base:Nat)(F:Nat->Prop)(w:World)(T:TypeId)(r:Row):fa base F w T r (.slice none 0 0) []:=
 ⟨fun k hk=>by simp[aS,Y9]at hk,[],A0 _ _ _ _,fun i h=>absurd h (by simp)⟩
theorem fa.keep{v:Value}{l:List r.den}(h:fa base F w T r v l)(hs:Step F w F' w')(h1:∀k,aS v k->¬F' k/\w'.heap[k]? =w.heap[k]?):fa base F' w' T r v l:=by
 obtain⟨_,xs,⟨vg,xx⟩,h3⟩:=h;refine⟨fun k hk=>(h1 k hk).1,xs,⟨vg,?_⟩,fun i hi=>(h3 i hi).step hs⟩
 rcases xx with h2|⟨gg,o0,cap,cur,rfl,hb,hg,rest⟩
 .exact .inl h2
 .exact .inr ⟨gg,o0,cap,cur,rfl,hb,(h1 gg rfl).2.trans hg,rest⟩
theorem fa.st{v:Value}{l:List r.den}(h:fa base F w T r v l)(hF:∀b,F b->b<w.heap.size)(hs:St w F w' F'):fa base F' w' T r v l:=
 h.keep (hs.step hF) fun k hk=>⟨fun e=>by
   have av:=h.lt k hk
   rcases hs.new k e with h'|h'
   .exact h.no k hk h'
   .omega,hs.below.block k (h.lt k hk)⟩
theorem fa.ext{v:Value}{l:List r.den}(h:fa base F w T r v l)(hF:∀b,F b->b<w.heap.size)(he:Ext g w w')(hg:∀k,g k->¬F k)(hb:∀k,g k->¬aS v k):fa base F w' T r v l:=
 h.keep (Step.ext he hF hg) fun k hk=>⟨h.no k hk,he.block k (h.lt k hk) fun e=>hb k e hk⟩
theorem fa.reads{v:Value}{l:List r.den}(h:fa base F w T r v l):Reads F w r v l:=by
 obtain⟨_,xs,hx,h3⟩:=h;have hlen:=hx.1
 rcases hx.2 with⟨rfl,h0⟩|⟨gg,o0,cap,cur,rfl,hb,hg,h1,h2,mK,se⟩
 .exact⟨none,0,by rw[h0],by omega,by simp[maxLen],fun i hi=>absurd hi (by omega)⟩
 .refine⟨_,cap,rfl,h1,h2,fun i hi=>⟨gg,o0,rfl,_,(h3 i hi).length,fun j u hu=>?_,h3 i hi⟩⟩;rw[Y0]at hu;split at hu
  .rw[YR]at hu;rw[cell_of_row w gg _ cur T (0,0) hg];rw[<-se,Y0]at hu;split at hu
   .rw[YR]at hu;simpa[Nat.add_assoc]using hu
   .cases hu
  .cases hu
theorem fa.freeze{v:Value}{l:List r.den}(h:fa base F w T r v l):bF (fun b=>F b\/aS v b) w (.slice r) [v] l:=by
 obtain⟨A,cap,hv,h1,h2,h3⟩:=h.reads;refine⟨A,cap,by rw[hv],h1,h2,fun i hi=>?_⟩;obtain⟨b,off,rfl,es,pF,hc,hr⟩:=h3 i hi;subst hv;exact⟨b,off,es,rfl, .inr (by simp[aS,Y9]),pF,hc,hr.step fun b hb=>⟨.inl hb,rfl⟩⟩
@[reducible] def Row.zero:(r:Row)->r.den
  | .int _=>(0:Int)
  | .bool=>false
  | .str=>aah
  | .slice _=>[]
  | .gW=> .slice none 0 0
  | .nul _=>()
  | .map .. =>[]
  | .pair a b=>(a.zero,b.zero)
def Row.dc:(r:Row)->List Value
 | .int k=>[.int k 0]
 | .bool=>[.bool false]
 | .str=>[.string aah]
 | .slice _=>[.slice none 0 0]
 | .gW=>[.slice none 0 0]
 | .nul k=>[k.val]
 | .map .. =>[.map none]
 | .pair a b=>a.dc++b.dc
theorem bF.zero(F:Nat->Prop)(w:World):(r:Row)->bF F w r r.dc r.zero
 | .int _=>rfl
 | .bool=>rfl
 | .str=>rfl
 | .slice e=>bF.nil F w e
 | .gW=>⟨rfl,none,0,0,rfl⟩
 | .nul _=>rfl
 | .map .. =>⟨_,rfl, .inl ⟨rfl,rfl⟩⟩
 | .pair a b=>⟨_,_,rfl,bF.zero F w a,bF.zero F w b⟩
theorem jv.new(F:Nat->Prop){w:World}(T:TypeId){r:Row}{es:List Value}{x:r.den}(hF:∀b,F b->b<w.heap.size)(hb:base<=w.heap.size)(hr:bF F w r es x):jv base F (w.alloc (.cells es.toArray T)) w.heap.size T r x:=
 ⟨hb,fun e=>by have:=hF _ e;omega,es,heap_alloc_new w _,hr.step (Step.alloc hF _)⟩
end
section
variable {P:Program} {n:Nat} {ops:Array Oper} {K:(Nat->Value)->World->Prop} {rest:List Oper} {ρ:Nat->Value} {w:World} {F:Nat->Prop} {base:Nat}
variable {d:Nat} {ty:TypeId} {pos:String} {aft:Array Edge} {x y:Operand} {t:TypeId}
theorem A3{dd:Option Nat}{ti:TypeInfo}{z:Value}(hi:P.info? t=some ti)(hz:ti.zero=some z):
 (execOp (ev ρ) ⟨dd, .alloc t,ty,pos,aft,none⟩).run P w= .ok (.value (.pointer (some ⟨w.heap.size,0,none⟩))) (w.alloc (.cells z.cells t)):=by
 simp[execOp,Instr.alloc,zeroValue,typeInfo,hi,hz,newVar,newRow]
theorem Gu{dd:Option Nat}{v:Value}(hx:ev ρ x=v):
 (execOp (ev ρ) ⟨dd, .box t x,ty,pos,aft,none⟩).run P w= .ok (.value (.pointer (some ⟨w.heap.size,0,none⟩))) (w.alloc (.cells v.cells t)):=by
 simp[execOp,Instr.box,hx,newVar,newRow]
theorem kh{dd:Option Nat}{ti:TypeInfo}{b off:Nat}{cur:Array Value}{T:TypeId}{v:Value}{vs:List Value}(hi:P.info? t=some ti)(hs:ti.size=vs.length)(hx:ev ρ x= .pointer (some ⟨b,off,none⟩))(hy:ev ρ y=v)
 (hv:v.cells.toList=vs)(h1:∀u∈vs,u.oneCell'=true)(hg:w.heap[b]? =some (.cells cur T (0,0)))(hl:off+vs.length<=cur.size):
 (execOp (ev ρ) ⟨dd, .store t x y,ty,pos,aft,none⟩).run P w= .ok .skip (w.setRow b (cur.toList.take off++vs++cur.toList.drop (off+vs.length)).toArray):=by
 have dC:=run_storeCells_at P b off T vs 0 cur w hg (by omega) h1
 have iz:v.cells.size=ti.size:=by rw[hs,<-hv];simp
 simp only[ZD]at dC;simp[execOp,Instr.storeAt,Instr.sureAddr,storeVar,sizeOf,typeInfo,hi,iz,hx,hy,hv,dC]
theorem xJ(w:World)(b:Nat)(cs:Array Value):Ext (is b) w (w.setRow b cs):=
 ⟨rfl,⟨rfl,YD _⟩,rfl,by simp,fun k _ hk=>setRow_other w b k cs hk⟩
theorem jv.put{w:World}{b:Nat}{T:TypeId}{r s:Row}{a:r.den}{es:List Value}(hh:w.heap[b]? =some (.cells es.toArray T (0,0)))(hr:bF F w r es a)(hb:base<=b)(hn:¬F b)(hF:∀b,F b->b<w.heap.size)(p:Path r s){vs:List Value}{u:s.den}(hv:bF F w s vs u):
 jv base F (w.setRow b (es.take p.off++vs++es.drop (p.off+s.size)).toArray) b T r (p.set a u):=
 ⟨hb,hn,_,setRow_heap w b _ _ T (0,0) hh,(hr.put p hv).step (Step.ext (xJ w b _) hF fun k hk=>by rw[show k=b from hk];exact hn)⟩
def sf{α:Type}(m:Int)(z:α):Option (List α):=if 0<=m/\m<=4294967296 then some (Y4 m.toNat z)else none
def bZ{α:Type}(l m:List α):Option (List α):=if l.length+m.length<=4294967296 then some (l++m)else none
theorem nw(z:Array Value)(m j:Nat)(hj:j<m)(hz:0<z.size):(madeCells z m).toList[j]? =z[j%z.size]? :=by
 have:j%z.size<z.size:=Nat.mod_lt _ hz;simp[madeCells,hj,this]
theorem Dn(z:List Value)(m i:Nat)(hz:0<z.length)(hi:i<m):(((madeCells z.toArray (m*z.length)).toList.drop (i*z.length)).take z.length)=z:=by
 apply List.ext_getElem?
 intro j;rw[Y0,YR];split
 .rename_i hj;have hle:(i+1)*z.length<=m*z.length:=YX _ hi;rw[Zm]at hle;rw[nw z.toArray (m*z.length) (i*z.length+j) (by omega) (by simpa using hz)];rw[show z.toArray.size=z.length from by simp,List.getElem?_toArray];rw[Nat.add_comm,Nat.add_mul_mod_self_right,Nat.mod_eq_of_lt hj]
 .rename_i hj;rw[List.getElem?_eq_none (by omega)]
theorem Reads.news{r:Row}{A:Option Addr}{cap m:Nat}{l:List r.den}(h:Reads F w r (.slice A m cap) l)(b off:Nat)(hA:A=some ⟨b,off,none⟩):
 ∃news:List Value,news.length=l.length*r.size/\(∀j u,news[j]? =some u->w.cell? ⟨b,off+j,none⟩=some u)/\∀i(hi:i<l.length),bF F w r ((news.drop (i*r.size)).take r.size) l[i]:=by
 subst hA;obtain⟨A',Dq,hv,_,_,h4⟩:=h;simp only[ZV]at hv;obtain⟨rfl,_,_⟩:=hv;have nz:=r.size_pos
 have nv:∀j,j<l.length*r.size->∃u,w.cell? ⟨b,off+j,none⟩=some u:=by
  intro j hj;have hi:j/r.size<l.length:=Nat.div_lt_of_lt_mul (by rwa [Nat.mul_comm]);obtain⟨b',cF,pW,es,pF,hc,_⟩:=h4 _ hi;simp only[YH,Z2,and_true]at pW;obtain⟨rfl,rfl⟩:=pW
  have NB:j%r.size<es.length:=by rw[pF];exact Nat.mod_lt _ nz
  have:=hc (j%r.size) _ (YF NB);rw[Nat.add_assoc,Nat.div_add_mod']at this;exact⟨_,this⟩
 have Gv:∀j u,((YI (l.length*r.size)).map fun j=>(w.cell? ⟨b,off+j,none⟩).getD undef)[j]? =some u↔j<l.length*r.size/\w.cell? ⟨b,off+j,none⟩=some u:=by
  intro j u;by_cases hj:j<l.length*r.size
  .obtain⟨q,hq⟩:=nv j hj;simp[hj,hq]
  .simp[hj]
 refine⟨(YI (l.length*r.size)).map fun j=>(w.cell? ⟨b,off+j,none⟩).getD undef,by simp,fun j u hu=>((Gv j u).1 hu).2,fun i hi=>?_⟩;obtain⟨b',cF,pW,es,pF,hc,hr⟩:=h4 i hi;simp only[YH,Z2,and_true]at pW;obtain⟨rfl,rfl⟩:=pW
 have he:(((YI (l.length*r.size)).map fun j=>(w.cell? ⟨b,off+j,none⟩).getD undef).drop (i*r.size)).take r.size=es:=by
  have hle:(i+1)*r.size<=l.length*r.size:=YX _ hi;rw[Zm]at hle
  apply List.ext_getElem?
  intro j;rw[Y0,YR];split
  .rename_i hj;rw[(Gv (i*r.size+j) (es[j]'(by omega))).2 ⟨by omega,by rw[<-Nat.add_assoc];exact hc j _ (YF (by omega))⟩,YF (by omega)]
  .rw[List.getElem?_eq_none (by omega)]
 rw[he];exact hr
theorem nA(w:World)(base:Nat)(t ty e:TypeId)(i:TypeInfo)(size:Nat)(ht:P.underlying t=some (.slice e))(hi:P.info? e=some i)
 (v:Value)(n:Nat)(xs:List Value)(cV:iY w base e size v n xs)(c:Nat):(aaa #[t,t] ty #[v, .slice none 0 c]).run P w= .ok v w:=by
 rcases cV.2 with⟨rfl,rfl⟩|⟨g,o0,cap,cur,rfl,_,_,KV,_⟩
 .simp[aaa,run_underlying ht,sizeOf,typeInfo,hi,Builtin.lenOf,Builtin.firstCells]
 .simp[aaa,run_underlying ht,sizeOf,typeInfo,hi,Builtin.lenOf,Builtin.firstCells,KV,storeCells]
theorem tP(w:World)(base:Nat)(t ty e:TypeId)(i:TypeInfo)(z:Value)(size bytes:Nat)(ht:P.underlying t=some (.slice e))(hi:P.info? e=some i)(hz:i.zero=some z)
 (HY:i.size=size)(Kv:i.bytes=bytes)(KW:z.cells.size=size)(iz:0<size)
 (v:Value)(n:Nat)(xs:List Value)(cV:iY w base e size v n xs)
 (a:Addr)(m c:Nat)(news:List Value)(hl:news.length=m*size)(Dr:∀j u,news[j]? =some u->w.cell? (a.add j)=some u)(h1:∀u∈news,u.oneCell'=true)
 (Oe:n+m<=maxLen)(Ds:(n+m)*bytes<=140737488355328)(HZ:base<=w.heap.size):
 ∃v' w',(aaa #[t,t] ty #[v, .slice (some a) m c]).run P w= .ok v' w'/\iY w' base e size v' (n+m) (xs++news)/\w.grownBy w' v.ownBlock/\
  (v'.ownBlock=v.ownBlock\/v'.ownBlock=some w.heap.size):=by
 rcases cV.2 with⟨rfl,rfl⟩|⟨g,o0,cap,cur,rfl,TF,hg,KV,Gw,mK,se⟩
 .have hx:xs=[]:=List.eq_nil_of_length_eq_zero (by simpa using cV.1);subst hx;obtain⟨v',w',g1,g2,g3,_,g4⟩:=run_append_own_at (P:=P) w base t ty e i z size bytes ht hi hz HY Kv KW iz (.slice none 0 0) 0 [] (World.ownsRow_nil w base e size) a m c news hl Dr h1 Oe Ds HZ;exact⟨v',w',g1, .of g2,g3,g4⟩
 subst HY;subst Kv
 have Of:n+m<=9223372036854775807:=by simp only[maxLen]at Oe;omega
 have hlen:(xs++news).length=(n+m)*i.size:=by rw[YV,cV.1,hl,Zm]
 have XM:n*i.size+news.length=(n+m)*i.size:=by rw[hl,Zm]
 have TG:n*i.size<=cap*i.size:=YX _ KV;by_cases Dt:n+m<=cap
 .have vl:(n+m)*i.size<=cap*i.size:=YX _ Dt;have hf:=run_firstCells_some (P:=P) w i.size m a m c news hl Dr;have dC:=run_storeCells_at P g (o0+n*i.size) e news 0 cur w hg (by omega) h1;simp only[ZD]at dC
  have hr:(aaa #[t,t] ty #[.slice (some ⟨g,o0,none⟩) n cap, .slice (some a) m c]).run P w=
   .ok (.slice (some ⟨g,o0,none⟩) (n+m) cap) (w.setRow g (cur.toList.take (o0+n*i.size)++news++cur.toList.drop (o0+n*i.size+news.length)).toArray):=by
   simp[aaa,run_underlying ht,sizeOf,typeInfo,hi,Builtin.lenOf,Dt,hf,Addr.add_lit,dC]
  refine⟨_,_,hr,⟨hlen, .inr ⟨g,o0,cap,_,rfl,TF,setRow_heap w g cur _ e _ hg,Dt,Gw,?_,?_⟩⟩,⟨rfl,rfl,rfl,by simp,fun k _ hk=>setRow_other w g k _ (fun e=>hk (by simp[Y9,e]))⟩,Or.inl rfl⟩
  .simp only[List.size_toArray,YV,Zw,List.length_drop,Array.length_toList];omega
  .rw[List.toList_toArray,Y2,Zu (by simp;omega),List.drop_take,Nat.add_sub_cancel_left,se,<-Y2,<-hlen];exact List.take_left
 .have holds:∀j u,xs[j]? =some u->w.cell? ((⟨g,o0,none⟩:Addr).add j)=some u:=fun j u hj=>by
   rw[bM,cell_of_row w g _ cur e (0,0) hg];rw[<-se,Y0]at hj;split at hj
   .rw[YR]at hj;simpa using hj
   .cases hj
  have hr:=run_append_grow (P:=P) w t ty e i z ht hi hz ⟨g,o0,none⟩ n cap xs cV.1 holds a m c news hl Dr (by omega) (by omega) (growslice_fits (by omega) Ds);have hge:=grownCap_ge w (n+m) cap e;have Og:grownCap w (n+m) cap e<=maxLen:=grownCap_le_maxLen w (n+m) cap e Oe;refine⟨_,_,hr, .of ⟨hlen, .inr ⟨w.heap.size,_,_,rfl,HZ,heap_alloc_new w.drew _,hge,Og,?_,?_⟩⟩,⟨rfl,rfl,rfl,by simp,fun k hk _=>heap_alloc_old w.drew _ hk⟩,Or.inr rfl⟩
  .simp only[Array.size_append,List.size_toArray,size_zeroCells,KW,cV.1,hl,<-Zm]
   congr 1
   omega
  .simp only[Array.toList_append,Y2];rw[<-Y2,<-hlen];exact List.take_left
theorem Reads.same{r:Row}{v:Value}{l:List r.den}(h:Reads F w r v l):Reads F w r v l:=h
theorem qj{e:TypeId}{ti:TypeInfo}{z:Value}{r:Row}{v u:Value}{l m out:List r.den}(ty:TypeId)(ht:P.underlying t=some (.slice e))(hi:P.info? e=some ti)(hz:ti.zero=some z)(KX:z.cells.toList=r.dc)(hs:ti.size=r.size)(Kv:ti.bytes<=32768)
 (hv:fa base F w e r v l)(hu:Reads F w r u m)(hm:bZ l m=some out)(hF:∀b,F b->b<w.heap.size)(hb:base<=w.heap.size):
 ∃v' w',(aaa #[t,t] ty #[v,u]).run P w= .ok v' w'/\Ext (aS v) w w'/\fa base F w' e r v' out/\(aS v'=aS v\/aS v'=(w.heap.size= ·)):=by
 unfold bZ at hm;split at hm
 case isFalse=>cases hm
 rename_i hlen;obtain rfl:=YA hm
 have KW:z.cells.size=r.size:=by rw[<-(bF.zero F w r).length,<-KX];simp
 obtain⟨xy,xs,hx,h3⟩:=hv;have NC:=hu;obtain⟨A,cap,rfl,XN,Gw,pF⟩:=hu
 have Du:∀(v':Value)(w':World)(news:List Value),news.length=m.length*r.size->(∀i(hi:i<m.length),bF F w r ((news.drop (i*r.size)).take r.size) m[i])->
  iY w' base e r.size v' (l.length+m.length) (xs++news)->w.grownBy w' v.ownBlock->w.drawn<=w'.drawn->(v'.ownBlock=v.ownBlock\/v'.ownBlock=some w.heap.size)->
  Ext (aS v) w w'/\fa base F w' e r v' (l++m)/\(aS v'=aS v\/aS v'=(w.heap.size= ·)):=by
  intro v' _ news ND NE ed hg gW pV
  have hm:aS v'=aS v\/aS v'=(w.heap.size= ·):=by
   rcases pV with h|h
   .exact .inl (by unfold aS;rw[h])
   .refine .inr ?_;funext b;unfold aS;rw[h];simp
  have aY:=Ext.Dm hg gW (g:=aS v) fun k hk=>hk
  have cI:=Step.ext aY hF xy;refine⟨aY,⟨fun k hk=>?_,xs++news,by simpa using ed,fun k hk=>?_⟩,hm⟩
  .rcases hm with h|h
   .rw[h]at hk;exact xy k hk
   .rw[h]at hk;intro hf;have:=hF k hf;omega
  .have xK:=hx.1
   rcases Nat.lt_or_ge k l.length with av|hge
   .have hle:(k+1)*r.size<=l.length*r.size:=YX _ av;rw[Zm]at hle;rw[List.getElem_append_left av,Zu (by omega),List.take_append_of_le_length (by rw[List.length_drop];omega)];exact(h3 k av).step cI
   .have Kw:k-l.length<m.length:=by simp at hk;omega
    have hmul:k*r.size=l.length*r.size+(k-l.length)*r.size:=by rw[<-Zm];congr 1;omega
    rw[List.getElem_append_right hge,List.drop_append,xK,ZC (by omega),List.nil_append,show k*r.size-l.length*r.size=(k-l.length)*r.size from by omega];exact(NE _ Kw).step cI
 cases A with
 |none=>
  have IN:m=[]:=by
   cases m with
   |nil=>rfl
   |cons a q=>obtain⟨b,off,h,_⟩:=pF 0 (by simp);cases h
  subst IN;refine⟨v,w,nA w base t ty e ti r.size ht hi v _ xs hx _,?_⟩;exact Du v w [] (by simp) (fun i hi=>absurd hi (by simp)) (by simpa using hx) ⟨rfl,rfl,rfl,YD _,fun _ _ _=>rfl⟩ (YD _) (.inl rfl)
 |some ad=>
  have key:∃news:List Value,news.length=m.length*r.size/\(∀j u,news[j]? =some u->w.cell? (ad.add j)=some u)/\∀i(hi:i<m.length),bF F w r ((news.drop (i*r.size)).take r.size) m[i]:=by
   cases m with
   |nil=>exact⟨[],by simp,fun j u h=>by simp at h,fun i hi=>absurd hi (by simp)⟩
   |cons a q=>
    obtain⟨b,off,h,_⟩:=pF 0 (by simp);obtain⟨news,h1,h2,h3⟩:=NC.news b off h
    obtain rfl:ad=⟨b,off,none⟩:=by simpa using h
    exact⟨news,h1,fun j u hj=>by rw[bM];exact h2 j u hj,h3⟩
  obtain⟨news,ND,KV,NE⟩:=key
  have ir:∀u∈news,u.oneCell'=true:=by
   intro u hu;obtain⟨j,hj,rfl⟩:=ZO hu;have nz:=r.size_pos;have hi:j/r.size<m.length:=Nat.div_lt_of_lt_mul (by rw[Nat.mul_comm,<-ND];exact hj);have hr:=NE _ hi;refine hr.fu _ ?_;have hle:(j/r.size)*r.size+j%r.size=j:=Nat.div_add_mod' j r.size;have av:=Nat.mod_lt j nz;rw[List.mem_iff_getElem?];refine⟨j%r.size,?_⟩;rw[Y0,if_pos av,YR,hle,YF hj]
  obtain⟨v',w',aZ,ed,hg,pV⟩:=tP (P:=P) w base t ty e ti z r.size ti.bytes ht hi hz hs rfl KW r.size_pos v l.length xs hx ad m.length cap news ND KV ir (by simp only[maxLen];omega)
   (Y3 (Nat.mul_le_mul hlen Kv) (by omega)) hb
  exact⟨v',w',aZ,Du v' w' news ND NE ed hg (AZ _ _ aZ) pV⟩
end
end Go.Proofs.YtbladfbbhijpmaaGreat
end
section
open _root_.Bool renaming false_eq_true->YW
open _root_.List.cons renaming injEq->ZM
open _root_.List renaming drop_eq_getElem_cons->Zd,length_take->Zw,take_length->YS
open _root_.Nat renaming add_zero->ZD,beq->YE,min_eq_left->ZF
open _root_.Option.some renaming injEq->YH
open _root_.Prod.mk renaming injEq->Zx
open _root_.Go.Result renaming andThen_ok->Zh
open _root_.Go.Sem renaming run_bind->Y6
namespace Go.Proofs.YtbladfbbhijpmaaGreat
open Go Go.RowKit
theorem bind_some{α β:Type}{o:Option α}{f:α->Option β}{r:β}(h:o.bind f=some r):∃x,o=some x/\f x=some r:=Option.bind_eq_some_iff.1 h
section
variable {P:Program} {n:Nat} {ρ:Nat->Value} {w:World} {K:(Nat->Value)->World->Prop} {Q:Exit->(Nat->Value)->World->Prop}
theorem Dv{id:Nat}(h:Q .normal ρ w):Ku id Q (.exit id) ρ w:=by
 show(bif YE id id then _ else _)
 rw[show YE id id=true from Nat.beq_refl id];exact h
theorem A4{id AL:Nat}(b8:YE AL id=false)(h:Q (.exit AL) ρ w):Ku id Q (.exit AL) ρ w:=by
 show(bif YE AL id then _ else _)
 rw[b8];exact h
theorem fa.fz{base:Nat}{F G:Nat->Prop}{w:World}{T:TypeId}{r:Row}{v:Value}{l:List r.den}(h:fa base F w T r v l)(hg:∀k,G k->¬aS v k):fa base (fun b=>F b\/G b) w T r v l:=
 h.keep (Step.freeze F w G) fun k hk=>⟨fun e=>e.elim (h.no k hk) fun e=>hg k e hk,rfl⟩
theorem jv.fz{base:Nat}{F G:Nat->Prop}{w:World}{b:Nat}{T:TypeId}{r:Row}{x:r.den}(h:jv base F w b T r x)(hg:∀k,G k->¬is b k):jv base (fun b=>F b\/G b) w b T r x:=by
 obtain⟨h1,h2,es,hh,hr⟩:=h;exact⟨h1,fun e=>e.elim h2 fun e=>hg b e rfl,es,hh,hr.step (Step.freeze F w G)⟩
theorem St.fz{w0 w:World}{F0 F:Nat->Prop}(h:St w0 F0 w F){T:TypeId}{r:Row}{v:Value}{l:List r.den}(ho:fa w0.heap.size F w T r v l):St w0 F0 w (fun b=>F b\/aS v b):=
 h.freeze (aS v) fun b hb=>⟨ho.ge b hb,ho.lt b hb⟩
end
def TI(P:Program)(e:TypeId)(r:Row):Prop:=∃ti z,P.info? e=some ti/\ti.zero=some z/\z.cells.toList=r.dc/\ti.size=r.size/\ti.bytes<=32768
theorem TI.mk{P:Program}{e:TypeId}{r:Row}{k:Nat}(h:(P.info? e).map (fun i=>(i.zero.map (fun z=>z.cells.toList),i.size,decide (i.bytes<=32768)))=some (some r.dc,k,true))(hk:k=r.size):TI P e r:=by
 cases hi:P.info? e with
 |none=>simp[hi]at h
 |some ti=>
  simp only[hi,Option.map_some,YH,Zx,decide_eq_true_eq]at h;obtain⟨h1,h2,h3⟩:=h
  cases hz:ti.zero with
  |none=>simp[hz]at h1
  |some z=>
   simp only[hz,Option.map_some,YH]at h1;exact⟨ti,z,hi,hz,h1,h2.trans hk,h3⟩
section
variable {P:Program} {n:Nat} {ops:Array Oper} {K:(Nat->Value)->World->Prop} {rest:List Oper} {ρ:Nat->Value} {w:World} {F:Nat->Prop} {base:Nat}
variable {d:Nat} {dd:Option Nat} {ty:TypeId} {pos:String} {aft:Array Edge} {x y c:Operand} {t e:TypeId} {r:Row}
theorem iZ{f:Nat}{fs:Array Field}{fd:Field}{jE off:Nat}(k:Nat)(hs:P.underlying t=some (.struct fs))(hf:fs[f]? =some fd)(hi:TI P fd.type r)(hk:fd.offset=k)
 (hx:ev ρ x= .pointer (some ⟨jE,off,none⟩)):Pure P ρ ⟨dd, .fieldAddr t x f,ty,pos,aft,none⟩ (.pointer (some ⟨jE,off+k,none⟩)):=by
 obtain⟨ti,z,h1,_,_,h4,_⟩:=hi;exact qi k hs hf h1 (by rw[h4];have:=r.size_pos;omega) hk hx
end
end Go.Proofs.YtbladfbbhijpmaaGreat
namespace Go.Proofs.YtbladfbbhijpmaaGreat
open Go Go.RowKit
noncomputable def ki(r:Row)(x y:r.den):Bool:= @decide (x=y) (Row.decEq r x y)
theorem pX{r:Row}{x y:r.den}:ki r x y=true↔x=y:=by simp[ki]
theorem og{r:Row}{x y:r.den}:ki r x y=false↔x≠y:=by simp[ki]
def Dw(P:Program)(t:TypeId)(cs:List Value)(v:Value):Prop:=∃D,P.underlying t=some D/\(if fy D=true then v= .agg cs.toArray else cs=[v])
def kj(P:Program)(t:TypeId)(r:Row)(K:Nat):Prop:=
 ∀(d:Nat)(w2 w:World)(F:Nat->Prop)(cs mL:List Value)(x y:r.den)(v v':Value),Dw P t cs v->Dw P t mL v'->bF F w r cs x->bF F w r mL y->
  (Op.equalIn (d+K) t v v').run P w2= .ok (decide (x=y)) w2
def Gx(P:Program)(fs:List Field)(r:Row)(off K:Nat):Prop:=
 ∀(d:Nat)(w2 w:World)(F:Nat->Prop)(xs ys:List Value)(x y:r.den),bF F w r ((xs.drop off).take r.size) x->bF F w r ((ys.drop off).take r.size) y->
  (Op.eqFields (d+K) xs.toArray ys.toArray fs).run P w2= .ok (decide (x=y)) w2
section
variable {P:Program} {t:TypeId} {r:Row} {k:IntKind} {K:Nat}
theorem zE(ht:P.underlying t=some (.int k)):kj P t (.int k) 1:=by
 intro d w2 w F cs mL x y v v' ⟨D,hD,h1⟩ ⟨D',Gy,h2⟩ hx hy;rw[ht]at hD Gy;cases hD;cases Gy;obtain rfl:cs=_:=hx;obtain rfl:mL=_:=hy;simp only[fy,YW,if_false,ZM,and_true]at h1 h2;subst h1;subst h2;rw[run_equalIn_int (h:=ht),lN]
theorem nB{D:TypeDesc}{ti:TypeInfo}{cs:List Value}{off:Nat}{F:Nat->Prop}{w:World}{x:r.den}(hD:P.underlying t=some D)(hi:P.info? t=some ti)(hs:ti.size=r.size)(ir:fy D=false->r.size=1)
 (hr:bF F w r ((cs.drop off).take r.size) x)(w2:World):∃v,(part t cs.toArray off).run P w2= .ok v w2/\Dw P t ((cs.drop off).take r.size) v:=by
 have hl:=hr.length;have nz:=r.size_pos
 cases hA:fy D with
 |true=>
  refine⟨.agg ((cs.drop off).take r.size).toArray,?_,D,hD,by rw[if_pos hA]⟩;unfold part;rw[Y6,dn hD,hA];simp[sizeOf,typeInfo,hi,hs]
 |false=>
  have h1:=ir hA;rw[h1]at hl⊢
  have av:off<cs.length:=by
   rw[Zw,List.length_drop]at hl;omega
  refine⟨cs[off],?_,D,hD,?_⟩
  .unfold part;rw[Y6,dn hD,hA];simp[av]
  .rw[if_neg (by simp[hA])];rw[Zd av];rfl
theorem k6{f:Field}{off:Nat}(hn:(f.name != "_")=true)(ho:f.offset=off){D:TypeDesc}(hD:P.underlying f.type=some D)(ir:fy D=false->r.size=1)(hi:TI P f.type r)(he:kj P f.type r K):Gx P [f] r off K:=by
 intro d w2 w F xs ys x y hx hy;subst ho;obtain⟨ti,z,h1,_,_,h4,_⟩:=hi;obtain⟨v,hv,jw⟩:=nB hD h1 h4 ir hx w2;obtain⟨v',cQ,A5⟩:=nB hD h1 h4 ir hy w2;have:=he d w2 w F _ _ x y v v' jw A5 hx hy
 have Dx:f.name≠ "_" :=by simpa using hn
 unfold Op.eqFields;rw[if_pos Dx,Y6,hv,Zh,Y6,cQ,Zh,Y6,this,Zh]
 by_cases mM:x=y<;>simp[mM,Op.eqFields]
theorem iE{f:Field}{fs:List Field}{a b:Row}{off:Nat}(hn:(f.name != "_")=true)(ho:f.offset=off){D:TypeDesc}(hD:P.underlying f.type=some D)(ir:fy D=false->a.size=1)(hi:TI P f.type a)(he:kj P f.type a K)
 (hr:Gx P fs b (off+a.size) K):Gx P (f::fs) (.pair a b) off K:=by
 intro d w2 w F xs ys x y hx hy;subst ho;obtain⟨ti,z,h1,_,_,h4,_⟩:=hi
 have hle:a.size<=(Row.pair a b).size:=by simp
 have dT:∀(zs:List Value)(u:(Row.pair a b).den),bF F w (.pair a b) ((zs.drop f.offset).take (Row.pair a b).size) u->bF F w a ((zs.drop f.offset).take a.size) u.1:=by
  intro zs u hu;have:=bF.path (.fst (.here (r:=a)):Path (.pair a b) a) hu;simp only[Path.off,List.drop_zero]at this;rw[List.take_take,ZF hle]at this;exact this
 have KY:∀(zs:List Value)(u:(Row.pair a b).den),bF F w (.pair a b) ((zs.drop f.offset).take (Row.pair a b).size) u->bF F w b ((zs.drop (f.offset+a.size)).take b.size) u.2:=by
  intro zs u hu;have:=bF.path (.snd (.here (r:=b)):Path (.pair a b) b) hu;simp only[Path.off,ZD]at this;rw[List.drop_take,List.drop_drop]at this;rw[show(Row.pair a b).size-a.size=b.size from by simp]at this;rw[List.take_take,Nat.min_self]at this;exact this
 obtain⟨v,hv,jw⟩:=nB hD h1 h4 ir (dT xs x hx) w2;obtain⟨v',cQ,A5⟩:=nB hD h1 h4 ir (dT ys y hy) w2;have h5:=he d w2 w F _ _ _ _ v v' jw A5 (dT xs x hx) (dT ys y hy);have h6:=hr d w2 w F xs ys _ _ (KY xs x hx) (KY ys y hy)
 have Dx:f.name≠ "_" :=by simpa using hn
 unfold Op.eqFields;rw[if_pos Dx,Y6,hv,Zh,Y6,cQ,Zh,Y6,h5,Zh];obtain⟨x1,x2⟩:=x;obtain⟨y1,y2⟩:=y;by_cases mM:x1=y1
 .simp only[mM,decide_true,Bool.not_true,YW,if_false,h6]
  congr 1
  simp[Prod.ext_iff]
 .simp[mM,Prod.ext_iff]
theorem iF{fs:Array Field}(ht:P.underlying t=some (.struct fs))(hp:P.stoodInHeld t=false)(h:Gx P fs.toList r 0 K):kj P t r (K+1):=by
 intro d w2 w F cs mL x y v v' ⟨D,hD,h1⟩ ⟨D',Gy,h2⟩ hx hy;rw[ht]at hD Gy;cases hD;cases Gy;simp only[fy,if_true]at h1 h2;subst h1;subst h2
 have hf:P.fieldsOf t=fs:=by simp[Program.fieldsOf,ht]
 have KZ:=hx.length;have NF:=hy.length;rw[<-Nat.add_assoc,run_equalIn_struct _ _ _ _ _ (by rw[hf];exact ht) hp,hf];exact h d w2 w F cs mL x y (by rw[List.drop_zero,<-KZ,YS];exact hx) (by rw[List.drop_zero,<-NF,YS];exact hy)
variable {ρ:Nat->Value} {dd:Option Nat} {ty:TypeId} {pos:String} {aft:Array Edge} {x y:Operand} {u:TypeId}
theorem A6{d:Nat}{F:Nat->Prop}{w:World}{es gG:List Value}{a b:r.den}(hE:kj P t r K)(hd:d+K=10000)(hg:P.eqGuardType P.depth t=false)(hD:(P.underlying t).any fy=true)
 (hx:ev ρ x= .agg es.toArray)(hy:ev ρ y= .agg gG.toArray)(ha:bF F w r es a)(hb:bF F w r gG b):
 Pure P ρ ⟨dd, .binOp .eql t x y u,ty,pos,aft,none⟩ (.bool (ki r a b)):=fun w2=>by
 cases hu:P.underlying t with
 |none=>simp[hu]at hD
 |some D=>
  have hA:fy D=true:=by simpa[hu]using hD
  have:=hE d w2 w F es gG a b _ _ ⟨D,hu,by rw[if_pos hA]⟩ ⟨D,hu,by rw[if_pos hA]⟩ ha hb;rw[hd]at this;simp only[execOp,hx,hy,Y6,run_eqGuard_agg _ _ _ _ _ _ _ hg,Zh,run_eql_struct,this];rfl
theorem A7{d:Nat}{F:Nat->Prop}{w:World}{es gG:List Value}{a b:r.den}(hE:kj P t r K)(hd:d+K=10000)(hg:P.eqGuardType P.depth t=false)(hD:(P.underlying t).any fy=true)
 (hx:ev ρ x= .agg es.toArray)(hy:ev ρ y= .agg gG.toArray)(ha:bF F w r es a)(hb:bF F w r gG b):
 Pure P ρ ⟨dd, .binOp .neq t x y u,ty,pos,aft,none⟩ (.bool (!ki r a b)):=fun w2=>by
 cases hu:P.underlying t with
 |none=>simp[hu]at hD
 |some D=>
  have hA:fy D=true:=by simpa[hu]using hD
  have:=hE d w2 w F es gG a b _ _ ⟨D,hu,by rw[if_pos hA]⟩ ⟨D,hu,by rw[if_pos hA]⟩ ha hb;rw[hd]at this;simp only[execOp,hx,hy,Y6,run_eqGuard_agg _ _ _ _ _ _ _ hg,Zh,run_neq_struct,this];rfl
end
section
variable {P:Program} {n:Nat} {ops:Array Oper} {K:(Nat->Value)->Prop} {rest:List Oper} {ρ:Nat->Value} {w:World} {F:Nat->Prop}
variable {d:Nat} {ty:TypeId} {pos:String} {aft:Array Edge} {x y:Operand} {t e:TypeId} {r:Row}
theorem At.st{w':World}{b off:Nat}{a:r.den}(h:At F w r b off a)(hF:∀b,F b->b<w.heap.size)(hs:St w F w' F):At F w' r b off a:=by
 obtain⟨es,hl,hc,hr⟩:=h;refine⟨es,hl,fun j u hu=>?_,hr.step (hs.step hF)⟩;have:=hc j u hu;have av:b<w.heap.size:=block_lt_of_cell this;exact(World.cell?_of_block (hs.below.block b av)).trans this
end
end Go.Proofs.YtbladfbbhijpmaaGreat
end
section
open _root_.Go.Addr.mk renaming injEq->Z2
open _root_.Array renaming toArray_toList->Zi
open _root_.Go.Instr renaming fill->aaf
open _root_.List renaming append_assoc->Y2,drop_append_of_le_length->Zu,drop_of_length_le->ZC,foldl_cons->ZG,getElem?_append->aai,getElem?_drop->YR,getElem?_take->Y0,length_append->YV,length_cons->YT,length_take->Zw,take_append_drop->ZP
open _root_.Nat renaming add_mul->Zm,le_refl->YD,min_eq_left->ZF,mul_le_mul_right->YX
open _root_.Option.some renaming injEq->YH
open _root_.Go.Value renaming ownBlock->Y9
open _root_.Go.Value.slice renaming injEq->ZV
namespace Go.Proofs.YtbladfbbhijpmaaGreat
open Go Go.RowKit
theorem kj.lift{P:Program}{t:TypeId}{r:Row}{K:Nat}(h:kj P t r K)(m:Nat):kj P t r (K+m):=by
 intro d w2 w F cs mL x y v v' h1 h2 h3 h4;have:=h (d+m) w2 w F cs mL x y v v' h1 h2 h3 h4
 rwa [show d+m+K=d+(K+m)from by omega]at this
section
variable {P:Program} {n:Nat} {ops:Array Oper} {K:(Nat->Value)->World->Prop} {rest:List Oper} {ρ:Nat->Value} {w:World} {F:Nat->Prop} {base:Nat}
variable {d:Nat} {ty:TypeId} {pos:String} {aft:Array Edge} {x y:Operand} {t e:TypeId} {r s:Row}
def bg{α:Type}(l:List α)(i:Int)(y:α):List α:=l.set i.toNat y
theorem fa.put{g o0 m0 IP q:Nat}{v:Value}{l:List r.den}(h:fa base F w e r v l)(hg:v= .slice (some ⟨g,o0,none⟩) m0 IP)(hq:q<l.length)(hF:∀b,F b->b<w.heap.size)(p:Path r s){vs:List Value}{u:s.den}(hv:bF F w s vs u):
 ∃cur,w.heap[g]? =some (.cells cur e (0,0))/\o0+q*r.size+p.off+vs.length<=cur.size/\
  Ext (aS v) w (w.setRow g (cur.toList.take (o0+q*r.size+p.off)++vs++cur.toList.drop (o0+q*r.size+p.off+vs.length)).toArray)/\
  fa base F (w.setRow g (cur.toList.take (o0+q*r.size+p.off)++vs++cur.toList.drop (o0+q*r.size+p.off+vs.length)).toArray) e r v (l.set q (p.set l[q] u)):=by
 obtain⟨xy,xs,⟨xK,hx⟩,h3⟩:=h
 rcases hx with⟨rfl,_⟩|⟨g',o1,cap,cur,rfl,hb,hh,h1,h2,mK,se⟩
 .simp at hg
 .simp only[ZV,YH,Z2,and_true]at hg;obtain⟨⟨rfl,rfl⟩,rfl,rfl⟩:=hg;have hle:=p.le;have hl:=hv.length;have hmul:(q+1)*r.size<=l.length*r.size:=YX _ hq;rw[Zm]at hmul;have vl:l.length*r.size<=cap*r.size:=YX _ h1
  have aY:Ext (aS (.slice (some ⟨g',o1,none⟩) l.length cap)) w (w.setRow g' (cur.toList.take (o1+q*r.size+p.off)++vs++cur.toList.drop (o1+q*r.size+p.off+vs.length)).toArray):=
   ⟨rfl,⟨rfl,YD _⟩,rfl,by simp,fun k _ hk=>setRow_other w g' k _ fun e=>hk (by simp[aS,Y9,e])⟩
  have cI:=Step.ext aY hF xy;refine⟨cur,hh,by omega,aY,xy,xs.take (q*r.size+p.off)++vs++xs.drop (q*r.size+p.off+vs.length),⟨by simp;omega, .inr ⟨g',o1,cap,_,by simp,hb,setRow_heap w g' _ _ e (0,0) hh,by simpa using h1,h2,by simp;omega,?_⟩⟩,?_⟩
  .rw[List.length_set,List.toList_toArray,<-se]
   have e0:(cur.toList.take (o1+q*r.size+p.off)++vs++cur.toList.drop (o1+q*r.size+p.off+vs.length)).drop o1=(cur.toList.drop o1).take (q*r.size+p.off)++vs++(cur.toList.drop o1).drop (q*r.size+p.off+vs.length):=by
    rw[Y2,Zu (by simp;omega),List.drop_take,List.drop_drop,show o1+q*r.size+p.off-o1=q*r.size+p.off by omega,Y2,show o1+q*r.size+p.off+vs.length=o1+(q*r.size+p.off+vs.length) by omega]
   rw[e0]
   have vm:cap*r.size<=(cur.toList.drop o1).length:=by simp;omega
   generalize cur.toList.drop o1=c2 at*
   have e1:(c2.take (l.length*r.size)).take (q*r.size+p.off)=c2.take (q*r.size+p.off):=by rw[List.take_take,ZF (by omega)]
   rw[e1,List.take_append,List.take_of_length_le (by simp;omega),List.drop_take]
   congr 1
   simp
   congr 1
   omega
  .intro i gH
   have hi:i<l.length:=by simpa using gH
   have K0:(i+1)*r.size<=l.length*r.size:=YX _ hi;rw[Zm]at K0
   have A:∀j,j<r.size->((xs.take (q*r.size+p.off)++vs++xs.drop (q*r.size+p.off+vs.length)))[i*r.size+j]? =
    if i*r.size+j<q*r.size+p.off then xs[i*r.size+j]? else if i*r.size+j<q*r.size+p.off+vs.length then vs[i*r.size+j-(q*r.size+p.off)]? else xs[i*r.size+j]? :=by
    intro j hj;rw[Y2,aai];simp only[Zw,xK,ZF (show q*r.size+p.off<=l.length*r.size from by omega)];split
    .rw[Y0,if_pos (by assumption)]
    .rw[aai];split
     .rename_i h1 h2;rw[if_pos (by omega)]
     .rename_i h1 h2;rw[if_neg (by omega),YR]
      congr 1
      omega
   by_cases Oh:i=q
   .subst Oh;rw[List.getElem_set_self];have hp:=(h3 i hi).put p hv
    have:((xs.take (i*r.size+p.off)++vs++xs.drop (i*r.size+p.off+vs.length)).drop (i*r.size)).take r.size=
     ((xs.drop (i*r.size)).take r.size).take p.off++vs++((xs.drop (i*r.size)).take r.size).drop (p.off+s.size):=by
     have K2:((xs.drop (i*r.size)).take r.size).length=r.size:=by rw[Zw,List.length_drop,xK];omega
     have Oi:∀j,j<r.size->((xs.drop (i*r.size)).take r.size)[j]? =xs[i*r.size+j]? :=fun j hj=>by rw[Y0,if_pos hj,YR]
     generalize(xs.drop (i*r.size)).take r.size=Sb at K2 Oi
     apply List.ext_getElem?
     intro j;rw[aai (l₁:=Sb.take p.off++vs),aai (l₁:=Sb.take p.off),YV,Zw,K2,ZF (show p.off<=r.size from by omega),Y0 (l:=List.drop _ _)];by_cases hj:j<r.size
     .rw[if_pos hj,YR,A j hj];by_cases Oj:j<p.off
      .rw[if_pos (by omega),if_pos (by omega),if_pos Oj,Y0,if_pos Oj,Oi j hj]
      .rw[if_neg (by omega)];by_cases NB:j<p.off+vs.length
       .rw[if_pos (by omega),if_pos NB,if_neg Oj]
        congr 1
        omega
       .rw[if_neg (by omega),if_neg NB,YR,<-Oi j hj]
        congr 1
        omega
     .rw[if_neg hj,if_neg (by omega),YR,List.getElem?_eq_none (by omega)]
    rw[this];exact hp.step cI
   .rw[List.getElem_set_ne (fun e=>Oh e.symm)]
    have:((xs.take (q*r.size+p.off)++vs++xs.drop (q*r.size+p.off+vs.length)).drop (i*r.size)).take r.size=(xs.drop (i*r.size)).take r.size:=by
     apply List.ext_getElem?
     intro j;rw[Y0,Y0];by_cases hj:j<r.size
     .rw[if_pos hj,if_pos hj,YR,A j hj,YR]
      rcases Nat.lt_or_gt_of_ne Oh with av|hgt
      .have:(i+1)*r.size<=q*r.size:=YX _ av;rw[Zm]at this;rw[if_pos (by omega)]
      .have:(q+1)*r.size<=i*r.size:=YX _ hgt;rw[Zm]at this;rw[if_neg (by omega),if_neg (by omega)]
     .rw[if_neg hj,if_neg hj]
    rw[this];exact(h3 i hi).step cI
theorem fa.at{g o0 m0 IP q:Nat}{i:Int}{v:Value}{l:List r.den}{a:r.den}(h:fa base F w e r v l)(hg:v= .slice (some ⟨g,o0,none⟩) m0 IP)(hq:i=(q:Nat))(kl:idx l i=some a):At F w r g (o0+q*r.size) a:=by
 obtain⟨b,off,cap,k,hv,hk,av,pV⟩:=h.reads.elem kl
 obtain rfl:k=q:=by omega
 rw[hg]at hv;simp only[ZV,YH,Z2,and_true]at hv;obtain⟨⟨rfl,rfl⟩,_⟩:=hv;exact pV
theorem Dy(cs:List Value):∀(k:Nat)(pre post:List Value),post.length=cs.length->∀(tail:List Value),
 (cs.zipIdx k).foldl (fun(acc:Array Value)(cj:Value×Nat)=>acc.setIfInBounds (pre.length-k+cj.2) cj.1) (pre++post++tail).toArray=(pre++cs++tail).toArray\/pre.length<k:=by
 induction cs with
 |nil=>intro k pre post hp tail;left;simp at hp;simp[hp]
 |cons c q ih=>
  intro k pre post hp tail;by_cases hk:pre.length<k
  .exact .inr hk
  cases post with
  |nil=>simp at hp
  |cons p0 post=>
   simp only[List.zipIdx_cons,ZG]
   rcases ih (k+1) (pre++[c]) post (by simpa using hp) tail with h|h
   .left
    have e1:((pre++p0::post++tail).toArray.setIfInBounds (pre.length-k+k) c)=((pre++[c])++post++tail).toArray:=by
     rw[Nat.sub_add_cancel (by omega)];simp
    rw[e1]
    have e2:(pre++[c]).length-(k+1)=pre.length-k:=by simp
    rw[e2]at h;rw[h];simp
   .simp at h;omega
theorem oh{place:Nat->Option (Nat×Nat)}{i off size:Nat}{v:Value}{vs cells:List Value}{rest:List (Nat×Value)}(hp:place i=some (off,size))(hv:v.cells.toList=vs)(hs:vs.length=size)(hle:off+size<=cells.length):
 aaf place cells.toArray ((i,v)::rest)=aaf place (cells.take off++vs++cells.drop (off+size)).toArray rest:=by
 have TH:v.cells=vs.toArray:=by rw[<-hv,Zi]
 have hf:=Dy vs 0 (cells.take off) ((cells.drop off).take size) (by simp;omega) (cells.drop (off+size))
 have xL:cells.take off++(cells.drop off).take size++cells.drop (off+size)=cells:=by
  rw[Y2,<-List.drop_drop,ZP,ZP]
 have hlen:(cells.take off).length=off:=by simp;omega
 rw[xL,hlen,Nat.sub_zero]at hf
 rcases hf with hf|hf
 case inr=>omega
 rw[aaf];simp only[hp,TH,List.size_toArray];rw[if_neg (by simp;omega)]
 congr 1
 rw[<-Array.foldl_toList,Array.toList_zipIdx];exact hf
inductive qk(F:Nat->Prop)(w:World)(r:Row):List Value->List r.den->Prop where
 |nil:qk F w r [] []
 |cons {v:Value} {vs:List Value} {cs:List Value} {a:r.den} {l:List r.den} (hc:v.cells.toList=cs) (hr:bF F w r cs a) (h:qk F w r vs l):qk F w r (v::vs) (a::l)
theorem qk.length{vs:List Value}{l:List r.den}(h:qk F w r vs l):vs.length=l.length:=by
 induction h with
 |nil=>rfl
 |cons _ _ _ ih=>simp[ih]
theorem qk.fill{vs:List Value}{l:List r.den}(h:qk F w r vs l):∀(k:Nat)(pre post:List Value),pre.length=k*r.size->post.length=vs.length*r.size->
 ∃xs,aaf (fun i=>some (i*r.size,r.size)) (pre++post).toArray ((vs.zipIdx k).map fun p=>(p.2,p.1))=some (pre++xs).toArray/\xs.length=l.length*r.size/\∀i(hi:i<l.length),bF F w r ((xs.drop (i*r.size)).take r.size) l[i]:=by
 induction h with
 |nil=>
  intro k pre post hp hq;have:post=[]:=List.eq_nil_of_length_eq_zero (by simpa using hq);subst this;exact⟨[],by simp[aaf],by simp,fun i hi=>absurd hi (by simp)⟩
 | @cons v vs cs a l hc hr h ih=>
   intro k pre post hp hq;have hl:=hr.length;rw[YT,Zm,Nat.one_mul]at hq;obtain⟨xs,h1,h2,h3⟩:=ih (k+1) (pre++cs) (post.drop r.size) (by rw[YV,hp,hl,Zm,Nat.one_mul]) (by rw[List.length_drop,hq];omega);refine⟨cs++xs,?_,by rw[YV,hl,h2,YT,Zm,Nat.one_mul,Nat.add_comm],fun i hi=>?_⟩
   .simp only[List.zipIdx_cons,List.map_cons];rw[oh (place:=fun i=>some (i*r.size,r.size)) rfl hc hl (by rw[YV,hp,hq];omega)];rw[<-hp,List.take_left',List.drop_append,ZC (by omega),List.nil_append,show pre.length+r.size-pre.length=r.size from by omega]
    .rw[h1];simp[Y2]
    .rfl
   .cases i with
    |zero=>
     simp only[Nat.zero_mul,List.drop_zero,List.getElem_cons_zero];rw[<-hl,List.take_left']
     .exact hr
     .rfl
    |succ i=>
     rw[Zm,Nat.one_mul,Nat.add_comm,<-List.drop_drop,<-hl,List.drop_left',hl]
     .simpa using h3 i (by simpa using hi)
     .rfl
def K3(place:Nat->Option (Nat×Nat))(F:Nat->Prop)(w:World)(r:Row)(parts:List (Nat×Value))(x x':r.den):Prop:=
 ∀es,bF F w r es x->∃gG,aaf place es.toArray parts=some gG.toArray/\bF F w r gG x'
theorem K3.nil{place:Nat->Option (Nat×Nat)}{x:r.den}:K3 place F w r [] x x:=fun es h=>⟨es,by simp[aaf],h⟩
theorem K3.cons{place:Nat->Option (Nat×Nat)}{i off size:Nat}{v:Value}{vs:List Value}{parts:List (Nat×Value)}{x x':r.den}{u:s.den}(p:Path r s)(hp:place i=some (off,size))(ho:p.off=off)(hz:s.size=size)(hv:v.cells.toList=vs)(hr:bF F w s vs u)
 (h:K3 place F w r parts (p.set x u) x'):K3 place F w r ((i,v)::parts) x x':=fun es he=>by
 subst ho;subst hz;have hle:=p.le;have hl:=hr.length;rw[oh hp hv hl (by rw[he.length];omega)];exact h _ (he.put p hr)
end
end Go.Proofs.YtbladfbbhijpmaaGreat
end
section
open _root_.Bool renaming and_eq_true->Zr
open _root_.List renaming getElem?_eq_getElem->YF,getElem?_eq_some_iff->YY,getElem_of_mem->ZO,map_append->ZH,mem_append->YL,range->YI,take_length->YS
open _root_.Nat renaming blt->Zl,le_refl->YD
namespace Go.Proofs.YtbladfbbhijpmaaGreat
open Go Go.RowKit Go.ChangeShapes Go.WideShapes Go.ChangeAt Go.Deep
def WF:(r:Row)->r.den->Prop
 | .int k,n=>k.min<=n/\n<=k.max
 | .bool,_=>True
 | .str,s=>s.size<=maxLen
 | .slice e,l=>l.length<=maxLen/\∀x∈l,WF e x
 | .gW,_=>True
 | .nul _,_=>True
 | .map ..,_=>True
 | .pair a b,x=>WF a x.1/\WF b x.2
def b9:(r:Row)->r.den->Nat
 | .int _,_=>1
 | .bool,_=>1
 | .str,s=>s.size+1
 | .slice e,l=>(l.map (b9 e)).sum+1
 | .gW,_=>1
 | .nul _,_=>1
 | .map ..,_=>1
 | .pair a b,x=>b9 a x.1+b9 b x.2
theorem vn:(r:Row)->(x:r.den)->0<b9 r x
 | .int _,_=>by simp[b9]
 | .bool,_=>by simp[b9]
 | .str,s=>by simp[b9]
 | .slice e,l=>by simp[b9]
 | .gW,_=>by simp[b9]
 | .nul _,_=>by simp[b9]
 | .map ..,_=>by simp[b9]
 | .pair a b,x=>by have:=vn a x.1;simp[b9];omega
theorem kM{H:Type}:(l:List (DataW H))->Rows.uptoBulkAll l=(l.map Rows.uptoBulk).sum
 |[]=>by simp[Rows.uptoBulkAll]
 |a::l=>by simp[Rows.uptoBulkAll,kM l]
def here(w:World)(b:Nat):Prop:=b<w.heap.size
def gI(P:Program)(t:TypeId)(r:Row):Prop:=
 ∀(H:Type)(enc:TypeId×Value->H)(w:World)(spare:Nat->Bool)(held:Bool)(fuel:Nat)(cs:List Value)(x:DataW H×List MemPlace),DataW.trod enc P w 0 spare held fuel t cs=some x->
  ∃y:r.den,bF (here w) w r cs y/\WF r y/\b9 r y<=Rows.uptoBulk x.1
def pY(P:Program)(fs:List Field)(r:Row)(off:Nat):Prop:=
 ∀(H:Type)(enc:TypeId×Value->H)(w:World)(spare:Nat->Bool)(held:Bool)(n:Nat)(cs:List Value)(xs:List (DataW H×List MemPlace)),xs.length=fs.length->
  (∀(i:Nat)(f:Field),fs[i]? =some f->DataW.trod enc P w 0 spare held n f.type ((cs.drop f.offset).take (P.cellsOf f.type))=xs[i]?)->off+r.size<=cs.length->
  ∃y:r.den,bF (here w) w r ((cs.drop off).take r.size) y/\WF r y/\b9 r y<=Rows.uptoBulkAll (xs.map (·.1))
section
variable {P:Program} {t e:TypeId} {r a b:Row} {k:IntKind}
theorem A8(ht:P.underlying t=some (.int k)):gI P t (.int k):=by
 intro H enc w spare held fuel cs x h;obtain⟨n,rfl,rfl,hn⟩:=DataW.trod_int ht h;exact⟨n,rfl,by simpa[Lit.wf,WF]using hn,by simp[b9,Rows.uptoBulk]⟩
theorem A9(ht:P.underlying t=some .string):gI P t .str:=by
 intro H enc w spare held fuel cs x h;obtain⟨s,rfl,rfl,hs⟩:=DataW.trod_string ht h;exact⟨s,rfl,hs,Nat.le_of_eq rfl⟩
theorem k7{α:Type}{p:Nat->α->Prop}:(n:Nat)->(∀i,i<n->∃x,p i x)->∃l:List α,l.length=n/\∀i(h:i<l.length),p i l[i]
 |0,_=>⟨[],rfl,fun i h=>absurd h (by simp)⟩
 |n+1,h=>by
  obtain⟨l,hl,hp⟩:=k7 n fun i hi=>h i (by omega)
  obtain⟨x,hx⟩:=h n (by omega);refine⟨l++[x],by simp[hl],fun i hi=>?_⟩
  rcases Nat.lt_or_ge i l.length with av|hge
  .rw[List.getElem_append_left av];exact hp i av
  .obtain rfl:i=n:=by simp at hi;omega
   rw[List.getElem_append_right hge];simpa[hl]using hx
theorem ja(ht:P.underlying t=some (.slice e))(hs:P.cellsOf e=r.size)(he:gI P e r):gI P t (.slice r):=by
 intro H enc w spare held fuel cs x h
 rcases open_slice ht h with⟨rfl,rfl⟩|⟨ad,len,cap,m,n,D,Pl,rfl,_,hl,hm,Ol,rfl,hi⟩
 .exact⟨[],bF.nil _ _ _,⟨by simp[maxLen],fun x hx=>absurd hx (by simp)⟩,by simp[b9,Rows.uptoBulk]⟩
 .have XO:len<=m:=by rw[Ol];split<;>omega
  have key:∀i,i<len->∃y:r.den,∃mL,(mL.length=r.size/\(∀j,j<r.size->w.cell? ((ad.add (i*r.size)).add j)=mL[j]?))/\bF (here w) w r mL y/\WF r y/\b9 r y<=Rows.uptoBulk (D i):=by
   intro i gH;obtain⟨mL,hc,TJ⟩:=hi i (by omega);rw[hs]at hc;obtain⟨_,rM,vm⟩:=World.cells?_some hc;obtain⟨y,h1,h2,h3⟩:=he H enc w spare held n mL _ TJ;exact⟨y,mL,⟨rM,vm⟩,h1,h2,h3⟩
  obtain⟨l,Kx,hp⟩:=k7 len key;subst Kx;have nz:=r.size_pos;refine⟨l,⟨some ad,cap,rfl,hl,hm,fun i hi=>?_⟩,⟨by omega,fun x hx=>?_⟩,?_⟩
  .obtain⟨mL,⟨rM,vm⟩,hr,_,_⟩:=hp i hi;obtain⟨Sc,⟨si,rI⟩,_⟩:=hp 0 (by omega);have h0:=rI 0 nz;rw[YF (by omega)]at h0;simp only[Nat.zero_mul,Addr.add,if_true]at h0
   have rN:ad.spot=none:=by
    cases rN:ad.spot with
    |none=>rfl
    |some q=>
     unfold World.cell? at h0;split at h0
     .simp[rN]at h0
     .cases h0
   obtain⟨bb,off,sp⟩:=ad;simp only at rN;subst rN;refine⟨bb,off,mL,rfl,block_lt_of_cell h0,rM,fun j u hu=>?_,hr⟩;have hj:j<mL.length:=(YY.1 hu).1;have:=vm j (by omega);rw[bM,bM]at this;rw[this,hu]
  .obtain⟨i,hi,rfl⟩:=ZO hx;obtain⟨_,_,_,h2,_⟩:=hp i hi;exact h2
  .simp only[b9,Rows.uptoBulk,kM]
   have:∀(n:Nat),n<=l.length->((l.take n).map (b9 r)).sum<=(((YI n).map D).map Rows.uptoBulk).sum:=by
    intro n hn
    induction n with
    |zero=>simp
    |succ n ih=>
     have h1:=ih (by omega);obtain⟨_,_,_,_,h3⟩:=hp n (by omega);rw[List.take_succ_eq_append_getElem (by omega),List.range_succ];simp only[ZH,List.sum_append,List.map_cons,List.map_nil,List.sum_cons,List.sum_nil];omega
   have h1:=this l.length (YD _);rw[YS]at h1;omega
theorem jb{f:Field}{off:Nat}(ho:f.offset=off)(hc:P.cellsOf f.type=r.size)(he:gI P f.type r):pY P [f] r off:=by
 intro H enc w spare held n cs xs hl hx _;subst ho
 match xs,hl with
 |[x],_=>
  have h:=hx 0 f rfl;rw[hc]at h;obtain⟨y,h1,h2,h3⟩:=he H enc w spare held n _ x h;exact⟨y,h1,h2,by simpa[Rows.uptoBulkAll]using h3⟩
theorem fC{f:Field}{fs:List Field}{off:Nat}(ho:f.offset=off)(hc:P.cellsOf f.type=a.size)(he:gI P f.type a)(hr:pY P fs b (off+a.size)):pY P (f::fs) (.pair a b) off:=by
 intro H enc w spare held n cs xs hl hx hle;subst ho
 match xs,hl with
 |x::xs,hl=>
  have h:=hx 0 f rfl;rw[hc]at h;obtain⟨y,h1,h2,h3⟩:=he H enc w spare held n _ x h;simp only[Row.size]at hle;obtain⟨z,g1,g2,g3⟩:=hr H enc w spare held n cs xs (by simpa using hl) (fun i f' hf=>by simpa using hx (i+1) f' (by simpa using hf)) (by omega);refine⟨(y,z),⟨_,_,?_,h1,g1⟩,⟨h2,g2⟩,by simp only[b9,List.map_cons,Rows.uptoBulkAll];omega⟩;simp only[Row.size];rw[<-List.drop_drop,List.take_add]
theorem iu{fs:Array Field}(ht:P.underlying t=some (.struct fs))(hc:P.cellsOf t=r.size)(h:pY P fs.toList r 0):gI P t r:=by
 intro H enc w spare held fuel cs x hx;obtain⟨xs,n,_,rfl,hlen,xK,hf⟩:=DataW.trod_struct ht hx;rw[hc]at hlen;obtain⟨y,h1,h2,h3⟩:=h H enc w spare held n cs xs (by simpa using xK) (fun i f hi=>hf i f (by simpa using hi)) (by omega);rw[List.drop_zero,<-hlen,YS]at h1;exact⟨y,h1,h2,by simp only[Rows.uptoBulk];omega⟩
variable {H:Type} {enc:TypeId×Value->H} {w:World} {base:Nat} {spare:Nat->Bool} {held:Bool} {v:Value} {d:DataW H} {ps:List MemPlace}
theorem Gz(ht:P.underlying t=some (.int k))(hv:Value.okWide P w .any base t v)(h:DataW.Trod enc P w 0 spare held t v d ps):∃n:Int,v= .int k n/\WF (.int k) n/\b9 (.int k) n<=Rows.uptoBulk d:=by
 obtain⟨x,rfl,rfl,rfl,wx⟩:=open_int ht hv h;exact⟨x,rfl,by simpa[Lit.wf,WF]using wx,by simp[b9,Rows.uptoBulk]⟩
theorem xM{fs:Array Field}(ht:P.underlying t=some (.struct fs))(ho:gI P t r)(hv:Value.okWide P w .any base t v)(h:DataW.Trod enc P w 0 spare held t v d ps):
 ∃(es:List Value)(x:r.den),v= .agg es.toArray/\bF (here w) w r es x/\WF r x/\b9 r x<=Rows.uptoBulk d:=by
 obtain⟨cs,rfl,_⟩:=okWide_struct ht hv;obtain⟨fuel,hf⟩:=h;obtain⟨x,h1,h2,h3⟩:=ho H enc w spare held fuel _ _ hf;exact⟨cs.toList,x,by simp,by simpa[Value.cells]using h1,h2,h3⟩
theorem mw(hl:laidOutB P=true){W W':World}(hb:Below W.heap.size W W'){sp:Nat->Bool}:(ts:List TypeId)->(vs:List Value)->(ds:List (DataW H))->(ps:List MemPlace)->
 (∀t∈ts,(P.readableRec t&&Zl t P.types.size)=true)->DataW.TrodAll enc P W 0 (fun _=>true) true ts vs ds ps->(∀x∈ps,x.block<W.heap.size)->(∀x∈ps,sp x.block=true)->DataW.TrodAll enc P W' 0 sp true ts vs ds ps
 |[],[],[],_,_,h,_,_=>h
 |t::ts,v::vs,d::ds,ps,hr,h,av,rN=>by
  obtain⟨p,q,h1,h2,rfl⟩:=h;have ht:=hr t (by simp);simp only[Zr,Nat.blt_eq]at ht
  exact⟨p,q,WideElems.Trod_stays hl ht.1 ht.2 h1 (fun x hx=>hb.same (av x (by simp[hx]))) (fun x hx=>rN x (by simp[hx])),
   mw hl hb ts vs ds q (fun t ht=>hr t (by simp[ht])) h2 (fun x hx=>av x (by simp[hx])) (fun x hx=>rN x (by simp[hx])),rfl⟩
theorem rO{f:Func}{s:ChangeSpec}{apart fresh handsOn again:Bool}{W W':World}{args:Array Value}{v:Value}{ds gs:List (DataW H)}{before pa pv:List MemPlace}
 (hW:DataW.Whole enc P f.params.toList s.vars apart W args.toList ds gs before)
 (tQ:∀(b:Nat)(sp:Nat->Bool)(hd:Bool),DataW.TrodAll enc P W' b sp hd f.resultTypes.toList (v.resultList f.resultTypes.size) (s.fn H (ds++gs)).results [])
 (zF:∀sp:Nat->Bool,(∀p∈before,sp p.block=true)->DataW.TrodAll enc P W' 0 sp true f.params.toList args.toList (s.fn H (ds++gs)).args pa)
 (Ia:∀sp:Nat->Bool,(∀p∈before,sp p.block=true)->DataW.TrodVars enc P W' sp s.vars (s.fn H (ds++gs)).vars pv)
 (NG:before=pa++pv)(hb:Below W.heap.size W W')
 (iV:∀(j:Nat)(t:TypeId)(r:Value),f.resultTypes[j]? =some t->(v.resultList f.resultTypes.size)[j]? =some r->Value.okWide P W' .any 0 t r):
 s.post enc P f apart fresh handsOn again W args v W':=by
 have av:∀p∈before,p.block<W.heap.size:=fun p hp=>hW.lt p hp
 have hold:∀p∈before,(fun b=>decide (b<W.heap.size)) p.block=true:=fun p hp=>by simpa using av p hp
 refine⟨ds,gs,before,[],pa,pv,hW,tQ _ _ _,zF _ hold,Ia _ hold,World.keptBut_mono (fun p hp=>⟨hp,?_⟩) (hb.frame (· ∈before)),fun _=>?_⟩
 .rw[NG,YL]at hp;exact Or.inr hp
 .obtain⟨_,_,_,_,_,hz,hn⟩:=hW;refine⟨iV,_,_,([]++pa)++pv,⟨[]++pa,pv,trodAll_append (zF _ (fun _ _=>rfl)) (tQ _ _ _),Ia _ (fun _ _=>rfl),rfl,?_,?_⟩,?_⟩
  .intro b off hp
   have bH:MemPlace.cell b off∈before:=by rw[NG];simpa using hp
   rw[hb.frozen (av _ bH)];exact hz b off bH
  .intro ha;have:=hn ha;rw[NG]at this;simpa using this
  .intro p hp _;rw[NG];simpa using hp
end
end Go.Proofs.YtbladfbbhijpmaaGreat
end
section
open _root_.List.cons renaming injEq->ZM
open _root_.Nat renaming add_mul->Zm
open _root_.Option.some renaming inj->YA
open _root_.Go.Value.slice renaming injEq->ZV
namespace Go.Proofs.YtbladfbbhijpmaaGreat
open Go Go.RowKit
def dT{α:Type}(l:List α)(a b:Int):Option (List α):=if 0<=a/\a<=b/\b<=l.length then some ((l.take b.toNat).drop a.toNat)else none
variable {F:Nat->Prop} {w:World} {r:Row}
theorem bF.cut{A:Option Addr}{cap:Nat}{l:List r.den}{a b:Nat}(h:bF F w (.slice r) [.slice A l.length cap] l)(h1:a<=b)(h2:b<=l.length):
 bF F w (.slice r) [sliced A a b cap r.size] ((l.take b).drop a):=by
 obtain⟨A',Dq,hv,hc,hm,hs⟩:=h;simp only[ZM,ZV,and_true,true_and]at hv;obtain⟨rfl,rfl⟩:=hv
 have hlen:((l.take b).drop a).length=b-a:=by simp;omega
 refine⟨_,cap-a,by rw[hlen];rfl,by omega,by omega,fun i hi=>?_⟩
 have gH:a+i<l.length:=by omega
 obtain⟨g,off,es,rfl,hF,pF,nv,hr⟩:=hs (a+i) gH;refine⟨g,off+a*r.size,es,?_,hF,pF,fun j u hu=>?_,?_⟩
 .rw[if_neg (by omega),Option.map_some,bM]
 .rw[<-nv j u hu]
  congr 2
  rw[Zm];omega
 .have:((l.take b).drop a)[i]=l[a+i]:=by simp
  rw[this];exact hr
section
variable {P:Program} {n:Nat} {ops:Array Oper} {K:(Nat->Value)->World->Prop} {rest:List Oper} {ρ:Nat->Value}
variable {d:Nat} {ty:TypeId} {pos:String} {aft:Array Edge} {x y z:Operand} {t e:TypeId}
theorem GA{t e:TypeId}(ht:P.underlying t=some (.slice e)):P.underlying t=some (.slice (P.elem t)):=by
 simp[Program.elem,ht]
inductive IQ(ρ:Nat->Value):Option Operand->Option Int->Prop
 |none:IQ ρ none none
 |some {x:Operand} {k:IntKind} {i:Int} (h:ev ρ x= .int k i):IQ ρ (some x) (some i)
theorem pZ{ti:TypeInfo}{A:Option Addr}{len cap:Nat}{lo hi:Option Operand}{a b:Option Int}(ht:P.underlying t=some (.slice e))(gH:P.info? e=some ti)(hx:ev ρ x= .slice A len cap)
 (ha:IQ ρ lo a)(hb:IQ ρ hi b)(h0:0<=a.getD 0)(h1:a.getD 0<=b.getD len)(h2:b.getD len<=len)(hc:len<=cap):
 (execOp (ev ρ) ⟨some d, .slice t x lo hi none,ty,pos,aft,none⟩).run P w= .ok (.value (sliced A (a.getD 0).toNat (b.getD len).toNat cap ti.size)) w:=by
 have Ib:=GA ht
 have he:P.elem t=e:=by simp[Program.elem,ht]
 cases ha with
 |none=>
  cases hb with
  |none=>
   have:=run_slice_all (P:=P) (w:=w) t A len cap Ib;simp[execOp,hx,run_sliceAt_slice (P:=P) w t _ _ _ _ Ib,this,he,sizeOf,typeInfo,gH]
  |some hh=>
   rename_i xb kb ib;have:=run_slice_h (P:=P) (w:=w) t A len cap Ib kb ib (by simpa using h1) (by simp at h2;omega);simp[execOp,hx,hh,run_sliceAt_slice (P:=P) w t _ _ _ _ Ib,this,he,sizeOf,typeInfo,gH]
 |some hl=>
  rename_i xa ka ia
  cases hb with
  |none=>
   have:=run_slice_l (P:=P) (w:=w) t A len cap Ib ka ia (by simpa using h0) (by simpa using h1);simp[execOp,hx,hl,run_sliceAt_slice (P:=P) w t _ _ _ _ Ib,this,he,sizeOf,typeInfo,gH]
  |some hh=>
   rename_i xb kb ib;have:=run_slice_lh (P:=P) (w:=w) t A len cap Ib ka kb ia ib (by simpa using h0) (by simpa using h1) (by simp at h2;omega);simp[execOp,hx,hl,hh,run_sliceAt_slice (P:=P) w t _ _ _ _ Ib,this,he,sizeOf,typeInfo,gH]
theorem oi{α:Type}{l m:List α}{a b:Int}(h:dT l a b=some m):∃p q:Nat,a=p/\b=q/\p<=q/\q<=l.length/\m=(l.take q).drop p:=by
 unfold dT at h;split at h
 case isFalse=>cases h
 rename_i hc;exact⟨a.toNat,b.toNat,by omega,by omega,by omega,by omega,(YA h).symm⟩
end
end Go.Proofs.YtbladfbbhijpmaaGreat
end
section
namespace Go.Proofs.YtbladfbbhijpmaaGreat
open Go Go.RowKit
def Dz:List (Nat×((r:Row)×r.den)):=[]
end Go.Proofs.YtbladfbbhijpmaaGreat
end
section
namespace Go.Proofs.YtbladfbbhijpmaaGreat
open Go Go.RowKit
inductive DR where
 |leaf (r:Row)
 |sl (T:TypeId) (d:DR)
 |pair (a b:DR)
@[reducible] def DR.row:DR->Row
  | .leaf r=>r
  | .sl _ d=> .slice d.row
  | .pair a b=> .pair a.row b.row
@[reducible] def DR.low:DR->Row
  | .leaf r=>r
  | .sl _ _=> .gW
  | .pair a b=> .pair a.low b.low
theorem DR.size:(d:DR)->d.low.size=d.row.size
 | .leaf _=>rfl
 | .sl _ _=>rfl
 | .pair a b=>by show a.low.size+b.low.size=a.row.size+b.row.size;rw[a.size,b.size]
inductive dA:DR->DR->Type where
 |here {d:DR}:dA d d
 |fst {a b e:DR} (p:dA a e):dA (.pair a b) e
 |snd {a b e:DR} (p:dA b e):dA (.pair a b) e
def dA.lo:{d e:DR}->dA d e->Path d.low e.low
 |_,_, .here=> .here
 |_,_, .fst p=> .fst p.lo
 |_,_, .snd p=> .snd p.lo
def dA.hi:{d e:DR}->dA d e->Path d.row e.row
 |_,_, .here=> .here
 |_,_, .fst p=> .fst p.hi
 |_,_, .snd p=> .snd p.hi
def DR.path:(d:DR)->List Bool->Option ((e:DR)×dA d e)
 |d,[]=>some ⟨d, .here⟩
 | .pair a b,c::p=>match c with
   |false=>match a.path p with
    |some ⟨e,q⟩=>some ⟨e, .fst q⟩
    |none=>none
   |true=>match b.path p with
    |some ⟨e,q⟩=>some ⟨e, .snd q⟩
    |none=>none
 |_,_::_=>none
def gJ(F:Nat->Prop)(w:World)(T:TypeId)(r:Row)(v:Value)(l:List r.den):Prop:=
 ∃xs,iY w 0 T r.size v l.length xs/\∀i(h:i<l.length),bF F w r ((xs.drop (i*r.size)).take r.size) l[i]
structure jF(Ss:Nat->Nat->Prop)(n:Nat)(m:Nat->Prop)(S:Nat->Prop):Prop where
 all:∀k,S k↔m k\/∃i,i<n/\Ss i k
 two:∀i j k,i<n->j<n->i≠j->Ss i k->¬Ss j k
 out:∀i k,i<n->Ss i k->¬m k
structure DA(A B S:Nat->Prop):Prop where
 all:∀k,S k↔A k\/B k
 off:∀k,A k->¬B k
def Ba{α:Type}(F:Nat->Prop)(w:World)(T:TypeId)(r:Row)(rel:Nat->r.den->α->(Nat->Prop)->Prop)(u:Value)(l:List α)(S:Nat->Prop):Prop:=
 ∃(lh:List r.den)(Ss:Nat->Nat->Prop),gJ F w T r u lh/\lh.length=l.length/\(∀i(h1:i<lh.length)(h2:i<l.length),rel i lh[i] l[i] (Ss i))/\jF Ss l.length (aS u) S
def fO(F:Nat->Prop)(w:World):(d:DR)->d.low.den->d.row.den->(Nat->Prop)->Prop
 | .leaf _,x',x,S=>x'=x/\∀k,¬S k
 | .sl T d,u,l,S=>Ba F w T d.low (fun _=>fO F w d) u l S
 | .pair a b,x',x,S=>∃A B,fO F w a x'.1 x.1 A/\fO F w b x'.2 x.2 B/\DA A B S
def gX(F:Nat->Prop)(w:World):{d e:DR}->dA d e->d.low.den->d.row.den->(Nat->Prop)->Prop
 |_,_, .here,_,_,S=>∀k,¬S k
 |_,_, .fst (b:=b) p,x',x,S=>∃A B,gX F w p x'.1 x.1 A/\fO F w b x'.2 x.2 B/\DA A B S
 |_,_, .snd (a:=a) p,x',x,S=>∃A B,fO F w a x'.1 x.1 A/\gX F w p x'.2 x.2 B/\DA A B S
section
variable {F F':Nat->Prop} {w w':World} {T:TypeId} {S:Nat->Prop}
theorem gJ.to{r:Row}{v:Value}{l:List r.den}(h:gJ F w T r v l)(hn:∀k,aS v k->¬F k):fa 0 F w T r v l:=⟨hn,h⟩
theorem gJ.keep{r:Row}{v:Value}{l:List r.den}(h:gJ F w T r v l)(hs:Step F w F' w')(hb:∀k,aS v k->w'.heap[k]? =w.heap[k]?):gJ F' w' T r v l:=by
 obtain⟨xs,⟨vg,xx⟩,h3⟩:=h;refine⟨xs,⟨vg,?_⟩,fun i hi=>(h3 i hi).step hs⟩
 rcases xx with h2|⟨gg,o0,cap,cur,rfl,pW,hg,rest⟩
 .exact .inl h2
 .exact .inr ⟨gg,o0,cap,cur,rfl,pW,(hb gg rfl).trans hg,rest⟩
theorem gJ.lt{r:Row}{v:Value}{l:List r.den}(h:gJ F w T r v l):∀k,aS v k->k<w.heap.size:=by
 obtain⟨xs,h,_⟩:=h
 exact fun k hk=>(h.lt k hk).2
theorem gJ.one{r:Row}{v:Value}{l:List r.den}(h:gJ F w T r v l):v.oneCell'=true:=by
 obtain⟨xs,⟨_,h⟩,_⟩:=h
 rcases h with⟨rfl,_⟩|⟨gg,o0,cap,cur,rfl,_⟩<;>rfl
theorem gJ.nil(F:Nat->Prop)(w:World)(T:TypeId)(r:Row):gJ F w T r (.slice none 0 0) []:=(fa.nil 0 F w T r).2
theorem DA.left{A B:Nat->Prop}(h:DA A B S):∀k,A k->S k:=fun k hk=>(h.all k).2 (.inl hk)
theorem DA.right{A B:Nat->Prop}(h:DA A B S):∀k,B k->S k:=fun k hk=>(h.all k).2 (.inr hk)
theorem jF.aS{Ss:Nat->Nat->Prop}{n:Nat}{m:Nat->Prop}(h:jF Ss n m S):∀k,m k->S k:=fun k hk=>(h.all k).2 (.inl hk)
theorem jF.part{Ss:Nat->Nat->Prop}{n:Nat}{m:Nat->Prop}(h:jF Ss n m S){i:Nat}(hi:i<n):∀k,Ss i k->S k:=fun k hk=>(h.all k).2 (.inr ⟨i,hi,hk⟩)
theorem Ba.mono{α:Type}{r:Row}{rel K4:Nat->r.den->α->(Nat->Prop)->Prop}{u:Value}{l:List α}(h:Ba F w T r rel u l S)(hs:Step F w F' w')(hb:∀k,S k->w'.heap[k]? =w.heap[k]?)
 (hr:∀i x'(hi:i<l.length)A,(∀k,A k->S k)->rel i x' l[i] A->K4 i x' l[i] A):Ba F' w' T r K4 u l S:=by
 obtain⟨lh,Ss,h1,h2,h3,h4⟩:=h;exact⟨lh,Ss,h1.keep hs fun k hk=>hb k (h4.aS k hk),h2,fun i a b=>hr i _ b _ (h4.part b) (h3 i a b),h4⟩
theorem fO.keep(hs:Step F w F' w'):{d:DR}->{x':d.low.den}->{x:d.row.den}->{S:Nat->Prop}->fO F w d x' x S->(∀k,S k->w'.heap[k]? =w.heap[k]?)->fO F' w' d x' x S
 | .leaf _,_,_,_,h,_=>h
 | .sl T d,u,l,S,h,hb=>Ba.mono (show Ba F w T d.low _ u l S from h) hs hb fun i x' hi A hA hr=>fO.keep hs hr fun k hk=>hb k (hA k hk)
 | .pair a b,_,_,_,h,hb=>by
   obtain⟨A,B,h1,h2,h3⟩:=h;exact⟨A,B,h1.keep hs fun k hk=>hb k (h3.left k hk),h2.keep hs fun k hk=>hb k (h3.right k hk),h3⟩
theorem gX.keep(hs:Step F w F' w'):{d e:DR}->{p:dA d e}->{x':d.low.den}->{x:d.row.den}->{S:Nat->Prop}->gX F w p x' x S->(∀k,S k->w'.heap[k]? =w.heap[k]?)->gX F' w' p x' x S
 |_,_, .here,_,_,_,h,_=>h
 |_,_, .fst p,_,_,_,h,hb=>by
  obtain⟨A,B,h1,h2,h3⟩:=h;exact⟨A,B,gX.keep hs h1 fun k hk=>hb k (h3.left k hk),h2.keep hs fun k hk=>hb k (h3.right k hk),h3⟩
 |_,_, .snd p,_,_,_,h,hb=>by
  obtain⟨A,B,h1,h2,h3⟩:=h;exact⟨A,B,h1.keep hs fun k hk=>hb k (h3.left k hk),gX.keep hs h2 fun k hk=>hb k (h3.right k hk),h3⟩
theorem fO.lt:{d:DR}->{x':d.low.den}->{x:d.row.den}->{S:Nat->Prop}->fO F w d x' x S->∀k,S k->k<w.heap.size
 | .leaf _,_,_,_,h,k,hk=>absurd hk (h.2 k)
 | .sl T d,u,l,S,h,k,hk=>by
   obtain⟨lh,Ss,h1,h2,h3,h4⟩:=h
   rcases(h4.all k).1 hk with hm|⟨i,hi,hm⟩
   .exact h1.lt k hm
   .exact fO.lt (h3 i (by omega) hi) k hm
 | .pair a b,_,_,_,h,k,hk=>by
   obtain⟨A,B,h1,h2,h3⟩:=h
   rcases(h3.all k).1 hk with hm|hm
   .exact fO.lt h1 k hm
   .exact fO.lt h2 k hm
theorem fO.freeze:{d:DR}->{cs:List Value}->{x':d.low.den}->{x:d.row.den}->{S:Nat->Prop}->fO F w d x' x S->(∀k,S k->¬F k)->bF F w d.low cs x'->bF (fun b=>F b\/S b) w d.row cs x
 | .leaf _,_,_,_,S,h,_,hr=>by
   obtain⟨rfl,_⟩:=h;exact hr.step (Step.freeze F w S)
 | .sl T d,cs,u,l,S,h,hn,hr=>by
   obtain⟨lh,Ss,⟨xs,hx,K5⟩,h2,h3,h4⟩:=h;obtain⟨rfl,_⟩:=hr
   have xN:fa 0 (fun b=>F b\/∃i,i<l.length/\Ss i b) w T d.row u l:=by
    refine⟨fun k hk hF=>?_,xs,?_,fun i hi=>?_⟩
    .rcases hF with hF|⟨i,hi,hm⟩
     .exact hn k (h4.aS k hk) hF
     .exact h4.out i k hi hm hk
    .rw[<-d.size,<-h2];exact hx
    .have gH:i<lh.length:=by omega
     have:=fO.freeze (h3 i gH hi) (fun k hk=>hn k (h4.part hi k hk)) (K5 i gH);rw[<-d.size]
     exact this.step fun b hb=>⟨hb.imp id fun hb=>⟨i,hi,hb⟩,rfl⟩
   exact xN.freeze.step (r:= .slice d.row) fun b hb=>⟨by
    rcases hb with(hb|⟨i,hi,hb⟩)|hb
    .exact .inl hb
    .exact .inr (h4.part hi b hb)
    .exact .inr (h4.aS b hb),rfl⟩
 | .pair a b,_,_,_,S,h,hn,hr=>by
   obtain⟨A,B,h1,h2,h3⟩:=h;obtain⟨c1,c2,rfl,r1,r2⟩:=hr;exact⟨c1,c2,rfl,(fO.freeze h1 (fun k hk=>hn k (h3.left k hk)) r1).step fun b hb=>⟨hb.imp id (h3.left b),rfl⟩,(fO.freeze h2 (fun k hk=>hn k (h3.right k hk)) r2).step fun b hb=>⟨hb.imp id (h3.right b),rfl⟩⟩
theorem fO.out:{d e:DR}->(p:dA d e)->{x':d.low.den}->{x:d.row.den}->{S:Nat->Prop}->fO F w d x' x S->∃A B,fO F w e (p.lo.get x') (p.hi.get x) A/\gX F w p x' x B/\DA A B S
 |_,_, .here,_,_,S,h=>⟨S,fun _=>False,h,fun _ h=>h,⟨fun k=>by simp,fun _ _ h=>h⟩⟩
 |_,_, .fst p,_,_,S,h=>by
  obtain⟨A,B,h1,h2,h3⟩:=h;obtain⟨A1,A2,g1,g2,g3⟩:=fO.out p h1;refine⟨A1,fun k=>A2 k\/B k,g1,⟨A2,B,g2,h2,fun k=>Iff.rfl,fun k hk=>h3.off k (g3.right k hk)⟩,fun k=>?_,fun k hk hh=>?_⟩
  .rw[h3.all,g3.all,or_assoc]
  .exact hh.elim (g3.off k hk) (h3.off k (g3.left k hk))
 |_,_, .snd p,_,_,S,h=>by
  obtain⟨A,B,h1,h2,h3⟩:=h;obtain⟨B1,B2,g1,g2,g3⟩:=fO.out p h2;refine⟨B1,fun k=>A k\/B2 k,g1,⟨A,B2,h1,g2,fun k=>Iff.rfl,fun k hk hh=>h3.off k hk (g3.right k hh)⟩,fun k=>?_,fun k hk hh=>?_⟩
  .rw[h3.all,g3.all];constructor<;>(intro h;rcases h with h|h|h<;>simp[h])
  .exact hh.elim (fun hh=>h3.off k hh (g3.left k hk)) (g3.off k hk)
theorem gX.put:{d e:DR}->(p:dA d e)->{x':d.low.den}->{x:d.row.den}->{y':e.low.den}->{y:e.row.den}->{A B S:Nat->Prop}->gX F w p x' x B->fO F w e y' y A->DA A B S->fO F w d (p.lo.set x' y') (p.hi.set x y) S
 |_,_, .here,_,_,y',y,A,B,S,h,hy,h3=>by
  have:A=S:=by
   funext k;exact propext ⟨fun hk=>h3.left k hk,fun hk=>((h3.all k).1 hk).elim id fun hb=>absurd hb (h k)⟩
  subst this;exact hy
 |_,_, .fst p,x',x,y',y,A,B,S,h,hy,h3=>by
  obtain⟨A2,B2,g1,g2,g3⟩:=h
  have t1:DA A A2 (fun k=>A k\/A2 k):=⟨fun _=>Iff.rfl,fun k hk h2=>h3.off k hk (g3.left k h2)⟩
  refine⟨fun k=>A k\/A2 k,B2,gX.put p g1 hy t1,g2,fun k=>?_,fun k hk h2=>?_⟩
  .rw[h3.all,g3.all,or_assoc]
  .exact hk.elim (fun hk=>h3.off k hk (g3.right k h2)) fun hk=>g3.off k hk h2
 |_,_, .snd p,x',x,y',y,A,B,S,h,hy,h3=>by
  obtain⟨A2,B2,g1,g2,g3⟩:=h
  have t1:DA A B2 (fun k=>A k\/B2 k):=⟨fun _=>Iff.rfl,fun k hk h2=>h3.off k hk (g3.right k h2)⟩
  refine⟨A2,fun k=>A k\/B2 k,g1,gX.put p g2 hy t1,fun k=>?_,fun k hk h2=>?_⟩
  .rw[h3.all,g3.all];constructor<;>(intro h;rcases h with h|h|h<;>simp[h])
  .exact h2.elim (fun h2=>h3.off k h2 (g3.left k hk)) fun h2=>g3.off k hk h2
theorem gX.set:{d e:DR}->(p:dA d e)->{x':d.low.den}->{x:d.row.den}->{S:Nat->Prop}->(y':e.low.den)->(y:e.row.den)->gX F w p x' x S->gX F w p (p.lo.set x' y') (p.hi.set x y) S
 |_,_, .here,_,_,_,_,_,h=>h
 |_,_, .fst p,_,_,_,y',y,h=>by
  obtain⟨A,B,h1,h2,h3⟩:=h;exact⟨A,B,h1.set p y' y,h2,h3⟩
 |_,_, .snd p,_,_,_,y',y,h=>by
  obtain⟨A,B,h1,h2,h3⟩:=h;exact⟨A,B,h1,h2.set p y' y,h3⟩
end
end Go.Proofs.YtbladfbbhijpmaaGreat
end
