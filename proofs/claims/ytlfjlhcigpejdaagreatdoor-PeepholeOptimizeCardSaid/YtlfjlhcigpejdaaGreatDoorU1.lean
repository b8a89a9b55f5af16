/- Joined texts: Base Mem Own More Lit Open Cut Glob Deep Sym. -/
import Derived.WalkKit
import Derived.WalkSpells
import Derived.WalkLawsBesides
import Derived.LoopN
import Derived.Deep.Draws
import Derived.Deep.Quiet
import Derived.Maps.AppendAt
import Derived.OwnWalk
import Derived.KernelRfl
import Derived.MapKept
import Derived.Laws.StructEq
import Derived.Test.YtlfjlhcigpejdaaGreatDoorRows
import Derived.ProofKit
import Derived.OpenShut
import Derived.JoinedCond
import Derived.Deep.Slices
import Derived.Laws.Slices
section
open _root_.Array renaming getD_eq_getD_getElem?->YF,getElem?_eq_getElem->Yu
open _root_.List renaming getElem?_append_left->YI,getElem?_append_right->YP,getElem?_eq_getElem->X9,getElem?_eq_some_iff->Yc
open _root_.Nat renaming beq->Yb,blt->YM,eq_of_beq_eq_true->YR,le_refl->Yd,lt_of_lt_of_le->YK
open _root_.Option.some renaming inj->X7
open _root_.Go.Region renaming wanted->Zq
open _root_.Go.Value renaming oneCell'->Zg
namespace Go.Proofs.YtlfjlhcigpejdaaGreatDoor
open Go Go.RowKit
inductive CI where
 |map
 |ptr
 |func
def CI.val:CI->Value
 | .map=> .map none
 | .ptr=> .pointer none
 | .func=> .nilFunc
theorem CI.one(k:CI):k.val.oneCell'=true:=by cases k<;>simp[CI.val,Zg]
inductive Row where
 |int (k:IntKind)
 |bool
 |str
 |slice (e:Row)
 |gU
 |nul (k:CI)
 |map (K:Row) (agg:Bool) (V:Row)
 |pair (a b:Row)
@[reducible] def Row.den:Row->Type
  | .int _=>Int
  | .bool=>Bool
  | .str=>ByteArray
  | .slice e=>List e.den
  | .gU=>Value
  | .nul _=>Unit
  | .map K _ V=>List (K.den×V.den)
  | .pair a b=>a.den×b.den
noncomputable instance Row.decEq:(r:Row)->DecidableEq r.den
 | .int _=>inferInstanceAs (DecidableEq Int)
 | .bool=>inferInstanceAs (DecidableEq Bool)
 | .str=>inferInstanceAs (DecidableEq ByteArray)
 | .slice e=>have:=Row.decEq e;inferInstanceAs (DecidableEq (List e.den))
 | .gU=>fun a b=>Classical.propDecidable (a=b)
 | .nul _=>inferInstanceAs (DecidableEq Unit)
 | .map K _ V=>have:=Row.decEq K;have:=Row.decEq V;inferInstanceAs (DecidableEq (List (K.den×V.den)))
 | .pair a b=>have:=Row.decEq a;have:=Row.decEq b;inferInstanceAs (DecidableEq (a.den×b.den))
@[simp] def Row.size:Row->Nat
  | .pair a b=>a.size+b.size
  |_=>1
theorem Row.size_pos:(r:Row)->0<r.size
 | .pair a b=>by have:=Row.size_pos a;simp;omega
 | .int _| .bool| .str| .slice _| .gU| .nul _| .map .. =>by simp
def ko:(K:Row)->K.den->Option Value
 | .int k,n=>some (.int k n)
 | .bool,b=>some (.bool b)
 | .str,s=>some (.string s)
 |_,_=>none
def bH(F:Nat->Prop)(w:World):(r:Row)->List Value->r.den->Prop
 | .int k,cs,n=>cs=[.int k n]
 | .bool,cs,b=>cs=[.bool b]
 | .str,cs,s=>cs=[.string s]
 | .slice e,cs,l=>∃A cap,cs=[.slice A l.length cap]/\l.length<=cap/\cap<=maxLen/\
     ∀i(h:i<l.length),∃b off es,A=some ⟨b,off,none⟩/\F b/\es.length=e.size/\
      (∀j u,es[j]? =some u->w.cell? ⟨b,off+i*e.size+j,none⟩=some u)/\bH F w e es l[i]
 | .gU,cs,v=>cs=[v]/\∃A m c,v= .slice A m c
 | .nul k,cs,_=>cs=[k.val]
 | .map K agg V,cs,l=>∃v,cs=[v]/\((v= .map none/\l=[])\/∃b es clock,v= .map (some b)/\F b/\w.heap[b]? =some (.map es clock)/\MapKept.Stamped es clock/\es.size=l.length/\
     ∀i(h:i<l.length),∃(e:MapEntry)(cs:List Value),es[i]? =some e/\ko K l[i].1=some e.key/\bH F w V cs l[i].2/\e.val=(bif agg then .agg cs.toArray else cs.headD undef)/\(agg=false->cs=[e.val]))
 | .pair a b,cs,d=>∃c1 c2,cs=c1++c2/\bH F w a c1 d.1/\bH F w b c2 d.2
theorem bH.length{F:Nat->Prop}{w:World}:{r:Row}->{cs:List Value}->{d:r.den}->bH F w r cs d->cs.length=r.size
 | .int _,_,_,h=>by rw[show _=_ from h];rfl
 | .bool,_,_,h=>by rw[show _=_ from h];rfl
 | .str,_,_,h=>by rw[show _=_ from h];rfl
 | .slice _,_,_,h=>by obtain⟨A,cap,h,_⟩:=h;rw[h];rfl
 | .gU,_,_,h=>by rw[h.1];rfl
 | .nul _,_,_,h=>by rw[show _=_ from h];rfl
 | .map ..,_,_,h=>by obtain⟨v,rfl,_⟩:=h;rfl
 | .pair a b,_,_,h=>by
   obtain⟨c1,c2,rfl,h1,h2⟩:=h;simp[h1.length,h2.length]
theorem bH.fT{F:Nat->Prop}{w:World}:{r:Row}->{cs:List Value}->{d:r.den}->bH F w r cs d->∀u∈cs,u.oneCell'=true
 | .int _,_,_,h=>by rw[show _=_ from h];simp[Zg]
 | .bool,_,_,h=>by rw[show _=_ from h];simp[Zg]
 | .str,_,_,h=>by rw[show _=_ from h];simp[Zg]
 | .slice _,_,_,h=>by obtain⟨A,cap,rfl,_⟩:=h;simp[Zg]
 | .gU,_,_,h=>by obtain⟨rfl,A,m,c,rfl⟩:=h;simp[Zg]
 | .nul k,_,_,h=>by rw[show _=_ from h];simp[k.one]
 | .map ..,_,_,h=>by
   obtain⟨v,rfl,h⟩:=h
   rcases h with⟨rfl,_⟩|⟨b,es,clock,rfl,_⟩<;>simp[Zg]
 | .pair a b,_,_,h=>by
   obtain⟨c1,c2,rfl,h1,h2⟩:=h;intro u hu
   rcases List.mem_append.1 hu with h'|h'
   .exact h1.fT u h'
   .exact h2.fT u h'
def Step(F:Nat->Prop)(w:World)(F':Nat->Prop)(w':World):Prop:=∀b,F b->F' b/\w'.heap[b]? =w.heap[b]?
theorem bH.step{F F':Nat->Prop}{w w':World}(ho:Step F w F' w'):{r:Row}->{cs:List Value}->{d:r.den}->bH F w r cs d->bH F' w' r cs d
 | .int _,_,_,h=>h
 | .bool,_,_,h=>h
 | .str,_,_,h=>h
 | .slice e,_,l,h=>by
   obtain⟨A,cap,hc,h1,h2,h3⟩:=h;refine⟨A,cap,hc,h1,h2,fun i hi=>?_⟩;obtain⟨b,off,es,hA,hb,n8,p5,hr⟩:=h3 i hi;exact⟨b,off,es,hA,(ho b hb).1,n8,fun j u hu=>(World.cell?_of_block (ho b hb).2).trans (p5 j u hu),hr.step ho⟩
 | .gU,_,_,h=>h
 | .nul _,_,_,h=>h
 | .map K agg V,_,l,h=>by
   obtain⟨v,hv,h⟩:=h;refine⟨v,hv,h.imp id fun⟨b,es,clock,h1,h2,h3,h4,h5,h6⟩=>⟨b,es,clock,h1,(ho b h2).1,(ho b h2).2.trans h3,h4,h5,fun i hi=>?_⟩⟩;obtain⟨e,cs,g1,g2,g3,g4⟩:=h6 i hi;exact⟨e,cs,g1,g2,g3.step ho,g4⟩
 | .pair a b,_,_,h=>by
   obtain⟨c1,c2,hc,h1,h2⟩:=h;exact⟨c1,c2,hc,h1.step ho,h2.step ho⟩
def At(F:Nat->Prop)(w:World)(r:Row)(b off:Nat)(x:r.den):Prop:=
 ∃es,es.length=r.size/\(∀j u,es[j]? =some u->w.cell? ⟨b,off+j,none⟩=some u)/\bH F w r es x
theorem At.fst{F:Nat->Prop}{w:World}{r s:Row}{b off:Nat}{x:(Row.pair r s).den}(h:At F w (.pair r s) b off x):At F w r b off x.1:=by
 obtain⟨es,hl,hc,c1,c2,rfl,h1,h2⟩:=h
 exact⟨c1,h1.length,fun j u hu=>hc j u (by
  rw[YI]
  .exact hu
  .exact(Yc.1 hu).1),h1⟩
theorem At.snd{F:Nat->Prop}{w:World}{r s:Row}{b off:Nat}{x:(Row.pair r s).den}(h:At F w (.pair r s) b off x)(k:Nat)(hk:k=r.size):At F w s b (off+k) x.2:=by
 obtain⟨es,hl,hc,c1,c2,rfl,h1,h2⟩:=h;subst hk
 exact⟨c2,h2.length,fun j u hu=>by
  have:=hc (r.size+j) u (by
   rw[YP (by rw[h1.length];omega),h1.length];rw[show r.size+j-r.size=j from by omega]
   exact hu)
  rw[Nat.add_assoc]
  exact this,h2⟩
theorem bH.nil(F:Nat->Prop)(w:World)(e:Row):bH F w (.slice e) [.slice none 0 0] []:=⟨none,0,rfl,Yd _,by simp[maxLen],fun i hi=>absurd hi (by simp)⟩
theorem bH.xC{F:Nat->Prop}{w:World}{e:Row}{v:Value}{l:List e.den}(h:bH F w (.slice e) [v] l):
 ∃A cap,v= .slice A l.length cap/\l.length<=cap/\cap<=9223372036854775807:=by
 obtain⟨A,cap,h1,h2,h3,_⟩:=h;exact⟨A,cap,by simpa using h1,h2,h3⟩
structure St(w0:World)(F0:Nat->Prop)(w:World)(F:Nat->Prop):Prop where
 below:Below w0.heap.size w0 w
 le:∀b,F0 b->F b
 new:∀b,F b->F0 b\/w0.heap.size<=b
 lt:∀b,F b->b<w.heap.size
theorem St.refl{w:World}{F:Nat->Prop}(h:∀b,F b->b<w.heap.size):St w F w F:=⟨Below.refl _ _,fun _ h=>h,fun _ h=> .inl h,h⟩
theorem St.trans{w0 w1 w2:World}{F0 F1 F2:Nat->Prop}(h:St w0 F0 w1 F1)(k:St w1 F1 w2 F2):St w0 F0 w2 F2:=
 ⟨h.below.trans (k.below.mono h.below.size),fun b hb=>k.le b (h.le b hb),fun b hb=>by
   rcases k.new b hb with h1|h1
   .exact h.new b h1
   .exact .inr (Nat.le_trans h.below.size h1),k.lt⟩
theorem St.step{w0 w:World}{F0 F:Nat->Prop}(h:St w0 F0 w F)(h0:∀b,F0 b->b<w0.heap.size):Step F0 w0 F w:=fun b hb=>⟨h.le b hb,h.below.block b (h0 b hb)⟩
theorem St.drew{w0 w:World}{F0 F:Nat->Prop}(h:St w0 F0 w F):St w0 F0 w.drew F:=⟨h.below.drew,h.le,h.new,h.lt⟩
theorem St.alloc{w0 w:World}{F0 F:Nat->Prop}(h:St w0 F0 w F)(o:Obj):St w0 F0 (w.alloc o) F:=
 ⟨h.below.alloc h.below.size o,h.le,h.new,fun b hb=>by have:=h.lt b hb;simp;omega⟩
theorem St.freeze{w0 w:World}{F0 F:Nat->Prop}(h:St w0 F0 w F)(G:Nat->Prop)(h1:∀b,G b->w0.heap.size<=b/\b<w.heap.size):St w0 F0 w (fun b=>F b\/G b):=
 ⟨h.below,fun b hb=> .inl (h.le b hb),fun b hb=>by
   rcases hb with hb|hb
   .exact h.new b hb
   .exact .inr (h1 b hb).1,fun b hb=>by
   rcases hb with hb|hb
   .exact h.lt b hb
   .exact(h1 b hb).2⟩
theorem St.back{w0 w1 w2:World}{F0 F1 F2 F3:Nat->Prop}(h:St w0 F0 w1 F1)(k:St w1 F2 w2 F3):St w0 F0 w2 F1:=
 ⟨h.below.trans (k.below.mono h.below.size),h.le,h.new,fun b hb=>YK (h.lt b hb) k.below.size⟩
theorem Step.refl(F:Nat->Prop)(w:World):Step F w F w:=fun _ h=>⟨h,rfl⟩
theorem Step.trans{F F1 F2:Nat->Prop}{w w1 w2:World}(h:Step F w F1 w1)(k:Step F1 w1 F2 w2):Step F w F2 w2:=fun b hb=>⟨(k b (h b hb).1).1,(k b (h b hb).1).2.trans (h b hb).2⟩
theorem Step.drew(F:Nat->Prop)(w:World):Step F w F w.drew:=fun _ h=>⟨h,rfl⟩
theorem Step.alloc{F:Nat->Prop}{w:World}(h:∀b,F b->b<w.heap.size)(o:Obj):Step F w F (w.alloc o):=fun b hb=>⟨hb,Below.heap_alloc w o b (h b hb)⟩
theorem Step.freeze(F:Nat->Prop)(w:World)(G:Nat->Prop):Step F w (fun b=>F b\/G b) w:=fun _ h=>⟨.inl h,rfl⟩
structure Fr(n:Nat)(a:Act)(ρ:Nat->Value):Prop where
 size:a.tmps.size=n
 defers:a.defers=[]
 get:∀t,a.tmps.getD t undef=ρ t
def xD(ρ:Nat->Value)(d:Nat)(v:Value):Nat->Value:=fun t=>bif Yb t d then v else ρ t
def ev(ρ:Nat->Value):Operand->Value
 | .tmp t=>ρ t
 | .const v=>v
 | .global g=> .pointer (some ⟨g,0,none⟩)
 | .func f=> .func (.func f) #[] #[]
theorem Fr.eval{n:Nat}{a:Act}{ρ:Nat->Value}(h:Fr n a ρ):a.eval=ev ρ:=by
 funext x
 cases x with
 |tmp t=>exact h.get t
 |const v=>rfl
 |global g=>rfl
 |func f=>rfl
theorem Fr.put{n:Nat}{a:Act}{ρ:Nat->Value}(h:Fr n a ρ){d:Nat}(hd:YM d n=true)(v:Value):Fr n (a.put (some d) v) (xD ρ d v):=by
 have aW:d<n:=by simpa[Nat.blt_eq]using hd
 refine⟨by simpa[Act.put]using h.size,by simpa[Act.put]using h.defers,fun t=>?_⟩;have hs:=h.size;have hg:=h.get t;simp only[Act.put,YF,Array.getElem?_setIfInBounds]at hg⊢;unfold xD;by_cases ht:t=d
 .subst ht;simp[hs,aW]
 .have bu:¬d=t:=fun e=>ht e.symm
  have hb:Yb t d=false:=by
   cases sj:Yb t d with
   |false=>rfl
   |true=>exact absurd (YR sj) ht
  simp[bu,hb,hg]
def wpS(P:Program)(n:Nat)(ops:Array Oper)(K:(Nat->Value)->World->Prop)(l:List Oper)(ρ:Nat->Value)(w:World):Prop:=
 ∀(Q:Exit->Act->World->Prop)(a:Act),Fr n a ρ->(∀a' bk w',Fr n a' bk->K bk w'->Q .normal a' w')->wpList P ops Q l a w
section
variable {P:Program} {n:Nat} {ops:Array Oper} {K:(Nat->Value)->World->Prop} {rest:List Oper} {ρ:Nat->Value} {w:World}
theorem FT(h:K ρ w):wpS P n ops K [] ρ w:=fun _ _ hf hk=>hk _ _ _ hf h
def Pure(P:Program)(ρ:Nat->Value)(o:Oper)(v:Value):Prop:=∀w,(execOp (ev ρ) o).run P w= .ok (.value v) w
theorem kq{a:Act}(hf:Fr n a ρ){j d:Nat}{b:Bool}(hj:(ops[j]?).bind (·.dst)=some d)(hd:YM d n=true)(hb:ρ d= .bool b):yielded ops a.tmps j=some b:=by
 have aW:d<n:=by simpa[Nat.blt_eq]using hd
 have hg:=hf.get d;have hs:=hf.size;rw[hb]at hg
 have:a.tmps[d]? =some (.bool b):=by
  rw[YF]at hg;rw[Yu (by omega)]at hg⊢;simpa using hg
 unfold yielded;rw[hj];simp[this]
theorem Iu{dst:Option Nat}{op:Op}{ty:TypeId}{pos:String}{aft:Array Edge}{j:Nat}{b:Bool}(d:Nat)(hj:(ops[j]?).bind (·.dst)=some d)(hd:YM d n=true)(hb:ρ d= .bool b)
 (h:wpS P n ops K (⟨dst,op,ty,pos,aft,none⟩::rest) ρ w):wpS P n ops K (⟨dst,op,ty,pos,aft,some (j,b)⟩::rest) ρ w:=
 fun Q a hf hk=>by
  have:=h Q a hf hk;unfold wpList at this⊢;rw[if_pos (by simp[Zq])]at this;rw[if_pos (by simp[Zq,kq hf hj hd hb])];exact this
theorem FU{d':Nat}{op:Op}{ty:TypeId}{pos:String}{aft:Array Edge}{j:Nat}{b b':Bool}(d:Nat)(hj:(ops[j]?).bind (·.dst)=some d)(hd:YM d n=true)(hb:ρ d= .bool b')(bu:b'≠b)(sk:YM d' n=true)
 (h:wpS P n ops K rest (xD ρ d' undef) w):wpS P n ops K (⟨some d',op,ty,pos,aft,some (j,b)⟩::rest) ρ w:=
 fun Q a hf hk=>by
  have:=h Q _ (hf.put sk undef) hk;unfold wpList;rw[if_neg (by simp[Zq,kq hf hj hd hb,bu])];exact this
theorem tA{op:Op}{ty:TypeId}{pos:String}{aft:Array Edge}{j:Nat}{b b':Bool}(d:Nat)(hj:(ops[j]?).bind (·.dst)=some d)(hd:YM d n=true)(hb:ρ d= .bool b')(bu:b'≠b)
 (h:wpS P n ops K rest ρ w):wpS P n ops K (⟨none,op,ty,pos,aft,some (j,b)⟩::rest) ρ w:=
 fun Q a hf hk=>by
  have:=h Q _ hf hk;unfold wpList;rw[if_neg (by simp[Zq,kq hf hj hd hb,bu])];exact this
theorem jF{a:Act}(hf:Fr n a ρ){j d:Nat}(hj:(ops[j]?).bind (·.dst)=some d)(hd:YM d n=true)(hb:ρ d=undef):yielded ops a.tmps j=none:=by
 have aW:d<n:=by simpa[Nat.blt_eq]using hd
 have hg:=hf.get d;have hs:=hf.size;rw[hb]at hg
 have:a.tmps[d]? =some undef:=by
  rw[YF]at hg;rw[Yu (by omega)]at hg⊢;simpa using hg
 unfold yielded;rw[hj];simp[this,undef]
theorem C2{d':Nat}{op:Op}{ty:TypeId}{pos:String}{aft:Array Edge}{j:Nat}{b:Bool}(d:Nat)(hj:(ops[j]?).bind (·.dst)=some d)(hd:YM d n=true)(hb:ρ d=undef)(sk:YM d' n=true)
 (h:wpS P n ops K rest (xD ρ d' undef) w):wpS P n ops K (⟨some d',op,ty,pos,aft,some (j,b)⟩::rest) ρ w:=
 fun Q a hf hk=>by
  have:=h Q _ (hf.put sk undef) hk;unfold wpList;rw[if_neg (by simp[Zq,jF hf hj hd hb])];exact this
theorem rJ{op:Op}{ty:TypeId}{pos:String}{aft:Array Edge}{j:Nat}{b:Bool}(d:Nat)(hj:(ops[j]?).bind (·.dst)=some d)(hd:YM d n=true)(hb:ρ d=undef)
 (h:wpS P n ops K rest ρ w):wpS P n ops K (⟨none,op,ty,pos,aft,some (j,b)⟩::rest) ρ w:=
 fun Q a hf hk=>by
  have:=h Q _ hf hk;unfold wpList;rw[if_neg (by simp[Zq,jF hf hj hd hb])];exact this
end
def mO(P:Program)(n:Nat)(c:Code)(Q:Exit->(Nat->Value)->World->Prop)(ρ:Nat->Value)(w:World):Prop:=
 ∀a,Fr n a ρ->c.wp P (fun e a' w'=>∃bk,Fr n a' bk/\Q e bk w') a w
def R1(K:(Nat->Value)->World->Prop)(Q:Exit->(Nat->Value)->World->Prop):Exit->(Nat->Value)->World->Prop
 | .normal,ρ,w=>K ρ w
 |e,ρ,w=>Q e ρ w
def JQ(id:Nat)(Q:Exit->(Nat->Value)->World->Prop):Exit->(Nat->Value)->World->Prop
 | .exit AB,ρ,w=>bif Yb AB id then Q .normal ρ w else Q (.exit AB) ρ w
 |e,ρ,w=>Q e ρ w
section
variable {P:Program} {n:Nat} {Q:Exit->(Nat->Value)->World->Prop} {ρ:Nat->Value} {w:World}
theorem C3{c:Code}{Q':Exit->(Nat->Value)->World->Prop}(h:mO P n c Q ρ w)(hq:∀e ρ w,Q e ρ w->Q' e ρ w):mO P n c Q' ρ w:=
 fun a hf=>wp_mono (h a hf) fun _ _ _ ⟨bk,nf,hh⟩=>⟨bk,nf,hq _ _ _ hh⟩
theorem xE{id:Nat}{l:List Oper}(h:wpS P n l.toArray (fun ρ w=>Q .normal ρ w) l ρ w):mO P n (.region id l.toArray false) Q ρ w:=
 fun a hf=>wp_region_lit (h _ a hf fun _ _ _ nf hk=>⟨_,nf,hk⟩)
theorem lO{a b:Code}(h:mO P n a (R1 (fun ρ w=>mO P n b Q ρ w) Q) ρ w):mO P n (.seq a b) Q ρ w:=
 fun act hf=>wp_seq (wp_mono (h act hf) fun e a' w' ⟨bk,nf,hh⟩=>by
  cases e with
  |normal=>exact hh a' nf
  |_=>exact⟨bk,nf,hh⟩)
theorem C4(h:Q .normal ρ w):mO P n .skip Q ρ w:=fun _ hf=>wp_skip ⟨_,hf,h⟩
theorem C5{id:Nat}(h:Q (.exit id) ρ w):mO P n (.exit id) Q ρ w:=fun _ hf=>wp_exit ⟨_,hf,h⟩
theorem FV(h:Q .ret ρ w):mO P n .ret Q ρ w:=fun _ hf=>wp_ret ⟨_,hf,h⟩
theorem n9{id:Nat}{c:Code}(h:mO P n c (JQ id Q) ρ w):mO P n (.block id c) Q ρ w:=
 fun a hf=>wp_block (wp_mono (h a hf) fun e a' w' ⟨bk,nf,hh⟩=>by
  cases e with
  |exit AB=>
   unfold Exit.inBlock;by_cases he:AB=id
   .subst he;simp only[JQ,show Yb AB AB=true from Nat.beq_refl _,cond_true]at hh;simpa using⟨bk,nf,hh⟩
   .have hb:Yb AB id=false:=by
     cases sj:Yb AB id with
     |false=>rfl
     |true=>exact absurd (YR sj) he
    simp only[JQ,hb,cond_false]at hh;simpa[he]using⟨bk,nf,hh⟩
  |_=>exact⟨bk,nf,hh⟩)
theorem uX{c:Operand}{x y:Code}(b:Bool)(hc:ev ρ c= .bool b)(h:mO P n (bif b then x else y) Q ρ w):mO P n (.cond c x y) Q ρ w:=
 fun a hf=>wp_cond (t:=b) (by rw[hf.eval];exact hc) (by
  have:=h a hf
  cases b<;>exact this)
theorem C6{c:Operand}{x y:Code}(hc:ev ρ c= .bool true)(h:mO P n x Q ρ w):mO P n (.cond c x y) Q ρ w:=uX true hc h
theorem AD{c:Operand}{x y:Code}(hc:ev ρ c= .bool false)(h:mO P n y Q ρ w):mO P n (.cond c x y) Q ρ w:=uX false hc h
def Loop{S X:Type}(body:S->Option (S⊕X)):Nat->S->Option X
 |0,_=>none
 |k+1,s=>match body s with
  |none=>none
  |some (.inl s')=>Loop body k s'
  |some (.inr x)=>some x
def HD{S X:Type}(I:S->(Nat->Value)->World->Prop)(Q:Exit->(Nat->Value)->World->Prop)(x:X):S⊕X->Exit->(Nat->Value)->World->Prop
 | .inl s',e,ρ,w=>e= .normal/\I s' ρ w
 | .inr x',e,ρ,w=>e≠ .normal/\(x'=x->Q e ρ w)
theorem C7{S X:Type}{body:S->Option (S⊕X)}{c:Code}(I:S->(Nat->Value)->World->Prop){x:X}{N:Nat}{s:S}(hm:Loop body N s=some x)(h0:I s ρ w)
 (hb:∀s ρ w y,I s ρ w->body s=some y->mO P n c (HD I Q x y) ρ w):mO P n (.loop c) Q ρ w:=by
 intro a hf;refine wp_loop_rounds N ?_
 induction N generalizing s ρ w a with
 |zero=>cases hm
 |succ k ih=>
  rw[rounds_succ];unfold Loop at hm
  cases hy:body s with
  |none=>simp[hy]at hm
  |some y=>
   refine wp_mono (hb s ρ w y h0 hy a hf) fun e a' w' ⟨bk,nf,hh⟩=>?_
   cases y with
   |inl s'=>
    obtain⟨rfl,hI⟩:=hh;rw[hy]at hm;exact ih hm hI a' nf
   |inr x'=>
    rw[hy]at hm;obtain⟨bu,hq⟩:=hh;have:=hq (X7 hm)
    cases e with
    |normal=>exact absurd rfl bu
    |_=>exact⟨bk,nf,this⟩
def Ka(P:Program)(fn:Func)(n:Nat)(R:Value->World->Prop):Exit->(Nat->Value)->World->Prop
 | .normal,ρ,w| .ret,ρ,w=>∀a,Fr n a ρ->∃v,(results fn a.tmps).run P w= .ok v w/\R v w
 |_,_,_=>False
theorem tB{f:FuncId}{fn:Func}{c:Code}{args:List Value}{R:Value->World->Prop}(hf:P.funcs[f]? =some fn)(hb:fn.body=some c)(hn:args.length<=fn.ntmps)
 (h:∀ρ,(∀t v,args[t]? =some v->ρ t=v)->mO P fn.ntmps c (Ka P fn fn.ntmps R) ρ w):
 Calls P f args.toArray w fun e w'=>∃v,e= .returned v/\R v w':=by
 refine calls_of_wp hf hb ?_
 have mv:(args.toArray++Array.replicate (fn.ntmps-args.toArray.size) undef).size=fn.ntmps:=by simp;omega
 refine wp_mono (h (fun t=>(args.toArray++Array.replicate (fn.ntmps-args.toArray.size) undef).getD t undef) ?_ _ ⟨mv,rfl,fun t=>rfl⟩) fun e a' w' ⟨bk,nf,hh⟩=>?_
 .intro t v hv;have aW:t<args.length:=(Yc.1 hv).1
  have cy:args[t]=v:=by rw[X9 aW]at hv;exact X7 hv
  simp[YF,Array.getElem?_append,aW,cy]
 .cases e with
  |normal=>exact⟨nf.defers,(hh a' nf).imp fun v hv=>⟨hv.1,v,rfl,hv.2⟩⟩
  |ret=>exact⟨nf.defers,(hh a' nf).imp fun v hv=>⟨hv.1,v,rfl,hv.2⟩⟩
  |_=>exact hh.elim
end
end Go.Proofs.YtlfjlhcigpejdaaGreatDoor
end
section
open _root_.List renaming append_assoc->Yy,drop_append_of_le_length->YV,drop_of_length_le->YZ,getElem?_drop->Yo,getElem?_eq_some_iff->Yc,getElem?_take->Yz,take_length->YU
open _root_.Nat renaming zero_add->Yw
open _root_.Go.Sem renaming run_bind->Ys
namespace Go.Proofs.YtlfjlhcigpejdaaGreatDoor
open Go Go.RowKit
theorem lP{α:Type}[BEq α][LawfulBEq α][DecidableEq α](a b:α):(a==b)=decide (a=b):=by
 by_cases h:a=b
 .subst h;simp
 .simp[h]
theorem run_equal_bool{P:Program}{t:TypeId}(ht:P.underlying t=some .bool)(p q:Bool)(w:World):(Op.equal t (.bool p) (.bool q)).run P w= .ok (p==q) w:=by
 have h:∀d:Nat,(Op.equalIn (d+1) t (.bool p) (.bool q)).run P w= .ok (p==q) w:=fun d=>by
  simp[Op.equalIn,run_underlying ht]
 exact h 9999
section
variable {P:Program} {ρ:Nat->Value} {d:Option Nat} {ty:TypeId} {pos:String} {aft:Array Edge} {x y c:Operand} {t u:TypeId} {k:IntKind} {a b:Int}
theorem AE{v:Value}(h:ev ρ x=v):Pure P ρ ⟨d, .move x,ty,pos,aft,none⟩ v:=fun w=>by simp[execOp,h]
theorem uY{v:Value}(h:ev ρ x=v):Pure P ρ ⟨d, .assign x,ty,pos,aft,none⟩ v:=fun w=>by simp[execOp,h]
theorem p6{v:Value}(hc:ev ρ c= .bool true)(hx:ev ρ x=v):Pure P ρ ⟨d, .pick c x y,ty,pos,aft,none⟩ v:=fun w=>by
 simp[execOp,asBool,hc,hx]
theorem px{v:Value}(hc:ev ρ c= .bool false)(hy:ev ρ y=v):Pure P ρ ⟨d, .pick c x y,ty,pos,aft,none⟩ v:=fun w=>by
 simp[execOp,asBool,hc,hy]
theorem C8(hx:ev ρ x= .int k a)(hy:ev ρ y= .int k b):Pure P ρ ⟨d, .binOp .add t x y u,ty,pos,aft,none⟩ (.int k (k.wrap (a+b))):=fun w=>by
 simp[execOp,eqGuard,binOp,Op.intArith,hx,hy]
theorem C9(hx:ev ρ x= .int k a)(hy:ev ρ y= .int k b):Pure P ρ ⟨d, .binOp .sub t x y u,ty,pos,aft,none⟩ (.int k (k.wrap (a-b))):=fun w=>by
 simp[execOp,eqGuard,binOp,Op.intArith,hx,hy]
theorem Da(hx:ev ρ x= .int k a)(hy:ev ρ y= .int k b):Pure P ρ ⟨d, .binOp .mul t x y u,ty,pos,aft,none⟩ (.int k (k.wrap (a*b))):=fun w=>by
 simp[execOp,eqGuard,binOp,Op.intArith,hx,hy]
theorem Db(hx:ev ρ x= .int k a)(hy:ev ρ y= .int k b)(hb:b≠0):Pure P ρ ⟨d, .binOp .quo t x y u,ty,pos,aft,none⟩ (.int k (k.wrap (a.tdiv b))):=fun w=>by
 simp[execOp,eqGuard,binOp,Op.intDiv,hx,hy,hb]
theorem Dc(hx:ev ρ x= .int k a)(hy:ev ρ y= .int k b)(hb:b≠0):Pure P ρ ⟨d, .binOp .rem t x y u,ty,pos,aft,none⟩ (.int k (a.tmod b)):=fun w=>by
 simp[execOp,eqGuard,binOp,Op.intDiv,hx,hy,hb]
theorem Dd(hx:ev ρ x= .int k a)(hy:ev ρ y= .int k b):Pure P ρ ⟨d, .binOp .lss t x y u,ty,pos,aft,none⟩ (.bool (decide (a<b))):=fun w=>by
 simp[execOp,eqGuard,binOp,Op.intCmp,hx,hy]
theorem De(hx:ev ρ x= .int k a)(hy:ev ρ y= .int k b):Pure P ρ ⟨d, .binOp .leq t x y u,ty,pos,aft,none⟩ (.bool (decide (a<=b))):=fun w=>by
 simp[execOp,eqGuard,binOp,Op.intCmp,hx,hy]
theorem Df(hx:ev ρ x= .int k a)(hy:ev ρ y= .int k b):Pure P ρ ⟨d, .binOp .gtr t x y u,ty,pos,aft,none⟩ (.bool (decide (b<a))):=fun w=>by
 simp[execOp,eqGuard,binOp,Op.intCmp,hx,hy]
theorem Dg(hx:ev ρ x= .int k a)(hy:ev ρ y= .int k b):Pure P ρ ⟨d, .binOp .geq t x y u,ty,pos,aft,none⟩ (.bool (decide (b<=a))):=fun w=>by
 simp[execOp,eqGuard,binOp,Op.intCmp,hx,hy]
theorem Dh(hx:ev ρ x= .int k a)(hy:ev ρ y= .int k b):Pure P ρ ⟨d, .binOp .eql t x y u,ty,pos,aft,none⟩ (.bool (decide (a=b))):=fun w=>by
 simp[execOp,eqGuard,binOp,Op.intCmp,hx,hy,lP]
theorem Di(hx:ev ρ x= .int k a)(hy:ev ρ y= .int k b):Pure P ρ ⟨d, .binOp .neq t x y u,ty,pos,aft,none⟩ (.bool (!decide (a=b))):=fun w=>by
 simp[execOp,eqGuard,binOp,Op.intCmp,hx,hy,bne,lP]
theorem AF{p q:Bool}(ht:P.underlying t=some .bool)(hx:ev ρ x= .bool p)(hy:ev ρ y= .bool q):Pure P ρ ⟨d, .binOp .eql t x y u,ty,pos,aft,none⟩ (.bool (decide (p=q))):=fun w=>by
 have h:=run_equal_bool ht p q w;rw[lP]at h;simp only[execOp,eqGuard,hx,hy];simp[binOp,h]
theorem AG{p q:Bool}(ht:P.underlying t=some .bool)(hx:ev ρ x= .bool p)(hy:ev ρ y= .bool q):Pure P ρ ⟨d, .binOp .neq t x y u,ty,pos,aft,none⟩ (.bool (!decide (p=q))):=fun w=>by
 have h:=run_equal_bool ht p q w;rw[lP]at h;simp only[execOp,eqGuard,hx,hy];simp[binOp,h]
theorem bytes_beq(p q:ByteArray):(p.toList==q.toList)=decide (p=q):=by
 rw[lP]
 congr 1
 rw[ByteArray.toList_eq,ByteArray.toList_eq];refine propext ⟨fun h=>?_,fun h=>by rw[h]⟩;cases p;cases q;simpa using h
theorem AH{p q:ByteArray}(hx:ev ρ x= .string p)(hy:ev ρ y= .string q):Pure P ρ ⟨d, .binOp .eql t x y u,ty,pos,aft,none⟩ (.bool (decide (p=q))):=fun w=>by
 simp[execOp,eqGuard,binOp,Op.stringOp,hx,hy,bytes_beq]
theorem AI{p q:ByteArray}(hx:ev ρ x= .string p)(hy:ev ρ y= .string q):Pure P ρ ⟨d, .binOp .neq t x y u,ty,pos,aft,none⟩ (.bool (!decide (p=q))):=fun w=>by
 simp[execOp,eqGuard,binOp,Op.stringOp,hx,hy,bytes_beq]
theorem Dj{p:Bool}(hx:ev ρ x= .bool p):Pure P ρ ⟨d, .unOp .not t x,ty,pos,aft,none⟩ (.bool !p):=fun w=>by
 simp[execOp,Op.unary,hx]
theorem Dk(hx:ev ρ x= .int k a):Pure P ρ ⟨d, .unOp .neg t x,ty,pos,aft,none⟩ (.int k (k.wrap (0-a))):=fun w=>by
 simp[execOp,Op.unary,Op.intArith,hx]
theorem AJ{k':IntKind}{e:TypeDesc}(hs:P.underlying t=some e)(hu:P.underlying u=some (.int k'))(hx:ev ρ x= .int k a):Pure P ρ ⟨d, .convert t u x,ty,pos,aft,none⟩ (.int k' (k'.wrap a)):=fun w=>by
 simp[execOp,convert,run_underlying hs,run_underlying hu,hx,Conv.intToInt]
theorem Dl{e:TypeId}{A:Option Addr}{n cap:Nat}{m:Nat}(hm:m=n)(ht:P.underlying t=some (.slice e))(hx:ev ρ x= .slice A n cap):
 Pure P ρ ⟨d, .call {callee:= .builtin .len,args:= #[x],argTypes:= #[t]},ty,pos,aft,none⟩ (.int .i64 (m:Int)):=fun w=>by
 subst hm;simp[execOp,resolve,invoke,builtin,Builtin.len_,run_underlying ht,hx,goInt]
theorem AK{s:ByteArray}(ht:P.underlying t=some .string)(hx:ev ρ x= .string s):
 Pure P ρ ⟨d, .call {callee:= .builtin .len,args:= #[x],argTypes:= #[t]},ty,pos,aft,none⟩ (.int .i64 (s.size:Int)):=fun w=>by
 simp[execOp,resolve,invoke,builtin,Builtin.len_,run_underlying ht,hx,goInt]
theorem AL{t':TypeId}(hx:ev ρ x= .int k a)(hy:ev ρ y= .int k b):
 Pure P ρ ⟨d, .call {callee:= .builtin .max,args:= #[x,y],argTypes:= #[t,t']},ty,pos,aft,none⟩ (.int k (if a<b then b else a)):=fun w=>by
 simp[execOp,resolve,invoke,builtin,Builtin.max_,Builtin.max2,hx,hy]
theorem AM{t':TypeId}(hx:ev ρ x= .int k a)(hy:ev ρ y= .int k b):
 Pure P ρ ⟨d, .call {callee:= .builtin .min,args:= #[x,y],argTypes:= #[t,t']},ty,pos,aft,none⟩ (.int k (if b<a then b else a)):=fun w=>by
 simp[execOp,resolve,invoke,builtin,Builtin.min_,Builtin.min2,hx,hy]
theorem tC{vs:Array Value}{i:Nat}{v:Value}(hx:ev ρ x= .tuple vs)(hi:vs[i]? =some v):Pure P ρ ⟨d, .extract x i,ty,pos,aft,none⟩ v:=fun w=>by
 simp[execOp,Instr.extract,hx,hi]
theorem bN(b o k:Nat):(⟨b,o,none⟩:Addr).add k=⟨b,o+k,none⟩:=by unfold Addr.add;split<;>simp_all
theorem p7{f:Nat}{fs:Array Field}{fd:Field}{ti:TypeInfo}{zl off:Nat}(k:Nat)(hs:P.underlying t=some (.struct fs))(hf:fs[f]? =some fd)(hi:P.info? fd.type=some ti)(mv:ti.size≠0)(hk:fd.offset=k)
 (hx:ev ρ x= .pointer (some ⟨zl,off,none⟩)):Pure P ρ ⟨d, .fieldAddr t x f,ty,pos,aft,none⟩ (.pointer (some ⟨zl,off+k,none⟩)):=fun w=>by
 subst hk;simp[execOp,Instr.fieldAt,run_underlying hs,hf,Instr.sureAddr,fieldPlace,sizeOf,typeInfo,hi,mv,hx,bN]
theorem iX{e:TypeId}{ti:TypeInfo}{zl off n cap i:Nat}(size:Nat)(ht:P.underlying t=some (.slice e))(hi:P.info? e=some ti)(mv:ti.size=size)
 (hx:ev ρ x= .slice (some ⟨zl,off,none⟩) n cap)(hy:ev ρ y= .int k a)(ha:a=(i:Int))(aW:i<n):
 Pure P ρ ⟨d, .indexAddr t x y,ty,pos,aft,none⟩ (.pointer (some ⟨zl,off+i*size,none⟩)):=fun w=>by
 subst mv;subst ha;simp[execOp,Instr.indexAt,asIntOf,run_underlying ht,sizeOf,typeInfo,hi,hx,hy,aW,bN]
end
end Go.Proofs.YtlfjlhcigpejdaaGreatDoor
namespace Go.Proofs.YtlfjlhcigpejdaaGreatDoor
open Go Go.RowKit
inductive Path:Row->Row->Type where
 |here {r:Row}:Path r r
 |fst {a b s:Row} (p:Path a s):Path (.pair a b) s
 |snd {a b s:Row} (p:Path b s):Path (.pair a b) s
def Path.off:{r s:Row}->Path r s->Nat
 |_,_, .here=>0
 |_,_, .fst p=>p.off
 |_,_, .snd (a:=a) p=>a.size+p.off
@[reducible] def Path.get:{r s:Row}->Path r s->r.den->s.den
  |_,_, .here,x=>x
  |_,_, .fst p,x=>p.get x.1
  |_,_, .snd p,x=>p.get x.2
@[reducible] def Path.set:{r s:Row}->Path r s->r.den->s.den->r.den
  |_,_, .here,_,y=>y
  |_,_, .fst p,x,y=>(p.set x.1 y,x.2)
  |_,_, .snd p,x,y=>(x.1,p.set x.2 y)
section
variable {F:Nat->Prop} {w:World}
theorem Path.le:{r s:Row}->(p:Path r s)->p.off+s.size<=r.size
 |_,_, .here=>by simp[Path.off]
 |_,_, .fst p=>by have:=p.le;simp[Path.off];omega
 |_,_, .snd p=>by have:=p.le;simp[Path.off];omega
theorem bH.path:{r s:Row}->(p:Path r s)->{es:List Value}->{x:r.den}->bH F w r es x->bH F w s ((es.drop p.off).take s.size) (p.get x)
 |_,_, .here,es,x,h=>by
  have:=h.length;simp only[Path.off,List.drop_zero,Path.get];rw[<-this,YU];exact h
 |_,s, .fst (a:=a) p,_,x,h=>by
  obtain⟨c1,c2,rfl,h1,h2⟩:=h;have hr:=bH.path p h1;have hle:=p.le;have hl:=h1.length;simp only[Path.off,Path.get];rw[YV (by omega),List.take_append_of_le_length (by rw[List.length_drop];omega)];exact hr
 |_,s, .snd (a:=a) p,_,x,h=>by
  obtain⟨c1,c2,rfl,h1,h2⟩:=h;have hr:=bH.path p h2;have hl:=h1.length;simp only[Path.off,Path.get];rw[<-hl,List.drop_append,YZ (by omega),List.nil_append,show c1.length+p.off-c1.length=p.off from by omega];exact hr
theorem bH.put:{r s:Row}->(p:Path r s)->{es vs:List Value}->{x:r.den}->{y:s.den}->bH F w r es x->bH F w s vs y->
 bH F w r (es.take p.off++vs++es.drop (p.off+s.size)) (p.set x y)
 |_,_, .here,es,vs,x,y,h,hv=>by
  have:=h.length;simp only[Path.off,Path.set,List.take_zero,List.nil_append,Yw];rw[<-this,List.drop_length,List.append_nil];exact hv
 |_,s, .fst (a:=a) p,_,vs,x,y,h,hv=>by
  obtain⟨c1,c2,rfl,h1,h2⟩:=h;have hr:=bH.put p h1 hv;have hle:=p.le;have hl:=h1.length;refine⟨_,c2,?_,hr,h2⟩;simp only[Path.off];rw[List.take_append_of_le_length (by omega),YV (by omega)];simp[Yy]
 |_,s, .snd (a:=a) p,_,vs,x,y,h,hv=>by
  obtain⟨c1,c2,rfl,h1,h2⟩:=h;have hr:=bH.put p h2 hv;have hl:=h1.length;refine⟨c1,_,?_,h1,hr⟩;simp only[Path.off]
  rw[<-hl,List.take_append,List.take_of_length_le (by omega),List.drop_append,YZ (by omega),show c1.length+p.off-c1.length=p.off from by omega,
   show c1.length+p.off+s.size-c1.length=p.off+s.size from by omega]
  simp[Yy]
theorem At.path{r s:Row}{b off:Nat}{x:r.den}(h:At F w r b off x)(p:Path r s)(k:Nat)(hk:p.off=k):At F w s b (off+k) (p.get x):=by
 subst hk;obtain⟨es,hl,hc,hr⟩:=h;have hp:=hr.path p;refine⟨_,hp.length,fun j u hu=>?_,hp⟩;rw[Yz]at hu;split at hu
 .rw[Yo]at hu;rw[Nat.add_assoc];exact hc _ u hu
 .cases hu
theorem At.int{k:IntKind}{b off:Nat}{x:Int}(h:At F w (.int k) b off x):w.cell? ⟨b,off,none⟩=some (.int k x):=by
 obtain⟨es,hl,hc,rfl⟩:=h;exact hc 0 _ rfl
theorem At.bool{b off:Nat}{x:Bool}(h:At F w .bool b off x):w.cell? ⟨b,off,none⟩=some (.bool x):=by
 obtain⟨es,hl,hc,rfl⟩:=h;exact hc 0 _ rfl
theorem At.str{b off:Nat}{x:ByteArray}(h:At F w .str b off x):w.cell? ⟨b,off,none⟩=some (.string x):=by
 obtain⟨es,hl,hc,rfl⟩:=h;exact hc 0 _ rfl
theorem At.slice{e:Row}{b off:Nat}{x:List e.den}(h:At F w (.slice e) b off x):∃v,w.cell? ⟨b,off,none⟩=some v/\bH F w (.slice e) [v] x:=by
 obtain⟨es,hl,hc,hr⟩:=h;obtain⟨A,cap,rfl,h⟩:=hr;exact⟨_,hc 0 _ rfl,A,cap,rfl,h⟩
def Reads(F:Nat->Prop)(w:World)(r:Row)(v:Value)(l:List r.den):Prop:=
 ∃A cap,v= .slice A l.length cap/\l.length<=cap/\cap<=maxLen/\∀i(h:i<l.length),∃b off,A=some ⟨b,off,none⟩/\At F w r b (off+i*r.size) l[i]
theorem bH.reads{r:Row}{v:Value}{l:List r.den}(h:bH F w (.slice r) [v] l):Reads F w r v l:=by
 obtain⟨A,cap,h1,h2,h3,h4⟩:=h;refine⟨A,cap,by simpa using h1,h2,h3,fun i hi=>?_⟩;obtain⟨b,off,es,hA,_,n8,hc,hr⟩:=h4 i hi;exact⟨b,off,hA,es,n8,hc,hr⟩
def idx{α:Type}(l:List α)(i:Int):Option α:=if 0<=i then l[i.toNat]? else none
theorem dX{α:Type}{l:List α}{i:Int}{y:α}(h:idx l i=some y):∃k:Nat,i=k/\∃hk:k<l.length,l[k]=y:=by
 unfold idx at h;split at h
 .rename_i h0;obtain⟨hk,e⟩:=Yc.1 h;exact⟨i.toNat,by omega,hk,e⟩
 .cases h
theorem Reads.elem{r:Row}{v:Value}{l:List r.den}(h:Reads F w r v l){i:Int}{y:r.den}(hi:idx l i=some y):
 ∃b off cap k,v= .slice (some ⟨b,off,none⟩) l.length cap/\i=(k:Nat)/\k<l.length/\At F w r b (off+k*r.size) y:=by
 obtain⟨A,cap,hv,_,_,h4⟩:=h;obtain⟨k,hk,aW,rfl⟩:=dX hi;obtain⟨b,off,rfl,oZ⟩:=h4 k aW;exact⟨b,off,cap,k,hv,hk,aW,oZ⟩
end
section
variable {P:Program} {n:Nat} {ops:Array Oper} {K:(Nat->Value)->World->Prop} {rest:List Oper} {ρ:Nat->Value} {w:World} {F:Nat->Prop}
variable {d:Nat} {ty:TypeId} {pos:String} {aft:Array Edge} {x y:Operand} {t:TypeId}
def iY:TypeDesc->Bool
 | .struct _| .array _ _=>true
 |_=>false
theorem dE{D:TypeDesc}(hu:P.underlying t=some D)(w:World):(isAgg t).run P w= .ok (iY D) w:=by
 unfold isAgg;rw[Ys,run_underlying hu w]
 cases D<;>simp[iY]
theorem sn{dd:Option Nat}{D:TypeDesc}{b off:Nat}{v:Value}(hu:P.underlying t=some D)(hD:iY D=false)(hx:ev ρ x= .pointer (some ⟨b,off,none⟩))(hc:w.cell? ⟨b,off,none⟩=some v):
 (execOp (ev ρ) ⟨dd, .load t x,ty,pos,aft,none⟩).run P w= .ok (.value v) w:=by
 simp[execOp,hx,Instr.loadAt,Instr.sureAddr,loadVar,Ys,dE hu,hD,hc,go_sem]
theorem AN{dd:Option Nat}{D:TypeDesc}{ti:TypeInfo}{b off:Nat}{es:List Value}(hu:P.underlying t=some D)(hD:iY D=true)(hi:P.info? t=some ti)(hs:ti.size=es.length)
 (hx:ev ρ x= .pointer (some ⟨b,off,none⟩))(hc:∀j u,es[j]? =some u->w.cell? ⟨b,off+j,none⟩=some u):
 (execOp (ev ρ) ⟨dd, .load t x,ty,pos,aft,none⟩).run P w= .ok (.value (.agg es.toArray)) w:=by
 have hl:(loadCells ⟨b,off,none⟩ es.length).run P w= .ok es.toArray w:=
  run_loadCells_list (P:=P) w ⟨b,off,none⟩ es (fun j v hv=>by rw[bN];exact hc j v hv)
 simp[execOp,hx,Instr.loadAt,Instr.sureAddr,loadVar,Ys,dE hu,hD,sizeOf,typeInfo,hi,hs,hl]
end
end Go.Proofs.YtlfjlhcigpejdaaGreatDoor
end
section
open _root_.Go.Addr.mk renaming injEq->Zr
open _root_.Go.Builtin renaming append_->Zu
open _root_.List renaming append_assoc->Yy,drop_append_of_le_length->YV,drop_of_length_le->YZ,getElem?_drop->Yo,getElem?_eq_getElem->X9,getElem?_take->Yz,length_append->Yr,length_take->Y2,replicate->Yf
open _root_.Nat renaming add_mul->Yt,add_zero->Y0,le_refl->Yd,lt_of_lt_of_le->YK,lt_or_ge->YN,mod_lt->Zc,mul_comm->YO,mul_le_mul_right->Ym,zero_add->Yw
open _root_.Option.some renaming inj->X7,injEq->Ye
open _root_.Go.Value renaming ownBlock->YE
open _root_.Go.Value.slice renaming injEq->Zh
namespace Go.Proofs.YtlfjlhcigpejdaaGreatDoor
open Go Go.RowKit
structure Ext(g:Nat->Prop)(w w':World):Prop where
 os:w'.os=w.os
 tape:w'.tape=w.tape
 output:w'.output=w.output
 size:w.heap.size<=w'.heap.size
 block:∀k,k<w.heap.size->¬g k->w'.heap[k]? =w.heap[k]?
theorem Ext.Dm{g:Nat->Prop}{a b:World}{row:Option Nat}(h:a.grownBy b row)(hs:∀k,row=some k->g k):Ext g a b:=
 ⟨h.os,h.tape,h.output,h.size,fun k hk hn=>h.block k hk fun e=>hn (hs k e.symm)⟩
section
variable {w0 w w':World} {F0 F F':Nat->Prop} {g:Nat->Prop}
theorem St.ext(h:St w0 F0 w F)(he:Ext g w w')(hg:∀k,g k->w0.heap.size<=k):St w0 F0 w' F:=
 ⟨h.below.trans ⟨he.os,he.tape,he.output,he.size,fun k hk=>by
   rcases YN k w.heap.size with aW|hge
   .exact he.block k aW fun e=>by have:=hg k e;omega
   .have:=h.below.size;omega⟩,h.le,h.new,fun b hb=>YK (h.lt b hb) he.size⟩
theorem Step.ext(he:Ext g w w')(hF:∀b,F b->b<w.heap.size)(hg:∀k,g k->¬F k):Step F w F w':=
 fun b hb=>⟨hb,he.block b (hF b hb) fun e=>hg b e hb⟩
def jG(base:Nat)(F:Nat->Prop)(w:World)(b:Nat)(T:TypeId)(r:Row)(x:r.den):Prop:=
 base<=b/\¬F b/\∃es,w.heap[b]? =some (.cells es.toArray T (0,0))/\bH F w r es x
def aM(v:Value)(k:Nat):Prop:=v.ownBlock=some k
def is(b k:Nat):Prop:=k=b
def jn(w:World)(base:Nat)(e:TypeId)(size:Nat)(v:Value)(n:Nat)(xs:List Value):Prop:=
 xs.length=n*size/\
 ((v= .slice none 0 0/\n=0)\/
  ∃g o0 cap gi,v= .slice (some ⟨g,o0,none⟩) n cap/\base<=g/\w.heap[g]? =some (.cells gi e (0,0))/\n<=cap/\cap<=maxLen/\o0+cap*size<=gi.size/\(gi.toList.drop o0).take (n*size)=xs)
theorem jn.of{w:World}{base:Nat}{e:TypeId}{size:Nat}{v:Value}{n:Nat}{xs:List Value}(h:w.ownsRow base e size v n xs):jn w base e size v n xs:=by
 refine⟨h.1,?_⟩
 rcases h.2 with h|⟨g,cap,gi,hv,hb,hg,h1,h2,h3,h4⟩
 .exact .inl h
 .exact .inr ⟨g,0,cap,gi,hv,hb,hg,h1,h2,by omega,h4⟩
theorem AO(w:World)(base:Nat)(e:TypeId)(size:Nat):jn w base e size (.slice none 0 0) 0 []:= .of (World.ownsRow_nil w base e size)
theorem jn.lt{w:World}{base:Nat}{e:TypeId}{size:Nat}{v:Value}{n:Nat}{xs:List Value}(h:jn w base e size v n xs):∀k,v.ownBlock=some k->base<=k/\k<w.heap.size:=by
 intro k hk
 rcases h.2 with⟨rfl,_⟩|⟨g,o0,cap,gi,rfl,hb,hg,_⟩
 .cases hk
 .obtain rfl:g=k:=by simpa[YE]using hk
  exact⟨hb,(Array.getElem?_eq_some_iff.1 hg).1⟩
def gY(base:Nat)(F:Nat->Prop)(w:World)(T:TypeId)(r:Row)(v:Value)(l:List r.den):Prop:=
 (∀k,aM v k->¬F k)/\∃xs,jn w base T r.size v l.length xs/\∀i(h:i<l.length),bH F w r ((xs.drop (i*r.size)).take r.size) l[i]
variable {base b:Nat} {T:TypeId} {r:Row}
theorem jG.lt{x:r.den}(h:jG base F w b T r x):∀k,is b k->k<w.heap.size:=fun k hk=>by
 obtain⟨_,_,es,hh,_⟩:=h;rw[hk];exact(Array.getElem?_eq_some_iff.1 hh).1
theorem jG.ge{x:r.den}(h:jG base F w b T r x):∀k,is b k->base<=k:=fun k hk=>by rw[hk];exact h.1
theorem jG.no{x:r.den}(h:jG base F w b T r x):∀k,is b k->¬F k:=fun k hk=>by rw[hk];exact h.2.1
theorem jG.st{x:r.den}(h:jG base F w b T r x)(hF:∀b,F b->b<w.heap.size)(hs:St w F w' F'):jG base F' w' b T r x:=by
 have aW:=h.lt b rfl;obtain⟨h1,h2,es,hh,hr⟩:=h;refine⟨h1,fun e=>?_,es,(hs.below.block b aW).trans hh,hr.step (hs.step hF)⟩
 rcases hs.new b e with h'|h'
 .exact h2 h'
 .omega
theorem jG.ext{x:r.den}(h:jG base F w b T r x)(hF:∀b,F b->b<w.heap.size)(he:Ext g w w')(hg:∀k,g k->¬F k)(hb:∀k,g k->¬is b k):jG base F w' b T r x:=by
 have aW:=h.lt b rfl;obtain⟨h1,h2,es,hh,hr⟩:=h;exact⟨h1,h2,es,(he.block b aW fun e=>hb b e rfl).trans hh,hr.step (Step.ext he hF hg)⟩
theorem jG.at{x:r.den}(h:jG base F w b T r x):At F w r b 0 x:=by
 obtain⟨_,_,es,hh,hr⟩:=h;exact⟨es,hr.length,fun j u hu=>by rw[Yw,cell_of_row w b j _ T (0,0) hh];simpa using hu,hr⟩
theorem gY.lt{v:Value}{l:List r.den}(h:gY base F w T r v l):∀k,aM v k->k<w.heap.size:=by
 obtain⟨_,xs,h,_⟩:=h
 exact fun k hk=>(h.lt k hk).2
theorem gY.ge{v:Value}{l:List r.den}(h:gY base F w T r v l):∀k,aM v k->base<=k:=by
 obtain⟨_,xs,h,_⟩:=h
 exact fun k hk=>(h.lt k hk).1
theorem gY.no{v:Value}{l:List r.den}(h:gY base F w T r v l):∀k,aM v k->¬F k:=h.1
theorem gY.nil(base:Nat)(F:Nat->Prop)(w:World)(T:TypeId)(r:Row):gY base F w T r (.slice none 0 0) []:=
 ⟨fun k hk=>by simp[aM,YE]at hk,[],AO _ _ _ _,fun i h=>absurd h (by simp)⟩
theorem gY.aO{v:Value}{l:List r.den}(h:gY base F w T r v l)(hs:Step F w F' w')(h1:∀k,aM v k->¬F' k/\w'.heap[k]? =w.heap[k]?):gY base F' w' T r v l:=by
 obtain⟨_,xs,⟨Kb,AQ⟩,h3⟩:=h;refine⟨fun k hk=>(h1 k hk).1,xs,⟨Kb,?_⟩,fun i hi=>(h3 i hi).step hs⟩
 rcases AQ with h2|⟨gg,o0,cap,gi,rfl,hb,hg,rest⟩
 .exact .inl h2
 .exact .inr ⟨gg,o0,cap,gi,rfl,hb,(h1 gg rfl).2.trans hg,rest⟩
theorem gY.st{v:Value}{l:List r.den}(h:gY base F w T r v l)(hF:∀b,F b->b<w.heap.size)(hs:St w F w' F'):gY base F' w' T r v l:=
 h.aO (hs.step hF) fun k hk=>⟨fun e=>by
   have aW:=h.lt k hk
   rcases hs.new k e with h'|h'
   .exact h.no k hk h'
   .omega,hs.below.block k (h.lt k hk)⟩
theorem gY.ext{v:Value}{l:List r.den}(h:gY base F w T r v l)(hF:∀b,F b->b<w.heap.size)(he:Ext g w w')(hg:∀k,g k->¬F k)(hb:∀k,g k->¬aM v k):gY base F w' T r v l:=
 h.aO (Step.ext he hF hg) fun k hk=>⟨h.no k hk,he.block k (h.lt k hk) fun e=>hb k e hk⟩
theorem gY.reads{v:Value}{l:List r.den}(h:gY base F w T r v l):Reads F w r v l:=by
 obtain⟨_,xs,hx,h3⟩:=h;have hlen:=hx.1
 rcases hx.2 with⟨rfl,h0⟩|⟨gg,o0,cap,gi,rfl,hb,hg,h1,h2,py,sq⟩
 .exact⟨none,0,by rw[h0],by omega,by simp[maxLen],fun i hi=>absurd hi (by omega)⟩
 .refine⟨_,cap,rfl,h1,h2,fun i hi=>⟨gg,o0,rfl,_,(h3 i hi).length,fun j u hu=>?_,h3 i hi⟩⟩;rw[Yz]at hu;split at hu
  .rw[Yo]at hu;rw[cell_of_row w gg _ gi T (0,0) hg];rw[<-sq,Yz]at hu;split at hu
   .rw[Yo]at hu;simpa[Nat.add_assoc]using hu
   .cases hu
  .cases hu
theorem gY.freeze{v:Value}{l:List r.den}(h:gY base F w T r v l):bH (fun b=>F b\/aM v b) w (.slice r) [v] l:=by
 obtain⟨A,cap,hv,h1,h2,h3⟩:=h.reads;refine⟨A,cap,by rw[hv],h1,h2,fun i hi=>?_⟩;obtain⟨b,off,rfl,es,n8,hc,hr⟩:=h3 i hi;subst hv;exact⟨b,off,es,rfl, .inr (by simp[aM,YE]),n8,hc,hr.step fun b hb=>⟨.inl hb,rfl⟩⟩
@[reducible] def Row.zero:(r:Row)->r.den
  | .int _=>(0:Int)
  | .bool=>false
  | .str=>ByteArray.empty
  | .slice _=>[]
  | .gU=> .slice none 0 0
  | .nul _=>()
  | .map .. =>[]
  | .pair a b=>(a.zero,b.zero)
def Row.dn:(r:Row)->List Value
 | .int k=>[.int k 0]
 | .bool=>[.bool false]
 | .str=>[.string ByteArray.empty]
 | .slice _=>[.slice none 0 0]
 | .gU=>[.slice none 0 0]
 | .nul k=>[k.val]
 | .map .. =>[.map none]
 | .pair a b=>a.dn++b.dn
theorem bH.zero(F:Nat->Prop)(w:World):(r:Row)->bH F w r r.dn r.zero
 | .int _=>rfl
 | .bool=>rfl
 | .str=>rfl
 | .slice e=>bH.nil F w e
 | .gU=>⟨rfl,none,0,0,rfl⟩
 | .nul _=>rfl
 | .map .. =>⟨_,rfl, .inl ⟨rfl,rfl⟩⟩
 | .pair a b=>⟨_,_,rfl,bH.zero F w a,bH.zero F w b⟩
theorem jG.new(F:Nat->Prop){w:World}(T:TypeId){r:Row}{es:List Value}{x:r.den}(hF:∀b,F b->b<w.heap.size)(hb:base<=w.heap.size)(hr:bH F w r es x):jG base F (w.alloc (.cells es.toArray T)) w.heap.size T r x:=
 ⟨hb,fun e=>by have:=hF _ e;omega,es,heap_alloc_new w _,hr.step (Step.alloc hF _)⟩
end
section
variable {P:Program} {n:Nat} {ops:Array Oper} {K:(Nat->Value)->World->Prop} {rest:List Oper} {ρ:Nat->Value} {w:World} {F:Nat->Prop} {base:Nat}
variable {d:Nat} {ty:TypeId} {pos:String} {aft:Array Edge} {x y:Operand} {t:TypeId}
theorem AR{dd:Option Nat}{ti:TypeInfo}{z:Value}(hi:P.info? t=some ti)(hz:ti.zero=some z):
 (execOp (ev ρ) ⟨dd, .alloc t,ty,pos,aft,none⟩).run P w= .ok (.value (.pointer (some ⟨w.heap.size,0,none⟩))) (w.alloc (.cells z.cells t)):=by
 simp[execOp,Instr.alloc,zeroValue,typeInfo,hi,hz,newVar,newRow]
theorem FW{dd:Option Nat}{v:Value}(hx:ev ρ x=v):
 (execOp (ev ρ) ⟨dd, .box t x,ty,pos,aft,none⟩).run P w= .ok (.value (.pointer (some ⟨w.heap.size,0,none⟩))) (w.alloc (.cells v.cells t)):=by
 simp[execOp,Instr.box,hx,newVar,newRow]
theorem ku{dd:Option Nat}{ti:TypeInfo}{b off:Nat}{gi:Array Value}{T:TypeId}{v:Value}{vs:List Value}(hi:P.info? t=some ti)(hs:ti.size=vs.length)(hx:ev ρ x= .pointer (some ⟨b,off,none⟩))(hy:ev ρ y=v)
 (hv:v.cells.toList=vs)(h1:∀u∈vs,u.oneCell'=true)(hg:w.heap[b]? =some (.cells gi T (0,0)))(hl:off+vs.length<=gi.size):
 (execOp (ev ρ) ⟨dd, .store t x y,ty,pos,aft,none⟩).run P w= .ok .skip (w.setRow b (gi.toList.take off++vs++gi.toList.drop (off+vs.length)).toArray):=by
 have dH:=run_storeCells_at P b off T vs 0 gi w hg (by omega) h1
 have mv:v.cells.size=ti.size:=by rw[hs,<-hv];simp
 simp only[Y0]at dH;simp[execOp,Instr.storeAt,Instr.sureAddr,storeVar,sizeOf,typeInfo,hi,mv,hx,hy,hv,dH]
theorem xF(w:World)(b:Nat)(cs:Array Value):Ext (is b) w (w.setRow b cs):=
 ⟨rfl,rfl,rfl,by simp,fun k _ hk=>setRow_other w b k cs hk⟩
theorem jG.put{w:World}{b:Nat}{T:TypeId}{r s:Row}{a:r.den}{es:List Value}(hh:w.heap[b]? =some (.cells es.toArray T (0,0)))(hr:bH F w r es a)(hb:base<=b)(hn:¬F b)(hF:∀b,F b->b<w.heap.size)(p:Path r s){vs:List Value}{u:s.den}(hv:bH F w s vs u):
 jG base F (w.setRow b (es.take p.off++vs++es.drop (p.off+s.size)).toArray) b T r (p.set a u):=
 ⟨hb,hn,_,setRow_heap w b _ _ T (0,0) hh,(hr.put p hv).step (Step.ext (xF w b _) hF fun k hk=>by rw[show k=b from hk];exact hn)⟩
def rK{α:Type}(m:Int)(z:α):Option (List α):=if 0<=m/\m<=4294967296 then some (Yf m.toNat z)else none
def eW{α:Type}(l m:List α):Option (List α):=if l.length+m.length<=4294967296 then some (l++m)else none
theorem nk(z:Array Value)(m j:Nat)(hj:j<m)(hz:0<z.size):(madeCells z m).toList[j]? =z[j%z.size]? :=by
 have:j%z.size<z.size:=Zc _ hz;simp[madeCells,hj,this]
theorem Dn(z:List Value)(m i:Nat)(hz:0<z.length)(hi:i<m):(((madeCells z.toArray (m*z.length)).toList.drop (i*z.length)).take z.length)=z:=by
 apply List.ext_getElem?
 intro j;rw[Yz,Yo];split
 .rename_i hj;have hle:(i+1)*z.length<=m*z.length:=Ym _ hi;rw[Yt]at hle;rw[nk z.toArray (m*z.length) (i*z.length+j) (by omega) (by simpa using hz)];rw[show z.toArray.size=z.length from by simp,List.getElem?_toArray];rw[Nat.add_comm,Nat.add_mul_mod_self_right,Nat.mod_eq_of_lt hj]
 .rename_i hj;rw[List.getElem?_eq_none (by omega)]
theorem Reads.news{r:Row}{A:Option Addr}{cap m:Nat}{l:List r.den}(h:Reads F w r (.slice A m cap) l)(b off:Nat)(hA:A=some ⟨b,off,none⟩):
 ∃news:List Value,news.length=l.length*r.size/\(∀j u,news[j]? =some u->w.cell? ⟨b,off+j,none⟩=some u)/\∀i(hi:i<l.length),bH F w r ((news.drop (i*r.size)).take r.size) l[i]:=by
 subst hA;obtain⟨A',Dp,hv,_,_,h4⟩:=h;simp only[Zh]at hv;obtain⟨rfl,_,_⟩:=hv;have nl:=r.size_pos
 have p5:∀j,j<l.length*r.size->∃u,w.cell? ⟨b,off+j,none⟩=some u:=by
  intro j hj;have hi:j/r.size<l.length:=Nat.div_lt_of_lt_mul (by rwa [YO]);obtain⟨b',cF,lQ,es,n8,hc,_⟩:=h4 _ hi;simp only[Ye,Zr,and_true]at lQ;obtain⟨rfl,rfl⟩:=lQ
  have CJ:j%r.size<es.length:=by rw[n8];exact Zc _ nl
  have:=hc (j%r.size) _ (X9 CJ);rw[Nat.add_assoc,Nat.div_add_mod']at this;exact⟨_,this⟩
 have FX:∀j u,((List.range (l.length*r.size)).map fun j=>(w.cell? ⟨b,off+j,none⟩).getD undef)[j]? =some u↔j<l.length*r.size/\w.cell? ⟨b,off+j,none⟩=some u:=by
  intro j u;by_cases hj:j<l.length*r.size
  .obtain⟨q,hq⟩:=p5 j hj;simp[hj,hq]
  .simp[hj]
 refine⟨(List.range (l.length*r.size)).map fun j=>(w.cell? ⟨b,off+j,none⟩).getD undef,by simp,fun j u hu=>((FX j u).1 hu).2,fun i hi=>?_⟩;obtain⟨b',cF,lQ,es,n8,hc,hr⟩:=h4 i hi;simp only[Ye,Zr,and_true]at lQ;obtain⟨rfl,rfl⟩:=lQ
 have he:(((List.range (l.length*r.size)).map fun j=>(w.cell? ⟨b,off+j,none⟩).getD undef).drop (i*r.size)).take r.size=es:=by
  have hle:(i+1)*r.size<=l.length*r.size:=Ym _ hi;rw[Yt]at hle
  apply List.ext_getElem?
  intro j;rw[Yz,Yo];split
  .rename_i hj;rw[(FX (i*r.size+j) (es[j]'(by omega))).2 ⟨by omega,by rw[<-Nat.add_assoc];exact hc j _ (X9 (by omega))⟩,X9 (by omega)]
  .rw[List.getElem?_eq_none (by omega)]
 rw[he];exact hr
theorem nn(w:World)(base:Nat)(t ty e:TypeId)(i:TypeInfo)(size:Nat)(ht:P.underlying t=some (.slice e))(hi:P.info? e=some i)
 (v:Value)(n:Nat)(xs:List Value)(dI:jn w base e size v n xs)(c:Nat):(Zu #[t,t] ty #[v, .slice none 0 c]).run P w= .ok v w:=by
 rcases dI.2 with⟨rfl,rfl⟩|⟨g,o0,cap,gi,rfl,_,_,Kc,_⟩
 .simp[Zu,run_underlying ht,sizeOf,typeInfo,hi,Builtin.lenOf,Builtin.firstCells]
 .simp[Zu,run_underlying ht,sizeOf,typeInfo,hi,Builtin.lenOf,Builtin.firstCells,Kc,storeCells]
theorem tD(w:World)(base:Nat)(t ty e:TypeId)(i:TypeInfo)(z:Value)(size bytes:Nat)(ht:P.underlying t=some (.slice e))(hi:P.info? e=some i)(hz:i.zero=some z)
 (HE:i.size=size)(CK:i.bytes=bytes)(Kd:z.cells.size=size)(mv:0<size)
 (v:Value)(n:Nat)(xs:List Value)(dI:jn w base e size v n xs)
 (a:Addr)(m c:Nat)(news:List Value)(hl:news.length=m*size)(Dq:∀j u,news[j]? =some u->w.cell? (a.add j)=some u)(h1:∀u∈news,u.oneCell'=true)
 (M9:n+m<=maxLen)(Dr:(n+m)*bytes<=140737488355328)(HF:base<=w.heap.size):
 ∃v' w',(Zu #[t,t] ty #[v, .slice (some a) m c]).run P w= .ok v' w'/\jn w' base e size v' (n+m) (xs++news)/\w.grownBy w' v.ownBlock/\
  (v'.ownBlock=v.ownBlock\/v'.ownBlock=some w.heap.size):=by
 rcases dI.2 with⟨rfl,rfl⟩|⟨g,o0,cap,gi,rfl,R2,hg,Kc,Na,py,sq⟩
 .have hx:xs=[]:=List.eq_nil_of_length_eq_zero (by simpa using dI.1);subst hx;obtain⟨v',w',g1,g2,g3,_,g4⟩:=run_append_own_at (P:=P) w base t ty e i z size bytes ht hi hz HE CK Kd mv (.slice none 0 0) 0 [] (World.ownsRow_nil w base e size) a m c news hl Dq h1 M9 Dr HF;exact⟨v',w',g1, .of g2,g3,g4⟩
 subst HE;subst CK
 have Nb:n+m<=9223372036854775807:=by simp only[maxLen]at M9;omega
 have hlen:(xs++news).length=(n+m)*i.size:=by rw[Yr,dI.1,hl,Yt]
 have Xo:n*i.size+news.length=(n+m)*i.size:=by rw[hl,Yt]
 have R3:n*i.size<=cap*i.size:=Ym _ Kc;by_cases Ds:n+m<=cap
 .have Nc:(n+m)*i.size<=cap*i.size:=Ym _ Ds;have hf:=run_firstCells_some (P:=P) w i.size m a m c news hl Dq;have dH:=run_storeCells_at P g (o0+n*i.size) e news 0 gi w hg (by omega) h1;simp only[Y0]at dH
  have hr:(Zu #[t,t] ty #[.slice (some ⟨g,o0,none⟩) n cap, .slice (some a) m c]).run P w=
   .ok (.slice (some ⟨g,o0,none⟩) (n+m) cap) (w.setRow g (gi.toList.take (o0+n*i.size)++news++gi.toList.drop (o0+n*i.size+news.length)).toArray):=by
   simp[Zu,run_underlying ht,sizeOf,typeInfo,hi,Builtin.lenOf,Ds,hf,Addr.add_lit,dH]
  refine⟨_,_,hr,⟨hlen, .inr ⟨g,o0,cap,_,rfl,R2,setRow_heap w g gi _ e _ hg,Ds,Na,?_,?_⟩⟩,⟨rfl,rfl,rfl,by simp,fun k _ hk=>setRow_other w g k _ (fun e=>hk (by simp[YE,e]))⟩,Or.inl rfl⟩
  .simp only[List.size_toArray,Yr,Y2,List.length_drop,Array.length_toList];omega
  .rw[List.toList_toArray,Yy,YV (by simp;omega),List.drop_take,Nat.add_sub_cancel_left,sq,<-Yy,<-hlen];exact List.take_left
 .have holds:∀j u,xs[j]? =some u->w.cell? ((⟨g,o0,none⟩:Addr).add j)=some u:=fun j u hj=>by
   rw[bN,cell_of_row w g _ gi e (0,0) hg];rw[<-sq,Yz]at hj;split at hj
   .rw[Yo]at hj;simpa using hj
   .cases hj
  have hr:=run_append_grow (P:=P) w t ty e i z ht hi hz ⟨g,o0,none⟩ n cap xs dI.1 holds a m c news hl Dq (by omega) (by omega) (growslice_fits (by omega) Dr);have hge:=grownCap_ge w (n+m) cap e;have Nd:grownCap w (n+m) cap e<=maxLen:=grownCap_le_maxLen w (n+m) cap e M9;refine⟨_,_,hr, .of ⟨hlen, .inr ⟨w.heap.size,_,_,rfl,HF,heap_alloc_new w.drew _,hge,Nd,?_,?_⟩⟩,⟨rfl,rfl,rfl,by simp,fun k hk _=>heap_alloc_old w.drew _ hk⟩,Or.inr rfl⟩
  .simp only[Array.size_append,List.size_toArray,size_zeroCells,Kd,dI.1,hl,<-Yt]
   congr 1
   omega
  .simp only[Array.toList_append,Yy];rw[<-Yy,<-hlen];exact List.take_left
theorem Reads.same{r:Row}{v:Value}{l:List r.den}(h:Reads F w r v l):Reads F w r v l:=h
theorem p8{e:TypeId}{ti:TypeInfo}{z:Value}{r:Row}{v u:Value}{l m out:List r.den}(ty:TypeId)(ht:P.underlying t=some (.slice e))(hi:P.info? e=some ti)(hz:ti.zero=some z)(Nf:z.cells.toList=r.dn)(hs:ti.size=r.size)(CK:ti.bytes<=32768)
 (hv:gY base F w e r v l)(hu:Reads F w r u m)(hm:eW l m=some out)(hF:∀b,F b->b<w.heap.size)(hb:base<=w.heap.size):
 ∃v' w',(Zu #[t,t] ty #[v,u]).run P w= .ok v' w'/\Ext (aM v) w w'/\gY base F w' e r v' out/\(aM v'=aM v\/aM v'=(w.heap.size= ·)):=by
 unfold eW at hm;split at hm
 case isFalse=>cases hm
 rename_i hlen;obtain rfl:=X7 hm
 have Kd:z.cells.size=r.size:=by rw[<-(bH.zero F w r).length,<-Nf];simp
 obtain⟨uZ,xs,hx,h3⟩:=hv;have Mt:=hu;obtain⟨A,cap,rfl,Xp,Na,n8⟩:=hu
 have Dt:∀(v':Value)(w':World)(news:List Value),news.length=m.length*r.size->(∀i(hi:i<m.length),bH F w r ((news.drop (i*r.size)).take r.size) m[i])->
  jn w' base e r.size v' (l.length+m.length) (xs++news)->w.grownBy w' v.ownBlock->(v'.ownBlock=v.ownBlock\/v'.ownBlock=some w.heap.size)->
  Ext (aM v) w w'/\gY base F w' e r v' (l++m)/\(aM v'=aM v\/aM v'=(w.heap.size= ·)):=by
  intro v' _ news Mu Mv kS hg oZ
  have hm:aM v'=aM v\/aM v'=(w.heap.size= ·):=by
   rcases oZ with h|h
   .exact .inl (by unfold aM;rw[h])
   .refine .inr ?_;funext b;unfold aM;rw[h];simp
  have bI:=Ext.Dm hg (g:=aM v) fun k hk=>hk
  have gw:=Step.ext bI hF uZ;refine⟨bI,⟨fun k hk=>?_,xs++news,by simpa using kS,fun k hk=>?_⟩,hm⟩
  .rcases hm with h|h
   .rw[h]at hk;exact uZ k hk
   .rw[h]at hk;intro hf;have:=hF k hf;omega
  .have xx:=hx.1
   rcases YN k l.length with aW|hge
   .have hle:(k+1)*r.size<=l.length*r.size:=Ym _ aW;rw[Yt]at hle;rw[List.getElem_append_left aW,YV (by omega),List.take_append_of_le_length (by rw[List.length_drop];omega)];exact(h3 k aW).step gw
   .have FB:k-l.length<m.length:=by simp at hk;omega
    have hmul:k*r.size=l.length*r.size+(k-l.length)*r.size:=by rw[<-Yt];congr 1;omega
    rw[List.getElem_append_right hge,List.drop_append,xx,YZ (by omega),List.nil_append,show k*r.size-l.length*r.size=(k-l.length)*r.size from by omega];exact(Mv _ FB).step gw
 cases A with
 |none=>
  have R4:m=[]:=by
   cases m with
   |nil=>rfl
   |cons a q=>obtain⟨b,off,h,_⟩:=n8 0 (by simp);cases h
  subst R4;refine⟨v,w,nn w base t ty e ti r.size ht hi v _ xs hx _,?_⟩;exact Dt v w [] (by simp) (fun i hi=>absurd hi (by simp)) (by simpa using hx) ⟨rfl,rfl,rfl,Yd _,fun _ _ _=>rfl⟩ (.inl rfl)
 |some ad=>
  have key:∃news:List Value,news.length=m.length*r.size/\(∀j u,news[j]? =some u->w.cell? (ad.add j)=some u)/\∀i(hi:i<m.length),bH F w r ((news.drop (i*r.size)).take r.size) m[i]:=by
   cases m with
   |nil=>exact⟨[],by simp,fun j u h=>by simp at h,fun i hi=>absurd hi (by simp)⟩
   |cons a q=>
    obtain⟨b,off,h,_⟩:=n8 0 (by simp);obtain⟨news,h1,h2,h3⟩:=Mt.news b off h
    obtain rfl:ad=⟨b,off,none⟩:=by simpa using h
    exact⟨news,h1,fun j u hj=>by rw[bN];exact h2 j u hj,h3⟩
  obtain⟨news,Mu,Kc,Mv⟩:=key
  have iw:∀u∈news,u.oneCell'=true:=by
   intro u hu;obtain⟨j,hj,rfl⟩:=List.getElem_of_mem hu;have nl:=r.size_pos;have hi:j/r.size<m.length:=Nat.div_lt_of_lt_mul (by rw[YO,<-Mu];exact hj);have hr:=Mv _ hi;refine hr.fT _ ?_;have hle:(j/r.size)*r.size+j%r.size=j:=Nat.div_add_mod' j r.size;have aW:=Zc j nl;rw[List.mem_iff_getElem?];refine⟨j%r.size,?_⟩;rw[Yz,if_pos aW,Yo,hle,X9 hj]
  obtain⟨v',w',bR,kS,hg,oZ⟩:=tD (P:=P) w base t ty e ti z r.size ti.bytes ht hi hz hs rfl Kd r.size_pos v l.length xs hx ad m.length cap news Mu Kc iw (by simp only[maxLen];omega)
   (Nat.le_trans (Nat.mul_le_mul hlen CK) (by omega)) hb
  exact⟨v',w',bR,Dt v' w' news Mu Mv kS hg oZ⟩
end
end Go.Proofs.YtlfjlhcigpejdaaGreatDoor
end
section
open _root_.Bool renaming false_eq_true->X8,not_true->Yp
open _root_.List.cons renaming injEq->Zd
open _root_.List renaming length_take->Y2,take_length->YU
open _root_.Nat renaming add_zero->Y0,beq->Yb,min_eq_left->YY
open _root_.Option renaming bind_eq_some_iff->Yx
open _root_.Option.some renaming injEq->Ye
open _root_.Prod.mk renaming injEq->YW
open _root_.Go.Result renaming andThen_ok->YG
open _root_.Go.Sem renaming run_bind->Ys
namespace Go.Proofs.YtlfjlhcigpejdaaGreatDoor
open Go Go.RowKit
theorem bind_some{α β:Type}{o:Option α}{f:α->Option β}{r:β}(h:o.bind f=some r):∃x,o=some x/\f x=some r:=Yx.1 h
section
variable {P:Program} {n:Nat} {ρ:Nat->Value} {w:World} {K:(Nat->Value)->World->Prop} {Q:Exit->(Nat->Value)->World->Prop}
theorem Du{id:Nat}(h:Q .normal ρ w):JQ id Q (.exit id) ρ w:=by
 show(bif Yb id id then _ else _)
 rw[show Yb id id=true from Nat.beq_refl id];exact h
theorem AS{id AB:Nat}(bu:Yb AB id=false)(h:Q (.exit AB) ρ w):JQ id Q (.exit AB) ρ w:=by
 show(bif Yb AB id then _ else _)
 rw[bu];exact h
theorem gY.fz{base:Nat}{F G:Nat->Prop}{w:World}{T:TypeId}{r:Row}{v:Value}{l:List r.den}(h:gY base F w T r v l)(hg:∀k,G k->¬aM v k):gY base (fun b=>F b\/G b) w T r v l:=
 h.aO (Step.freeze F w G) fun k hk=>⟨fun e=>e.elim (h.no k hk) fun e=>hg k e hk,rfl⟩
theorem jG.fz{base:Nat}{F G:Nat->Prop}{w:World}{b:Nat}{T:TypeId}{r:Row}{x:r.den}(h:jG base F w b T r x)(hg:∀k,G k->¬is b k):jG base (fun b=>F b\/G b) w b T r x:=by
 obtain⟨h1,h2,es,hh,hr⟩:=h;exact⟨h1,fun e=>e.elim h2 fun e=>hg b e rfl,es,hh,hr.step (Step.freeze F w G)⟩
theorem St.fz{w0 w:World}{F0 F:Nat->Prop}(h:St w0 F0 w F){T:TypeId}{r:Row}{v:Value}{l:List r.den}(ho:gY w0.heap.size F w T r v l):St w0 F0 w (fun b=>F b\/aM v b):=
 h.freeze (aM v) fun b hb=>⟨ho.ge b hb,ho.lt b hb⟩
end
def TI(P:Program)(e:TypeId)(r:Row):Prop:=∃ti z,P.info? e=some ti/\ti.zero=some z/\z.cells.toList=r.dn/\ti.size=r.size/\ti.bytes<=32768
theorem TI.mk{P:Program}{e:TypeId}{r:Row}{k:Nat}(h:(P.info? e).map (fun i=>(i.zero.map (fun z=>z.cells.toList),i.size,decide (i.bytes<=32768)))=some (some r.dn,k,true))(hk:k=r.size):TI P e r:=by
 cases hi:P.info? e with
 |none=>simp[hi]at h
 |some ti=>
  simp only[hi,Option.map_some,Ye,YW,decide_eq_true_eq]at h;obtain⟨h1,h2,h3⟩:=h
  cases hz:ti.zero with
  |none=>simp[hz]at h1
  |some z=>
   simp only[hz,Option.map_some,Ye]at h1;exact⟨ti,z,hi,hz,h1,h2.trans hk,h3⟩
section
variable {P:Program} {n:Nat} {ops:Array Oper} {K:(Nat->Value)->World->Prop} {rest:List Oper} {ρ:Nat->Value} {w:World} {F:Nat->Prop} {base:Nat}
variable {d:Nat} {dd:Option Nat} {ty:TypeId} {pos:String} {aft:Array Edge} {x y c:Operand} {t e:TypeId} {r:Row}
theorem jo{f:Nat}{fs:Array Field}{fd:Field}{zl off:Nat}(k:Nat)(hs:P.underlying t=some (.struct fs))(hf:fs[f]? =some fd)(hi:TI P fd.type r)(hk:fd.offset=k)
 (hx:ev ρ x= .pointer (some ⟨zl,off,none⟩)):Pure P ρ ⟨dd, .fieldAddr t x f,ty,pos,aft,none⟩ (.pointer (some ⟨zl,off+k,none⟩)):=by
 obtain⟨ti,z,h1,_,_,h4,_⟩:=hi;exact p7 k hs hf h1 (by rw[h4];have:=r.size_pos;omega) hk hx
end
end Go.Proofs.YtlfjlhcigpejdaaGreatDoor
namespace Go.Proofs.YtlfjlhcigpejdaaGreatDoor
open Go Go.RowKit
noncomputable def tE(r:Row)(x y:r.den):Bool:= @decide (x=y) (Row.decEq r x y)
def Dv(P:Program)(t:TypeId)(cs:List Value)(v:Value):Prop:=∃D,P.underlying t=some D/\(if iY D=true then v= .agg cs.toArray else cs=[v])
def p9(P:Program)(t:TypeId)(r:Row)(K:Nat):Prop:=
 ∀(d:Nat)(w2 w:World)(F:Nat->Prop)(cs oa:List Value)(x y:r.den)(v v':Value),Dv P t cs v->Dv P t oa v'->bH F w r cs x->bH F w r oa y->
  (Op.equalIn (d+K) t v v').run P w2= .ok (decide (x=y)) w2
def FZ(P:Program)(fs:List Field)(r:Row)(off K:Nat):Prop:=
 ∀(d:Nat)(w2 w:World)(F:Nat->Prop)(xs ys:List Value)(x y:r.den),bH F w r ((xs.drop off).take r.size) x->bH F w r ((ys.drop off).take r.size) y->
  (Op.eqFields (d+K) xs.toArray ys.toArray fs).run P w2= .ok (decide (x=y)) w2
section
variable {P:Program} {t:TypeId} {r:Row} {k:IntKind} {K:Nat}
theorem F5(ht:P.underlying t=some (.int k)):p9 P t (.int k) 1:=by
 intro d w2 w F cs oa x y v v' ⟨D,hD,h1⟩ ⟨D',F6,h2⟩ hx hy;rw[ht]at hD F6;cases hD;cases F6;obtain rfl:cs=_:=hx;obtain rfl:oa=_:=hy;simp only[iY,X8,if_false,Zd,and_true]at h1 h2;subst h1;subst h2;rw[run_equalIn_int (h:=ht),lP]
theorem np{D:TypeDesc}{ti:TypeInfo}{cs:List Value}{off:Nat}{F:Nat->Prop}{w:World}{x:r.den}(hD:P.underlying t=some D)(hi:P.info? t=some ti)(hs:ti.size=r.size)(iw:iY D=false->r.size=1)
 (hr:bH F w r ((cs.drop off).take r.size) x)(w2:World):∃v,(part t cs.toArray off).run P w2= .ok v w2/\Dv P t ((cs.drop off).take r.size) v:=by
 have hl:=hr.length;have nl:=r.size_pos
 cases hA:iY D with
 |true=>
  refine⟨.agg ((cs.drop off).take r.size).toArray,?_,D,hD,by rw[if_pos hA]⟩;unfold part;rw[Ys,dE hD,hA];simp[sizeOf,typeInfo,hi,hs]
 |false=>
  have h1:=iw hA;rw[h1]at hl⊢
  have aW:off<cs.length:=by
   rw[Y2,List.length_drop]at hl;omega
  refine⟨cs[off],?_,D,hD,?_⟩
  .unfold part;rw[Ys,dE hD,hA];simp[aW]
  .rw[if_neg (by simp[hA])];rw[List.drop_eq_getElem_cons aW];rfl
theorem u5{f:Field}{off:Nat}(hn:(f.name != "_")=true)(ho:f.offset=off){D:TypeDesc}(hD:P.underlying f.type=some D)(iw:iY D=false->r.size=1)(hi:TI P f.type r)(he:p9 P f.type r K):FZ P [f] r off K:=by
 intro d w2 w F xs ys x y hx hy;subst ho;obtain⟨ti,z,h1,_,_,h4,_⟩:=hi;obtain⟨v,hv,u6⟩:=np hD h1 h4 iw hx w2;obtain⟨v',cy,AT⟩:=np hD h1 h4 iw hy w2;have:=he d w2 w F _ _ x y v v' u6 AT hx hy
 have F7:f.name≠ "_" :=by simpa using hn
 unfold Op.eqFields;rw[if_pos F7,Ys,hv,YG,Ys,cy,YG,Ys,this,YG]
 by_cases FC:x=y<;>simp[FC,Op.eqFields]
theorem u7{f:Field}{fs:List Field}{a b:Row}{off:Nat}(hn:(f.name != "_")=true)(ho:f.offset=off){D:TypeDesc}(hD:P.underlying f.type=some D)(iw:iY D=false->a.size=1)(hi:TI P f.type a)(he:p9 P f.type a K)
 (hr:FZ P fs b (off+a.size) K):FZ P (f::fs) (.pair a b) off K:=by
 intro d w2 w F xs ys x y hx hy;subst ho;obtain⟨ti,z,h1,_,_,h4,_⟩:=hi
 have hle:a.size<=(Row.pair a b).size:=by simp
 have fO:∀(zs:List Value)(u:(Row.pair a b).den),bH F w (.pair a b) ((zs.drop f.offset).take (Row.pair a b).size) u->bH F w a ((zs.drop f.offset).take a.size) u.1:=by
  intro zs u hu;have:=bH.path (.fst (.here (r:=a)):Path (.pair a b) a) hu;simp only[Path.off,List.drop_zero]at this;rw[List.take_take,YY hle]at this;exact this
 have Ke:∀(zs:List Value)(u:(Row.pair a b).den),bH F w (.pair a b) ((zs.drop f.offset).take (Row.pair a b).size) u->bH F w b ((zs.drop (f.offset+a.size)).take b.size) u.2:=by
  intro zs u hu;have:=bH.path (.snd (.here (r:=b)):Path (.pair a b) b) hu;simp only[Path.off,Y0]at this;rw[List.drop_take,List.drop_drop]at this;rw[show(Row.pair a b).size-a.size=b.size from by simp]at this;rw[List.take_take,Nat.min_self]at this;exact this
 obtain⟨v,hv,u6⟩:=np hD h1 h4 iw (fO xs x hx) w2;obtain⟨v',cy,AT⟩:=np hD h1 h4 iw (fO ys y hy) w2;have h5:=he d w2 w F _ _ _ _ v v' u6 AT (fO xs x hx) (fO ys y hy);have h6:=hr d w2 w F xs ys _ _ (Ke xs x hx) (Ke ys y hy)
 have F7:f.name≠ "_" :=by simpa using hn
 unfold Op.eqFields;rw[if_pos F7,Ys,hv,YG,Ys,cy,YG,Ys,h5,YG];obtain⟨x1,x2⟩:=x;obtain⟨y1,y2⟩:=y;by_cases FC:x1=y1
 .simp only[FC,decide_true,Yp,X8,if_false,h6]
  congr 1
  simp[Prod.ext_iff]
 .simp[FC,Prod.ext_iff]
theorem qa{fs:Array Field}(ht:P.underlying t=some (.struct fs))(hp:P.stoodInHeld t=false)(h:FZ P fs.toList r 0 K):p9 P t r (K+1):=by
 intro d w2 w F cs oa x y v v' ⟨D,hD,h1⟩ ⟨D',F6,h2⟩ hx hy;rw[ht]at hD F6;cases hD;cases F6;simp only[iY,if_true]at h1 h2;subst h1;subst h2
 have hf:P.fieldsOf t=fs:=by simp[Program.fieldsOf,ht]
 have Kf:=hx.length;have Mw:=hy.length;rw[<-Nat.add_assoc,run_equalIn_struct _ _ _ _ _ (by rw[hf];exact ht) hp,hf];exact h d w2 w F cs oa x y (by rw[List.drop_zero,<-Kf,YU];exact hx) (by rw[List.drop_zero,<-Mw,YU];exact hy)
variable {ρ:Nat->Value} {dd:Option Nat} {ty:TypeId} {pos:String} {aft:Array Edge} {x y:Operand} {u:TypeId}
theorem AU{d:Nat}{F:Nat->Prop}{w:World}{es jq:List Value}{a b:r.den}(hE:p9 P t r K)(hd:d+K=10000)(hg:P.eqGuardType P.depth t=false)(hD:(P.underlying t).any iY=true)
 (hx:ev ρ x= .agg es.toArray)(hy:ev ρ y= .agg jq.toArray)(ha:bH F w r es a)(hb:bH F w r jq b):
 Pure P ρ ⟨dd, .binOp .eql t x y u,ty,pos,aft,none⟩ (.bool (tE r a b)):=fun w2=>by
 cases hu:P.underlying t with
 |none=>simp[hu]at hD
 |some D=>
  have hA:iY D=true:=by simpa[hu]using hD
  have:=hE d w2 w F es jq a b _ _ ⟨D,hu,by rw[if_pos hA]⟩ ⟨D,hu,by rw[if_pos hA]⟩ ha hb;rw[hd]at this;simp only[execOp,hx,hy,Ys,run_eqGuard_agg _ _ _ _ _ _ _ hg,YG,run_eql_struct,this];rfl
theorem AV{d:Nat}{F:Nat->Prop}{w:World}{es jq:List Value}{a b:r.den}(hE:p9 P t r K)(hd:d+K=10000)(hg:P.eqGuardType P.depth t=false)(hD:(P.underlying t).any iY=true)
 (hx:ev ρ x= .agg es.toArray)(hy:ev ρ y= .agg jq.toArray)(ha:bH F w r es a)(hb:bH F w r jq b):
 Pure P ρ ⟨dd, .binOp .neq t x y u,ty,pos,aft,none⟩ (.bool (!tE r a b)):=fun w2=>by
 cases hu:P.underlying t with
 |none=>simp[hu]at hD
 |some D=>
  have hA:iY D=true:=by simpa[hu]using hD
  have:=hE d w2 w F es jq a b _ _ ⟨D,hu,by rw[if_pos hA]⟩ ⟨D,hu,by rw[if_pos hA]⟩ ha hb;rw[hd]at this;simp only[execOp,hx,hy,Ys,run_eqGuard_agg _ _ _ _ _ _ _ hg,YG,run_neq_struct,this];rfl
end
section
variable {P:Program} {n:Nat} {ops:Array Oper} {K:(Nat->Value)->Prop} {rest:List Oper} {ρ:Nat->Value} {w:World} {F:Nat->Prop}
variable {d:Nat} {ty:TypeId} {pos:String} {aft:Array Edge} {x y:Operand} {t e:TypeId} {r:Row}
theorem At.st{w':World}{b off:Nat}{a:r.den}(h:At F w r b off a)(hF:∀b,F b->b<w.heap.size)(hs:St w F w' F):At F w' r b off a:=by
 obtain⟨es,hl,hc,hr⟩:=h;refine⟨es,hl,fun j u hu=>?_,hr.step (hs.step hF)⟩;have:=hc j u hu;have aW:b<w.heap.size:=block_lt_of_cell this;exact(World.cell?_of_block (hs.below.block b aW)).trans this
end
end Go.Proofs.YtlfjlhcigpejdaaGreatDoor
end
section
open _root_.Go.Addr.mk renaming injEq->Zr
open _root_.Array renaming toArray_toList->YH
open _root_.Go.Instr renaming fill->Zy
open _root_.List renaming append_assoc->Yy,drop_append_of_le_length->YV,drop_of_length_le->YZ,getElem?_append->ZC,getElem?_drop->Yo,getElem?_take->Yz,length_append->Yr,length_take->Y2,take_append_drop->Zn
open _root_.Nat renaming add_mul->Yt,min_eq_left->YY,mul_le_mul_right->Ym
open _root_.Option.some renaming injEq->Ye
open _root_.Go.Value renaming ownBlock->YE
open _root_.Go.Value.slice renaming injEq->Zh
namespace Go.Proofs.YtlfjlhcigpejdaaGreatDoor
open Go Go.RowKit
section
variable {P:Program} {n:Nat} {ops:Array Oper} {K:(Nat->Value)->World->Prop} {rest:List Oper} {ρ:Nat->Value} {w:World} {F:Nat->Prop} {base:Nat}
variable {d:Nat} {ty:TypeId} {pos:String} {aft:Array Edge} {x y:Operand} {t e:TypeId} {r s:Row}
def aQ{α:Type}(l:List α)(i:Int)(y:α):List α:=l.set i.toNat y
theorem gY.put{g o0 m0 Iv q:Nat}{v:Value}{l:List r.den}(h:gY base F w e r v l)(hg:v= .slice (some ⟨g,o0,none⟩) m0 Iv)(hq:q<l.length)(hF:∀b,F b->b<w.heap.size)(p:Path r s){vs:List Value}{u:s.den}(hv:bH F w s vs u):
 ∃gi,w.heap[g]? =some (.cells gi e (0,0))/\o0+q*r.size+p.off+vs.length<=gi.size/\
  Ext (aM v) w (w.setRow g (gi.toList.take (o0+q*r.size+p.off)++vs++gi.toList.drop (o0+q*r.size+p.off+vs.length)).toArray)/\
  gY base F (w.setRow g (gi.toList.take (o0+q*r.size+p.off)++vs++gi.toList.drop (o0+q*r.size+p.off+vs.length)).toArray) e r v (l.set q (p.set l[q] u)):=by
 obtain⟨uZ,xs,⟨xx,hx⟩,h3⟩:=h
 rcases hx with⟨rfl,_⟩|⟨g',o1,cap,gi,rfl,hb,hh,h1,h2,py,sq⟩
 .simp at hg
 .simp only[Zh,Ye,Zr,and_true]at hg;obtain⟨⟨rfl,rfl⟩,rfl,rfl⟩:=hg;have hle:=p.le;have hl:=hv.length;have hmul:(q+1)*r.size<=l.length*r.size:=Ym _ hq;rw[Yt]at hmul;have Nc:l.length*r.size<=cap*r.size:=Ym _ h1
  have bI:Ext (aM (.slice (some ⟨g',o1,none⟩) l.length cap)) w (w.setRow g' (gi.toList.take (o1+q*r.size+p.off)++vs++gi.toList.drop (o1+q*r.size+p.off+vs.length)).toArray):=
   ⟨rfl,rfl,rfl,by simp,fun k _ hk=>setRow_other w g' k _ fun e=>hk (by simp[aM,YE,e])⟩
  have gw:=Step.ext bI hF uZ;refine⟨gi,hh,by omega,bI,uZ,xs.take (q*r.size+p.off)++vs++xs.drop (q*r.size+p.off+vs.length),⟨by simp;omega, .inr ⟨g',o1,cap,_,by simp,hb,setRow_heap w g' _ _ e (0,0) hh,by simpa using h1,h2,by simp;omega,?_⟩⟩,?_⟩
  .rw[List.length_set,List.toList_toArray,<-sq]
   have e0:(gi.toList.take (o1+q*r.size+p.off)++vs++gi.toList.drop (o1+q*r.size+p.off+vs.length)).drop o1=(gi.toList.drop o1).take (q*r.size+p.off)++vs++(gi.toList.drop o1).drop (q*r.size+p.off+vs.length):=by
    rw[Yy,YV (by simp;omega),List.drop_take,List.drop_drop,show o1+q*r.size+p.off-o1=q*r.size+p.off by omega,Yy,show o1+q*r.size+p.off+vs.length=o1+(q*r.size+p.off+vs.length) by omega]
   rw[e0]
   have pL:cap*r.size<=(gi.toList.drop o1).length:=by simp;omega
   generalize gi.toList.drop o1=c2 at*
   have e1:(c2.take (l.length*r.size)).take (q*r.size+p.off)=c2.take (q*r.size+p.off):=by rw[List.take_take,YY (by omega)]
   rw[e1,List.take_append,List.take_of_length_le (by simp;omega),List.drop_take]
   congr 1
   simp
   congr 1
   omega
  .intro i dA
   have hi:i<l.length:=by simpa using dA
   have Kg:(i+1)*r.size<=l.length*r.size:=Ym _ hi;rw[Yt]at Kg
   have A:∀j,j<r.size->((xs.take (q*r.size+p.off)++vs++xs.drop (q*r.size+p.off+vs.length)))[i*r.size+j]? =
    if i*r.size+j<q*r.size+p.off then xs[i*r.size+j]? else if i*r.size+j<q*r.size+p.off+vs.length then vs[i*r.size+j-(q*r.size+p.off)]? else xs[i*r.size+j]? :=by
    intro j hj;rw[Yy,ZC];simp only[Y2,xx,YY (show q*r.size+p.off<=l.length*r.size from by omega)];split
    .rw[Yz,if_pos (by assumption)]
    .rw[ZC];split
     .rename_i h1 h2;rw[if_pos (by omega)]
     .rename_i h1 h2;rw[if_neg (by omega),Yo]
      congr 1
      omega
   by_cases Ng:i=q
   .subst Ng;rw[List.getElem_set_self];have hp:=(h3 i hi).put p hv
    have:((xs.take (i*r.size+p.off)++vs++xs.drop (i*r.size+p.off+vs.length)).drop (i*r.size)).take r.size=
     ((xs.drop (i*r.size)).take r.size).take p.off++vs++((xs.drop (i*r.size)).take r.size).drop (p.off+s.size):=by
     have Kh:((xs.drop (i*r.size)).take r.size).length=r.size:=by rw[Y2,List.length_drop,xx];omega
     have Nh:∀j,j<r.size->((xs.drop (i*r.size)).take r.size)[j]? =xs[i*r.size+j]? :=fun j hj=>by rw[Yz,if_pos hj,Yo]
     generalize(xs.drop (i*r.size)).take r.size=QP at Kh Nh
     apply List.ext_getElem?
     intro j;rw[ZC (l₁:=QP.take p.off++vs),ZC (l₁:=QP.take p.off),Yr,Y2,Kh,YY (show p.off<=r.size from by omega),Yz (l:=List.drop _ _)];by_cases hj:j<r.size
     .rw[if_pos hj,Yo,A j hj];by_cases Ni:j<p.off
      .rw[if_pos (by omega),if_pos (by omega),if_pos Ni,Yz,if_pos Ni,Nh j hj]
      .rw[if_neg (by omega)];by_cases CJ:j<p.off+vs.length
       .rw[if_pos (by omega),if_pos CJ,if_neg Ni]
        congr 1
        omega
       .rw[if_neg (by omega),if_neg CJ,Yo,<-Nh j hj]
        congr 1
        omega
     .rw[if_neg hj,if_neg (by omega),Yo,List.getElem?_eq_none (by omega)]
    rw[this];exact hp.step gw
   .rw[List.getElem_set_ne (fun e=>Ng e.symm)]
    have:((xs.take (q*r.size+p.off)++vs++xs.drop (q*r.size+p.off+vs.length)).drop (i*r.size)).take r.size=(xs.drop (i*r.size)).take r.size:=by
     apply List.ext_getElem?
     intro j;rw[Yz,Yz];by_cases hj:j<r.size
     .rw[if_pos hj,if_pos hj,Yo,A j hj,Yo]
      rcases Nat.lt_or_gt_of_ne Ng with aW|hgt
      .have:(i+1)*r.size<=q*r.size:=Ym _ aW;rw[Yt]at this;rw[if_pos (by omega)]
      .have:(q+1)*r.size<=i*r.size:=Ym _ hgt;rw[Yt]at this;rw[if_neg (by omega),if_neg (by omega)]
     .rw[if_neg hj,if_neg hj]
    rw[this];exact(h3 i hi).step gw
theorem gY.at{g o0 m0 Iv q:Nat}{i:Int}{v:Value}{l:List r.den}{a:r.den}(h:gY base F w e r v l)(hg:v= .slice (some ⟨g,o0,none⟩) m0 Iv)(hq:i=(q:Nat))(kw:idx l i=some a):At F w r g (o0+q*r.size) a:=by
 obtain⟨b,off,cap,k,hv,hk,aW,oZ⟩:=h.reads.elem kw
 obtain rfl:k=q:=by omega
 rw[hg]at hv;simp only[Zh,Ye,Zr,and_true]at hv;obtain⟨⟨rfl,rfl⟩,_⟩:=hv;exact oZ
theorem Dw(cs:List Value):∀(k:Nat)(pre post:List Value),post.length=cs.length->∀(tail:List Value),
 (cs.zipIdx k).foldl (fun(acc:Array Value)(cj:Value×Nat)=>acc.setIfInBounds (pre.length-k+cj.2) cj.1) (pre++post++tail).toArray=(pre++cs++tail).toArray\/pre.length<k:=by
 induction cs with
 |nil=>intro k pre post hp tail;left;simp at hp;simp[hp]
 |cons c q ih=>
  intro k pre post hp tail;by_cases hk:pre.length<k
  .exact .inr hk
  cases post with
  |nil=>simp at hp
  |cons p0 post=>
   simp only[List.zipIdx_cons,List.foldl_cons]
   rcases ih (k+1) (pre++[c]) post (by simpa using hp) tail with h|h
   .left
    have e1:((pre++p0::post++tail).toArray.setIfInBounds (pre.length-k+k) c)=((pre++[c])++post++tail).toArray:=by
     rw[Nat.sub_add_cancel (by omega)];simp
    rw[e1]
    have e2:(pre++[c]).length-(k+1)=pre.length-k:=by simp
    rw[e2]at h;rw[h];simp
   .simp at h;omega
theorem oc{place:Nat->Option (Nat×Nat)}{i off size:Nat}{v:Value}{vs cells:List Value}{rest:List (Nat×Value)}(hp:place i=some (off,size))(hv:v.cells.toList=vs)(hs:vs.length=size)(hle:off+size<=cells.length):
 Zy place cells.toArray ((i,v)::rest)=Zy place (cells.take off++vs++cells.drop (off+size)).toArray rest:=by
 have R5:v.cells=vs.toArray:=by rw[<-hv,YH]
 have hf:=Dw vs 0 (cells.take off) ((cells.drop off).take size) (by simp;omega) (cells.drop (off+size))
 have Nj:cells.take off++(cells.drop off).take size++cells.drop (off+size)=cells:=by
  rw[Yy,<-List.drop_drop,Zn,Zn]
 have hlen:(cells.take off).length=off:=by simp;omega
 rw[Nj,hlen,Nat.sub_zero]at hf
 rcases hf with hf|hf
 case inr=>omega
 rw[Zy];simp only[hp,R5,List.size_toArray];rw[if_neg (by simp;omega)]
 congr 1
 rw[<-Array.foldl_toList,Array.toList_zipIdx];exact hf
inductive qb(F:Nat->Prop)(w:World)(r:Row):List Value->List r.den->Prop where
 |nil:qb F w r [] []
 |cons {v:Value} {vs:List Value} {cs:List Value} {a:r.den} {l:List r.den} (hc:v.cells.toList=cs) (hr:bH F w r cs a) (h:qb F w r vs l):qb F w r (v::vs) (a::l)
theorem qb.length{vs:List Value}{l:List r.den}(h:qb F w r vs l):vs.length=l.length:=by
 induction h with
 |nil=>rfl
 |cons _ _ _ ih=>simp[ih]
theorem qb.fill{vs:List Value}{l:List r.den}(h:qb F w r vs l):∀(k:Nat)(pre post:List Value),pre.length=k*r.size->post.length=vs.length*r.size->
 ∃xs,Zy (fun i=>some (i*r.size,r.size)) (pre++post).toArray ((vs.zipIdx k).map fun p=>(p.2,p.1))=some (pre++xs).toArray/\xs.length=l.length*r.size/\∀i(hi:i<l.length),bH F w r ((xs.drop (i*r.size)).take r.size) l[i]:=by
 induction h with
 |nil=>
  intro k pre post hp hq;have:post=[]:=List.eq_nil_of_length_eq_zero (by simpa using hq);subst this;exact⟨[],by simp[Zy],by simp,fun i hi=>absurd hi (by simp)⟩
 | @cons v vs cs a l hc hr h ih=>
   intro k pre post hp hq;have hl:=hr.length;rw[List.length_cons,Yt,Nat.one_mul]at hq;obtain⟨xs,h1,h2,h3⟩:=ih (k+1) (pre++cs) (post.drop r.size) (by rw[Yr,hp,hl,Yt,Nat.one_mul]) (by rw[List.length_drop,hq];omega);refine⟨cs++xs,?_,by rw[Yr,hl,h2,List.length_cons,Yt,Nat.one_mul,Nat.add_comm],fun i hi=>?_⟩
   .simp only[List.zipIdx_cons,List.map_cons];rw[oc (place:=fun i=>some (i*r.size,r.size)) rfl hc hl (by rw[Yr,hp,hq];omega)];rw[<-hp,List.take_left',List.drop_append,YZ (by omega),List.nil_append,show pre.length+r.size-pre.length=r.size from by omega]
    .rw[h1];simp[Yy]
    .rfl
   .cases i with
    |zero=>
     simp only[Nat.zero_mul,List.drop_zero,List.getElem_cons_zero];rw[<-hl,List.take_left']
     .exact hr
     .rfl
    |succ i=>
     rw[Yt,Nat.one_mul,Nat.add_comm,<-List.drop_drop,<-hl,List.drop_left',hl]
     .simpa using h3 i (by simpa using hi)
     .rfl
def Ki(place:Nat->Option (Nat×Nat))(F:Nat->Prop)(w:World)(r:Row)(parts:List (Nat×Value))(x x':r.den):Prop:=
 ∀es,bH F w r es x->∃jq,Zy place es.toArray parts=some jq.toArray/\bH F w r jq x'
theorem Ki.nil{place:Nat->Option (Nat×Nat)}{x:r.den}:Ki place F w r [] x x:=fun es h=>⟨es,by simp[Zy],h⟩
theorem Ki.cons{place:Nat->Option (Nat×Nat)}{i off size:Nat}{v:Value}{vs:List Value}{parts:List (Nat×Value)}{x x':r.den}{u:s.den}(p:Path r s)(hp:place i=some (off,size))(ho:p.off=off)(hz:s.size=size)(hv:v.cells.toList=vs)(hr:bH F w s vs u)
 (h:Ki place F w r parts (p.set x u) x'):Ki place F w r ((i,v)::parts) x x':=fun es he=>by
 subst ho;subst hz;have hle:=p.le;have hl:=hr.length;rw[oc hp hv hl (by rw[he.length];omega)];exact h _ (he.put p hr)
end
end Go.Proofs.YtlfjlhcigpejdaaGreatDoor
end
section
open _root_.Bool renaming and_eq_true->Y5
open _root_.List renaming getElem?_eq_getElem->X9,getElem?_eq_some_iff->Yc,take_length->YU,take_succ_eq_append_getElem->YQ
open _root_.Nat renaming blt->YM,le_refl->Yd,lt_or_ge->YN
namespace Go.Proofs.YtlfjlhcigpejdaaGreatDoor
open Go Go.RowKit Go.ChangeShapes Go.WideShapes Go.ChangeAt Go.Deep
def WF:(r:Row)->r.den->Prop
 | .int k,n=>k.min<=n/\n<=k.max
 | .bool,_=>True
 | .str,s=>s.size<=maxLen
 | .slice e,l=>l.length<=maxLen/\∀x∈l,WF e x
 | .gU,_=>True
 | .nul _,_=>True
 | .map ..,_=>True
 | .pair a b,x=>WF a x.1/\WF b x.2
def pz:(r:Row)->r.den->Nat
 | .int _,_=>1
 | .bool,_=>1
 | .str,s=>s.size+1
 | .slice e,l=>(l.map (pz e)).sum+1
 | .gU,_=>1
 | .nul _,_=>1
 | .map ..,_=>1
 | .pair a b,x=>pz a x.1+pz b x.2
theorem kT{H:Type}:(l:List (DataW H))->Rows.uptoBulkAll l=(l.map Rows.uptoBulk).sum
 |[]=>by simp[Rows.uptoBulkAll]
 |a::l=>by simp[Rows.uptoBulkAll,kT l]
def here(w:World)(b:Nat):Prop:=b<w.heap.size
def mC(P:Program)(t:TypeId)(r:Row):Prop:=
 ∀(H:Type)(enc:TypeId×Value->H)(w:World)(spare:Nat->Bool)(held:Bool)(fuel:Nat)(cs:List Value)(x:DataW H×List MemPlace),DataW.trod enc P w 0 spare held fuel t cs=some x->
  ∃y:r.den,bH (here w) w r cs y/\WF r y/\pz r y<=Rows.uptoBulk x.1
def pM(P:Program)(fs:List Field)(r:Row)(off:Nat):Prop:=
 ∀(H:Type)(enc:TypeId×Value->H)(w:World)(spare:Nat->Bool)(held:Bool)(n:Nat)(cs:List Value)(xs:List (DataW H×List MemPlace)),xs.length=fs.length->
  (∀(i:Nat)(f:Field),fs[i]? =some f->DataW.trod enc P w 0 spare held n f.type ((cs.drop f.offset).take (P.cellsOf f.type))=xs[i]?)->off+r.size<=cs.length->
  ∃y:r.den,bH (here w) w r ((cs.drop off).take r.size) y/\WF r y/\pz r y<=Rows.uptoBulkAll (xs.map (·.1))
section
variable {P:Program} {t e:TypeId} {r a b:Row} {k:IntKind}
theorem AW(ht:P.underlying t=some (.int k)):mC P t (.int k):=by
 intro H enc w spare held fuel cs x h;obtain⟨n,rfl,rfl,hn⟩:=DataW.trod_int ht h;exact⟨n,rfl,by simpa[Lit.wf,WF]using hn,by simp[pz,Rows.uptoBulk]⟩
theorem ld{α:Type}{p:Nat->α->Prop}:(n:Nat)->(∀i,i<n->∃x,p i x)->∃l:List α,l.length=n/\∀i(h:i<l.length),p i l[i]
 |0,_=>⟨[],rfl,fun i h=>absurd h (by simp)⟩
 |n+1,h=>by
  obtain⟨l,hl,hp⟩:=ld n fun i hi=>h i (by omega)
  obtain⟨x,hx⟩:=h n (by omega);refine⟨l++[x],by simp[hl],fun i hi=>?_⟩
  rcases YN i l.length with aW|hge
  .rw[List.getElem_append_left aW];exact hp i aW
  .obtain rfl:i=n:=by simp at hi;omega
   rw[List.getElem_append_right hge];simpa[hl]using hx
theorem u9(ht:P.underlying t=some (.slice e))(hs:P.cellsOf e=r.size)(he:mC P e r):mC P t (.slice r):=by
 intro H enc w spare held fuel cs x h
 rcases open_slice ht h with⟨rfl,rfl⟩|⟨ad,len,cap,m,n,D,Pl,rfl,_,hl,hm,Kj,rfl,hi⟩
 .exact⟨[],bH.nil _ _ _,⟨by simp[maxLen],fun x hx=>absurd hx (by simp)⟩,by simp[pz,Rows.uptoBulk]⟩
 .have Xq:len<=m:=by rw[Kj];split<;>omega
  have key:∀i,i<len->∃y:r.den,∃oa,(oa.length=r.size/\(∀j,j<r.size->w.cell? ((ad.add (i*r.size)).add j)=oa[j]?))/\bH (here w) w r oa y/\WF r y/\pz r y<=Rows.uptoBulk (D i):=by
   intro i dA;obtain⟨oa,hc,R6⟩:=hi i (by omega);rw[hs]at hc;obtain⟨_,va,pL⟩:=World.cells?_some hc;obtain⟨y,h1,h2,h3⟩:=he H enc w spare held n oa _ R6;exact⟨y,oa,⟨va,pL⟩,h1,h2,h3⟩
  obtain⟨l,n6,hp⟩:=ld len key;subst n6;have nl:=r.size_pos;refine⟨l,⟨some ad,cap,rfl,hl,hm,fun i hi=>?_⟩,⟨by omega,fun x hx=>?_⟩,?_⟩
  .obtain⟨oa,⟨va,pL⟩,hr,_,_⟩:=hp i hi;obtain⟨Mx,⟨pN,qc⟩,_⟩:=hp 0 (by omega);have h0:=qc 0 nl;rw[X9 (by omega)]at h0;simp only[Nat.zero_mul,Addr.add,if_true]at h0
   have rL:ad.spot=none:=by
    cases rL:ad.spot with
    |none=>rfl
    |some q=>
     unfold World.cell? at h0;split at h0
     .simp[rL]at h0
     .cases h0
   obtain⟨bb,off,sp⟩:=ad;simp only at rL;subst rL;refine⟨bb,off,oa,rfl,block_lt_of_cell h0,va,fun j u hu=>?_,hr⟩;have hj:j<oa.length:=(Yc.1 hu).1;have:=pL j (by omega);rw[bN,bN]at this;rw[this,hu]
  .obtain⟨i,hi,rfl⟩:=List.getElem_of_mem hx;obtain⟨_,_,_,h2,_⟩:=hp i hi;exact h2
  .simp only[pz,Rows.uptoBulk,kT]
   have:∀(n:Nat),n<=l.length->((l.take n).map (pz r)).sum<=(((List.range n).map D).map Rows.uptoBulk).sum:=by
    intro n hn
    induction n with
    |zero=>simp
    |succ n ih=>
     have h1:=ih (by omega);obtain⟨_,_,_,_,h3⟩:=hp n (by omega);rw[YQ (by omega),List.range_succ];simp only[List.map_append,List.sum_append,List.map_cons,List.map_nil,List.sum_cons,List.sum_nil];omega
   have h1:=this l.length (Yd _);rw[YU]at h1;omega
theorem vb{f:Field}{off:Nat}(ho:f.offset=off)(hc:P.cellsOf f.type=r.size)(he:mC P f.type r):pM P [f] r off:=by
 intro H enc w spare held n cs xs hl hx _;subst ho
 match xs,hl with
 |[x],_=>
  have h:=hx 0 f rfl;rw[hc]at h;obtain⟨y,h1,h2,h3⟩:=he H enc w spare held n _ x h;exact⟨y,h1,h2,by simpa[Rows.uptoBulkAll]using h3⟩
theorem vc{f:Field}{fs:List Field}{off:Nat}(ho:f.offset=off)(hc:P.cellsOf f.type=a.size)(he:mC P f.type a)(hr:pM P fs b (off+a.size)):pM P (f::fs) (.pair a b) off:=by
 intro H enc w spare held n cs xs hl hx hle;subst ho
 match xs,hl with
 |x::xs,hl=>
  have h:=hx 0 f rfl;rw[hc]at h;obtain⟨y,h1,h2,h3⟩:=he H enc w spare held n _ x h;simp only[Row.size]at hle;obtain⟨z,g1,g2,g3⟩:=hr H enc w spare held n cs xs (by simpa using hl) (fun i f' hf=>by simpa using hx (i+1) f' (by simpa using hf)) (by omega);refine⟨(y,z),⟨_,_,?_,h1,g1⟩,⟨h2,g2⟩,by simp only[pz,List.map_cons,Rows.uptoBulkAll];omega⟩;simp only[Row.size];rw[<-List.drop_drop,List.take_add]
theorem tF{fs:Array Field}(ht:P.underlying t=some (.struct fs))(hc:P.cellsOf t=r.size)(h:pM P fs.toList r 0):mC P t r:=by
 intro H enc w spare held fuel cs x hx;obtain⟨xs,n,_,rfl,hlen,xx,hf⟩:=DataW.trod_struct ht hx;rw[hc]at hlen;obtain⟨y,h1,h2,h3⟩:=h H enc w spare held n cs xs (by simpa using xx) (fun i f hi=>hf i f (by simpa using hi)) (by omega);rw[List.drop_zero,<-hlen,YU]at h1;exact⟨y,h1,h2,by simp only[Rows.uptoBulk];omega⟩
variable {H:Type} {enc:TypeId×Value->H} {w:World} {base:Nat} {spare:Nat->Bool} {held:Bool} {v:Value} {d:DataW H} {ps:List MemPlace}
theorem AX(ht:P.underlying t=some (.slice e))(ho:mC P t (.slice r))(hv:Value.okWide P w .any base t v)(h:DataW.Trod enc P w 0 spare held t v d ps):
 ∃l:List r.den,bH (here w) w (.slice r) [v] l/\WF (.slice r) l/\pz (.slice r) l<=Rows.uptoBulk d:=by
 obtain⟨a0,len,cap,rfl⟩:=okWide_slice ht hv;obtain⟨fuel,hf⟩:=h;exact ho H enc w spare held fuel _ _ hf
theorem mD(hl:laidOutB P=true){W W':World}(hb:Below W.heap.size W W'){sp:Nat->Bool}:(ts:List TypeId)->(vs:List Value)->(ds:List (DataW H))->(ps:List MemPlace)->
 (∀t∈ts,(P.readableRec t&&YM t P.types.size)=true)->DataW.TrodAll enc P W 0 (fun _=>true) true ts vs ds ps->(∀x∈ps,x.block<W.heap.size)->(∀x∈ps,sp x.block=true)->DataW.TrodAll enc P W' 0 sp true ts vs ds ps
 |[],[],[],_,_,h,_,_=>h
 |t::ts,v::vs,d::ds,ps,hr,h,aW,rL=>by
  obtain⟨p,q,h1,h2,rfl⟩:=h;have ht:=hr t (by simp);simp only[Y5,Nat.blt_eq]at ht
  exact⟨p,q,WideElems.Trod_stays hl ht.1 ht.2 h1 (fun x hx=>hb.same (aW x (by simp[hx]))) (fun x hx=>rL x (by simp[hx])),
   mD hl hb ts vs ds q (fun t ht=>hr t (by simp[ht])) h2 (fun x hx=>aW x (by simp[hx])) (fun x hx=>rL x (by simp[hx])),rfl⟩
theorem rM{f:Func}{s:ChangeSpec}{apart fresh handsOn again:Bool}{W W':World}{args:Array Value}{v:Value}{ds gs:List (DataW H)}{before pa pv:List MemPlace}
 (hW:DataW.Whole enc P f.params.toList s.vars apart W args.toList ds gs before)
 (tG:∀(b:Nat)(sp:Nat->Bool)(hd:Bool),DataW.TrodAll enc P W' b sp hd f.resultTypes.toList (v.resultList f.resultTypes.size) (s.fn H (ds++gs)).results [])
 (zm:∀sp:Nat->Bool,(∀p∈before,sp p.block=true)->DataW.TrodAll enc P W' 0 sp true f.params.toList args.toList (s.fn H (ds++gs)).args pa)
 (HG:∀sp:Nat->Bool,(∀p∈before,sp p.block=true)->DataW.TrodVars enc P W' sp s.vars (s.fn H (ds++gs)).vars pv)
 (Dx:before=pa++pv)(hb:Below W.heap.size W W')
 (mP:∀(j:Nat)(t:TypeId)(r:Value),f.resultTypes[j]? =some t->(v.resultList f.resultTypes.size)[j]? =some r->Value.okWide P W' .any 0 t r):
 s.post enc P f apart fresh handsOn again W args v W':=by
 have aW:∀p∈before,p.block<W.heap.size:=fun p hp=>hW.lt p hp
 have hold:∀p∈before,(fun b=>decide (b<W.heap.size)) p.block=true:=fun p hp=>by simpa using aW p hp
 refine⟨ds,gs,before,[],pa,pv,hW,tG _ _ _,zm _ hold,HG _ hold,World.keptBut_mono (fun p hp=>⟨hp,?_⟩) (hb.frame (· ∈before)),fun _=>?_⟩
 .rw[Dx,List.mem_append]at hp;exact Or.inr hp
 .obtain⟨_,_,_,_,_,hz,hn⟩:=hW;refine⟨mP,_,_,([]++pa)++pv,⟨[]++pa,pv,trodAll_append (zm _ (fun _ _=>rfl)) (tG _ _ _),HG _ (fun _ _=>rfl),rfl,?_,?_⟩,?_⟩
  .intro b off hp
   have bO:MemPlace.cell b off∈before:=by rw[Dx];simpa using hp
   rw[hb.frozen (aW _ bO)];exact hz b off bO
  .intro ha;have:=hn ha;rw[Dx]at this;simpa using this
  .intro p hp _;rw[Dx];simpa using hp
end
end Go.Proofs.YtlfjlhcigpejdaaGreatDoor
end
section
open _root_.List.cons renaming injEq->Zd
open _root_.Nat renaming add_mul->Yt
open _root_.Option.some renaming inj->X7
open _root_.Go.Value.slice renaming injEq->Zh
namespace Go.Proofs.YtlfjlhcigpejdaaGreatDoor
open Go Go.RowKit
def fO{α:Type}(l:List α)(a b:Int):Option (List α):=if 0<=a/\a<=b/\b<=l.length then some ((l.take b.toNat).drop a.toNat)else none
variable {F:Nat->Prop} {w:World} {r:Row}
theorem bH.cut{A:Option Addr}{cap:Nat}{l:List r.den}{a b:Nat}(h:bH F w (.slice r) [.slice A l.length cap] l)(h1:a<=b)(h2:b<=l.length):
 bH F w (.slice r) [sliced A a b cap r.size] ((l.take b).drop a):=by
 obtain⟨A',Dp,hv,hc,hm,hs⟩:=h;simp only[Zd,Zh,and_true,true_and]at hv;obtain⟨rfl,rfl⟩:=hv
 have hlen:((l.take b).drop a).length=b-a:=by simp;omega
 refine⟨_,cap-a,by rw[hlen];rfl,by omega,by omega,fun i hi=>?_⟩
 have dA:a+i<l.length:=by omega
 obtain⟨g,off,es,rfl,hF,n8,p5,hr⟩:=hs (a+i) dA;refine⟨g,off+a*r.size,es,?_,hF,n8,fun j u hu=>?_,?_⟩
 .rw[if_neg (by omega),Option.map_some,bN]
 .rw[<-p5 j u hu]
  congr 2
  rw[Yt];omega
 .have:((l.take b).drop a)[i]=l[a+i]:=by simp
  rw[this];exact hr
section
variable {P:Program} {n:Nat} {ops:Array Oper} {K:(Nat->Value)->World->Prop} {rest:List Oper} {ρ:Nat->Value}
variable {d:Nat} {ty:TypeId} {pos:String} {aft:Array Edge} {x y z:Operand} {t e:TypeId}
theorem F8{t e:TypeId}(ht:P.underlying t=some (.slice e)):P.underlying t=some (.slice (P.elem t)):=by
 simp[Program.elem,ht]
inductive Iw(ρ:Nat->Value):Option Operand->Option Int->Prop
 |none:Iw ρ none none
 |some {x:Operand} {k:IntKind} {i:Int} (h:ev ρ x= .int k i):Iw ρ (some x) (some i)
theorem pO{ti:TypeInfo}{A:Option Addr}{len cap:Nat}{lo hi:Option Operand}{a b:Option Int}(ht:P.underlying t=some (.slice e))(dA:P.info? e=some ti)(hx:ev ρ x= .slice A len cap)
 (ha:Iw ρ lo a)(hb:Iw ρ hi b)(h0:0<=a.getD 0)(h1:a.getD 0<=b.getD len)(h2:b.getD len<=len)(hc:len<=cap):
 (execOp (ev ρ) ⟨some d, .slice t x lo hi none,ty,pos,aft,none⟩).run P w= .ok (.value (sliced A (a.getD 0).toNat (b.getD len).toNat cap ti.size)) w:=by
 have CL:=F8 ht
 have he:P.elem t=e:=by simp[Program.elem,ht]
 cases ha with
 |none=>
  cases hb with
  |none=>
   have:=run_slice_all (P:=P) (w:=w) t A len cap CL;simp[execOp,hx,run_sliceAt_slice (P:=P) w t _ _ _ _ CL,this,he,sizeOf,typeInfo,dA]
  |some hh=>
   rename_i xb kb ib;have:=run_slice_h (P:=P) (w:=w) t A len cap CL kb ib (by simpa using h1) (by simp at h2;omega);simp[execOp,hx,hh,run_sliceAt_slice (P:=P) w t _ _ _ _ CL,this,he,sizeOf,typeInfo,dA]
 |some hl=>
  rename_i xa ka ia
  cases hb with
  |none=>
   have:=run_slice_l (P:=P) (w:=w) t A len cap CL ka ia (by simpa using h0) (by simpa using h1);simp[execOp,hx,hl,run_sliceAt_slice (P:=P) w t _ _ _ _ CL,this,he,sizeOf,typeInfo,dA]
  |some hh=>
   rename_i xb kb ib;have:=run_slice_lh (P:=P) (w:=w) t A len cap CL ka kb ia ib (by simpa using h0) (by simpa using h1) (by simp at h2;omega);simp[execOp,hx,hl,hh,run_sliceAt_slice (P:=P) w t _ _ _ _ CL,this,he,sizeOf,typeInfo,dA]
theorem od{α:Type}{l m:List α}{a b:Int}(h:fO l a b=some m):∃p q:Nat,a=p/\b=q/\p<=q/\q<=l.length/\m=(l.take q).drop p:=by
 unfold fO at h;split at h
 case isFalse=>cases h
 rename_i hc;exact⟨a.toNat,b.toNat,by omega,by omega,by omega,by omega,(X7 h).symm⟩
end
end Go.Proofs.YtlfjlhcigpejdaaGreatDoor
end
section
namespace Go.Proofs.YtlfjlhcigpejdaaGreatDoor
open Go Go.RowKit
abbrev kU:Row:= .int .i64
def zn:List (Nat×((r:Row)×r.den)):=[(2,⟨.pair kU (.pair kU (.pair kU (.pair kU (.pair kU (.pair kU (.pair kU (.pair kU (.pair kU (.pair kU (.pair kU kU)))))))))),(31,28,31,30,31,30,31,31,30,31,30,31)⟩)]
end Go.Proofs.YtlfjlhcigpejdaaGreatDoor
end
section
namespace Go.Proofs.YtlfjlhcigpejdaaGreatDoor
open Go Go.RowKit
inductive DR where
 |leaf (r:Row)
 |sl (T:TypeId) (d:DR)
 |pair (a b:DR)
@[reducible] def DR.row:DR->Row
  | .leaf r=>r
  | .sl _ d=> .slice d.row
  | .pair a b=> .pair a.row b.row
@[reducible] def DR.low:DR->Row
  | .leaf r=>r
  | .sl _ _=> .gU
  | .pair a b=> .pair a.low b.low
theorem DR.size:(d:DR)->d.low.size=d.row.size
 | .leaf _=>rfl
 | .sl _ _=>rfl
 | .pair a b=>by show a.low.size+b.low.size=a.row.size+b.row.size;rw[a.size,b.size]
inductive dT:DR->DR->Type where
 |here {d:DR}:dT d d
 |fst {a b e:DR} (p:dT a e):dT (.pair a b) e
 |snd {a b e:DR} (p:dT b e):dT (.pair a b) e
def dT.lo:{d e:DR}->dT d e->Path d.low e.low
 |_,_, .here=> .here
 |_,_, .fst p=> .fst p.lo
 |_,_, .snd p=> .snd p.lo
def dT.hi:{d e:DR}->dT d e->Path d.row e.row
 |_,_, .here=> .here
 |_,_, .fst p=> .fst p.hi
 |_,_, .snd p=> .snd p.hi
def DR.path:(d:DR)->List Bool->Option ((e:DR)×dT d e)
 |d,[]=>some ⟨d, .here⟩
 | .pair a b,c::p=>match c with
   |false=>match a.path p with
    |some ⟨e,q⟩=>some ⟨e, .fst q⟩
    |none=>none
   |true=>match b.path p with
    |some ⟨e,q⟩=>some ⟨e, .snd q⟩
    |none=>none
 |_,_::_=>none
def gP(F:Nat->Prop)(w:World)(T:TypeId)(r:Row)(v:Value)(l:List r.den):Prop:=
 ∃xs,jn w 0 T r.size v l.length xs/\∀i(h:i<l.length),bH F w r ((xs.drop (i*r.size)).take r.size) l[i]
structure jK(Ss:Nat->Nat->Prop)(n:Nat)(m:Nat->Prop)(S:Nat->Prop):Prop where
 all:∀k,S k↔m k\/∃i,i<n/\Ss i k
 two:∀i j k,i<n->j<n->i≠j->Ss i k->¬Ss j k
 out:∀i k,i<n->Ss i k->¬m k
structure nh(A B S:Nat->Prop):Prop where
 all:∀k,S k↔A k\/B k
 off:∀k,A k->¬B k
def AY{α:Type}(F:Nat->Prop)(w:World)(T:TypeId)(r:Row)(rel:Nat->r.den->α->(Nat->Prop)->Prop)(u:Value)(l:List α)(S:Nat->Prop):Prop:=
 ∃(lh:List r.den)(Ss:Nat->Nat->Prop),gP F w T r u lh/\lh.length=l.length/\(∀i(h1:i<lh.length)(h2:i<l.length),rel i lh[i] l[i] (Ss i))/\jK Ss l.length (aM u) S
def gu(F:Nat->Prop)(w:World):(d:DR)->d.low.den->d.row.den->(Nat->Prop)->Prop
 | .leaf _,x',x,S=>x'=x/\∀k,¬S k
 | .sl T d,u,l,S=>AY F w T d.low (fun _=>gu F w d) u l S
 | .pair a b,x',x,S=>∃A B,gu F w a x'.1 x.1 A/\gu F w b x'.2 x.2 B/\nh A B S
def iG(F:Nat->Prop)(w:World):{d e:DR}->dT d e->d.low.den->d.row.den->(Nat->Prop)->Prop
 |_,_, .here,_,_,S=>∀k,¬S k
 |_,_, .fst (b:=b) p,x',x,S=>∃A B,iG F w p x'.1 x.1 A/\gu F w b x'.2 x.2 B/\nh A B S
 |_,_, .snd (a:=a) p,x',x,S=>∃A B,gu F w a x'.1 x.1 A/\iG F w p x'.2 x.2 B/\nh A B S
section
variable {F F':Nat->Prop} {w w':World} {T:TypeId} {S:Nat->Prop}
theorem gP.to{r:Row}{v:Value}{l:List r.den}(h:gP F w T r v l)(hn:∀k,aM v k->¬F k):gY 0 F w T r v l:=⟨hn,h⟩
theorem gP.aO{r:Row}{v:Value}{l:List r.den}(h:gP F w T r v l)(hs:Step F w F' w')(hb:∀k,aM v k->w'.heap[k]? =w.heap[k]?):gP F' w' T r v l:=by
 obtain⟨xs,⟨Kb,AQ⟩,h3⟩:=h;refine⟨xs,⟨Kb,?_⟩,fun i hi=>(h3 i hi).step hs⟩
 rcases AQ with h2|⟨gg,o0,cap,gi,rfl,lQ,hg,rest⟩
 .exact .inl h2
 .exact .inr ⟨gg,o0,cap,gi,rfl,lQ,(hb gg rfl).trans hg,rest⟩
theorem gP.lt{r:Row}{v:Value}{l:List r.den}(h:gP F w T r v l):∀k,aM v k->k<w.heap.size:=by
 obtain⟨xs,h,_⟩:=h
 exact fun k hk=>(h.lt k hk).2
theorem gP.one{r:Row}{v:Value}{l:List r.den}(h:gP F w T r v l):v.oneCell'=true:=by
 obtain⟨xs,⟨_,h⟩,_⟩:=h
 rcases h with⟨rfl,_⟩|⟨gg,o0,cap,gi,rfl,_⟩<;>rfl
theorem gP.nil(F:Nat->Prop)(w:World)(T:TypeId)(r:Row):gP F w T r (.slice none 0 0) []:=(gY.nil 0 F w T r).2
theorem nh.left{A B:Nat->Prop}(h:nh A B S):∀k,A k->S k:=fun k hk=>(h.all k).2 (.inl hk)
theorem nh.right{A B:Nat->Prop}(h:nh A B S):∀k,B k->S k:=fun k hk=>(h.all k).2 (.inr hk)
theorem jK.aM{Ss:Nat->Nat->Prop}{n:Nat}{m:Nat->Prop}(h:jK Ss n m S):∀k,m k->S k:=fun k hk=>(h.all k).2 (.inl hk)
theorem jK.part{Ss:Nat->Nat->Prop}{n:Nat}{m:Nat->Prop}(h:jK Ss n m S){i:Nat}(hi:i<n):∀k,Ss i k->S k:=fun k hk=>(h.all k).2 (.inr ⟨i,hi,hk⟩)
theorem AY.mono{α:Type}{r:Row}{rel Kk:Nat->r.den->α->(Nat->Prop)->Prop}{u:Value}{l:List α}(h:AY F w T r rel u l S)(hs:Step F w F' w')(hb:∀k,S k->w'.heap[k]? =w.heap[k]?)
 (hr:∀i x'(hi:i<l.length)A,(∀k,A k->S k)->rel i x' l[i] A->Kk i x' l[i] A):AY F' w' T r Kk u l S:=by
 obtain⟨lh,Ss,h1,h2,h3,h4⟩:=h;exact⟨lh,Ss,h1.aO hs fun k hk=>hb k (h4.aM k hk),h2,fun i a b=>hr i _ b _ (h4.part b) (h3 i a b),h4⟩
theorem gu.aO(hs:Step F w F' w'):{d:DR}->{x':d.low.den}->{x:d.row.den}->{S:Nat->Prop}->gu F w d x' x S->(∀k,S k->w'.heap[k]? =w.heap[k]?)->gu F' w' d x' x S
 | .leaf _,_,_,_,h,_=>h
 | .sl T d,u,l,S,h,hb=>AY.mono (show AY F w T d.low _ u l S from h) hs hb fun i x' hi A hA hr=>gu.aO hs hr fun k hk=>hb k (hA k hk)
 | .pair a b,_,_,_,h,hb=>by
   obtain⟨A,B,h1,h2,h3⟩:=h;exact⟨A,B,h1.aO hs fun k hk=>hb k (h3.left k hk),h2.aO hs fun k hk=>hb k (h3.right k hk),h3⟩
theorem iG.aO(hs:Step F w F' w'):{d e:DR}->{p:dT d e}->{x':d.low.den}->{x:d.row.den}->{S:Nat->Prop}->iG F w p x' x S->(∀k,S k->w'.heap[k]? =w.heap[k]?)->iG F' w' p x' x S
 |_,_, .here,_,_,_,h,_=>h
 |_,_, .fst p,_,_,_,h,hb=>by
  obtain⟨A,B,h1,h2,h3⟩:=h;exact⟨A,B,iG.aO hs h1 fun k hk=>hb k (h3.left k hk),h2.aO hs fun k hk=>hb k (h3.right k hk),h3⟩
 |_,_, .snd p,_,_,_,h,hb=>by
  obtain⟨A,B,h1,h2,h3⟩:=h;exact⟨A,B,h1.aO hs fun k hk=>hb k (h3.left k hk),iG.aO hs h2 fun k hk=>hb k (h3.right k hk),h3⟩
theorem gu.lt:{d:DR}->{x':d.low.den}->{x:d.row.den}->{S:Nat->Prop}->gu F w d x' x S->∀k,S k->k<w.heap.size
 | .leaf _,_,_,_,h,k,hk=>absurd hk (h.2 k)
 | .sl T d,u,l,S,h,k,hk=>by
   obtain⟨lh,Ss,h1,h2,h3,h4⟩:=h
   rcases(h4.all k).1 hk with hm|⟨i,hi,hm⟩
   .exact h1.lt k hm
   .exact gu.lt (h3 i (by omega) hi) k hm
 | .pair a b,_,_,_,h,k,hk=>by
   obtain⟨A,B,h1,h2,h3⟩:=h
   rcases(h3.all k).1 hk with hm|hm
   .exact gu.lt h1 k hm
   .exact gu.lt h2 k hm
theorem gu.freeze:{d:DR}->{cs:List Value}->{x':d.low.den}->{x:d.row.den}->{S:Nat->Prop}->gu F w d x' x S->(∀k,S k->¬F k)->bH F w d.low cs x'->bH (fun b=>F b\/S b) w d.row cs x
 | .leaf _,_,_,_,S,h,_,hr=>by
   obtain⟨rfl,_⟩:=h;exact hr.step (Step.freeze F w S)
 | .sl T d,cs,u,l,S,h,hn,hr=>by
   obtain⟨lh,Ss,⟨xs,hx,Nk⟩,h2,h3,h4⟩:=h;obtain⟨rfl,_⟩:=hr
   have vd:gY 0 (fun b=>F b\/∃i,i<l.length/\Ss i b) w T d.row u l:=by
    refine⟨fun k hk hF=>?_,xs,?_,fun i hi=>?_⟩
    .rcases hF with hF|⟨i,hi,hm⟩
     .exact hn k (h4.aM k hk) hF
     .exact h4.out i k hi hm hk
    .rw[<-d.size,<-h2];exact hx
    .have dA:i<lh.length:=by omega
     have:=gu.freeze (h3 i dA hi) (fun k hk=>hn k (h4.part hi k hk)) (Nk i dA);rw[<-d.size]
     exact this.step fun b hb=>⟨hb.imp id fun hb=>⟨i,hi,hb⟩,rfl⟩
   exact vd.freeze.step (r:= .slice d.row) fun b hb=>⟨by
    rcases hb with(hb|⟨i,hi,hb⟩)|hb
    .exact .inl hb
    .exact .inr (h4.part hi b hb)
    .exact .inr (h4.aM b hb),rfl⟩
 | .pair a b,_,_,_,S,h,hn,hr=>by
   obtain⟨A,B,h1,h2,h3⟩:=h;obtain⟨c1,c2,rfl,r1,r2⟩:=hr;exact⟨c1,c2,rfl,(gu.freeze h1 (fun k hk=>hn k (h3.left k hk)) r1).step fun b hb=>⟨hb.imp id (h3.left b),rfl⟩,(gu.freeze h2 (fun k hk=>hn k (h3.right k hk)) r2).step fun b hb=>⟨hb.imp id (h3.right b),rfl⟩⟩
theorem gu.out:{d e:DR}->(p:dT d e)->{x':d.low.den}->{x:d.row.den}->{S:Nat->Prop}->gu F w d x' x S->∃A B,gu F w e (p.lo.get x') (p.hi.get x) A/\iG F w p x' x B/\nh A B S
 |_,_, .here,_,_,S,h=>⟨S,fun _=>False,h,fun _ h=>h,⟨fun k=>by simp,fun _ _ h=>h⟩⟩
 |_,_, .fst p,_,_,S,h=>by
  obtain⟨A,B,h1,h2,h3⟩:=h;obtain⟨A1,A2,g1,g2,g3⟩:=gu.out p h1;refine⟨A1,fun k=>A2 k\/B k,g1,⟨A2,B,g2,h2,fun k=>Iff.rfl,fun k hk=>h3.off k (g3.right k hk)⟩,fun k=>?_,fun k hk hh=>?_⟩
  .rw[h3.all,g3.all,or_assoc]
  .exact hh.elim (g3.off k hk) (h3.off k (g3.left k hk))
 |_,_, .snd p,_,_,S,h=>by
  obtain⟨A,B,h1,h2,h3⟩:=h;obtain⟨B1,B2,g1,g2,g3⟩:=gu.out p h2;refine⟨B1,fun k=>A k\/B2 k,g1,⟨A,B2,h1,g2,fun k=>Iff.rfl,fun k hk hh=>h3.off k hk (g3.right k hh)⟩,fun k=>?_,fun k hk hh=>?_⟩
  .rw[h3.all,g3.all];constructor<;>(intro h;rcases h with h|h|h<;>simp[h])
  .exact hh.elim (fun hh=>h3.off k hh (g3.left k hk)) (g3.off k hk)
theorem iG.put:{d e:DR}->(p:dT d e)->{x':d.low.den}->{x:d.row.den}->{y':e.low.den}->{y:e.row.den}->{A B S:Nat->Prop}->iG F w p x' x B->gu F w e y' y A->nh A B S->gu F w d (p.lo.set x' y') (p.hi.set x y) S
 |_,_, .here,_,_,y',y,A,B,S,h,hy,h3=>by
  have:A=S:=by
   funext k;exact propext ⟨fun hk=>h3.left k hk,fun hk=>((h3.all k).1 hk).elim id fun hb=>absurd hb (h k)⟩
  subst this;exact hy
 |_,_, .fst p,x',x,y',y,A,B,S,h,hy,h3=>by
  obtain⟨A2,B2,g1,g2,g3⟩:=h
  have t1:nh A A2 (fun k=>A k\/A2 k):=⟨fun _=>Iff.rfl,fun k hk h2=>h3.off k hk (g3.left k h2)⟩
  refine⟨fun k=>A k\/A2 k,B2,iG.put p g1 hy t1,g2,fun k=>?_,fun k hk h2=>?_⟩
  .rw[h3.all,g3.all,or_assoc]
  .exact hk.elim (fun hk=>h3.off k hk (g3.right k h2)) fun hk=>g3.off k hk h2
 |_,_, .snd p,x',x,y',y,A,B,S,h,hy,h3=>by
  obtain⟨A2,B2,g1,g2,g3⟩:=h
  have t1:nh A B2 (fun k=>A k\/B2 k):=⟨fun _=>Iff.rfl,fun k hk h2=>h3.off k hk (g3.right k h2)⟩
  refine⟨A2,fun k=>A k\/B2 k,g1,iG.put p g2 hy t1,fun k=>?_,fun k hk h2=>?_⟩
  .rw[h3.all,g3.all];constructor<;>(intro h;rcases h with h|h|h<;>simp[h])
  .exact h2.elim (fun h2=>h3.off k h2 (g3.left k hk)) fun h2=>g3.off k hk h2
theorem iG.set:{d e:DR}->(p:dT d e)->{x':d.low.den}->{x:d.row.den}->{S:Nat->Prop}->(y':e.low.den)->(y:e.row.den)->iG F w p x' x S->iG F w p (p.lo.set x' y') (p.hi.set x y) S
 |_,_, .here,_,_,_,_,_,h=>h
 |_,_, .fst p,_,_,_,y',y,h=>by
  obtain⟨A,B,h1,h2,h3⟩:=h;exact⟨A,B,h1.set p y' y,h2,h3⟩
 |_,_, .snd p,_,_,_,y',y,h=>by
  obtain⟨A,B,h1,h2,h3⟩:=h;exact⟨A,B,h1,h2.set p y' y,h3⟩
end
end Go.Proofs.YtlfjlhcigpejdaaGreatDoor
end
section
open _root_.Nat renaming beq->Yb,eq_of_beq_eq_true->YR,lt_of_lt_of_le->YK
open _root_.Option renaming none_or->Zi
open _root_.Option.some renaming inj->X7,injEq->Ye
open _root_.Go.Value renaming oneCell'->Zg
namespace Go.Proofs.YtlfjlhcigpejdaaGreatDoor
open Go Go.RowKit
inductive Tree where
 |leaf (r:Row) (x:r.den)
 |own (o:Nat)
 |nil
 |pair (a b:Tree)
 |view (o s:Nat) (r:Row) (m:List r.den)
 |junk (n:Nat)
structure qd where
 i:Int
 p:List Bool
 o:Nat
 s:Nat
inductive Th where
 |box (T:TypeId) (t:Tree)
 |own (T:TypeId) (r:Row) (l:List r.den)
 |oe (T:TypeId) (r:Row) (l:List r.den)
 |map (T:TypeId) (K:Row) (agg:Bool) (V:Row) (l:List (K.den×V.den))
 |fmap (T:TypeId) (K:Row) (agg:Bool) (V:Row) (l:List (K.den×V.den))
 |deep (T:TypeId) (d:DR) (l:List d.row.den) (h:Option qd)
 |fdeep (T:TypeId) (d:DR) (l:List d.row.den)
 |dmap (T:TypeId) (K:Row) (E:TypeId) (r:Row) (l:List (K.den×List r.den)) (h:Option (K.den×Nat))
 |fdmap (T:TypeId) (K:Row) (E:TypeId) (r:Row) (l:List (K.den×List r.den))
def Th.base:Th->Th
 | .oe T r l=> .own T r l
 | .fmap T K agg V l=> .map T K agg V l
 | .fdeep T d l=> .deep T d l none
 | .fdmap T K E r l=> .dmap T K E r l none
 |t=>t
inductive aj where
 |dead
 |undef
 |val (agg:Bool) (t:Tree)
 |ptr (o:Nat) (p:List Bool) (off:Nat)
 |at (r:Row) (x:r.den)
 |elem (o s:Nat) (r:Row) (i:Int) (x:r.den) (p:List Bool) (off:Nat)
 |tup (ds:List (Bool×Tree))
 |dlm (o:Nat) (d:DR) (i:Int) (p:List Bool) (off:Nat)
 |fn (f:FuncId) (caps:List (Nat×List Bool×Nat))
 |ifc (T:TypeId) (d:aj)
structure ao where
 val:Nat->Option Value
 con:Nat->Option Th
 sub:Nat->Nat->Prop
structure ao.le(H H':ao):Prop where
 val:∀o v,H.val o=some v->H'.val o=some v
 con:∀s t,H.con s=some t->H'.con s=some t
 sub:∀s t,H.con s=some t->H'.sub s=H.sub s
theorem ao.le.refl(H:ao):H.le H:=⟨fun _ _ h=>h,fun _ _ h=>h,fun _ _ _=>rfl⟩
theorem ao.le.trans{H H' og:ao}(h:H.le H')(k:H'.le og):H.le og:=⟨fun o v e=>k.val o v (h.val o v e),fun o v e=>k.con o v (h.con o v e),fun s t e=>(k.sub s t (h.con s t e)).trans (h.sub s t e)⟩
def iH(H:ao)(o s:Nat)(r:Row)(m:List r.den)(v:Value):Prop:=
 ∃A cap T,∃l:List r.den,∃a b,H.val o=some (.slice A l.length cap)/\H.con s=some (.own T r l)/\a<=b/\b<=l.length/\m=(l.take b).drop a/\v=sliced A a b cap r.size
theorem iH.aO{H H':ao}(hH:H.le H'){o s:Nat}{r:Row}{m:List r.den}{v:Value}(h:iH H o s r m v):iH H' o s r m v:=by
 obtain⟨A,cap,T,l,a,b,h1,h2,h3⟩:=h;exact⟨A,cap,T,l,a,b,hH.val _ _ h1,hH.con _ _ h2,h3⟩
theorem iH.back{H H' og:ao}(hH:H.le H')(xG:H.le og){o s:Nat}{r:Row}{m:List r.den}{v0 v:Value}(h0:iH H o s r m v0)(h:iH H' o s r m v):iH og o s r m v:=by
 obtain⟨A,cap,T,l,a,b,h1,h2,_⟩:=h0;obtain⟨A',Dp,T',l',a',b',k1,k2,k3⟩:=h;have e1:=hH.val _ _ h1;have e2:=hH.con _ _ h2;rw[k1]at e1;rw[k2]at e2;simp only[Ye,Th.own.injEq,heq_eq_eq,true_and]at e2;obtain⟨rfl,rfl⟩:=e2;exact⟨A',Dp,T',l',a',b',by rw[e1];exact xG.val _ _ h1,xG.con _ _ h2,k3⟩
theorem iH.one{H:ao}{o s:Nat}{r:Row}{m:List r.den}{v:Value}(h:iH H o s r m v):v.oneCell'=true:=by
 obtain⟨A,cap,T,l,a,b,_,_,_,_,_,rfl⟩:=h;simp[sliced,Zg]
def gZ(H:ao):List (Nat×List Bool×Nat)->List Value->Prop
 |[],vs=>vs=[]
 |c::cs,vs=>∃v us,vs=v::us/\(∃b,H.val c.1=some (.pointer (some ⟨b,0,none⟩))/\v= .pointer (some ⟨b,c.2.2,none⟩))/\gZ H cs us
theorem gZ.aO{H H':ao}(hH:∀o v,H.val o=some v->H'.val o=some v):{cs:List (Nat×List Bool×Nat)}->{vs:List Value}->gZ H cs vs->gZ H' cs vs
 |[],_,h=>h
 |_::_,_,h=>by obtain⟨v,us,e,⟨b,h1,h2⟩,h3⟩:=h;exact⟨v,us,e,⟨b,hH _ _ h1,h2⟩,h3.aO hH⟩
def bi(H:ao)(F:Nat->Prop)(w:World):Tree->List Value->Prop
 | .leaf r x,cs=>bH F w r cs x
 | .own o,cs=>∃v,H.val o=some v/\v.oneCell'=true/\cs=[v]
 | .nil,cs=>cs=[.slice none 0 0]
 | .pair a b,cs=>∃c1 c2,cs=c1++c2/\bi H F w a c1/\bi H F w b c2
 | .view o s r m,cs=>∃v,cs=[v]/\iH H o s r m v
 | .junk n,cs=>cs.length=n/\∀u∈cs,u.oneCell'=true
def Tree.size:Tree->Nat
 | .leaf r _=>r.size
 | .own _=>1
 | .nil=>1
 | .pair a b=>a.size+b.size
 | .view .. =>1
 | .junk n=>n
def aB(H:ao)(F:Nat->Prop)(w:World)(agg:Bool)(t:Tree)(v:Value):Prop:=
 ∃cs,bi H F w t cs/\v=(bif agg then .agg cs.toArray else cs.headD undef)/\(agg=false->cs=[v])
def nq(H:ao)(F:Nat->Prop)(w:World):List (Bool×Tree)->List Value->Prop
 |[],vs=>vs=[]
 |d::ds,vs=>∃v us,vs=v::us/\aB H F w d.1 d.2 v/\nq H F w ds us
def ai(H:ao)(F:Nat->Prop)(w:World):aj->Value->Prop
 | .dead,_=>True
 | .undef,v=>v=Go.undef
 | .val agg t,v=>aB H F w agg t v
 | .ptr o _ off,v=>∃b,H.val o=some (.pointer (some ⟨b,0,none⟩))/\v= .pointer (some ⟨b,off,none⟩)
 | .at r x,v=>∃b off,v= .pointer (some ⟨b,off,none⟩)/\F b/\At F w r b off x
 | .elem o s r i x _ off,v=>∃g o0 q T m cap l,H.val o=some (.slice (some ⟨g,o0,none⟩) m cap)/\i=(q:Nat)/\H.con s=some (.own T r l)/\idx l i=some x/\v= .pointer (some ⟨g,o0+q*r.size+off,none⟩)
 | .tup ds,v=>∃vs,v= .tuple vs.toArray/\nq H F w ds vs
 | .dlm o d i _ off,v=>∃g o0 q m cap,H.val o=some (.slice (some ⟨g,o0,none⟩) m cap)/\i=(q:Nat)/\v= .pointer (some ⟨g,o0+q*d.low.size+off,none⟩)
 | .fn f caps,v=>∃vs,v= .func (.func f) #[] vs.toArray/\gZ H caps vs
 | .ifc T d,v=>∃u,v= .iface T u/\ai H F w d u
section
variable {H H':ao} {F F':Nat->Prop} {w w':World}
theorem bi.length:{t:Tree}->{cs:List Value}->bi H F w t cs->cs.length=t.size
 | .leaf _ _,_,h=>bH.length h
 | .own _,_,h=>by obtain⟨v,_,_,rfl⟩:=h;rfl
 | .nil,_,h=>by rw[show _=_ from h];rfl
 | .pair a b,_,h=>by obtain⟨c1,c2,rfl,h1,h2⟩:=h;simp[h1.length,h2.length,Tree.size]
 | .view ..,_,h=>by obtain⟨v,rfl,_⟩:=h;rfl
 | .junk _,_,h=>h.1
theorem bi.fT:{t:Tree}->{cs:List Value}->bi H F w t cs->∀u∈cs,u.oneCell'=true
 | .leaf _ _,_,h=>bH.fT h
 | .own _,_,h=>by obtain⟨v,_,h1,rfl⟩:=h;simpa using h1
 | .nil,_,h=>by rw[show _=_ from h];simp[Zg]
 | .pair a b,_,h=>by
   obtain⟨c1,c2,rfl,h1,h2⟩:=h;intro u hu
   rcases List.mem_append.1 hu with h'|h'
   .exact h1.fT u h'
   .exact h2.fT u h'
 | .view ..,_,h=>by obtain⟨v,rfl,h⟩:=h;simpa using h.one
 | .junk _,_,h=>h.2
theorem bi.aO(hH:H.le H')(hs:Step F w F' w'):{t:Tree}->{cs:List Value}->bi H F w t cs->bi H' F' w' t cs
 | .leaf _ _,_,h=>bH.step hs h
 | .own _,_,h=>by obtain⟨v,h0,h1,rfl⟩:=h;exact⟨v,hH.val _ _ h0,h1,rfl⟩
 | .nil,_,h=>h
 | .pair a b,_,h=>by obtain⟨c1,c2,rfl,h1,h2⟩:=h;exact⟨c1,c2,rfl,h1.aO hH hs,h2.aO hH hs⟩
 | .view ..,_,h=>by obtain⟨v,rfl,h⟩:=h;exact⟨v,rfl,h.aO hH⟩
 | .junk _,_,h=>h
theorem bi.back{og:ao}{w0:World}{F0:Nat->Prop}(hH:H.le H')(xG:H.le og):{t:Tree}->{Mx cs:List Value}->bi H F0 w0 t Mx->bi H' F w t cs->bi og F w t cs
 | .leaf _ _,_,_,_,h=>h
 | .own _,_,_,h0,h=>by
   obtain⟨v,a0,_,_⟩:=h0;obtain⟨u,b0,b1,rfl⟩:=h;have:=hH.val _ _ a0;rw[b0]at this;obtain rfl:=X7 this;exact⟨u,xG.val _ _ a0,b1,rfl⟩
 | .nil,_,_,_,h=>h
 | .pair a b,_,_,h0,h=>by
   obtain⟨_,_,_,a1,a2⟩:=h0;obtain⟨c1,c2,rfl,h1,h2⟩:=h;exact⟨c1,c2,rfl,bi.back (w0:=w0) (F0:=F0) hH xG a1 h1,bi.back (w0:=w0) (F0:=F0) hH xG a2 h2⟩
 | .view ..,_,_,h0,h=>by
   obtain⟨_,_,h0⟩:=h0;obtain⟨v,rfl,h⟩:=h;exact⟨v,rfl,h0.back hH xG h⟩
 | .junk _,_,_,_,h=>h
theorem aB.aO{agg:Bool}{t:Tree}{v:Value}(hH:H.le H')(hs:Step F w F' w')(h:aB H F w agg t v):aB H' F' w' agg t v:=by
 obtain⟨cs,h1,h2⟩:=h;exact⟨cs,h1.aO hH hs,h2⟩
theorem nq.aO(hH:H.le H')(hs:Step F w F' w'):{ds:List (Bool×Tree)}->{vs:List Value}->nq H F w ds vs->nq H' F' w' ds vs
 |[],_,h=>h
 |_::_,_,h=>by obtain⟨v,us,rfl,h1,h2⟩:=h;exact⟨v,us,rfl,h1.aO hH hs,h2.aO hH hs⟩
theorem At.aO{r:Row}{b off:Nat}{x:r.den}(hs:Step F w F' w')(hb:F b)(h:At F w r b off x):At F' w' r b off x:=by
 obtain⟨es,hl,hc,hr⟩:=h;exact⟨es,hl,fun j u hu=>(World.cell?_of_block (hs b hb).2).trans (hc j u hu),hr.step hs⟩
theorem ai.aO(hH:H.le H')(hs:Step F w F' w'):{d:aj}->{v:Value}->ai H F w d v->ai H' F' w' d v
 | .dead,_,_=>trivial
 | .undef,_,h=>h
 | .val _ _,_,h=>aB.aO hH hs h
 | .ptr _ _ _,_,h=>by obtain⟨b,h1,h2⟩:=h;exact⟨b,hH.val _ _ h1,h2⟩
 | .at _ _,_,h=>by obtain⟨b,off,h1,h2,h3⟩:=h;exact⟨b,off,h1,(hs b h2).1,h3.aO hs h2⟩
 | .elem ..,_,h=>by obtain⟨g,o0,q,T,m,cap,l,h1,h2,h3,h4⟩:=h;exact⟨g,o0,q,T,m,cap,l,hH.val _ _ h1,h2,hH.con _ _ h3,h4⟩
 | .tup _,_,h=>by obtain⟨vs,h1,h2⟩:=h;exact⟨vs,h1,h2.aO hH hs⟩
 | .dlm ..,_,h=>by obtain⟨g,o0,q,m,cap,h1,h2,h3⟩:=h;exact⟨g,o0,q,m,cap,hH.val _ _ h1,h2,h3⟩
 | .fn ..,_,h=>by obtain⟨vs,h1,h2⟩:=h;exact⟨vs,h1,h2.aO hH.val⟩
 | .ifc _ d,_,h=>by obtain⟨u,h1,h2⟩:=h;exact⟨u,h1,ai.aO hH hs (d:=d) h2⟩
def find{α:Type}:List (Nat×α)->Nat->Option α
 |[],_=>none
 |(m,a)::l,n=>bif Yb m n then some a else find l n
def del{α:Type}(ns:List Nat):List (Nat×α)->List (Nat×α)
 |[]=>[]
 |(m,a)::l=>bif ns.any (Yb m)then del ns l else(m,a)::del ns l
theorem aw{α:Type}{m:Nat}{a:α}{l:List (Nat×α)}{n:Nat}:find ((m,a)::l) n=if m=n then some a else find l n:=by
 show(bif Yb m n then some a else find l n)=_
 by_cases h:m=n
 .subst h;simp
 .rw[if_neg h]
  have:Yb m n=false:=by
   cases hb:Yb m n with
   |false=>rfl
   |true=>exact absurd (YR hb) h
  simp[this]
theorem eZ{α:Type}{l l':List (Nat×α)}{n:Nat}:find (l++l') n=(find l n).or (find l' n):=by
 induction l with
 |nil=>rfl
 |cons p l ih=>
  obtain⟨m,a⟩:=p;rw[List.cons_append,aw,aw,ih]
  split<;>rfl
theorem any_beq{ns:List Nat}{m:Nat}:ns.any (Yb m)=true↔m∈ns:=by
 simp only[List.any_eq_true,Nat.beq_eq];exact⟨fun⟨x,hx,e⟩=>e▸hx,fun h=>⟨m,h,rfl⟩⟩
theorem e8{α:Type}{ns:List Nat}{l:List (Nat×α)}{n:Nat}{a:α}:find (del ns l) n=some a↔n∉ns/\find l n=some a:=by
 induction l with
 |nil=>simp[del,find]
 |cons p l ih=>
  obtain⟨m,b⟩:=p;unfold del
  cases hm:ns.any (Yb m)with
  |true=>
   have bO:=any_beq.1 hm;rw[cond_true,ih,aw];constructor
   .rintro⟨h1,h2⟩
    have bu:m≠n:=fun e=>h1 (e▸bO)
    exact⟨h1,by rw[if_neg bu];exact h2⟩
   .rintro⟨h1,h2⟩
    have bu:m≠n:=fun e=>h1 (e▸bO)
    rw[if_neg bu]at h2;exact⟨h1,h2⟩
  |false=>
   have bO:m∉ns:=fun e=>by rw[any_beq.2 e]at hm;cases hm
   rw[cond_false,aw,aw];by_cases h:m=n
   .subst h;simp[bO]
   .simp only[if_neg h];exact ih
def mQ(F:Nat->Prop)(w:World):Prop:=∀g d,find zn g=some d->F g/\At F w d.1 g 0 d.2
theorem mQ.step{F F':Nat->Prop}{w w':World}(h:mQ F w)(hs:Step F w F' w'):mQ F' w':=fun g d hg=>⟨(hs g (h g d hg).1).1,(h g d hg).2.aO hs (h g d hg).1⟩
def iP(H:ao)(F:Nat->Prop)(w:World)(K:Row)(agg:Bool)(V:Row):List MapEntry->List (K.den×V.den)->Prop
 |[],l=>l=[]
 |e::es,l=>∃k x l',l=(k,x)::l'/\ko K k=some e.key/\aB H F w agg (.leaf V x) e.val/\iP H F w K agg V es l'
theorem iP.aO{H H':ao}{F F':Nat->Prop}{w w':World}(hH:H.le H')(hs:Step F w F' w'){K:Row}{agg:Bool}{V:Row}:{es:List MapEntry}->{l:List (K.den×V.den)}->iP H F w K agg V es l->iP H' F' w' K agg V es l
 |[],_,h=>h
 |_::_,_,h=>by obtain⟨k,x,l',e,h1,h2,h3⟩:=h;exact⟨k,x,l',e,h1,h2.aO hH hs,iP.aO hH hs h3⟩
theorem iP.fP{H H':ao}{F:Nat->Prop}{w:World}{K:Row}{agg:Bool}{V:Row}:{es:List MapEntry}->{l:List (K.den×V.den)}->iP H F w K agg V es l->iP H' F w K agg V es l
 |[],_,h=>h
 |_::_,_,h=>by
  obtain⟨k,x,l',e,h1,⟨cs,h2,F9⟩,h3⟩:=h;exact⟨k,x,l',e,h1,⟨cs,h2,F9⟩,iP.fP h3⟩
noncomputable def e9:(K:Row)->K.den->K.den->Bool
 | .int _,a,b=>decide ((a:Int)=b)
 | .bool,a,b=>decide ((a:Bool)=b)
 | .str,a,b=>decide ((a:ByteArray)=b)
 |_,_,_=>false
def nr(F:Nat->Prop)(w:World)(E:TypeId)(r:Row)(v:Value)(y:List r.den)(A:Nat->Prop):Prop:=gP F w E r v y/\∀k,A k↔aM v k
def dY(H:ao)(F:Nat->Prop)(w:World)(K:Row)(E:TypeId)(r:Row):Option (K.den×Nat)->List MapEntry->List (K.den×List r.den)->(Nat->Prop)->Prop
 |_,[],l,S=>l=[]/\∀k,¬S k
 |none,e::es,l,S=>∃k y l' A B,l=(k,y)::l'/\ko K k=some e.key/\nr F w E r e.val y A/\dY H F w K E r none es l' B/\nh A B S
 |some (a,o),e::es,l,S=>∃k y l' A B,l=(k,y)::l'/\ko K k=some e.key/\((e9 K k a=true/\H.val o=some e.val/\(∀j,¬A j)/\dY H F w K E r none es l' B)\/(e9 K k a=false/\nr F w E r e.val y A/\dY H F w K E r (some (a,o)) es l' B))/\nh A B S
theorem nr.aO{F F':Nat->Prop}{w w':World}{E:TypeId}{r:Row}{v:Value}{y:List r.den}{A:Nat->Prop}(h:nr F w E r v y A)(hs:Step F w F' w')(hb:∀k,A k->w'.heap[k]? =w.heap[k]?):nr F' w' E r v y A:=
 ⟨h.1.aO hs fun k hk=>hb k ((h.2 k).2 hk),h.2⟩
theorem dY.aO{H H':ao}{F F':Nat->Prop}{w w':World}{K:Row}{E:TypeId}{r:Row}(hs:Step F w F' w'):{h:Option (K.den×Nat)}->{es:List MapEntry}->{l:List (K.den×List r.den)}->{S:Nat->Prop}->(∀a o u,h=some (a,o)->H.val o=some u->H'.val o=some u)->dY H F w K E r h es l S->(∀k,S k->w'.heap[k]? =w.heap[k]?)->dY H' F' w' K E r h es l S
 |none,[],_,_,_,h,_=>h
 |some _,[],_,_,_,h,_=>h
 |none,_::_,_,_,hH,h,hb=>by
  obtain⟨k,y,l',A,B,e,h1,h2,h3,h4⟩:=h;exact⟨k,y,l',A,B,e,h1,h2.aO hs fun k hk=>hb k (h4.left k hk),h3.aO hs (fun _ _ _ e=>by cases e) fun k hk=>hb k (h4.right k hk),h4⟩
 |some (a,o),_::_,_,_,hH,h,hb=>by
  obtain⟨k,y,l',A,B,e,h1,h2,h4⟩:=h;refine⟨k,y,l',A,B,e,h1,?_,h4⟩
  rcases h2 with⟨g1,g2,g3,g4⟩|⟨g1,g2,g3⟩
  .exact .inl ⟨g1,hH _ _ _ rfl g2,g3,g4.aO hs (fun _ _ _ e=>by cases e) fun k hk=>hb k (h4.right k hk)⟩
  .exact .inr ⟨g1,g2.aO hs fun k hk=>hb k (h4.left k hk),g3.aO hs hH fun k hk=>hb k (h4.right k hk)⟩
def kz(H:ao)(F:Nat->Prop)(w:World)(d:DR)(h:Option qd)(i:Nat)(x':d.low.den)(x:d.row.den)(S:Nat->Prop):Prop:=
 match h with
 |none=>gu F w d x' x S
 |some h=>(h.i≠(i:Int)->gu F w d x' x S)/\(h.i=(i:Int)->∃T' e,∃q:dT d (.sl T' e),d.path h.p=some ⟨_,q⟩/\iG F w q x' x S/\H.val h.o=some (q.lo.get x'))
theorem kz.aO{H H':ao}{F F':Nat->Prop}{w w':World}{d:DR}{h:Option qd}{i:Nat}{x':d.low.den}{x:d.row.den}{S:Nat->Prop}(hr:kz H F w d h i x' x S)(hH:H.le H')(hs:Step F w F' w')(hb:∀k,S k->w'.heap[k]? =w.heap[k]?):kz H' F' w' d h i x' x S:=by
 cases h with
 |none=>exact gu.aO hs hr hb
 |some h=>
  refine⟨fun hi=>(hr.1 hi).aO hs hb,fun hi=>?_⟩;obtain⟨T',e,q,h1,h2,h3⟩:=hr.2 hi;exact⟨T',e,q,h1,h2.aO hs hb,hH.val _ _ h3⟩
def fp(S:Nat->Prop)(v:Value):Th->Nat->Prop
 | .box ..,k=>v= .pointer (some ⟨k,0,none⟩)
 | .own ..,k=>aM v k
 | .oe ..,_=>False
 | .map ..,k=>v= .map (some k)
 | .fmap ..,_=>False
 | .deep ..,k=>S k
 | .fdeep ..,_=>False
 | .dmap ..,k=>S k
 | .fdmap ..,_=>False
def fy(H:ao)(F:Nat->Prop)(w:World)(S:Nat->Prop)(v:Value):Th->Prop
 | .box T t=>∃b es,v= .pointer (some ⟨b,0,none⟩)/\w.heap[b]? =some (.cells es.toArray T (0,0))/\bi H F w t es
 | .own T r l=>∃xs,jn w 0 T r.size v l.length xs/\∀i(h:i<l.length),bH F w r ((xs.drop (i*r.size)).take r.size) l[i]
 | .oe _ r l=>bH F w (.slice r) [v] l
 | .fmap _ K agg V l=>bH F w (.map K agg V) [v] l
 | .map _ K agg V l=>∃b es clock,v= .map (some b)/\w.heap[b]? =some (.map es clock)/\MapKept.Stamped es clock/\iP H F w K agg V es.toList l
 | .deep T d l h=>AY F w T d.low (kz H F w d h) v l S
 | .fdeep _ d l=>bH F w (.slice d.row) [v] l
 | .dmap _ K E r l h=>∃b es clock B,v= .map (some b)/\w.heap[b]? =some (.map es clock)/\MapKept.Stamped es clock/\dY H F w K E r h es.toList l B/\nh (is b) B S/\∀a o,h=some (a,o)->∃u,H.val o=some u
 | .fdmap _ K _ r l=>bH F w (.map K false (.slice r)) [v] l
structure AZ(U:Nat->Prop)(H:ao)(F:Nat->Prop)(w:World)(v:Value)(s:Nat)(t:Th):Prop where
 one:v.oneCell'=true
 con:H.con s=some t.base
 ok:fy H F w (H.sub s) v t
 no:∀k,fp (H.sub s) v t k->¬F k
 lt:∀k,fp (H.sub s) v t k->k<w.heap.size
 use:∀k,fp (H.sub s) v t k->U k
structure aq(U:Nat->Prop)(H:ao)(F:Nat->Prop)(w:World)(ob:Nat->Option (Nat×Th))(n:Nat):Prop where
 obj:∀o s t,ob o=some (s,t)->∃v,H.val o=some v/\AZ U H F w v s t
 apart:∀o o' s s' t t' v v',o≠o'->ob o=some (s,t)->ob o'=some (s',t')->H.val o=some v->H.val o'=some v'->∀k,fp (H.sub s) v t k->¬fp (H.sub s') v' t' k
 fresh:∀m,n<=m->m<n+16->H.val m=none/\H.con m=none
 lt:∀b,F b->b<w.heap.size
 new:∀b,w.heap.size<=b->U b
 gl:mQ F w
theorem fy.heap{S:Nat->Prop}{v:Value}{t:Th}(h:fy H F w S v t)(hH:H.le H')(hs:Step F w F' w')(hb:∀k,fp S v t k->w'.heap[k]? =w.heap[k]?):fy H' F' w' S v t:=by
 cases t with
 |box T t=>
  obtain⟨b,es,rfl,h1,h2⟩:=h;exact⟨b,es,rfl,(hb b rfl).trans h1,h2.aO hH hs⟩
 |own T r l=>
  obtain⟨xs,⟨Kb,AQ⟩,h3⟩:=h;refine⟨xs,⟨Kb,?_⟩,fun i hi=>(h3 i hi).step hs⟩
  rcases AQ with h2|⟨gg,o0,cap,gi,rfl,lQ,hg,rest⟩
  .exact .inl h2
  .exact .inr ⟨gg,o0,cap,gi,rfl,lQ,(hb gg rfl).trans hg,rest⟩
 |oe T r l=>exact bH.step (r:= .slice r) hs h
 |fmap T K agg V l=>exact bH.step (r:= .map K agg V) hs h
 |fdeep T d l=>exact bH.step (r:= .slice d.row) hs h
 |deep T d l hh=>exact AY.mono (show AY F w T d.low _ v l S from h) hs hb fun i x' hi A hA hr=>hr.aO hH hs fun k hk=>hb k (hA k hk)
 |map T K agg V l=>
  obtain⟨b,es,clock,rfl,h1,h2,h3⟩:=h;exact⟨b,es,clock,rfl,(hb b rfl).trans h1,h2,h3.aO hH hs⟩
 |fdmap T K E r l=>exact bH.step (r:= .map K false (.slice r)) hs h
 |dmap T K E r l hh=>
  obtain⟨b,es,clock,B,rfl,h1,h2,h3,h4,h5⟩:=h;exact⟨b,es,clock,B,rfl,(hb b (h4.left b rfl)).trans h1,h2,h3.aO hs (fun a o u _ hu=>hH.val _ _ hu) fun k hk=>hb k (h4.right k hk),h4,fun a o e=>(h5 a o e).imp fun u hu=>hH.val _ _ hu⟩
theorem gY.of{v:Value}{T:TypeId}{r:Row}{l:List r.den}{S:Nat->Prop}(h:fy H F w S v (.own T r l))(hn:∀k,aM v k->¬F k):gY 0 F w T r v l:=⟨hn,h⟩
theorem gY.to{v:Value}{T:TypeId}{r:Row}{l:List r.den}(S:Nat->Prop)(h:gY 0 F w T r v l):fy H F w S v (.own T r l):=h.2
end
structure State where
 ah:List (Nat×aj)
 objs:List (Nat×(Nat×Th))
 nxt:Nat
def gx(H:ao)(n:Nat):Prop:=∀m,n<=m->H.val m=none/\H.con m=none
structure Sat(U:Nat->Prop)(H:ao)(F:Nat->Prop)(w:World)(ρ:Nat->Value)(st:State):Prop where
 slot:∀t d,find st.ah t=some d->ai H F w d (ρ t)
 ob:aq U H F w (find st.objs) st.nxt
 all:gx H st.nxt
structure cU where
 dst:aj
 eat:List Nat:=[]
 make:List (Nat×(Nat×Th)):=[]
def State.apply(st:State)(d:Option Nat)(e:cU):State:=
 {ah:=(match d with|some d=>(d,e.dst)::st.ah|none=>st.ah),objs:=e.make++del e.eat st.objs,nxt:=st.nxt+16}
def bx(H:ao)(ob:Nat->Option (Nat×Th))(eat:List Nat)(k:Nat):Prop:=∃o∈eat,∃s t v,ob o=some (s,t)/\H.val o=some v/\fp (H.sub s) v t k
structure FD(H:ao)(F:Nat->Prop)(w:World)(H':ao)(F':Nat->Prop)(w':World)(g:Nat->Prop):Prop where
 fP:H.le H'
 ext:Ext g w w'
 le:∀b,F b->F' b
 grow:∀b,F' b->F b\/w.heap.size<=b\/g b
 lt:∀b,F' b->b<w'.heap.size
structure Made(H':ao)(F':Nat->Prop)(w w':World)(g:Nat->Prop)(make:List (Nat×(Nat×Th))):Prop where
 obj:∀o s t,find make o=some (s,t)->∃v,H'.val o=some v/\v.oneCell'=true/\H'.con s=some t.base/\fy H' F' w' (H'.sub s) v t/\∀k,fp (H'.sub s) v t k->¬F' k/\k<w'.heap.size/\(w.heap.size<=k\/g k)
 apart:∀o o' s s' t t' v v',o≠o'->find make o=some (s,t)->find make o'=some (s',t')->H'.val o=some v->H'.val o'=some v'->∀k,fp (H'.sub s) v t k->¬fp (H'.sub s') v' t' k
structure iZ(H:ao)(F:Nat->Prop)(w:World)(ob:Nat->Option (Nat×Th))(n:Nat)(e:cU)(v:Value)(w':World)(H':ao)(F':Nat->Prop):Prop where
 iI:FD H F w H' F' w' (bx H ob e.eat)
 fresh:∀m,(m<n\/n+16<=m)->(H.val m=none->H'.val m=none)/\(H.con m=none->H'.con m=none)
 dst:ai H' F' w' e.dst v
 made:Made H' F' w w' (bx H ob e.eat) e.make
 ids:∀o,(find e.make o).isSome->o∈e.eat\/n<=o
def gV(H:ao)(F:Nat->Prop)(w:World)(ob:Nat->Option (Nat×Th))(n:Nat)(e:cU)(v:Value)(w':World):Prop:=∃H' F',iZ H F w ob n e v w' H' F'
def pA(ρ:Nat->Value):Option Nat->Value->Nat->Value
 |some d,v=>xD ρ d v
 |none,_=>ρ
theorem lf(ρ:Nat->Value)(d:Nat)(v:Value)(t:Nat):xD ρ d v t=if t=d then v else ρ t:=by
 unfold xD;by_cases h:t=d
 .subst h;simp
 .have:Yb t d=false:=by
   cases hb:Yb t d with
   |false=>rfl
   |true=>exact absurd (YR hb) h
  simp[this,h]
section
variable {U:Nat->Prop} {H H':ao} {F F':Nat->Prop} {w w':World} {ρ:Nat->Value} {st:State}
theorem FD.step{g:Nat->Prop}(h:FD H F w H' F' w' g)(hF:∀b,F b->b<w.heap.size)(hg:∀k,g k->¬F k):Step F w F' w':=
 fun b hb=>⟨h.le b hb,h.ext.block b (hF b hb) fun e=>hg b e hb⟩
theorem aq.fe{ob:Nat->Option (Nat×Th)}{n:Nat}(h:aq U H F w ob n){eat:List Nat}:∀k,bx H ob eat k->¬F k:=by
 rintro k ⟨o,_,s,t,v,h1,h2,h3⟩
 obtain⟨v',e,hi⟩:=h.obj o s t h1;rw[h2]at e;obtain rfl:=X7 e;exact hi.no k h3
theorem aq.qe{ob:Nat->Option (Nat×Th)}{n:Nat}(h:aq U H F w ob n){eat:List Nat}:∀k,bx H ob eat k->k<w.heap.size:=by
 rintro k ⟨o,_,s,t,v,h1,h2,h3⟩
 obtain⟨v',e,hi⟩:=h.obj o s t h1;rw[h2]at e;obtain rfl:=X7 e;exact hi.lt k h3
theorem aq.eJ{ob:Nat->Option (Nat×Th)}{n:Nat}(h:aq U H F w ob n){eat:List Nat}:∀k,bx H ob eat k->U k:=by
 rintro k ⟨o,_,s,t,v,h1,h2,h3⟩
 obtain⟨v',e,hi⟩:=h.obj o s t h1;rw[h2]at e;obtain rfl:=X7 e;exact hi.use k h3
theorem AZ.iI{ob:Nat->Option (Nat×Th)}{n:Nat}(hs:aq U H F w ob n){eat:List Nat}(he:FD H F w H' F' w' (bx H ob eat)){o s:Nat}{t:Th}{v:Value}(ho:ob o=some (s,t))(hn:o∉eat)(hv:H.val o=some v)(h:AZ U H F w v s t):AZ U H' F' w' v s t:=by
 have uT:∀k,fp (H.sub s) v t k->¬bx H ob eat k:=by
  rintro k hk ⟨o',iJ,s',t',v',h1,h2,h3⟩
  exact hs.apart o o' s s' t t' v v' (fun e=>hn (e▸iJ)) ho h1 hv h2 k hk h3
 have ee:=he.fP.sub _ _ h.con;refine⟨h.one,he.fP.con _ _ h.con,by rw[ee];exact h.ok.heap he.fP (he.step hs.lt hs.fe) fun k hk=>he.ext.block k (h.lt k hk) (uT k hk),fun k hk hF=>?_,fun k hk=>YK (h.lt k (by rwa [ee]at hk)) he.ext.size,fun k hk=>h.use k (by rwa [ee]at hk)⟩;rw[ee]at hk
 rcases he.grow k hF with h1|h1|h1
 .exact h.no k hk h1
 .have:=h.lt k hk;omega
 .exact uT k hk h1
theorem aq.Dy{ob FE Dz:Nat->Option (Nat×Th)}{n n' m:Nat}{e:cU}{v:Value}(h:aq U H F w ob n)(hR:∀o x,FE o=some x->ob o=some x)(hp:iZ H F w FE m e v w' H' F')
 (part:∀o s t,Dz o=some (s,t)->find e.make o=some (s,t)\/(o∉e.eat/\ob o=some (s,t)/\find e.make o=none))(A3:∀m,n'<=m->m<n'+16->H'.val m=none/\H'.con m=none):
 aq U H' F' w' Dz n':=by
 have qf:∀k,bx H FE e.eat k->bx H ob e.eat k:=fun k ⟨o,ho,s,t,v,h1,h2⟩=>⟨o,ho,s,t,v,hR _ _ h1,h2⟩
 have Kl:FD H F w H' F' w' (bx H ob e.eat):=⟨hp.iI.fP,⟨hp.iI.ext.os,hp.iI.ext.tape,hp.iI.ext.output,hp.iI.ext.size,fun k hk hn=>hp.iI.ext.block k hk fun hh=>hn (qf k hh)⟩,hp.iI.le,fun b hb=>(hp.iI.grow b hb).imp id fun h=>h.imp id (qf b),hp.iI.lt⟩
 have Km:∀o s t,o∉e.eat->ob o=some (s,t)->∃v,H.val o=some v/\H'.val o=some v/\AZ U H' F' w' v s t/\H'.sub s=H.sub s/\∀k,fp (H'.sub s) v t k->k<w.heap.size/\¬bx H ob e.eat k:=by
  intro o s t ho hf;obtain⟨v,hv,hi⟩:=h.obj o s t hf;have ee:=hp.iI.fP.sub _ _ hi.con;refine⟨v,hv,hp.iI.fP.val _ _ hv,hi.iI h Kl hf ho hv,ee,fun k hk=>?_⟩;rw[ee]at hk;refine⟨hi.lt k hk,?_⟩
  rintro⟨o',iJ,s',t',v',h1,h2,h3⟩
  exact h.apart o o' s s' t t' v v' (fun e=>ho (e▸iJ)) hf h1 hv h2 k hk h3
 refine⟨fun o s t ho=>?_,fun o o' s s' t t' v v' bu ho iJ hv cy k hk cx=>?_,A3,hp.iI.lt,fun b hb=>h.new b (Nat.le_trans hp.iI.ext.size hb),h.gl.step (Kl.step h.lt h.fe)⟩
 .rcases part o s t ho with h1|⟨h1,h2,_⟩
  .obtain⟨v,a1,a2,a3,a4,a5⟩:=hp.made.obj o s t h1;exact⟨v,a1,a2,a3,a4,fun k hk=>(a5 k hk).1,fun k hk=>(a5 k hk).2.1,fun k hk=>(a5 k hk).2.2.elim (h.new k) (fun hh=>h.eJ k (qf k hh))⟩
  .obtain⟨v,_,a2,a3,_,_⟩:=Km o s t h1 h2;exact⟨v,a2,a3⟩
 .rcases part o s t ho with h1|⟨h1,h2,_⟩<;>rcases part o' s' t' iJ with rN|⟨rN,F9,_⟩
  .exact hp.made.apart o o' s s' t t' v v' bu h1 rN hv cy k hk cx
  .obtain⟨u,_,a1,_,_,a5⟩:=hp.made.obj o s t h1;obtain⟨u',_,b2,_,_,b4⟩:=Km o' s' t' rN F9;have e1:=X7 (cy.symm.trans b2);subst e1;have e2:=X7 (hv.symm.trans ‹H'.val o=some u›);subst e2
   rcases(a5 k hk).2.2 with h3|h3
   .have:=(b4 k cx).1;omega
   .exact(b4 k cx).2 (qf k h3)
  .obtain⟨u,_,a1,_,_,a5⟩:=hp.made.obj o' s' t' rN;obtain⟨u',_,b2,_,_,b4⟩:=Km o s t h1 h2;have e1:=X7 (hv.symm.trans b2);subst e1;have e2:=X7 (cy.symm.trans ‹H'.val o'=some u›);subst e2
   rcases(a5 k cx).2.2 with h3|h3
   .have:=(b4 k hk).1;omega
   .exact(b4 k hk).2 (qf k h3)
  .obtain⟨u,b1,b2,_,b5,_⟩:=Km o s t h1 h2;obtain⟨u',c1,c2,_,c5,_⟩:=Km o' s' t' rN F9;rw[b5]at hk;rw[c5]at cx;have e1:=X7 (hv.symm.trans b2);have e2:=X7 (cy.symm.trans c2);subst e1;subst e2;exact h.apart o o' s s' t t' v v' bu h2 F9 b1 c1 k hk cx
theorem xH{objs:List (Nat×(Nat×Th))}{e:cU}:∀o s t,find (e.make++del e.eat objs) o=some (s,t)->find e.make o=some (s,t)\/(o∉e.eat/\find objs o=some (s,t)/\find e.make o=none):=by
 intro o s t ho;rw[eZ]at ho
 cases hm:find e.make o with
 |some x=>rw[hm]at ho;exact .inl ho
 |none=>
  rw[hm,Zi]at ho;obtain⟨h1,h2⟩:=e8.1 ho;exact .inr ⟨h1,h2,rfl⟩
theorem Sat.apply{d:Option Nat}{e:cU}{v:Value}(h:Sat U H F w ρ st)(hp:iZ H F w (find st.objs) st.nxt e v w' H' F'):Sat U H' F' w' (pA ρ d v) (st.apply d e):=by
 have k7:gx H' (st.nxt+16):=fun m hm=>⟨(hp.fresh m (.inr hm)).1 (h.all m (by omega)).1,(hp.fresh m (.inr hm)).2 (h.all m (by omega)).2⟩
 refine⟨fun t q hq=>?_,h.ob.Dy (fun _ _ h=>h) hp xH fun m hm _=>k7 m hm,k7⟩;have dH:=hp.iI.step h.ob.lt h.ob.fe
 cases d with
 |none=>exact(h.slot t q hq).aO hp.iI.fP dH
 |some d=>
  have jr:find ((d,e.dst)::st.ah) t=some q:=hq;rw[aw]at jr
  show ai H' F' w' q (xD ρ d v t)
  rw[lf];by_cases hd:d=t
  .rw[if_pos hd]at jr;rw[if_pos hd.symm];obtain rfl:=X7 jr;exact hp.dst
  .rw[if_neg hd]at jr;rw[if_neg (Ne.symm hd)];exact(h.slot t q jr).aO hp.iI.fP dH
end
end Go.Proofs.YtlfjlhcigpejdaaGreatDoor
end
