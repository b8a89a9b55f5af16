/- Joined texts: Base Mem Own More Lit Open Cut Glob Deep Sym Eff Path. -/
import Derived.WalkKit
import Derived.WalkSpells
import Derived.WalkLawsBesides
import Derived.LoopN
import Derived.Deep.Draws
import Derived.Deep.Quiet
import Derived.Maps.AppendAt
import Derived.OwnWalk
import Derived.KernelRfl
import Derived.MapKept
import Derived.Maps.RangeRun
import Derived.Laws.StructEq
import Derived.Test.YtfeahmiobbjklaaGreatDoorRows
import Derived.ProofKit
import Derived.OpenShut
import Derived.JoinedCond
import Derived.Deep.Slices
import Derived.Laws.Slices
set_option linter.defProp false
open _root_.Bool renaming false->ag,true->af,and_eq_true->ahn
open _root_.Option renaming none->ae,some->aa
open _root_.Array renaming getD_eq_getD_getElem?->agT,getElem?_eq_getElem->agH,toArray_toList->ahd
open _root_.Classical renaming propDecidable->ahG
open _root_.List renaming getElem?_eq_getElem->agx,getElem?_eq_some_iff->agJ,mem_append->agV,getElem?_drop->agU,getElem?_take->ag7,getElem_append_left->ag4,getElem_append_right->ahc,range->agw,replicate->agv,append_assoc->ahg,getElem?_append->ahS,length_take->ahv,take_append_drop->ahD
open _root_.Nat renaming beq->agu,blt->agW,le_refl->agt,add_mul->agP,le_trans->agR,mod_lt->ahj,mul_comm->agO,mul_le_mul_right->agA,min_eq_left->ahs,lt_of_lt_of_le->agK
open _root_.Option.some renaming inj->agq,injEq->agz
open _root_.Go.Region renaming wanted->ahF
open _root_.Go.Value renaming oneCell'->ahz,ownBlock->agI
open _root_.Go.Builtin renaming append_->ahK
open _root_.Go.Sem renaming run->ahZ
open _root_.Go.Value.slice renaming injEq->ahH
open _root_.List.cons renaming injEq->ahl
open _root_.BitVec renaming ofInt->ag9
open _root_.Int renaming tdiv->agC,tmod->agD
namespace Go.Proofs.YtfeahmiobbjklaaGreatDoor
open Go Go.RowKit
set_option maxRecDepth 100000
set_option linter.unusedSimpArgs false
set_option linter.unusedVariables false
set_option linter.defProp false
section
def ai.{u}:type_of% @_root_.if_neg.{u}:= @_root_.if_neg.{u}
def aj.{u}:type_of% @_root_.if_pos.{u}:= @_root_.if_pos.{u}
def al:type_of% @_root_.of_decide_eq_true:= @_root_.of_decide_eq_true
def an:type_of% @_root_.decide_eq_true:= @_root_.decide_eq_true
def ao:type_of% @_root_.decide_eq_false:= @_root_.decide_eq_false
def aq.{u}:type_of% @_root_.implies_true.{u}:= @_root_.implies_true.{u}
def au.{u}:type_of% @_root_.forall_const.{u}:= @_root_.forall_const.{u}
def av.{u,v}:type_of% @_root_.congrArg.{u,v}:= @_root_.congrArg.{u,v}
def aw:type_of% @_root_.decide_eq_true_eq:= @_root_.decide_eq_true_eq
def ax:type_of% @_root_.decide_eq_false_iff_not:= @_root_.decide_eq_false_iff_not
open Go Go.RowKit
inductive IB where
 |map
 |ptr
 |func
def IB.val:IB->Value
 | .map=> .map ae
 | .ptr=> .pointer ae
 | .func=> .nilFunc
theorem IB.one(k:IB):k.val.oneCell'=af:=by cases k<;>simp[IB.val,ahz]
inductive Row where
 |int (k:IntKind)
 |bool
 |str
 |slice (e:Row)
 |lE
 |nul (k:IB)
 |map (K:Row) (agg:Bool) (V:Row)
 |pair (a b:Row)
@[reducible] def Row.den:Row->Type
  | .int _=>Int
  | .bool=>Bool
  | .str=>ByteArray
  | .slice e=>List e.den
  | .lE=>Value
  | .nul _=>Unit
  | .map K _ V=>List (K.den×V.den)
  | .pair a b=>a.den×b.den
noncomputable instance Row.decEq:(r:Row)->DecidableEq r.den
 | .int _=>inferInstanceAs (DecidableEq Int)
 | .bool=>inferInstanceAs (DecidableEq Bool)
 | .str=>inferInstanceAs (DecidableEq ByteArray)
 | .slice e=>have:=Row.decEq e;inferInstanceAs (DecidableEq (List e.den))
 | .lE=>λa b=>ahG (a=b)
 | .nul _=>inferInstanceAs (DecidableEq Unit)
 | .map K _ V=>have:=Row.decEq K;have:=Row.decEq V;inferInstanceAs (DecidableEq (List (K.den×V.den)))
 | .pair a b=>have:=Row.decEq a;have:=Row.decEq b;inferInstanceAs (DecidableEq (a.den×b.den))
@[simp] def Row.size:Row->Nat
  | .pair a b=>a.size+b.size
  |_=>1
theorem Row.size_pos:(r:Row)->0<r.size
 | .pair a b=>by have:=Row.size_pos a;simp;omega
 | .int _| .bool| .str| .slice _| .lE| .nul _| .map .. =>by simp
def jM:(K:Row)->K.den->Option Value
 | .int k,n=>aa (.int k n)
 | .bool,b=>aa (.bool b)
 | .str,s=>aa (.string s)
 | .pair (.int j) (.int k),x=>aa (.agg #[.int j x.1, .int k x.2])
 |_,_=>ae
def cF(F:Nat->Prop)(w:World):(r:Row)->List Value->r.den->Prop
 | .int k,cs,n=>cs=[.int k n]
 | .bool,cs,b=>cs=[.bool b]
 | .str,cs,s=>cs=[.string s]
 | .slice e,cs,l=>∃A cap,cs=[.slice A l.length cap]/\l.length<=cap/\cap<=maxLen/\
     ∀i(h:i<l.length),∃b off es,A=aa ⟨b,off,ae⟩/\F b/\es.length=e.size/\
      (∀j u,es[j]? =aa u->w.cell? ⟨b,off+i*e.size+j,ae⟩=aa u)/\cF F w e es l[i]
 | .lE,cs,v=>cs=[v]/\∃A m c,v= .slice A m c
 | .nul k,cs,_=>cs=[k.val]
 | .map K agg V,cs,l=>∃v,cs=[v]/\((v= .map ae/\l=[])\/∃b es clock,v= .map (aa b)/\F b/\w.heap[b]? =aa (.map es clock)/\MapKept.Stamped es clock/\es.size=l.length/\
     ∀i(h:i<l.length),∃(e:MapEntry)(cs:List Value),es[i]? =aa e/\jM K l[i].1=aa e.key/\cF F w V cs l[i].2/\e.val=(bif agg then .agg cs.toArray else cs.headD undef)/\(agg=ag->cs=[e.val]))
 | .pair a b,cs,d=>∃c1 c2,cs=c1++c2/\cF F w a c1 d.1/\cF F w b c2 d.2
theorem cF.length{F:Nat->Prop}{w:World}:{r:Row}->{cs:List Value}->{d:r.den}->cF F w r cs d->cs.length=r.size
 | .int _,_,_,h=>by rw[show _=_ from h];rfl
 | .bool,_,_,h=>by rw[show _=_ from h];rfl
 | .str,_,_,h=>by rw[show _=_ from h];rfl
 | .slice _,_,_,h=>by obtain⟨A,cap,h,_⟩:=h;rw[h];rfl
 | .lE,_,_,h=>by rw[h.1];rfl
 | .nul _,_,_,h=>by rw[show _=_ from h];rfl
 | .map ..,_,_,h=>by obtain⟨v,rfl,_⟩:=h;rfl
 | .pair a b,_,_,h=>by
   obtain⟨c1,c2,rfl,h1,h2⟩:=h;simp[h1.length,h2.length]
def cF.jk{F:Nat->Prop}{w:World}:{r:Row}->{cs:List Value}->{d:r.den}->cF F w r cs d->∀u∈cs,u.oneCell'=af
 | .int _,_,_,h=>by rw[show _=_ from h];simp[ahz]
 | .bool,_,_,h=>by rw[show _=_ from h];simp[ahz]
 | .str,_,_,h=>by rw[show _=_ from h];simp[ahz]
 | .slice _,_,_,h=>by obtain⟨A,cap,rfl,_⟩:=h;simp[ahz]
 | .lE,_,_,h=>by obtain⟨rfl,A,m,c,rfl⟩:=h;simp[ahz]
 | .nul k,_,_,h=>by rw[show _=_ from h];simp[k.one]
 | .map ..,_,_,h=>by
   obtain⟨v,rfl,h⟩:=h
   rcases h with⟨rfl,_⟩|⟨b,es,clock,rfl,_⟩<;>simp[ahz]
 | .pair a b,_,_,h=>by
   obtain⟨c1,c2,rfl,h1,h2⟩:=h;intro u hu
   rcases agV.1 hu with h'|h'
   .exact h1.jk u h'
   .exact h2.jk u h'
def Step(F:Nat->Prop)(w:World)(F':Nat->Prop)(w':World):Prop:=∀b,F b->F' b/\w'.heap[b]? =w.heap[b]?
def cF.step{F F':Nat->Prop}{w w':World}(ho:Step F w F' w'):{r:Row}->{cs:List Value}->{d:r.den}->cF F w r cs d->cF F' w' r cs d
 | .int _,_,_,h=>h
 | .bool,_,_,h=>h
 | .str,_,_,h=>h
 | .slice e,_,l,h=>by
   obtain⟨A,cap,hc,h1,h2,h3⟩:=h;refine⟨A,cap,hc,h1,h2,λi hi=>?_⟩;obtain⟨b,off,es,hA,hb,uh,uZ,hr⟩:=h3 i hi;exact⟨b,off,es,hA,(ho b hb).1,uh,λj u hu=>(World.cell?_of_block (ho b hb).2).trans (uZ j u hu),hr.step ho⟩
 | .lE,_,_,h=>h
 | .nul _,_,_,h=>h
 | .map K agg V,_,l,h=>by
   obtain⟨v,hv,h⟩:=h;refine⟨v,hv,h.imp id λ⟨b,es,clock,h1,h2,h3,h4,h5,h6⟩=>⟨b,es,clock,h1,(ho b h2).1,(ho b h2).2.trans h3,h4,h5,λi hi=>?_⟩⟩;obtain⟨e,cs,g1,g2,g3,g4⟩:=h6 i hi;exact⟨e,cs,g1,g2,g3.step ho,g4⟩
 | .pair a b,_,_,h=>by
   obtain⟨c1,c2,hc,h1,h2⟩:=h;exact⟨c1,c2,hc,h1.step ho,h2.step ho⟩
def At(F:Nat->Prop)(w:World)(r:Row)(b off:Nat)(x:r.den):Prop:=
 ∃es,es.length=r.size/\(∀j u,es[j]? =aa u->w.cell? ⟨b,off+j,ae⟩=aa u)/\cF F w r es x
def At.fst{F:Nat->Prop}{w:World}{r s:Row}{b off:Nat}{x:(Row.pair r s).den}(h:At F w (.pair r s) b off x):At F w r b off x.1:=by
 obtain⟨es,hl,hc,c1,c2,rfl,h1,h2⟩:=h;exact⟨c1,h1.length,(by grind),h1⟩
def At.snd{F:Nat->Prop}{w:World}{r s:Row}{b off:Nat}{x:(Row.pair r s).den}(h:At F w (.pair r s) b off x)(k:Nat)(hk:k=r.size):At F w s b (off+k) x.2:=by
 obtain⟨es,hl,hc,c1,c2,rfl,h1,h2⟩:=h;subst hk
 exact⟨c2,h2.length,λj u hu=>by
  have:=hc (r.size+j) u (by
   grind [cF.length])
  grind,h2⟩
theorem cF.nil(F:Nat->Prop)(w:World)(e:Row):cF F w (.slice e) [.slice ae 0 0] []:=⟨ae,0,rfl,agt _,by simp[maxLen],λi hi=>absurd hi (by simp)⟩
def cF.CZ{F:Nat->Prop}{w:World}{e:Row}{v:Value}{l:List e.den}(h:cF F w (.slice e) [v] l):
 ∃A cap,v= .slice A l.length cap/\l.length<=cap/\cap<=9223372036854775807:=by
 obtain⟨A,cap,h1,h2,h3,_⟩:=h;exact⟨A,cap,by simpa using h1,h2,h3⟩
def Step.refl(F:Nat->Prop)(w:World):Step F w F w:=λ_ h=>⟨h,rfl⟩
def Step.trans{F F1 F2:Nat->Prop}{w w1 w2:World}(h:Step F w F1 w1)(k:Step F1 w1 F2 w2):Step F w F2 w2:=λb hb=>⟨(k b (h b hb).1).1,(k b (h b hb).1).2.trans (h b hb).2⟩
def Step.drew(F:Nat->Prop)(w:World):Step F w F w.drew:=λ_ h=>⟨h,rfl⟩
def Step.alloc{F:Nat->Prop}{w:World}(h:∀b,F b->b<w.heap.size)(o:Obj):Step F w F (w.alloc o):=λb hb=>⟨hb,Below.heap_alloc w o b (h b hb)⟩
def Step.freeze(F:Nat->Prop)(w:World)(G:Nat->Prop):Step F w (λb=>F b\/G b) w:=λ_ h=>⟨.inl h,rfl⟩
structure Fr(n:Nat)(a:Act)(ρ:Nat->Value):Prop where
 size:a.tmps.size=n
 defers:a.defers=[]
 get:∀t,a.tmps.getD t undef=ρ t
def CN(ρ:Nat->Value)(d:Nat)(v:Value):Nat->Value:=λt=>bif agu t d then v else ρ t
def ev(ρ:Nat->Value):Operand->Value
 | .tmp t=>ρ t
 | .const v=>v
 | .global g=> .pointer (aa ⟨g,0,ae⟩)
 | .func f=> .func (.func f) #[] #[]
def Fr.eval{n:Nat}{a:Act}{ρ:Nat->Value}(h:Fr n a ρ):a.eval=ev ρ:=by
 funext x
 cases x with
 |tmp t=>exact h.get t
 |const v=>rfl
 |global g=>rfl
 |func f=>rfl
def Fr.put{n:Nat}{a:Act}{ρ:Nat->Value}(h:Fr n a ρ){d:Nat}(hd:agW d n=af)(v:Value):Fr n (a.put (aa d) v) (CN ρ d v):=by
 have bi:d<n:=by simpa[Nat.blt_eq]using hd
 refine⟨by simpa[Act.put]using h.size,by simpa[Act.put]using h.defers,λt=>?_⟩;have hs:=h.size;have hg:=h.get t;simp only[Act.put,agT,Array.getElem?_setIfInBounds]at hg⊢;unfold CN;by_cases ht:t=d
 .simp_all
 .have dJ:¬d=t:=λe=>ht e.symm
  grind [Nat.eq_of_beq_eq_true]
def wpS(P:Program)(n:Nat)(ops:Array Oper)(K:(Nat->Value)->World->Prop)(l:List Oper)(ρ:Nat->Value)(w:World):Prop:=
 ∀(Q:Exit->Act->World->Prop)(a:Act),Fr n a ρ->(∀a' cN w',Fr n a' cN->K cN w'->Q .normal a' w')->wpList P ops Q l a w
section
variable {P:Program} {n:Nat} {ops:Array Oper} {K:(Nat->Value)->World->Prop} {rest:List Oper} {ρ:Nat->Value} {w:World}
def L8(h:K ρ w):wpS P n ops K [] ρ w:=λ_ _ hf hk=>hk _ _ _ hf h
def Pure(P:Program)(ρ:Nat->Value)(o:Oper)(v:Value):Prop:=∀w,(execOp (ev ρ) o).run P w= .ok (.value v) w
def oi{a:Act}(hf:Fr n a ρ){j d:Nat}{b:Bool}(hj:(ops[j]?).bind (·.dst)=aa d)(hd:agW d n=af)(hb:ρ d= .bool b):yielded ops a.tmps j=aa b:=by
 have bi:d<n:=by simpa[Nat.blt_eq]using hd
 have hg:=hf.get d;have hs:=hf.size;rw[hb]at hg
 have:a.tmps[d]? =aa (.bool b):=by
  rw[agT]at hg;rw[agH (by omega)]at hg⊢;simpa using hg
 unfold yielded
 grind
def OG{dst:Option Nat}{op:Op}{ty:TypeId}{pos:String}{aft:Array Edge}{j:Nat}{b:Bool}(d:Nat)(hj:(ops[j]?).bind (·.dst)=aa d)(hd:agW d n=af)(hb:ρ d= .bool b)
 (h:wpS P n ops K (⟨dst,op,ty,pos,aft,ae⟩::rest) ρ w):wpS P n ops K (⟨dst,op,ty,pos,aft,aa (j,b)⟩::rest) ρ w:=
 λQ a hf hk=>by
  have:=h Q a hf hk;unfold wpList at this⊢;rw[aj (by simp[ahF])]at this;rw[aj (by simp[ahF,oi hf hj hd hb])];exact this
def L9{d':Nat}{op:Op}{ty:TypeId}{pos:String}{aft:Array Edge}{j:Nat}{b b':Bool}(d:Nat)(hj:(ops[j]?).bind (·.dst)=aa d)(hd:agW d n=af)(hb:ρ d= .bool b')(dJ:b'≠b)(Ab:agW d' n=af)
 (h:wpS P n ops K rest (CN ρ d' undef) w):wpS P n ops K (⟨aa d',op,ty,pos,aft,aa (j,b)⟩::rest) ρ w:=
 λQ a hf hk=>by
  have:=h Q _ (hf.put Ab undef) hk;unfold wpList;rw[ai (by simp[ahF,oi hf hj hd hb,dJ])];exact this
def yz{op:Op}{ty:TypeId}{pos:String}{aft:Array Edge}{j:Nat}{b b':Bool}(d:Nat)(hj:(ops[j]?).bind (·.dst)=aa d)(hd:agW d n=af)(hb:ρ d= .bool b')(dJ:b'≠b)
 (h:wpS P n ops K rest ρ w):wpS P n ops K (⟨ae,op,ty,pos,aft,aa (j,b)⟩::rest) ρ w:=
 λQ a hf hk=>by
  have:=h Q _ hf hk;unfold wpList;rw[ai (by simp[ahF,oi hf hj hd hb,dJ])];exact this
def mW{a:Act}(hf:Fr n a ρ){j d:Nat}(hj:(ops[j]?).bind (·.dst)=aa d)(hd:agW d n=af)(hb:ρ d=undef):yielded ops a.tmps j=ae:=by
 have bi:d<n:=by simpa[Nat.blt_eq]using hd
 have hg:=hf.get d;have hs:=hf.size;rw[hb]at hg
 have:a.tmps[d]? =aa undef:=by
  rw[agT]at hg;rw[agH (by omega)]at hg⊢;simpa using hg
 unfold yielded;rw[hj];simp[this,undef]
def IQ{d':Nat}{op:Op}{ty:TypeId}{pos:String}{aft:Array Edge}{j:Nat}{b:Bool}(d:Nat)(hj:(ops[j]?).bind (·.dst)=aa d)(hd:agW d n=af)(hb:ρ d=undef)(Ab:agW d' n=af)
 (h:wpS P n ops K rest (CN ρ d' undef) w):wpS P n ops K (⟨aa d',op,ty,pos,aft,aa (j,b)⟩::rest) ρ w:=
 λQ a hf hk=>by
  have:=h Q _ (hf.put Ab undef) hk;unfold wpList;rw[ai (by simp[ahF,mW hf hj hd hb])];exact this
def wO{op:Op}{ty:TypeId}{pos:String}{aft:Array Edge}{j:Nat}{b:Bool}(d:Nat)(hj:(ops[j]?).bind (·.dst)=aa d)(hd:agW d n=af)(hb:ρ d=undef)
 (h:wpS P n ops K rest ρ w):wpS P n ops K (⟨ae,op,ty,pos,aft,aa (j,b)⟩::rest) ρ w:=
 λQ a hf hk=>by
  have:=h Q _ hf hk;unfold wpList;rw[ai (by simp[ahF,mW hf hj hd hb])];exact this
end
def uE(P:Program)(n:Nat)(c:Code)(Q:Exit->(Nat->Value)->World->Prop)(ρ:Nat->Value)(w:World):Prop:=
 ∀a,Fr n a ρ->c.wp P (λe a' w'=>∃cN,Fr n a' cN/\Q e cN w') a w
def thn(K:(Nat->Value)->World->Prop)(Q:Exit->(Nat->Value)->World->Prop):Exit->(Nat->Value)->World->Prop
 | .normal,ρ,w=>K ρ w
 |e,ρ,w=>Q e ρ w
def QS(id:Nat)(Q:Exit->(Nat->Value)->World->Prop):Exit->(Nat->Value)->World->Prop
 | .exit Gd,ρ,w=>bif agu Gd id then Q .normal ρ w else Q (.exit Gd) ρ w
 |e,ρ,w=>Q e ρ w
section
variable {P:Program} {n:Nat} {Q:Exit->(Nat->Value)->World->Prop} {ρ:Nat->Value} {w:World}
def C0{id:Nat}{l:List Oper}(h:wpS P n l.toArray (λρ w=>Q .normal ρ w) l ρ w):uE P n (.region id l.toArray ag) Q ρ w:=
 λa hf=>wp_region_lit (h _ a hf λ_ _ _ rD hk=>⟨_,rD,hk⟩)
def yA{a b:Code}(h:uE P n a (thn (λρ w=>uE P n b Q ρ w) Q) ρ w):uE P n (.seq a b) Q ρ w:=
 λact hf=>wp_seq (wp_mono (h act hf) λe a' w' ⟨cN,rD,hh⟩=>by
  cases e with
  |normal=>exact hh a' rD
  |_=>exact⟨cN,rD,hh⟩)
def IR(h:Q .normal ρ w):uE P n .skip Q ρ w:=λ_ hf=>wp_skip ⟨_,hf,h⟩
def IS{id:Nat}(h:Q (.exit id) ρ w):uE P n (.exit id) Q ρ w:=λ_ hf=>wp_exit ⟨_,hf,h⟩
def Ma(h:Q .ret ρ w):uE P n .ret Q ρ w:=λ_ hf=>wp_ret ⟨_,hf,h⟩
def sC{id:Nat}{c:Code}(h:uE P n c (QS id Q) ρ w):uE P n (.block id c) Q ρ w:=
 λa hf=>wp_block (wp_mono (h a hf) λe a' w' ⟨cN,rD,hh⟩=>by
  cases e with
  |exit Gd=>
   unfold Exit.inBlock;by_cases he:Gd=id
   .subst he;simp only[QS,show agu Gd Gd=af from Nat.beq_refl _,cond_true]at hh;simpa using⟨cN,rD,hh⟩
   .have hb:agu Gd id=ag:=by
     cases yB:agu Gd id with
     |false=>rfl
     |true=>exact absurd (Nat.eq_of_beq_eq_true yB) he
    simp only[QS,hb,cond_false]at hh;simpa[he]using⟨cN,rD,hh⟩
  |_=>exact⟨cN,rD,hh⟩)
def Ad{c:Operand}{x y:Code}(b:Bool)(hc:ev ρ c= .bool b)(h:uE P n (bif b then x else y) Q ρ w):uE P n (.cond c x y) Q ρ w:=
 λa hf=>wp_cond (t:=b) (by rw[hf.eval];exact hc) (by
  have:=h a hf
  grind)
def IT{c:Operand}{x y:Code}(hc:ev ρ c= .bool af)(h:uE P n x Q ρ w):uE P n (.cond c x y) Q ρ w:=Ad af hc h
def Ge{c:Operand}{x y:Code}(hc:ev ρ c= .bool ag)(h:uE P n y Q ρ w):uE P n (.cond c x y) Q ρ w:=Ad ag hc h
def Loop{S X:Type}(body:S->Option (S⊕X)):Nat->S->Option X
 |0,_=>ae
 |k+1,s=>match body s with
  |none=>ae
  |some (.inl s')=>Loop body k s'
  |some (.inr x)=>aa x
def NU{S X:Type}(I:S->(Nat->Value)->World->Prop)(Q:Exit->(Nat->Value)->World->Prop)(x:X):S⊕X->Exit->(Nat->Value)->World->Prop
 | .inl s',e,ρ,w=>e= .normal/\I s' ρ w
 | .inr x',e,ρ,w=>e≠ .normal/\(x'=x->Q e ρ w)
def IU{S X:Type}{body:S->Option (S⊕X)}{c:Code}(I:S->(Nat->Value)->World->Prop){x:X}{N:Nat}{s:S}(hm:Loop body N s=aa x)(h0:I s ρ w)
 (hb:∀s ρ w y,I s ρ w->body s=aa y->uE P n c (NU I Q x y) ρ w):uE P n (.loop c) Q ρ w:=by
 intro a hf;refine wp_loop_rounds N ?_
 induction N generalizing s ρ w a with
 |zero=>cases hm
 |succ k ih=>
  rw[rounds_succ];unfold Loop at hm
  cases hy:body s with
  |none=>simp[hy]at hm
  |some y=>
   refine wp_mono (hb s ρ w y h0 hy a hf) λe a' w' ⟨cN,rD,hh⟩=>?_
   cases y with
   |inl s'=>
    obtain⟨rfl,hI⟩:=hh;rw[hy]at hm;exact ih hm hI a' rD
   |inr x'=>
    rw[hy]at hm;obtain⟨dJ,hq⟩:=hh;have:=hq (agq hm)
    cases e with
    |normal=>grind
    |_=>exact⟨cN,rD,this⟩
def Ri(P:Program)(fn:Func)(n:Nat)(R:Value->World->Prop):Exit->(Nat->Value)->World->Prop
 | .normal,ρ,w| .ret,ρ,w=>∀a,Fr n a ρ->∃v,(results fn a.tmps).run P w= .ok v w/\R v w
 |_,_,_=>False
def yC{f:FuncId}{fn:Func}{c:Code}{args:List Value}{R:Value->World->Prop}(hf:P.funcs[f]? =aa fn)(hb:fn.body=aa c)(hn:args.length<=fn.ntmps)
 (h:∀ρ,(∀t v,args[t]? =aa v->ρ t=v)->uE P fn.ntmps c (Ri P fn fn.ntmps R) ρ w):
 Calls P f args.toArray w λe w'=>∃v,e= .returned v/\R v w':=by
 refine calls_of_wp hf hb ?_
 have mz:(args.toArray++Array.replicate (fn.ntmps-args.toArray.size) undef).size=fn.ntmps:=by simp;omega
 refine wp_mono (h (λt=>(args.toArray++Array.replicate (fn.ntmps-args.toArray.size) undef).getD t undef) ?_ _ ⟨mz,rfl,λt=>rfl⟩) λe a' w' ⟨cN,rD,hh⟩=>?_
 .intro t v hv;have bi:t<args.length:=(agJ.1 hv).1
  have dX:args[t]=v:=by rw[agx bi]at hv;exact agq hv
  simp[agT,Array.getElem?_append,bi,dX]
 .cases e with
  |normal=>exact⟨rD.defers,(hh a' rD).imp λv hv=>⟨hv.1,v,rfl,hv.2⟩⟩
  |ret=>exact⟨rD.defers,(hh a' rD).imp λv hv=>⟨hv.1,v,rfl,hv.2⟩⟩
  |_=>exact hh.elim
end
end
end Go.Proofs.YtfeahmiobbjklaaGreatDoor
section
open _root_.Bool renaming false->ag,true->af
open _root_.Option renaming none->ae,some->aa
open _root_.List renaming append_assoc->ahg
open _root_.Nat renaming zero_add->agX
open _root_.Go.Sem renaming run_bind->agL
namespace Go.Proofs.YtfeahmiobbjklaaGreatDoor
open Go Go.RowKit
def p4{α:Type}[BEq α][LawfulBEq α][DecidableEq α](a b:α):(a==b)=decide (a=b):=by
 grind
def run_equal_bool{P:Program}{t:TypeId}(ht:P.underlying t=aa .bool)(p q:Bool)(w:World):(Op.equal t (.bool p) (.bool q)).run P w= .ok (p==q) w:=by
 have h:∀d:Nat,(Op.equalIn (d+1) t (.bool p) (.bool q)).run P w= .ok (p==q) w:=λd=>by
  simp[Op.equalIn,run_underlying ht]
 exact h 9999
section
variable {P:Program} {ρ:Nat->Value} {d:Option Nat} {ty:TypeId} {pos:String} {aft:Array Edge} {x y c:Operand} {t u:TypeId} {k:IntKind} {a b:Int}
def Gf{v:Value}(h:ev ρ x=v):Pure P ρ ⟨d, .move x,ty,pos,aft,ae⟩ v:=λw=>by simp[execOp,h]
def Ae{v:Value}(h:ev ρ x=v):Pure P ρ ⟨d, .assign x,ty,pos,aft,ae⟩ v:=λw=>by simp[execOp,h]
def u0{v:Value}(hc:ev ρ c= .bool af)(hx:ev ρ x=v):Pure P ρ ⟨d, .pick c x y,ty,pos,aft,ae⟩ v:=λw=>by
 simp[execOp,asBool,hc,hx]
def ui{v:Value}(hc:ev ρ c= .bool ag)(hy:ev ρ y=v):Pure P ρ ⟨d, .pick c x y,ty,pos,aft,ae⟩ v:=λw=>by
 simp[execOp,asBool,hc,hy]
def IV(hx:ev ρ x= .int k a)(hy:ev ρ y= .int k b):Pure P ρ ⟨d, .binOp .add t x y u,ty,pos,aft,ae⟩ (.int k (k.wrap (a+b))):=λw=>by
 simp[execOp,eqGuard,binOp,Op.intArith,hx,hy]
def IW(hx:ev ρ x= .int k a)(hy:ev ρ y= .int k b):Pure P ρ ⟨d, .binOp .sub t x y u,ty,pos,aft,ae⟩ (.int k (k.wrap (a-b))):=λw=>by
 simp[execOp,eqGuard,binOp,Op.intArith,hx,hy]
def IX(hx:ev ρ x= .int k a)(hy:ev ρ y= .int k b):Pure P ρ ⟨d, .binOp .mul t x y u,ty,pos,aft,ae⟩ (.int k (k.wrap (a*b))):=λw=>by
 simp[execOp,eqGuard,binOp,Op.intArith,hx,hy]
def IY(hx:ev ρ x= .int k a)(hy:ev ρ y= .int k b)(hb:b≠0):Pure P ρ ⟨d, .binOp .quo t x y u,ty,pos,aft,ae⟩ (.int k (k.wrap (a.tdiv b))):=λw=>by
 simp[execOp,eqGuard,binOp,Op.intDiv,hx,hy,hb]
def IZ(hx:ev ρ x= .int k a)(hy:ev ρ y= .int k b)(hb:b≠0):Pure P ρ ⟨d, .binOp .rem t x y u,ty,pos,aft,ae⟩ (.int k (a.tmod b)):=λw=>by
 simp[execOp,eqGuard,binOp,Op.intDiv,hx,hy,hb]
def I0(hx:ev ρ x= .int k a)(hy:ev ρ y= .int k b):Pure P ρ ⟨d, .binOp .lss t x y u,ty,pos,aft,ae⟩ (.bool (decide (a<b))):=λw=>by
 simp[execOp,eqGuard,binOp,Op.intCmp,hx,hy]
def I1(hx:ev ρ x= .int k a)(hy:ev ρ y= .int k b):Pure P ρ ⟨d, .binOp .leq t x y u,ty,pos,aft,ae⟩ (.bool (decide (a<=b))):=λw=>by
 simp[execOp,eqGuard,binOp,Op.intCmp,hx,hy]
def I2(hx:ev ρ x= .int k a)(hy:ev ρ y= .int k b):Pure P ρ ⟨d, .binOp .gtr t x y u,ty,pos,aft,ae⟩ (.bool (decide (b<a))):=λw=>by
 simp[execOp,eqGuard,binOp,Op.intCmp,hx,hy]
def I3(hx:ev ρ x= .int k a)(hy:ev ρ y= .int k b):Pure P ρ ⟨d, .binOp .geq t x y u,ty,pos,aft,ae⟩ (.bool (decide (b<=a))):=λw=>by
 simp[execOp,eqGuard,binOp,Op.intCmp,hx,hy]
def I4(hx:ev ρ x= .int k a)(hy:ev ρ y= .int k b):Pure P ρ ⟨d, .binOp .eql t x y u,ty,pos,aft,ae⟩ (.bool (decide (a=b))):=λw=>by
 simp[execOp,eqGuard,binOp,Op.intCmp,hx,hy,p4]
def I5(hx:ev ρ x= .int k a)(hy:ev ρ y= .int k b):Pure P ρ ⟨d, .binOp .neq t x y u,ty,pos,aft,ae⟩ (.bool (!decide (a=b))):=λw=>by
 simp[execOp,eqGuard,binOp,Op.intCmp,hx,hy,bne,p4]
def Gg{p q:Bool}(ht:P.underlying t=aa .bool)(hx:ev ρ x= .bool p)(hy:ev ρ y= .bool q):Pure P ρ ⟨d, .binOp .eql t x y u,ty,pos,aft,ae⟩ (.bool (decide (p=q))):=λw=>by
 have h:=run_equal_bool ht p q w;rw[p4]at h;simp only[execOp,eqGuard,hx,hy];simp[binOp,h]
def Gh{p q:Bool}(ht:P.underlying t=aa .bool)(hx:ev ρ x= .bool p)(hy:ev ρ y= .bool q):Pure P ρ ⟨d, .binOp .neq t x y u,ty,pos,aft,ae⟩ (.bool (!decide (p=q))):=λw=>by
 have h:=run_equal_bool ht p q w;rw[p4]at h;simp only[execOp,eqGuard,hx,hy];simp[binOp,h]
def bytes_beq(p q:ByteArray):(p.toList==q.toList)=decide (p=q):=by
 rw[p4]
 congr 1
 rw[ByteArray.toList_eq,ByteArray.toList_eq];refine propext ⟨λh=>?_,λh=>by rw[h]⟩;cases p;cases q;simpa using h
def Gi{p q:ByteArray}(hx:ev ρ x= .string p)(hy:ev ρ y= .string q):Pure P ρ ⟨d, .binOp .eql t x y u,ty,pos,aft,ae⟩ (.bool (decide (p=q))):=λw=>by
 simp[execOp,eqGuard,binOp,Op.stringOp,hx,hy,bytes_beq]
def Gj{p q:ByteArray}(hx:ev ρ x= .string p)(hy:ev ρ y= .string q):Pure P ρ ⟨d, .binOp .neq t x y u,ty,pos,aft,ae⟩ (.bool (!decide (p=q))):=λw=>by
 simp[execOp,eqGuard,binOp,Op.stringOp,hx,hy,bytes_beq]
def I6{p:Bool}(hx:ev ρ x= .bool p):Pure P ρ ⟨d, .unOp .not t x,ty,pos,aft,ae⟩ (.bool !p):=λw=>by
 simp[execOp,Op.unary,hx]
def I7(hx:ev ρ x= .int k a):Pure P ρ ⟨d, .unOp .neg t x,ty,pos,aft,ae⟩ (.int k (k.wrap (0-a))):=λw=>by
 simp[execOp,Op.unary,Op.intArith,hx]
def Gk{k':IntKind}{e:TypeDesc}(hs:P.underlying t=aa e)(hu:P.underlying u=aa (.int k'))(hx:ev ρ x= .int k a):Pure P ρ ⟨d, .convert t u x,ty,pos,aft,ae⟩ (.int k' (k'.wrap a)):=λw=>by
 simp[execOp,convert,run_underlying hs,run_underlying hu,hx,Conv.intToInt]
def I8{e:TypeId}{A:Option Addr}{n cap:Nat}{m:Nat}(hm:m=n)(ht:P.underlying t=aa (.slice e))(hx:ev ρ x= .slice A n cap):
 Pure P ρ ⟨d, .call {callee:= .builtin .len,args:= #[x],argTypes:= #[t]},ty,pos,aft,ae⟩ (.int .i64 (m:Int)):=λw=>by
 subst hm;simp[execOp,resolve,invoke,builtin,Builtin.len_,run_underlying ht,hx,goInt]
def Gl{s:ByteArray}(ht:P.underlying t=aa .string)(hx:ev ρ x= .string s):
 Pure P ρ ⟨d, .call {callee:= .builtin .len,args:= #[x],argTypes:= #[t]},ty,pos,aft,ae⟩ (.int .i64 (s.size:Int)):=λw=>by
 simp[execOp,resolve,invoke,builtin,Builtin.len_,run_underlying ht,hx,goInt]
def Gm{t':TypeId}(hx:ev ρ x= .int k a)(hy:ev ρ y= .int k b):
 Pure P ρ ⟨d, .call {callee:= .builtin .max,args:= #[x,y],argTypes:= #[t,t']},ty,pos,aft,ae⟩ (.int k (if a<b then b else a)):=λw=>by
 simp[execOp,resolve,invoke,builtin,Builtin.max_,Builtin.max2,hx,hy]
def Gn{t':TypeId}(hx:ev ρ x= .int k a)(hy:ev ρ y= .int k b):
 Pure P ρ ⟨d, .call {callee:= .builtin .min,args:= #[x,y],argTypes:= #[t,t']},ty,pos,aft,ae⟩ (.int k (if b<a then b else a)):=λw=>by
 simp[execOp,resolve,invoke,builtin,Builtin.min_,Builtin.min2,hx,hy]
def yD{vs:Array Value}{i:Nat}{v:Value}(hx:ev ρ x= .tuple vs)(hi:vs[i]? =aa v):Pure P ρ ⟨d, .extract x i,ty,pos,aft,ae⟩ v:=λw=>by
 simp[execOp,Instr.extract,hx,hi]
theorem cU(b o k:Nat):(⟨b,o,ae⟩:Addr).add k=⟨b,o+k,ae⟩:=by unfold Addr.add;grind
theorem u7{f:Nat}{fs:Array Field}{fd:Field}{ti:TypeInfo}{nA off:Nat}(k:Nat)(hs:P.underlying t=aa (.struct fs))(hf:fs[f]? =aa fd)(hi:P.info? fd.type=aa ti)(mz:ti.size≠0)(hk:fd.offset=k)
 (hx:ev ρ x= .pointer (aa ⟨nA,off,ae⟩)):Pure P ρ ⟨d, .fieldAddr t x f,ty,pos,aft,ae⟩ (.pointer (aa ⟨nA,off+k,ae⟩)):=λw=>by
 subst hk;simp[execOp,Instr.fieldAt,run_underlying hs,hf,Instr.sureAddr,fieldPlace,sizeOf,typeInfo,hi,mz,hx,cU]
def lZ{e:TypeId}{ti:TypeInfo}{nA off n cap i:Nat}(size:Nat)(ht:P.underlying t=aa (.slice e))(hi:P.info? e=aa ti)(mz:ti.size=size)
 (hx:ev ρ x= .slice (aa ⟨nA,off,ae⟩) n cap)(hy:ev ρ y= .int k a)(ha:a=(i:Int))(bi:i<n):
 Pure P ρ ⟨d, .indexAddr t x y,ty,pos,aft,ae⟩ (.pointer (aa ⟨nA,off+i*size,ae⟩)):=λw=>by
 subst mz;subst ha;simp[execOp,Instr.indexAt,asIntOf,run_underlying ht,sizeOf,typeInfo,hi,hx,hy,bi,cU]
end
end Go.Proofs.YtfeahmiobbjklaaGreatDoor
namespace Go.Proofs.YtfeahmiobbjklaaGreatDoor
open Go Go.RowKit
inductive Path:Row->Row->Type where
 |here {r:Row}:Path r r
 |fst {a b s:Row} (p:Path a s):Path (.pair a b) s
 |snd {a b s:Row} (p:Path b s):Path (.pair a b) s
def Path.off:{r s:Row}->Path r s->Nat
 |_,_, .here=>0
 |_,_, .fst p=>p.off
 |_,_, .snd (a:=a) p=>a.size+p.off
@[reducible] def Path.get:{r s:Row}->Path r s->r.den->s.den
  |_,_, .here,x=>x
  |_,_, .fst p,x=>p.get x.1
  |_,_, .snd p,x=>p.get x.2
@[reducible] def Path.set:{r s:Row}->Path r s->r.den->s.den->r.den
  |_,_, .here,_,y=>y
  |_,_, .fst p,x,y=>(p.set x.1 y,x.2)
  |_,_, .snd p,x,y=>(x.1,p.set x.2 y)
section
variable {F:Nat->Prop} {w:World}
def Path.le:{r s:Row}->(p:Path r s)->p.off+s.size<=r.size
 |_,_, .here=>by simp[Path.off]
 |_,_, .fst p=>by have:=p.le;simp[Path.off];omega
 |_,_, .snd p=>by have:=p.le;simp[Path.off];omega
def cF.path:{r s:Row}->(p:Path r s)->{es:List Value}->{x:r.den}->cF F w r es x->cF F w s ((es.drop p.off).take s.size) (p.get x)
 |_,_, .here,es,x,h=>by
  have:=h.length;simp only[Path.off,List.drop_zero,Path.get]
  grind
 |_,s, .fst (a:=a) p,_,x,h=>by
  obtain⟨c1,c2,rfl,h1,h2⟩:=h;have hr:=cF.path p h1;have hle:=p.le;have hl:=h1.length;simp only[Path.off,Path.get]
  grind
 |_,s, .snd (a:=a) p,_,x,h=>by
  obtain⟨c1,c2,rfl,h1,h2⟩:=h;have hr:=cF.path p h2;have hl:=h1.length;simp only[Path.off,Path.get]
  grind [List.drop_append,List.drop_of_length_le]
def cF.put:{r s:Row}->(p:Path r s)->{es vs:List Value}->{x:r.den}->{y:s.den}->cF F w r es x->cF F w s vs y->
 cF F w r (es.take p.off++vs++es.drop (p.off+s.size)) (p.set x y)
 |_,_, .here,es,vs,x,y,h,hv=>by
  have:=h.length;simp only[Path.off,Path.set,List.take_zero,List.nil_append,agX];rw[<-this,List.drop_length,List.append_nil];exact hv
 |_,s, .fst (a:=a) p,_,vs,x,y,h,hv=>by
  obtain⟨c1,c2,rfl,h1,h2⟩:=h;have hr:=cF.put p h1 hv;have hle:=p.le;have hl:=h1.length;refine⟨_,c2,?_,hr,h2⟩;simp only[Path.off];rw[List.take_append_of_le_length (by omega),List.drop_append_of_le_length (by omega)];simp[ahg]
 |_,s, .snd (a:=a) p,_,vs,x,y,h,hv=>by
  obtain⟨c1,c2,rfl,h1,h2⟩:=h;have hr:=cF.put p h2 hv;have hl:=h1.length;refine⟨c1,_,?_,h1,hr⟩;simp only[Path.off]
  rw[<-hl,List.take_append,List.take_of_length_le (by omega),List.drop_append,List.drop_of_length_le (by omega),show c1.length+p.off-c1.length=p.off from by omega,
   show c1.length+p.off+s.size-c1.length=p.off+s.size from by omega]
  simp[ahg]
def At.path{r s:Row}{b off:Nat}{x:r.den}(h:At F w r b off x)(p:Path r s)(k:Nat)(hk:p.off=k):At F w s b (off+k) (p.get x):=by
 subst hk;obtain⟨es,hl,hc,hr⟩:=h;have hp:=hr.path p;refine⟨_,hp.length,λj u hu=>?_,hp⟩
 grind
def Reads(F:Nat->Prop)(w:World)(r:Row)(v:Value)(l:List r.den):Prop:=
 ∃A cap,v= .slice A l.length cap/\l.length<=cap/\cap<=maxLen/\∀i(h:i<l.length),∃b off,A=aa ⟨b,off,ae⟩/\At F w r b (off+i*r.size) l[i]
def cF.reads{r:Row}{v:Value}{l:List r.den}(h:cF F w (.slice r) [v] l):Reads F w r v l:=by
 obtain⟨A,cap,h1,h2,h3,h4⟩:=h;refine⟨A,cap,by simpa using h1,h2,h3,λi hi=>?_⟩;obtain⟨b,off,es,hA,_,uh,hc,hr⟩:=h4 i hi;exact⟨b,off,hA,es,uh,hc,hr⟩
def idx{α:Type}(l:List α)(i:Int):Option α:=if 0<=i then l[i.toNat]? else ae
theorem gw{α:Type}{l:List α}{i:Int}{y:α}(h:idx l i=aa y):∃k:Nat,i=k/\∃hk:k<l.length,l[k]=y:=by
 grind [idx]
def Reads.elem{r:Row}{v:Value}{l:List r.den}(h:Reads F w r v l){i:Int}{y:r.den}(hi:idx l i=aa y):
 ∃b off cap k,v= .slice (aa ⟨b,off,ae⟩) l.length cap/\i=(k:Nat)/\k<l.length/\At F w r b (off+k*r.size) y:=by
 obtain⟨A,cap,hv,_,_,h4⟩:=h
 grind [gw]
end
section
variable {P:Program} {n:Nat} {ops:Array Oper} {K:(Nat->Value)->World->Prop} {rest:List Oper} {ρ:Nat->Value} {w:World} {F:Nat->Prop}
variable {d:Nat} {ty:TypeId} {pos:String} {aft:Array Edge} {x y:Operand} {t:TypeId}
def gJ:TypeDesc->Bool
 | .struct _| .array _ _=>af
 |_=>ag
def eW{D:TypeDesc}(hu:P.underlying t=aa D)(w:World):(isAgg t).run P w= .ok (gJ D) w:=by
 unfold isAgg;rw[agL,run_underlying hu w]
 cases D<;>simp[gJ]
def xi{dd:Option Nat}{D:TypeDesc}{b off:Nat}{v:Value}(hu:P.underlying t=aa D)(hD:gJ D=ag)(hx:ev ρ x= .pointer (aa ⟨b,off,ae⟩))(hc:w.cell? ⟨b,off,ae⟩=aa v):
 (execOp (ev ρ) ⟨dd, .load t x,ty,pos,aft,ae⟩).run P w= .ok (.value v) w:=by
 simp[execOp,hx,Instr.loadAt,Instr.sureAddr,loadVar,agL,eW hu,hD,hc,go_sem]
def Gp{dd:Option Nat}{D:TypeDesc}{ti:TypeInfo}{b off:Nat}{es:List Value}(hu:P.underlying t=aa D)(hD:gJ D=af)(hi:P.info? t=aa ti)(hs:ti.size=es.length)
 (hx:ev ρ x= .pointer (aa ⟨b,off,ae⟩))(hc:∀j u,es[j]? =aa u->w.cell? ⟨b,off+j,ae⟩=aa u):
 (execOp (ev ρ) ⟨dd, .load t x,ty,pos,aft,ae⟩).run P w= .ok (.value (.agg es.toArray)) w:=by
 have hl:(loadCells ⟨b,off,ae⟩ es.length).run P w= .ok es.toArray w:=
  run_loadCells_list (P:=P) w ⟨b,off,ae⟩ es (λj v hv=>by rw[cU];exact hc j v hv)
 simp[execOp,hx,Instr.loadAt,Instr.sureAddr,loadVar,agL,eW hu,hD,sizeOf,typeInfo,hi,hs,hl]
end
end Go.Proofs.YtfeahmiobbjklaaGreatDoor
end
namespace Go.Proofs.YtfeahmiobbjklaaGreatDoor
open Go Go.RowKit
set_option maxRecDepth 100000
set_option linter.unusedSimpArgs false
set_option linter.unusedVariables false
set_option linter.defProp false
section
def OH{ε α β:Type}{x:Except ε α}{f:α->Except ε β}{b:β}(h:(x >>= f)= .ok b):∃a,f a= .ok b:=by
 cases x with
 |error e=>cases h
 |ok a=>exact⟨a,h⟩
theorem uj{P:Program}{w w':World}{at_ k:Addr}{u:TypeId}{v:Value}{at':Bool}{l:List Addr}(h:World.viewStore P w at_ u k v at'= .ok (w',l)):w'.drawn=w.drawn:=by
 unfold World.viewStore at h
 repeat' (first
  |(obtain⟨_,h⟩:=OH h)
  |(split at h)
  |(cases h;done)
  |(cases h;rfl))
theorem Gq{α:Type}(a:Ask α):(w:World)->w.drawn<=(World.ask w a).2.drawn:=by
 induction a with
 |done a=>intro w;exact agt _
 |ask aaV range k ih=>
  intro w;unfold World.ask
  grind
theorem Gr(w:World)(c:Sys):w.drawn<=(w.sys c).2.drawn:=by
 unfold World.sys
 grind [Gq]
def Gs{P:Program}{α:Type}{a:α}{w':World}(s:Sem α):(w:World)->s.run P w= .ok a w'->w.drawn<=w'.drawn:=by
 induction s with
 |pure a=>simp_all
 |load m a k ih=>
  intro w h;unfold ahZ at h
  grind
 |store m a v k ih=>
  intro w h
  cases v<;>simp only[ahZ]at h<;>first
   |(cases h;done)
   |(split at h
     .split at h
      .cases h
      .have h2:=ih _ h;exact h2
     .split at h
      .rename_i e3;have h2:=ih _ h;unfold World.farStore at e3
       grind [uj]
      .cases h)
 |new o k ih=>intro w h;unfold ahZ at h;grind
 |shape r k ih=>intro w h;unfold ahZ at h;exact ih _ _ h
 |freeze a n k ih=>intro w h;unfold ahZ at h;have:=ih _ h;unfold World.freeze at this;grind
 |frozen a k ih=>intro w h;unfold ahZ at h;exact ih _ _ h
 |getObj r k ih=>intro w h;unfold ahZ at h;grind
 |setObj r o k ih=>intro w h;unfold ahZ at h;grind
 |choose q k ih=>
  intro w h;unfold ahZ at h
  grind
 |sys c k ih=>intro w h;unfold ahZ at h;grind [Gr]
 |program k ih=>intro w h;unfold ahZ at h;exact ih _ _ h
 |mark m k ih=>intro w h;unfold ahZ at h;exact ih _ h
 |halt hh=>simp_all
structure Ext(g:Nat->Prop)(w w':World):Prop where
 os:w'.os=w.os
 tape:w'.tape=w.tape/\w.drawn<=w'.drawn
 output:w'.output=w.output
 size:w.heap.size<=w'.heap.size
 block:∀k,k<w.heap.size->¬g k->w'.heap[k]? =w.heap[k]?
def Ext.I9{g:Nat->Prop}{a b:World}{row:Option Nat}(h:a.grownBy b row)(hd:a.drawn<=b.drawn)(hs:∀k,row=aa k->g k):Ext g a b:=
 ⟨h.os,⟨h.tape,hd⟩,h.output,h.size,λk hk hn=>h.block k hk λe=>hn (hs k e.symm)⟩
section
variable {w0 w w':World} {F0 F F':Nat->Prop} {g:Nat->Prop}
def Step.ext(he:Ext g w w')(hF:∀b,F b->b<w.heap.size)(hg:∀k,g k->¬F k):Step F w F w':=
 λb hb=>⟨hb,he.block b (hF b hb) λe=>hg b e hb⟩
def bF(v:Value)(k:Nat):Prop:=v.ownBlock=aa k
def is(b k:Nat):Prop:=k=b
def mA(w:World)(base:Nat)(e:TypeId)(size:Nat)(v:Value)(n:Nat)(xs:List Value):Prop:=
 xs.length=n*size/\
 ((v= .slice ae 0 0/\n=0)\/
  ∃g o0 cap cur,v= .slice (aa ⟨g,o0,ae⟩) n cap/\base<=g/\w.heap[g]? =aa (.cells cur e (0,0))/\n<=cap/\cap<=maxLen/\o0+cap*size<=cur.size/\(cur.toList.drop o0).take (n*size)=xs)
def mA.of{w:World}{base:Nat}{e:TypeId}{size:Nat}{v:Value}{n:Nat}{xs:List Value}(h:w.ownsRow base e size v n xs):mA w base e size v n xs:=by
 refine⟨h.1,?_⟩
 rcases h.2 with h|⟨g,cap,cur,hv,hb,hg,h1,h2,h3,h4⟩
 .exact .inl h
 .exact .inr ⟨g,0,cap,cur,hv,hb,hg,h1,h2,by omega,h4⟩
def Gt(w:World)(base:Nat)(e:TypeId)(size:Nat):mA w base e size (.slice ae 0 0) 0 []:= .of (World.ownsRow_nil w base e size)
def mA.lt{w:World}{base:Nat}{e:TypeId}{size:Nat}{v:Value}{n:Nat}{xs:List Value}(h:mA w base e size v n xs):∀k,v.ownBlock=aa k->base<=k/\k<w.heap.size:=by
 intro k hk
 rcases h.2 with⟨rfl,_⟩|⟨g,o0,cap,cur,rfl,hb,hg,_⟩
 .cases hk
 .obtain rfl:g=k:=by simpa[agI]using hk
  grind
def lJ(base:Nat)(F:Nat->Prop)(w:World)(T:TypeId)(r:Row)(v:Value)(l:List r.den):Prop:=
 (∀k,bF v k->¬F k)/\∃xs,mA w base T r.size v l.length xs/\∀i(h:i<l.length),cF F w r ((xs.drop (i*r.size)).take r.size) l[i]
variable {base b:Nat} {T:TypeId} {r:Row}
def lJ.lt{v:Value}{l:List r.den}(h:lJ base F w T r v l):∀k,bF v k->k<w.heap.size:=by
 obtain⟨_,xs,h,_⟩:=h
 exact λk hk=>(h.lt k hk).2
def lJ.no{v:Value}{l:List r.den}(h:lJ base F w T r v l):∀k,bF v k->¬F k:=h.1
theorem lJ.nil(base:Nat)(F:Nat->Prop)(w:World)(T:TypeId)(r:Row):lJ base F w T r (.slice ae 0 0) []:=
 ⟨λk hk=>by simp[bF,agI]at hk,[],Gt _ _ _ _,λi h=>absurd h (by simp)⟩
def lJ.reads{v:Value}{l:List r.den}(h:lJ base F w T r v l):Reads F w r v l:=by
 obtain⟨_,xs,hx,h3⟩:=h;have hlen:=hx.1
 rcases hx.2 with⟨rfl,h0⟩|⟨gg,o0,cap,cur,rfl,hb,hg,h1,h2,qQ,Ja⟩
 .exact⟨ae,0,by rw[h0],by omega,by simp[maxLen],λi hi=>absurd hi (by omega)⟩
 .refine⟨_,cap,rfl,h1,h2,λi hi=>⟨gg,o0,rfl,_,(h3 i hi).length,λj u hu=>?_,h3 i hi⟩⟩
  grind [Go.cell_of_row]
def lJ.freeze{v:Value}{l:List r.den}(h:lJ base F w T r v l):cF (λb=>F b\/bF v b) w (.slice r) [v] l:=by
 obtain⟨A,cap,hv,h1,h2,h3⟩:=h.reads;refine⟨A,cap,by rw[hv],h1,h2,λi hi=>?_⟩;obtain⟨b,off,rfl,es,uh,hc,hr⟩:=h3 i hi;subst hv;exact⟨b,off,es,rfl, .inr (by simp[bF,agI]),uh,hc,hr.step λb hb=>⟨.inl hb,rfl⟩⟩
@[reducible] def Row.zero:(r:Row)->r.den
  | .int _=>(0:Int)
  | .bool=>ag
  | .str=>ByteArray.empty
  | .slice _=>[]
  | .lE=> .slice ae 0 0
  | .nul _=>()
  | .map .. =>[]
  | .pair a b=>(a.zero,b.zero)
def Row.eD:(r:Row)->List Value
 | .int k=>[.int k 0]
 | .bool=>[.bool ag]
 | .str=>[.string ByteArray.empty]
 | .slice _=>[.slice ae 0 0]
 | .lE=>[.slice ae 0 0]
 | .nul k=>[k.val]
 | .map .. =>[.map ae]
 | .pair a b=>a.eD++b.eD
theorem cF.zero(F:Nat->Prop)(w:World):(r:Row)->cF F w r r.eD r.zero
 | .int _=>rfl
 | .bool=>rfl
 | .str=>rfl
 | .slice e=>cF.nil F w e
 | .lE=>⟨rfl,ae,0,0,rfl⟩
 | .nul _=>rfl
 | .map .. =>⟨_,rfl, .inl ⟨rfl,rfl⟩⟩
 | .pair a b=>⟨_,_,rfl,cF.zero F w a,cF.zero F w b⟩
end
section
variable {P:Program} {n:Nat} {ops:Array Oper} {K:(Nat->Value)->World->Prop} {rest:List Oper} {ρ:Nat->Value} {w:World} {F:Nat->Prop} {base:Nat}
variable {d:Nat} {ty:TypeId} {pos:String} {aft:Array Edge} {x y:Operand} {t:TypeId}
def Gu{dd:Option Nat}{ti:TypeInfo}{z:Value}(hi:P.info? t=aa ti)(hz:ti.zero=aa z):
 (execOp (ev ρ) ⟨dd, .alloc t,ty,pos,aft,ae⟩).run P w= .ok (.value (.pointer (aa ⟨w.heap.size,0,ae⟩))) (w.alloc (.cells z.cells t)):=by
 simp[execOp,Instr.alloc,zeroValue,typeInfo,hi,hz,newVar,newRow]
def Mb{dd:Option Nat}{v:Value}(hx:ev ρ x=v):
 (execOp (ev ρ) ⟨dd, .box t x,ty,pos,aft,ae⟩).run P w= .ok (.value (.pointer (aa ⟨w.heap.size,0,ae⟩))) (w.alloc (.cells v.cells t)):=by
 simp[execOp,Instr.box,hx,newVar,newRow]
def oj{dd:Option Nat}{ti:TypeInfo}{b off:Nat}{cur:Array Value}{T:TypeId}{v:Value}{vs:List Value}(hi:P.info? t=aa ti)(hs:ti.size=vs.length)(hx:ev ρ x= .pointer (aa ⟨b,off,ae⟩))(hy:ev ρ y=v)
 (hv:v.cells.toList=vs)(h1:∀u∈vs,u.oneCell'=af)(hg:w.heap[b]? =aa (.cells cur T (0,0)))(hl:off+vs.length<=cur.size):
 (execOp (ev ρ) ⟨dd, .store t x y,ty,pos,aft,ae⟩).run P w= .ok .skip (w.setRow b (cur.toList.take off++vs++cur.toList.drop (off+vs.length)).toArray):=by
 have gx:=run_storeCells_at P b off T vs 0 cur w hg (by omega) h1
 have mz:v.cells.size=ti.size:=by rw[hs,<-hv];simp
 simp only[Nat.add_zero]at gx;simp[execOp,Instr.storeAt,Instr.sureAddr,storeVar,sizeOf,typeInfo,hi,mz,hx,hy,hv,gx]
def og{α:Type}(m:Int)(z:α):Option (List α):=if 0<=m/\m<=4294967296 then aa (agv m.toNat z)else ae
def cr{α:Type}(l m:List α):Option (List α):=if l.length+m.length<=4294967296 then aa (l++m)else ae
theorem rE(z:Array Value)(m j:Nat)(hj:j<m)(hz:0<z.size):(madeCells z m).toList[j]? =z[j%z.size]? :=by
 have:j%z.size<z.size:=ahj _ hz;simp[madeCells,hj,this]
theorem Jb(z:List Value)(m i:Nat)(hz:0<z.length)(hi:i<m):(((madeCells z.toArray (m*z.length)).toList.drop (i*z.length)).take z.length)=z:=by
 apply List.ext_getElem?
 intro j;rw[ag7,agU];split
 .rename_i hj;have hle:(i+1)*z.length<=m*z.length:=agA _ hi
  grind [rE,Nat.add_mul_mod_self_right,Nat.mod_eq_of_lt]
 grind
def Reads.news{r:Row}{A:Option Addr}{cap m:Nat}{l:List r.den}(h:Reads F w r (.slice A m cap) l)(b off:Nat)(hA:A=aa ⟨b,off,ae⟩):
 ∃news:List Value,news.length=l.length*r.size/\(∀j u,news[j]? =aa u->w.cell? ⟨b,off+j,ae⟩=aa u)/\∀i(hi:i<l.length),cF F w r ((news.drop (i*r.size)).take r.size) l[i]:=by
 subst hA;obtain⟨A',Jc,hv,_,_,h4⟩:=h;simp only[ahH]at hv;obtain⟨rfl,_,_⟩:=hv;have qA:=r.size_pos
 have uZ:∀j,j<l.length*r.size->∃u,w.cell? ⟨b,off+j,ae⟩=aa u:=by
  intro j hj;have hi:j/r.size<l.length:=Nat.div_lt_of_lt_mul (by rwa [agO]);obtain⟨b',dK,qR,es,uh,hc,_⟩:=h4 _ hi;simp only[agz,Addr.mk.injEq,and_true]at qR;obtain⟨rfl,rfl⟩:=qR
  have QT:j%r.size<es.length:=by rw[uh];exact ahj _ qA
  have:=hc (j%r.size) _ (agx QT);rw[Nat.add_assoc,Nat.div_add_mod']at this;exact⟨_,this⟩
 have Mc:∀j u,((agw (l.length*r.size)).map λj=>(w.cell? ⟨b,off+j,ae⟩).getD undef)[j]? =aa u↔j<l.length*r.size/\w.cell? ⟨b,off+j,ae⟩=aa u:=by
  intro j u;by_cases hj:j<l.length*r.size
  .obtain⟨q,hq⟩:=uZ j hj;simp[hj,hq]
  .simp[hj]
 refine⟨(agw (l.length*r.size)).map λj=>(w.cell? ⟨b,off+j,ae⟩).getD undef,by simp,λj u hu=>((Mc j u).1 hu).2,λi hi=>?_⟩;obtain⟨b',dK,qR,es,uh,hc,hr⟩:=h4 i hi;simp only[agz,Addr.mk.injEq,and_true]at qR;obtain⟨rfl,rfl⟩:=qR
 have he:(((agw (l.length*r.size)).map λj=>(w.cell? ⟨b,off+j,ae⟩).getD undef).drop (i*r.size)).take r.size=es:=by
  have hle:(i+1)*r.size<=l.length*r.size:=agA _ hi;rw[agP]at hle
  apply List.ext_getElem?
  intro j;rw[ag7,agU];split
  .rename_i hj;rw[(Mc (i*r.size+j) (es[j]'(by omega))).2 ⟨by omega,by rw[<-Nat.add_assoc];exact hc j _ (agx (by omega))⟩,agx (by omega)]
  .rw[List.getElem?_eq_none (by omega)]
 rw[he];exact hr
def rF(w:World)(base:Nat)(t ty e:TypeId)(i:TypeInfo)(size:Nat)(ht:P.underlying t=aa (.slice e))(hi:P.info? e=aa i)
 (v:Value)(n:Nat)(xs:List Value)(dS:mA w base e size v n xs)(c:Nat):(ahK #[t,t] ty #[v, .slice ae 0 c]).run P w= .ok v w:=by
 rcases dS.2 with⟨rfl,rfl⟩|⟨g,o0,cap,cur,rfl,_,_,Rj,_⟩
 .simp[ahK,run_underlying ht,sizeOf,typeInfo,hi,Builtin.lenOf,Builtin.firstCells]
 .simp[ahK,run_underlying ht,sizeOf,typeInfo,hi,Builtin.lenOf,Builtin.firstCells,Rj,storeCells]
def yE(w:World)(base:Nat)(t ty e:TypeId)(i:TypeInfo)(z:Value)(size bytes:Nat)(ht:P.underlying t=aa (.slice e))(hi:P.info? e=aa i)(hz:i.zero=aa z)
 (NV:i.size=size)(IC:i.bytes=bytes)(Rk:z.cells.size=size)(mz:0<size)
 (v:Value)(n:Nat)(xs:List Value)(dS:mA w base e size v n xs)
 (a:Addr)(m c:Nat)(news:List Value)(hl:news.length=m*size)(Jd:∀j u,news[j]? =aa u->w.cell? (a.add j)=aa u)(h1:∀u∈news,u.oneCell'=af)
 (U9:n+m<=maxLen)(Je:(n+m)*bytes<=140737488355328)(NW:base<=w.heap.size):
 ∃v' w',(ahK #[t,t] ty #[v, .slice (aa a) m c]).run P w= .ok v' w'/\mA w' base e size v' (n+m) (xs++news)/\w.grownBy w' v.ownBlock/\
  (v'.ownBlock=v.ownBlock\/v'.ownBlock=aa w.heap.size):=by
 rcases dS.2 with⟨rfl,rfl⟩|⟨g,o0,cap,cur,rfl,hbg,hg,Rj,OI,qQ,Ja⟩
 .have hx:xs=[]:=List.eq_nil_of_length_eq_zero (by simpa using dS.1);subst hx;obtain⟨v',w',g1,g2,g3,_,g4⟩:=run_append_own_at (P:=P) w base t ty e i z size bytes ht hi hz NV IC Rk mz (.slice ae 0 0) 0 [] (World.ownsRow_nil w base e size) a m c news hl Jd h1 U9 Je NW;exact⟨v',w',g1, .of g2,g3,g4⟩
 subst NV;subst IC
 have Va:n+m<=9223372036854775807:=by simp only[maxLen]at U9;omega
 have hlen:(xs++news).length=(n+m)*i.size:=by rw[List.length_append,dS.1,hl,agP]
 have hnm:n*i.size+news.length=(n+m)*i.size:=by rw[hl,agP]
 have aaX:n*i.size<=cap*i.size:=agA _ Rj;by_cases Jf:n+m<=cap
 .have Af:(n+m)*i.size<=cap*i.size:=agA _ Jf;have hf:=run_firstCells_some (P:=P) w i.size m a m c news hl Jd;have gx:=run_storeCells_at P g (o0+n*i.size) e news 0 cur w hg (by omega) h1;simp only[Nat.add_zero]at gx
  have hr:(ahK #[t,t] ty #[.slice (aa ⟨g,o0,ae⟩) n cap, .slice (aa a) m c]).run P w=
   .ok (.slice (aa ⟨g,o0,ae⟩) (n+m) cap) (w.setRow g (cur.toList.take (o0+n*i.size)++news++cur.toList.drop (o0+n*i.size+news.length)).toArray):=by
   simp[ahK,run_underlying ht,sizeOf,typeInfo,hi,Builtin.lenOf,Jf,hf,Addr.add_lit,gx]
  refine⟨_,_,hr,⟨hlen, .inr ⟨g,o0,cap,_,rfl,hbg,setRow_heap w g cur _ e _ hg,Jf,OI,?_,?_⟩⟩,⟨rfl,rfl,rfl,by simp,λk _ hk=>setRow_other w g k _ (λe=>hk (by simp[agI,e]))⟩,Or.inl rfl⟩
  all_goals grind
 .have holds:∀j u,xs[j]? =aa u->w.cell? ((⟨g,o0,ae⟩:Addr).add j)=aa u:=λj u hj=>by
   grind [cU,Go.cell_of_row]
  have hr:=run_append_grow (P:=P) w t ty e i z ht hi hz ⟨g,o0,ae⟩ n cap xs dS.1 holds a m c news hl Jd (by omega) (by omega) (growslice_fits (by omega) Je);have hge:=grownCap_ge w (n+m) cap e;have Vb:grownCap w (n+m) cap e<=maxLen:=grownCap_le_maxLen w (n+m) cap e U9;refine⟨_,_,hr, .of ⟨hlen, .inr ⟨w.heap.size,_,_,rfl,NW,heap_alloc_new w.drew _,hge,Vb,?_,?_⟩⟩,⟨rfl,rfl,rfl,by simp,λk hk _=>heap_alloc_old w.drew _ hk⟩,Or.inr rfl⟩
  .simp only[Array.size_append,List.size_toArray,size_zeroCells,Rk,dS.1,hl,<-agP]
   grind
  grind
def u9{e:TypeId}{ti:TypeInfo}{z:Value}{r:Row}{v u:Value}{l m out:List r.den}(ty:TypeId)(ht:P.underlying t=aa (.slice e))(hi:P.info? e=aa ti)(hz:ti.zero=aa z)(Vc:z.cells.toList=r.eD)(hs:ti.size=r.size)(IC:ti.bytes<=32768)
 (hv:lJ base F w e r v l)(hu:Reads F w r u m)(hm:cr l m=aa out)(hF:∀b,F b->b<w.heap.size)(hb:base<=w.heap.size):
 ∃v' w',(ahK #[t,t] ty #[v,u]).run P w= .ok v' w'/\Ext (bF v) w w'/\lJ base F w' e r v' out/\(bF v'=bF v\/bF v'=(w.heap.size= ·)):=by
 unfold cr at hm;split at hm
 case isFalse=>cases hm
 rename_i hlen;obtain rfl:=agq hm
 have Rk:z.cells.size=r.size:=by rw[<-(cF.zero F w r).length,<-Vc];simp
 obtain⟨CO,xs,hx,h3⟩:=hv;have UD:=hu;obtain⟨A,cap,rfl,hmc,OI,uh⟩:=hu
 have Gv:∀(v':Value)(w':World)(news:List Value),news.length=m.length*r.size->(∀i(hi:i<m.length),cF F w r ((news.drop (i*r.size)).take r.size) m[i])->
  mA w' base e r.size v' (l.length+m.length) (xs++news)->w.grownBy w' v.ownBlock->w.drawn<=w'.drawn->(v'.ownBlock=v.ownBlock\/v'.ownBlock=aa w.heap.size)->
  Ext (bF v) w w'/\lJ base F w' e r v' (l++m)/\(bF v'=bF v\/bF v'=(w.heap.size= ·)):=by
  intro v' _ news UE UF gy hg lE CP
  have hm:bF v'=bF v\/bF v'=(w.heap.size= ·):=by
   rcases CP with h|h
   .exact .inl (by unfold bF;rw[h])
   .refine .inr ?_;funext b;unfold bF;rw[h];simp
  have bC:=Ext.I9 hg lE (g:=bF v) λk hk=>hk
  have dB:=Step.ext bC hF CO;refine⟨bC,⟨λk hk=>?_,xs++news,by simpa using gy,λk hk=>?_⟩,hm⟩
  .rcases hm with h|h
   .rw[h]at hk;exact CO k hk
   .rw[h]at hk;intro hf;have:=hF k hf;omega
  .have Gw:=hx.1
   rcases Nat.lt_or_ge k l.length with bi|hge
   .have hle:(k+1)*r.size<=l.length*r.size:=agA _ bi;rw[agP]at hle;rw[ag4 bi,List.drop_append_of_le_length (by omega),List.take_append_of_le_length (by rw[List.length_drop];omega)];exact(h3 k bi).step dB
   .have OJ:k-l.length<m.length:=by simp at hk;omega
    have hmul:k*r.size=l.length*r.size+(k-l.length)*r.size:=by rw[<-agP];congr 1;omega
    rw[ahc hge,List.drop_append,Gw,List.drop_of_length_le (by omega),List.nil_append,show k*r.size-l.length*r.size=(k-l.length)*r.size from by omega];exact(UF _ OJ).step dB
 cases A with
 |none=>
  have hm0:m=[]:=by
   cases m with
   |nil=>rfl
   |cons a q=>obtain⟨b,off,h,_⟩:=uh 0 (by simp);cases h
  subst hm0;refine⟨v,w,rF w base t ty e ti r.size ht hi v _ xs hx _,?_⟩;exact Gv v w [] (by simp) (λi hi=>absurd hi (by simp)) (by simpa using hx) ⟨rfl,rfl,rfl,agt _,λ_ _ _=>rfl⟩ (agt _) (.inl rfl)
 |some ad=>
  have key:∃news:List Value,news.length=m.length*r.size/\(∀j u,news[j]? =aa u->w.cell? (ad.add j)=aa u)/\∀i(hi:i<m.length),cF F w r ((news.drop (i*r.size)).take r.size) m[i]:=by
   cases m with
   |nil=>exact⟨[],by simp,λj u h=>by simp at h,λi hi=>absurd hi (by simp)⟩
   |cons a q=>
    obtain⟨b,off,h,_⟩:=uh 0 (by simp);obtain⟨news,h1,h2,h3⟩:=UD.news b off h
    obtain rfl:ad=⟨b,off,ae⟩:=by simpa using h
    exact⟨news,h1,λj u hj=>by rw[cU];exact h2 j u hj,h3⟩
  obtain⟨news,UE,Rj,UF⟩:=key
  have kA:∀u∈news,u.oneCell'=af:=by
   intro u hu;obtain⟨j,hj,rfl⟩:=List.getElem_of_mem hu;have qA:=r.size_pos;have hi:j/r.size<m.length:=Nat.div_lt_of_lt_mul (by rw[agO,<-UE];exact hj);have hr:=UF _ hi;refine hr.jk _ ?_;have hle:(j/r.size)*r.size+j%r.size=j:=Nat.div_add_mod' j r.size;have bi:=ahj j qA;rw[List.mem_iff_getElem?];refine⟨j%r.size,?_⟩;rw[ag7,aj bi,agU,hle,agx hj]
  obtain⟨v',w',bj,gy,hg,CP⟩:=yE (P:=P) w base t ty e ti z r.size ti.bytes ht hi hz hs rfl Rk r.size_pos v l.length xs hx ad m.length cap news UE Rj kA (by simp only[maxLen];omega)
   (agR (Nat.mul_le_mul hlen IC) (by omega)) hb
  exact⟨v',w',bj,Gv v' w' news UE UF gy hg (Gs _ _ bj) CP⟩
end
end
end Go.Proofs.YtfeahmiobbjklaaGreatDoor
section
open _root_.Bool renaming false->ag,true->af,false_eq_true->ags
open _root_.Option renaming none->ae,some->aa
open _root_.List.cons renaming injEq->ahl
open _root_.List renaming length_take->ahv
open _root_.Nat renaming beq->agu,min_eq_left->ahs
open _root_.Option.some renaming injEq->agz
open _root_.Go.Result renaming andThen_ok->ahh
open _root_.Go.Sem renaming run_bind->agL
namespace Go.Proofs.YtfeahmiobbjklaaGreatDoor
open Go Go.RowKit
def bind_some{α β:Type}{o:Option α}{f:α->Option β}{r:β}(h:o.bind f=aa r):∃x,o=aa x/\f x=aa r:=Option.bind_eq_some_iff.1 h
section
variable {P:Program} {n:Nat} {ρ:Nat->Value} {w:World} {K:(Nat->Value)->World->Prop} {Q:Exit->(Nat->Value)->World->Prop}
def Jg{id:Nat}(h:Q .normal ρ w):QS id Q (.exit id) ρ w:=by
 show(bif agu id id then _ else _)
 simp_all
def Gx{id Gd:Nat}(dJ:agu Gd id=ag)(h:Q (.exit Gd) ρ w):QS id Q (.exit Gd) ρ w:=by
 show(bif agu Gd id then _ else _)
 grind
end
def TI(P:Program)(e:TypeId)(r:Row):Prop:=∃ti z,P.info? e=aa ti/\ti.zero=aa z/\z.cells.toList=r.eD/\ti.size=r.size/\ti.bytes<=32768
def TI.mk{P:Program}{e:TypeId}{r:Row}{k:Nat}(h:(P.info? e).map (λi=>(i.zero.map (λz=>z.cells.toList),i.size,decide (i.bytes<=32768)))=aa (aa r.eD,k,af))(hk:k=r.size):TI P e r:=by
 cases hi:P.info? e with
 |none=>simp[hi]at h
 |some ti=>
  simp only[hi,Option.map_some,agz,Prod.mk.injEq,aw]at h;obtain⟨h1,h2,h3⟩:=h
  cases hz:ti.zero with
  |none=>simp[hz]at h1
  |some z=>
   simp only[hz,Option.map_some,agz]at h1;exact⟨ti,z,hi,hz,h1,h2.trans hk,h3⟩
section
variable {P:Program} {n:Nat} {ops:Array Oper} {K:(Nat->Value)->World->Prop} {rest:List Oper} {ρ:Nat->Value} {w:World} {F:Nat->Prop} {base:Nat}
variable {d:Nat} {dd:Option Nat} {ty:TypeId} {pos:String} {aft:Array Edge} {x y c:Operand} {t e:TypeId} {r:Row}
def mC{f:Nat}{fs:Array Field}{fd:Field}{nA off:Nat}(k:Nat)(hs:P.underlying t=aa (.struct fs))(hf:fs[f]? =aa fd)(hi:TI P fd.type r)(hk:fd.offset=k)
 (hx:ev ρ x= .pointer (aa ⟨nA,off,ae⟩)):Pure P ρ ⟨dd, .fieldAddr t x f,ty,pos,aft,ae⟩ (.pointer (aa ⟨nA,off+k,ae⟩)):=by
 obtain⟨ti,z,h1,_,_,h4,_⟩:=hi
 grind [u7,Row.size_pos]
end
end Go.Proofs.YtfeahmiobbjklaaGreatDoor
namespace Go.Proofs.YtfeahmiobbjklaaGreatDoor
open Go Go.RowKit
noncomputable def nz(r:Row)(x y:r.den):Bool:= @decide (x=y) (Row.decEq r x y)
theorem uF{r:Row}{x y:r.den}:nz r x y=af↔x=y:=by simp[nz]
def sD{r:Row}{x y:r.den}:nz r x y=ag↔x≠y:=by simp[nz]
def Jh(P:Program)(t:TypeId)(cs:List Value)(v:Value):Prop:=∃D,P.underlying t=aa D/\(if gJ D=af then v= .agg cs.toArray else cs=[v])
def qB(P:Program)(t:TypeId)(r:Row)(K:Nat):Prop:=
 ∀(d:Nat)(w2 w:World)(F:Nat->Prop)(cs uk:List Value)(x y:r.den)(v v':Value),Jh P t cs v->Jh P t uk v'->cF F w r cs x->cF F w r uk y->
  (Op.equalIn (d+K) t v v').run P w2= .ok (decide (x=y)) w2
def Md(P:Program)(fs:List Field)(r:Row)(off K:Nat):Prop:=
 ∀(d:Nat)(w2 w:World)(F:Nat->Prop)(xs ys:List Value)(x y:r.den),cF F w r ((xs.drop off).take r.size) x->cF F w r ((ys.drop off).take r.size) y->
  (Op.eqFields (d+K) xs.toArray ys.toArray fs).run P w2= .ok (decide (x=y)) w2
section
variable {P:Program} {t:TypeId} {r:Row} {k:IntKind} {K:Nat}
def EP(ht:P.underlying t=aa (.int k)):qB P t (.int k) 1:=by
 intro d w2 w F cs uk x y v v' ⟨D,hD,h1⟩ ⟨D',Me,h2⟩ hx hy;rw[ht]at hD Me;cases hD;cases Me;obtain rfl:cs=_:=hx;obtain rfl:uk=_:=hy;simp only[gJ,ags,if_false,ahl,and_true]at h1 h2;subst h1;subst h2;rw[run_equalIn_int (h:=ht),p4]
def rG{D:TypeDesc}{ti:TypeInfo}{cs:List Value}{off:Nat}{F:Nat->Prop}{w:World}{x:r.den}(hD:P.underlying t=aa D)(hi:P.info? t=aa ti)(hs:ti.size=r.size)(kA:gJ D=ag->r.size=1)
 (hr:cF F w r ((cs.drop off).take r.size) x)(w2:World):∃v,(part t cs.toArray off).run P w2= .ok v w2/\Jh P t ((cs.drop off).take r.size) v:=by
 have hl:=hr.length;have qA:=r.size_pos
 cases hA:gJ D with
 |true=>
  refine⟨.agg ((cs.drop off).take r.size).toArray,?_,D,hD,by rw[aj hA]⟩;unfold part;rw[agL,eW hD,hA];simp[sizeOf,typeInfo,hi,hs]
 |false=>
  have h1:=kA hA;rw[h1]at hl⊢
  have bi:off<cs.length:=by
   rw[ahv,List.length_drop]at hl;omega
  refine⟨cs[off],?_,D,hD,?_⟩
  .unfold part;rw[agL,eW hD,hA];simp[bi]
  .rw[ai (by simp[hA])]
   grind [List.drop_eq_getElem_cons]
def nB{f:Field}{off:Nat}(hn:(f.name != "_")=af)(ho:f.offset=off){D:TypeDesc}(hD:P.underlying f.type=aa D)(kA:gJ D=ag->r.size=1)(hi:TI P f.type r)(he:qB P f.type r K):Md P [f] r off K:=by
 intro d w2 w F xs ys x y hx hy;subst ho;obtain⟨ti,z,h1,_,_,h4,_⟩:=hi;obtain⟨v,hv,mD⟩:=rG hD h1 h4 kA hx w2;obtain⟨v',dX,Gy⟩:=rG hD h1 h4 kA hy w2;have:=he d w2 w F _ _ x y v v' mD Gy hx hy
 have Ji:f.name≠ "_" :=by simpa using hn
 unfold Op.eqFields;rw[aj Ji,agL,hv,ahh,agL,dX,ahh,agL,this,ahh]
 by_cases rv:x=y<;>simp[rv,Op.eqFields]
def gU{f:Field}{fs:List Field}{a b:Row}{off:Nat}(hn:(f.name != "_")=af)(ho:f.offset=off){D:TypeDesc}(hD:P.underlying f.type=aa D)(kA:gJ D=ag->a.size=1)(hi:TI P f.type a)(he:qB P f.type a K)
 (hr:Md P fs b (off+a.size) K):Md P (f::fs) (.pair a b) off K:=by
 intro d w2 w F xs ys x y hx hy;subst ho;obtain⟨ti,z,h1,_,_,h4,_⟩:=hi
 have hle:a.size<=(Row.pair a b).size:=by simp
 have gK:∀(zs:List Value)(u:(Row.pair a b).den),cF F w (.pair a b) ((zs.drop f.offset).take (Row.pair a b).size) u->cF F w a ((zs.drop f.offset).take a.size) u.1:=by
  intro zs u hu;have:=cF.path (.fst (.here (r:=a)):Path (.pair a b) a) hu;simp only[Path.off,List.drop_zero]at this;rw[List.take_take,ahs hle]at this;exact this
 have Rl:∀(zs:List Value)(u:(Row.pair a b).den),cF F w (.pair a b) ((zs.drop f.offset).take (Row.pair a b).size) u->cF F w b ((zs.drop (f.offset+a.size)).take b.size) u.2:=by
  intro zs u hu;have:=cF.path (.snd (.here (r:=b)):Path (.pair a b) b) hu;simp only[Path.off,Nat.add_zero]at this;rw[List.drop_take,List.drop_drop]at this;rw[show(Row.pair a b).size-a.size=b.size from by simp]at this;rw[List.take_take,Nat.min_self]at this;exact this
 obtain⟨v,hv,mD⟩:=rG hD h1 h4 kA (gK xs x hx) w2;obtain⟨v',dX,Gy⟩:=rG hD h1 h4 kA (gK ys y hy) w2;have h5:=he d w2 w F _ _ _ _ v v' mD Gy (gK xs x hx) (gK ys y hy);have h6:=hr d w2 w F xs ys _ _ (Rl xs x hx) (Rl ys y hy)
 have Ji:f.name≠ "_" :=by simpa using hn
 unfold Op.eqFields;rw[aj Ji,agL,hv,ahh,agL,dX,ahh,agL,h5,ahh];obtain⟨x1,x2⟩:=x;obtain⟨y1,y2⟩:=y;by_cases rv:x1=y1
 .simp only[rv,decide_true,Bool.not_true,ags,if_false,h6]
  congr 1
  simp[Prod.ext_iff]
 .simp[rv,Prod.ext_iff]
def kG{fs:Array Field}(ht:P.underlying t=aa (.struct fs))(hp:P.stoodInHeld t=ag)(h:Md P fs.toList r 0 K):qB P t r (K+1):=by
 intro d w2 w F cs uk x y v v' ⟨D,hD,h1⟩ ⟨D',Me,h2⟩ hx hy;rw[ht]at hD Me;cases hD;cases Me;simp only[gJ,if_true]at h1 h2;subst h1;subst h2
 have hf:P.fieldsOf t=fs:=by simp[Program.fieldsOf,ht]
 have Rm:=hx.length;have Vd:=hy.length;rw[<-Nat.add_assoc,run_equalIn_struct _ _ _ _ _ (by grind) hp,hf];exact h d w2 w F cs uk x y (by rw[List.drop_zero,<-Rm,List.take_length];exact hx) (by grind)
variable {ρ:Nat->Value} {dd:Option Nat} {ty:TypeId} {pos:String} {aft:Array Edge} {x y:Operand} {u:TypeId}
def Gz{d:Nat}{F:Nat->Prop}{w:World}{es lK:List Value}{a b:r.den}(hE:qB P t r K)(hd:d+K=10000)(hg:P.eqGuardType P.depth t=ag)(hD:(P.underlying t).any gJ=af)
 (hx:ev ρ x= .agg es.toArray)(hy:ev ρ y= .agg lK.toArray)(ha:cF F w r es a)(hb:cF F w r lK b):
 Pure P ρ ⟨dd, .binOp .eql t x y u,ty,pos,aft,ae⟩ (.bool (nz r a b)):=λw2=>by
 cases hu:P.underlying t with
 |none=>simp[hu]at hD
 |some D=>
  have hA:gJ D=af:=by simpa[hu]using hD
  have:=hE d w2 w F es lK a b _ _ ⟨D,hu,by rw[aj hA]⟩ ⟨D,hu,by rw[aj hA]⟩ ha hb;rw[hd]at this;simp only[execOp,hx,hy,agL,run_eqGuard_agg _ _ _ _ _ _ _ hg,ahh,run_eql_struct,this];rfl
def GA{d:Nat}{F:Nat->Prop}{w:World}{es lK:List Value}{a b:r.den}(hE:qB P t r K)(hd:d+K=10000)(hg:P.eqGuardType P.depth t=ag)(hD:(P.underlying t).any gJ=af)
 (hx:ev ρ x= .agg es.toArray)(hy:ev ρ y= .agg lK.toArray)(ha:cF F w r es a)(hb:cF F w r lK b):
 Pure P ρ ⟨dd, .binOp .neq t x y u,ty,pos,aft,ae⟩ (.bool (!nz r a b)):=λw2=>by
 cases hu:P.underlying t with
 |none=>simp[hu]at hD
 |some D=>
  have hA:gJ D=af:=by simpa[hu]using hD
  have:=hE d w2 w F es lK a b _ _ ⟨D,hu,by rw[aj hA]⟩ ⟨D,hu,by rw[aj hA]⟩ ha hb;rw[hd]at this;simp only[execOp,hx,hy,agL,run_eqGuard_agg _ _ _ _ _ _ _ hg,ahh,run_neq_struct,this];rfl
end
section
variable {P:Program} {n:Nat} {ops:Array Oper} {K:(Nat->Value)->Prop} {rest:List Oper} {ρ:Nat->Value} {w:World} {F:Nat->Prop}
variable {d:Nat} {ty:TypeId} {pos:String} {aft:Array Edge} {x y:Operand} {t e:TypeId} {r:Row}
end
end Go.Proofs.YtfeahmiobbjklaaGreatDoor
end
namespace Go.Proofs.YtfeahmiobbjklaaGreatDoor
open Go Go.RowKit
set_option maxRecDepth 100000
set_option linter.unusedSimpArgs false
set_option linter.unusedVariables false
set_option linter.defProp false
section
section
variable {P:Program} {n:Nat} {ops:Array Oper} {K:(Nat->Value)->World->Prop} {rest:List Oper} {ρ:Nat->Value} {w:World} {F:Nat->Prop} {base:Nat}
variable {d:Nat} {ty:TypeId} {pos:String} {aft:Array Edge} {x y:Operand} {t e:TypeId} {r s:Row}
def bG{α:Type}(l:List α)(i:Int)(y:α):List α:=l.set i.toNat y
def lJ.put{g o0 m0 OK q:Nat}{v:Value}{l:List r.den}(h:lJ base F w e r v l)(hg:v= .slice (aa ⟨g,o0,ae⟩) m0 OK)(hq:q<l.length)(hF:∀b,F b->b<w.heap.size)(p:Path r s){vs:List Value}{u:s.den}(hv:cF F w s vs u):
 ∃cur,w.heap[g]? =aa (.cells cur e (0,0))/\o0+q*r.size+p.off+vs.length<=cur.size/\
  Ext (bF v) w (w.setRow g (cur.toList.take (o0+q*r.size+p.off)++vs++cur.toList.drop (o0+q*r.size+p.off+vs.length)).toArray)/\
  lJ base F (w.setRow g (cur.toList.take (o0+q*r.size+p.off)++vs++cur.toList.drop (o0+q*r.size+p.off+vs.length)).toArray) e r v (l.set q (p.set l[q] u)):=by
 obtain⟨CO,xs,⟨Gw,hx⟩,h3⟩:=h
 rcases hx with⟨rfl,_⟩|⟨g',o1,cap,cur,rfl,hb,hh,h1,h2,qQ,Ja⟩
 .simp at hg
 .simp only[ahH,agz,Addr.mk.injEq,and_true]at hg;obtain⟨⟨rfl,rfl⟩,rfl,rfl⟩:=hg;have hle:=p.le;have hl:=hv.length;have hmul:(q+1)*r.size<=l.length*r.size:=agA _ hq;rw[agP]at hmul;have Af:l.length*r.size<=cap*r.size:=agA _ h1
  have bC:Ext (bF (.slice (aa ⟨g',o1,ae⟩) l.length cap)) w (w.setRow g' (cur.toList.take (o1+q*r.size+p.off)++vs++cur.toList.drop (o1+q*r.size+p.off+vs.length)).toArray):=
   ⟨rfl,⟨rfl,agt _⟩,rfl,by simp,λk _ hk=>setRow_other w g' k _ λe=>hk (by simp[bF,agI,e])⟩
  have dB:=Step.ext bC hF CO;refine⟨cur,hh,by omega,bC,CO,xs.take (q*r.size+p.off)++vs++xs.drop (q*r.size+p.off+vs.length),⟨by simp;omega, .inr ⟨g',o1,cap,_,by simp,hb,setRow_heap w g' _ _ e (0,0) hh,by simpa using h1,h2,by simp;omega,?_⟩⟩,?_⟩
  .rw[List.length_set,List.toList_toArray,<-Ja]
   have e0:(cur.toList.take (o1+q*r.size+p.off)++vs++cur.toList.drop (o1+q*r.size+p.off+vs.length)).drop o1=(cur.toList.drop o1).take (q*r.size+p.off)++vs++(cur.toList.drop o1).drop (q*r.size+p.off+vs.length):=by
    rw[ahg,List.drop_append_of_le_length (by simp;omega),List.drop_take,List.drop_drop,show o1+q*r.size+p.off-o1=q*r.size+p.off by omega,ahg,show o1+q*r.size+p.off+vs.length=o1+(q*r.size+p.off+vs.length) by omega]
   rw[e0]
   have Ag:cap*r.size<=(cur.toList.drop o1).length:=by simp;omega
   generalize cur.toList.drop o1=c2 at*
   have e1:(c2.take (l.length*r.size)).take (q*r.size+p.off)=c2.take (q*r.size+p.off):=by rw[List.take_take,ahs (by omega)]
   rw[e1,List.take_append,List.take_of_length_le (by simp;omega),List.drop_take]
   congr 1
   simp;omega
  .intro i jJ
   have hi:i<l.length:=by simpa using jJ
   have Rn:(i+1)*r.size<=l.length*r.size:=agA _ hi;rw[agP]at Rn
   have A:∀j,j<r.size->((xs.take (q*r.size+p.off)++vs++xs.drop (q*r.size+p.off+vs.length)))[i*r.size+j]? =
    if i*r.size+j<q*r.size+p.off then xs[i*r.size+j]? else if i*r.size+j<q*r.size+p.off+vs.length then vs[i*r.size+j-(q*r.size+p.off)]? else xs[i*r.size+j]? :=by
    intro j hj;rw[ahg,ahS];simp only[ahv,Gw,ahs (show q*r.size+p.off<=l.length*r.size from by omega)];split
    .grind
    .rw[ahS];split
     .grind
     .rename_i h1 h2;rw[ai (by omega),agU]
      grind
   by_cases Ve:i=q
   .subst Ve;rw[List.getElem_set_self];have hp:=(h3 i hi).put p hv
    have:((xs.take (i*r.size+p.off)++vs++xs.drop (i*r.size+p.off+vs.length)).drop (i*r.size)).take r.size=
     ((xs.drop (i*r.size)).take r.size).take p.off++vs++((xs.drop (i*r.size)).take r.size).drop (p.off+s.size):=by
     have Ro:((xs.drop (i*r.size)).take r.size).length=r.size:=by rw[ahv,List.length_drop,Gw];omega
     have Vf:∀j,j<r.size->((xs.drop (i*r.size)).take r.size)[j]? =xs[i*r.size+j]? :=(by grind)
     generalize(xs.drop (i*r.size)).take r.size=ZK at Ro Vf
     apply List.ext_getElem?
     intro j;rw[ahS (l₁:=ZK.take p.off++vs),ahS (l₁:=ZK.take p.off),List.length_append,ahv,Ro,ahs (show p.off<=r.size from by omega),ag7 (l:=List.drop _ _)];by_cases hj:j<r.size
     .rw[aj hj,agU,A j hj];by_cases Vg:j<p.off
      .rw[aj (by omega),aj (by omega),aj Vg,ag7,aj Vg,Vf j hj]
      .rw[ai (by omega)];by_cases QT:j<p.off+vs.length
       .rw[aj (by omega),aj QT,ai Vg]
        congr 1
        omega
       .rw[ai (by omega),ai QT,agU,<-Vf j hj]
        congr 1
        omega
     .grind
    rw[this];exact hp.step dB
   .rw[List.getElem_set_ne (λe=>Ve e.symm)]
    have:((xs.take (q*r.size+p.off)++vs++xs.drop (q*r.size+p.off+vs.length)).drop (i*r.size)).take r.size=(xs.drop (i*r.size)).take r.size:=by
     apply List.ext_getElem?
     intro j;rw[ag7,ag7];by_cases hj:j<r.size
     .rw[aj hj,aj hj,agU,A j hj,agU]
      rcases Nat.lt_or_gt_of_ne Ve with bi|hgt
      .have:(i+1)*r.size<=q*r.size:=agA _ bi
       grind
      .have:(q+1)*r.size<=i*r.size:=agA _ hgt
       grind
     .grind
    rw[this];exact(h3 i hi).step dB
def lJ.at{g o0 m0 OK q:Nat}{i:Int}{v:Value}{l:List r.den}{a:r.den}(h:lJ base F w e r v l)(hg:v= .slice (aa ⟨g,o0,ae⟩) m0 OK)(hq:i=(q:Nat))(pe:idx l i=aa a):At F w r g (o0+q*r.size) a:=by
 obtain⟨b,off,cap,k,hv,hk,bi,CP⟩:=h.reads.elem pe
 grind
def Jj(cs:List Value):∀(k:Nat)(pre post:List Value),post.length=cs.length->∀(tail:List Value),
 (cs.zipIdx k).foldl (λ(acc:Array Value)(cj:Value×Nat)=>acc.setIfInBounds (pre.length-k+cj.2) cj.1) (pre++post++tail).toArray=(pre++cs++tail).toArray\/pre.length<k:=by
 induction cs with
 |nil=>simp_all
 |cons c q ih=>
  intro k pre post hp tail;by_cases hk:pre.length<k
  .exact .inr hk
  cases post with
  |nil=>simp at hp
  |cons p0 post=>
   simp only[List.zipIdx_cons,List.foldl_cons]
   rcases ih (k+1) (pre++[c]) post (by simpa using hp) tail with h|h
   all_goals simp_all
def xj{place:Nat->Option (Nat×Nat)}{i off size:Nat}{v:Value}{vs cells:List Value}{rest:List (Nat×Value)}(hp:place i=aa (off,size))(hv:v.cells.toList=vs)(hs:vs.length=size)(hle:off+size<=cells.length):
 Instr.fill place cells.toArray ((i,v)::rest)=Instr.fill place (cells.take off++vs++cells.drop (off+size)).toArray rest:=by
 have hvc:v.cells=vs.toArray:=by rw[<-hv,ahd]
 have hf:=Jj vs 0 (cells.take off) ((cells.drop off).take size) (by simp;omega) (cells.drop (off+size))
 have Jk:cells.take off++(cells.drop off).take size++cells.drop (off+size)=cells:=by
  rw[ahg,<-List.drop_drop,ahD,ahD]
 have hlen:(cells.take off).length=off:=by simp;omega
 rw[Jk,hlen,Nat.sub_zero]at hf
 rcases hf with hf|hf
 case inr=>omega
 rw[Instr.fill]
 grind
inductive va(F:Nat->Prop)(w:World)(r:Row):List Value->List r.den->Prop where
 |nil:va F w r [] []
 |cons {v:Value} {vs:List Value} {cs:List Value} {a:r.den} {l:List r.den} (hc:v.cells.toList=cs) (hr:cF F w r cs a) (h:va F w r vs l):va F w r (v::vs) (a::l)
theorem va.length{vs:List Value}{l:List r.den}(h:va F w r vs l):vs.length=l.length:=by
 induction h<;>grind
def va.fill{vs:List Value}{l:List r.den}(h:va F w r vs l):∀(k:Nat)(pre post:List Value),pre.length=k*r.size->post.length=vs.length*r.size->
 ∃xs,Instr.fill (λi=>aa (i*r.size,r.size)) (pre++post).toArray ((vs.zipIdx k).map λp=>(p.2,p.1))=aa (pre++xs).toArray/\xs.length=l.length*r.size/\∀i(hi:i<l.length),cF F w r ((xs.drop (i*r.size)).take r.size) l[i]:=by
 induction h with
 |nil=>
  intro k pre post hp hq
  have:post=[]:=(by simp_all)
  subst this;exact⟨[],by simp[Instr.fill],by simp,λi hi=>absurd hi (by simp)⟩
 | @cons v vs cs a l hc hr h ih=>
   intro k pre post hp hq;have hl:=hr.length;rw[List.length_cons,agP,Nat.one_mul]at hq;obtain⟨xs,h1,h2,h3⟩:=ih (k+1) (pre++cs) (post.drop r.size) (by rw[List.length_append,hp,hl,agP,Nat.one_mul]) (by grind);refine⟨cs++xs,?_,by grind,λi hi=>?_⟩
   .simp only[List.zipIdx_cons,List.map_cons];rw[xj (place:=λi=>aa (i*r.size,r.size)) rfl hc hl (by grind)];rw[<-hp,List.take_left',List.drop_append,List.drop_of_length_le (by omega),List.nil_append,show pre.length+r.size-pre.length=r.size from by omega]
    all_goals grind
   .cases i with
    |zero=>
     grind
    |succ i=>
     rw[agP,Nat.one_mul,Nat.add_comm,<-List.drop_drop,<-hl,List.drop_left',hl]
     all_goals grind
end
end
section
open Go Go.RowKit Go.ChangeShapes Go.WideShapes Go.ChangeAt Go.Deep
def WF:(r:Row)->r.den->Prop
 | .int k,n=>k.min<=n/\n<=k.max
 | .bool,_=>True
 | .str,s=>s.size<=maxLen
 | .slice e,l=>l.length<=maxLen/\∀x∈l,WF e x
 | .lE,_=>True
 | .nul _,_=>True
 | .map ..,_=>True
 | .pair a b,x=>WF a x.1/\WF b x.2
def sE:(r:Row)->r.den->Nat
 | .int _,_=>1
 | .bool,_=>1
 | .str,s=>s.size+1
 | .slice e,l=>(l.map (sE e)).sum+1
 | .lE,_=>1
 | .nul _,_=>1
 | .map ..,_=>1
 | .pair a b,x=>sE a x.1+sE b x.2
def oO{H:Type}:(l:List (DataW H))->Rows.uptoBulkAll l=(l.map Rows.uptoBulk).sum
 |[]=>by simp[Rows.uptoBulkAll]
 |a::l=>by simp[Rows.uptoBulkAll,oO l]
def here(w:World)(b:Nat):Prop:=b<w.heap.size
def fe(P:Program)(t:TypeId)(r:Row):Prop:=
 ∀(H:Type)(enc:TypeId×Value->H)(w:World)(spare:Nat->Bool)(held:Bool)(fuel:Nat)(cs:List Value)(x:DataW H×List MemPlace),DataW.trod enc P w 0 spare held fuel t cs=aa x->
  ∃y:r.den,cF (here w) w r cs y/\WF r y/\sE r y<=Rows.uptoBulk x.1
def uG(P:Program)(fs:List Field)(r:Row)(off:Nat):Prop:=
 ∀(H:Type)(enc:TypeId×Value->H)(w:World)(spare:Nat->Bool)(held:Bool)(n:Nat)(cs:List Value)(xs:List (DataW H×List MemPlace)),xs.length=fs.length->
  (∀(i:Nat)(f:Field),fs[i]? =aa f->DataW.trod enc P w 0 spare held n f.type ((cs.drop f.offset).take (P.cellsOf f.type))=xs[i]?)->off+r.size<=cs.length->
  ∃y:r.den,cF (here w) w r ((cs.drop off).take r.size) y/\WF r y/\sE r y<=Rows.uptoBulkAll (xs.map (·.1))
section
variable {P:Program} {t e:TypeId} {r a b:Row} {k:IntKind}
def GB(ht:P.underlying t=aa (.int k)):fe P t (.int k):=by
 intro H enc w spare held fuel cs x h;obtain⟨n,rfl,rfl,hn⟩:=DataW.trod_int ht h;exact⟨n,rfl,by simpa[Lit.wf,WF]using hn,by simp[sE,Rows.uptoBulk]⟩
def xk(ht:P.underlying t=aa .string):fe P t .str:=by
 intro H enc w spare held fuel cs x h;obtain⟨s,rfl,rfl,hs⟩:=DataW.trod_string ht h;exact⟨s,rfl,hs,Nat.le_of_eq rfl⟩
def pf{α:Type}{p:Nat->α->Prop}:(n:Nat)->(∀i,i<n->∃x,p i x)->∃l:List α,l.length=n/\∀i(h:i<l.length),p i l[i]
 |0,_=>(by simp_all)
 |n+1,h=>by
  obtain⟨l,hl,hp⟩:=pf n λi hi=>h i (by omega)
  obtain⟨x,hx⟩:=h n (by omega);refine⟨l++[x],by simp[hl],λi hi=>?_⟩
  grind
def ff(ht:P.underlying t=aa (.slice e))(hs:P.cellsOf e=r.size)(he:fe P e r):fe P t (.slice r):=by
 intro H enc w spare held fuel cs x h
 rcases open_slice ht h with⟨rfl,rfl⟩|⟨ad,len,cap,m,n,D,Pl,rfl,_,hl,hm,Rp,rfl,hi⟩
 .exact⟨[],cF.nil _ _ _,⟨by simp[maxLen],λx hx=>absurd hx (by simp)⟩,by simp[sE,Rows.uptoBulk]⟩
 .have hlm:len<=m:=by rw[Rp];split<;>omega
  have key:∀i,i<len->∃y:r.den,∃uk,(uk.length=r.size/\(∀j,j<r.size->w.cell? ((ad.add (i*r.size)).add j)=uk[j]?))/\cF (here w) w r uk y/\WF r y/\sE r y<=Rows.uptoBulk (D i):=by
   intro i jJ;obtain⟨uk,hc,htr⟩:=hi i (by omega);rw[hs]at hc;obtain⟨_,xl,Ag⟩:=World.cells?_some hc;obtain⟨y,h1,h2,h3⟩:=he H enc w spare held n uk _ htr;exact(by grind)
  obtain⟨l,Rq,hp⟩:=pf len key;subst Rq;have qA:=r.size_pos;refine⟨l,⟨aa ad,cap,rfl,hl,hm,λi hi=>?_⟩,⟨by omega,λx hx=>?_⟩,?_⟩
  .obtain⟨uk,⟨xl,Ag⟩,hr,_,_⟩:=hp i hi;obtain⟨UG,⟨uH,ul⟩,_⟩:=hp 0 (by omega);have h0:=ul 0 qA;rw[agx (by omega)]at h0;simp only[Nat.zero_mul,Addr.add,if_true]at h0
   have qE:ad.spot=ae:=by
    cases qE:ad.spot with
    |none=>rfl
    |some q=>
     unfold World.cell? at h0
     grind
   obtain⟨bb,off,sp⟩:=ad;simp only at qE;subst qE;refine⟨bb,off,uk,rfl,block_lt_of_cell h0,xl,λj u hu=>?_,hr⟩
   grind [cU]
  .grind [List.getElem_of_mem]
  .simp only[sE,Rows.uptoBulk,oO]
   have:∀(n:Nat),n<=l.length->((l.take n).map (sE r)).sum<=(((agw n).map D).map Rows.uptoBulk).sum:=by
    intro n hn
    induction n with
    |zero=>simp
    |succ n ih=>
     have h1:=ih (by omega);obtain⟨_,_,_,_,h3⟩:=hp n (by omega)
     grind [List.take_succ_eq_append_getElem,List.range_succ]
   grind
def eh{f:Field}{off:Nat}(ho:f.offset=off)(hc:P.cellsOf f.type=r.size)(he:fe P f.type r):uG P [f] r off:=by
 intro H enc w spare held n cs xs hl hx _;subst ho
 match xs,hl with
 |[x],_=>
  have h:=hx 0 f rfl;rw[hc]at h;obtain⟨y,h1,h2,h3⟩:=he H enc w spare held n _ x h
  grind [Rows.uptoBulkAll]
def bJ{f:Field}{fs:List Field}{off:Nat}(ho:f.offset=off)(hc:P.cellsOf f.type=a.size)(he:fe P f.type a)(hr:uG P fs b (off+a.size)):uG P (f::fs) (.pair a b) off:=by
 intro H enc w spare held n cs xs hl hx hle;subst ho
 match xs,hl with
 |x::xs,hl=>
  have h:=hx 0 f rfl;rw[hc]at h;obtain⟨y,h1,h2,h3⟩:=he H enc w spare held n _ x h;simp only[Row.size]at hle;obtain⟨z,g1,g2,g3⟩:=hr H enc w spare held n cs xs (by simpa using hl) (λi f' hf=>by simpa using hx (i+1) f' (by simpa using hf)) (by omega);refine⟨(y,z),⟨_,_,?_,h1,g1⟩,⟨h2,g2⟩,by grind [sE,Rows.uptoBulkAll]⟩
  grind [Row.size,List.drop_drop]
def dE{fs:Array Field}(ht:P.underlying t=aa (.struct fs))(hc:P.cellsOf t=r.size)(h:uG P fs.toList r 0):fe P t r:=by
 intro H enc w spare held fuel cs x hx;obtain⟨xs,n,_,rfl,hlen,Gw,hf⟩:=DataW.trod_struct ht hx;rw[hc]at hlen;obtain⟨y,h1,h2,h3⟩:=h H enc w spare held n cs xs (by simpa using Gw) (by grind) (by omega)
 grind [Rows.uptoBulk]
variable {H:Type} {enc:TypeId×Value->H} {w:World} {base:Nat} {spare:Nat->Bool} {held:Bool} {v:Value} {d:DataW H} {ps:List MemPlace}
def vb{fs:Array Field}(ht:P.underlying t=aa (.struct fs))(ho:fe P t r)(hv:Value.okWide P w .any base t v)(h:DataW.Trod enc P w 0 spare held t v d ps):
 ∃(es:List Value)(x:r.den),v= .agg es.toArray/\cF (here w) w r es x/\WF r x/\sE r x<=Rows.uptoBulk d:=by
 obtain⟨cs,rfl,_⟩:=okWide_struct ht hv;obtain⟨fuel,hf⟩:=h;obtain⟨x,h1,h2,h3⟩:=ho H enc w spare held fuel _ _ hf;exact⟨cs.toList,x,by simp,by simpa[Value.cells]using h1,h2,h3⟩
def qF(hl:laidOutB P=af){W W':World}(hb:Below W.heap.size W W'){sp:Nat->Bool}:(ts:List TypeId)->(vs:List Value)->(ds:List (DataW H))->(ps:List MemPlace)->
 (∀t∈ts,(P.readableRec t&&agW t P.types.size)=af)->DataW.TrodAll enc P W 0 (λ_=>af) af ts vs ds ps->(∀x∈ps,x.block<W.heap.size)->(∀x∈ps,sp x.block=af)->DataW.TrodAll enc P W' 0 sp af ts vs ds ps
 |[],[],[],_,_,h,_,_=>h
 |t::ts,v::vs,d::ds,ps,hr,h,bi,qE=>by
  obtain⟨p,q,h1,h2,rfl⟩:=h;have ht:=hr t (by simp);simp only[ahn,Nat.blt_eq]at ht
  exact⟨p,q,WideElems.Trod_stays hl ht.1 ht.2 h1 (λx hx=>hb.same (bi x (by simp[hx]))) (λx hx=>qE x (by simp[hx])),
   qF hl hb ts vs ds q (λt ht=>hr t (by simp[ht])) h2 (λx hx=>bi x (by simp[hx])) (λx hx=>qE x (by simp[hx])),rfl⟩
def wP{f:Func}{s:ChangeSpec}{apart fresh handsOn again:Bool}{W W':World}{args:Array Value}{v:Value}{ds gs:List (DataW H)}{before pa pv:List MemPlace}
 (hW:DataW.Whole enc P f.params.toList s.vars apart W args.toList ds gs before)
 (C1:∀(b:Nat)(sp:Nat->Bool)(hd:Bool),DataW.TrodAll enc P W' b sp hd f.resultTypes.toList (v.resultList f.resultTypes.size) (s.fn H (ds++gs)).results [])
 (EQ:∀sp:Nat->Bool,(∀p∈before,sp p.block=af)->DataW.TrodAll enc P W' 0 sp af f.params.toList args.toList (s.fn H (ds++gs)).args pa)
 (NX:∀sp:Nat->Bool,(∀p∈before,sp p.block=af)->DataW.TrodVars enc P W' sp s.vars (s.fn H (ds++gs)).vars pv)
 (hps:before=pa++pv)(hb:Below W.heap.size W W')
 (mE:∀(j:Nat)(t:TypeId)(r:Value),f.resultTypes[j]? =aa t->(v.resultList f.resultTypes.size)[j]? =aa r->Value.okWide P W' .any 0 t r):
 s.post enc P f apart fresh handsOn again W args v W':=by
 have bi:∀p∈before,p.block<W.heap.size:=λp hp=>hW.lt p hp
 have hold:∀p∈before,(λb=>decide (b<W.heap.size)) p.block=af:=λp hp=>by grind
 refine⟨ds,gs,before,[],pa,pv,hW,C1 _ _ _,EQ _ hold,NX _ hold,World.keptBut_mono (λp hp=>⟨hp,?_⟩) (hb.frame (· ∈before)),λ_=>?_⟩
 .grind
 .obtain⟨_,_,_,_,_,hz,hn⟩:=hW;refine⟨mE,_,_,([]++pa)++pv,⟨[]++pa,pv,trodAll_append (EQ _ (λ_ _=>rfl)) (C1 _ _ _),NX _ (λ_ _=>rfl),rfl,?_,?_⟩,?_⟩
  .intro b off hp
   have cL:MemPlace.cell b off∈before:=by rw[hps];simpa using hp
   rw[hb.frozen (bi _ cL)];exact hz b off cL
  all_goals grind
end
end
section
def gK{α:Type}(l:List α)(a b:Int):Option (List α):=if 0<=a/\a<=b/\b<=l.length then aa ((l.take b.toNat).drop a.toNat)else ae
variable {F:Nat->Prop} {w:World} {r:Row}
def cF.cut{A:Option Addr}{cap:Nat}{l:List r.den}{a b:Nat}(h:cF F w (.slice r) [.slice A l.length cap] l)(h1:a<=b)(h2:b<=l.length):
 cF F w (.slice r) [sliced A a b cap r.size] ((l.take b).drop a):=by
 obtain⟨A',Jc,hv,hc,hm,hs⟩:=h;simp only[ahl,ahH,and_true,true_and]at hv;obtain⟨rfl,rfl⟩:=hv
 have hlen:((l.take b).drop a).length=b-a:=by simp;omega
 refine⟨_,cap-a,by rw[hlen];rfl,by omega,by omega,λi hi=>?_⟩
 have jJ:a+i<l.length:=by omega
 grind [cU]
section
variable {P:Program} {n:Nat} {ops:Array Oper} {K:(Nat->Value)->World->Prop} {rest:List Oper} {ρ:Nat->Value}
variable {d:Nat} {ty:TypeId} {pos:String} {aft:Array Edge} {x y z:Operand} {t e:TypeId}
def Mf{t e:TypeId}(ht:P.underlying t=aa (.slice e)):P.underlying t=aa (.slice (P.elem t)):=by
 simp[Program.elem,ht]
inductive OL(ρ:Nat->Value):Option Operand->Option Int->Prop
 |none:OL ρ ae ae
 |some {x:Operand} {k:IntKind} {i:Int} (h:ev ρ x= .int k i):OL ρ (aa x) (aa i)
def uI{ti:TypeInfo}{A:Option Addr}{len cap:Nat}{lo hi:Option Operand}{a b:Option Int}(ht:P.underlying t=aa (.slice e))(jJ:P.info? e=aa ti)(hx:ev ρ x= .slice A len cap)
 (ha:OL ρ lo a)(hb:OL ρ hi b)(h0:0<=a.getD 0)(h1:a.getD 0<=b.getD len)(h2:b.getD len<=len)(hc:len<=cap):
 (execOp (ev ρ) ⟨aa d, .slice t x lo hi ae,ty,pos,aft,ae⟩).run P w= .ok (.value (sliced A (a.getD 0).toNat (b.getD len).toNat cap ti.size)) w:=by
 have LM:=Mf ht
 have he:P.elem t=e:=by simp[Program.elem,ht]
 cases ha with
 |none=>
  cases hb with
  |none=>
   have:=run_slice_all (P:=P) (w:=w) t A len cap LM;simp[execOp,hx,run_sliceAt_slice (P:=P) w t _ _ _ _ LM,this,he,sizeOf,typeInfo,jJ]
  |some hh=>
   rename_i xb kb ib;have:=run_slice_h (P:=P) (w:=w) t A len cap LM kb ib (by simpa using h1) (by grind);simp[execOp,hx,hh,run_sliceAt_slice (P:=P) w t _ _ _ _ LM,this,he,sizeOf,typeInfo,jJ]
 |some hl=>
  rename_i xa ka ia
  cases hb with
  |none=>
   have:=run_slice_l (P:=P) (w:=w) t A len cap LM ka ia (by simpa using h0) (by simpa using h1);simp[execOp,hx,hl,run_sliceAt_slice (P:=P) w t _ _ _ _ LM,this,he,sizeOf,typeInfo,jJ]
  |some hh=>
   rename_i xb kb ib;have:=run_slice_lh (P:=P) (w:=w) t A len cap LM ka kb ia ib (by simpa using h0) (by simpa using h1) (by grind);simp[execOp,hx,hl,hh,run_sliceAt_slice (P:=P) w t _ _ _ _ LM,this,he,sizeOf,typeInfo,jJ]
def sF{α:Type}{l m:List α}{a b:Int}(h:gK l a b=aa m):∃p q:Nat,a=p/\b=q/\p<=q/\q<=l.length/\m=(l.take q).drop p:=by
 grind [gK]
end
end
abbrev oP:Row:= .int .i64
def ER:List (Nat×((r:Row)×r.den)):=[(2,⟨.pair oP (.pair oP (.pair oP (.pair oP (.pair oP (.pair oP (.pair oP (.pair oP (.pair oP (.pair oP (.pair oP oP)))))))))),(31,28,31,30,31,30,31,31,30,31,30,31)⟩)]
section
inductive DR where
 |leaf (r:Row)
 |sl (T:TypeId) (d:DR)
 |pair (a b:DR)
@[reducible] def DR.row:DR->Row
  | .leaf r=>r
  | .sl _ d=> .slice d.row
  | .pair a b=> .pair a.row b.row
@[reducible] def DR.low:DR->Row
  | .leaf r=>r
  | .sl _ _=> .lE
  | .pair a b=> .pair a.low b.low
theorem DR.size:(d:DR)->d.low.size=d.row.size
 | .leaf _=>rfl
 | .sl _ _=>rfl
 | .pair a b=>by show a.low.size+b.low.size=a.row.size+b.row.size;rw[a.size,b.size]
inductive fH:DR->DR->Type where
 |here {d:DR}:fH d d
 |fst {a b e:DR} (p:fH a e):fH (.pair a b) e
 |snd {a b e:DR} (p:fH b e):fH (.pair a b) e
def fH.lo:{d e:DR}->fH d e->Path d.low e.low
 |_,_, .here=> .here
 |_,_, .fst p=> .fst p.lo
 |_,_, .snd p=> .snd p.lo
def fH.hi:{d e:DR}->fH d e->Path d.row e.row
 |_,_, .here=> .here
 |_,_, .fst p=> .fst p.hi
 |_,_, .snd p=> .snd p.hi
def DR.path:(d:DR)->List Bool->Option ((e:DR)×fH d e)
 |d,[]=>aa ⟨d, .here⟩
 | .pair a b,c::p=>match c with
   |false=>match a.path p with
    |some ⟨e,q⟩=>aa ⟨e, .fst q⟩
    |none=>ae
   |true=>match b.path p with
    |some ⟨e,q⟩=>aa ⟨e, .snd q⟩
    |none=>ae
 |_,_::_=>ae
def lR(F:Nat->Prop)(w:World)(T:TypeId)(r:Row)(v:Value)(l:List r.den):Prop:=
 ∃xs,mA w 0 T r.size v l.length xs/\∀i(h:i<l.length),cF F w r ((xs.drop (i*r.size)).take r.size) l[i]
structure nC(Ss:Nat->Nat->Prop)(n:Nat)(m:Nat->Prop)(S:Nat->Prop):Prop where
 all:∀k,S k↔m k\/∃i,i<n/\Ss i k
 two:∀i j k,i<n->j<n->i≠j->Ss i k->¬Ss j k
 out:∀i k,i<n->Ss i k->¬m k
structure Jl(A B S:Nat->Prop):Prop where
 all:∀k,S k↔A k\/B k
 off:∀k,A k->¬B k
def GC{α:Type}(F:Nat->Prop)(w:World)(T:TypeId)(r:Row)(rel:Nat->r.den->α->(Nat->Prop)->Prop)(u:Value)(l:List α)(S:Nat->Prop):Prop:=
 ∃(lh:List r.den)(Ss:Nat->Nat->Prop),lR F w T r u lh/\lh.length=l.length/\(∀i(h1:i<lh.length)(h2:i<l.length),rel i lh[i] l[i] (Ss i))/\nC Ss l.length (bF u) S
def jK(F:Nat->Prop)(w:World):(d:DR)->d.low.den->d.row.den->(Nat->Prop)->Prop
 | .leaf _,x',x,S=>x'=x/\∀k,¬S k
 | .sl T d,u,l,S=>GC F w T d.low (λ_=>jK F w d) u l S
 | .pair a b,x',x,S=>∃A B,jK F w a x'.1 x.1 A/\jK F w b x'.2 x.2 B/\Jl A B S
def mX(F:Nat->Prop)(w:World):{d e:DR}->fH d e->d.low.den->d.row.den->(Nat->Prop)->Prop
 |_,_, .here,_,_,S=>∀k,¬S k
 |_,_, .fst (b:=b) p,x',x,S=>∃A B,mX F w p x'.1 x.1 A/\jK F w b x'.2 x.2 B/\Jl A B S
 |_,_, .snd (a:=a) p,x',x,S=>∃A B,jK F w a x'.1 x.1 A/\mX F w p x'.2 x.2 B/\Jl A B S
section
variable {F F':Nat->Prop} {w w':World} {T:TypeId} {S:Nat->Prop}
theorem lR.keep{r:Row}{v:Value}{l:List r.den}(h:lR F w T r v l)(hs:Step F w F' w')(hb:∀k,bF v k->w'.heap[k]? =w.heap[k]?):lR F' w' T r v l:=by
 obtain⟨xs,⟨CQ,ES⟩,h3⟩:=h;refine⟨xs,⟨CQ,?_⟩,λi hi=>(h3 i hi).step hs⟩
 rcases ES with h2|⟨gg,o0,cap,cur,rfl,qR,hg,rest⟩
 .exact .inl h2
 .exact .inr ⟨gg,o0,cap,cur,rfl,qR,(hb gg rfl).trans hg,rest⟩
def lR.lt{r:Row}{v:Value}{l:List r.den}(h:lR F w T r v l):∀k,bF v k->k<w.heap.size:=by
 obtain⟨xs,h,_⟩:=h
 exact λk hk=>(h.lt k hk).2
theorem lR.one{r:Row}{v:Value}{l:List r.den}(h:lR F w T r v l):v.oneCell'=af:=by
 obtain⟨xs,⟨_,h⟩,_⟩:=h
 rcases h with⟨rfl,_⟩|⟨gg,o0,cap,cur,rfl,_⟩<;>rfl
theorem lR.nil(F:Nat->Prop)(w:World)(T:TypeId)(r:Row):lR F w T r (.slice ae 0 0) []:=(lJ.nil 0 F w T r).2
def Jl.left{A B:Nat->Prop}(h:Jl A B S):∀k,A k->S k:=λk hk=>(h.all k).2 (.inl hk)
def Jl.right{A B:Nat->Prop}(h:Jl A B S):∀k,B k->S k:=λk hk=>(h.all k).2 (.inr hk)
def nC.bF{Ss:Nat->Nat->Prop}{n:Nat}{m:Nat->Prop}(h:nC Ss n m S):∀k,m k->S k:=λk hk=>(h.all k).2 (.inl hk)
def nC.part{Ss:Nat->Nat->Prop}{n:Nat}{m:Nat->Prop}(h:nC Ss n m S){i:Nat}(hi:i<n):∀k,Ss i k->S k:=λk hk=>(h.all k).2 (.inr ⟨i,hi,hk⟩)
def GC.mono{α:Type}{r:Row}{rel Rr:Nat->r.den->α->(Nat->Prop)->Prop}{u:Value}{l:List α}(h:GC F w T r rel u l S)(hs:Step F w F' w')(hb:∀k,S k->w'.heap[k]? =w.heap[k]?)
 (hr:∀i x'(hi:i<l.length)A,(∀k,A k->S k)->rel i x' l[i] A->Rr i x' l[i] A):GC F' w' T r Rr u l S:=by
 obtain⟨lh,Ss,h1,h2,h3,h4⟩:=h;exact⟨lh,Ss,h1.keep hs λk hk=>hb k (h4.bF k hk),h2,λi a b=>hr i _ b _ (h4.part b) (h3 i a b),h4⟩
theorem jK.keep(hs:Step F w F' w'):{d:DR}->{x':d.low.den}->{x:d.row.den}->{S:Nat->Prop}->jK F w d x' x S->(∀k,S k->w'.heap[k]? =w.heap[k]?)->jK F' w' d x' x S
 | .leaf _,_,_,_,h,_=>h
 | .sl T d,u,l,S,h,hb=>GC.mono (show GC F w T d.low _ u l S from h) hs hb λi x' hi A hA hr=>jK.keep hs hr λk hk=>hb k (hA k hk)
 | .pair a b,_,_,_,h,hb=>by
   obtain⟨A,B,h1,h2,h3⟩:=h;exact⟨A,B,h1.keep hs λk hk=>hb k (h3.left k hk),h2.keep hs λk hk=>hb k (h3.right k hk),h3⟩
theorem mX.keep(hs:Step F w F' w'):{d e:DR}->{p:fH d e}->{x':d.low.den}->{x:d.row.den}->{S:Nat->Prop}->mX F w p x' x S->(∀k,S k->w'.heap[k]? =w.heap[k]?)->mX F' w' p x' x S
 |_,_, .here,_,_,_,h,_=>h
 |_,_, .fst p,_,_,_,h,hb=>by
  obtain⟨A,B,h1,h2,h3⟩:=h;exact⟨A,B,mX.keep hs h1 λk hk=>hb k (h3.left k hk),h2.keep hs λk hk=>hb k (h3.right k hk),h3⟩
 |_,_, .snd p,_,_,_,h,hb=>by
  obtain⟨A,B,h1,h2,h3⟩:=h;exact⟨A,B,h1.keep hs λk hk=>hb k (h3.left k hk),mX.keep hs h2 λk hk=>hb k (h3.right k hk),h3⟩
def jK.lt:{d:DR}->{x':d.low.den}->{x:d.row.den}->{S:Nat->Prop}->jK F w d x' x S->∀k,S k->k<w.heap.size
 | .leaf _,_,_,_,h,k,hk=>absurd hk (h.2 k)
 | .sl T d,u,l,S,h,k,hk=>by
   obtain⟨lh,Ss,h1,h2,h3,h4⟩:=h
   rcases(h4.all k).1 hk with hm|⟨i,hi,hm⟩
   .exact h1.lt k hm
   .exact jK.lt (h3 i (by omega) hi) k hm
 | .pair a b,_,_,_,h,k,hk=>by
   obtain⟨A,B,h1,h2,h3⟩:=h
   rcases(h3.all k).1 hk with hm|hm
   .exact jK.lt h1 k hm
   .exact jK.lt h2 k hm
def jK.freeze:{d:DR}->{cs:List Value}->{x':d.low.den}->{x:d.row.den}->{S:Nat->Prop}->jK F w d x' x S->(∀k,S k->¬F k)->cF F w d.low cs x'->cF (λb=>F b\/S b) w d.row cs x
 | .leaf _,_,_,_,S,h,_,hr=>by
   obtain⟨rfl,_⟩:=h
   simp_all
 | .sl T d,cs,u,l,S,h,hn,hr=>by
   obtain⟨lh,Ss,⟨xs,hx,Vh⟩,h2,h3,h4⟩:=h;obtain⟨rfl,_⟩:=hr
   have Ah:lJ 0 (λb=>F b\/∃i,i<l.length/\Ss i b) w T d.row u l:=by
    refine⟨λk hk hF=>?_,xs,?_,λi hi=>?_⟩
    .rcases hF with hF|⟨i,hi,hm⟩
     .exact hn k (h4.bF k hk) hF
     .exact h4.out i k hi hm hk
    .rw[<-d.size,<-h2];exact hx
    .have jJ:i<lh.length:=by omega
     have:=jK.freeze (h3 i jJ hi) (λk hk=>hn k (h4.part hi k hk)) (Vh i jJ);rw[<-d.size]
     exact this.step λb hb=>(by grind)
   exact Ah.freeze.step (r:= .slice d.row) λb hb=>⟨by
    rcases hb with(hb|⟨i,hi,hb⟩)|hb
    .exact .inl hb
    .exact .inr (h4.part hi b hb)
    .exact .inr (h4.bF b hb),rfl⟩
 | .pair a b,_,_,_,S,h,hn,hr=>by
   obtain⟨A,B,h1,h2,h3⟩:=h;obtain⟨c1,c2,rfl,r1,r2⟩:=hr;exact⟨c1,c2,rfl,(jK.freeze h1 (λk hk=>hn k (h3.left k hk)) r1).step λb hb=>⟨hb.imp id (h3.left b),rfl⟩,(jK.freeze h2 (λk hk=>hn k (h3.right k hk)) r2).step λb hb=>⟨hb.imp id (h3.right b),rfl⟩⟩
def jK.out:{d e:DR}->(p:fH d e)->{x':d.low.den}->{x:d.row.den}->{S:Nat->Prop}->jK F w d x' x S->∃A B,jK F w e (p.lo.get x') (p.hi.get x) A/\mX F w p x' x B/\Jl A B S
 |_,_, .here,_,_,S,h=>⟨S,λ_=>False,h,λ_ h=>h,⟨λk=>by simp,λ_ _ h=>h⟩⟩
 |_,_, .fst p,_,_,S,h=>by
  obtain⟨A,B,h1,h2,h3⟩:=h;obtain⟨A1,A2,g1,g2,g3⟩:=jK.out p h1;refine⟨A1,λk=>A2 k\/B k,g1,⟨A2,B,g2,h2,λk=>Iff.rfl,λk hk=>h3.off k (g3.right k hk)⟩,λk=>?_,λk hk hh=>?_⟩
  .rw[h3.all,g3.all,or_assoc]
  .exact hh.elim (g3.off k hk) (h3.off k (g3.left k hk))
 |_,_, .snd p,_,_,S,h=>by
  obtain⟨A,B,h1,h2,h3⟩:=h;obtain⟨B1,B2,g1,g2,g3⟩:=jK.out p h2;refine⟨B1,λk=>A k\/B2 k,g1,⟨A,B2,h1,g2,λk=>Iff.rfl,λk hk hh=>h3.off k hk (g3.right k hh)⟩,λk=>?_,λk hk hh=>?_⟩
  .rw[h3.all,g3.all];grind
  .exact hh.elim (λhh=>h3.off k hh (g3.left k hk)) (g3.off k hk)
def mX.put:{d e:DR}->(p:fH d e)->{x':d.low.den}->{x:d.row.den}->{y':e.low.den}->{y:e.row.den}->{A B S:Nat->Prop}->mX F w p x' x B->jK F w e y' y A->Jl A B S->jK F w d (p.lo.set x' y') (p.hi.set x y) S
 |_,_, .here,_,_,y',y,A,B,S,h,hy,h3=>by
  have:A=S:=by
   funext k;exact propext ⟨λhk=>h3.left k hk,λhk=>((h3.all k).1 hk).elim id λhb=>absurd hb (h k)⟩
  subst this;exact hy
 |_,_, .fst p,x',x,y',y,A,B,S,h,hy,h3=>by
  obtain⟨A2,B2,g1,g2,g3⟩:=h
  have t1:Jl A A2 (λk=>A k\/A2 k):=⟨λ_=>Iff.rfl,λk hk h2=>h3.off k hk (g3.left k h2)⟩
  refine⟨λk=>A k\/A2 k,B2,mX.put p g1 hy t1,g2,λk=>?_,λk hk h2=>?_⟩
  .rw[h3.all,g3.all,or_assoc]
  .exact hk.elim (λhk=>h3.off k hk (g3.right k h2)) λhk=>g3.off k hk h2
 |_,_, .snd p,x',x,y',y,A,B,S,h,hy,h3=>by
  obtain⟨A2,B2,g1,g2,g3⟩:=h
  have t1:Jl A B2 (λk=>A k\/B2 k):=⟨λ_=>Iff.rfl,λk hk h2=>h3.off k hk (g3.right k h2)⟩
  refine⟨A2,λk=>A k\/B2 k,g1,mX.put p g2 hy t1,λk=>?_,λk hk h2=>?_⟩
  .rw[h3.all,g3.all];grind
  .exact h2.elim (λh2=>h3.off k h2 (g3.left k hk)) λh2=>g3.off k hk h2
end
end
section
inductive Tree where
 |leaf (r:Row) (x:r.den)
 |own (o:Nat)
 |nil
 |pair (a b:Tree)
 |view (o s:Nat) (r:Row) (m:List r.den)
 |junk (n:Nat)
structure vc where
 i:Int
 p:List Bool
 o:Nat
 s:Nat
inductive Th where
 |box (T:TypeId) (t:Tree)
 |own (T:TypeId) (r:Row) (l:List r.den)
 |um (T:TypeId) (r:Row) (l:List r.den)
 |map (T:TypeId) (K:Row) (agg:Bool) (V:Row) (l:List (K.den×V.den))
 |fmap (T:TypeId) (K:Row) (agg:Bool) (V:Row) (l:List (K.den×V.den))
 |deep (T:TypeId) (d:DR) (l:List d.row.den) (h:Option vc)
 |fdeep (T:TypeId) (d:DR) (l:List d.row.den)
 |smap (T:TypeId) (K:Row) (agg:Bool) (V:Row) (l:List (K.den×V.den)) (it:Option (Nat×List (K.den×V.den)×Option (K.den×V.den)))
def Th.base:Th->Th
 | .um T r l=> .own T r l
 | .fmap T K agg V l=> .map T K agg V l
 | .fdeep T d l=> .deep T d l ae
 |t=>t
inductive aC where
 |dead
 |undef
 |val (agg:Bool) (t:Tree)
 |ptr (o:Nat) (p:List Bool) (off:Nat)
 |at (r:Row) (x:r.den)
 |elem (o s:Nat) (r:Row) (i:Int) (x:r.den) (p:List Bool) (off:Nat)
 |tup (ds:List (Bool×Tree))
 |dlm (o:Nat) (d:DR) (i:Int) (p:List Bool) (off:Nat)
 |fn (f:FuncId) (caps:List (Nat×List Bool×Nat))
 |ifc (T:TypeId) (d:aC)
structure aG where
 val:Nat->Option Value
 con:Nat->Option Th
 sub:Nat->Nat->Prop
structure aG.le(H H':aG):Prop where
 val:∀o v,H.val o=aa v->H'.val o=aa v
 con:∀s t,H.con s=aa t->H'.con s=aa t
 sub:∀s t,H.con s=aa t->H'.sub s=H.sub s
def aG.le.refl(H:aG):H.le H:=⟨λ_ _ h=>h,λ_ _ h=>h,λ_ _ _=>rfl⟩
def aG.le.trans{H H' uo:aG}(h:H.le H')(k:H'.le uo):H.le uo:=⟨λo v e=>k.val o v (h.val o v e),λo v e=>k.con o v (h.con o v e),λs t e=>(k.sub s t (h.con s t e)).trans (h.sub s t e)⟩
def lF(H:aG)(o s:Nat)(r:Row)(m:List r.den)(v:Value):Prop:=
 ∃A cap T,∃l:List r.den,∃a b,H.val o=aa (.slice A l.length cap)/\H.con s=aa (.own T r l)/\a<=b/\b<=l.length/\m=(l.take b).drop a/\v=sliced A a b cap r.size
theorem lF.keep{H H':aG}(hH:H.le H'){o s:Nat}{r:Row}{m:List r.den}{v:Value}(h:lF H o s r m v):lF H' o s r m v:=by
 obtain⟨A,cap,T,l,a,b,h1,h2,h3⟩:=h;exact⟨A,cap,T,l,a,b,hH.val _ _ h1,hH.con _ _ h2,h3⟩
def lF.back{H H' uo:aG}(hH:H.le H')(C2:H.le uo){o s:Nat}{r:Row}{m:List r.den}{v0 v:Value}(h0:lF H o s r m v0)(h:lF H' o s r m v):lF uo o s r m v:=by
 obtain⟨A,cap,T,l,a,b,h1,h2,_⟩:=h0;obtain⟨A',Jc,T',l',a',b',k1,k2,k3⟩:=h;have e1:=hH.val _ _ h1;have e2:=hH.con _ _ h2;rw[k1]at e1;rw[k2]at e2;simp only[agz,Th.own.injEq,heq_eq_eq,true_and]at e2;obtain⟨rfl,rfl⟩:=e2;exact⟨A',Jc,T',l',a',b',by rw[e1];exact C2.val _ _ h1,C2.con _ _ h2,k3⟩
theorem lF.one{H:aG}{o s:Nat}{r:Row}{m:List r.den}{v:Value}(h:lF H o s r m v):v.oneCell'=af:=by
 obtain⟨A,cap,T,l,a,b,_,_,_,_,_,rfl⟩:=h;simp[sliced,ahz]
def kH(H:aG):List (Nat×List Bool×Nat)->List Value->Prop
 |[],vs=>vs=[]
 |c::cs,vs=>∃v us,vs=v::us/\(∃b,H.val c.1=aa (.pointer (aa ⟨b,0,ae⟩))/\v= .pointer (aa ⟨b,c.2.2,ae⟩))/\kH H cs us
theorem kH.keep{H H':aG}(hH:∀o v,H.val o=aa v->H'.val o=aa v):{cs:List (Nat×List Bool×Nat)}->{vs:List Value}->kH H cs vs->kH H' cs vs
 |[],_,h=>h
 |_::_,_,h=>by obtain⟨v,us,e,⟨b,h1,h2⟩,h3⟩:=h;exact⟨v,us,e,⟨b,hH _ _ h1,h2⟩,h3.keep hH⟩
def Holds(H:aG)(F:Nat->Prop)(w:World):Tree->List Value->Prop
 | .leaf r x,cs=>cF F w r cs x
 | .own o,cs=>∃v,H.val o=aa v/\v.oneCell'=af/\cs=[v]
 | .nil,cs=>cs=[.slice ae 0 0]
 | .pair a b,cs=>∃c1 c2,cs=c1++c2/\Holds H F w a c1/\Holds H F w b c2
 | .view o s r m,cs=>∃v,cs=[v]/\lF H o s r m v
 | .junk n,cs=>cs.length=n/\∀u∈cs,u.oneCell'=af
def Tree.size:Tree->Nat
 | .leaf r _=>r.size
 | .own _=>1
 | .nil=>1
 | .pair a b=>a.size+b.size
 | .view .. =>1
 | .junk n=>n
def aO(H:aG)(F:Nat->Prop)(w:World)(agg:Bool)(t:Tree)(v:Value):Prop:=
 ∃cs,Holds H F w t cs/\v=(bif agg then .agg cs.toArray else cs.headD undef)/\(agg=ag->cs=[v])
def rH(H:aG)(F:Nat->Prop)(w:World):List (Bool×Tree)->List Value->Prop
 |[],vs=>vs=[]
 |d::ds,vs=>∃v us,vs=v::us/\aO H F w d.1 d.2 v/\rH H F w ds us
def aB(H:aG)(F:Nat->Prop)(w:World):aC->Value->Prop
 | .dead,_=>True
 | .undef,v=>v=Go.undef
 | .val agg t,v=>aO H F w agg t v
 | .ptr o _ off,v=>∃b,H.val o=aa (.pointer (aa ⟨b,0,ae⟩))/\v= .pointer (aa ⟨b,off,ae⟩)
 | .at r x,v=>∃b off,v= .pointer (aa ⟨b,off,ae⟩)/\F b/\At F w r b off x
 | .elem o s r i x _ off,v=>∃g o0 q T m cap l,H.val o=aa (.slice (aa ⟨g,o0,ae⟩) m cap)/\i=(q:Nat)/\H.con s=aa (.own T r l)/\idx l i=aa x/\v= .pointer (aa ⟨g,o0+q*r.size+off,ae⟩)
 | .tup ds,v=>∃vs,v= .tuple vs.toArray/\rH H F w ds vs
 | .dlm o d i _ off,v=>∃g o0 q m cap,H.val o=aa (.slice (aa ⟨g,o0,ae⟩) m cap)/\i=(q:Nat)/\v= .pointer (aa ⟨g,o0+q*d.low.size+off,ae⟩)
 | .fn f caps,v=>∃vs,v= .func (.func f) #[] vs.toArray/\kH H caps vs
 | .ifc T d,v=>∃u,v= .iface T u/\aB H F w d u
section
variable {H H':aG} {F F':Nat->Prop} {w w':World}
theorem Holds.length:{t:Tree}->{cs:List Value}->Holds H F w t cs->cs.length=t.size
 | .leaf _ _,_,h=>cF.length h
 | .own _,_,h=>by obtain⟨v,_,_,rfl⟩:=h;rfl
 | .nil,_,h=>by rw[show _=_ from h];rfl
 | .pair a b,_,h=>by obtain⟨c1,c2,rfl,h1,h2⟩:=h;simp[h1.length,h2.length,Tree.size]
 | .view ..,_,h=>by obtain⟨v,rfl,_⟩:=h;rfl
 | .junk _,_,h=>h.1
def Holds.jk:{t:Tree}->{cs:List Value}->Holds H F w t cs->∀u∈cs,u.oneCell'=af
 | .leaf _ _,_,h=>cF.jk h
 | .own _,_,h=>by obtain⟨v,_,h1,rfl⟩:=h;simpa using h1
 | .nil,_,h=>by rw[show _=_ from h];simp[ahz]
 | .pair a b,_,h=>by
   obtain⟨c1,c2,rfl,h1,h2⟩:=h;intro u hu
   rcases agV.1 hu with h'|h'
   .exact h1.jk u h'
   .exact h2.jk u h'
 | .view ..,_,h=>by obtain⟨v,rfl,h⟩:=h;simpa using h.one
 | .junk _,_,h=>h.2
theorem Holds.keep(hH:H.le H')(hs:Step F w F' w'):{t:Tree}->{cs:List Value}->Holds H F w t cs->Holds H' F' w' t cs
 | .leaf _ _,_,h=>cF.step hs h
 | .own _,_,h=>by obtain⟨v,h0,h1,rfl⟩:=h;exact⟨v,hH.val _ _ h0,h1,rfl⟩
 | .nil,_,h=>h
 | .pair a b,_,h=>by obtain⟨c1,c2,rfl,h1,h2⟩:=h;exact⟨c1,c2,rfl,h1.keep hH hs,h2.keep hH hs⟩
 | .view ..,_,h=>by obtain⟨v,rfl,h⟩:=h;exact⟨v,rfl,h.keep hH⟩
 | .junk _,_,h=>h
def Holds.back{uo:aG}{w0:World}{F0:Nat->Prop}(hH:H.le H')(C2:H.le uo):{t:Tree}->{UG cs:List Value}->Holds H F0 w0 t UG->Holds H' F w t cs->Holds uo F w t cs
 | .leaf _ _,_,_,_,h=>h
 | .own _,_,_,h0,h=>by
   obtain⟨v,a0,_,_⟩:=h0;obtain⟨u,b0,b1,rfl⟩:=h;have:=hH.val _ _ a0;rw[b0]at this;obtain rfl:=agq this;exact⟨u,C2.val _ _ a0,b1,rfl⟩
 | .nil,_,_,_,h=>h
 | .pair a b,_,_,h0,h=>by
   obtain⟨_,_,_,a1,a2⟩:=h0;obtain⟨c1,c2,rfl,h1,h2⟩:=h;exact⟨c1,c2,rfl,Holds.back (w0:=w0) (F0:=F0) hH C2 a1 h1,Holds.back (w0:=w0) (F0:=F0) hH C2 a2 h2⟩
 | .view ..,_,_,h0,h=>by
   obtain⟨_,_,h0⟩:=h0;obtain⟨v,rfl,h⟩:=h;exact⟨v,rfl,h0.back hH C2 h⟩
 | .junk _,_,_,_,h=>h
theorem aO.keep{agg:Bool}{t:Tree}{v:Value}(hH:H.le H')(hs:Step F w F' w')(h:aO H F w agg t v):aO H' F' w' agg t v:=by
 obtain⟨cs,h1,h2⟩:=h;exact⟨cs,h1.keep hH hs,h2⟩
theorem rH.keep(hH:H.le H')(hs:Step F w F' w'):{ds:List (Bool×Tree)}->{vs:List Value}->rH H F w ds vs->rH H' F' w' ds vs
 |[],_,h=>h
 |_::_,_,h=>by obtain⟨v,us,rfl,h1,h2⟩:=h;exact⟨v,us,rfl,h1.keep hH hs,h2.keep hH hs⟩
theorem At.keep{r:Row}{b off:Nat}{x:r.den}(hs:Step F w F' w')(hb:F b)(h:At F w r b off x):At F' w' r b off x:=by
 obtain⟨es,hl,hc,hr⟩:=h;exact⟨es,hl,λj u hu=>(World.cell?_of_block (hs b hb).2).trans (hc j u hu),hr.step hs⟩
theorem aB.keep(hH:H.le H')(hs:Step F w F' w'):{d:aC}->{v:Value}->aB H F w d v->aB H' F' w' d v
 | .dead,_,_=>trivial
 | .undef,_,h=>h
 | .val _ _,_,h=>aO.keep hH hs h
 | .ptr _ _ _,_,h=>by obtain⟨b,h1,h2⟩:=h;exact⟨b,hH.val _ _ h1,h2⟩
 | .at _ _,_,h=>by obtain⟨b,off,h1,h2,h3⟩:=h;exact⟨b,off,h1,(hs b h2).1,h3.keep hs h2⟩
 | .elem ..,_,h=>by obtain⟨g,o0,q,T,m,cap,l,h1,h2,h3,h4⟩:=h;exact⟨g,o0,q,T,m,cap,l,hH.val _ _ h1,h2,hH.con _ _ h3,h4⟩
 | .tup _,_,h=>by obtain⟨vs,h1,h2⟩:=h;exact⟨vs,h1,h2.keep hH hs⟩
 | .dlm ..,_,h=>by obtain⟨g,o0,q,m,cap,h1,h2,h3⟩:=h;exact⟨g,o0,q,m,cap,hH.val _ _ h1,h2,h3⟩
 | .fn ..,_,h=>by obtain⟨vs,h1,h2⟩:=h;exact⟨vs,h1,h2.keep hH.val⟩
 | .ifc _ d,_,h=>by obtain⟨u,h1,h2⟩:=h;exact⟨u,h1,aB.keep hH hs (d:=d) h2⟩
def find{α:Type}:List (Nat×α)->Nat->Option α
 |[],_=>ae
 |(m,a)::l,n=>bif agu m n then aa a else find l n
def del{α:Type}(ns:List Nat):List (Nat×α)->List (Nat×α)
 |[]=>[]
 |(m,a)::l=>bif ns.any (agu m)then del ns l else(m,a)::del ns l
theorem aS{α:Type}{m:Nat}{a:α}{l:List (Nat×α)}{n:Nat}:find ((m,a)::l) n=if m=n then aa a else find l n:=by
 show(bif agu m n then aa a else find l n)=_
 simp_all
def gV{α:Type}{l l':List (Nat×α)}{n:Nat}:find (l++l') n=(find l n).or (find l' n):=by
 induction l with
 |nil=>rfl
 |cons p l ih=>
  grind [aS]
theorem any_beq{ns:List Nat}{m:Nat}:ns.any (agu m)=af↔m∈ns:=by
 simp_all
theorem gW{α:Type}{ns:List Nat}{l:List (Nat×α)}{n:Nat}{a:α}:find (del ns l) n=aa a↔n∉ns/\find l n=aa a:=by
 induction l with
 |nil=>simp[del,find]
 |cons p l ih=>
  grind [del,any_beq,aS]
def pg(F:Nat->Prop)(w:World):Prop:=∀g d,find ER g=aa d->F g/\At F w d.1 g 0 d.2
def pg.step{F F':Nat->Prop}{w w':World}(h:pg F w)(hs:Step F w F' w'):pg F' w':=λg d hg=>⟨(hs g (h g d hg).1).1,(h g d hg).2.keep hs (h g d hg).1⟩
def fG(H:aG)(F:Nat->Prop)(w:World)(K:Row)(agg:Bool)(V:Row):List MapEntry->List (K.den×V.den)->Prop
 |[],l=>l=[]
 |e::es,l=>∃k x l',l=(k,x)::l'/\jM K k=aa e.key/\aO H F w agg (.leaf V x) e.val/\fG H F w K agg V es l'
theorem fG.keep{H H':aG}{F F':Nat->Prop}{w w':World}(hH:H.le H')(hs:Step F w F' w'){K:Row}{agg:Bool}{V:Row}:{es:List MapEntry}->{l:List (K.den×V.den)}->fG H F w K agg V es l->fG H' F' w' K agg V es l
 |[],_,h=>h
 |_::_,_,h=>by obtain⟨k,x,l',e,h1,h2,h3⟩:=h;exact⟨k,x,l',e,h1,h2.keep hH hs,fG.keep hH hs h3⟩
def fG.gj{H H':aG}{F:Nat->Prop}{w:World}{K:Row}{agg:Bool}{V:Row}:{es:List MapEntry}->{l:List (K.den×V.den)}->fG H F w K agg V es l->fG H' F w K agg V es l
 |[],_,h=>h
 |_::_,_,h=>by
  obtain⟨k,x,l',e,h1,⟨cs,h2,GD⟩,h3⟩:=h;exact⟨k,x,l',e,h1,⟨cs,h2,GD⟩,fG.gj h3⟩
noncomputable def dY:(K:Row)->K.den->K.den->Bool
 | .int _,a,b=>decide ((a:Int)=b)
 | .bool,a,b=>decide ((a:Bool)=b)
 | .str,a,b=>decide ((a:ByteArray)=b)
 | .pair (.int _) (.int _),a,b=>decide ((a.1:Int)=b.1/\(a.2:Int)=b.2)
 |_,_,_=>ag
def C4(H:aG)(F:Nat->Prop)(w:World)(S:Nat->Prop)(K:Row)(agg:Bool)(V:Row)(b:Nat)(es:Array MapEntry)(clock:Nat):Option (Nat×List (K.den×V.den)×Option (K.den×V.den))->Prop
 |none=>True
 |some (n,left,cur)=>∃r since seen last,S r/\r≠b/\H.val n=aa (.pointer (aa ⟨r,0,ae⟩))/\w.heap[r]? =aa (.mapIter (aa b) since seen last)/\(∀x∈es.toList,x.born<since)/\since<=last/\since<=clock/\
   (∃l2,fG H F w K agg V (leftOf es seen).toList l2/\l2.Perm left)/\∀p,cur=aa p->last=clock/\∃e∈es.toList,(∃s0:Array Nat,seen=s0.push e.born)/\jM K p.1=aa e.key/\aO H F w agg (.leaf V p.2) e.val
theorem C4.keep{H H':aG}{F F':Nat->Prop}{w w':World}{S:Nat->Prop}{K:Row}{agg:Bool}{V:Row}{b:Nat}{es:Array MapEntry}{clock:Nat}{it:Option (Nat×List (K.den×V.den)×Option (K.den×V.den))}
 (hH:H.le H')(hs:Step F w F' w')(hb:∀k,S k->w'.heap[k]? =w.heap[k]?)(h:C4 H F w S K agg V b es clock it):C4 H' F' w' S K agg V b es clock it:=by
 match it,h with
 |none,_=>trivial
 |some (n,left,cur),⟨r,since,seen,last,h1,h2,h3,h4,h5,h6,Vi,⟨l2,h7,h8⟩,h9⟩=>
  exact⟨r,since,seen,last,h1,h2,hH.val _ _ h3,(hb r h1).trans h4,h5,h6,Vi,⟨l2,h7.keep hH hs,h8⟩,λp hp=>by
   obtain⟨g1,e,g2,g3,g4,g5⟩:=h9 p hp
   exact⟨g1,e,g2,g3,g4,g5.keep hH hs⟩⟩
def C4.gj{H H':aG}{F:Nat->Prop}{w:World}{S:Nat->Prop}{K:Row}{agg:Bool}{V:Row}{b:Nat}{es:Array MapEntry}{clock:Nat}{it:Option (Nat×List (K.den×V.den)×Option (K.den×V.den))}
 (hn:∀n x u,it=aa (n,x)->H.val n=aa u->H'.val n=aa u)(h:C4 H F w S K agg V b es clock it):C4 H' F w S K agg V b es clock it:=by
 match it,h,hn with
 |none,_,_=>trivial
 |some (n,left,cur),⟨r,since,seen,last,h1,h2,h3,h4,h5,h6,Vi,⟨l2,h7,h8⟩,h9⟩,hn=>
  exact⟨r,since,seen,last,h1,h2,hn _ _ _ rfl h3,h4,h5,h6,Vi,⟨l2,h7.gj,h8⟩,λp hp=>by
   obtain⟨g1,e,g2,g3,g4,cs,g5,g6⟩:=h9 p hp
   exact⟨g1,e,g2,g3,g4,cs,g5,g6⟩⟩
def ol(H:aG)(F:Nat->Prop)(w:World)(d:DR)(h:Option vc)(i:Nat)(x':d.low.den)(x:d.row.den)(S:Nat->Prop):Prop:=
 match h with
 |none=>jK F w d x' x S
 |some h=>(h.i≠(i:Int)->jK F w d x' x S)/\(h.i=(i:Int)->∃T' e,∃q:fH d (.sl T' e),d.path h.p=aa ⟨_,q⟩/\mX F w q x' x S/\H.val h.o=aa (q.lo.get x'))
theorem ol.keep{H H':aG}{F F':Nat->Prop}{w w':World}{d:DR}{h:Option vc}{i:Nat}{x':d.low.den}{x:d.row.den}{S:Nat->Prop}(hr:ol H F w d h i x' x S)(hH:H.le H')(hs:Step F w F' w')(hb:∀k,S k->w'.heap[k]? =w.heap[k]?):ol H' F' w' d h i x' x S:=by
 cases h with
 |none=>exact jK.keep hs hr hb
 |some h=>
  refine⟨λhi=>(hr.1 hi).keep hs hb,λhi=>?_⟩;obtain⟨T',e,q,h1,h2,h3⟩:=hr.2 hi;exact⟨T',e,q,h1,h2.keep hs hb,hH.val _ _ h3⟩
def fp(S:Nat->Prop)(v:Value):Th->Nat->Prop
 | .box ..,k=>v= .pointer (aa ⟨k,0,ae⟩)
 | .own ..,k=>bF v k
 | .um ..,_=>False
 | .map ..,k=>v= .map (aa k)
 | .fmap ..,_=>False
 | .deep ..,k=>S k
 | .fdeep ..,_=>False
 | .smap ..,k=>S k
def gX(H:aG)(F:Nat->Prop)(w:World)(S:Nat->Prop)(v:Value):Th->Prop
 | .box T t=>∃b es,v= .pointer (aa ⟨b,0,ae⟩)/\w.heap[b]? =aa (.cells es.toArray T (0,0))/\Holds H F w t es
 | .own T r l=>∃xs,mA w 0 T r.size v l.length xs/\∀i(h:i<l.length),cF F w r ((xs.drop (i*r.size)).take r.size) l[i]
 | .um _ r l=>cF F w (.slice r) [v] l
 | .fmap _ K agg V l=>cF F w (.map K agg V) [v] l
 | .map _ K agg V l=>∃b es clock,v= .map (aa b)/\w.heap[b]? =aa (.map es clock)/\MapKept.Stamped es clock/\fG H F w K agg V es.toList l
 | .deep T d l h=>GC F w T d.low (ol H F w d h) v l S
 | .fdeep _ d l=>cF F w (.slice d.row) [v] l
 | .smap _ K agg V l it=>∃b es clock l',v= .map (aa b)/\S b/\w.heap[b]? =aa (.map es clock)/\MapKept.Stamped es clock/\fG H F w K agg V es.toList l'/\l'.Perm l/\C4 H F w S K agg V b es clock it
structure C5(U:Nat->Prop)(H:aG)(F:Nat->Prop)(w:World)(v:Value)(s:Nat)(t:Th):Prop where
 one:v.oneCell'=af
 con:H.con s=aa t.base
 ok:gX H F w (H.sub s) v t
 no:∀k,fp (H.sub s) v t k->¬F k
 lt:∀k,fp (H.sub s) v t k->k<w.heap.size
 use:∀k,fp (H.sub s) v t k->U k
structure aI(U:Nat->Prop)(H:aG)(F:Nat->Prop)(w:World)(ob:Nat->Option (Nat×Th))(n:Nat):Prop where
 obj:∀o s t,ob o=aa (s,t)->∃v,H.val o=aa v/\C5 U H F w v s t
 apart:∀o o' s s' t t' v v',o≠o'->ob o=aa (s,t)->ob o'=aa (s',t')->H.val o=aa v->H.val o'=aa v'->∀k,fp (H.sub s) v t k->¬fp (H.sub s') v' t' k
 fresh:∀m,n<=m->m<n+16->H.val m=ae/\H.con m=ae
 lt:∀b,F b->b<w.heap.size
 new:∀b,w.heap.size<=b->U b
 gl:pg F w
def gX.heap{S:Nat->Prop}{v:Value}{t:Th}(h:gX H F w S v t)(hH:H.le H')(hs:Step F w F' w')(hb:∀k,fp S v t k->w'.heap[k]? =w.heap[k]?):gX H' F' w' S v t:=by
 cases t with
 |box T t=>
  obtain⟨b,es,rfl,h1,h2⟩:=h;exact⟨b,es,rfl,(hb b rfl).trans h1,h2.keep hH hs⟩
 |own T r l=>
  obtain⟨xs,⟨CQ,ES⟩,h3⟩:=h;refine⟨xs,⟨CQ,?_⟩,λi hi=>(h3 i hi).step hs⟩
  rcases ES with h2|⟨gg,o0,cap,cur,rfl,qR,hg,rest⟩
  .exact .inl h2
  .exact .inr ⟨gg,o0,cap,cur,rfl,qR,(hb gg rfl).trans hg,rest⟩
 |um T r l=>exact cF.step (r:= .slice r) hs h
 |fmap T K agg V l=>exact cF.step (r:= .map K agg V) hs h
 |fdeep T d l=>exact cF.step (r:= .slice d.row) hs h
 |deep T d l hh=>exact GC.mono (show GC F w T d.low _ v l S from h) hs hb λi x' hi A hA hr=>hr.keep hH hs λk hk=>hb k (hA k hk)
 |map T K agg V l=>
  obtain⟨b,es,clock,rfl,h1,h2,h3⟩:=h;exact⟨b,es,clock,rfl,(hb b rfl).trans h1,h2,h3.keep hH hs⟩
 |smap T K agg V l it=>
  obtain⟨b,es,clock,l',rfl,h0,h1,h2,h3,h4,h5⟩:=h;exact⟨b,es,clock,l',rfl,h0,(hb b h0).trans h1,h2,h3.keep hH hs,h4,h5.keep hH hs hb⟩
def lJ.to{v:Value}{T:TypeId}{r:Row}{l:List r.den}(S:Nat->Prop)(h:lJ 0 F w T r v l):gX H F w S v (.own T r l):=h.2
end
structure State where
 aD:List (Nat×aC)
 objs:List (Nat×(Nat×Th))
 nxt:Nat
def gY(H:aG)(n:Nat):Prop:=∀m,n<=m->H.val m=ae/\H.con m=ae
structure Sat(U:Nat->Prop)(H:aG)(F:Nat->Prop)(w:World)(ρ:Nat->Value)(st:State):Prop where
 slot:∀t d,find st.aD t=aa d->aB H F w d (ρ t)
 ob:aI U H F w (find st.objs) st.nxt
 all:gY H st.nxt
structure dF where
 dst:aC
 eat:List Nat:=[]
 make:List (Nat×(Nat×Th)):=[]
def State.apply(st:State)(d:Option Nat)(e:dF):State:=
 {aD:=(match d with|some d=>(d,e.dst)::st.aD|none=>st.aD),objs:=e.make++del e.eat st.objs,nxt:=st.nxt+16}
def bX(H:aG)(ob:Nat->Option (Nat×Th))(eat:List Nat)(k:Nat):Prop:=∃o∈eat,∃s t v,ob o=aa (s,t)/\H.val o=aa v/\fp (H.sub s) v t k
structure LN(H:aG)(F:Nat->Prop)(w:World)(H':aG)(F':Nat->Prop)(w':World)(g:Nat->Prop):Prop where
 gj:H.le H'
 ext:Ext g w w'
 le:∀b,F b->F' b
 grow:∀b,F' b->F b\/w.heap.size<=b\/g b
 lt:∀b,F' b->b<w'.heap.size
structure Made(H':aG)(F':Nat->Prop)(w w':World)(g:Nat->Prop)(make:List (Nat×(Nat×Th))):Prop where
 obj:∀o s t,find make o=aa (s,t)->∃v,H'.val o=aa v/\v.oneCell'=af/\H'.con s=aa t.base/\gX H' F' w' (H'.sub s) v t/\∀k,fp (H'.sub s) v t k->¬F' k/\k<w'.heap.size/\(w.heap.size<=k\/g k)
 apart:∀o o' s s' t t' v v',o≠o'->find make o=aa (s,t)->find make o'=aa (s',t')->H'.val o=aa v->H'.val o'=aa v'->∀k,fp (H'.sub s) v t k->¬fp (H'.sub s') v' t' k
structure kI(H:aG)(F:Nat->Prop)(w:World)(ob:Nat->Option (Nat×Th))(n:Nat)(e:dF)(v:Value)(w':World)(H':aG)(F':Nat->Prop):Prop where
 kQ:LN H F w H' F' w' (bX H ob e.eat)
 fresh:∀m,(m<n\/n+16<=m)->(H.val m=ae->H'.val m=ae)/\(H.con m=ae->H'.con m=ae)
 dst:aB H' F' w' e.dst v
 made:Made H' F' w w' (bX H ob e.eat) e.make
 ids:∀o,(find e.make o).isSome->o∈e.eat\/n<=o
def lL(H:aG)(F:Nat->Prop)(w:World)(ob:Nat->Option (Nat×Th))(n:Nat)(e:dF)(v:Value)(w':World):Prop:=∃H' F',kI H F w ob n e v w' H' F'
def uq(ρ:Nat->Value):Option Nat->Value->Nat->Value
 |some d,v=>CN ρ d v
 |none,_=>ρ
theorem om(ρ:Nat->Value)(d:Nat)(v:Value)(t:Nat):CN ρ d v t=if t=d then v else ρ t:=by
 unfold CN
 simp_all
section
variable {U:Nat->Prop} {H H':aG} {F F':Nat->Prop} {w w':World} {ρ:Nat->Value} {st:State}
def LN.step{g:Nat->Prop}(h:LN H F w H' F' w' g)(hF:∀b,F b->b<w.heap.size)(hg:∀k,g k->¬F k):Step F w F' w':=
 λb hb=>⟨h.le b hb,h.ext.block b (hF b hb) λe=>hg b e hb⟩
def aI.eE{ob:Nat->Option (Nat×Th)}{n:Nat}(h:aI U H F w ob n){eat:List Nat}:∀k,bX H ob eat k->¬F k:=by
 rintro k ⟨o,_,s,t,v,h1,h2,h3⟩
 obtain⟨v',e,hi⟩:=h.obj o s t h1;rw[h2]at e;obtain rfl:=agq e;exact hi.no k h3
def aI.vd{ob:Nat->Option (Nat×Th)}{n:Nat}(h:aI U H F w ob n){eat:List Nat}:∀k,bX H ob eat k->k<w.heap.size:=by
 rintro k ⟨o,_,s,t,v,h1,h2,h3⟩
 obtain⟨v',e,hi⟩:=h.obj o s t h1;rw[h2]at e;obtain rfl:=agq e;exact hi.lt k h3
def aI.fI{ob:Nat->Option (Nat×Th)}{n:Nat}(h:aI U H F w ob n){eat:List Nat}:∀k,bX H ob eat k->U k:=by
 rintro k ⟨o,_,s,t,v,h1,h2,h3⟩
 obtain⟨v',e,hi⟩:=h.obj o s t h1;rw[h2]at e;obtain rfl:=agq e;exact hi.use k h3
def C5.kQ{ob:Nat->Option (Nat×Th)}{n:Nat}(hs:aI U H F w ob n){eat:List Nat}(he:LN H F w H' F' w' (bX H ob eat)){o s:Nat}{t:Th}{v:Value}(ho:ob o=aa (s,t))(hn:o∉eat)(hv:H.val o=aa v)(h:C5 U H F w v s t):C5 U H' F' w' v s t:=by
 have hap:∀k,fp (H.sub s) v t k->¬bX H ob eat k:=by
  rintro k hk ⟨o',lD,s',t',v',h1,h2,h3⟩
  exact hs.apart o o' s s' t t' v v' (λe=>hn (e▸lD)) ho h1 hv h2 k hk h3
 have gZ:=he.gj.sub _ _ h.con;refine⟨h.one,he.gj.con _ _ h.con,by rw[gZ];exact h.ok.heap he.gj (he.step hs.lt hs.eE) λk hk=>he.ext.block k (h.lt k hk) (hap k hk),λk hk hF=>?_,λk hk=>agK (h.lt k (by rwa [gZ]at hk)) he.ext.size,λk hk=>h.use k (by grind)⟩;rw[gZ]at hk
 rcases he.grow k hF with h1|h1|h1
 .exact h.no k hk h1
 .have:=h.lt k hk;omega
 grind
def aI.Jm{ob LO Jn:Nat->Option (Nat×Th)}{n n' m:Nat}{e:dF}{v:Value}(h:aI U H F w ob n)(hR:∀o x,LO o=aa x->ob o=aa x)(hp:kI H F w LO m e v w' H' F')
 (part:∀o s t,Jn o=aa (s,t)->find e.make o=aa (s,t)\/(o∉e.eat/\ob o=aa (s,t)/\find e.make o=ae))(yF:∀m,n'<=m->m<n'+16->H'.val m=ae/\H'.con m=ae):
 aI U H' F' w' Jn n':=by
 have C6:∀k,bX H LO e.eat k->bX H ob e.eat k:=λk ⟨o,ho,s,t,v,h1,h2⟩=>⟨o,ho,s,t,v,hR _ _ h1,h2⟩
 have Rs:LN H F w H' F' w' (bX H ob e.eat):=⟨hp.kQ.gj,⟨hp.kQ.ext.os,hp.kQ.ext.tape,hp.kQ.ext.output,hp.kQ.ext.size,λk hk hn=>hp.kQ.ext.block k hk λhh=>hn (C6 k hh)⟩,hp.kQ.le,λb hb=>(hp.kQ.grow b hb).imp id λh=>h.imp id (C6 b),hp.kQ.lt⟩
 have ZL:∀o s t,o∉e.eat->ob o=aa (s,t)->∃v,H.val o=aa v/\H'.val o=aa v/\C5 U H' F' w' v s t/\H'.sub s=H.sub s/\∀k,fp (H'.sub s) v t k->k<w.heap.size/\¬bX H ob e.eat k:=by
  intro o s t ho hf;obtain⟨v,hv,hi⟩:=h.obj o s t hf;have gZ:=hp.kQ.gj.sub _ _ hi.con;refine⟨v,hv,hp.kQ.gj.val _ _ hv,hi.kQ h Rs hf ho hv,gZ,λk hk=>?_⟩;rw[gZ]at hk;refine⟨hi.lt k hk,?_⟩
  rintro⟨o',lD,s',t',v',h1,h2,h3⟩
  exact h.apart o o' s s' t t' v v' (λe=>ho (e▸lD)) hf h1 hv h2 k hk h3
 refine⟨λo s t ho=>?_,λo o' s s' t t' v v' dJ ho lD hv dX k hk gD=>?_,yF,hp.kQ.lt,λb hb=>h.new b (agR hp.kQ.ext.size hb),h.gl.step (Rs.step h.lt h.eE)⟩
 .rcases part o s t ho with h1|⟨h1,h2,_⟩
  .obtain⟨v,a1,a2,a3,a4,a5⟩:=hp.made.obj o s t h1;exact⟨v,a1,a2,a3,a4,λk hk=>(a5 k hk).1,λk hk=>(a5 k hk).2.1,λk hk=>(a5 k hk).2.2.elim (h.new k) (λhh=>h.fI k (C6 k hh))⟩
  grind
 .rcases part o s t ho with h1|⟨h1,h2,_⟩<;>rcases part o' s' t' lD with C7|⟨C7,GD,_⟩
  .exact hp.made.apart o o' s s' t t' v v' dJ h1 C7 hv dX k hk gD
  .obtain⟨u,_,a1,_,_,a5⟩:=hp.made.obj o s t h1
   grind
  .obtain⟨u,_,a1,_,_,a5⟩:=hp.made.obj o' s' t' C7
   grind
  .obtain⟨u,b1,b2,_,b5,_⟩:=ZL o s t h1 h2;obtain⟨u',c1,c2,_,c5,_⟩:=ZL o' s' t' C7 GD;rw[b5]at hk;rw[c5]at gD;have e1:=agq (hv.symm.trans b2);have e2:=agq (dX.symm.trans c2);subst e1;subst e2;exact h.apart o o' s s' t t' v v' dJ h2 GD b1 c1 k hk gD
def C8{objs:List (Nat×(Nat×Th))}{e:dF}:∀o s t,find (e.make++del e.eat objs) o=aa (s,t)->find e.make o=aa (s,t)\/(o∉e.eat/\find objs o=aa (s,t)/\find e.make o=ae):=by
 intro o s t ho;rw[gV]at ho
 cases hm:find e.make o with
 |some x=>grind
 |none=>
  grind [gW]
def Sat.apply{d:Option Nat}{e:dF}{v:Value}(h:Sat U H F w ρ st)(hp:kI H F w (find st.objs) st.nxt e v w' H' F'):Sat U H' F' w' (uq ρ d v) (st.apply d e):=by
 have fg:gY H' (st.nxt+16):=λm hm=>⟨(hp.fresh m (.inr hm)).1 (h.all m (by omega)).1,(hp.fresh m (.inr hm)).2 (h.all m (by omega)).2⟩
 refine⟨λt q hq=>?_,h.ob.Jm (λ_ _ h=>h) hp C8 λm hm _=>fg m hm,fg⟩;have gx:=hp.kQ.step h.ob.lt h.ob.eE
 cases d with
 |none=>exact(h.slot t q hq).keep hp.kQ.gj gx
 |some d=>
  have Ai:find ((d,e.dst)::st.aD) t=aa q:=hq;rw[aS]at Ai
  show aB H' F' w' q (CN ρ d v t)
  rw[om];by_cases hd:d=t
  .grind [kI.dst]
  .rw[ai hd]at Ai;rw[ai (Ne.symm hd)];exact(h.slot t q Ai).keep hp.kQ.gj gx
end
end
section
def bT(P:Program)(ρ:Nat->Value)(o:Oper)(w:World)(Q:Value->World->Prop):Prop:=
 match(execOp (ev ρ) o).run P w with
 | .ok (.value v) w'=>True/\Q v w'
 | .ok .skip w'=>o.dst=ae/\Q undef w'
 | .ok (.enter f args) w'=>Calls P f args w' λe wL=>∃v,e= .returned v/\Q v wL
 |_=>False
section
variable {P:Program} {n:Nat} {ops:Array Oper} {K:(Nat->Value)->World->Prop} {rest:List Oper} {ρ:Nat->Value} {w:World}
variable {dst:Option Nat} {op:Op} {ty:TypeId} {pos:String} {aft:Array Edge} {Q:Value->World->Prop}
def bT.mono{o:Oper}{Q':Value->World->Prop}(h:bT P ρ o w Q)(hq:∀v w',Q v w'->Q' v w'):bT P ρ o w Q':=by
 unfold bT at*;generalize(execOp (ev ρ) o).run P w=r at*
 cases r with
 |halt x w'=>exact h
 |ok x w'=>
  cases x<;>first
   |exact h
   |exact⟨h.1,hq _ _ h.2⟩
   |exact h.mono (by grind)
def bT.val{d:Option Nat}{v:Value}{w':World}(hr:(execOp (ev ρ) ⟨d,op,ty,pos,aft,ae⟩).run P w= .ok (.value v) w')(h:Q v w'):bT P ρ ⟨d,op,ty,pos,aft,ae⟩ w Q:=by
 grind [bT]
def bT.unit{w':World}(hr:(execOp (ev ρ) ⟨ae,op,ty,pos,aft,ae⟩).run P w= .ok .skip w')(h:Q undef w'):bT P ρ ⟨ae,op,ty,pos,aft,ae⟩ w Q:=by
 grind [bT]
def vf(h:bT P ρ ⟨dst,op,ty,pos,aft,ae⟩ w Q)(hd:∀d,dst=aa d->agW d n=af)
 (hk:∀v w',Q v w'->wpS P n ops K rest (uq ρ dst v) w'):wpS P n ops K (⟨dst,op,ty,pos,aft,ae⟩::rest) ρ w:=
 λQQ a hf ID=>wpList_plain rfl λK' hK=>by
  unfold Oper.wp;rw[hf.eval];unfold bT at h;generalize(execOp (ev ρ) ⟨dst,op,ty,pos,aft,ae⟩).run P w=r at*
  have sG:∀v,Fr n (a.put dst v) (uq ρ dst v):=λv=>by
   cases dst with
   |none=>exact hf
   |some d=>exact hf.put (hd d rfl) v
  cases r with
  |halt x w'=>exact h.elim
  |ok x w'=>
   cases x<;>first
    |exact h.elim
    |skip
   case value v=>exact hK _ _ (hk v w' h.2 QQ _ (sG v) ID)
   case skip=>exact hK _ _ (hk undef w' h.2 QQ _ (sG undef) ID)
   case enter f args=>
    refine h.mono λe wL ⟨v,he,hv⟩=>?_
    subst he;exact hK _ _ (hk v wL hv QQ _ (sG v) ID)
end
inductive IE where
 |int (k:IntKind)
 |bool
 |str
 |slice (e:TypeId)
 |struct (fs:List (TypeId×Nat))
 |array (n:Nat) (e:TypeId)
 |map (k v:TypeId)
 |ptr (e:TypeId)
 |other
def xm(P:Program)(t:TypeId):IE->Prop
 | .int k=>P.underlying t=aa (.int k)
 | .bool=>P.underlying t=aa .bool
 | .str=>P.underlying t=aa .string
 | .slice e=>P.underlying t=aa (.slice e)
 | .struct fs=>∃arr:Array Field,P.underlying t=aa (.struct arr)/\arr.toList.map (λf=>(f.type,f.offset))=fs
 | .array n e=>P.underlying t=aa (.array n e)
 | .map k v=>P.underlying t=aa (.map k v)
 | .ptr e=>P.underlying t=aa (.pointer e)
 | .other=>∃d,P.underlying t=aa d/\gJ d=ag
def yG(P:Program)(t:TypeId)(agg:Bool)(r:Row):Prop:=∃z,(P.info? t).bind (·.zero)=aa z/\z=(bif agg then .agg r.eD.toArray else r.eD.headD undef)
def qG(P:Program)(t:TypeId)(name:String)(f:FuncId)(pr:Bool):Prop:=
 ((P.info? t).bind λi=>i.methods.find? λm=>m.name==name).map (λm=>(m.path.toList.length,m.func))=aa (0,aa (f,pr))
structure aX(P:Program)where
 und:List (Nat×IE)
 row:List (Nat×Row)
 eqs:List (Nat×Row)
 zer:List (Nat×(Bool×Row))
 und_ok:∀t k,find und t=aa k->xm P t k
 row_ok:∀t r,find row t=aa r->TI P t r
 eqs_ok:∀t r,find eqs t=aa r->∃K d,qB P t r K/\d+K=10000/\P.eqGuardType P.depth t=ag/\(P.underlying t).any gJ=af
 zer_ok:∀t agg r,find zer t=aa (agg,r)->yG P t agg r
 kys:List TypeId
 kys_ok:∀t∈kys,∀(em:Bool)(a b:Value)(w:World),(Instr.checkKey em 10000 t (.agg #[a,b])).run P w= .ok () w
 mth:List (TypeId×(String×(FuncId×Bool)))
 mth_ok:∀p∈mth,qG P p.1 p.2.1 p.2.2.1 p.2.2.2
def jN:IE->Bool
 | .struct _| .array _ _=>af
 |_=>ag
def xm.agg{P:Program}{t:TypeId}{k:IE}(h:xm P t k):∃d,P.underlying t=aa d/\gJ d=jN k:=by
 cases k<;>first
  |exact⟨_,h,rfl⟩
  |(obtain⟨arr,h,_⟩:=h;exact⟨_,h,rfl⟩)
  |exact h
def mF{α:Type}{Q:Nat->α->Prop}{l:List (Nat×α)}(h:∀p∈l,Q p.1 p.2):∀t a,find l t=aa a->Q t a:=by
 intro t a
 induction l with
 |nil=>intro h';cases h'
 |cons p l ih=>
  grind [aS]
def C9:Value->Option aC
 | .int k n=>aa (.val ag (.leaf (.int k) n))
 | .bool b=>aa (.val ag (.leaf .bool b))
 | .string s=>aa (.val ag (.leaf .str s))
 | .slice ae 0 0=>aa (.val ag .nil)
 | .map ae=>aa (.val ag (.leaf (.nul .map) ()))
 | .pointer ae=>aa (.val ag (.leaf (.nul .ptr) ()))
 | .nilFunc=>aa (.val ag (.leaf (.nul .func) ()))
 | .nilIface=>aa .dead
 |_=>ae
def GF(aD:List (Nat×aC)):Operand->Option aC
 | .tmp t=>find aD t
 | .const v=>C9 v
 | .func f=>aa (.fn f [])
 | .global g=>match find ER g with
   |some d=>aa (.at d.1 d.2)
   |none=>ae
def aO.nD{H:aG}{F:Nat->Prop}{w:World}{r:Row}{x:r.den}{v:Value}(h:cF F w r [v] x):aO H F w ag (.leaf r x) v:=⟨[v],h,rfl,λ_=>rfl⟩
def GG{H:aG}{F:Nat->Prop}{w:World}{v:Value}{d:aC}(h:C9 v=aa d):aB H F w d v:=by
 unfold C9 at h
 split at h<;>first|cases h|skip
 .exact aO.nD rfl
 .exact aO.nD rfl
 .exact aO.nD rfl
 .exact⟨_,rfl,rfl,λ_=>rfl⟩
 .exact aO.nD rfl
 .exact aO.nD rfl
 .exact aO.nD rfl
 .trivial
def sH{H:aG}{F:Nat->Prop}{w:World}{ρ:Nat->Value}{aD:List (Nat×aC)}(hg:pg F w)(h:∀t d,find aD t=aa d->aB H F w d (ρ t)):∀x d,GF aD x=aa d->aB H F w d (ev ρ x):=by
 intro x d hx
 cases x with
 |tmp t=>exact h t d hx
 |const v=>exact GG hx
 |global g=>
  have Mg:(match find ER g with|some d=>aa (aC.at d.1 d.2)|none=>ae)=aa d:=hx;split at Mg
  .rename_i q hq;obtain rfl:=agq Mg;obtain⟨h1,h2⟩:=hg g q hq;exact⟨g,0,rfl,h1,h2⟩
  .cases Mg
 |func f=>obtain rfl:=agq hx;exact⟨[],rfl,rfl⟩
def aO.inv{H:aG}{F:Nat->Prop}{w:World}{r:Row}{x:r.den}{v:Value}(h:aO H F w ag (.leaf r x) v):cF F w r [v] x:=by
 obtain⟨cs,h1,_,h3⟩:=h;rw[h3 rfl]at h1;exact h1
def aO.int{H:aG}{F:Nat->Prop}{w:World}{k:IntKind}{x:Int}{v:Value}(h:aO H F w ag (.leaf (.int k) x) v):v= .int k x:=by
 have:=h.inv;simpa[cF]using this
def aO.bool{H:aG}{F:Nat->Prop}{w:World}{x:Bool}{v:Value}(h:aO H F w ag (.leaf .bool x) v):v= .bool x:=by
 have:=h.inv;simpa[cF]using this
def aO.str{H:aG}{F:Nat->Prop}{w:World}{x:ByteArray}{v:Value}(h:aO H F w ag (.leaf .str x) v):v= .string x:=by
 have:=h.inv;simpa[cF]using this
def aO.jA(H:aG)(F:Nat->Prop)(w:World)(k:IntKind)(x:Int):aO H F w ag (.leaf (.int k) x) (.int k x):=aO.nD rfl
def aO.fx(H:aG)(F:Nat->Prop)(w:World)(x:Bool):aO H F w ag (.leaf .bool x) (.bool x):=aO.nD rfl
def aO.mkStr(H:aG)(F:Nat->Prop)(w:World)(x:ByteArray):aO H F w ag (.leaf .str x) (.string x):=aO.nD rfl
abbrev l4(k:IntKind)(x:Int):aC:= .val ag (.leaf (.int k) x)
abbrev dC(x:Bool):aC:= .val ag (.leaf .bool x)
abbrev Vj(x:ByteArray):aC:= .val ag (.leaf .str x)
def asInt:aC->Option (IntKind×Int)
 | .val ag (.leaf (.int k) x)=>aa (k,x)
 |_=>ae
def asBool:aC->Option Bool
 | .val ag (.leaf .bool x)=>aa x
 |_=>ae
def Aj:aC->Option ByteArray
 | .val ag (.leaf .str x)=>aa x
 |_=>ae
section
variable {P:Program} {ρ:Nat->Value} {w w':World} {H H':aG} {F F':Nat->Prop} {U:Nat->Prop} {ob:Nat->Option (Nat×Th)} {n:Nat} {R:Type}
variable {dst:Option Nat} {op:Op} {ty:TypeId} {pos:String} {aft:Array Edge} {d:Nat}
def hZ{D:aC}{k:IntKind}{x:Int}{v:Value}(h:asInt D=aa (k,x))(hd:aB H F w D v):v= .int k x:=by
 unfold asInt at h
 split at h<;>cases h
 exact aO.int hd
def nE{D:aC}{x:Bool}{v:Value}(h:asBool D=aa x)(hd:aB H F w D v):v= .bool x:=by
 unfold asBool at h
 split at h<;>cases h
 exact aO.bool hd
def vg{D:aC}{x:ByteArray}{v:Value}(h:Aj D=aa x)(hd:aB H F w D v):v= .string x:=by
 unfold Aj at h
 split at h<;>cases h
 exact aO.str hd
def cd(P:Program)(_U:Nat->Prop)(H:aG)(F:Nat->Prop)(w:World)(ρ:Nat->Value)(ob:Nat->Option (Nat×Th))(n:Nat)(o:Oper)(e:dF):Prop:=
 bT P ρ o w (lL H F w ob n e)
def LN.refl{g:Nat->Prop}(hF:∀b,F b->b<w.heap.size):LN H F w H F w g:=⟨aG.le.refl H,⟨rfl,⟨rfl,agt _⟩,rfl,agt _,λ_ _ _=>rfl⟩,λ_ h=>h,λ_ h=> .inl h,hF⟩
theorem Made.nil{g:Nat->Prop}:Made H' F' w w' g []:=⟨λ_ _ _ h=>(by cases h),λ_ _ _ _ _ _ _ _ _ h=>(by cases h)⟩
def kI.pure(hs:aI U H F w ob n){D:aC}{v:Value}(h:aB H F w D v):lL H F w ob n {dst:=D} v w:=
 ⟨H,F,LN.refl hs.lt,λm hm=>⟨id,id⟩,h,Made.nil,λo h=>by cases h⟩
def bz(hs:aI U H F w ob n){D:aC}{v:Value}(hr:(execOp (ev ρ) ⟨aa d,op,ty,pos,aft,ae⟩).run P w= .ok (.value v) w)(h:aB H F w D v):cd P U H F w ρ ob n ⟨aa d,op,ty,pos,aft,ae⟩ {dst:=D}:=
 bT.val hr (kI.pure hs h)
def aQ(hs:aI U H F w ob n){D:aC}{v:Value}(hr:Pure P ρ ⟨aa d,op,ty,pos,aft,ae⟩ v)(h:aB H F w D v):cd P U H F w ρ ob n ⟨aa d,op,ty,pos,aft,ae⟩ {dst:=D}:=
 bz hs (hr w) h
def aF(o:BinOp)(k:IntKind)(a b:Int):Int:=
 match o with
 | .and=>k.wrap (ag9 k.bits a&&& ag9 k.bits b).toNat
 | .or=>k.wrap (ag9 k.bits a|||ag9 k.bits b).toNat
 | .xor=>k.wrap (ag9 k.bits a ^^^ ag9 k.bits b).toNat
 |_=>k.wrap (ag9 k.bits a&&& ~~~ag9 k.bits b).toNat
def sI(k:IntKind)(a b:Int):Int:=k.wrap (a*2 ^ min b.toNat k.bits)
def bx(k:IntKind)(a b:Int):Int:=a.fdiv (2 ^ min b.toNat k.bits)
def qC(k:IntKind)(a b:Int):Option Int:=if b<0 then ae else aa (sI k a b)
def ur(k:IntKind)(a b:Int):Option Int:=if b<0 then ae else aa (bx k a b)
def arith:BinOp->IntKind->Int->Int->Option aC
 | .add,k,a,b=>aa (l4 k (k.wrap (a+b)))
 | .sub,k,a,b=>aa (l4 k (k.wrap (a-b)))
 | .mul,k,a,b=>aa (l4 k (k.wrap (a*b)))
 | .lss,_,a,b=>aa (dC (decide (a<b)))
 | .leq,_,a,b=>aa (dC (decide (a<=b)))
 | .gtr,_,a,b=>aa (dC (decide (b<a)))
 | .geq,_,a,b=>aa (dC (decide (b<=a)))
 | .eql,_,a,b=>aa (dC (decide (a=b)))
 | .neq,_,a,b=>aa (dC (!decide (a=b)))
 | .and,k,a,b=>aa (l4 k (aF .and k a b))
 | .or,k,a,b=>aa (l4 k (aF .or k a b))
 | .xor,k,a,b=>aa (l4 k (aF .xor k a b))
 | .andNot,k,a,b=>aa (l4 k (aF .andNot k a b))
 |_,_,_,_=>ae
def pure_and{k:IntKind}{a b:Int}{t u:TypeId}{x y:Operand}(hx:ev ρ x= .int k a)(hy:ev ρ y= .int k b):Pure P ρ ⟨aa d, .binOp .and t x y u,ty,pos,aft,ae⟩ (.int k (aF .and k a b)):=λw=>by simp[execOp,hx,hy,binOp,Op.intBits,eqGuard,aF,go_sem]
def pure_or{k:IntKind}{a b:Int}{t u:TypeId}{x y:Operand}(hx:ev ρ x= .int k a)(hy:ev ρ y= .int k b):Pure P ρ ⟨aa d, .binOp .or t x y u,ty,pos,aft,ae⟩ (.int k (aF .or k a b)):=λw=>by simp[execOp,hx,hy,binOp,Op.intBits,eqGuard,aF,go_sem]
def Jo{k:IntKind}{a b:Int}{t u:TypeId}{x y:Operand}(hx:ev ρ x= .int k a)(hy:ev ρ y= .int k b):Pure P ρ ⟨aa d, .binOp .xor t x y u,ty,pos,aft,ae⟩ (.int k (aF .xor k a b)):=λw=>by simp[execOp,hx,hy,binOp,Op.intBits,eqGuard,aF,go_sem]
def Ak{k:IntKind}{a b:Int}{t u:TypeId}{x y:Operand}(hx:ev ρ x= .int k a)(hy:ev ρ y= .int k b):Pure P ρ ⟨aa d, .binOp .andNot t x y u,ty,pos,aft,ae⟩ (.int k (aF .andNot k a b)):=λw=>by simp[execOp,hx,hy,binOp,Op.intBits,eqGuard,aF,go_sem]
def Al{k k':IntKind}{a b:Int}{t u:TypeId}{x y:Operand}(hx:ev ρ x= .int k a)(hy:ev ρ y= .int k' b)(hb:¬b<0):Pure P ρ ⟨aa d, .binOp .shl t x y u,ty,pos,aft,ae⟩ (.int k (sI k a b)):=λw=>by simp[execOp,hx,hy,binOp,Op.shift,eqGuard,sI,hb,go_sem]
def Am{k k':IntKind}{a b:Int}{t u:TypeId}{x y:Operand}(hx:ev ρ x= .int k a)(hy:ev ρ y= .int k' b)(hb:¬b<0):Pure P ρ ⟨aa d, .binOp .shr t x y u,ty,pos,aft,ae⟩ (.int k (bx k a b)):=λw=>by simp[execOp,hx,hy,binOp,Op.shift,eqGuard,bx,hb,go_sem]
theorem Jp{o:BinOp}{k:IntKind}{a b:Int}{D:aC}{t u:TypeId}{x y:Operand}(h:arith o k a b=aa D)(hs:aI U H F w ob n)(hx:ev ρ x= .int k a)(hy:ev ρ y= .int k b):
 cd P U H F w ρ ob n ⟨aa d, .binOp o t x y u,ty,pos,aft,ae⟩ {dst:=D}:=by
 unfold arith at h
 split at h<;>cases h
 .exact aQ hs (IV hx hy) (aO.jA ..)
 .exact aQ hs (IW hx hy) (aO.jA ..)
 .exact aQ hs (IX hx hy) (aO.jA ..)
 .exact aQ hs (I0 hx hy) (aO.fx ..)
 .exact aQ hs (I1 hx hy) (aO.fx ..)
 .exact aQ hs (I2 hx hy) (aO.fx ..)
 .exact aQ hs (I3 hx hy) (aO.fx ..)
 .exact aQ hs (I4 hx hy) (aO.fx ..)
 .exact aQ hs (I5 hx hy) (aO.fx ..)
 .exact aQ hs (pure_and hx hy) (aO.jA ..)
 .exact aQ hs (pure_or hx hy) (aO.jA ..)
 .exact aQ hs (Jo hx hy) (aO.jA ..)
 .exact aQ hs (Ak hx hy) (aO.jA ..)
def kB(a b:Int):Option Int:=if b=0 then ae else aa (agC a b)
def ph(a b:Int):Option Int:=if b=0 then ae else aa (agD a b)
def Rt:Operand->Bool
 | .const _=>af
 |_=>ag
theorem Jq{k:IntKind}{a b:Int}{t u:TypeId}{x y:Operand}(hb:b≠0)(hs:aI U H F w ob n)(hx:ev ρ x= .int k a)(hy:ev ρ y= .int k b):
 cd P U H F w ρ ob n ⟨aa d, .binOp .quo t x y u,ty,pos,aft,ae⟩ {dst:=l4 k (k.wrap (agC a b))}:=
 aQ hs (IY hx hy hb) (aO.jA ..)
theorem Jr{k:IntKind}{a b:Int}{t u:TypeId}{x y:Operand}(hb:b≠0)(hs:aI U H F w ob n)(hx:ev ρ x= .int k a)(hy:ev ρ y= .int k b):
 cd P U H F w ρ ob n ⟨aa d, .binOp .rem t x y u,ty,pos,aft,ae⟩ {dst:=l4 k (agD a b)}:=
 aQ hs (IZ hx hy hb) (aO.jA ..)
end
end
section
def Tree.split:Tree->Option (Tree×Tree)
 | .leaf (.pair a b) x=>aa (.leaf a x.1, .leaf b x.2)
 | .pair a b=>aa (a,b)
 |_=>ae
def Tree.get:Tree->List Bool->Option (Tree×Nat)
 |t,[]=>aa (t,0)
 |t,d::p=>match t.split with
  |none=>ae
  |some (a,b)=>match d with
   |false=>Tree.get a p
   |true=>match Tree.get b p with
    |none=>ae
    |some (s,off)=>aa (s,a.size+off)
def Tree.put:Tree->List Bool->Tree->Option Tree
 |_,[],u=>aa u
 |t,d::p,u=>match t.split with
  |none=>ae
  |some (a,b)=>match d with
   |false=>match Tree.put a p u with
    |none=>ae
    |some a'=>aa (.pair a' b)
   |true=>match Tree.put b p u with
    |none=>ae
    |some b'=>aa (.pair a b')
def rI:Nat->Nat->List Bool
 |0,_=>[]
 |1,_=>[]
 |_+2,0=>[ag]
 |m+2,f+1=>af::rI (m+1) f
section
variable {H:aG} {F:Nat->Prop} {w:World}
def Holds.split{t a b:Tree}{cs:List Value}(hs:t.split=aa (a,b))(h:Holds H F w t cs):∃c1 c2,cs=c1++c2/\Holds H F w a c1/\Holds H F w b c2/\t.size=a.size+b.size:=by
 unfold Tree.split at hs
 split at hs<;>cases hs
 .obtain⟨c1,c2,e,h1,h2⟩:=h;exact⟨c1,c2,e,h1,h2,rfl⟩
 .obtain⟨c1,c2,e,h1,h2⟩:=h;exact⟨c1,c2,e,h1,h2,rfl⟩
def Holds.get:{p:List Bool}->{t s:Tree}->{off:Nat}->{cs:List Value}->t.get p=aa (s,off)->Holds H F w t cs->Holds H F w s ((cs.drop off).take s.size)/\off+s.size<=cs.length
 |[],t,s,off,cs,hg,h=>by
  obtain⟨rfl,rfl⟩:=Prod.mk.inj (agq hg)
  grind [Holds.length]
 |d::p,t,s,off,cs,hg,h=>by
  unfold Tree.get at hg
  cases qE:t.split with
  |none=>grind
  |some ab=>
   obtain⟨a,b⟩:=ab;rw[qE]at hg;obtain⟨c1,c2,rfl,h1,h2,_⟩:=h.split qE;have NY:=h1.length
   cases d with
   |false=>
    obtain⟨g1,g2⟩:=Holds.get hg h1
    grind
   |true=>
    cases hb:b.get p with
    |none=>grind
    |some so=>
     obtain⟨s',dK⟩:=so;simp only[hb,agz,Prod.mk.injEq]at hg;obtain⟨rfl,rfl⟩:=hg;obtain⟨g1,g2⟩:=Holds.get hb h2
     grind [List.drop_append,List.drop_of_length_le]
def Holds.put{u:Tree}{vs:List Value}(hu:Holds H F w u vs):{p:List Bool}->{t s t':Tree}->{off:Nat}->{cs:List Value}->t.get p=aa (s,off)->t.put p u=aa t'->s.size=u.size->Holds H F w t cs->
 Holds H F w t' (cs.take off++vs++cs.drop (off+u.size))
 |[],t,s,t',off,cs,hg,hp,hz,h=>by
  obtain⟨rfl,rfl⟩:=Prod.mk.inj (agq hg);obtain rfl:=agq hp;have hl:=h.length
  grind
 |d::p,t,s,t',off,cs,hg,hp,hz,h=>by
  unfold Tree.get at hg;unfold Tree.put at hp
  cases qE:t.split with
  |none=>grind
  |some ab=>
   obtain⟨a,b⟩:=ab;rw[qE]at hg hp;obtain⟨c1,c2,rfl,h1,h2,_⟩:=h.split qE;have NY:=h1.length
   cases d with
   |false=>
    cases hq:a.put p u with
    |none=>grind
    |some a'=>
     simp only[hq,agz]at hp;subst hp;have h3:=Holds.put hu hg hq hz h1;have g2:=(Holds.get hg h1).2;refine⟨_,c2,?_,h3,h2⟩
     grind
   |true=>
    cases hb:b.get p with
    |none=>grind
    |some so=>
     obtain⟨s',dK⟩:=so;simp only[hb,agz,Prod.mk.injEq]at hg;obtain⟨rfl,rfl⟩:=hg
     cases hq:b.put p u with
     |none=>grind
     |some b'=>
      simp only[hq,agz]at hp;subst hp;have h3:=Holds.put hu hb hq hz h2;refine⟨c1,_,?_,h1,h3⟩
      rw[<-NY,List.take_append,List.take_of_length_le (by omega),List.drop_append,List.drop_of_length_le (by omega),show c1.length+dK-c1.length=dK from by omega,
       show c1.length+dK+u.size-c1.length=dK+u.size from by omega]
      grind
end
def IB.beq:IB->IB->Bool
 | .map, .map=>af
 | .ptr, .ptr=>af
 | .func, .func=>af
 |_,_=>ag
theorem IB.eq_of_beq{a b:IB}(h:a.beq b=af):a=b:=by cases a<;>cases b<;>first|rfl|cases h
def Row.beq:Row->Row->Bool
 | .int k, .int k'=>decide (k=k')
 | .bool, .bool=>af
 | .str, .str=>af
 | .lE, .lE=>af
 | .nul a, .nul b=>a.beq b
 | .map a x b, .map c y d=>a.beq c&&(bif x then y else !y)&&b.beq d
 | .slice a, .slice b=>a.beq b
 | .pair a b, .pair c d=>a.beq c&&b.beq d
 |_,_=>ag
theorem Row.eq_of_beq:{r s:Row}->r.beq s=af->r=s
 | .int k, .int k',h=>by rw[al (show decide (k=k')=af from h)]
 | .bool, .bool,_=>rfl
 | .str, .str,_=>rfl
 | .lE, .lE,_=>rfl
 | .nul a, .nul b,h=>by rw[IB.eq_of_beq (show a.beq b=af from h)]
 | .map a x b, .map c y d,h=>by
   have h':(a.beq c&&(bif x then y else !y)&&b.beq d)=af:=h;rw[ahn,ahn]at h'
   have rv:x=y:=by cases x<;>cases y<;>simp_all
   rw[Row.eq_of_beq h'.1.1,Row.eq_of_beq h'.2,rv]
 | .slice a, .slice b,h=>by rw[Row.eq_of_beq (show a.beq b=af from h)]
 | .pair a b, .pair c d,h=>by
   have h':(a.beq c&&b.beq d)=af:=h;rw[ahn]at h';rw[Row.eq_of_beq h'.1,Row.eq_of_beq h'.2]
def ja{r s:Row}(h:r=s)(x:r.den):s.den:=h▸x
def Row.beq_refl:(r:Row)->r.beq r=af
 | .int k=>by simp[Row.beq]
 | .bool=>rfl
 | .str=>rfl
 | .lE=>rfl
 | .nul a=>by cases a<;>rfl
 | .map a x b=>by
   show(a.beq a&&(bif x then x else !x)&&b.beq b)=af
   rw[Row.beq_refl a,Row.beq_refl b]
   cases x<;>rfl
 | .slice a=>Row.beq_refl a
 | .pair a b=>by
   show(a.beq a&&b.beq b)=af
   rw[Row.beq_refl a,Row.beq_refl b];rfl
def DR.beq:DR->DR->Bool
 | .leaf r, .leaf s=>r.beq s
 | .sl T d, .sl T' d'=>agu T T'&&d.beq d'
 | .pair a b, .pair c d=>a.beq c&&b.beq d
 |_,_=>ag
theorem DR.eq_of_beq:{d e:DR}->d.beq e=af->d=e
 | .leaf r, .leaf s,h=>by rw[Row.eq_of_beq (show r.beq s=af from h)]
 | .sl T d, .sl T' d',h=>by
   obtain⟨h1,h2⟩:=(ahn _ _▸(show(agu T T'&&d.beq d')=af from h):agu T T'=af/\d.beq d'=af)
   rw[Nat.eq_of_beq_eq_true h1,DR.eq_of_beq h2]
 | .pair a b, .pair c d,h=>by
   obtain⟨h1,h2⟩:=(ahn _ _▸(show(a.beq c&&b.beq d)=af from h):a.beq c=af/\b.beq d=af)
   rw[DR.eq_of_beq h1,DR.eq_of_beq h2]
 | .leaf _, .sl ..,h=>by cases h
 | .leaf _, .pair ..,h=>by cases h
 | .sl .., .leaf _,h=>by cases h
 | .sl .., .pair ..,h=>by cases h
 | .pair .., .leaf _,h=>by cases h
 | .pair .., .sl ..,h=>by cases h
def oo:List Bool->List Bool->Bool
 |[],[]=>af
 |a::p,b::q=>(bif a then b else !b)&&oo p q
 |_,_=>ag
theorem qS:{p q:List Bool}->oo p q=af->p=q
 |[],[],_=>rfl
 |a::p,b::q,h=>by
  have h':((bif a then b else !b)&&oo p q)=af:=h;rw[ahn]at h';rw[qS h'.2]
  grind
 |[],_::_,h=>by cases h
 |_::_,[],h=>by cases h
def flat(ob:Nat->Option (Nat×Th)):(r:Row)->Tree->Option r.den
 |r, .leaf s x=>if h:s.beq r=af then aa (ja (Row.eq_of_beq h) x)else ae
 | .slice e, .own o=>match ob o with
   |some (_, .um _ s l)=>if h:s.beq e=af then aa (ja (r:= .slice s) (s:= .slice e) (av Row.slice (Row.eq_of_beq h)) l)else ae
   |some (_, .fdeep _ d l)=>if h:d.row.beq e=af then aa (ja (r:= .slice d.row) (s:= .slice e) (av Row.slice (Row.eq_of_beq h)) l)else ae
   |_=>ae
 | .slice _, .nil=>aa []
 | .map K agg V, .own o=>match ob o with
   |some (_, .fmap _ K' dZ V' l)=>if h:(Row.map K' dZ V').beq (.map K agg V)=af then aa (ja (Row.eq_of_beq h) l)else ae
   |_=>ae
 | .slice e, .view o s r m=>match ob o with
   |some (s', .um ..)=>bif agu s' s then(if h:r.beq e=af then aa (ja (r:= .slice r) (s:= .slice e) (av Row.slice (Row.eq_of_beq h)) m)else ae)else ae
   |_=>ae
 | .pair a b, .pair t u=>match flat ob a t with
   |none=>ae
   |some x=>match flat ob b u with
    |none=>ae
    |some y=>aa (x,y)
 |_,_=>ae
section
variable {U:Nat->Prop} {H:aG} {F:Nat->Prop} {w:World} {ob:Nat->Option (Nat×Th)} {n:Nat}
def xn(hs:aI U H F w ob n){o s:Nat}{T:TypeId}{r0 r:Row}{l0:List r0.den}{m:List r.den}{v:Value}(ho:ob o=aa (s, .um T r0 l0))(h:lF H o s r m v):cF F w (.slice r) [v] m:=by
 obtain⟨A,cap,T',l,a,b,h1,h2,h3,h4,rfl,rfl⟩:=h;obtain⟨v',dX,cL⟩:=hs.obj _ _ _ ho;rw[h1]at dX;obtain rfl:=agq dX;have e:=cL.con;rw[h2]at e;simp only[Th.base,agz,Th.own.injEq]at e;obtain⟨rfl,rfl,e⟩:=e;obtain rfl:=eq_of_heq e;exact cF.cut cL.ok h3 h4
theorem gk(hs:aI U H F w ob n):{r:Row}->{t:Tree}->{x:r.den}->{cs:List Value}->flat ob r t=aa x->Holds H F w t cs->cF F w r cs x
 |r, .leaf s x0,x,cs,hf,h=>by
  unfold flat at hf;split at hf
  .rename_i e;obtain rfl:=Row.eq_of_beq e;obtain rfl:=agq hf;exact h
  .cases hf
 | .slice e, .own o,x,cs,hf,h=>by
   unfold flat at hf;split at hf
   .rename_i s0 T s l vh;split at hf
    .rename_i e;obtain rfl:=Row.eq_of_beq e;obtain rfl:=agq hf;obtain⟨v,hv,_,rfl⟩:=h;obtain⟨v',dX,cL⟩:=hs.obj _ _ _ vh;rw[hv]at dX;obtain rfl:=agq dX;exact cL.ok
    .cases hf
   .rename_i s0 T d l vh;split at hf
    .rename_i e;obtain rfl:=Row.eq_of_beq e;obtain rfl:=agq hf;obtain⟨v,hv,_,rfl⟩:=h;obtain⟨v',dX,cL⟩:=hs.obj _ _ _ vh;rw[hv]at dX;obtain rfl:=agq dX;exact cL.ok
    .cases hf
   .cases hf
 | .map K agg V, .own o,x,cs,hf,h=>by
   unfold flat at hf;split at hf
   .rename_i s0 T K' dZ V' l vh;split at hf
    .rename_i e;cases Row.eq_of_beq e;obtain rfl:=agq hf;obtain⟨v,hv,_,rfl⟩:=h;obtain⟨v',dX,cL⟩:=hs.obj _ _ _ vh;rw[hv]at dX;obtain rfl:=agq dX;exact cL.ok
    .cases hf
   .cases hf
 | .slice e, .nil,x,cs,hf,h=>by
   unfold flat at hf;obtain rfl:=agq hf;rw[show cs=_ from h];exact cF.nil F w e
 | .slice e, .view o s r m,x,cs,hf,h=>by
   unfold flat at hf;split at hf
   .rename_i s' T r' l' vh
    cases hb:agu s' s with
    |false=>grind
    |true=>
     rw[hb,cond_true]at hf;obtain rfl:=Nat.eq_of_beq_eq_true hb;split at hf
     .rename_i e;obtain rfl:=Row.eq_of_beq e;obtain rfl:=agq hf;obtain⟨v,rfl,h⟩:=h;exact xn hs vh h
     .cases hf
   .cases hf
 | .pair a b, .pair t u,x,cs,hf,h=>by
   obtain⟨c1,c2,rfl,h1,h2⟩:=h;unfold flat at hf
   cases ha:flat ob a t with
   |none=>grind
   |some p=>
    cases hb:flat ob b u with
    |none=>grind
    |some q=>
     simp only[ha,hb,agz]at hf;subst hf;exact⟨c1,c2,rfl,gk hs ha h1,gk hs hb h2⟩
 | .int _, .own _,_,_,hf,_=>by unfold flat at hf;cases hf
 | .bool, .own _,_,_,hf,_=>by unfold flat at hf;cases hf
 | .str, .own _,_,_,hf,_=>by unfold flat at hf;cases hf
 | .lE, .own _,_,_,hf,_=>by unfold flat at hf;cases hf
 | .nul _, .own _,_,_,hf,_=>by unfold flat at hf;cases hf
 | .pair _ _, .own _,_,_,hf,_=>by unfold flat at hf;cases hf
 | .int _, .nil,_,_,hf,_=>by unfold flat at hf;cases hf
 | .bool, .nil,_,_,hf,_=>by unfold flat at hf;cases hf
 | .str, .nil,_,_,hf,_=>by unfold flat at hf;cases hf
 | .lE, .nil,_,_,hf,_=>by unfold flat at hf;cases hf
 | .nul _, .nil,_,_,hf,_=>by unfold flat at hf;cases hf
 | .map .., .nil,_,_,hf,_=>by unfold flat at hf;cases hf
 | .pair _ _, .nil,_,_,hf,_=>by unfold flat at hf;cases hf
 | .int _, .view ..,_,_,hf,_=>by unfold flat at hf;cases hf
 | .bool, .view ..,_,_,hf,_=>by unfold flat at hf;cases hf
 | .str, .view ..,_,_,hf,_=>by unfold flat at hf;cases hf
 | .lE, .view ..,_,_,hf,_=>by unfold flat at hf;cases hf
 | .nul _, .view ..,_,_,hf,_=>by unfold flat at hf;cases hf
 | .map .., .view ..,_,_,hf,_=>by unfold flat at hf;cases hf
 | .pair _ _, .view ..,_,_,hf,_=>by unfold flat at hf;cases hf
 | .int _, .junk _,_,_,hf,_=>by unfold flat at hf;cases hf
 | .bool, .junk _,_,_,hf,_=>by unfold flat at hf;cases hf
 | .str, .junk _,_,_,hf,_=>by unfold flat at hf;cases hf
 | .slice _, .junk _,_,_,hf,_=>by unfold flat at hf;cases hf
 | .lE, .junk _,_,_,hf,_=>by unfold flat at hf;cases hf
 | .nul _, .junk _,_,_,hf,_=>by unfold flat at hf;cases hf
 | .map .., .junk _,_,_,hf,_=>by unfold flat at hf;cases hf
 | .pair _ _, .junk _,_,_,hf,_=>by unfold flat at hf;cases hf
 | .int _, .pair _ _,_,_,hf,_=>by unfold flat at hf;cases hf
 | .bool, .pair _ _,_,_,hf,_=>by unfold flat at hf;cases hf
 | .str, .pair _ _,_,_,hf,_=>by unfold flat at hf;cases hf
 | .lE, .pair _ _,_,_,hf,_=>by unfold flat at hf;cases hf
 | .nul _, .pair _ _,_,_,hf,_=>by unfold flat at hf;cases hf
 | .map .., .pair _ _,_,_,hf,_=>by unfold flat at hf;cases hf
 | .slice _, .pair _ _,_,_,hf,_=>by unfold flat at hf;cases hf
end
def Row.An:Row->Tree
 | .slice _=> .nil
 | .pair a b=> .pair a.An b.An
 |r=> .leaf r r.zero
def Row.mG(H:aG)(F:Nat->Prop)(w:World):(r:Row)->Holds H F w r.An r.eD
 | .int _=>rfl
 | .bool=>rfl
 | .str=>rfl
 | .slice _=>rfl
 | .lE=>⟨rfl,ae,0,0,rfl⟩
 | .nul _=>rfl
 | .map .. =>⟨_,rfl, .inl ⟨rfl,rfl⟩⟩
 | .pair a b=>⟨_,_,rfl,Row.mG H F w a,Row.mG H F w b⟩
end
end Go.Proofs.YtfeahmiobbjklaaGreatDoor
