/- Joined texts: Base Mem Own More Lit Open Cut Glob Deep Sym Eff Path. -/
import Derived.WalkKit
import Derived.WalkSpells
import Derived.WalkLawsBesides
import Derived.LoopN
import Derived.Deep.Draws
import Derived.Deep.Quiet
import Derived.Maps.AppendAt
import Derived.OwnWalk
import Derived.KernelRfl
import Derived.MapKept
import Derived.Laws.StructEq
import Derived.Test.YtfjgcenlllgonaaGreatDoorRows
import Derived.ProofKit
import Derived.OpenShut
import Derived.JoinedCond
import Derived.Deep.Slices
import Derived.Laws.Slices
set_option linter.defProp false
open _root_.Bool renaming false->ah,true->af,and_eq_true->arV
open _root_.Option renaming none->ae,some->aa
open _root_.Array renaming getD_eq_getD_getElem?->arz,getElem?_eq_getElem->arp,toArray_toList->arG
open _root_.Classical renaming propDecidable->arQ
open _root_.List renaming getElem?_eq_getElem->aqK,getElem?_eq_some_iff->aqQ,mem_append->aq7,getElem?_drop->arC,getElem?_take->arR,getElem_append_left->aqX,getElem_append_right->are,getElem_of_mem->aqZ,length_append->aqT,range->arK,replicate->aqO,append_assoc->ard,getElem?_append->aso,length_cons->arh,length_take->aq9,take_append_drop->ar5
open _root_.Nat renaming beq->aqU,blt->art,le_refl->aqS,add_mul->aro,mod_lt->arW,mul_comm->aru,mul_le_mul_right->aq4,min_eq_left->arF,lt_of_lt_of_le->ars
open _root_.Option.some renaming inj->aqL,injEq->aq1
open _root_.Go.Region renaming wanted->ar7
open _root_.Go.Value renaming oneCell'->ar2,ownBlock->ark
open _root_.Go.Builtin renaming append_->asd
open _root_.Go.Value.slice renaming injEq->ar8
open _root_.List.cons renaming injEq->arE
open _root_.BitVec renaming ofInt->asm
open _root_.Int renaming tdiv->aqW,tmod->aqY
namespace Go.Proofs.YtfjgcenlllgonaaGreatDoor
open Go Go.RowKit
set_option maxRecDepth 100000
set_option linter.unusedSimpArgs false
set_option linter.unusedVariables false
set_option linter.defProp false
section
def aj.{u}:type_of% @_root_.if_neg.{u}:= @_root_.if_neg.{u}
def al.{u}:type_of% @_root_.if_pos.{u}:= @_root_.if_pos.{u}
def ao:type_of% @_root_.of_decide_eq_true:= @_root_.of_decide_eq_true
def aq:type_of% @_root_.of_decide_eq_false:= @_root_.of_decide_eq_false
def au:type_of% @_root_.decide_eq_true:= @_root_.decide_eq_true
def av:type_of% @_root_.decide_eq_false:= @_root_.decide_eq_false
def aw.{u}:type_of% @_root_.implies_true.{u}:= @_root_.implies_true.{u}
def ax.{u}:type_of% @_root_.forall_const.{u}:= @_root_.forall_const.{u}
def ay.{u,v}:type_of% @_root_.congrArg.{u,v}:= @_root_.congrArg.{u,v}
def az:type_of% @_root_.decide_eq_true_eq:= @_root_.decide_eq_true_eq
def aA:type_of% @_root_.iff_of_false:= @_root_.iff_of_false
def aB:type_of% @_root_.decide_eq_false_iff_not:= @_root_.decide_eq_false_iff_not
open Go Go.RowKit
inductive Oq where
 |map
 |ptr
 |func
def Oq.val:Oq->Value
 | .map=> .map ae
 | .ptr=> .pointer ae
 | .func=> .nilFunc
theorem Oq.one(k:Oq):k.val.oneCell'=af:=by cases k<;>simp[Oq.val,ar2]
inductive Row where
 |int (k:IntKind)
 |bool
 |str
 |slice (e:Row)
 |mX
 |nul (k:Oq)
 |map (K:Row) (agg:Bool) (V:Row)
 |pair (a b:Row)
@[reducible] def Row.den:Row->Type
  | .int _=>Int
  | .bool=>Bool
  | .str=>ByteArray
  | .slice e=>List e.den
  | .mX=>Value
  | .nul _=>Unit
  | .map K _ V=>List (K.den×V.den)
  | .pair a b=>a.den×b.den
noncomputable instance Row.decEq:(r:Row)->DecidableEq r.den
 | .int _=>inferInstanceAs (DecidableEq Int)
 | .bool=>inferInstanceAs (DecidableEq Bool)
 | .str=>inferInstanceAs (DecidableEq ByteArray)
 | .slice e=>have:=Row.decEq e;inferInstanceAs (DecidableEq (List e.den))
 | .mX=>λa b=>arQ (a=b)
 | .nul _=>inferInstanceAs (DecidableEq Unit)
 | .map K _ V=>have:=Row.decEq K;have:=Row.decEq V;inferInstanceAs (DecidableEq (List (K.den×V.den)))
 | .pair a b=>have:=Row.decEq a;have:=Row.decEq b;inferInstanceAs (DecidableEq (a.den×b.den))
@[simp] def Row.size:Row->Nat
  | .pair a b=>a.size+b.size
  |_=>1
theorem Row.size_pos:(r:Row)->0<r.size
 | .pair a b=>by have:=Row.size_pos a;simp;omega
 | .int _| .bool| .str| .slice _| .mX| .nul _| .map .. =>by simp
def L1:(K:Row)->K.den->Option Value
 | .int k,n=>aa (.int k n)
 | .bool,b=>aa (.bool b)
 | .str,s=>aa (.string s)
 |_,_=>ae
def eF(F:Nat->Prop)(w:World):(r:Row)->List Value->r.den->Prop
 | .int k,cs,n=>cs=[.int k n]
 | .bool,cs,b=>cs=[.bool b]
 | .str,cs,s=>cs=[.string s]
 | .slice e,cs,l=>∃A cap,cs=[.slice A l.length cap]/\l.length<=cap/\cap<=maxLen/\
     ∀i(h:i<l.length),∃b off es,A=aa ⟨b,off,ae⟩/\F b/\es.length=e.size/\
      (∀j u,es[j]? =aa u->w.cell? ⟨b,off+i*e.size+j,ae⟩=aa u)/\eF F w e es l[i]
 | .mX,cs,v=>cs=[v]/\∃A m c,v= .slice A m c
 | .nul k,cs,_=>cs=[k.val]
 | .map K agg V,cs,l=>∃v,cs=[v]/\((v= .map ae/\l=[])\/∃b es clock,v= .map (aa b)/\F b/\w.heap[b]? =aa (.map es clock)/\MapKept.Stamped es clock/\es.size=l.length/\
     ∀i(h:i<l.length),∃(e:MapEntry)(cs:List Value),es[i]? =aa e/\L1 K l[i].1=aa e.key/\eF F w V cs l[i].2/\e.val=(bif agg then .agg cs.toArray else cs.headD undef)/\(agg=ah->cs=[e.val]))
 | .pair a b,cs,d=>∃c1 c2,cs=c1++c2/\eF F w a c1 d.1/\eF F w b c2 d.2
theorem eF.length{F:Nat->Prop}{w:World}:{r:Row}->{cs:List Value}->{d:r.den}->eF F w r cs d->cs.length=r.size
 | .int _,_,_,h=>by rw[show _=_ from h];rfl
 | .bool,_,_,h=>by rw[show _=_ from h];rfl
 | .str,_,_,h=>by rw[show _=_ from h];rfl
 | .slice _,_,_,h=>by obtain⟨A,cap,h,_⟩:=h;rw[h];rfl
 | .mX,_,_,h=>by rw[h.1];rfl
 | .nul _,_,_,h=>by rw[show _=_ from h];rfl
 | .map ..,_,_,h=>by obtain⟨v,rfl,_⟩:=h;rfl
 | .pair a b,_,_,h=>by
   obtain⟨c1,c2,rfl,h1,h2⟩:=h;simp[h1.length,h2.length]
def eF.mw{F:Nat->Prop}{w:World}:{r:Row}->{cs:List Value}->{d:r.den}->eF F w r cs d->∀u∈cs,u.oneCell'=af
 | .int _,_,_,h=>by rw[show _=_ from h];simp[ar2]
 | .bool,_,_,h=>by rw[show _=_ from h];simp[ar2]
 | .str,_,_,h=>by rw[show _=_ from h];simp[ar2]
 | .slice _,_,_,h=>by obtain⟨A,cap,rfl,_⟩:=h;simp[ar2]
 | .mX,_,_,h=>by obtain⟨rfl,A,m,c,rfl⟩:=h;simp[ar2]
 | .nul k,_,_,h=>by rw[show _=_ from h];simp[k.one]
 | .map ..,_,_,h=>by
   obtain⟨v,rfl,h⟩:=h
   rcases h with⟨rfl,_⟩|⟨b,es,clock,rfl,_⟩<;>simp[ar2]
 | .pair a b,_,_,h=>by
   obtain⟨c1,c2,rfl,h1,h2⟩:=h;intro u hu
   rcases aq7.1 hu with h'|h'
   .exact h1.mw u h'
   .exact h2.mw u h'
def Step(F:Nat->Prop)(w:World)(F':Nat->Prop)(w':World):Prop:=∀b,F b->F' b/\w'.heap[b]? =w.heap[b]?
def eF.step{F F':Nat->Prop}{w w':World}(ho:Step F w F' w'):{r:Row}->{cs:List Value}->{d:r.den}->eF F w r cs d->eF F' w' r cs d
 | .int _,_,_,h=>h
 | .bool,_,_,h=>h
 | .str,_,_,h=>h
 | .slice e,_,l,h=>by
   obtain⟨A,cap,hc,h1,h2,h3⟩:=h;refine⟨A,cap,hc,h1,h2,λi hi=>?_⟩;obtain⟨b,off,es,hA,hb,wR,EP,hr⟩:=h3 i hi;exact⟨b,off,es,hA,(ho b hb).1,wR,λj u hu=>(World.cell?_of_block (ho b hb).2).trans (EP j u hu),hr.step ho⟩
 | .mX,_,_,h=>h
 | .nul _,_,_,h=>h
 | .map K agg V,_,l,h=>by
   obtain⟨v,hv,h⟩:=h;refine⟨v,hv,h.imp id λ⟨b,es,clock,h1,h2,h3,h4,h5,h6⟩=>⟨b,es,clock,h1,(ho b h2).1,(ho b h2).2.trans h3,h4,h5,λi hi=>?_⟩⟩;obtain⟨e,cs,g1,g2,g3,g4⟩:=h6 i hi;exact⟨e,cs,g1,g2,g3.step ho,g4⟩
 | .pair a b,_,_,h=>by
   obtain⟨c1,c2,hc,h1,h2⟩:=h;exact⟨c1,c2,hc,h1.step ho,h2.step ho⟩
def At(F:Nat->Prop)(w:World)(r:Row)(b off:Nat)(x:r.den):Prop:=
 ∃es,es.length=r.size/\(∀j u,es[j]? =aa u->w.cell? ⟨b,off+j,ae⟩=aa u)/\eF F w r es x
def At.fst{F:Nat->Prop}{w:World}{r s:Row}{b off:Nat}{x:(Row.pair r s).den}(h:At F w (.pair r s) b off x):At F w r b off x.1:=by
 obtain⟨es,hl,hc,c1,c2,rfl,h1,h2⟩:=h;exact⟨c1,h1.length,(by grind),h1⟩
def At.snd{F:Nat->Prop}{w:World}{r s:Row}{b off:Nat}{x:(Row.pair r s).den}(h:At F w (.pair r s) b off x)(k:Nat)(hk:k=r.size):At F w s b (off+k) x.2:=by
 obtain⟨es,hl,hc,c1,c2,rfl,h1,h2⟩:=h;subst hk
 exact⟨c2,h2.length,λj u hu=>by
  have:=hc (r.size+j) u (by
   grind [eF.length])
  grind,h2⟩
theorem eF.nil(F:Nat->Prop)(w:World)(e:Row):eF F w (.slice e) [.slice ae 0 0] []:=⟨ae,0,rfl,aqS _,by simp[maxLen],λi hi=>absurd hi (by simp)⟩
def eF.Ig{F:Nat->Prop}{w:World}{e:Row}{v:Value}{l:List e.den}(h:eF F w (.slice e) [v] l):
 ∃A cap,v= .slice A l.length cap/\l.length<=cap/\cap<=9223372036854775807:=by
 obtain⟨A,cap,h1,h2,h3,_⟩:=h;exact⟨A,cap,by simpa using h1,h2,h3⟩
def Step.refl(F:Nat->Prop)(w:World):Step F w F w:=λ_ h=>⟨h,rfl⟩
def Step.trans{F F1 F2:Nat->Prop}{w w1 w2:World}(h:Step F w F1 w1)(k:Step F1 w1 F2 w2):Step F w F2 w2:=λb hb=>⟨(k b (h b hb).1).1,(k b (h b hb).1).2.trans (h b hb).2⟩
def Step.drew(F:Nat->Prop)(w:World):Step F w F w.drew:=λ_ h=>⟨h,rfl⟩
def Step.alloc{F:Nat->Prop}{w:World}(h:∀b,F b->b<w.heap.size)(o:Obj):Step F w F (w.alloc o):=λb hb=>⟨hb,Below.heap_alloc w o b (h b hb)⟩
def Step.freeze(F:Nat->Prop)(w:World)(G:Nat->Prop):Step F w (λb=>F b\/G b) w:=λ_ h=>⟨.inl h,rfl⟩
structure Fr(n:Nat)(a:Act)(ρ:Nat->Value):Prop where
 size:a.tmps.size=n
 defers:a.defers=[]
 get:∀t,a.tmps.getD t undef=ρ t
def Ih(ρ:Nat->Value)(d:Nat)(v:Value):Nat->Value:=λt=>bif aqU t d then v else ρ t
def ev(ρ:Nat->Value):Operand->Value
 | .tmp t=>ρ t
 | .const v=>v
 | .global g=> .pointer (aa ⟨g,0,ae⟩)
 | .func f=> .func (.func f) #[] #[]
def Fr.eval{n:Nat}{a:Act}{ρ:Nat->Value}(h:Fr n a ρ):a.eval=ev ρ:=by
 funext x
 cases x with
 |tmp t=>exact h.get t
 |const v=>rfl
 |global g=>rfl
 |func f=>rfl
def Fr.put{n:Nat}{a:Act}{ρ:Nat->Value}(h:Fr n a ρ){d:Nat}(hd:art d n=af)(v:Value):Fr n (a.put (aa d) v) (Ih ρ d v):=by
 have aI:d<n:=by simpa[Nat.blt_eq]using hd
 refine⟨by simpa[Act.put]using h.size,by simpa[Act.put]using h.defers,λt=>?_⟩;have hs:=h.size;have hg:=h.get t;simp only[Act.put,arz,Array.getElem?_setIfInBounds]at hg⊢;unfold Ih;by_cases ht:t=d
 .simp_all
 .have dG:¬d=t:=λe=>ht e.symm
  grind [Nat.eq_of_beq_eq_true]
def wpS(P:Program)(n:Nat)(ops:Array Oper)(K:(Nat->Value)->World->Prop)(l:List Oper)(ρ:Nat->Value)(w:World):Prop:=
 ∀(Q:Exit->Act->World->Prop)(a:Act),Fr n a ρ->(∀a' di w',Fr n a' di->K di w'->Q .normal a' w')->wpList P ops Q l a w
section
variable {P:Program} {n:Nat} {ops:Array Oper} {K:(Nat->Value)->World->Prop} {rest:List Oper} {ρ:Nat->Value} {w:World}
def Tf(h:K ρ w):wpS P n ops K [] ρ w:=λ_ _ hf hk=>hk _ _ _ hf h
def Pure(P:Program)(ρ:Nat->Value)(o:Oper)(v:Value):Prop:=∀w,(execOp (ev ρ) o).run P w= .ok (.value v) w
def rz{a:Act}(hf:Fr n a ρ){j d:Nat}{b:Bool}(hj:(ops[j]?).bind (·.dst)=aa d)(hd:art d n=af)(hb:ρ d= .bool b):yielded ops a.tmps j=aa b:=by
 have aI:d<n:=by simpa[Nat.blt_eq]using hd
 have hg:=hf.get d;have hs:=hf.size;rw[hb]at hg
 have:a.tmps[d]? =aa (.bool b):=by
  rw[arz]at hg;rw[arp (by omega)]at hg⊢;simpa using hg
 unfold yielded;rw[hj];simp[this]
def WD{dst:Option Nat}{op:Op}{ty:TypeId}{pos:String}{aft:Array Edge}{j:Nat}{b:Bool}(d:Nat)(hj:(ops[j]?).bind (·.dst)=aa d)(hd:art d n=af)(hb:ρ d= .bool b)
 (h:wpS P n ops K (⟨dst,op,ty,pos,aft,ae⟩::rest) ρ w):wpS P n ops K (⟨dst,op,ty,pos,aft,aa (j,b)⟩::rest) ρ w:=
 λQ a hf hk=>by
  have:=h Q a hf hk;unfold wpList at this⊢;rw[al (by simp[ar7])]at this;rw[al (by simp[ar7,rz hf hj hd hb])];exact this
def Tg{d':Nat}{op:Op}{ty:TypeId}{pos:String}{aft:Array Edge}{j:Nat}{b b':Bool}(d:Nat)(hj:(ops[j]?).bind (·.dst)=aa d)(hd:art d n=af)(hb:ρ d= .bool b')(dG:b'≠b)(HS:art d' n=af)
 (h:wpS P n ops K rest (Ih ρ d' undef) w):wpS P n ops K (⟨aa d',op,ty,pos,aft,aa (j,b)⟩::rest) ρ w:=
 λQ a hf hk=>by
  have:=h Q _ (hf.put HS undef) hk;unfold wpList;rw[aj (by simp[ar7,rz hf hj hd hb,dG])];exact this
def C5{op:Op}{ty:TypeId}{pos:String}{aft:Array Edge}{j:Nat}{b b':Bool}(d:Nat)(hj:(ops[j]?).bind (·.dst)=aa d)(hd:art d n=af)(hb:ρ d= .bool b')(dG:b'≠b)
 (h:wpS P n ops K rest ρ w):wpS P n ops K (⟨ae,op,ty,pos,aft,aa (j,b)⟩::rest) ρ w:=
 λQ a hf hk=>by
  have:=h Q _ hf hk;unfold wpList;rw[aj (by simp[ar7,rz hf hj hd hb,dG])];exact this
def qE{a:Act}(hf:Fr n a ρ){j d:Nat}(hj:(ops[j]?).bind (·.dst)=aa d)(hd:art d n=af)(hb:ρ d=undef):yielded ops a.tmps j=ae:=by
 have aI:d<n:=by simpa[Nat.blt_eq]using hd
 have hg:=hf.get d;have hs:=hf.size;rw[hb]at hg
 have:a.tmps[d]? =aa undef:=by
  rw[arz]at hg;rw[arp (by omega)]at hg⊢;simpa using hg
 unfold yielded;rw[hj];simp[this,undef]
def ON{d':Nat}{op:Op}{ty:TypeId}{pos:String}{aft:Array Edge}{j:Nat}{b:Bool}(d:Nat)(hj:(ops[j]?).bind (·.dst)=aa d)(hd:art d n=af)(hb:ρ d=undef)(HS:art d' n=af)
 (h:wpS P n ops K rest (Ih ρ d' undef) w):wpS P n ops K (⟨aa d',op,ty,pos,aft,aa (j,b)⟩::rest) ρ w:=
 λQ a hf hk=>by
  have:=h Q _ (hf.put HS undef) hk;unfold wpList;rw[aj (by simp[ar7,qE hf hj hd hb])];exact this
def Bf{op:Op}{ty:TypeId}{pos:String}{aft:Array Edge}{j:Nat}{b:Bool}(d:Nat)(hj:(ops[j]?).bind (·.dst)=aa d)(hd:art d n=af)(hb:ρ d=undef)
 (h:wpS P n ops K rest ρ w):wpS P n ops K (⟨ae,op,ty,pos,aft,aa (j,b)⟩::rest) ρ w:=
 λQ a hf hk=>by
  have:=h Q _ hf hk;unfold wpList;rw[aj (by simp[ar7,qE hf hj hd hb])];exact this
end
def uU(P:Program)(n:Nat)(c:Code)(Q:Exit->(Nat->Value)->World->Prop)(ρ:Nat->Value)(w:World):Prop:=
 ∀a,Fr n a ρ->c.wp P (λe a' w'=>∃di,Fr n a' di/\Q e di w') a w
def thn(K:(Nat->Value)->World->Prop)(Q:Exit->(Nat->Value)->World->Prop):Exit->(Nat->Value)->World->Prop
 | .normal,ρ,w=>K ρ w
 |e,ρ,w=>Q e ρ w
def Y0(id:Nat)(Q:Exit->(Nat->Value)->World->Prop):Exit->(Nat->Value)->World->Prop
 | .exit L2,ρ,w=>bif aqU L2 id then Q .normal ρ w else Q (.exit L2) ρ w
 |e,ρ,w=>Q e ρ w
section
variable {P:Program} {n:Nat} {Q:Exit->(Nat->Value)->World->Prop} {ρ:Nat->Value} {w:World}
def OO{c:Code}{Q':Exit->(Nat->Value)->World->Prop}(h:uU P n c Q ρ w)(hq:∀e ρ w,Q e ρ w->Q' e ρ w):uU P n c Q' ρ w:=
 λa hf=>wp_mono (h a hf) (by grind)
def Ii{id:Nat}{l:List Oper}(h:wpS P n l.toArray (λρ w=>Q .normal ρ w) l ρ w):uU P n (.region id l.toArray ah) Q ρ w:=
 λa hf=>wp_region_lit (h _ a hf λ_ _ _ vB hk=>⟨_,vB,hk⟩)
def tN{a b:Code}(h:uU P n a (thn (λρ w=>uU P n b Q ρ w) Q) ρ w):uU P n (.seq a b) Q ρ w:=
 λact hf=>wp_seq (wp_mono (h act hf) λe a' w' ⟨di,vB,hh⟩=>by
  cases e with
  |normal=>exact hh a' vB
  |_=>exact⟨di,vB,hh⟩)
def OP(h:Q .normal ρ w):uU P n .skip Q ρ w:=λ_ hf=>wp_skip ⟨_,hf,h⟩
def OQ{id:Nat}(h:Q (.exit id) ρ w):uU P n (.exit id) Q ρ w:=λ_ hf=>wp_exit ⟨_,hf,h⟩
def Ti(h:Q .ret ρ w):uU P n .ret Q ρ w:=λ_ hf=>wp_ret ⟨_,hf,h⟩
def wS{id:Nat}{c:Code}(h:uU P n c (Y0 id Q) ρ w):uU P n (.block id c) Q ρ w:=
 λa hf=>wp_block (wp_mono (h a hf) λe a' w' ⟨di,vB,hh⟩=>by
  cases e with
  |exit L2=>
   unfold Exit.inBlock;by_cases he:L2=id
   .subst he;simp only[Y0,show aqU L2 L2=af from Nat.beq_refl _,cond_true]at hh;simpa using⟨di,vB,hh⟩
   .have hb:aqU L2 id=ah:=by
     cases HT:aqU L2 id with
     |false=>rfl
     |true=>exact absurd (Nat.eq_of_beq_eq_true HT) he
    simp only[Y0,hb,cond_false]at hh;simpa[he]using⟨di,vB,hh⟩
  |_=>exact⟨di,vB,hh⟩)
def EQ{c:Operand}{x y:Code}(b:Bool)(hc:ev ρ c= .bool b)(h:uU P n (bif b then x else y) Q ρ w):uU P n (.cond c x y) Q ρ w:=
 λa hf=>wp_cond (t:=b) (by rw[hf.eval];exact hc) (by
  have:=h a hf
  cases b<;>exact this)
def OR{c:Operand}{x y:Code}(hc:ev ρ c= .bool af)(h:uU P n x Q ρ w):uU P n (.cond c x y) Q ρ w:=EQ af hc h
def L3{c:Operand}{x y:Code}(hc:ev ρ c= .bool ah)(h:uU P n y Q ρ w):uU P n (.cond c x y) Q ρ w:=EQ ah hc h
def Loop{S X:Type}(body:S->Option (S⊕X)):Nat->S->Option X
 |0,_=>ae
 |k+1,s=>match body s with
  |none=>ae
  |some (.inl s')=>Loop body k s'
  |some (.inr x)=>aa x
def VH{S X:Type}(I:S->(Nat->Value)->World->Prop)(Q:Exit->(Nat->Value)->World->Prop)(x:X):S⊕X->Exit->(Nat->Value)->World->Prop
 | .inl s',e,ρ,w=>e= .normal/\I s' ρ w
 | .inr x',e,ρ,w=>e≠ .normal/\(x'=x->Q e ρ w)
def OT{S X:Type}{body:S->Option (S⊕X)}{c:Code}(I:S->(Nat->Value)->World->Prop){x:X}{N:Nat}{s:S}(hm:Loop body N s=aa x)(h0:I s ρ w)
 (hb:∀s ρ w y,I s ρ w->body s=aa y->uU P n c (VH I Q x y) ρ w):uU P n (.loop c) Q ρ w:=by
 intro a hf;refine wp_loop_rounds N ?_
 induction N generalizing s ρ w a with
 |zero=>cases hm
 |succ k ih=>
  rw[rounds_succ];unfold Loop at hm
  cases hy:body s with
  |none=>simp[hy]at hm
  |some y=>
   refine wp_mono (hb s ρ w y h0 hy a hf) λe a' w' ⟨di,vB,hh⟩=>?_
   cases y with
   |inl s'=>
    obtain⟨rfl,hI⟩:=hh;rw[hy]at hm;exact ih hm hI a' vB
   |inr x'=>
    rw[hy]at hm;obtain⟨dG,hq⟩:=hh;have:=hq (aqL hm)
    cases e with
    |normal=>exact absurd rfl dG
    |_=>exact⟨di,vB,this⟩
def Zt(P:Program)(fn:Func)(n:Nat)(R:Value->World->Prop):Exit->(Nat->Value)->World->Prop
 | .normal,ρ,w| .ret,ρ,w=>∀a,Fr n a ρ->∃v,(results fn a.tmps).run P w= .ok v w/\R v w
 |_,_,_=>False
def C6{f:FuncId}{fn:Func}{c:Code}{args:List Value}{R:Value->World->Prop}(hf:P.funcs[f]? =aa fn)(hb:fn.body=aa c)(hn:args.length<=fn.ntmps)
 (h:∀ρ,(∀t v,args[t]? =aa v->ρ t=v)->uU P fn.ntmps c (Zt P fn fn.ntmps R) ρ w):
 Calls P f args.toArray w λe w'=>∃v,e= .returned v/\R v w':=by
 refine calls_of_wp hf hb ?_
 have p9:(args.toArray++Array.replicate (fn.ntmps-args.toArray.size) undef).size=fn.ntmps:=by simp;omega
 refine wp_mono (h (λt=>(args.toArray++Array.replicate (fn.ntmps-args.toArray.size) undef).getD t undef) ?_ _ ⟨p9,rfl,λt=>rfl⟩) λe a' w' ⟨di,vB,hh⟩=>?_
 .intro t v hv;have aI:t<args.length:=(aqQ.1 hv).1
  have gZ:args[t]=v:=by rw[aqK aI]at hv;exact aqL hv
  simp[arz,Array.getElem?_append,aI,gZ]
 .cases e with
  |normal=>exact⟨vB.defers,(hh a' vB).imp λv hv=>⟨hv.1,v,rfl,hv.2⟩⟩
  |ret=>exact⟨vB.defers,(hh a' vB).imp λv hv=>⟨hv.1,v,rfl,hv.2⟩⟩
  |_=>exact hh.elim
end
end
end Go.Proofs.YtfjgcenlllgonaaGreatDoor
section
open _root_.Bool renaming false->ah,true->af
open _root_.Option renaming none->ae,some->aa
open _root_.List renaming append_assoc->ard
open _root_.Nat renaming zero_add->arl
open _root_.Go.Sem renaming run_bind->arf
namespace Go.Proofs.YtfjgcenlllgonaaGreatDoor
open Go Go.RowKit
def tO{α:Type}[BEq α][LawfulBEq α][DecidableEq α](a b:α):(a==b)=decide (a=b):=by
 grind
def run_equal_bool{P:Program}{t:TypeId}(ht:P.underlying t=aa .bool)(p q:Bool)(w:World):(Op.equal t (.bool p) (.bool q)).run P w= .ok (p==q) w:=by
 have h:∀d:Nat,(Op.equalIn (d+1) t (.bool p) (.bool q)).run P w= .ok (p==q) w:=λd=>by
  simp[Op.equalIn,run_underlying ht]
 exact h 9999
section
variable {P:Program} {ρ:Nat->Value} {d:Option Nat} {ty:TypeId} {pos:String} {aft:Array Edge} {x y c:Operand} {t u:TypeId} {k:IntKind} {a b:Int}
def L4{v:Value}(h:ev ρ x=v):Pure P ρ ⟨d, .move x,ty,pos,aft,ae⟩ v:=λw=>by simp[execOp,h]
def ER{v:Value}(h:ev ρ x=v):Pure P ρ ⟨d, .assign x,ty,pos,aft,ae⟩ v:=λw=>by simp[execOp,h]
def zg{v:Value}(hc:ev ρ c= .bool af)(hx:ev ρ x=v):Pure P ρ ⟨d, .pick c x y,ty,pos,aft,ae⟩ v:=λw=>by
 simp[execOp,asBool,hc,hx]
def yv{v:Value}(hc:ev ρ c= .bool ah)(hy:ev ρ y=v):Pure P ρ ⟨d, .pick c x y,ty,pos,aft,ae⟩ v:=λw=>by
 simp[execOp,asBool,hc,hy]
def OU(hx:ev ρ x= .int k a)(hy:ev ρ y= .int k b):Pure P ρ ⟨d, .binOp .add t x y u,ty,pos,aft,ae⟩ (.int k (k.wrap (a+b))):=λw=>by
 simp[execOp,eqGuard,binOp,Op.intArith,hx,hy]
def OV(hx:ev ρ x= .int k a)(hy:ev ρ y= .int k b):Pure P ρ ⟨d, .binOp .sub t x y u,ty,pos,aft,ae⟩ (.int k (k.wrap (a-b))):=λw=>by
 simp[execOp,eqGuard,binOp,Op.intArith,hx,hy]
def OW(hx:ev ρ x= .int k a)(hy:ev ρ y= .int k b):Pure P ρ ⟨d, .binOp .mul t x y u,ty,pos,aft,ae⟩ (.int k (k.wrap (a*b))):=λw=>by
 simp[execOp,eqGuard,binOp,Op.intArith,hx,hy]
def OX(hx:ev ρ x= .int k a)(hy:ev ρ y= .int k b)(hb:b≠0):Pure P ρ ⟨d, .binOp .quo t x y u,ty,pos,aft,ae⟩ (.int k (k.wrap (a.tdiv b))):=λw=>by
 simp[execOp,eqGuard,binOp,Op.intDiv,hx,hy,hb]
def OY(hx:ev ρ x= .int k a)(hy:ev ρ y= .int k b)(hb:b≠0):Pure P ρ ⟨d, .binOp .rem t x y u,ty,pos,aft,ae⟩ (.int k (a.tmod b)):=λw=>by
 simp[execOp,eqGuard,binOp,Op.intDiv,hx,hy,hb]
def OZ(hx:ev ρ x= .int k a)(hy:ev ρ y= .int k b):Pure P ρ ⟨d, .binOp .lss t x y u,ty,pos,aft,ae⟩ (.bool (decide (a<b))):=λw=>by
 simp[execOp,eqGuard,binOp,Op.intCmp,hx,hy]
def O0(hx:ev ρ x= .int k a)(hy:ev ρ y= .int k b):Pure P ρ ⟨d, .binOp .leq t x y u,ty,pos,aft,ae⟩ (.bool (decide (a<=b))):=λw=>by
 simp[execOp,eqGuard,binOp,Op.intCmp,hx,hy]
def O1(hx:ev ρ x= .int k a)(hy:ev ρ y= .int k b):Pure P ρ ⟨d, .binOp .gtr t x y u,ty,pos,aft,ae⟩ (.bool (decide (b<a))):=λw=>by
 simp[execOp,eqGuard,binOp,Op.intCmp,hx,hy]
def O2(hx:ev ρ x= .int k a)(hy:ev ρ y= .int k b):Pure P ρ ⟨d, .binOp .geq t x y u,ty,pos,aft,ae⟩ (.bool (decide (b<=a))):=λw=>by
 simp[execOp,eqGuard,binOp,Op.intCmp,hx,hy]
def O4(hx:ev ρ x= .int k a)(hy:ev ρ y= .int k b):Pure P ρ ⟨d, .binOp .eql t x y u,ty,pos,aft,ae⟩ (.bool (decide (a=b))):=λw=>by
 simp[execOp,eqGuard,binOp,Op.intCmp,hx,hy,tO]
def O5(hx:ev ρ x= .int k a)(hy:ev ρ y= .int k b):Pure P ρ ⟨d, .binOp .neq t x y u,ty,pos,aft,ae⟩ (.bool (!decide (a=b))):=λw=>by
 simp[execOp,eqGuard,binOp,Op.intCmp,hx,hy,bne,tO]
def L5{p q:Bool}(ht:P.underlying t=aa .bool)(hx:ev ρ x= .bool p)(hy:ev ρ y= .bool q):Pure P ρ ⟨d, .binOp .eql t x y u,ty,pos,aft,ae⟩ (.bool (decide (p=q))):=λw=>by
 have h:=run_equal_bool ht p q w;rw[tO]at h;simp only[execOp,eqGuard,hx,hy];simp[binOp,h]
def L6{p q:Bool}(ht:P.underlying t=aa .bool)(hx:ev ρ x= .bool p)(hy:ev ρ y= .bool q):Pure P ρ ⟨d, .binOp .neq t x y u,ty,pos,aft,ae⟩ (.bool (!decide (p=q))):=λw=>by
 have h:=run_equal_bool ht p q w;rw[tO]at h;simp only[execOp,eqGuard,hx,hy];simp[binOp,h]
def bytes_beq(p q:ByteArray):(p.toList==q.toList)=decide (p=q):=by
 rw[tO]
 congr 1
 rw[ByteArray.toList_eq,ByteArray.toList_eq];refine propext ⟨λh=>?_,λh=>by rw[h]⟩;cases p;cases q;simpa using h
def L7{p q:ByteArray}(hx:ev ρ x= .string p)(hy:ev ρ y= .string q):Pure P ρ ⟨d, .binOp .eql t x y u,ty,pos,aft,ae⟩ (.bool (decide (p=q))):=λw=>by
 simp[execOp,eqGuard,binOp,Op.stringOp,hx,hy,bytes_beq]
def L8{p q:ByteArray}(hx:ev ρ x= .string p)(hy:ev ρ y= .string q):Pure P ρ ⟨d, .binOp .neq t x y u,ty,pos,aft,ae⟩ (.bool (!decide (p=q))):=λw=>by
 simp[execOp,eqGuard,binOp,Op.stringOp,hx,hy,bytes_beq]
def O6{p:Bool}(hx:ev ρ x= .bool p):Pure P ρ ⟨d, .unOp .not t x,ty,pos,aft,ae⟩ (.bool !p):=λw=>by
 simp[execOp,Op.unary,hx]
def O7(hx:ev ρ x= .int k a):Pure P ρ ⟨d, .unOp .neg t x,ty,pos,aft,ae⟩ (.int k (k.wrap (0-a))):=λw=>by
 simp[execOp,Op.unary,Op.intArith,hx]
def L9{k':IntKind}{e:TypeDesc}(hs:P.underlying t=aa e)(hu:P.underlying u=aa (.int k'))(hx:ev ρ x= .int k a):Pure P ρ ⟨d, .convert t u x,ty,pos,aft,ae⟩ (.int k' (k'.wrap a)):=λw=>by
 simp[execOp,convert,run_underlying hs,run_underlying hu,hx,Conv.intToInt]
def O8{e:TypeId}{A:Option Addr}{n cap:Nat}{m:Nat}(hm:m=n)(ht:P.underlying t=aa (.slice e))(hx:ev ρ x= .slice A n cap):
 Pure P ρ ⟨d, .call {callee:= .builtin .len,args:= #[x],argTypes:= #[t]},ty,pos,aft,ae⟩ (.int .i64 (m:Int)):=λw=>by
 subst hm;simp[execOp,resolve,invoke,builtin,Builtin.len_,run_underlying ht,hx,goInt]
def Ma{s:ByteArray}(ht:P.underlying t=aa .string)(hx:ev ρ x= .string s):
 Pure P ρ ⟨d, .call {callee:= .builtin .len,args:= #[x],argTypes:= #[t]},ty,pos,aft,ae⟩ (.int .i64 (s.size:Int)):=λw=>by
 simp[execOp,resolve,invoke,builtin,Builtin.len_,run_underlying ht,hx,goInt]
def Mc{t':TypeId}(hx:ev ρ x= .int k a)(hy:ev ρ y= .int k b):
 Pure P ρ ⟨d, .call {callee:= .builtin .max,args:= #[x,y],argTypes:= #[t,t']},ty,pos,aft,ae⟩ (.int k (if a<b then b else a)):=λw=>by
 simp[execOp,resolve,invoke,builtin,Builtin.max_,Builtin.max2,hx,hy]
def Md{t':TypeId}(hx:ev ρ x= .int k a)(hy:ev ρ y= .int k b):
 Pure P ρ ⟨d, .call {callee:= .builtin .min,args:= #[x,y],argTypes:= #[t,t']},ty,pos,aft,ae⟩ (.int k (if b<a then b else a)):=λw=>by
 simp[execOp,resolve,invoke,builtin,Builtin.min_,Builtin.min2,hx,hy]
def C7{vs:Array Value}{i:Nat}{v:Value}(hx:ev ρ x= .tuple vs)(hi:vs[i]? =aa v):Pure P ρ ⟨d, .extract x i,ty,pos,aft,ae⟩ v:=λw=>by
 simp[execOp,Instr.extract,hx,hi]
theorem eG(b o k:Nat):(⟨b,o,ae⟩:Addr).add k=⟨b,o+k,ae⟩:=by unfold Addr.add;grind
theorem zh{f:Nat}{fs:Array Field}{fd:Field}{ti:TypeInfo}{sA off:Nat}(k:Nat)(hs:P.underlying t=aa (.struct fs))(hf:fs[f]? =aa fd)(hi:P.info? fd.type=aa ti)(p9:ti.size≠0)(hk:fd.offset=k)
 (hx:ev ρ x= .pointer (aa ⟨sA,off,ae⟩)):Pure P ρ ⟨d, .fieldAddr t x f,ty,pos,aft,ae⟩ (.pointer (aa ⟨sA,off+k,ae⟩)):=λw=>by
 subst hk;simp[execOp,Instr.fieldAt,run_underlying hs,hf,Instr.sureAddr,fieldPlace,sizeOf,typeInfo,hi,p9,hx,eG]
def pM{e:TypeId}{ti:TypeInfo}{sA off n cap i:Nat}(size:Nat)(ht:P.underlying t=aa (.slice e))(hi:P.info? e=aa ti)(p9:ti.size=size)
 (hx:ev ρ x= .slice (aa ⟨sA,off,ae⟩) n cap)(hy:ev ρ y= .int k a)(ha:a=(i:Int))(aI:i<n):
 Pure P ρ ⟨d, .indexAddr t x y,ty,pos,aft,ae⟩ (.pointer (aa ⟨sA,off+i*size,ae⟩)):=λw=>by
 subst p9;subst ha;simp[execOp,Instr.indexAt,asIntOf,run_underlying ht,sizeOf,typeInfo,hi,hx,hy,aI,eG]
end
end Go.Proofs.YtfjgcenlllgonaaGreatDoor
namespace Go.Proofs.YtfjgcenlllgonaaGreatDoor
open Go Go.RowKit
inductive Path:Row->Row->Type where
 |here {r:Row}:Path r r
 |fst {a b s:Row} (p:Path a s):Path (.pair a b) s
 |snd {a b s:Row} (p:Path b s):Path (.pair a b) s
def Path.off:{r s:Row}->Path r s->Nat
 |_,_, .here=>0
 |_,_, .fst p=>p.off
 |_,_, .snd (a:=a) p=>a.size+p.off
@[reducible] def Path.get:{r s:Row}->Path r s->r.den->s.den
  |_,_, .here,x=>x
  |_,_, .fst p,x=>p.get x.1
  |_,_, .snd p,x=>p.get x.2
@[reducible] def Path.set:{r s:Row}->Path r s->r.den->s.den->r.den
  |_,_, .here,_,y=>y
  |_,_, .fst p,x,y=>(p.set x.1 y,x.2)
  |_,_, .snd p,x,y=>(x.1,p.set x.2 y)
section
variable {F:Nat->Prop} {w:World}
def Path.le:{r s:Row}->(p:Path r s)->p.off+s.size<=r.size
 |_,_, .here=>by simp[Path.off]
 |_,_, .fst p=>by have:=p.le;simp[Path.off];omega
 |_,_, .snd p=>by have:=p.le;simp[Path.off];omega
def eF.path:{r s:Row}->(p:Path r s)->{es:List Value}->{x:r.den}->eF F w r es x->eF F w s ((es.drop p.off).take s.size) (p.get x)
 |_,_, .here,es,x,h=>by
  have:=h.length;simp only[Path.off,List.drop_zero,Path.get]
  grind
 |_,s, .fst (a:=a) p,_,x,h=>by
  obtain⟨c1,c2,rfl,h1,h2⟩:=h;have hr:=eF.path p h1;have hle:=p.le;have hl:=h1.length;simp only[Path.off,Path.get]
  grind
 |_,s, .snd (a:=a) p,_,x,h=>by
  obtain⟨c1,c2,rfl,h1,h2⟩:=h;have hr:=eF.path p h2;have hl:=h1.length;simp only[Path.off,Path.get]
  grind [List.drop_append,List.drop_of_length_le]
def eF.put:{r s:Row}->(p:Path r s)->{es vs:List Value}->{x:r.den}->{y:s.den}->eF F w r es x->eF F w s vs y->
 eF F w r (es.take p.off++vs++es.drop (p.off+s.size)) (p.set x y)
 |_,_, .here,es,vs,x,y,h,hv=>by
  have:=h.length;simp only[Path.off,Path.set,List.take_zero,List.nil_append,arl];rw[<-this,List.drop_length,List.append_nil];exact hv
 |_,s, .fst (a:=a) p,_,vs,x,y,h,hv=>by
  obtain⟨c1,c2,rfl,h1,h2⟩:=h;have hr:=eF.put p h1 hv;have hle:=p.le;have hl:=h1.length;refine⟨_,c2,?_,hr,h2⟩;simp only[Path.off];rw[List.take_append_of_le_length (by omega),List.drop_append_of_le_length (by omega)];simp[ard]
 |_,s, .snd (a:=a) p,_,vs,x,y,h,hv=>by
  obtain⟨c1,c2,rfl,h1,h2⟩:=h;have hr:=eF.put p h2 hv;have hl:=h1.length;refine⟨c1,_,?_,h1,hr⟩;simp only[Path.off]
  rw[<-hl,List.take_append,List.take_of_length_le (by omega),List.drop_append,List.drop_of_length_le (by omega),show c1.length+p.off-c1.length=p.off from by omega,
   show c1.length+p.off+s.size-c1.length=p.off+s.size from by omega]
  simp[ard]
def At.path{r s:Row}{b off:Nat}{x:r.den}(h:At F w r b off x)(p:Path r s)(k:Nat)(hk:p.off=k):At F w s b (off+k) (p.get x):=by
 subst hk;obtain⟨es,hl,hc,hr⟩:=h;have hp:=hr.path p;refine⟨_,hp.length,λj u hu=>?_,hp⟩
 grind
def Reads(F:Nat->Prop)(w:World)(r:Row)(v:Value)(l:List r.den):Prop:=
 ∃A cap,v= .slice A l.length cap/\l.length<=cap/\cap<=maxLen/\∀i(h:i<l.length),∃b off,A=aa ⟨b,off,ae⟩/\At F w r b (off+i*r.size) l[i]
def eF.reads{r:Row}{v:Value}{l:List r.den}(h:eF F w (.slice r) [v] l):Reads F w r v l:=by
 obtain⟨A,cap,h1,h2,h3,h4⟩:=h;refine⟨A,cap,by simpa using h1,h2,h3,λi hi=>?_⟩;obtain⟨b,off,es,hA,_,wR,hc,hr⟩:=h4 i hi;exact⟨b,off,hA,es,wR,hc,hr⟩
def idx{α:Type}(l:List α)(i:Int):Option α:=if 0<=i then l[i.toNat]? else ae
theorem jX{α:Type}{l:List α}{i:Int}{y:α}(h:idx l i=aa y):∃k:Nat,i=k/\∃hk:k<l.length,l[k]=y:=by
 grind [idx]
def Reads.elem{r:Row}{v:Value}{l:List r.den}(h:Reads F w r v l){i:Int}{y:r.den}(hi:idx l i=aa y):
 ∃b off cap k,v= .slice (aa ⟨b,off,ae⟩) l.length cap/\i=(k:Nat)/\k<l.length/\At F w r b (off+k*r.size) y:=by
 obtain⟨A,cap,hv,_,_,h4⟩:=h
 grind [jX]
end
section
variable {P:Program} {n:Nat} {ops:Array Oper} {K:(Nat->Value)->World->Prop} {rest:List Oper} {ρ:Nat->Value} {w:World} {F:Nat->Prop}
variable {d:Nat} {ty:TypeId} {pos:String} {aft:Array Edge} {x y:Operand} {t:TypeId}
def mg:TypeDesc->Bool
 | .struct _| .array _ _=>af
 |_=>ah
def iI{D:TypeDesc}(hu:P.underlying t=aa D)(w:World):(isAgg t).run P w= .ok (mg D) w:=by
 unfold isAgg;rw[arf,run_underlying hu w]
 cases D<;>simp[mg]
def BO{dd:Option Nat}{D:TypeDesc}{b off:Nat}{v:Value}(hu:P.underlying t=aa D)(hD:mg D=ah)(hx:ev ρ x= .pointer (aa ⟨b,off,ae⟩))(hc:w.cell? ⟨b,off,ae⟩=aa v):
 (execOp (ev ρ) ⟨dd, .load t x,ty,pos,aft,ae⟩).run P w= .ok (.value v) w:=by
 simp[execOp,hx,Instr.loadAt,Instr.sureAddr,loadVar,arf,iI hu,hD,hc,go_sem]
def Me{dd:Option Nat}{D:TypeDesc}{ti:TypeInfo}{b off:Nat}{es:List Value}(hu:P.underlying t=aa D)(hD:mg D=af)(hi:P.info? t=aa ti)(hs:ti.size=es.length)
 (hx:ev ρ x= .pointer (aa ⟨b,off,ae⟩))(hc:∀j u,es[j]? =aa u->w.cell? ⟨b,off+j,ae⟩=aa u):
 (execOp (ev ρ) ⟨dd, .load t x,ty,pos,aft,ae⟩).run P w= .ok (.value (.agg es.toArray)) w:=by
 have hl:(loadCells ⟨b,off,ae⟩ es.length).run P w= .ok es.toArray w:=
  run_loadCells_list (P:=P) w ⟨b,off,ae⟩ es (λj v hv=>by rw[eG];exact hc j v hv)
 simp[execOp,hx,Instr.loadAt,Instr.sureAddr,loadVar,arf,iI hu,hD,sizeOf,typeInfo,hi,hs,hl]
end
end Go.Proofs.YtfjgcenlllgonaaGreatDoor
end
namespace Go.Proofs.YtfjgcenlllgonaaGreatDoor
open Go Go.RowKit
set_option maxRecDepth 100000
set_option linter.unusedSimpArgs false
set_option linter.unusedVariables false
set_option linter.defProp false
section
structure Ext(g:Nat->Prop)(w w':World):Prop where
 os:w'.os=w.os
 tape:w'.tape=w.tape
 output:w'.output=w.output
 size:w.heap.size<=w'.heap.size
 block:∀k,k<w.heap.size->¬g k->w'.heap[k]? =w.heap[k]?
def Ext.Pa{g:Nat->Prop}{a b:World}{row:Option Nat}(h:a.grownBy b row)(hs:∀k,row=aa k->g k):Ext g a b:=
 ⟨h.os,h.tape,h.output,h.size,λk hk hn=>h.block k hk λe=>hn (hs k e.symm)⟩
section
variable {w0 w w':World} {F0 F F':Nat->Prop} {g:Nat->Prop}
def Step.ext(he:Ext g w w')(hF:∀b,F b->b<w.heap.size)(hg:∀k,g k->¬F k):Step F w F w':=
 λb hb=>⟨hb,he.block b (hF b hb) λe=>hg b e hb⟩
def cF(v:Value)(k:Nat):Prop:=v.ownBlock=aa k
def is(b k:Nat):Prop:=k=b
def qd(w:World)(base:Nat)(e:TypeId)(size:Nat)(v:Value)(n:Nat)(xs:List Value):Prop:=
 xs.length=n*size/\
 ((v= .slice ae 0 0/\n=0)\/
  ∃g o0 cap cur,v= .slice (aa ⟨g,o0,ae⟩) n cap/\base<=g/\w.heap[g]? =aa (.cells cur e (0,0))/\n<=cap/\cap<=maxLen/\o0+cap*size<=cur.size/\(cur.toList.drop o0).take (n*size)=xs)
theorem qd.of{w:World}{base:Nat}{e:TypeId}{size:Nat}{v:Value}{n:Nat}{xs:List Value}(h:w.ownsRow base e size v n xs):qd w base e size v n xs:=by
 refine⟨h.1,?_⟩
 rcases h.2 with h|⟨g,cap,cur,hv,hb,hg,h1,h2,h3,h4⟩
 .exact .inl h
 .exact .inr ⟨g,0,cap,cur,hv,hb,hg,h1,h2,by omega,h4⟩
def Mf(w:World)(base:Nat)(e:TypeId)(size:Nat):qd w base e size (.slice ae 0 0) 0 []:= .of (World.ownsRow_nil w base e size)
def qd.lt{w:World}{base:Nat}{e:TypeId}{size:Nat}{v:Value}{n:Nat}{xs:List Value}(h:qd w base e size v n xs):∀k,v.ownBlock=aa k->base<=k/\k<w.heap.size:=by
 intro k hk
 rcases h.2 with⟨rfl,_⟩|⟨g,o0,cap,cur,rfl,hb,hg,_⟩
 .cases hk
 .obtain rfl:g=k:=by simpa[ark]using hk
  grind
def qa(base:Nat)(F:Nat->Prop)(w:World)(T:TypeId)(r:Row)(v:Value)(l:List r.den):Prop:=
 (∀k,cF v k->¬F k)/\∃xs,qd w base T r.size v l.length xs/\∀i(h:i<l.length),eF F w r ((xs.drop (i*r.size)).take r.size) l[i]
variable {base b:Nat} {T:TypeId} {r:Row}
def qa.lt{v:Value}{l:List r.den}(h:qa base F w T r v l):∀k,cF v k->k<w.heap.size:=by
 obtain⟨_,xs,h,_⟩:=h
 exact λk hk=>(h.lt k hk).2
def qa.no{v:Value}{l:List r.den}(h:qa base F w T r v l):∀k,cF v k->¬F k:=h.1
theorem qa.nil(base:Nat)(F:Nat->Prop)(w:World)(T:TypeId)(r:Row):qa base F w T r (.slice ae 0 0) []:=
 ⟨λk hk=>by simp[cF,ark]at hk,[],Mf _ _ _ _,λi h=>absurd h (by simp)⟩
def qa.reads{v:Value}{l:List r.den}(h:qa base F w T r v l):Reads F w r v l:=by
 obtain⟨_,xs,hx,h3⟩:=h;have hlen:=hx.1
 rcases hx.2 with⟨rfl,h0⟩|⟨gg,o0,cap,cur,rfl,hb,hg,h1,h2,vC,ES⟩
 .exact⟨ae,0,by rw[h0],by omega,by simp[maxLen],λi hi=>absurd hi (by omega)⟩
 .refine⟨_,cap,rfl,h1,h2,λi hi=>⟨gg,o0,rfl,_,(h3 i hi).length,λj u hu=>?_,h3 i hi⟩⟩
  grind [Go.cell_of_row]
def qa.freeze{v:Value}{l:List r.den}(h:qa base F w T r v l):eF (λb=>F b\/cF v b) w (.slice r) [v] l:=by
 obtain⟨A,cap,hv,h1,h2,h3⟩:=h.reads;refine⟨A,cap,by rw[hv],h1,h2,λi hi=>?_⟩;obtain⟨b,off,rfl,es,wR,hc,hr⟩:=h3 i hi;subst hv;exact⟨b,off,es,rfl, .inr (by simp[cF,ark]),wR,hc,hr.step λb hb=>⟨.inl hb,rfl⟩⟩
@[reducible] def Row.zero:(r:Row)->r.den
  | .int _=>(0:Int)
  | .bool=>ah
  | .str=>ByteArray.empty
  | .slice _=>[]
  | .mX=> .slice ae 0 0
  | .nul _=>()
  | .map .. =>[]
  | .pair a b=>(a.zero,b.zero)
def Row.je:(r:Row)->List Value
 | .int k=>[.int k 0]
 | .bool=>[.bool ah]
 | .str=>[.string ByteArray.empty]
 | .slice _=>[.slice ae 0 0]
 | .mX=>[.slice ae 0 0]
 | .nul k=>[k.val]
 | .map .. =>[.map ae]
 | .pair a b=>a.je++b.je
theorem eF.zero(F:Nat->Prop)(w:World):(r:Row)->eF F w r r.je r.zero
 | .int _=>rfl
 | .bool=>rfl
 | .str=>rfl
 | .slice e=>eF.nil F w e
 | .mX=>⟨rfl,ae,0,0,rfl⟩
 | .nul _=>rfl
 | .map .. =>⟨_,rfl, .inl ⟨rfl,rfl⟩⟩
 | .pair a b=>⟨_,_,rfl,eF.zero F w a,eF.zero F w b⟩
end
section
variable {P:Program} {n:Nat} {ops:Array Oper} {K:(Nat->Value)->World->Prop} {rest:List Oper} {ρ:Nat->Value} {w:World} {F:Nat->Prop} {base:Nat}
variable {d:Nat} {ty:TypeId} {pos:String} {aft:Array Edge} {x y:Operand} {t:TypeId}
def Mg{dd:Option Nat}{ti:TypeInfo}{z:Value}(hi:P.info? t=aa ti)(hz:ti.zero=aa z):
 (execOp (ev ρ) ⟨dd, .alloc t,ty,pos,aft,ae⟩).run P w= .ok (.value (.pointer (aa ⟨w.heap.size,0,ae⟩))) (w.alloc (.cells z.cells t)):=by
 simp[execOp,Instr.alloc,zeroValue,typeInfo,hi,hz,newVar,newRow]
def Tj{dd:Option Nat}{v:Value}(hx:ev ρ x=v):
 (execOp (ev ρ) ⟨dd, .box t x,ty,pos,aft,ae⟩).run P w= .ok (.value (.pointer (aa ⟨w.heap.size,0,ae⟩))) (w.alloc (.cells v.cells t)):=by
 simp[execOp,Instr.box,hx,newVar,newRow]
def rA{dd:Option Nat}{ti:TypeInfo}{b off:Nat}{cur:Array Value}{T:TypeId}{v:Value}{vs:List Value}(hi:P.info? t=aa ti)(hs:ti.size=vs.length)(hx:ev ρ x= .pointer (aa ⟨b,off,ae⟩))(hy:ev ρ y=v)
 (hv:v.cells.toList=vs)(h1:∀u∈vs,u.oneCell'=af)(hg:w.heap[b]? =aa (.cells cur T (0,0)))(hl:off+vs.length<=cur.size):
 (execOp (ev ρ) ⟨dd, .store t x y,ty,pos,aft,ae⟩).run P w= .ok .skip (w.setRow b (cur.toList.take off++vs++cur.toList.drop (off+vs.length)).toArray):=by
 have mf:=run_storeCells_at P b off T vs 0 cur w hg (by omega) h1
 have p9:v.cells.size=ti.size:=by rw[hs,<-hv];simp
 simp only[Nat.add_zero]at mf;simp[execOp,Instr.storeAt,Instr.sureAddr,storeVar,sizeOf,typeInfo,hi,p9,hx,hy,hv,mf]
def ol{α:Type}(m:Int)(z:α):Option (List α):=if 0<=m/\m<=4294967296 then aa (aqO m.toNat z)else ae
def cf{α:Type}(l m:List α):Option (List α):=if l.length+m.length<=4294967296 then aa (l++m)else ae
theorem vD(z:Array Value)(m j:Nat)(hj:j<m)(hz:0<z.size):(madeCells z m).toList[j]? =z[j%z.size]? :=by
 have:j%z.size<z.size:=arW _ hz;simp[madeCells,hj,this]
theorem Pb(z:List Value)(m i:Nat)(hz:0<z.length)(hi:i<m):(((madeCells z.toArray (m*z.length)).toList.drop (i*z.length)).take z.length)=z:=by
 apply List.ext_getElem?
 intro j;rw[arR,arC];split
 .rename_i hj;have hle:(i+1)*z.length<=m*z.length:=aq4 _ hi
  grind [vD,Nat.add_mul_mod_self_right,Nat.mod_eq_of_lt]
 grind
def Reads.news{r:Row}{A:Option Addr}{cap m:Nat}{l:List r.den}(h:Reads F w r (.slice A m cap) l)(b off:Nat)(hA:A=aa ⟨b,off,ae⟩):
 ∃news:List Value,news.length=l.length*r.size/\(∀j u,news[j]? =aa u->w.cell? ⟨b,off+j,ae⟩=aa u)/\∀i(hi:i<l.length),eF F w r ((news.drop (i*r.size)).take r.size) l[i]:=by
 subst hA;obtain⟨A',Pd,hv,_,_,h4⟩:=h;simp only[ar8]at hv;obtain⟨rfl,_,_⟩:=hv;have oZ:=r.size_pos
 have EP:∀j,j<l.length*r.size->∃u,w.cell? ⟨b,off+j,ae⟩=aa u:=by
  intro j hj;have hi:j/r.size<l.length:=Nat.div_lt_of_lt_mul (by rwa [aru]);obtain⟨b',fZ,sE,es,wR,hc,_⟩:=h4 _ hi;simp only[aq1,Addr.mk.injEq,and_true]at sE;obtain⟨rfl,rfl⟩:=sE
  have SO:j%r.size<es.length:=by rw[wR];exact arW _ oZ
  have:=hc (j%r.size) _ (aqK SO);rw[Nat.add_assoc,Nat.div_add_mod']at this;exact⟨_,this⟩
 have Tl:∀j u,((arK (l.length*r.size)).map λj=>(w.cell? ⟨b,off+j,ae⟩).getD undef)[j]? =aa u↔j<l.length*r.size/\w.cell? ⟨b,off+j,ae⟩=aa u:=by
  intro j u;by_cases hj:j<l.length*r.size
  .obtain⟨q,hq⟩:=EP j hj;simp[hj,hq]
  .simp[hj]
 refine⟨(arK (l.length*r.size)).map λj=>(w.cell? ⟨b,off+j,ae⟩).getD undef,by simp,λj u hu=>((Tl j u).1 hu).2,λi hi=>?_⟩;obtain⟨b',fZ,sE,es,wR,hc,hr⟩:=h4 i hi;simp only[aq1,Addr.mk.injEq,and_true]at sE;obtain⟨rfl,rfl⟩:=sE
 have he:(((arK (l.length*r.size)).map λj=>(w.cell? ⟨b,off+j,ae⟩).getD undef).drop (i*r.size)).take r.size=es:=by
  have hle:(i+1)*r.size<=l.length*r.size:=aq4 _ hi;rw[aro]at hle
  apply List.ext_getElem?
  intro j;rw[arR,arC];split
  .rename_i hj;rw[(Tl (i*r.size+j) (es[j]'(by omega))).2 ⟨by omega,by rw[<-Nat.add_assoc];exact hc j _ (aqK (by omega))⟩,aqK (by omega)]
  .rw[List.getElem?_eq_none (by omega)]
 rw[he];exact hr
def vE(w:World)(base:Nat)(t ty e:TypeId)(i:TypeInfo)(size:Nat)(ht:P.underlying t=aa (.slice e))(hi:P.info? e=aa i)
 (v:Value)(n:Nat)(xs:List Value)(iH:qd w base e size v n xs)(c:Nat):(asd #[t,t] ty #[v, .slice ae 0 c]).run P w= .ok v w:=by
 rcases iH.2 with⟨rfl,rfl⟩|⟨g,o0,cap,cur,rfl,_,_,Zu,_⟩
 .simp[asd,run_underlying ht,sizeOf,typeInfo,hi,Builtin.lenOf,Builtin.firstCells]
 .simp[asd,run_underlying ht,sizeOf,typeInfo,hi,Builtin.lenOf,Builtin.firstCells,Zu,storeCells]
def C8(w:World)(base:Nat)(t ty e:TypeId)(i:TypeInfo)(z:Value)(size bytes:Nat)(ht:P.underlying t=aa (.slice e))(hi:P.info? e=aa i)(hz:i.zero=aa z)
 (VI:i.size=size)(Ot:i.bytes=bytes)(Zv:z.cells.size=size)(p9:0<size)
 (v:Value)(n:Nat)(xs:List Value)(iH:qd w base e size v n xs)
 (a:Addr)(m c:Nat)(news:List Value)(hl:news.length=m*size)(Pe:∀j u,news[j]? =aa u->w.cell? (a.add j)=aa u)(h1:∀u∈news,u.oneCell'=af)
 (h63:n+m<=maxLen)(Pf:(n+m)*bytes<=140737488355328)(VJ:base<=w.heap.size):
 ∃v' w',(asd #[t,t] ty #[v, .slice (aa a) m c]).run P w= .ok v' w'/\qd w' base e size v' (n+m) (xs++news)/\w.grownBy w' v.ownBlock/\
  (v'.ownBlock=v.ownBlock\/v'.ownBlock=aa w.heap.size):=by
 rcases iH.2 with⟨rfl,rfl⟩|⟨g,o0,cap,cur,rfl,hbg,hg,Zu,hcm,vC,ES⟩
 .have hx:xs=[]:=List.eq_nil_of_length_eq_zero (by simpa using iH.1);subst hx;obtain⟨v',w',g1,g2,g3,_,g4⟩:=run_append_own_at (P:=P) w base t ty e i z size bytes ht hi hz VI Ot Zv p9 (.slice ae 0 0) 0 [] (World.ownsRow_nil w base e size) a m c news hl Pe h1 h63 Pf VJ;exact⟨v',w',g1, .of g2,g3,g4⟩
 subst VI;subst Ot
 have adB:n+m<=9223372036854775807:=by simp only[maxLen]at h63;omega
 have hlen:(xs++news).length=(n+m)*i.size:=by rw[aqT,iH.1,hl,aro]
 have hnm:n*i.size+news.length=(n+m)*i.size:=by rw[hl,aro]
 have akV:n*i.size<=cap*i.size:=aq4 _ Zu;by_cases BP:n+m<=cap
 .have Mh:(n+m)*i.size<=cap*i.size:=aq4 _ BP;have hf:=run_firstCells_some (P:=P) w i.size m a m c news hl Pe;have mf:=run_storeCells_at P g (o0+n*i.size) e news 0 cur w hg (by omega) h1;simp only[Nat.add_zero]at mf
  have hr:(asd #[t,t] ty #[.slice (aa ⟨g,o0,ae⟩) n cap, .slice (aa a) m c]).run P w=
   .ok (.slice (aa ⟨g,o0,ae⟩) (n+m) cap) (w.setRow g (cur.toList.take (o0+n*i.size)++news++cur.toList.drop (o0+n*i.size+news.length)).toArray):=by
   simp[asd,run_underlying ht,sizeOf,typeInfo,hi,Builtin.lenOf,BP,hf,Addr.add_lit,mf]
  refine⟨_,_,hr,⟨hlen, .inr ⟨g,o0,cap,_,rfl,hbg,setRow_heap w g cur _ e _ hg,BP,hcm,?_,?_⟩⟩,⟨rfl,rfl,rfl,by simp,λk _ hk=>setRow_other w g k _ (λe=>hk (by simp[ark,e]))⟩,Or.inl rfl⟩
  all_goals grind
 .have holds:∀j u,xs[j]? =aa u->w.cell? ((⟨g,o0,ae⟩:Addr).add j)=aa u:=λj u hj=>by
   grind [eG,Go.cell_of_row]
  have hr:=run_append_grow (P:=P) w t ty e i z ht hi hz ⟨g,o0,ae⟩ n cap xs iH.1 holds a m c news hl Pe (by omega) (by omega) (growslice_fits (by omega) Pf);have hge:=grownCap_ge w (n+m) cap e;have adC:grownCap w (n+m) cap e<=maxLen:=grownCap_le_maxLen w (n+m) cap e h63;refine⟨_,_,hr, .of ⟨hlen, .inr ⟨w.heap.size,_,_,rfl,VJ,heap_alloc_new w.drew _,hge,adC,?_,?_⟩⟩,⟨rfl,rfl,rfl,by simp,λk hk _=>heap_alloc_old w.drew _ hk⟩,Or.inr rfl⟩
  .simp only[Array.size_append,List.size_toArray,size_zeroCells,Zv,iH.1,hl,<-aro]
   congr 1
   omega
  grind
def zi{e:TypeId}{ti:TypeInfo}{z:Value}{r:Row}{v u:Value}{l m out:List r.den}(ty:TypeId)(ht:P.underlying t=aa (.slice e))(hi:P.info? e=aa ti)(hz:ti.zero=aa z)(Zw:z.cells.toList=r.je)(hs:ti.size=r.size)(Ot:ti.bytes<=32768)
 (hv:qa base F w e r v l)(hu:Reads F w r u m)(hm:cf l m=aa out)(hF:∀b,F b->b<w.heap.size)(hb:base<=w.heap.size):
 ∃v' w',(asd #[t,t] ty #[v,u]).run P w= .ok v' w'/\Ext (cF v) w w'/\qa base F w' e r v' out/\(cF v'=cF v\/cF v'=(w.heap.size= ·)):=by
 unfold cf at hm;split at hm
 case isFalse=>cases hm
 rename_i hlen;obtain rfl:=aqL hm
 have Zv:z.cells.size=r.size:=by rw[<-(eF.zero F w r).length,<-Zw];simp
 obtain⟨BQ,xs,hx,h3⟩:=hv;have hu0:=hu;obtain⟨A,cap,rfl,hmc,hcm,wR⟩:=hu
 have Pg:∀(v':Value)(w':World)(news:List Value),news.length=m.length*r.size->(∀i(hi:i<m.length),eF F w r ((news.drop (i*r.size)).take r.size) m[i])->
  qd w' base e r.size v' (l.length+m.length) (xs++news)->w.grownBy w' v.ownBlock->(v'.ownBlock=v.ownBlock\/v'.ownBlock=aa w.heap.size)->
  Ext (cF v) w w'/\qa base F w' e r v' (l++m)/\(cF v'=cF v\/cF v'=(w.heap.size= ·)):=by
  intro v' _ news hnl hnr mh hg vy
  have hm:cF v'=cF v\/cF v'=(w.heap.size= ·):=by
   rcases vy with h|h
   .exact .inl (by unfold cF;rw[h])
   .refine .inr ?_;funext b;unfold cF;rw[h];simp
  have cP:=Ext.Pa hg (g:=cF v) λk hk=>hk
  have uH:=Step.ext cP hF BQ;refine⟨cP,⟨λk hk=>?_,xs++news,by simpa using mh,λk hk=>?_⟩,hm⟩
  .rcases hm with h|h
   .rw[h]at hk;exact BQ k hk
   .rw[h]at hk;intro hf;have:=hF k hf;omega
  .have Ph:=hx.1
   rcases Nat.lt_or_ge k l.length with aI|hge
   .have hle:(k+1)*r.size<=l.length*r.size:=aq4 _ aI;rw[aro]at hle;rw[aqX aI,List.drop_append_of_le_length (by omega),List.take_append_of_le_length (by rw[List.length_drop];omega)];exact(h3 k aI).step uH
   .have Pj:k-l.length<m.length:=by simp at hk;omega
    have hmul:k*r.size=l.length*r.size+(k-l.length)*r.size:=by rw[<-aro];congr 1;omega
    rw[are hge,List.drop_append,Ph,List.drop_of_length_le (by omega),List.nil_append,show k*r.size-l.length*r.size=(k-l.length)*r.size from by omega];exact(hnr _ Pj).step uH
 cases A with
 |none=>
  have Ou:m=[]:=by
   cases m with
   |nil=>rfl
   |cons a q=>obtain⟨b,off,h,_⟩:=wR 0 (by simp);cases h
  subst Ou;refine⟨v,w,vE w base t ty e ti r.size ht hi v _ xs hx _,?_⟩;exact Pg v w [] (by simp) (λi hi=>absurd hi (by simp)) (by simpa using hx) ⟨rfl,rfl,rfl,aqS _,λ_ _ _=>rfl⟩ (.inl rfl)
 |some ad=>
  have key:∃news:List Value,news.length=m.length*r.size/\(∀j u,news[j]? =aa u->w.cell? (ad.add j)=aa u)/\∀i(hi:i<m.length),eF F w r ((news.drop (i*r.size)).take r.size) m[i]:=by
   cases m with
   |nil=>exact⟨[],by simp,λj u h=>by simp at h,λi hi=>absurd hi (by simp)⟩
   |cons a q=>
    obtain⟨b,off,h,_⟩:=wR 0 (by simp);obtain⟨news,h1,h2,h3⟩:=hu0.news b off h
    obtain rfl:ad=⟨b,off,ae⟩:=by simpa using h
    exact⟨news,h1,λj u hj=>by rw[eG];exact h2 j u hj,h3⟩
  obtain⟨news,hnl,Zu,hnr⟩:=key
  have oF:∀u∈news,u.oneCell'=af:=by
   intro u hu;obtain⟨j,hj,rfl⟩:=aqZ hu;have oZ:=r.size_pos;have hi:j/r.size<m.length:=Nat.div_lt_of_lt_mul (by rw[aru,<-hnl];exact hj);have hr:=hnr _ hi;refine hr.mw _ ?_;have hle:(j/r.size)*r.size+j%r.size=j:=Nat.div_add_mod' j r.size;have aI:=arW j oZ;rw[List.mem_iff_getElem?];refine⟨j%r.size,?_⟩;rw[arR,al aI,arC,hle,aqK hj]
  obtain⟨v',w',cO,mh,hg,vy⟩:=C8 (P:=P) w base t ty e ti z r.size ti.bytes ht hi hz hs rfl Zv r.size_pos v l.length xs hx ad m.length cap news hnl Zu oF (by simp only[maxLen];omega)
   (Nat.le_trans (Nat.mul_le_mul hlen Ot) (by omega)) hb
  exact⟨v',w',cO,Pg v' w' news hnl hnr mh hg vy⟩
end
end
end Go.Proofs.YtfjgcenlllgonaaGreatDoor
section
open _root_.Bool renaming false->ah,true->af,false_eq_true->aqM,not_true->ari
open _root_.Option renaming none->ae,some->aa
open _root_.List.cons renaming injEq->arE
open _root_.List renaming drop_eq_getElem_cons->aq6,length_take->aq9,take_length->ara
open _root_.Nat renaming beq->aqU,min_eq_left->arF
open _root_.Option.some renaming injEq->aq1
open _root_.Go.Result renaming andThen_ok->arN
open _root_.Go.Sem renaming run_bind->arf
namespace Go.Proofs.YtfjgcenlllgonaaGreatDoor
open Go Go.RowKit
def bind_some{α β:Type}{o:Option α}{f:α->Option β}{r:β}(h:o.bind f=aa r):∃x,o=aa x/\f x=aa r:=Option.bind_eq_some_iff.1 h
section
variable {P:Program} {n:Nat} {ρ:Nat->Value} {w:World} {K:(Nat->Value)->World->Prop} {Q:Exit->(Nat->Value)->World->Prop}
def Pk{id:Nat}(h:Q .normal ρ w):Y0 id Q (.exit id) ρ w:=by
 show(bif aqU id id then _ else _)
 simp_all
def Mi{id L2:Nat}(dG:aqU L2 id=ah)(h:Q (.exit L2) ρ w):Y0 id Q (.exit L2) ρ w:=by
 show(bif aqU L2 id then _ else _)
 grind
end
def TI(P:Program)(e:TypeId)(r:Row):Prop:=∃ti z,P.info? e=aa ti/\ti.zero=aa z/\z.cells.toList=r.je/\ti.size=r.size/\ti.bytes<=32768
def TI.mk{P:Program}{e:TypeId}{r:Row}{k:Nat}(h:(P.info? e).map (λi=>(i.zero.map (λz=>z.cells.toList),i.size,decide (i.bytes<=32768)))=aa (aa r.je,k,af))(hk:k=r.size):TI P e r:=by
 cases hi:P.info? e with
 |none=>simp[hi]at h
 |some ti=>
  simp only[hi,Option.map_some,aq1,Prod.mk.injEq,az]at h;obtain⟨h1,h2,h3⟩:=h
  cases hz:ti.zero with
  |none=>simp[hz]at h1
  |some z=>
   simp only[hz,Option.map_some,aq1]at h1;exact⟨ti,z,hi,hz,h1,h2.trans hk,h3⟩
section
variable {P:Program} {n:Nat} {ops:Array Oper} {K:(Nat->Value)->World->Prop} {rest:List Oper} {ρ:Nat->Value} {w:World} {F:Nat->Prop} {base:Nat}
variable {d:Nat} {dd:Option Nat} {ty:TypeId} {pos:String} {aft:Array Edge} {x y c:Operand} {t e:TypeId} {r:Row}
def qe{f:Nat}{fs:Array Field}{fd:Field}{sA off:Nat}(k:Nat)(hs:P.underlying t=aa (.struct fs))(hf:fs[f]? =aa fd)(hi:TI P fd.type r)(hk:fd.offset=k)
 (hx:ev ρ x= .pointer (aa ⟨sA,off,ae⟩)):Pure P ρ ⟨dd, .fieldAddr t x f,ty,pos,aft,ae⟩ (.pointer (aa ⟨sA,off+k,ae⟩)):=by
 obtain⟨ti,z,h1,_,_,h4,_⟩:=hi
 grind [zh,Row.size_pos]
end
end Go.Proofs.YtfjgcenlllgonaaGreatDoor
namespace Go.Proofs.YtfjgcenlllgonaaGreatDoor
open Go Go.RowKit
noncomputable def o6(r:Row)(x y:r.den):Bool:= @decide (x=y) (Row.decEq r x y)
def Tm{r:Row}{x y:r.den}:o6 r x y=af↔x=y:=by simp[o6]
def Pm(P:Program)(t:TypeId)(cs:List Value)(v:Value):Prop:=∃D,P.underlying t=aa D/\(if mg D=af then v= .agg cs.toArray else cs=[v])
def uV(P:Program)(t:TypeId)(r:Row)(K:Nat):Prop:=
 ∀(d:Nat)(w2 w:World)(F:Nat->Prop)(cs yw:List Value)(x y:r.den)(v v':Value),Pm P t cs v->Pm P t yw v'->eF F w r cs x->eF F w r yw y->
  (Op.equalIn (d+K) t v v').run P w2= .ok (decide (x=y)) w2
def Tn(P:Program)(fs:List Field)(r:Row)(off K:Nat):Prop:=
 ∀(d:Nat)(w2 w:World)(F:Nat->Prop)(xs ys:List Value)(x y:r.den),eF F w r ((xs.drop off).take r.size) x->eF F w r ((ys.drop off).take r.size) y->
  (Op.eqFields (d+K) xs.toArray ys.toArray fs).run P w2= .ok (decide (x=y)) w2
section
variable {P:Program} {t:TypeId} {r:Row} {k:IntKind} {K:Nat}
def Ka(ht:P.underlying t=aa (.int k)):uV P t (.int k) 1:=by
 intro d w2 w F cs yw x y v v' ⟨D,hD,h1⟩ ⟨D',To,h2⟩ hx hy;rw[ht]at hD To;cases hD;cases To;obtain rfl:cs=_:=hx;obtain rfl:yw=_:=hy;simp only[mg,aqM,if_false,arE,and_true]at h1 h2;subst h1;subst h2;rw[run_equalIn_int (h:=ht),tO]
def vF{D:TypeDesc}{ti:TypeInfo}{cs:List Value}{off:Nat}{F:Nat->Prop}{w:World}{x:r.den}(hD:P.underlying t=aa D)(hi:P.info? t=aa ti)(hs:ti.size=r.size)(oF:mg D=ah->r.size=1)
 (hr:eF F w r ((cs.drop off).take r.size) x)(w2:World):∃v,(part t cs.toArray off).run P w2= .ok v w2/\Pm P t ((cs.drop off).take r.size) v:=by
 have hl:=hr.length;have oZ:=r.size_pos
 cases hA:mg D with
 |true=>
  refine⟨.agg ((cs.drop off).take r.size).toArray,?_,D,hD,by rw[al hA]⟩;unfold part;rw[arf,iI hD,hA];simp[sizeOf,typeInfo,hi,hs]
 |false=>
  have h1:=oF hA;rw[h1]at hl⊢
  have aI:off<cs.length:=by
   rw[aq9,List.length_drop]at hl;omega
  refine⟨cs[off],?_,D,hD,?_⟩
  .unfold part;rw[arf,iI hD,hA];simp[aI]
  .rw[aj (by simp[hA])]
   grind [aq6]
def sF{f:Field}{off:Nat}(hn:(f.name != "_")=af)(ho:f.offset=off){D:TypeDesc}(hD:P.underlying f.type=aa D)(oF:mg D=ah->r.size=1)(hi:TI P f.type r)(he:uV P f.type r K):Tn P [f] r off K:=by
 intro d w2 w F xs ys x y hx hy;subst ho;obtain⟨ti,z,h1,_,_,h4,_⟩:=hi;obtain⟨v,hv,Kb⟩:=vF hD h1 h4 oF hx w2;obtain⟨v',gZ,Mj⟩:=vF hD h1 h4 oF hy w2;have:=he d w2 w F _ _ x y v v' Kb Mj hx hy
 have Tp:f.name≠ "_" :=by simpa using hn
 unfold Op.eqFields;rw[al Tp,arf,hv,arN,arf,gZ,arN,arf,this,arN]
 by_cases Bg:x=y<;>simp[Bg,Op.eqFields]
def oG{f:Field}{fs:List Field}{a b:Row}{off:Nat}(hn:(f.name != "_")=af)(ho:f.offset=off){D:TypeDesc}(hD:P.underlying f.type=aa D)(oF:mg D=ah->a.size=1)(hi:TI P f.type a)(he:uV P f.type a K)
 (hr:Tn P fs b (off+a.size) K):Tn P (f::fs) (.pair a b) off K:=by
 intro d w2 w F xs ys x y hx hy;subst ho;obtain⟨ti,z,h1,_,_,h4,_⟩:=hi
 have hle:a.size<=(Row.pair a b).size:=by simp
 have gD:∀(zs:List Value)(u:(Row.pair a b).den),eF F w (.pair a b) ((zs.drop f.offset).take (Row.pair a b).size) u->eF F w a ((zs.drop f.offset).take a.size) u.1:=by
  intro zs u hu;have:=eF.path (.fst (.here (r:=a)):Path (.pair a b) a) hu;simp only[Path.off,List.drop_zero]at this;rw[List.take_take,arF hle]at this;exact this
 have Zx:∀(zs:List Value)(u:(Row.pair a b).den),eF F w (.pair a b) ((zs.drop f.offset).take (Row.pair a b).size) u->eF F w b ((zs.drop (f.offset+a.size)).take b.size) u.2:=by
  intro zs u hu;have:=eF.path (.snd (.here (r:=b)):Path (.pair a b) b) hu;simp only[Path.off,Nat.add_zero]at this;rw[List.drop_take,List.drop_drop]at this;rw[show(Row.pair a b).size-a.size=b.size from by simp]at this;rw[List.take_take,Nat.min_self]at this;exact this
 obtain⟨v,hv,Kb⟩:=vF hD h1 h4 oF (gD xs x hx) w2;obtain⟨v',gZ,Mj⟩:=vF hD h1 h4 oF (gD ys y hy) w2;have h5:=he d w2 w F _ _ _ _ v v' Kb Mj (gD xs x hx) (gD ys y hy);have h6:=hr d w2 w F xs ys _ _ (Zx xs x hx) (Zx ys y hy)
 have Tp:f.name≠ "_" :=by simpa using hn
 unfold Op.eqFields;rw[al Tp,arf,hv,arN,arf,gZ,arN,arf,h5,arN];obtain⟨x1,x2⟩:=x;obtain⟨y1,y2⟩:=y;by_cases Bg:x1=y1
 .simp only[Bg,decide_true,ari,aqM,if_false,h6]
  congr 1
  simp[Prod.ext_iff]
 .simp[Bg,Prod.ext_iff]
def pO{fs:Array Field}(ht:P.underlying t=aa (.struct fs))(hp:P.stoodInHeld t=ah)(h:Tn P fs.toList r 0 K):uV P t r (K+1):=by
 intro d w2 w F cs yw x y v v' ⟨D,hD,h1⟩ ⟨D',To,h2⟩ hx hy;rw[ht]at hD To;cases hD;cases To;simp only[mg,if_true]at h1 h2;subst h1;subst h2
 have hf:P.fieldsOf t=fs:=by simp[Program.fieldsOf,ht]
 have Zy:=hx.length;have hly:=hy.length;rw[<-Nat.add_assoc,run_equalIn_struct _ _ _ _ _ (by grind) hp,hf];exact h d w2 w F cs yw x y (by rw[List.drop_zero,<-Zy,ara];exact hx) (by grind)
variable {ρ:Nat->Value} {dd:Option Nat} {ty:TypeId} {pos:String} {aft:Array Edge} {x y:Operand} {u:TypeId}
def Mk{d:Nat}{F:Nat->Prop}{w:World}{es wN:List Value}{a b:r.den}(hE:uV P t r K)(hd:d+K=10000)(hg:P.eqGuardType P.depth t=ah)(hD:(P.underlying t).any mg=af)
 (hx:ev ρ x= .agg es.toArray)(hy:ev ρ y= .agg wN.toArray)(ha:eF F w r es a)(hb:eF F w r wN b):
 Pure P ρ ⟨dd, .binOp .eql t x y u,ty,pos,aft,ae⟩ (.bool (o6 r a b)):=λw2=>by
 cases hu:P.underlying t with
 |none=>simp[hu]at hD
 |some D=>
  have hA:mg D=af:=by simpa[hu]using hD
  have:=hE d w2 w F es wN a b _ _ ⟨D,hu,by rw[al hA]⟩ ⟨D,hu,by rw[al hA]⟩ ha hb;rw[hd]at this;simp only[execOp,hx,hy,arf,run_eqGuard_agg _ _ _ _ _ _ _ hg,arN,run_eql_struct,this];rfl
def Ml{d:Nat}{F:Nat->Prop}{w:World}{es wN:List Value}{a b:r.den}(hE:uV P t r K)(hd:d+K=10000)(hg:P.eqGuardType P.depth t=ah)(hD:(P.underlying t).any mg=af)
 (hx:ev ρ x= .agg es.toArray)(hy:ev ρ y= .agg wN.toArray)(ha:eF F w r es a)(hb:eF F w r wN b):
 Pure P ρ ⟨dd, .binOp .neq t x y u,ty,pos,aft,ae⟩ (.bool (!o6 r a b)):=λw2=>by
 cases hu:P.underlying t with
 |none=>simp[hu]at hD
 |some D=>
  have hA:mg D=af:=by simpa[hu]using hD
  have:=hE d w2 w F es wN a b _ _ ⟨D,hu,by rw[al hA]⟩ ⟨D,hu,by rw[al hA]⟩ ha hb;rw[hd]at this;simp only[execOp,hx,hy,arf,run_eqGuard_agg _ _ _ _ _ _ _ hg,arN,run_neq_struct,this];rfl
end
section
variable {P:Program} {n:Nat} {ops:Array Oper} {K:(Nat->Value)->Prop} {rest:List Oper} {ρ:Nat->Value} {w:World} {F:Nat->Prop}
variable {d:Nat} {ty:TypeId} {pos:String} {aft:Array Edge} {x y:Operand} {t e:TypeId} {r:Row}
end
end Go.Proofs.YtfjgcenlllgonaaGreatDoor
end
namespace Go.Proofs.YtfjgcenlllgonaaGreatDoor
open Go Go.RowKit
set_option maxRecDepth 100000
set_option linter.unusedSimpArgs false
set_option linter.unusedVariables false
set_option linter.defProp false
section
section
variable {P:Program} {n:Nat} {ops:Array Oper} {K:(Nat->Value)->World->Prop} {rest:List Oper} {ρ:Nat->Value} {w:World} {F:Nat->Prop} {base:Nat}
variable {d:Nat} {ty:TypeId} {pos:String} {aft:Array Edge} {x y:Operand} {t e:TypeId} {r s:Row}
def bn{α:Type}(l:List α)(i:Int)(y:α):List α:=l.set i.toNat y
def qa.put{g o0 m0 WE q:Nat}{v:Value}{l:List r.den}(h:qa base F w e r v l)(hg:v= .slice (aa ⟨g,o0,ae⟩) m0 WE)(hq:q<l.length)(hF:∀b,F b->b<w.heap.size)(p:Path r s){vs:List Value}{u:s.den}(hv:eF F w s vs u):
 ∃cur,w.heap[g]? =aa (.cells cur e (0,0))/\o0+q*r.size+p.off+vs.length<=cur.size/\
  Ext (cF v) w (w.setRow g (cur.toList.take (o0+q*r.size+p.off)++vs++cur.toList.drop (o0+q*r.size+p.off+vs.length)).toArray)/\
  qa base F (w.setRow g (cur.toList.take (o0+q*r.size+p.off)++vs++cur.toList.drop (o0+q*r.size+p.off+vs.length)).toArray) e r v (l.set q (p.set l[q] u)):=by
 obtain⟨BQ,xs,⟨Ph,hx⟩,h3⟩:=h
 rcases hx with⟨rfl,_⟩|⟨g',o1,cap,cur,rfl,hb,hh,h1,h2,vC,ES⟩
 .simp at hg
 .simp only[ar8,aq1,Addr.mk.injEq,and_true]at hg;obtain⟨⟨rfl,rfl⟩,rfl,rfl⟩:=hg;have hle:=p.le;have hl:=hv.length;have hmul:(q+1)*r.size<=l.length*r.size:=aq4 _ hq;rw[aro]at hmul;have Mh:l.length*r.size<=cap*r.size:=aq4 _ h1
  have cP:Ext (cF (.slice (aa ⟨g',o1,ae⟩) l.length cap)) w (w.setRow g' (cur.toList.take (o1+q*r.size+p.off)++vs++cur.toList.drop (o1+q*r.size+p.off+vs.length)).toArray):=
   ⟨rfl,rfl,rfl,by simp,λk _ hk=>setRow_other w g' k _ λe=>hk (by simp[cF,ark,e])⟩
  have uH:=Step.ext cP hF BQ;refine⟨cur,hh,by omega,cP,BQ,xs.take (q*r.size+p.off)++vs++xs.drop (q*r.size+p.off+vs.length),⟨by simp;omega, .inr ⟨g',o1,cap,_,by simp,hb,setRow_heap w g' _ _ e (0,0) hh,by simpa using h1,h2,by simp;omega,?_⟩⟩,?_⟩
  .rw[List.length_set,List.toList_toArray,<-ES]
   have e0:(cur.toList.take (o1+q*r.size+p.off)++vs++cur.toList.drop (o1+q*r.size+p.off+vs.length)).drop o1=(cur.toList.drop o1).take (q*r.size+p.off)++vs++(cur.toList.drop o1).drop (q*r.size+p.off+vs.length):=by
    rw[ard,List.drop_append_of_le_length (by simp;omega),List.drop_take,List.drop_drop,show o1+q*r.size+p.off-o1=q*r.size+p.off by omega,ard,show o1+q*r.size+p.off+vs.length=o1+(q*r.size+p.off+vs.length) by omega]
   rw[e0]
   have C9:cap*r.size<=(cur.toList.drop o1).length:=by simp;omega
   generalize cur.toList.drop o1=c2 at*
   have e1:(c2.take (l.length*r.size)).take (q*r.size+p.off)=c2.take (q*r.size+p.off):=by rw[List.take_take,arF (by omega)]
   rw[e1,List.take_append,List.take_of_length_le (by simp;omega),List.drop_take]
   congr 1
   simp
   congr 1
   omega
  .intro i jn
   have hi:i<l.length:=by simpa using jn
   have WG:(i+1)*r.size<=l.length*r.size:=aq4 _ hi;rw[aro]at WG
   have A:∀j,j<r.size->((xs.take (q*r.size+p.off)++vs++xs.drop (q*r.size+p.off+vs.length)))[i*r.size+j]? =
    if i*r.size+j<q*r.size+p.off then xs[i*r.size+j]? else if i*r.size+j<q*r.size+p.off+vs.length then vs[i*r.size+j-(q*r.size+p.off)]? else xs[i*r.size+j]? :=by
    intro j hj;rw[ard,aso];simp only[aq9,Ph,arF (show q*r.size+p.off<=l.length*r.size from by omega)];split
    .grind
    .rw[aso];split
     .grind
     .rename_i h1 h2;rw[aj (by omega),arC]
      grind
   by_cases hiq:i=q
   .subst hiq;rw[List.getElem_set_self];have hp:=(h3 i hi).put p hv
    have:((xs.take (i*r.size+p.off)++vs++xs.drop (i*r.size+p.off+vs.length)).drop (i*r.size)).take r.size=
     ((xs.drop (i*r.size)).take r.size).take p.off++vs++((xs.drop (i*r.size)).take r.size).drop (p.off+s.size):=by
     have Zz:((xs.drop (i*r.size)).take r.size).length=r.size:=by rw[aq9,List.length_drop,Ph];omega
     have hsj:∀j,j<r.size->((xs.drop (i*r.size)).take r.size)[j]? =xs[i*r.size+j]? :=(by grind)
     generalize(xs.drop (i*r.size)).take r.size=seg at Zz hsj
     apply List.ext_getElem?
     intro j;rw[aso (l₁:=seg.take p.off++vs),aso (l₁:=seg.take p.off),aqT,aq9,Zz,arF (show p.off<=r.size from by omega),arR (l:=List.drop _ _)];by_cases hj:j<r.size
     .rw[al hj,arC,A j hj];by_cases hj1:j<p.off
      .rw[al (by omega),al (by omega),al hj1,arR,al hj1,hsj j hj]
      .rw[aj (by omega)];by_cases SO:j<p.off+vs.length
       .rw[al (by omega),al SO,aj hj1]
        congr 1
        omega
       .rw[aj (by omega),aj SO,arC,<-hsj j hj]
        congr 1
        omega
     .grind
    rw[this];exact hp.step uH
   .rw[List.getElem_set_ne (λe=>hiq e.symm)]
    have:((xs.take (q*r.size+p.off)++vs++xs.drop (q*r.size+p.off+vs.length)).drop (i*r.size)).take r.size=(xs.drop (i*r.size)).take r.size:=by
     apply List.ext_getElem?
     intro j;rw[arR,arR];by_cases hj:j<r.size
     .rw[al hj,al hj,arC,A j hj,arC]
      rcases Nat.lt_or_gt_of_ne hiq with aI|hgt
      .have:(i+1)*r.size<=q*r.size:=aq4 _ aI
       grind
      .have:(q+1)*r.size<=i*r.size:=aq4 _ hgt
       grind
     .grind
    rw[this];exact(h3 i hi).step uH
def qa.at{g o0 m0 WE q:Nat}{i:Int}{v:Value}{l:List r.den}{a:r.den}(h:qa base F w e r v l)(hg:v= .slice (aa ⟨g,o0,ae⟩) m0 WE)(hq:i=(q:Nat))(rB:idx l i=aa a):At F w r g (o0+q*r.size) a:=by
 obtain⟨b,off,cap,k,hv,hk,aI,vy⟩:=h.reads.elem rB
 grind
def Pn(cs:List Value):∀(k:Nat)(pre post:List Value),post.length=cs.length->∀(tail:List Value),
 (cs.zipIdx k).foldl (λ(acc:Array Value)(cj:Value×Nat)=>acc.setIfInBounds (pre.length-k+cj.2) cj.1) (pre++post++tail).toArray=(pre++cs++tail).toArray\/pre.length<k:=by
 induction cs with
 |nil=>simp_all
 |cons c q ih=>
  intro k pre post hp tail;by_cases hk:pre.length<k
  .exact .inr hk
  cases post with
  |nil=>simp at hp
  |cons p0 post=>
   simp only[List.zipIdx_cons,List.foldl_cons]
   rcases ih (k+1) (pre++[c]) post (by simpa using hp) tail with h|h
   all_goals simp_all
def BR{place:Nat->Option (Nat×Nat)}{i off size:Nat}{v:Value}{vs cells:List Value}{rest:List (Nat×Value)}(hp:place i=aa (off,size))(hv:v.cells.toList=vs)(hs:vs.length=size)(hle:off+size<=cells.length):
 Instr.fill place cells.toArray ((i,v)::rest)=Instr.fill place (cells.take off++vs++cells.drop (off+size)).toArray rest:=by
 have hvc:v.cells=vs.toArray:=by rw[<-hv,arG]
 have hf:=Pn vs 0 (cells.take off) ((cells.drop off).take size) (by simp;omega) (cells.drop (off+size))
 have Ij:cells.take off++(cells.drop off).take size++cells.drop (off+size)=cells:=by
  rw[ard,<-List.drop_drop,ar5,ar5]
 have hlen:(cells.take off).length=off:=by simp;omega
 rw[Ij,hlen,Nat.sub_zero]at hf
 rcases hf with hf|hf
 case inr=>omega
 rw[Instr.fill]
 grind
inductive zj(F:Nat->Prop)(w:World)(r:Row):List Value->List r.den->Prop where
 |nil:zj F w r [] []
 |cons {v:Value} {vs:List Value} {cs:List Value} {a:r.den} {l:List r.den} (hc:v.cells.toList=cs) (hr:eF F w r cs a) (h:zj F w r vs l):zj F w r (v::vs) (a::l)
theorem zj.length{vs:List Value}{l:List r.den}(h:zj F w r vs l):vs.length=l.length:=by
 induction h<;>grind
def zj.fill{vs:List Value}{l:List r.den}(h:zj F w r vs l):∀(k:Nat)(pre post:List Value),pre.length=k*r.size->post.length=vs.length*r.size->
 ∃xs,Instr.fill (λi=>aa (i*r.size,r.size)) (pre++post).toArray ((vs.zipIdx k).map λp=>(p.2,p.1))=aa (pre++xs).toArray/\xs.length=l.length*r.size/\∀i(hi:i<l.length),eF F w r ((xs.drop (i*r.size)).take r.size) l[i]:=by
 induction h with
 |nil=>
  intro k pre post hp hq
  have:post=[]:=(by simp_all)
  subst this;exact⟨[],by simp[Instr.fill],by simp,λi hi=>absurd hi (by simp)⟩
 | @cons v vs cs a l hc hr h ih=>
   intro k pre post hp hq;have hl:=hr.length;rw[arh,aro,Nat.one_mul]at hq;obtain⟨xs,h1,h2,h3⟩:=ih (k+1) (pre++cs) (post.drop r.size) (by grind) (by grind);refine⟨cs++xs,?_,by grind,λi hi=>?_⟩
   .simp only[List.zipIdx_cons,List.map_cons];rw[BR (place:=λi=>aa (i*r.size,r.size)) rfl hc hl (by grind)];rw[<-hp,List.take_left',List.drop_append,List.drop_of_length_le (by omega),List.nil_append,show pre.length+r.size-pre.length=r.size from by omega]
    all_goals grind
   .cases i with
    |zero=>
     grind
    |succ i=>
     rw[aro,Nat.one_mul,Nat.add_comm,<-List.drop_drop,<-hl,List.drop_left',hl]
     all_goals grind
end
end
section
open Go Go.RowKit Go.ChangeShapes Go.WideShapes Go.ChangeAt Go.Deep
def WF:(r:Row)->r.den->Prop
 | .int k,n=>k.min<=n/\n<=k.max
 | .bool,_=>True
 | .str,s=>s.size<=maxLen
 | .slice e,l=>l.length<=maxLen/\∀x∈l,WF e x
 | .mX,_=>True
 | .nul _,_=>True
 | .map ..,_=>True
 | .pair a b,x=>WF a x.1/\WF b x.2
def uW:(r:Row)->r.den->Nat
 | .int _,_=>1
 | .bool,_=>1
 | .str,s=>s.size+1
 | .slice e,l=>(l.map (uW e)).sum+1
 | .mX,_=>1
 | .nul _,_=>1
 | .map ..,_=>1
 | .pair a b,x=>uW a x.1+uW b x.2
def sd{H:Type}:(l:List (DataW H))->Rows.uptoBulkAll l=(l.map Rows.uptoBulk).sum
 |[]=>by simp[Rows.uptoBulkAll]
 |a::l=>by simp[Rows.uptoBulkAll,sd l]
def here(w:World)(b:Nat):Prop:=b<w.heap.size
def gM(P:Program)(t:TypeId)(r:Row):Prop:=
 ∀(H:Type)(enc:TypeId×Value->H)(w:World)(spare:Nat->Bool)(held:Bool)(fuel:Nat)(cs:List Value)(x:DataW H×List MemPlace),DataW.trod enc P w 0 spare held fuel t cs=aa x->
  ∃y:r.den,eF (here w) w r cs y/\WF r y/\uW r y<=Rows.uptoBulk x.1
def yO(P:Program)(fs:List Field)(r:Row)(off:Nat):Prop:=
 ∀(H:Type)(enc:TypeId×Value->H)(w:World)(spare:Nat->Bool)(held:Bool)(n:Nat)(cs:List Value)(xs:List (DataW H×List MemPlace)),xs.length=fs.length->
  (∀(i:Nat)(f:Field),fs[i]? =aa f->DataW.trod enc P w 0 spare held n f.type ((cs.drop f.offset).take (P.cellsOf f.type))=xs[i]?)->off+r.size<=cs.length->
  ∃y:r.den,eF (here w) w r ((cs.drop off).take r.size) y/\WF r y/\uW r y<=Rows.uptoBulkAll (xs.map (·.1))
section
variable {P:Program} {t e:TypeId} {r a b:Row} {k:IntKind}
def Mm(ht:P.underlying t=aa (.int k)):gM P t (.int k):=by
 intro H enc w spare held fuel cs x h;obtain⟨n,rfl,rfl,hn⟩:=DataW.trod_int ht h;exact⟨n,rfl,by simpa[Lit.wf,WF]using hn,by simp[uW,Rows.uptoBulk]⟩
def BS(ht:P.underlying t=aa .string):gM P t .str:=by
 intro H enc w spare held fuel cs x h;obtain⟨s,rfl,rfl,hs⟩:=DataW.trod_string ht h;exact⟨s,rfl,hs,Nat.le_of_eq rfl⟩
def sG{α:Type}{p:Nat->α->Prop}:(n:Nat)->(∀i,i<n->∃x,p i x)->∃l:List α,l.length=n/\∀i(h:i<l.length),p i l[i]
 |0,_=>(by simp_all)
 |n+1,h=>by
  obtain⟨l,hl,hp⟩:=sG n λi hi=>h i (by omega)
  obtain⟨x,hx⟩:=h n (by omega);refine⟨l++[x],by simp[hl],λi hi=>?_⟩
  grind
def gN(ht:P.underlying t=aa (.slice e))(hs:P.cellsOf e=r.size)(he:gM P e r):gM P t (.slice r):=by
 intro H enc w spare held fuel cs x h
 rcases open_slice ht h with⟨rfl,rfl⟩|⟨ad,len,cap,m,n,D,Pl,rfl,_,hl,hm,Ov,rfl,hi⟩
 .exact⟨[],eF.nil _ _ _,⟨by simp[maxLen],λx hx=>absurd hx (by simp)⟩,by simp[uW,Rows.uptoBulk]⟩
 .have hlm:len<=m:=by rw[Ov];split<;>omega
  have key:∀i,i<len->∃y:r.den,∃yw,(yw.length=r.size/\(∀j,j<r.size->w.cell? ((ad.add (i*r.size)).add j)=yw[j]?))/\eF (here w) w r yw y/\WF r y/\uW r y<=Rows.uptoBulk (D i):=by
   intro i jn;obtain⟨yw,hc,htr⟩:=hi i (by omega);rw[hs]at hc;obtain⟨_,Ow,C9⟩:=World.cells?_some hc;obtain⟨y,h1,h2,h3⟩:=he H enc w spare held n yw _ htr;exact(by grind)
  obtain⟨l,EK,hp⟩:=sG len key;subst EK;have oZ:=r.size_pos;refine⟨l,⟨aa ad,cap,rfl,hl,hm,λi hi=>?_⟩,⟨by omega,λx hx=>?_⟩,?_⟩
  .obtain⟨yw,⟨Ow,C9⟩,hr,_,_⟩:=hp i hi;obtain⟨cs0,⟨xS,zk⟩,_⟩:=hp 0 (by omega);have h0:=zk 0 oZ;rw[aqK (by omega)]at h0;simp only[Nat.zero_mul,Addr.add,if_true]at h0
   have wT:ad.spot=ae:=by
    cases wT:ad.spot with
    |none=>rfl
    |some q=>
     unfold World.cell? at h0
     grind
   obtain⟨bb,off,sp⟩:=ad;simp only at wT;subst wT;refine⟨bb,off,yw,rfl,block_lt_of_cell h0,Ow,λj u hu=>?_,hr⟩
   grind [eG]
  .grind [aqZ]
  .simp only[uW,Rows.uptoBulk,sd]
   have:∀(n:Nat),n<=l.length->((l.take n).map (uW r)).sum<=(((arK n).map D).map Rows.uptoBulk).sum:=by
    intro n hn
    induction n with
    |zero=>simp
    |succ n ih=>
     have h1:=ih (by omega);obtain⟨_,_,_,_,h3⟩:=hp n (by omega)
     grind [List.take_succ_eq_append_getElem,List.range_succ]
   grind
def fC{f:Field}{off:Nat}(ho:f.offset=off)(hc:P.cellsOf f.type=r.size)(he:gM P f.type r):yO P [f] r off:=by
 intro H enc w spare held n cs xs hl hx _;subst ho
 match xs,hl with
 |[x],_=>
  have h:=hx 0 f rfl;rw[hc]at h;obtain⟨y,h1,h2,h3⟩:=he H enc w spare held n _ x h
  grind [Rows.uptoBulkAll]
def bS{f:Field}{fs:List Field}{off:Nat}(ho:f.offset=off)(hc:P.cellsOf f.type=a.size)(he:gM P f.type a)(hr:yO P fs b (off+a.size)):yO P (f::fs) (.pair a b) off:=by
 intro H enc w spare held n cs xs hl hx hle;subst ho
 match xs,hl with
 |x::xs,hl=>
  have h:=hx 0 f rfl;rw[hc]at h;obtain⟨y,h1,h2,h3⟩:=he H enc w spare held n _ x h;simp only[Row.size]at hle;obtain⟨z,g1,g2,g3⟩:=hr H enc w spare held n cs xs (by simpa using hl) (λi f' hf=>by simpa using hx (i+1) f' (by simpa using hf)) (by omega);refine⟨(y,z),⟨_,_,?_,h1,g1⟩,⟨h2,g2⟩,by grind [uW,Rows.uptoBulkAll]⟩
  grind [Row.size,List.drop_drop]
def eK{fs:Array Field}(ht:P.underlying t=aa (.struct fs))(hc:P.cellsOf t=r.size)(h:yO P fs.toList r 0):gM P t r:=by
 intro H enc w spare held fuel cs x hx;obtain⟨xs,n,_,rfl,hlen,Ph,hf⟩:=DataW.trod_struct ht hx;rw[hc]at hlen;obtain⟨y,h1,h2,h3⟩:=h H enc w spare held n cs xs (by simpa using Ph) (by grind) (by omega)
 grind [Rows.uptoBulk]
variable {H:Type} {enc:TypeId×Value->H} {w:World} {base:Nat} {spare:Nat->Bool} {held:Bool} {v:Value} {d:DataW H} {ps:List MemPlace}
def Tq(ht:P.underlying t=aa (.int k))(hv:Value.okWide P w .any base t v)(h:DataW.Trod enc P w 0 spare held t v d ps):∃n:Int,v= .int k n/\WF (.int k) n/\uW (.int k) n<=Rows.uptoBulk d:=by
 obtain⟨x,rfl,rfl,rfl,wx⟩:=open_int ht hv h;exact⟨x,rfl,by simpa[Lit.wf,WF]using wx,by simp[uW,Rows.uptoBulk]⟩
def zn{fs:Array Field}(ht:P.underlying t=aa (.struct fs))(ho:gM P t r)(hv:Value.okWide P w .any base t v)(h:DataW.Trod enc P w 0 spare held t v d ps):
 ∃(es:List Value)(x:r.den),v= .agg es.toArray/\eF (here w) w r es x/\WF r x/\uW r x<=Rows.uptoBulk d:=by
 obtain⟨cs,rfl,_⟩:=okWide_struct ht hv;obtain⟨fuel,hf⟩:=h;obtain⟨x,h1,h2,h3⟩:=ho H enc w spare held fuel _ _ hf;exact⟨cs.toList,x,by simp,by simpa[Value.cells]using h1,h2,h3⟩
def uI(hl:laidOutB P=af){W W':World}(hb:Below W.heap.size W W'){sp:Nat->Bool}:(ts:List TypeId)->(vs:List Value)->(ds:List (DataW H))->(ps:List MemPlace)->
 (∀t∈ts,(P.readableRec t&&art t P.types.size)=af)->DataW.TrodAll enc P W 0 (λ_=>af) af ts vs ds ps->(∀x∈ps,x.block<W.heap.size)->(∀x∈ps,sp x.block=af)->DataW.TrodAll enc P W' 0 sp af ts vs ds ps
 |[],[],[],_,_,h,_,_=>h
 |t::ts,v::vs,d::ds,ps,hr,h,aI,wT=>by
  obtain⟨p,q,h1,h2,rfl⟩:=h;have ht:=hr t (by simp);simp only[arV,Nat.blt_eq]at ht
  exact⟨p,q,WideElems.Trod_stays hl ht.1 ht.2 h1 (λx hx=>hb.same (aI x (by simp[hx]))) (λx hx=>wT x (by simp[hx])),
   uI hl hb ts vs ds q (λt ht=>hr t (by simp[ht])) h2 (λx hx=>aI x (by simp[hx])) (λx hx=>wT x (by simp[hx])),rfl⟩
def Bh{f:Func}{s:ChangeSpec}{apart fresh handsOn again:Bool}{W W':World}{args:Array Value}{v:Value}{ds gs:List (DataW H)}{before pa pv:List MemPlace}
 (hW:DataW.Whole enc P f.params.toList s.vars apart W args.toList ds gs before)
 (Bi:∀(b:Nat)(sp:Nat->Bool)(hd:Bool),DataW.TrodAll enc P W' b sp hd f.resultTypes.toList (v.resultList f.resultTypes.size) (s.fn H (ds++gs)).results [])
 (Kc:∀sp:Nat->Bool,(∀p∈before,sp p.block=af)->DataW.TrodAll enc P W' 0 sp af f.params.toList args.toList (s.fn H (ds++gs)).args pa)
 (VK:∀sp:Nat->Bool,(∀p∈before,sp p.block=af)->DataW.TrodVars enc P W' sp s.vars (s.fn H (ds++gs)).vars pv)
 (hps:before=pa++pv)(hb:Below W.heap.size W W')
 (sB:∀(j:Nat)(t:TypeId)(r:Value),f.resultTypes[j]? =aa t->(v.resultList f.resultTypes.size)[j]? =aa r->Value.okWide P W' .any 0 t r):
 s.post enc P f apart fresh handsOn again W args v W':=by
 have aI:∀p∈before,p.block<W.heap.size:=λp hp=>hW.lt p hp
 have hold:∀p∈before,(λb=>decide (b<W.heap.size)) p.block=af:=λp hp=>by grind
 refine⟨ds,gs,before,[],pa,pv,hW,Bi _ _ _,Kc _ hold,VK _ hold,World.keptBut_mono (λp hp=>⟨hp,?_⟩) (hb.frame (· ∈before)),λ_=>?_⟩
 .grind
 .obtain⟨_,_,_,_,_,hz,hn⟩:=hW;refine⟨sB,_,_,([]++pa)++pv,⟨[]++pa,pv,trodAll_append (Kc _ (λ_ _=>rfl)) (Bi _ _ _),VK _ (λ_ _=>rfl),rfl,?_,?_⟩,?_⟩
  .intro b off hp
   have eJ:MemPlace.cell b off∈before:=by rw[hps];simpa using hp
   rw[hb.frozen (aI _ eJ)];exact hz b off eJ
  all_goals grind
end
end
section
def gD{α:Type}(l:List α)(a b:Int):Option (List α):=if 0<=a/\a<=b/\b<=l.length then aa ((l.take b.toNat).drop a.toNat)else ae
variable {F:Nat->Prop} {w:World} {r:Row}
def eF.cut{A:Option Addr}{cap:Nat}{l:List r.den}{a b:Nat}(h:eF F w (.slice r) [.slice A l.length cap] l)(h1:a<=b)(h2:b<=l.length):
 eF F w (.slice r) [sliced A a b cap r.size] ((l.take b).drop a):=by
 obtain⟨A',Pd,hv,hc,hm,hs⟩:=h;simp only[arE,ar8,and_true,true_and]at hv;obtain⟨rfl,rfl⟩:=hv
 have hlen:((l.take b).drop a).length=b-a:=by simp;omega
 refine⟨_,cap-a,by rw[hlen];rfl,by omega,by omega,λi hi=>?_⟩
 have jn:a+i<l.length:=by omega
 grind [eG]
section
variable {P:Program} {n:Nat} {ops:Array Oper} {K:(Nat->Value)->World->Prop} {rest:List Oper} {ρ:Nat->Value}
variable {d:Nat} {ty:TypeId} {pos:String} {aft:Array Edge} {x y z:Operand} {t e:TypeId}
def Tr{t e:TypeId}(ht:P.underlying t=aa (.slice e)):P.underlying t=aa (.slice (P.elem t)):=by
 simp[Program.elem,ht]
inductive WH(ρ:Nat->Value):Option Operand->Option Int->Prop
 |none:WH ρ ae ae
 |some {x:Operand} {k:IntKind} {i:Int} (h:ev ρ x= .int k i):WH ρ (aa x) (aa i)
def yP{ti:TypeInfo}{A:Option Addr}{len cap:Nat}{lo hi:Option Operand}{a b:Option Int}(ht:P.underlying t=aa (.slice e))(jn:P.info? e=aa ti)(hx:ev ρ x= .slice A len cap)
 (ha:WH ρ lo a)(hb:WH ρ hi b)(h0:0<=a.getD 0)(h1:a.getD 0<=b.getD len)(h2:b.getD len<=len)(hc:len<=cap):
 (execOp (ev ρ) ⟨aa d, .slice t x lo hi ae,ty,pos,aft,ae⟩).run P w= .ok (.value (sliced A (a.getD 0).toNat (b.getD len).toNat cap ti.size)) w:=by
 have Ox:=Tr ht
 have he:P.elem t=e:=by simp[Program.elem,ht]
 cases ha with
 |none=>
  cases hb with
  |none=>
   have:=run_slice_all (P:=P) (w:=w) t A len cap Ox;simp[execOp,hx,run_sliceAt_slice (P:=P) w t _ _ _ _ Ox,this,he,sizeOf,typeInfo,jn]
  |some hh=>
   rename_i xb kb ib;have:=run_slice_h (P:=P) (w:=w) t A len cap Ox kb ib (by simpa using h1) (by grind);simp[execOp,hx,hh,run_sliceAt_slice (P:=P) w t _ _ _ _ Ox,this,he,sizeOf,typeInfo,jn]
 |some hl=>
  rename_i xa ka ia
  cases hb with
  |none=>
   have:=run_slice_l (P:=P) (w:=w) t A len cap Ox ka ia (by simpa using h0) (by simpa using h1);simp[execOp,hx,hl,run_sliceAt_slice (P:=P) w t _ _ _ _ Ox,this,he,sizeOf,typeInfo,jn]
  |some hh=>
   rename_i xb kb ib;have:=run_slice_lh (P:=P) (w:=w) t A len cap Ox ka kb ia ib (by simpa using h0) (by simpa using h1) (by grind);simp[execOp,hx,hl,hh,run_sliceAt_slice (P:=P) w t _ _ _ _ Ox,this,he,sizeOf,typeInfo,jn]
def wU{α:Type}{l m:List α}{a b:Int}(h:gD l a b=aa m):∃p q:Nat,a=p/\b=q/\p<=q/\q<=l.length/\m=(l.take q).drop p:=by
 grind [gD]
end
end
abbrev se:Row:= .int .i64
def Kd:List (Nat×((r:Row)×r.den)):=[(2,⟨.pair se (.pair se (.pair se (.pair se (.pair se (.pair se (.pair se (.pair se (.pair se (.pair se (.pair se se)))))))))),(31,28,31,30,31,30,31,31,30,31,30,31)⟩)]
section
inductive DR where
 |leaf (r:Row)
 |sl (T:TypeId) (d:DR)
 |pair (a b:DR)
@[reducible] def DR.row:DR->Row
  | .leaf r=>r
  | .sl _ d=> .slice d.row
  | .pair a b=> .pair a.row b.row
@[reducible] def DR.low:DR->Row
  | .leaf r=>r
  | .sl _ _=> .mX
  | .pair a b=> .pair a.low b.low
theorem DR.size:(d:DR)->d.low.size=d.row.size
 | .leaf _=>rfl
 | .sl _ _=>rfl
 | .pair a b=>by show a.low.size+b.low.size=a.row.size+b.row.size;rw[a.size,b.size]
inductive jo:DR->DR->Type where
 |here {d:DR}:jo d d
 |fst {a b e:DR} (p:jo a e):jo (.pair a b) e
 |snd {a b e:DR} (p:jo b e):jo (.pair a b) e
def jo.lo:{d e:DR}->jo d e->Path d.low e.low
 |_,_, .here=> .here
 |_,_, .fst p=> .fst p.lo
 |_,_, .snd p=> .snd p.lo
def jo.hi:{d e:DR}->jo d e->Path d.row e.row
 |_,_, .here=> .here
 |_,_, .fst p=> .fst p.hi
 |_,_, .snd p=> .snd p.hi
def DR.path:(d:DR)->List Bool->Option ((e:DR)×jo d e)
 |d,[]=>aa ⟨d, .here⟩
 | .pair a b,c::p=>match c with
   |false=>match a.path p with
    |some ⟨e,q⟩=>aa ⟨e, .fst q⟩
    |none=>ae
   |true=>match b.path p with
    |some ⟨e,q⟩=>aa ⟨e, .snd q⟩
    |none=>ae
 |_,_::_=>ae
def o7(F:Nat->Prop)(w:World)(T:TypeId)(r:Row)(v:Value)(l:List r.den):Prop:=
 ∃xs,qd w 0 T r.size v l.length xs/\∀i(h:i<l.length),eF F w r ((xs.drop (i*r.size)).take r.size) l[i]
structure qR(Ss:Nat->Nat->Prop)(n:Nat)(m:Nat->Prop)(S:Nat->Prop):Prop where
 all:∀k,S k↔m k\/∃i,i<n/\Ss i k
 two:∀i j k,i<n->j<n->i≠j->Ss i k->¬Ss j k
 out:∀i k,i<n->Ss i k->¬m k
structure Ke(A B S:Nat->Prop):Prop where
 all:∀k,S k↔A k\/B k
 off:∀k,A k->¬B k
def Mo{α:Type}(F:Nat->Prop)(w:World)(T:TypeId)(r:Row)(rel:Nat->r.den->α->(Nat->Prop)->Prop)(u:Value)(l:List α)(S:Nat->Prop):Prop:=
 ∃(lh:List r.den)(Ss:Nat->Nat->Prop),o7 F w T r u lh/\lh.length=l.length/\(∀i(h1:i<lh.length)(h2:i<l.length),rel i lh[i] l[i] (Ss i))/\qR Ss l.length (cF u) S
def mZ(F:Nat->Prop)(w:World):(d:DR)->d.low.den->d.row.den->(Nat->Prop)->Prop
 | .leaf _,x',x,S=>x'=x/\∀k,¬S k
 | .sl T d,u,l,S=>Mo F w T d.low (λ_=>mZ F w d) u l S
 | .pair a b,x',x,S=>∃A B,mZ F w a x'.1 x.1 A/\mZ F w b x'.2 x.2 B/\Ke A B S
def qF(F:Nat->Prop)(w:World):{d e:DR}->jo d e->d.low.den->d.row.den->(Nat->Prop)->Prop
 |_,_, .here,_,_,S=>∀k,¬S k
 |_,_, .fst (b:=b) p,x',x,S=>∃A B,qF F w p x'.1 x.1 A/\mZ F w b x'.2 x.2 B/\Ke A B S
 |_,_, .snd (a:=a) p,x',x,S=>∃A B,mZ F w a x'.1 x.1 A/\qF F w p x'.2 x.2 B/\Ke A B S
section
variable {F F':Nat->Prop} {w w':World} {T:TypeId} {S:Nat->Prop}
def o7.keep{r:Row}{v:Value}{l:List r.den}(h:o7 F w T r v l)(hs:Step F w F' w')(hb:∀k,cF v k->w'.heap[k]? =w.heap[k]?):o7 F' w' T r v l:=by
 obtain⟨xs,⟨hx1,Ts⟩,h3⟩:=h;refine⟨xs,⟨hx1,?_⟩,λi hi=>(h3 i hi).step hs⟩
 rcases Ts with h2|⟨gg,o0,cap,cur,rfl,sE,hg,rest⟩
 .exact .inl h2
 .exact .inr ⟨gg,o0,cap,cur,rfl,sE,(hb gg rfl).trans hg,rest⟩
def o7.lt{r:Row}{v:Value}{l:List r.den}(h:o7 F w T r v l):∀k,cF v k->k<w.heap.size:=by
 obtain⟨xs,h,_⟩:=h
 exact λk hk=>(h.lt k hk).2
theorem o7.one{r:Row}{v:Value}{l:List r.den}(h:o7 F w T r v l):v.oneCell'=af:=by
 obtain⟨xs,⟨_,h⟩,_⟩:=h
 rcases h with⟨rfl,_⟩|⟨gg,o0,cap,cur,rfl,_⟩<;>rfl
theorem o7.nil(F:Nat->Prop)(w:World)(T:TypeId)(r:Row):o7 F w T r (.slice ae 0 0) []:=(qa.nil 0 F w T r).2
def Ke.left{A B:Nat->Prop}(h:Ke A B S):∀k,A k->S k:=λk hk=>(h.all k).2 (.inl hk)
def Ke.right{A B:Nat->Prop}(h:Ke A B S):∀k,B k->S k:=λk hk=>(h.all k).2 (.inr hk)
def qR.cF{Ss:Nat->Nat->Prop}{n:Nat}{m:Nat->Prop}(h:qR Ss n m S):∀k,m k->S k:=λk hk=>(h.all k).2 (.inl hk)
def qR.part{Ss:Nat->Nat->Prop}{n:Nat}{m:Nat->Prop}(h:qR Ss n m S){i:Nat}(hi:i<n):∀k,Ss i k->S k:=λk hk=>(h.all k).2 (.inr ⟨i,hi,hk⟩)
def Mo.mono{α:Type}{r:Row}{rel ZA:Nat->r.den->α->(Nat->Prop)->Prop}{u:Value}{l:List α}(h:Mo F w T r rel u l S)(hs:Step F w F' w')(hb:∀k,S k->w'.heap[k]? =w.heap[k]?)
 (hr:∀i x'(hi:i<l.length)A,(∀k,A k->S k)->rel i x' l[i] A->ZA i x' l[i] A):Mo F' w' T r ZA u l S:=by
 obtain⟨lh,Ss,h1,h2,h3,h4⟩:=h;exact⟨lh,Ss,h1.keep hs λk hk=>hb k (h4.cF k hk),h2,λi a b=>hr i _ b _ (h4.part b) (h3 i a b),h4⟩
def mZ.keep(hs:Step F w F' w'):{d:DR}->{x':d.low.den}->{x:d.row.den}->{S:Nat->Prop}->mZ F w d x' x S->(∀k,S k->w'.heap[k]? =w.heap[k]?)->mZ F' w' d x' x S
 | .leaf _,_,_,_,h,_=>h
 | .sl T d,u,l,S,h,hb=>Mo.mono (show Mo F w T d.low _ u l S from h) hs hb λi x' hi A hA hr=>mZ.keep hs hr λk hk=>hb k (hA k hk)
 | .pair a b,_,_,_,h,hb=>by
   obtain⟨A,B,h1,h2,h3⟩:=h;exact⟨A,B,h1.keep hs λk hk=>hb k (h3.left k hk),h2.keep hs λk hk=>hb k (h3.right k hk),h3⟩
def qF.keep(hs:Step F w F' w'):{d e:DR}->{p:jo d e}->{x':d.low.den}->{x:d.row.den}->{S:Nat->Prop}->qF F w p x' x S->(∀k,S k->w'.heap[k]? =w.heap[k]?)->qF F' w' p x' x S
 |_,_, .here,_,_,_,h,_=>h
 |_,_, .fst p,_,_,_,h,hb=>by
  obtain⟨A,B,h1,h2,h3⟩:=h;exact⟨A,B,qF.keep hs h1 λk hk=>hb k (h3.left k hk),h2.keep hs λk hk=>hb k (h3.right k hk),h3⟩
 |_,_, .snd p,_,_,_,h,hb=>by
  obtain⟨A,B,h1,h2,h3⟩:=h;exact⟨A,B,h1.keep hs λk hk=>hb k (h3.left k hk),qF.keep hs h2 λk hk=>hb k (h3.right k hk),h3⟩
def mZ.lt:{d:DR}->{x':d.low.den}->{x:d.row.den}->{S:Nat->Prop}->mZ F w d x' x S->∀k,S k->k<w.heap.size
 | .leaf _,_,_,_,h,k,hk=>absurd hk (h.2 k)
 | .sl T d,u,l,S,h,k,hk=>by
   obtain⟨lh,Ss,h1,h2,h3,h4⟩:=h
   rcases(h4.all k).1 hk with hm|⟨i,hi,hm⟩
   .exact h1.lt k hm
   .exact mZ.lt (h3 i (by omega) hi) k hm
 | .pair a b,_,_,_,h,k,hk=>by
   obtain⟨A,B,h1,h2,h3⟩:=h
   rcases(h3.all k).1 hk with hm|hm
   .exact mZ.lt h1 k hm
   .exact mZ.lt h2 k hm
def mZ.freeze:{d:DR}->{cs:List Value}->{x':d.low.den}->{x:d.row.den}->{S:Nat->Prop}->mZ F w d x' x S->(∀k,S k->¬F k)->eF F w d.low cs x'->eF (λb=>F b\/S b) w d.row cs x
 | .leaf _,_,_,_,S,h,_,hr=>by
   obtain⟨rfl,_⟩:=h
   simp_all
 | .sl T d,cs,u,l,S,h,hn,hr=>by
   obtain⟨lh,Ss,⟨xs,hx,VL⟩,h2,h3,h4⟩:=h;obtain⟨rfl,_⟩:=hr
   have ET:qa 0 (λb=>F b\/∃i,i<l.length/\Ss i b) w T d.row u l:=by
    refine⟨λk hk hF=>?_,xs,?_,λi hi=>?_⟩
    .rcases hF with hF|⟨i,hi,hm⟩
     .exact hn k (h4.cF k hk) hF
     .exact h4.out i k hi hm hk
    .rw[<-d.size,<-h2];exact hx
    .have jn:i<lh.length:=by omega
     have:=mZ.freeze (h3 i jn hi) (λk hk=>hn k (h4.part hi k hk)) (VL i jn);rw[<-d.size]
     exact this.step λb hb=>(by grind)
   exact ET.freeze.step (r:= .slice d.row) λb hb=>⟨by
    rcases hb with(hb|⟨i,hi,hb⟩)|hb
    .exact .inl hb
    .exact .inr (h4.part hi b hb)
    .exact .inr (h4.cF b hb),rfl⟩
 | .pair a b,_,_,_,S,h,hn,hr=>by
   obtain⟨A,B,h1,h2,h3⟩:=h;obtain⟨c1,c2,rfl,r1,r2⟩:=hr;exact⟨c1,c2,rfl,(mZ.freeze h1 (λk hk=>hn k (h3.left k hk)) r1).step λb hb=>⟨hb.imp id (h3.left b),rfl⟩,(mZ.freeze h2 (λk hk=>hn k (h3.right k hk)) r2).step λb hb=>⟨hb.imp id (h3.right b),rfl⟩⟩
def mZ.out:{d e:DR}->(p:jo d e)->{x':d.low.den}->{x:d.row.den}->{S:Nat->Prop}->mZ F w d x' x S->∃A B,mZ F w e (p.lo.get x') (p.hi.get x) A/\qF F w p x' x B/\Ke A B S
 |_,_, .here,_,_,S,h=>⟨S,λ_=>False,h,λ_ h=>h,⟨λk=>by simp,λ_ _ h=>h⟩⟩
 |_,_, .fst p,_,_,S,h=>by
  obtain⟨A,B,h1,h2,h3⟩:=h;obtain⟨A1,A2,g1,g2,g3⟩:=mZ.out p h1;refine⟨A1,λk=>A2 k\/B k,g1,⟨A2,B,g2,h2,λk=>Iff.rfl,λk hk=>h3.off k (g3.right k hk)⟩,λk=>?_,λk hk hh=>?_⟩
  .rw[h3.all,g3.all,or_assoc]
  .exact hh.elim (g3.off k hk) (h3.off k (g3.left k hk))
 |_,_, .snd p,_,_,S,h=>by
  obtain⟨A,B,h1,h2,h3⟩:=h;obtain⟨B1,B2,g1,g2,g3⟩:=mZ.out p h2;refine⟨B1,λk=>A k\/B2 k,g1,⟨A,B2,h1,g2,λk=>Iff.rfl,λk hk hh=>h3.off k hk (g3.right k hh)⟩,λk=>?_,λk hk hh=>?_⟩
  .rw[h3.all,g3.all];grind
  .exact hh.elim (λhh=>h3.off k hh (g3.left k hk)) (g3.off k hk)
def qF.put:{d e:DR}->(p:jo d e)->{x':d.low.den}->{x:d.row.den}->{y':e.low.den}->{y:e.row.den}->{A B S:Nat->Prop}->qF F w p x' x B->mZ F w e y' y A->Ke A B S->mZ F w d (p.lo.set x' y') (p.hi.set x y) S
 |_,_, .here,_,_,y',y,A,B,S,h,hy,h3=>by
  have:A=S:=by
   funext k;exact propext ⟨λhk=>h3.left k hk,λhk=>((h3.all k).1 hk).elim id λhb=>absurd hb (h k)⟩
  subst this;exact hy
 |_,_, .fst p,x',x,y',y,A,B,S,h,hy,h3=>by
  obtain⟨A2,B2,g1,g2,g3⟩:=h
  have t1:Ke A A2 (λk=>A k\/A2 k):=⟨λ_=>Iff.rfl,λk hk h2=>h3.off k hk (g3.left k h2)⟩
  refine⟨λk=>A k\/A2 k,B2,qF.put p g1 hy t1,g2,λk=>?_,λk hk h2=>?_⟩
  .rw[h3.all,g3.all,or_assoc]
  .exact hk.elim (λhk=>h3.off k hk (g3.right k h2)) λhk=>g3.off k hk h2
 |_,_, .snd p,x',x,y',y,A,B,S,h,hy,h3=>by
  obtain⟨A2,B2,g1,g2,g3⟩:=h
  have t1:Ke A B2 (λk=>A k\/B2 k):=⟨λ_=>Iff.rfl,λk hk h2=>h3.off k hk (g3.right k h2)⟩
  refine⟨A2,λk=>A k\/B2 k,g1,qF.put p g2 hy t1,λk=>?_,λk hk h2=>?_⟩
  .rw[h3.all,g3.all];grind
  .exact h2.elim (λh2=>h3.off k h2 (g3.left k hk)) λh2=>g3.off k hk h2
end
end
section
inductive Tree where
 |leaf (r:Row) (x:r.den)
 |own (o:Nat)
 |nil
 |pair (a b:Tree)
 |view (o s:Nat) (r:Row) (m:List r.den)
 |junk (n:Nat)
structure zo where
 i:Int
 p:List Bool
 o:Nat
 s:Nat
inductive Th where
 |box (T:TypeId) (t:Tree)
 |own (T:TypeId) (r:Row) (l:List r.den)
 |yx (T:TypeId) (r:Row) (l:List r.den)
 |map (T:TypeId) (K:Row) (agg:Bool) (V:Row) (l:List (K.den×V.den))
 |fmap (T:TypeId) (K:Row) (agg:Bool) (V:Row) (l:List (K.den×V.den))
 |deep (T:TypeId) (d:DR) (l:List d.row.den) (h:Option zo)
 |fdeep (T:TypeId) (d:DR) (l:List d.row.den)
 |dmap (T:TypeId) (K:Row) (E:TypeId) (r:Row) (l:List (K.den×List r.den)) (h:Option (K.den×Nat))
 |fdmap (T:TypeId) (K:Row) (E:TypeId) (r:Row) (l:List (K.den×List r.den))
def Th.base:Th->Th
 | .yx T r l=> .own T r l
 | .fmap T K agg V l=> .map T K agg V l
 | .fdeep T d l=> .deep T d l ae
 | .fdmap T K E r l=> .dmap T K E r l ae
 |t=>t
inductive aN where
 |dead
 |undef
 |val (agg:Bool) (t:Tree)
 |ptr (o:Nat) (p:List Bool) (off:Nat)
 |at (r:Row) (x:r.den)
 |elem (o s:Nat) (r:Row) (i:Int) (x:r.den) (p:List Bool) (off:Nat)
 |tup (ds:List (Bool×Tree))
 |dlm (o:Nat) (d:DR) (i:Int) (p:List Bool) (off:Nat)
 |fn (f:FuncId) (caps:List (Nat×List Bool×Nat))
 |ifc (T:TypeId) (d:aN)
structure aW where
 val:Nat->Option Value
 con:Nat->Option Th
 sub:Nat->Nat->Prop
structure aW.le(H H':aW):Prop where
 val:∀o v,H.val o=aa v->H'.val o=aa v
 con:∀s t,H.con s=aa t->H'.con s=aa t
 sub:∀s t,H.con s=aa t->H'.sub s=H.sub s
def aW.le.refl(H:aW):H.le H:=⟨λ_ _ h=>h,λ_ _ h=>h,λ_ _ _=>rfl⟩
def aW.le.trans{H H' wV:aW}(h:H.le H')(k:H'.le wV):H.le wV:=⟨λo v e=>k.val o v (h.val o v e),λo v e=>k.con o v (h.con o v e),λs t e=>(k.sub s t (h.con s t e)).trans (h.sub s t e)⟩
def o8(H:aW)(o s:Nat)(r:Row)(m:List r.den)(v:Value):Prop:=
 ∃A cap T,∃l:List r.den,∃a b,H.val o=aa (.slice A l.length cap)/\H.con s=aa (.own T r l)/\a<=b/\b<=l.length/\m=(l.take b).drop a/\v=sliced A a b cap r.size
def o8.keep{H H':aW}(hH:H.le H'){o s:Nat}{r:Row}{m:List r.den}{v:Value}(h:o8 H o s r m v):o8 H' o s r m v:=by
 obtain⟨A,cap,T,l,a,b,h1,h2,h3⟩:=h;exact⟨A,cap,T,l,a,b,hH.val _ _ h1,hH.con _ _ h2,h3⟩
def o8.back{H H' wV:aW}(hH:H.le H')(Ik:H.le wV){o s:Nat}{r:Row}{m:List r.den}{v0 v:Value}(h0:o8 H o s r m v0)(h:o8 H' o s r m v):o8 wV o s r m v:=by
 obtain⟨A,cap,T,l,a,b,h1,h2,_⟩:=h0;obtain⟨A',Pd,T',l',a',b',k1,k2,k3⟩:=h;have e1:=hH.val _ _ h1;have e2:=hH.con _ _ h2;rw[k1]at e1;rw[k2]at e2;simp only[aq1,Th.own.injEq,heq_eq_eq,true_and]at e2;obtain⟨rfl,rfl⟩:=e2;exact⟨A',Pd,T',l',a',b',by rw[e1];exact Ik.val _ _ h1,Ik.con _ _ h2,k3⟩
theorem o8.one{H:aW}{o s:Nat}{r:Row}{m:List r.den}{v:Value}(h:o8 H o s r m v):v.oneCell'=af:=by
 obtain⟨A,cap,T,l,a,b,_,_,_,_,_,rfl⟩:=h;simp[sliced,ar2]
def nY(H:aW):List (Nat×List Bool×Nat)->List Value->Prop
 |[],vs=>vs=[]
 |c::cs,vs=>∃v us,vs=v::us/\(∃b,H.val c.1=aa (.pointer (aa ⟨b,0,ae⟩))/\v= .pointer (aa ⟨b,c.2.2,ae⟩))/\nY H cs us
def nY.keep{H H':aW}(hH:∀o v,H.val o=aa v->H'.val o=aa v):{cs:List (Nat×List Bool×Nat)}->{vs:List Value}->nY H cs vs->nY H' cs vs
 |[],_,h=>h
 |_::_,_,h=>by obtain⟨v,us,e,⟨b,h1,h2⟩,h3⟩:=h;exact⟨v,us,e,⟨b,hH _ _ h1,h2⟩,h3.keep hH⟩
def Holds(H:aW)(F:Nat->Prop)(w:World):Tree->List Value->Prop
 | .leaf r x,cs=>eF F w r cs x
 | .own o,cs=>∃v,H.val o=aa v/\v.oneCell'=af/\cs=[v]
 | .nil,cs=>cs=[.slice ae 0 0]
 | .pair a b,cs=>∃c1 c2,cs=c1++c2/\Holds H F w a c1/\Holds H F w b c2
 | .view o s r m,cs=>∃v,cs=[v]/\o8 H o s r m v
 | .junk n,cs=>cs.length=n/\∀u∈cs,u.oneCell'=af
def Tree.size:Tree->Nat
 | .leaf r _=>r.size
 | .own _=>1
 | .nil=>1
 | .pair a b=>a.size+b.size
 | .view .. =>1
 | .junk n=>n
def bB(H:aW)(F:Nat->Prop)(w:World)(agg:Bool)(t:Tree)(v:Value):Prop:=
 ∃cs,Holds H F w t cs/\v=(bif agg then .agg cs.toArray else cs.headD undef)/\(agg=ah->cs=[v])
def vG(H:aW)(F:Nat->Prop)(w:World):List (Bool×Tree)->List Value->Prop
 |[],vs=>vs=[]
 |d::ds,vs=>∃v us,vs=v::us/\bB H F w d.1 d.2 v/\vG H F w ds us
def aO(H:aW)(F:Nat->Prop)(w:World):aN->Value->Prop
 | .dead,_=>True
 | .undef,v=>v=Go.undef
 | .val agg t,v=>bB H F w agg t v
 | .ptr o _ off,v=>∃b,H.val o=aa (.pointer (aa ⟨b,0,ae⟩))/\v= .pointer (aa ⟨b,off,ae⟩)
 | .at r x,v=>∃b off,v= .pointer (aa ⟨b,off,ae⟩)/\F b/\At F w r b off x
 | .elem o s r i x _ off,v=>∃g o0 q T m cap l,H.val o=aa (.slice (aa ⟨g,o0,ae⟩) m cap)/\i=(q:Nat)/\H.con s=aa (.own T r l)/\idx l i=aa x/\v= .pointer (aa ⟨g,o0+q*r.size+off,ae⟩)
 | .tup ds,v=>∃vs,v= .tuple vs.toArray/\vG H F w ds vs
 | .dlm o d i _ off,v=>∃g o0 q m cap,H.val o=aa (.slice (aa ⟨g,o0,ae⟩) m cap)/\i=(q:Nat)/\v= .pointer (aa ⟨g,o0+q*d.low.size+off,ae⟩)
 | .fn f caps,v=>∃vs,v= .func (.func f) #[] vs.toArray/\nY H caps vs
 | .ifc T d,v=>∃u,v= .iface T u/\aO H F w d u
section
variable {H H':aW} {F F':Nat->Prop} {w w':World}
theorem Holds.length:{t:Tree}->{cs:List Value}->Holds H F w t cs->cs.length=t.size
 | .leaf _ _,_,h=>eF.length h
 | .own _,_,h=>by obtain⟨v,_,_,rfl⟩:=h;rfl
 | .nil,_,h=>by rw[show _=_ from h];rfl
 | .pair a b,_,h=>by obtain⟨c1,c2,rfl,h1,h2⟩:=h;simp[h1.length,h2.length,Tree.size]
 | .view ..,_,h=>by obtain⟨v,rfl,_⟩:=h;rfl
 | .junk _,_,h=>h.1
def Holds.mw:{t:Tree}->{cs:List Value}->Holds H F w t cs->∀u∈cs,u.oneCell'=af
 | .leaf _ _,_,h=>eF.mw h
 | .own _,_,h=>by obtain⟨v,_,h1,rfl⟩:=h;simpa using h1
 | .nil,_,h=>by rw[show _=_ from h];simp[ar2]
 | .pair a b,_,h=>by
   obtain⟨c1,c2,rfl,h1,h2⟩:=h;intro u hu
   rcases aq7.1 hu with h'|h'
   .exact h1.mw u h'
   .exact h2.mw u h'
 | .view ..,_,h=>by obtain⟨v,rfl,h⟩:=h;simpa using h.one
 | .junk _,_,h=>h.2
def Holds.keep(hH:H.le H')(hs:Step F w F' w'):{t:Tree}->{cs:List Value}->Holds H F w t cs->Holds H' F' w' t cs
 | .leaf _ _,_,h=>eF.step hs h
 | .own _,_,h=>by obtain⟨v,h0,h1,rfl⟩:=h;exact⟨v,hH.val _ _ h0,h1,rfl⟩
 | .nil,_,h=>h
 | .pair a b,_,h=>by obtain⟨c1,c2,rfl,h1,h2⟩:=h;exact⟨c1,c2,rfl,h1.keep hH hs,h2.keep hH hs⟩
 | .view ..,_,h=>by obtain⟨v,rfl,h⟩:=h;exact⟨v,rfl,h.keep hH⟩
 | .junk _,_,h=>h
def Holds.back{wV:aW}{w0:World}{F0:Nat->Prop}(hH:H.le H')(Ik:H.le wV):{t:Tree}->{cs0 cs:List Value}->Holds H F0 w0 t cs0->Holds H' F w t cs->Holds wV F w t cs
 | .leaf _ _,_,_,_,h=>h
 | .own _,_,_,h0,h=>by
   obtain⟨v,a0,_,_⟩:=h0;obtain⟨u,b0,b1,rfl⟩:=h;have:=hH.val _ _ a0;rw[b0]at this;obtain rfl:=aqL this;exact⟨u,Ik.val _ _ a0,b1,rfl⟩
 | .nil,_,_,_,h=>h
 | .pair a b,_,_,h0,h=>by
   obtain⟨_,_,_,a1,a2⟩:=h0;obtain⟨c1,c2,rfl,h1,h2⟩:=h;exact⟨c1,c2,rfl,Holds.back (w0:=w0) (F0:=F0) hH Ik a1 h1,Holds.back (w0:=w0) (F0:=F0) hH Ik a2 h2⟩
 | .view ..,_,_,h0,h=>by
   obtain⟨_,_,h0⟩:=h0;obtain⟨v,rfl,h⟩:=h;exact⟨v,rfl,h0.back hH Ik h⟩
 | .junk _,_,_,_,h=>h
def bB.keep{agg:Bool}{t:Tree}{v:Value}(hH:H.le H')(hs:Step F w F' w')(h:bB H F w agg t v):bB H' F' w' agg t v:=by
 obtain⟨cs,h1,h2⟩:=h;exact⟨cs,h1.keep hH hs,h2⟩
def vG.keep(hH:H.le H')(hs:Step F w F' w'):{ds:List (Bool×Tree)}->{vs:List Value}->vG H F w ds vs->vG H' F' w' ds vs
 |[],_,h=>h
 |_::_,_,h=>by obtain⟨v,us,rfl,h1,h2⟩:=h;exact⟨v,us,rfl,h1.keep hH hs,h2.keep hH hs⟩
def At.keep{r:Row}{b off:Nat}{x:r.den}(hs:Step F w F' w')(hb:F b)(h:At F w r b off x):At F' w' r b off x:=by
 obtain⟨es,hl,hc,hr⟩:=h;exact⟨es,hl,λj u hu=>(World.cell?_of_block (hs b hb).2).trans (hc j u hu),hr.step hs⟩
def aO.keep(hH:H.le H')(hs:Step F w F' w'):{d:aN}->{v:Value}->aO H F w d v->aO H' F' w' d v
 | .dead,_,_=>trivial
 | .undef,_,h=>h
 | .val _ _,_,h=>bB.keep hH hs h
 | .ptr _ _ _,_,h=>by obtain⟨b,h1,h2⟩:=h;exact⟨b,hH.val _ _ h1,h2⟩
 | .at _ _,_,h=>by obtain⟨b,off,h1,h2,h3⟩:=h;exact⟨b,off,h1,(hs b h2).1,h3.keep hs h2⟩
 | .elem ..,_,h=>by obtain⟨g,o0,q,T,m,cap,l,h1,h2,h3,h4⟩:=h;exact⟨g,o0,q,T,m,cap,l,hH.val _ _ h1,h2,hH.con _ _ h3,h4⟩
 | .tup _,_,h=>by obtain⟨vs,h1,h2⟩:=h;exact⟨vs,h1,h2.keep hH hs⟩
 | .dlm ..,_,h=>by obtain⟨g,o0,q,m,cap,h1,h2,h3⟩:=h;exact⟨g,o0,q,m,cap,hH.val _ _ h1,h2,h3⟩
 | .fn ..,_,h=>by obtain⟨vs,h1,h2⟩:=h;exact⟨vs,h1,h2.keep hH.val⟩
 | .ifc _ d,_,h=>by obtain⟨u,h1,h2⟩:=h;exact⟨u,h1,aO.keep hH hs (d:=d) h2⟩
def find{α:Type}:List (Nat×α)->Nat->Option α
 |[],_=>ae
 |(m,a)::l,n=>bif aqU m n then aa a else find l n
def del{α:Type}(ns:List Nat):List (Nat×α)->List (Nat×α)
 |[]=>[]
 |(m,a)::l=>bif ns.any (aqU m)then del ns l else(m,a)::del ns l
theorem bA{α:Type}{m:Nat}{a:α}{l:List (Nat×α)}{n:Nat}:find ((m,a)::l) n=if m=n then aa a else find l n:=by
 show(bif aqU m n then aa a else find l n)=_
 simp_all
def kH{α:Type}{l l':List (Nat×α)}{n:Nat}:find (l++l') n=(find l n).or (find l' n):=by
 induction l with
 |nil=>rfl
 |cons p l ih=>
  grind [bA]
theorem any_beq{ns:List Nat}{m:Nat}:ns.any (aqU m)=af↔m∈ns:=by
 simp_all
theorem kI{α:Type}{ns:List Nat}{l:List (Nat×α)}{n:Nat}{a:α}:find (del ns l) n=aa a↔n∉ns/\find l n=aa a:=by
 induction l with
 |nil=>simp[del,find]
 |cons p l ih=>
  grind [del,any_beq,bA]
def uX(F:Nat->Prop)(w:World):Prop:=∀g d,find Kd g=aa d->F g/\At F w d.1 g 0 d.2
def uX.step{F F':Nat->Prop}{w w':World}(h:uX F w)(hs:Step F w F' w'):uX F' w':=λg d hg=>⟨(hs g (h g d hg).1).1,(h g d hg).2.keep hs (h g d hg).1⟩
def uz(H:aW)(F:Nat->Prop)(w:World)(K:Row)(agg:Bool)(V:Row):List MapEntry->List (K.den×V.den)->Prop
 |[],l=>l=[]
 |e::es,l=>∃k x l',l=(k,x)::l'/\L1 K k=aa e.key/\bB H F w agg (.leaf V x) e.val/\uz H F w K agg V es l'
def uz.keep{H H':aW}{F F':Nat->Prop}{w w':World}(hH:H.le H')(hs:Step F w F' w'){K:Row}{agg:Bool}{V:Row}:{es:List MapEntry}->{l:List (K.den×V.den)}->uz H F w K agg V es l->uz H' F' w' K agg V es l
 |[],_,h=>h
 |_::_,_,h=>by obtain⟨k,x,l',e,h1,h2,h3⟩:=h;exact⟨k,x,l',e,h1,h2.keep hH hs,uz.keep hH hs h3⟩
def uz.mi{H H':aW}{F:Nat->Prop}{w:World}{K:Row}{agg:Bool}{V:Row}:{es:List MapEntry}->{l:List (K.den×V.den)}->uz H F w K agg V es l->uz H' F w K agg V es l
 |[],_,h=>h
 |_::_,_,h=>by
  obtain⟨k,x,l',e,h1,⟨cs,h2,SP⟩,h3⟩:=h;exact⟨k,x,l',e,h1,⟨cs,h2,SP⟩,uz.mi h3⟩
noncomputable def VM:(K:Row)->K.den->K.den->Bool
 | .int _,a,b=>decide ((a:Int)=b)
 | .bool,a,b=>decide ((a:Bool)=b)
 | .str,a,b=>decide ((a:ByteArray)=b)
 |_,_,_=>ah
def Mp(F:Nat->Prop)(w:World)(E:TypeId)(r:Row)(v:Value)(y:List r.den)(A:Nat->Prop):Prop:=o7 F w E r v y/\∀k,A k↔cF v k
def sf(H:aW)(F:Nat->Prop)(w:World)(K:Row)(E:TypeId)(r:Row):Option (K.den×Nat)->List MapEntry->List (K.den×List r.den)->(Nat->Prop)->Prop
 |_,[],l,S=>l=[]/\∀k,¬S k
 |none,e::es,l,S=>∃k y l' A B,l=(k,y)::l'/\L1 K k=aa e.key/\Mp F w E r e.val y A/\sf H F w K E r ae es l' B/\Ke A B S
 |some (a,o),e::es,l,S=>∃k y l' A B,l=(k,y)::l'/\L1 K k=aa e.key/\((VM K k a=af/\H.val o=aa e.val/\(∀j,¬A j)/\sf H F w K E r ae es l' B)\/(VM K k a=ah/\Mp F w E r e.val y A/\sf H F w K E r (aa (a,o)) es l' B))/\Ke A B S
def Mp.keep{F F':Nat->Prop}{w w':World}{E:TypeId}{r:Row}{v:Value}{y:List r.den}{A:Nat->Prop}(h:Mp F w E r v y A)(hs:Step F w F' w')(hb:∀k,A k->w'.heap[k]? =w.heap[k]?):Mp F' w' E r v y A:=
 ⟨h.1.keep hs λk hk=>hb k ((h.2 k).2 hk),h.2⟩
def sf.keep{H H':aW}{F F':Nat->Prop}{w w':World}{K:Row}{E:TypeId}{r:Row}(hs:Step F w F' w'):{h:Option (K.den×Nat)}->{es:List MapEntry}->{l:List (K.den×List r.den)}->{S:Nat->Prop}->(∀a o u,h=aa (a,o)->H.val o=aa u->H'.val o=aa u)->sf H F w K E r h es l S->(∀k,S k->w'.heap[k]? =w.heap[k]?)->sf H' F' w' K E r h es l S
 |none,[],_,_,_,h,_=>h
 |some _,[],_,_,_,h,_=>h
 |none,_::_,_,_,hH,h,hb=>by
  obtain⟨k,y,l',A,B,e,h1,h2,h3,h4⟩:=h;exact⟨k,y,l',A,B,e,h1,h2.keep hs λk hk=>hb k (h4.left k hk),h3.keep hs (λ_ _ _ e=>by cases e) λk hk=>hb k (h4.right k hk),h4⟩
 |some (a,o),_::_,_,_,hH,h,hb=>by
  obtain⟨k,y,l',A,B,e,h1,h2,h4⟩:=h;refine⟨k,y,l',A,B,e,h1,?_,h4⟩
  rcases h2 with⟨g1,g2,g3,g4⟩|⟨g1,g2,g3⟩
  .exact .inl ⟨g1,hH _ _ _ rfl g2,g3,g4.keep hs (λ_ _ _ e=>by cases e) λk hk=>hb k (h4.right k hk)⟩
  .exact .inr ⟨g1,g2.keep hs λk hk=>hb k (h4.left k hk),g3.keep hs hH λk hk=>hb k (h4.right k hk)⟩
def rC(H:aW)(F:Nat->Prop)(w:World)(d:DR)(h:Option zo)(i:Nat)(x':d.low.den)(x:d.row.den)(S:Nat->Prop):Prop:=
 match h with
 |none=>mZ F w d x' x S
 |some h=>(h.i≠(i:Int)->mZ F w d x' x S)/\(h.i=(i:Int)->∃T' e,∃q:jo d (.sl T' e),d.path h.p=aa ⟨_,q⟩/\qF F w q x' x S/\H.val h.o=aa (q.lo.get x'))
def rC.keep{H H':aW}{F F':Nat->Prop}{w w':World}{d:DR}{h:Option zo}{i:Nat}{x':d.low.den}{x:d.row.den}{S:Nat->Prop}(hr:rC H F w d h i x' x S)(hH:H.le H')(hs:Step F w F' w')(hb:∀k,S k->w'.heap[k]? =w.heap[k]?):rC H' F' w' d h i x' x S:=by
 cases h with
 |none=>exact mZ.keep hs hr hb
 |some h=>
  refine⟨λhi=>(hr.1 hi).keep hs hb,λhi=>?_⟩;obtain⟨T',e,q,h1,h2,h3⟩:=hr.2 hi;exact⟨T',e,q,h1,h2.keep hs hb,hH.val _ _ h3⟩
def fp(S:Nat->Prop)(v:Value):Th->Nat->Prop
 | .box ..,k=>v= .pointer (aa ⟨k,0,ae⟩)
 | .own ..,k=>cF v k
 | .yx ..,_=>False
 | .map ..,k=>v= .map (aa k)
 | .fmap ..,_=>False
 | .deep ..,k=>S k
 | .fdeep ..,_=>False
 | .dmap ..,k=>S k
 | .fdmap ..,_=>False
def mJ(H:aW)(F:Nat->Prop)(w:World)(S:Nat->Prop)(v:Value):Th->Prop
 | .box T t=>∃b es,v= .pointer (aa ⟨b,0,ae⟩)/\w.heap[b]? =aa (.cells es.toArray T (0,0))/\Holds H F w t es
 | .own T r l=>∃xs,qd w 0 T r.size v l.length xs/\∀i(h:i<l.length),eF F w r ((xs.drop (i*r.size)).take r.size) l[i]
 | .yx _ r l=>eF F w (.slice r) [v] l
 | .fmap _ K agg V l=>eF F w (.map K agg V) [v] l
 | .map _ K agg V l=>∃b es clock,v= .map (aa b)/\w.heap[b]? =aa (.map es clock)/\MapKept.Stamped es clock/\uz H F w K agg V es.toList l
 | .deep T d l h=>Mo F w T d.low (rC H F w d h) v l S
 | .fdeep _ d l=>eF F w (.slice d.row) [v] l
 | .dmap _ K E r l h=>∃b es clock B,v= .map (aa b)/\w.heap[b]? =aa (.map es clock)/\MapKept.Stamped es clock/\sf H F w K E r h es.toList l B/\Ke (is b) B S/\∀a o,h=aa (a,o)->∃u,H.val o=aa u
 | .fdmap _ K _ r l=>eF F w (.map K ah (.slice r)) [v] l
structure Mq(U:Nat->Prop)(H:aW)(F:Nat->Prop)(w:World)(v:Value)(s:Nat)(t:Th):Prop where
 one:v.oneCell'=af
 con:H.con s=aa t.base
 ok:mJ H F w (H.sub s) v t
 no:∀k,fp (H.sub s) v t k->¬F k
 lt:∀k,fp (H.sub s) v t k->k<w.heap.size
 use:∀k,fp (H.sub s) v t k->U k
structure aX(U:Nat->Prop)(H:aW)(F:Nat->Prop)(w:World)(ob:Nat->Option (Nat×Th))(n:Nat):Prop where
 obj:∀o s t,ob o=aa (s,t)->∃v,H.val o=aa v/\Mq U H F w v s t
 apart:∀o o' s s' t t' v v',o≠o'->ob o=aa (s,t)->ob o'=aa (s',t')->H.val o=aa v->H.val o'=aa v'->∀k,fp (H.sub s) v t k->¬fp (H.sub s') v' t' k
 fresh:∀m,n<=m->m<n+16->H.val m=ae/\H.con m=ae
 lt:∀b,F b->b<w.heap.size
 new:∀b,w.heap.size<=b->U b
 gl:uX F w
def mJ.heap{S:Nat->Prop}{v:Value}{t:Th}(h:mJ H F w S v t)(hH:H.le H')(hs:Step F w F' w')(hb:∀k,fp S v t k->w'.heap[k]? =w.heap[k]?):mJ H' F' w' S v t:=by
 cases t with
 |box T t=>
  obtain⟨b,es,rfl,h1,h2⟩:=h;exact⟨b,es,rfl,(hb b rfl).trans h1,h2.keep hH hs⟩
 |own T r l=>
  obtain⟨xs,⟨hx1,Ts⟩,h3⟩:=h;refine⟨xs,⟨hx1,?_⟩,λi hi=>(h3 i hi).step hs⟩
  rcases Ts with h2|⟨gg,o0,cap,cur,rfl,sE,hg,rest⟩
  .exact .inl h2
  .exact .inr ⟨gg,o0,cap,cur,rfl,sE,(hb gg rfl).trans hg,rest⟩
 |yx T r l=>exact eF.step (r:= .slice r) hs h
 |fmap T K agg V l=>exact eF.step (r:= .map K agg V) hs h
 |fdeep T d l=>exact eF.step (r:= .slice d.row) hs h
 |deep T d l hh=>exact Mo.mono (show Mo F w T d.low _ v l S from h) hs hb λi x' hi A hA hr=>hr.keep hH hs λk hk=>hb k (hA k hk)
 |map T K agg V l=>
  obtain⟨b,es,clock,rfl,h1,h2,h3⟩:=h;exact⟨b,es,clock,rfl,(hb b rfl).trans h1,h2,h3.keep hH hs⟩
 |fdmap T K E r l=>exact eF.step (r:= .map K ah (.slice r)) hs h
 |dmap T K E r l hh=>
  obtain⟨b,es,clock,B,rfl,h1,h2,h3,h4,h5⟩:=h;exact⟨b,es,clock,B,rfl,(hb b (h4.left b rfl)).trans h1,h2,h3.keep hs (λa o u _ hu=>hH.val _ _ hu) λk hk=>hb k (h4.right k hk),h4,λa o e=>(h5 a o e).imp λu hu=>hH.val _ _ hu⟩
def qa.to{v:Value}{T:TypeId}{r:Row}{l:List r.den}(S:Nat->Prop)(h:qa 0 F w T r v l):mJ H F w S v (.own T r l):=h.2
end
structure State where
 aK:List (Nat×aN)
 objs:List (Nat×(Nat×Th))
 nxt:Nat
def lT(H:aW)(n:Nat):Prop:=∀m,n<=m->H.val m=ae/\H.con m=ae
structure Sat(U:Nat->Prop)(H:aW)(F:Nat->Prop)(w:World)(ρ:Nat->Value)(st:State):Prop where
 slot:∀t d,find st.aK t=aa d->aO H F w d (ρ t)
 ob:aX U H F w (find st.objs) st.nxt
 all:lT H st.nxt
structure gY where
 dst:aN
 eat:List Nat:=[]
 make:List (Nat×(Nat×Th)):=[]
def State.apply(st:State)(d:Option Nat)(e:gY):State:=
 {aK:=(match d with|some d=>(d,e.dst)::st.aK|none=>st.aK),objs:=e.make++del e.eat st.objs,nxt:=st.nxt+16}
def dH(H:aW)(ob:Nat->Option (Nat×Th))(eat:List Nat)(k:Nat):Prop:=∃o∈eat,∃s t v,ob o=aa (s,t)/\H.val o=aa v/\fp (H.sub s) v t k
structure SQ(H:aW)(F:Nat->Prop)(w:World)(H':aW)(F':Nat->Prop)(w':World)(g:Nat->Prop):Prop where
 mi:H.le H'
 ext:Ext g w w'
 le:∀b,F b->F' b
 grow:∀b,F' b->F b\/w.heap.size<=b\/g b
 lt:∀b,F' b->b<w'.heap.size
structure Made(H':aW)(F':Nat->Prop)(w w':World)(g:Nat->Prop)(make:List (Nat×(Nat×Th))):Prop where
 obj:∀o s t,find make o=aa (s,t)->∃v,H'.val o=aa v/\v.oneCell'=af/\H'.con s=aa t.base/\mJ H' F' w' (H'.sub s) v t/\∀k,fp (H'.sub s) v t k->¬F' k/\k<w'.heap.size/\(w.heap.size<=k\/g k)
 apart:∀o o' s s' t t' v v',o≠o'->find make o=aa (s,t)->find make o'=aa (s',t')->H'.val o=aa v->H'.val o'=aa v'->∀k,fp (H'.sub s) v t k->¬fp (H'.sub s') v' t' k
structure qG(H:aW)(F:Nat->Prop)(w:World)(ob:Nat->Option (Nat×Th))(n:Nat)(e:gY)(v:Value)(w':World)(H':aW)(F':Nat->Prop):Prop where
 o9:SQ H F w H' F' w' (dH H ob e.eat)
 fresh:∀m,(m<n\/n+16<=m)->(H.val m=ae->H'.val m=ae)/\(H.con m=ae->H'.con m=ae)
 dst:aO H' F' w' e.dst v
 made:Made H' F' w w' (dH H ob e.eat) e.make
 ids:∀o,(find e.make o).isSome->o∈e.eat\/n<=o
def ph(H:aW)(F:Nat->Prop)(w:World)(ob:Nat->Option (Nat×Th))(n:Nat)(e:gY)(v:Value)(w':World):Prop:=∃H' F',qG H F w ob n e v w' H' F'
def yy(ρ:Nat->Value):Option Nat->Value->Nat->Value
 |some d,v=>Ih ρ d v
 |none,_=>ρ
theorem sH(ρ:Nat->Value)(d:Nat)(v:Value)(t:Nat):Ih ρ d v t=if t=d then v else ρ t:=by
 unfold Ih
 simp_all
section
variable {U:Nat->Prop} {H H':aW} {F F':Nat->Prop} {w w':World} {ρ:Nat->Value} {st:State}
def SQ.step{g:Nat->Prop}(h:SQ H F w H' F' w' g)(hF:∀b,F b->b<w.heap.size)(hg:∀k,g k->¬F k):Step F w F' w':=
 λb hb=>⟨h.le b hb,h.ext.block b (hF b hb) λe=>hg b e hb⟩
def aX.kJ{ob:Nat->Option (Nat×Th)}{n:Nat}(h:aX U H F w ob n){eat:List Nat}:∀k,dH H ob eat k->¬F k:=by
 rintro k ⟨o,_,s,t,v,h1,h2,h3⟩
 obtain⟨v',e,hi⟩:=h.obj o s t h1;rw[h2]at e;obtain rfl:=aqL e;exact hi.no k h3
def aX.zp{ob:Nat->Option (Nat×Th)}{n:Nat}(h:aX U H F w ob n){eat:List Nat}:∀k,dH H ob eat k->k<w.heap.size:=by
 rintro k ⟨o,_,s,t,v,h1,h2,h3⟩
 obtain⟨v',e,hi⟩:=h.obj o s t h1;rw[h2]at e;obtain rfl:=aqL e;exact hi.lt k h3
def aX.km{ob:Nat->Option (Nat×Th)}{n:Nat}(h:aX U H F w ob n){eat:List Nat}:∀k,dH H ob eat k->U k:=by
 rintro k ⟨o,_,s,t,v,h1,h2,h3⟩
 obtain⟨v',e,hi⟩:=h.obj o s t h1;rw[h2]at e;obtain rfl:=aqL e;exact hi.use k h3
def Mq.o9{ob:Nat->Option (Nat×Th)}{n:Nat}(hs:aX U H F w ob n){eat:List Nat}(he:SQ H F w H' F' w' (dH H ob eat)){o s:Nat}{t:Th}{v:Value}(ho:ob o=aa (s,t))(hn:o∉eat)(hv:H.val o=aa v)(h:Mq U H F w v s t):Mq U H' F' w' v s t:=by
 have Il:∀k,fp (H.sub s) v t k->¬dH H ob eat k:=by
  rintro k hk ⟨o',oY,s',t',v',h1,h2,h3⟩
  exact hs.apart o o' s s' t t' v v' (λe=>hn (e▸oY)) ho h1 hv h2 k hk h3
 have kK:=he.mi.sub _ _ h.con;refine⟨h.one,he.mi.con _ _ h.con,by rw[kK];exact h.ok.heap he.mi (he.step hs.lt hs.kJ) λk hk=>he.ext.block k (h.lt k hk) (Il k hk),λk hk hF=>?_,λk hk=>ars (h.lt k (by rwa [kK]at hk)) he.ext.size,λk hk=>h.use k (by rwa [kK]at hk)⟩;rw[kK]at hk
 rcases he.grow k hF with h1|h1|h1
 .exact h.no k hk h1
 .have:=h.lt k hk;omega
 .exact Il k hk h1
def aX.Po{ob SR Pp:Nat->Option (Nat×Th)}{n n' m:Nat}{e:gY}{v:Value}(h:aX U H F w ob n)(hR:∀o x,SR o=aa x->ob o=aa x)(hp:qG H F w SR m e v w' H' F')
 (part:∀o s t,Pp o=aa (s,t)->find e.make o=aa (s,t)\/(o∉e.eat/\ob o=aa (s,t)/\find e.make o=ae))(EU:∀m,n'<=m->m<n'+16->H'.val m=ae/\H'.con m=ae):
 aX U H' F' w' Pp n':=by
 have Im:∀k,dH H SR e.eat k->dH H ob e.eat k:=λk ⟨o,ho,s,t,v,h1,h2⟩=>⟨o,ho,s,t,v,hR _ _ h1,h2⟩
 have ZB:SQ H F w H' F' w' (dH H ob e.eat):=⟨hp.o9.mi,⟨hp.o9.ext.os,hp.o9.ext.tape,hp.o9.ext.output,hp.o9.ext.size,λk hk hn=>hp.o9.ext.block k hk λhh=>hn (Im k hh)⟩,hp.o9.le,λb hb=>(hp.o9.grow b hb).imp id λh=>h.imp id (Im b),hp.o9.lt⟩
 have SU:∀o s t,o∉e.eat->ob o=aa (s,t)->∃v,H.val o=aa v/\H'.val o=aa v/\Mq U H' F' w' v s t/\H'.sub s=H.sub s/\∀k,fp (H'.sub s) v t k->k<w.heap.size/\¬dH H ob e.eat k:=by
  intro o s t ho hf;obtain⟨v,hv,hi⟩:=h.obj o s t hf;have kK:=hp.o9.mi.sub _ _ hi.con;refine⟨v,hv,hp.o9.mi.val _ _ hv,hi.o9 h ZB hf ho hv,kK,λk hk=>?_⟩;rw[kK]at hk;refine⟨hi.lt k hk,?_⟩
  rintro⟨o',oY,s',t',v',h1,h2,h3⟩
  exact h.apart o o' s s' t t' v v' (λe=>ho (e▸oY)) hf h1 hv h2 k hk h3
 refine⟨λo s t ho=>?_,λo o' s s' t t' v v' dG ho oY hv gZ k hk jh=>?_,EU,hp.o9.lt,λb hb=>h.new b (Nat.le_trans hp.o9.ext.size hb),h.gl.step (ZB.step h.lt h.kJ)⟩
 .rcases part o s t ho with h1|⟨h1,h2,_⟩
  .obtain⟨v,a1,a2,a3,a4,a5⟩:=hp.made.obj o s t h1;exact⟨v,a1,a2,a3,a4,λk hk=>(a5 k hk).1,λk hk=>(a5 k hk).2.1,λk hk=>(a5 k hk).2.2.elim (h.new k) (λhh=>h.km k (Im k hh))⟩
  grind
 .rcases part o s t ho with h1|⟨h1,h2,_⟩<;>rcases part o' s' t' oY with Da|⟨Da,SP,_⟩
  .exact hp.made.apart o o' s s' t t' v v' dG h1 Da hv gZ k hk jh
  .obtain⟨u,_,a1,_,_,a5⟩:=hp.made.obj o s t h1
   grind
  .obtain⟨u,_,a1,_,_,a5⟩:=hp.made.obj o' s' t' Da
   grind
  .obtain⟨u,b1,b2,_,b5,_⟩:=SU o s t h1 h2;obtain⟨u',c1,c2,_,c5,_⟩:=SU o' s' t' Da SP;rw[b5]at hk;rw[c5]at jh;have e1:=aqL (hv.symm.trans b2);have e2:=aqL (gZ.symm.trans c2);subst e1;subst e2;exact h.apart o o' s s' t t' v v' dG h2 SP b1 c1 k hk jh
def Io{objs:List (Nat×(Nat×Th))}{e:gY}:∀o s t,find (e.make++del e.eat objs) o=aa (s,t)->find e.make o=aa (s,t)\/(o∉e.eat/\find objs o=aa (s,t)/\find e.make o=ae):=by
 intro o s t ho;rw[kH]at ho
 cases hm:find e.make o with
 |some x=>grind
 |none=>
  grind [kI]
def Sat.apply{d:Option Nat}{e:gY}{v:Value}(h:Sat U H F w ρ st)(hp:qG H F w (find st.objs) st.nxt e v w' H' F'):Sat U H' F' w' (yy ρ d v) (st.apply d e):=by
 have kt:lT H' (st.nxt+16):=λm hm=>⟨(hp.fresh m (.inr hm)).1 (h.all m (by omega)).1,(hp.fresh m (.inr hm)).2 (h.all m (by omega)).2⟩
 refine⟨λt q hq=>?_,h.ob.Po (λ_ _ h=>h) hp Io λm hm _=>kt m hm,kt⟩;have mf:=hp.o9.step h.ob.lt h.ob.kJ
 cases d with
 |none=>exact(h.slot t q hq).keep hp.o9.mi mf
 |some d=>
  have sC:find ((d,e.dst)::st.aK) t=aa q:=hq;rw[bA]at sC
  show aO H' F' w' q (Ih ρ d v t)
  rw[sH];by_cases hd:d=t
  .grind [qG.dst]
  .rw[aj hd]at sC;rw[aj (Ne.symm hd)];exact(h.slot t q sC).keep hp.o9.mi mf
end
end
section
def ef(P:Program)(ρ:Nat->Value)(o:Oper)(w:World)(Q:Value->World->Prop):Prop:=
 match(execOp (ev ρ) o).run P w with
 | .ok (.value v) w'=>o.dst.isSome/\Q v w'
 | .ok .skip w'=>o.dst=ae/\Q undef w'
 | .ok (.enter f args) w'=>Calls P f args w' λe yQ=>∃v,e= .returned v/\Q v yQ
 |_=>False
section
variable {P:Program} {n:Nat} {ops:Array Oper} {K:(Nat->Value)->World->Prop} {rest:List Oper} {ρ:Nat->Value} {w:World}
variable {dst:Option Nat} {op:Op} {ty:TypeId} {pos:String} {aft:Array Edge} {Q:Value->World->Prop}
def ef.mono{o:Oper}{Q':Value->World->Prop}(h:ef P ρ o w Q)(hq:∀v w',Q v w'->Q' v w'):ef P ρ o w Q':=by
 unfold ef at*;generalize(execOp (ev ρ) o).run P w=r at*
 cases r with
 |halt x w'=>exact h
 |ok x w'=>
  cases x<;>first
   |exact h
   |exact⟨h.1,hq _ _ h.2⟩
   |exact h.mono (by grind)
def ef.val{d:Nat}{v:Value}{w':World}(hr:(execOp (ev ρ) ⟨aa d,op,ty,pos,aft,ae⟩).run P w= .ok (.value v) w')(h:Q v w'):ef P ρ ⟨aa d,op,ty,pos,aft,ae⟩ w Q:=by
 unfold ef;rw[hr];exact⟨rfl,h⟩
def ef.unit{w':World}(hr:(execOp (ev ρ) ⟨ae,op,ty,pos,aft,ae⟩).run P w= .ok .skip w')(h:Q undef w'):ef P ρ ⟨ae,op,ty,pos,aft,ae⟩ w Q:=by
 unfold ef;rw[hr];exact⟨rfl,h⟩
def EV(h:ef P ρ ⟨dst,op,ty,pos,aft,ae⟩ w Q)(hd:∀d,dst=aa d->art d n=af)
 (hk:∀v w',Q v w'->wpS P n ops K rest (yy ρ dst v) w'):wpS P n ops K (⟨dst,op,ty,pos,aft,ae⟩::rest) ρ w:=
 λQQ a hf ZC=>wpList_plain rfl λK' hK=>by
  unfold Oper.wp;rw[hf.eval];unfold ef at h;generalize(execOp (ev ρ) ⟨dst,op,ty,pos,aft,ae⟩).run P w=r at*
  have zq:∀v,Fr n (a.put dst v) (yy ρ dst v):=λv=>by
   cases dst with
   |none=>exact hf
   |some d=>exact hf.put (hd d rfl) v
  cases r with
  |halt x w'=>exact h.elim
  |ok x w'=>
   cases x<;>first
    |exact h.elim
    |skip
   case value v=>exact hK _ _ (hk v w' h.2 QQ _ (zq v) ZC)
   case skip=>exact hK _ _ (hk undef w' h.2 QQ _ (zq undef) ZC)
   case enter f args=>
    refine h.mono λe yQ ⟨v,he,hv⟩=>?_
    subst he;exact hK _ _ (hk v yQ hv QQ _ (zq v) ZC)
end
inductive Oy where
 |int (k:IntKind)
 |bool
 |str
 |slice (e:TypeId)
 |struct (fs:List (TypeId×Nat))
 |array (n:Nat) (e:TypeId)
 |map (k v:TypeId)
 |ptr (e:TypeId)
 |other
def BT(P:Program)(t:TypeId):Oy->Prop
 | .int k=>P.underlying t=aa (.int k)
 | .bool=>P.underlying t=aa .bool
 | .str=>P.underlying t=aa .string
 | .slice e=>P.underlying t=aa (.slice e)
 | .struct fs=>∃arr:Array Field,P.underlying t=aa (.struct arr)/\arr.toList.map (λf=>(f.type,f.offset))=fs
 | .array n e=>P.underlying t=aa (.array n e)
 | .map k v=>P.underlying t=aa (.map k v)
 | .ptr e=>P.underlying t=aa (.pointer e)
 | .other=>∃d,P.underlying t=aa d/\mg d=ah
def WI(P:Program)(t:TypeId)(agg:Bool)(r:Row):Prop:=∃z,(P.info? t).bind (·.zero)=aa z/\z=(bif agg then .agg r.je.toArray else r.je.headD undef)
def uJ(P:Program)(t:TypeId)(name:String)(f:FuncId)(pr:Bool):Prop:=
 ((P.info? t).bind λi=>i.methods.find? λm=>m.name==name).map (λm=>(m.path.toList.length,m.func))=aa (0,aa (f,pr))
structure b7(P:Program)where
 und:List (Nat×Oy)
 row:List (Nat×Row)
 eqs:List (Nat×Row)
 zer:List (Nat×(Bool×Row))
 und_ok:∀t k,find und t=aa k->BT P t k
 row_ok:∀t r,find row t=aa r->TI P t r
 eqs_ok:∀t r,find eqs t=aa r->∃K d,uV P t r K/\d+K=10000/\P.eqGuardType P.depth t=ah/\(P.underlying t).any mg=af
 zer_ok:∀t agg r,find zer t=aa (agg,r)->WI P t agg r
 mth:List (TypeId×(String×(FuncId×Bool)))
 mth_ok:∀p∈mth,uJ P p.1 p.2.1 p.2.2.1 p.2.2.2
def pb:Oy->Bool
 | .struct _| .array _ _=>af
 |_=>ah
def BT.agg{P:Program}{t:TypeId}{k:Oy}(h:BT P t k):∃d,P.underlying t=aa d/\mg d=pb k:=by
 cases k<;>first
  |exact⟨_,h,rfl⟩
  |(obtain⟨arr,h,_⟩:=h;exact⟨_,h,rfl⟩)
  |exact h
def sI{α:Type}{Q:Nat->α->Prop}{l:List (Nat×α)}(h:∀p∈l,Q p.1 p.2):∀t a,find l t=aa a->Q t a:=by
 intro t a
 induction l with
 |nil=>intro h';cases h'
 |cons p l ih=>
  grind [bA]
def Ip:Value->Option aN
 | .int k n=>aa (.val ah (.leaf (.int k) n))
 | .bool b=>aa (.val ah (.leaf .bool b))
 | .string s=>aa (.val ah (.leaf .str s))
 | .slice ae 0 0=>aa (.val ah .nil)
 | .map ae=>aa (.val ah (.leaf (.nul .map) ()))
 | .pointer ae=>aa (.val ah (.leaf (.nul .ptr) ()))
 | .nilFunc=>aa (.val ah (.leaf (.nul .func) ()))
 | .nilIface=>aa .dead
 |_=>ae
def Oz(aK:List (Nat×aN)):Operand->Option aN
 | .tmp t=>find aK t
 | .const v=>Ip v
 | .func f=>aa (.fn f [])
 | .global g=>match find Kd g with
   |some d=>aa (.at d.1 d.2)
   |none=>ae
def bB.qf{H:aW}{F:Nat->Prop}{w:World}{r:Row}{x:r.den}{v:Value}(h:eF F w r [v] x):bB H F w ah (.leaf r x) v:=⟨[v],h,rfl,λ_=>rfl⟩
def Mr{H:aW}{F:Nat->Prop}{w:World}{v:Value}{d:aN}(h:Ip v=aa d):aO H F w d v:=by
 unfold Ip at h
 split at h<;>first|cases h|skip
 .exact bB.qf rfl
 .exact bB.qf rfl
 .exact bB.qf rfl
 .exact⟨_,rfl,rfl,λ_=>rfl⟩
 .exact bB.qf rfl
 .exact bB.qf rfl
 .exact bB.qf rfl
 .trivial
def zr{H:aW}{F:Nat->Prop}{w:World}{ρ:Nat->Value}{aK:List (Nat×aN)}(hg:uX F w)(h:∀t d,find aK t=aa d->aO H F w d (ρ t)):∀x d,Oz aK x=aa d->aO H F w d (ev ρ x):=by
 intro x d hx
 cases x with
 |tmp t=>exact h t d hx
 |const v=>exact Mr hx
 |global g=>
  have VN:(match find Kd g with|some d=>aa (aN.at d.1 d.2)|none=>ae)=aa d:=hx;split at VN
  .rename_i q hq;obtain rfl:=aqL VN;obtain⟨h1,h2⟩:=hg g q hq;exact⟨g,0,rfl,h1,h2⟩
  .cases VN
 |func f=>obtain rfl:=aqL hx;exact⟨[],rfl,rfl⟩
def bB.inv{H:aW}{F:Nat->Prop}{w:World}{r:Row}{x:r.den}{v:Value}(h:bB H F w ah (.leaf r x) v):eF F w r [v] x:=by
 obtain⟨cs,h1,_,h3⟩:=h;rw[h3 rfl]at h1;exact h1
def bB.int{H:aW}{F:Nat->Prop}{w:World}{k:IntKind}{x:Int}{v:Value}(h:bB H F w ah (.leaf (.int k) x) v):v= .int k x:=by
 have:=h.inv;simpa[eF]using this
def bB.bool{H:aW}{F:Nat->Prop}{w:World}{x:Bool}{v:Value}(h:bB H F w ah (.leaf .bool x) v):v= .bool x:=by
 have:=h.inv;simpa[eF]using this
def bB.str{H:aW}{F:Nat->Prop}{w:World}{x:ByteArray}{v:Value}(h:bB H F w ah (.leaf .str x) v):v= .string x:=by
 have:=h.inv;simpa[eF]using this
def bB.mQ(H:aW)(F:Nat->Prop)(w:World)(k:IntKind)(x:Int):bB H F w ah (.leaf (.int k) x) (.int k x):=bB.qf rfl
def bB.kM(H:aW)(F:Nat->Prop)(w:World)(x:Bool):bB H F w ah (.leaf .bool x) (.bool x):=bB.qf rfl
def bB.mkStr(H:aW)(F:Nat->Prop)(w:World)(x:ByteArray):bB H F w ah (.leaf .str x) (.string x):=bB.qf rfl
abbrev pP(k:IntKind)(x:Int):aN:= .val ah (.leaf (.int k) x)
abbrev fR(x:Bool):aN:= .val ah (.leaf .bool x)
abbrev adJ(x:ByteArray):aN:= .val ah (.leaf .str x)
def asInt:aN->Option (IntKind×Int)
 | .val ah (.leaf (.int k) x)=>aa (k,x)
 |_=>ae
def asBool:aN->Option Bool
 | .val ah (.leaf .bool x)=>aa x
 |_=>ae
def EW:aN->Option ByteArray
 | .val ah (.leaf .str x)=>aa x
 |_=>ae
section
variable {P:Program} {ρ:Nat->Value} {w w':World} {H H':aW} {F F':Nat->Prop} {U:Nat->Prop} {ob:Nat->Option (Nat×Th)} {n:Nat} {R:Type}
variable {dst:Option Nat} {op:Op} {ty:TypeId} {pos:String} {aft:Array Edge} {d:Nat}
def kN{D:aN}{k:IntKind}{x:Int}{v:Value}(h:asInt D=aa (k,x))(hd:aO H F w D v):v= .int k x:=by
 unfold asInt at h
 split at h<;>cases h
 exact bB.int hd
def qS{D:aN}{x:Bool}{v:Value}(h:asBool D=aa x)(hd:aO H F w D v):v= .bool x:=by
 unfold asBool at h
 split at h<;>cases h
 exact bB.bool hd
def zt{D:aN}{x:ByteArray}{v:Value}(h:EW D=aa x)(hd:aO H F w D v):v= .string x:=by
 unfold EW at h
 split at h<;>cases h
 exact bB.str hd
def eH(P:Program)(_U:Nat->Prop)(H:aW)(F:Nat->Prop)(w:World)(ρ:Nat->Value)(ob:Nat->Option (Nat×Th))(n:Nat)(o:Oper)(e:gY):Prop:=
 ef P ρ o w (ph H F w ob n e)
def SQ.refl{g:Nat->Prop}(hF:∀b,F b->b<w.heap.size):SQ H F w H F w g:=⟨aW.le.refl H,⟨rfl,rfl,rfl,aqS _,λ_ _ _=>rfl⟩,λ_ h=>h,λ_ h=> .inl h,hF⟩
theorem Made.nil{g:Nat->Prop}:Made H' F' w w' g []:=⟨λ_ _ _ h=>(by cases h),λ_ _ _ _ _ _ _ _ _ h=>(by cases h)⟩
def qG.pure(hs:aX U H F w ob n){D:aN}{v:Value}(h:aO H F w D v):ph H F w ob n {dst:=D} v w:=
 ⟨H,F,SQ.refl hs.lt,λm hm=>⟨id,id⟩,h,Made.nil,λo h=>by cases h⟩
def cZ(hs:aX U H F w ob n){D:aN}{v:Value}(hr:(execOp (ev ρ) ⟨aa d,op,ty,pos,aft,ae⟩).run P w= .ok (.value v) w)(h:aO H F w D v):eH P U H F w ρ ob n ⟨aa d,op,ty,pos,aft,ae⟩ {dst:=D}:=
 ef.val hr (qG.pure hs h)
def bx(hs:aX U H F w ob n){D:aN}{v:Value}(hr:Pure P ρ ⟨aa d,op,ty,pos,aft,ae⟩ v)(h:aO H F w D v):eH P U H F w ρ ob n ⟨aa d,op,ty,pos,aft,ae⟩ {dst:=D}:=
 cZ hs (hr w) h
def gE(o:BinOp)(k:IntKind)(a b:Int):Int:=
 match o with
 | .and=>k.wrap (asm k.bits a&&& asm k.bits b).toNat
 | .or=>k.wrap (asm k.bits a|||asm k.bits b).toNat
 | .xor=>k.wrap (asm k.bits a ^^^ asm k.bits b).toNat
 |_=>k.wrap (asm k.bits a&&& ~~~asm k.bits b).toNat
def yz(k:IntKind)(a b:Int):Int:=k.wrap (a*2 ^ min b.toNat k.bits)
def iF(k:IntKind)(a b:Int):Int:=a.fdiv (2 ^ min b.toNat k.bits)
def Iq(k:IntKind)(a b:Int):Option Int:=if b<0 then ae else aa (yz k a b)
def EX(k:IntKind)(a b:Int):Option Int:=if b<0 then ae else aa (iF k a b)
def arith:BinOp->IntKind->Int->Int->Option aN
 | .add,k,a,b=>aa (pP k (k.wrap (a+b)))
 | .sub,k,a,b=>aa (pP k (k.wrap (a-b)))
 | .mul,k,a,b=>aa (pP k (k.wrap (a*b)))
 | .lss,_,a,b=>aa (fR (decide (a<b)))
 | .leq,_,a,b=>aa (fR (decide (a<=b)))
 | .gtr,_,a,b=>aa (fR (decide (b<a)))
 | .geq,_,a,b=>aa (fR (decide (b<=a)))
 | .eql,_,a,b=>aa (fR (decide (a=b)))
 | .neq,_,a,b=>aa (fR (!decide (a=b)))
 | .and,k,a,b=>aa (pP k (gE .and k a b))
 | .or,k,a,b=>aa (pP k (gE .or k a b))
 | .xor,k,a,b=>aa (pP k (gE .xor k a b))
 | .andNot,k,a,b=>aa (pP k (gE .andNot k a b))
 |_,_,_,_=>ae
def pure_and{k:IntKind}{a b:Int}{t u:TypeId}{x y:Operand}(hx:ev ρ x= .int k a)(hy:ev ρ y= .int k b):Pure P ρ ⟨aa d, .binOp .and t x y u,ty,pos,aft,ae⟩ (.int k (gE .and k a b)):=λw=>by simp[execOp,hx,hy,binOp,Op.intBits,eqGuard,gE,go_sem]
def pure_or{k:IntKind}{a b:Int}{t u:TypeId}{x y:Operand}(hx:ev ρ x= .int k a)(hy:ev ρ y= .int k b):Pure P ρ ⟨aa d, .binOp .or t x y u,ty,pos,aft,ae⟩ (.int k (gE .or k a b)):=λw=>by simp[execOp,hx,hy,binOp,Op.intBits,eqGuard,gE,go_sem]
def Pq{k:IntKind}{a b:Int}{t u:TypeId}{x y:Operand}(hx:ev ρ x= .int k a)(hy:ev ρ y= .int k b):Pure P ρ ⟨aa d, .binOp .xor t x y u,ty,pos,aft,ae⟩ (.int k (gE .xor k a b)):=λw=>by simp[execOp,hx,hy,binOp,Op.intBits,eqGuard,gE,go_sem]
def EY{k:IntKind}{a b:Int}{t u:TypeId}{x y:Operand}(hx:ev ρ x= .int k a)(hy:ev ρ y= .int k b):Pure P ρ ⟨aa d, .binOp .andNot t x y u,ty,pos,aft,ae⟩ (.int k (gE .andNot k a b)):=λw=>by simp[execOp,hx,hy,binOp,Op.intBits,eqGuard,gE,go_sem]
def EZ{k k':IntKind}{a b:Int}{t u:TypeId}{x y:Operand}(hx:ev ρ x= .int k a)(hy:ev ρ y= .int k' b)(hb:¬b<0):Pure P ρ ⟨aa d, .binOp .shl t x y u,ty,pos,aft,ae⟩ (.int k (yz k a b)):=λw=>by simp[execOp,hx,hy,binOp,Op.shift,eqGuard,yz,hb,go_sem]
def E0{k k':IntKind}{a b:Int}{t u:TypeId}{x y:Operand}(hx:ev ρ x= .int k a)(hy:ev ρ y= .int k' b)(hb:¬b<0):Pure P ρ ⟨aa d, .binOp .shr t x y u,ty,pos,aft,ae⟩ (.int k (iF k a b)):=λw=>by simp[execOp,hx,hy,binOp,Op.shift,eqGuard,iF,hb,go_sem]
theorem Ps{o:BinOp}{k:IntKind}{a b:Int}{D:aN}{t u:TypeId}{x y:Operand}(h:arith o k a b=aa D)(hs:aX U H F w ob n)(hx:ev ρ x= .int k a)(hy:ev ρ y= .int k b):
 eH P U H F w ρ ob n ⟨aa d, .binOp o t x y u,ty,pos,aft,ae⟩ {dst:=D}:=by
 unfold arith at h
 split at h<;>cases h
 .exact bx hs (OU hx hy) (bB.mQ ..)
 .exact bx hs (OV hx hy) (bB.mQ ..)
 .exact bx hs (OW hx hy) (bB.mQ ..)
 .exact bx hs (OZ hx hy) (bB.kM ..)
 .exact bx hs (O0 hx hy) (bB.kM ..)
 .exact bx hs (O1 hx hy) (bB.kM ..)
 .exact bx hs (O2 hx hy) (bB.kM ..)
 .exact bx hs (O4 hx hy) (bB.kM ..)
 .exact bx hs (O5 hx hy) (bB.kM ..)
 .exact bx hs (pure_and hx hy) (bB.mQ ..)
 .exact bx hs (pure_or hx hy) (bB.mQ ..)
 .exact bx hs (Pq hx hy) (bB.mQ ..)
 .exact bx hs (EY hx hy) (bB.mQ ..)
def nU(a b:Int):Option Int:=if b=0 then ae else aa (aqW a b)
def sJ(a b:Int):Option Int:=if b=0 then ae else aa (aqY a b)
def ZD:Operand->Bool
 | .const _=>af
 |_=>ah
theorem Pt{k:IntKind}{a b:Int}{t u:TypeId}{x y:Operand}(hb:b≠0)(hs:aX U H F w ob n)(hx:ev ρ x= .int k a)(hy:ev ρ y= .int k b):
 eH P U H F w ρ ob n ⟨aa d, .binOp .quo t x y u,ty,pos,aft,ae⟩ {dst:=pP k (k.wrap (aqW a b))}:=
 bx hs (OX hx hy hb) (bB.mQ ..)
theorem Pu{k:IntKind}{a b:Int}{t u:TypeId}{x y:Operand}(hb:b≠0)(hs:aX U H F w ob n)(hx:ev ρ x= .int k a)(hy:ev ρ y= .int k b):
 eH P U H F w ρ ob n ⟨aa d, .binOp .rem t x y u,ty,pos,aft,ae⟩ {dst:=pP k (aqY a b)}:=
 bx hs (OY hx hy hb) (bB.mQ ..)
end
end
section
def Tree.split:Tree->Option (Tree×Tree)
 | .leaf (.pair a b) x=>aa (.leaf a x.1, .leaf b x.2)
 | .pair a b=>aa (a,b)
 |_=>ae
def Tree.get:Tree->List Bool->Option (Tree×Nat)
 |t,[]=>aa (t,0)
 |t,d::p=>match t.split with
  |none=>ae
  |some (a,b)=>match d with
   |false=>Tree.get a p
   |true=>match Tree.get b p with
    |none=>ae
    |some (s,off)=>aa (s,a.size+off)
def Tree.put:Tree->List Bool->Tree->Option Tree
 |_,[],u=>aa u
 |t,d::p,u=>match t.split with
  |none=>ae
  |some (a,b)=>match d with
   |false=>match Tree.put a p u with
    |none=>ae
    |some a'=>aa (.pair a' b)
   |true=>match Tree.put b p u with
    |none=>ae
    |some b'=>aa (.pair a b')
def vH:Nat->Nat->List Bool
 |0,_=>[]
 |1,_=>[]
 |_+2,0=>[ah]
 |m+2,f+1=>af::vH (m+1) f
section
variable {H:aW} {F:Nat->Prop} {w:World}
def Holds.split{t a b:Tree}{cs:List Value}(hs:t.split=aa (a,b))(h:Holds H F w t cs):∃c1 c2,cs=c1++c2/\Holds H F w a c1/\Holds H F w b c2/\t.size=a.size+b.size:=by
 unfold Tree.split at hs
 split at hs<;>cases hs
 .obtain⟨c1,c2,e,h1,h2⟩:=h;exact⟨c1,c2,e,h1,h2,rfl⟩
 .obtain⟨c1,c2,e,h1,h2⟩:=h;exact⟨c1,c2,e,h1,h2,rfl⟩
def Holds.get:{p:List Bool}->{t s:Tree}->{off:Nat}->{cs:List Value}->t.get p=aa (s,off)->Holds H F w t cs->Holds H F w s ((cs.drop off).take s.size)/\off+s.size<=cs.length
 |[],t,s,off,cs,hg,h=>by
  obtain⟨rfl,rfl⟩:=Prod.mk.inj (aqL hg)
  grind [Holds.length]
 |d::p,t,s,off,cs,hg,h=>by
  unfold Tree.get at hg
  cases wT:t.split with
  |none=>rw[wT]at hg;cases hg
  |some ab=>
   obtain⟨a,b⟩:=ab;rw[wT]at hg;obtain⟨c1,c2,rfl,h1,h2,_⟩:=h.split wT;have Y1:=h1.length
   cases d with
   |false=>
    obtain⟨g1,g2⟩:=Holds.get hg h1
    grind
   |true=>
    cases hb:b.get p with
    |none=>simp only[hb]at hg;cases hg
    |some so=>
     obtain⟨s',fZ⟩:=so;simp only[hb,aq1,Prod.mk.injEq]at hg;obtain⟨rfl,rfl⟩:=hg;obtain⟨g1,g2⟩:=Holds.get hb h2
     grind [List.drop_append,List.drop_of_length_le]
def Holds.put{u:Tree}{vs:List Value}(hu:Holds H F w u vs):{p:List Bool}->{t s t':Tree}->{off:Nat}->{cs:List Value}->t.get p=aa (s,off)->t.put p u=aa t'->s.size=u.size->Holds H F w t cs->
 Holds H F w t' (cs.take off++vs++cs.drop (off+u.size))
 |[],t,s,t',off,cs,hg,hp,hz,h=>by
  obtain⟨rfl,rfl⟩:=Prod.mk.inj (aqL hg);obtain rfl:=aqL hp;have hl:=h.length
  grind
 |d::p,t,s,t',off,cs,hg,hp,hz,h=>by
  unfold Tree.get at hg;unfold Tree.put at hp
  cases wT:t.split with
  |none=>rw[wT]at hg;cases hg
  |some ab=>
   obtain⟨a,b⟩:=ab;rw[wT]at hg hp;obtain⟨c1,c2,rfl,h1,h2,_⟩:=h.split wT;have Y1:=h1.length
   cases d with
   |false=>
    cases hq:a.put p u with
    |none=>simp only[hq]at hp;cases hp
    |some a'=>
     simp only[hq,aq1]at hp;subst hp;have h3:=Holds.put hu hg hq hz h1;have g2:=(Holds.get hg h1).2;refine⟨_,c2,?_,h3,h2⟩
     grind
   |true=>
    cases hb:b.get p with
    |none=>simp only[hb]at hg;cases hg
    |some so=>
     obtain⟨s',fZ⟩:=so;simp only[hb,aq1,Prod.mk.injEq]at hg;obtain⟨rfl,rfl⟩:=hg
     cases hq:b.put p u with
     |none=>simp only[hq]at hp;cases hp
     |some b'=>
      simp only[hq,aq1]at hp;subst hp;have h3:=Holds.put hu hb hq hz h2;refine⟨c1,_,?_,h1,h3⟩
      rw[<-Y1,List.take_append,List.take_of_length_le (by omega),List.drop_append,List.drop_of_length_le (by omega),show c1.length+fZ-c1.length=fZ from by omega,
       show c1.length+fZ+u.size-c1.length=fZ+u.size from by omega]
      simp[ard]
end
def Oq.beq:Oq->Oq->Bool
 | .map, .map=>af
 | .ptr, .ptr=>af
 | .func, .func=>af
 |_,_=>ah
def Oq.eq_of_beq{a b:Oq}(h:a.beq b=af):a=b:=by cases a<;>cases b<;>first|rfl|cases h
def Row.beq:Row->Row->Bool
 | .int k, .int k'=>decide (k=k')
 | .bool, .bool=>af
 | .str, .str=>af
 | .mX, .mX=>af
 | .nul a, .nul b=>a.beq b
 | .map a x b, .map c y d=>a.beq c&&(bif x then y else !y)&&b.beq d
 | .slice a, .slice b=>a.beq b
 | .pair a b, .pair c d=>a.beq c&&b.beq d
 |_,_=>ah
def Row.eq_of_beq:{r s:Row}->r.beq s=af->r=s
 | .int k, .int k',h=>by rw[ao (show decide (k=k')=af from h)]
 | .bool, .bool,_=>rfl
 | .str, .str,_=>rfl
 | .mX, .mX,_=>rfl
 | .nul a, .nul b,h=>by rw[Oq.eq_of_beq (show a.beq b=af from h)]
 | .map a x b, .map c y d,h=>by
   have h':(a.beq c&&(bif x then y else !y)&&b.beq d)=af:=h;rw[arV,arV]at h'
   have Bg:x=y:=by cases x<;>cases y<;>simp_all
   rw[Row.eq_of_beq h'.1.1,Row.eq_of_beq h'.2,Bg]
 | .slice a, .slice b,h=>by rw[Row.eq_of_beq (show a.beq b=af from h)]
 | .pair a b, .pair c d,h=>by
   have h':(a.beq c&&b.beq d)=af:=h;rw[arV]at h';rw[Row.eq_of_beq h'.1,Row.eq_of_beq h'.2]
def lO{r s:Row}(h:r=s)(x:r.den):s.den:=h▸x
def Row.beq_refl:(r:Row)->r.beq r=af
 | .int k=>by simp[Row.beq]
 | .bool=>rfl
 | .str=>rfl
 | .mX=>rfl
 | .nul a=>by cases a<;>rfl
 | .map a x b=>by
   show(a.beq a&&(bif x then x else !x)&&b.beq b)=af
   rw[Row.beq_refl a,Row.beq_refl b]
   cases x<;>rfl
 | .slice a=>Row.beq_refl a
 | .pair a b=>by
   show(a.beq a&&b.beq b)=af
   rw[Row.beq_refl a,Row.beq_refl b];rfl
def DR.beq:DR->DR->Bool
 | .leaf r, .leaf s=>r.beq s
 | .sl T d, .sl T' d'=>aqU T T'&&d.beq d'
 | .pair a b, .pair c d=>a.beq c&&b.beq d
 |_,_=>ah
def DR.eq_of_beq:{d e:DR}->d.beq e=af->d=e
 | .leaf r, .leaf s,h=>by rw[Row.eq_of_beq (show r.beq s=af from h)]
 | .sl T d, .sl T' d',h=>by
   obtain⟨h1,h2⟩:=(arV _ _▸(show(aqU T T'&&d.beq d')=af from h):aqU T T'=af/\d.beq d'=af)
   rw[Nat.eq_of_beq_eq_true h1,DR.eq_of_beq h2]
 | .pair a b, .pair c d,h=>by
   obtain⟨h1,h2⟩:=(arV _ _▸(show(a.beq c&&b.beq d)=af from h):a.beq c=af/\b.beq d=af)
   rw[DR.eq_of_beq h1,DR.eq_of_beq h2]
 | .leaf _, .sl ..,h=>by cases h
 | .leaf _, .pair ..,h=>by cases h
 | .sl .., .leaf _,h=>by cases h
 | .sl .., .pair ..,h=>by cases h
 | .pair .., .leaf _,h=>by cases h
 | .pair .., .sl ..,h=>by cases h
def rD:List Bool->List Bool->Bool
 |[],[]=>af
 |a::p,b::q=>(bif a then b else !b)&&rD p q
 |_,_=>ah
theorem uY:{p q:List Bool}->rD p q=af->p=q
 |[],[],_=>rfl
 |a::p,b::q,h=>by
  have h':((bif a then b else !b)&&rD p q)=af:=h;rw[arV]at h';rw[uY h'.2]
  grind
 |[],_::_,h=>by cases h
 |_::_,[],h=>by cases h
def flat(ob:Nat->Option (Nat×Th)):(r:Row)->Tree->Option r.den
 |r, .leaf s x=>if h:s.beq r=af then aa (lO (Row.eq_of_beq h) x)else ae
 | .slice e, .own o=>match ob o with
   |some (_, .yx _ s l)=>if h:s.beq e=af then aa (lO (r:= .slice s) (s:= .slice e) (ay Row.slice (Row.eq_of_beq h)) l)else ae
   |some (_, .fdeep _ d l)=>if h:d.row.beq e=af then aa (lO (r:= .slice d.row) (s:= .slice e) (ay Row.slice (Row.eq_of_beq h)) l)else ae
   |_=>ae
 | .slice _, .nil=>aa []
 | .map K agg V, .own o=>match ob o with
   |some (_, .fmap _ K' vI V' l)=>if h:(Row.map K' vI V').beq (.map K agg V)=af then aa (lO (Row.eq_of_beq h) l)else ae
   |some (_, .fdmap _ K' _ r' l)=>if h:(Row.map K' ah (.slice r')).beq (.map K agg V)=af then aa (lO (r:= .map K' ah (.slice r')) (Row.eq_of_beq h) l)else ae
   |_=>ae
 | .slice e, .view o s r m=>match ob o with
   |some (s', .yx ..)=>bif aqU s' s then(if h:r.beq e=af then aa (lO (r:= .slice r) (s:= .slice e) (ay Row.slice (Row.eq_of_beq h)) m)else ae)else ae
   |_=>ae
 | .pair a b, .pair t u=>match flat ob a t with
   |none=>ae
   |some x=>match flat ob b u with
    |none=>ae
    |some y=>aa (x,y)
 |_,_=>ae
section
variable {U:Nat->Prop} {H:aW} {F:Nat->Prop} {w:World} {ob:Nat->Option (Nat×Th)} {n:Nat}
def BU(hs:aX U H F w ob n){o s:Nat}{T:TypeId}{r0 r:Row}{l0:List r0.den}{m:List r.den}{v:Value}(ho:ob o=aa (s, .yx T r0 l0))(h:o8 H o s r m v):eF F w (.slice r) [v] m:=by
 obtain⟨A,cap,T',l,a,b,h1,h2,h3,h4,rfl,rfl⟩:=h;obtain⟨v',gZ,eJ⟩:=hs.obj _ _ _ ho;rw[h1]at gZ;obtain rfl:=aqL gZ;have e:=eJ.con;rw[h2]at e;simp only[Th.base,aq1,Th.own.injEq]at e;obtain⟨rfl,rfl,e⟩:=e;obtain rfl:=eq_of_heq e;exact eF.cut eJ.ok h3 h4
def m5(hs:aX U H F w ob n):{r:Row}->{t:Tree}->{x:r.den}->{cs:List Value}->flat ob r t=aa x->Holds H F w t cs->eF F w r cs x
 |r, .leaf s x0,x,cs,hf,h=>by
  unfold flat at hf;split at hf
  .rename_i e;obtain rfl:=Row.eq_of_beq e;obtain rfl:=aqL hf;exact h
  .cases hf
 | .slice e, .own o,x,cs,hf,h=>by
   unfold flat at hf;split at hf
   .rename_i s0 T s l A8;split at hf
    .rename_i e;obtain rfl:=Row.eq_of_beq e;obtain rfl:=aqL hf;obtain⟨v,hv,_,rfl⟩:=h;obtain⟨v',gZ,eJ⟩:=hs.obj _ _ _ A8;rw[hv]at gZ;obtain rfl:=aqL gZ;exact eJ.ok
    .cases hf
   .rename_i s0 T d l A8;split at hf
    .rename_i e;obtain rfl:=Row.eq_of_beq e;obtain rfl:=aqL hf;obtain⟨v,hv,_,rfl⟩:=h;obtain⟨v',gZ,eJ⟩:=hs.obj _ _ _ A8;rw[hv]at gZ;obtain rfl:=aqL gZ;exact eJ.ok
    .cases hf
   .cases hf
 | .map K agg V, .own o,x,cs,hf,h=>by
   unfold flat at hf;split at hf
   .rename_i s0 T K' vI V' l A8;split at hf
    .rename_i e;cases Row.eq_of_beq e;obtain rfl:=aqL hf;obtain⟨v,hv,_,rfl⟩:=h;obtain⟨v',gZ,eJ⟩:=hs.obj _ _ _ A8;rw[hv]at gZ;obtain rfl:=aqL gZ;exact eJ.ok
    .cases hf
   .rename_i s0 T K' E r' l A8;split at hf
    .rename_i e;cases Row.eq_of_beq e;obtain rfl:=aqL hf;obtain⟨v,hv,_,rfl⟩:=h;obtain⟨v',gZ,eJ⟩:=hs.obj _ _ _ A8;rw[hv]at gZ;obtain rfl:=aqL gZ;exact eJ.ok
    .cases hf
   .cases hf
 | .slice e, .nil,x,cs,hf,h=>by
   unfold flat at hf;obtain rfl:=aqL hf;rw[show cs=_ from h];exact eF.nil F w e
 | .slice e, .view o s r m,x,cs,hf,h=>by
   unfold flat at hf;split at hf
   .rename_i s' T r' l' A8
    cases hb:aqU s' s with
    |false=>rw[hb]at hf;cases hf
    |true=>
     rw[hb,cond_true]at hf;obtain rfl:=Nat.eq_of_beq_eq_true hb;split at hf
     .rename_i e;obtain rfl:=Row.eq_of_beq e;obtain rfl:=aqL hf;obtain⟨v,rfl,h⟩:=h;exact BU hs A8 h
     .cases hf
   .cases hf
 | .pair a b, .pair t u,x,cs,hf,h=>by
   obtain⟨c1,c2,rfl,h1,h2⟩:=h;unfold flat at hf
   cases ha:flat ob a t with
   |none=>grind
   |some p=>
    cases hb:flat ob b u with
    |none=>grind
    |some q=>
     simp only[ha,hb,aq1]at hf;subst hf;exact⟨c1,c2,rfl,m5 hs ha h1,m5 hs hb h2⟩
 | .int _, .own _,_,_,hf,_=>by unfold flat at hf;cases hf
 | .bool, .own _,_,_,hf,_=>by unfold flat at hf;cases hf
 | .str, .own _,_,_,hf,_=>by unfold flat at hf;cases hf
 | .mX, .own _,_,_,hf,_=>by unfold flat at hf;cases hf
 | .nul _, .own _,_,_,hf,_=>by unfold flat at hf;cases hf
 | .pair _ _, .own _,_,_,hf,_=>by unfold flat at hf;cases hf
 | .int _, .nil,_,_,hf,_=>by unfold flat at hf;cases hf
 | .bool, .nil,_,_,hf,_=>by unfold flat at hf;cases hf
 | .str, .nil,_,_,hf,_=>by unfold flat at hf;cases hf
 | .mX, .nil,_,_,hf,_=>by unfold flat at hf;cases hf
 | .nul _, .nil,_,_,hf,_=>by unfold flat at hf;cases hf
 | .map .., .nil,_,_,hf,_=>by unfold flat at hf;cases hf
 | .pair _ _, .nil,_,_,hf,_=>by unfold flat at hf;cases hf
 | .int _, .view ..,_,_,hf,_=>by unfold flat at hf;cases hf
 | .bool, .view ..,_,_,hf,_=>by unfold flat at hf;cases hf
 | .str, .view ..,_,_,hf,_=>by unfold flat at hf;cases hf
 | .mX, .view ..,_,_,hf,_=>by unfold flat at hf;cases hf
 | .nul _, .view ..,_,_,hf,_=>by unfold flat at hf;cases hf
 | .map .., .view ..,_,_,hf,_=>by unfold flat at hf;cases hf
 | .pair _ _, .view ..,_,_,hf,_=>by unfold flat at hf;cases hf
 | .int _, .junk _,_,_,hf,_=>by unfold flat at hf;cases hf
 | .bool, .junk _,_,_,hf,_=>by unfold flat at hf;cases hf
 | .str, .junk _,_,_,hf,_=>by unfold flat at hf;cases hf
 | .slice _, .junk _,_,_,hf,_=>by unfold flat at hf;cases hf
 | .mX, .junk _,_,_,hf,_=>by unfold flat at hf;cases hf
 | .nul _, .junk _,_,_,hf,_=>by unfold flat at hf;cases hf
 | .map .., .junk _,_,_,hf,_=>by unfold flat at hf;cases hf
 | .pair _ _, .junk _,_,_,hf,_=>by unfold flat at hf;cases hf
 | .int _, .pair _ _,_,_,hf,_=>by unfold flat at hf;cases hf
 | .bool, .pair _ _,_,_,hf,_=>by unfold flat at hf;cases hf
 | .str, .pair _ _,_,_,hf,_=>by unfold flat at hf;cases hf
 | .mX, .pair _ _,_,_,hf,_=>by unfold flat at hf;cases hf
 | .nul _, .pair _ _,_,_,hf,_=>by unfold flat at hf;cases hf
 | .map .., .pair _ _,_,_,hf,_=>by unfold flat at hf;cases hf
 | .slice _, .pair _ _,_,_,hf,_=>by unfold flat at hf;cases hf
end
def Row.E1:Row->Tree
 | .slice _=> .nil
 | .pair a b=> .pair a.E1 b.E1
 |r=> .leaf r r.zero
def Row.qg(H:aW)(F:Nat->Prop)(w:World):(r:Row)->Holds H F w r.E1 r.je
 | .int _=>rfl
 | .bool=>rfl
 | .str=>rfl
 | .slice _=>rfl
 | .mX=>⟨rfl,ae,0,0,rfl⟩
 | .nul _=>rfl
 | .map .. =>⟨_,rfl, .inl ⟨rfl,rfl⟩⟩
 | .pair a b=>⟨_,_,rfl,Row.qg H F w a,Row.qg H F w b⟩
end
end Go.Proofs.YtfjgcenlllgonaaGreatDoor
