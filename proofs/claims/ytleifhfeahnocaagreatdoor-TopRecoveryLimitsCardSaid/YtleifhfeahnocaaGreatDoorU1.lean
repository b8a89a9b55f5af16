/- Joined texts: Base Mem Own More Lit Open Cut Glob Deep Sym Eff Path. -/
import Derived.WalkKit
import Derived.WalkSpells
import Derived.WalkLawsBesides
import Derived.LoopN
import Derived.Deep.Draws
import Derived.Deep.Quiet
import Derived.Maps.AppendAt
import Derived.OwnWalk
import Derived.KernelRfl
import Derived.MapKept
import Derived.Laws.StructEq
import Derived.Test.YtleifhfeahnocaaGreatDoorRows
import Derived.ProofKit
import Derived.OpenShut
import Derived.JoinedCond
import Derived.Deep.Slices
import Derived.Laws.Slices
set_option linter.defProp false
open _root_.Bool renaming false->ag,true->af,and_eq_true->ajH
open _root_.Option renaming none->ae,some->aa
open _root_.Array renaming getD_eq_getD_getElem?->ajn,getElem?_eq_getElem->ajb,toArray_toList->ajq
open _root_.Go.RowKit.Below renaming heap_alloc->ajG
open _root_.Classical renaming propDecidable->aiZ
open _root_.List renaming getElem?_eq_getElem->aiG,getElem?_eq_some_iff->aiW,mem_append->aje,drop_of_length_le->ajo,getElem?_drop->ajE,getElem?_take->ajI,getElem_append_left->ai7,getElem_append_right->ajc,getElem_of_mem->aiR,nil_append->ajf,range->ajp,replicate->aiN,size_toArray->ajT,getElem?_append->akj,length_cons->aiU,length_take->ajj,map_cons->ai2,take_append_drop->ajU,take_of_length_le->ajD
open _root_.Nat renaming beq->aiK,blt->ajg,le_refl->aiM,add_mul->ajW,add_zero->ajO,le_trans->aiY,mul_le_mul_right->aiV,min_eq_left->ajV,lt_of_lt_of_le->ai4
open _root_.Option.some renaming inj->aiF,injEq->aiO
open _root_.Go.Region renaming wanted->aj3
open _root_.Go.Value renaming oneCell'->ajZ,ownBlock->aiT
open _root_.Go.Builtin renaming append_->aka
open _root_.Go.Value.slice renaming injEq->ajS
open _root_.Go.World renaming cell?->ajr
open _root_.List.cons renaming injEq->ajw
open _root_.BitVec renaming ofInt->akf
open _root_.Int renaming tdiv->aiQ,tmod->ajd
open _root_.Prod.mk renaming inj->aj5
namespace Go.Proofs.YtleifhfeahnocaaGreatDoor
open Go Go.RowKit
set_option maxRecDepth 100000
set_option linter.unusedSimpArgs false
set_option linter.unusedVariables false
set_option linter.defProp false
section
def ai.{u}:type_of% @_root_.if_neg.{u}:= @_root_.if_neg.{u}
def aj.{u}:type_of% @_root_.if_pos.{u}:= @_root_.if_pos.{u}
def an:type_of% @_root_.of_decide_eq_true:= @_root_.of_decide_eq_true
def ao:type_of% @_root_.of_decide_eq_false:= @_root_.of_decide_eq_false
def aq:type_of% @_root_.decide_eq_true:= @_root_.decide_eq_true
def au:type_of% @_root_.decide_eq_false:= @_root_.decide_eq_false
def av.{u}:type_of% @_root_.implies_true.{u}:= @_root_.implies_true.{u}
def ax.{u}:type_of% @_root_.forall_const.{u}:= @_root_.forall_const.{u}
def ay.{u,v}:type_of% @_root_.congrArg.{u,v}:= @_root_.congrArg.{u,v}
def az:type_of% @_root_.decide_eq_true_eq:= @_root_.decide_eq_true_eq
def aA:type_of% @_root_.iff_of_false:= @_root_.iff_of_false
open Go Go.RowKit
inductive J5 where
 |map
 |ptr
 |func
def J5.val:J5->Value
 | .map=> .map ae
 | .ptr=> .pointer ae
 | .func=> .nilFunc
def J5.one(k:J5):k.val.oneCell'=af:=by cases k<;>simp[J5.val,ajZ]
inductive Row where
 |int (k:IntKind)
 |bool
 |str
 |slice (e:Row)
 |lS
 |nul (k:J5)
 |map (K:Row) (agg:Bool) (V:Row)
 |pair (a b:Row)
@[reducible] def Row.den:Row->Type
  | .int _=>Int
  | .bool=>Bool
  | .str=>ByteArray
  | .slice e=>List e.den
  | .lS=>Value
  | .nul _=>Unit
  | .map K _ V=>List (K.den×V.den)
  | .pair a b=>a.den×b.den
noncomputable instance Row.decEq:(r:Row)->DecidableEq r.den
 | .int _=>inferInstanceAs (DecidableEq Int)
 | .bool=>inferInstanceAs (DecidableEq Bool)
 | .str=>inferInstanceAs (DecidableEq ByteArray)
 | .slice e=>have:=Row.decEq e;inferInstanceAs (DecidableEq (List e.den))
 | .lS=>λa b=>aiZ (a=b)
 | .nul _=>inferInstanceAs (DecidableEq Unit)
 | .map K _ V=>have:=Row.decEq K;have:=Row.decEq V;inferInstanceAs (DecidableEq (List (K.den×V.den)))
 | .pair a b=>have:=Row.decEq a;have:=Row.decEq b;inferInstanceAs (DecidableEq (a.den×b.den))
@[simp] def Row.size:Row->Nat
  | .pair a b=>a.size+b.size
  |_=>1
theorem Row.size_pos:(r:Row)->0<r.size
 | .pair a b=>by have:=Row.size_pos a;simp;omega
 | .int _| .bool| .str| .slice _| .lS| .nul _| .map .. =>by simp
def pS:(K:Row)->K.den->Option Value
 | .int k,n=>aa (.int k n)
 | .bool,b=>aa (.bool b)
 | .str,s=>aa (.string s)
 |_,_=>ae
def cG(F:Nat->Prop)(w:World):(r:Row)->List Value->r.den->Prop
 | .int k,cs,n=>cs=[.int k n]
 | .bool,cs,b=>cs=[.bool b]
 | .str,cs,s=>cs=[.string s]
 | .slice e,cs,l=>∃A cap,cs=[.slice A l.length cap]/\l.length<=cap/\cap<=maxLen/\
     ∀i(h:i<l.length),∃b off es,A=aa ⟨b,off,ae⟩/\F b/\es.length=e.size/\
      (∀j u,es[j]? =aa u->w.cell? ⟨b,off+i*e.size+j,ae⟩=aa u)/\cG F w e es l[i]
 | .lS,cs,v=>cs=[v]/\∃A m c,v= .slice A m c
 | .nul k,cs,_=>cs=[k.val]
 | .map K agg V,cs,l=>∃v,cs=[v]/\((v= .map ae/\l=[])\/∃b es clock,v= .map (aa b)/\F b/\w.heap[b]? =aa (.map es clock)/\MapKept.Stamped es clock/\es.size=l.length/\
     ∀i(h:i<l.length),∃(e:MapEntry)(cs:List Value),es[i]? =aa e/\pS K l[i].1=aa e.key/\cG F w V cs l[i].2/\e.val=(bif agg then .agg cs.toArray else cs.headD undef)/\(agg=ag->cs=[e.val]))
 | .pair a b,cs,d=>∃c1 c2,cs=c1++c2/\cG F w a c1 d.1/\cG F w b c2 d.2
theorem cG.length{F:Nat->Prop}{w:World}:{r:Row}->{cs:List Value}->{d:r.den}->cG F w r cs d->cs.length=r.size
 | .int _,_,_,h=>by rw[show _=_ from h];rfl
 | .bool,_,_,h=>by rw[show _=_ from h];rfl
 | .str,_,_,h=>by rw[show _=_ from h];rfl
 | .slice _,_,_,h=>by obtain⟨A,cap,h,_⟩:=h;rw[h];rfl
 | .lS,_,_,h=>by rw[h.1];rfl
 | .nul _,_,_,h=>by rw[show _=_ from h];rfl
 | .map ..,_,_,h=>by obtain⟨v,rfl,_⟩:=h;rfl
 | .pair a b,_,_,h=>by
   obtain⟨c1,c2,rfl,h1,h2⟩:=h;simp[h1.length,h2.length]
def cG.kw{F:Nat->Prop}{w:World}:{r:Row}->{cs:List Value}->{d:r.den}->cG F w r cs d->∀u∈cs,u.oneCell'=af
 | .int _,_,_,h=>by rw[show _=_ from h];simp[ajZ]
 | .bool,_,_,h=>by rw[show _=_ from h];simp[ajZ]
 | .str,_,_,h=>by rw[show _=_ from h];simp[ajZ]
 | .slice _,_,_,h=>by obtain⟨A,cap,rfl,_⟩:=h;simp[ajZ]
 | .lS,_,_,h=>by obtain⟨rfl,A,m,c,rfl⟩:=h;simp[ajZ]
 | .nul k,_,_,h=>by rw[show _=_ from h];simp[k.one]
 | .map ..,_,_,h=>by
   obtain⟨v,rfl,h⟩:=h
   rcases h with⟨rfl,_⟩|⟨b,es,clock,rfl,_⟩<;>simp[ajZ]
 | .pair a b,_,_,h=>by
   obtain⟨c1,c2,rfl,h1,h2⟩:=h;intro u hu
   rcases aje.1 hu with h'|h'
   .exact h1.kw u h'
   .exact h2.kw u h'
def Step(F:Nat->Prop)(w:World)(F':Nat->Prop)(w':World):Prop:=∀b,F b->F' b/\w'.heap[b]? =w.heap[b]?
def cG.step{F F':Nat->Prop}{w w':World}(ho:Step F w F' w'):{r:Row}->{cs:List Value}->{d:r.den}->cG F w r cs d->cG F' w' r cs d
 | .int _,_,_,h=>h
 | .bool,_,_,h=>h
 | .str,_,_,h=>h
 | .slice e,_,l,h=>by
   obtain⟨A,cap,hc,h1,h2,h3⟩:=h;refine⟨A,cap,hc,h1,h2,λi hi=>?_⟩;obtain⟨b,off,es,hA,hb,vd,BN,hr⟩:=h3 i hi;exact⟨b,off,es,hA,(ho b hb).1,vd,λj u hu=>(World.cell?_of_block (ho b hb).2).trans (BN j u hu),hr.step ho⟩
 | .lS,_,_,h=>h
 | .nul _,_,_,h=>h
 | .map K agg V,_,l,h=>by
   obtain⟨v,hv,h⟩:=h;refine⟨v,hv,h.imp id λ⟨b,es,clock,h1,h2,h3,h4,h5,h6⟩=>⟨b,es,clock,h1,(ho b h2).1,(ho b h2).2.trans h3,h4,h5,λi hi=>?_⟩⟩;obtain⟨e,cs,g1,g2,g3,g4⟩:=h6 i hi;exact⟨e,cs,g1,g2,g3.step ho,g4⟩
 | .pair a b,_,_,h=>by
   obtain⟨c1,c2,hc,h1,h2⟩:=h;exact⟨c1,c2,hc,h1.step ho,h2.step ho⟩
def At(F:Nat->Prop)(w:World)(r:Row)(b off:Nat)(x:r.den):Prop:=
 ∃es,es.length=r.size/\(∀j u,es[j]? =aa u->w.cell? ⟨b,off+j,ae⟩=aa u)/\cG F w r es x
def At.fst{F:Nat->Prop}{w:World}{r s:Row}{b off:Nat}{x:(Row.pair r s).den}(h:At F w (.pair r s) b off x):At F w r b off x.1:=by
 obtain⟨es,hl,hc,c1,c2,rfl,h1,h2⟩:=h;exact⟨c1,h1.length,(by grind),h1⟩
def At.snd{F:Nat->Prop}{w:World}{r s:Row}{b off:Nat}{x:(Row.pair r s).den}(h:At F w (.pair r s) b off x)(k:Nat)(hk:k=r.size):At F w s b (off+k) x.2:=by
 obtain⟨es,hl,hc,c1,c2,rfl,h1,h2⟩:=h;subst hk
 exact⟨c2,h2.length,λj u hu=>by
  have:=hc (r.size+j) u (by
   grind [cG.length])
  grind,h2⟩
def cG.nil(F:Nat->Prop)(w:World)(e:Row):cG F w (.slice e) [.slice ae 0 0] []:=⟨ae,0,rfl,aiM _,by simp[maxLen],λi hi=>absurd hi (by simp)⟩
def cG.Ef{F:Nat->Prop}{w:World}{e:Row}{v:Value}{l:List e.den}(h:cG F w (.slice e) [v] l):
 ∃A cap,v= .slice A l.length cap/\l.length<=cap/\cap<=9223372036854775807:=by
 obtain⟨A,cap,h1,h2,h3,_⟩:=h;exact⟨A,cap,by simpa using h1,h2,h3⟩
def Step.refl(F:Nat->Prop)(w:World):Step F w F w:=λ_ h=>⟨h,rfl⟩
def Step.trans{F F1 F2:Nat->Prop}{w w1 w2:World}(h:Step F w F1 w1)(k:Step F1 w1 F2 w2):Step F w F2 w2:=λb hb=>⟨(k b (h b hb).1).1,(k b (h b hb).1).2.trans (h b hb).2⟩
def Step.drew(F:Nat->Prop)(w:World):Step F w F w.drew:=λ_ h=>⟨h,rfl⟩
def Step.alloc{F:Nat->Prop}{w:World}(h:∀b,F b->b<w.heap.size)(o:Obj):Step F w F (w.alloc o):=λb hb=>⟨hb,ajG w o b (h b hb)⟩
def Step.freeze(F:Nat->Prop)(w:World)(G:Nat->Prop):Step F w (λb=>F b\/G b) w:=λ_ h=>⟨.inl h,rfl⟩
structure Fr(n:Nat)(a:Act)(ρ:Nat->Value):Prop where
 size:a.tmps.size=n
 defers:a.defers=[]
 get:∀t,a.tmps.getD t undef=ρ t
def Eg(ρ:Nat->Value)(d:Nat)(v:Value):Nat->Value:=λt=>bif aiK t d then v else ρ t
def ev(ρ:Nat->Value):Operand->Value
 | .tmp t=>ρ t
 | .const v=>v
 | .global g=> .pointer (aa ⟨g,0,ae⟩)
 | .func f=> .func (.func f) #[] #[]
def Fr.eval{n:Nat}{a:Act}{ρ:Nat->Value}(h:Fr n a ρ):a.eval=ev ρ:=by
 funext x
 cases x with
 |tmp t=>exact h.get t
 |const v=>rfl
 |global g=>rfl
 |func f=>rfl
def Fr.put{n:Nat}{a:Act}{ρ:Nat->Value}(h:Fr n a ρ){d:Nat}(hd:ajg d n=af)(v:Value):Fr n (a.put (aa d) v) (Eg ρ d v):=by
 have aH:d<n:=by simpa[Nat.blt_eq]using hd
 refine⟨by simpa[Act.put]using h.size,by simpa[Act.put]using h.defers,λt=>?_⟩;have hs:=h.size;have hg:=h.get t;simp only[Act.put,ajn,Array.getElem?_setIfInBounds]at hg⊢;unfold Eg;by_cases ht:t=d
 .simp_all
 .have du:¬d=t:=λe=>ht e.symm
  grind [Nat.eq_of_beq_eq_true]
def wpS(P:Program)(n:Nat)(ops:Array Oper)(K:(Nat->Value)->World->Prop)(l:List Oper)(ρ:Nat->Value)(w:World):Prop:=
 ∀(Q:Exit->Act->World->Prop)(a:Act),Fr n a ρ->(∀a' dE w',Fr n a' dE->K dE w'->Q .normal a' w')->wpList P ops Q l a w
section
variable {P:Program} {n:Nat} {ops:Array Oper} {K:(Nat->Value)->World->Prop} {rest:List Oper} {ρ:Nat->Value} {w:World}
def NB(h:K ρ w):wpS P n ops K [] ρ w:=λ_ _ hf hk=>hk _ _ _ hf h
def Pure(P:Program)(ρ:Nat->Value)(o:Oper)(v:Value):Prop:=∀w,(execOp (ev ρ) o).run P w= .ok (.value v) w
def pb{a:Act}(hf:Fr n a ρ){j d:Nat}{b:Bool}(hj:(ops[j]?).bind (·.dst)=aa d)(hd:ajg d n=af)(hb:ρ d= .bool b):yielded ops a.tmps j=aa b:=by
 have aH:d<n:=by simpa[Nat.blt_eq]using hd
 have hg:=hf.get d;have hs:=hf.size;rw[hb]at hg
 have:a.tmps[d]? =aa (.bool b):=by
  rw[ajn]at hg;rw[ajb (by omega)]at hg⊢;simpa using hg
 unfold yielded;rw[hj];simp[this]
def QE{dst:Option Nat}{op:Op}{ty:TypeId}{pos:String}{aft:Array Edge}{j:Nat}{b:Bool}(d:Nat)(hj:(ops[j]?).bind (·.dst)=aa d)(hd:ajg d n=af)(hb:ρ d= .bool b)
 (h:wpS P n ops K (⟨dst,op,ty,pos,aft,ae⟩::rest) ρ w):wpS P n ops K (⟨dst,op,ty,pos,aft,aa (j,b)⟩::rest) ρ w:=
 λQ a hf hk=>by
  have:=h Q a hf hk;unfold wpList at this⊢;rw[aj (by simp[aj3])]at this;rw[aj (by simp[aj3,pb hf hj hd hb])];exact this
def NC{d':Nat}{op:Op}{ty:TypeId}{pos:String}{aft:Array Edge}{j:Nat}{b b':Bool}(d:Nat)(hj:(ops[j]?).bind (·.dst)=aa d)(hd:ajg d n=af)(hb:ρ d= .bool b')(du:b'≠b)(BG:ajg d' n=af)
 (h:wpS P n ops K rest (Eg ρ d' undef) w):wpS P n ops K (⟨aa d',op,ty,pos,aft,aa (j,b)⟩::rest) ρ w:=
 λQ a hf hk=>by
  have:=h Q _ (hf.put BG undef) hk;unfold wpList;rw[ai (by simp[aj3,pb hf hj hd hb,du])];exact this
def zX{op:Op}{ty:TypeId}{pos:String}{aft:Array Edge}{j:Nat}{b b':Bool}(d:Nat)(hj:(ops[j]?).bind (·.dst)=aa d)(hd:ajg d n=af)(hb:ρ d= .bool b')(du:b'≠b)
 (h:wpS P n ops K rest ρ w):wpS P n ops K (⟨ae,op,ty,pos,aft,aa (j,b)⟩::rest) ρ w:=
 λQ a hf hk=>by
  have:=h Q _ hf hk;unfold wpList;rw[ai (by simp[aj3,pb hf hj hd hb,du])];exact this
def om{a:Act}(hf:Fr n a ρ){j d:Nat}(hj:(ops[j]?).bind (·.dst)=aa d)(hd:ajg d n=af)(hb:ρ d=undef):yielded ops a.tmps j=ae:=by
 have aH:d<n:=by simpa[Nat.blt_eq]using hd
 have hg:=hf.get d;have hs:=hf.size;rw[hb]at hg
 have:a.tmps[d]? =aa undef:=by
  rw[ajn]at hg;rw[ajb (by omega)]at hg⊢;simpa using hg
 unfold yielded;rw[hj];simp[this,undef]
def Kp{d':Nat}{op:Op}{ty:TypeId}{pos:String}{aft:Array Edge}{j:Nat}{b:Bool}(d:Nat)(hj:(ops[j]?).bind (·.dst)=aa d)(hd:ajg d n=af)(hb:ρ d=undef)(BG:ajg d' n=af)
 (h:wpS P n ops K rest (Eg ρ d' undef) w):wpS P n ops K (⟨aa d',op,ty,pos,aft,aa (j,b)⟩::rest) ρ w:=
 λQ a hf hk=>by
  have:=h Q _ (hf.put BG undef) hk;unfold wpList;rw[ai (by simp[aj3,om hf hj hd hb])];exact this
def xR{op:Op}{ty:TypeId}{pos:String}{aft:Array Edge}{j:Nat}{b:Bool}(d:Nat)(hj:(ops[j]?).bind (·.dst)=aa d)(hd:ajg d n=af)(hb:ρ d=undef)
 (h:wpS P n ops K rest ρ w):wpS P n ops K (⟨ae,op,ty,pos,aft,aa (j,b)⟩::rest) ρ w:=
 λQ a hf hk=>by
  have:=h Q _ hf hk;unfold wpList;rw[ai (by simp[aj3,om hf hj hd hb])];exact this
end
def xI(P:Program)(n:Nat)(c:Code)(Q:Exit->(Nat->Value)->World->Prop)(ρ:Nat->Value)(w:World):Prop:=
 ∀a,Fr n a ρ->c.wp P (λe a' w'=>∃dE,Fr n a' dE/\Q e dE w') a w
def thn(K:(Nat->Value)->World->Prop)(Q:Exit->(Nat->Value)->World->Prop):Exit->(Nat->Value)->World->Prop
 | .normal,ρ,w=>K ρ w
 |e,ρ,w=>Q e ρ w
def Tp(id:Nat)(Q:Exit->(Nat->Value)->World->Prop):Exit->(Nat->Value)->World->Prop
 | .exit HH,ρ,w=>bif aiK HH id then Q .normal ρ w else Q (.exit HH) ρ w
 |e,ρ,w=>Q e ρ w
section
variable {P:Program} {n:Nat} {Q:Exit->(Nat->Value)->World->Prop} {ρ:Nat->Value} {w:World}
def Eh{id:Nat}{l:List Oper}(h:wpS P n l.toArray (λρ w=>Q .normal ρ w) l ρ w):xI P n (.region id l.toArray ag) Q ρ w:=
 λa hf=>wp_region_lit (h _ a hf λ_ _ _ uD hk=>⟨_,uD,hk⟩)
def zY{a b:Code}(h:xI P n a (thn (λρ w=>xI P n b Q ρ w) Q) ρ w):xI P n (.seq a b) Q ρ w:=
 λact hf=>wp_seq (wp_mono (h act hf) λe a' w' ⟨dE,uD,hh⟩=>by
  cases e with
  |normal=>exact hh a' uD
  |_=>exact⟨dE,uD,hh⟩)
def Kq(h:Q .normal ρ w):xI P n .skip Q ρ w:=λ_ hf=>wp_skip ⟨_,hf,h⟩
def Kr{id:Nat}(h:Q (.exit id) ρ w):xI P n (.exit id) Q ρ w:=λ_ hf=>wp_exit ⟨_,hf,h⟩
def ND(h:Q .ret ρ w):xI P n .ret Q ρ w:=λ_ hf=>wp_ret ⟨_,hf,h⟩
def tD{id:Nat}{c:Code}(h:xI P n c (Tp id Q) ρ w):xI P n (.block id c) Q ρ w:=
 λa hf=>wp_block (wp_mono (h a hf) λe a' w' ⟨dE,uD,hh⟩=>by
  cases e with
  |exit HH=>
   unfold Exit.inBlock;by_cases he:HH=id
   .subst he;simp only[Tp,show aiK HH HH=af from Nat.beq_refl _,cond_true]at hh;simpa using⟨dE,uD,hh⟩
   .have hb:aiK HH id=ag:=by
     cases HI:aiK HH id with
     |false=>rfl
     |true=>exact absurd (Nat.eq_of_beq_eq_true HI) he
    simp only[Tp,hb,cond_false]at hh;simpa[he]using⟨dE,uD,hh⟩
  |_=>exact⟨dE,uD,hh⟩)
def BO{c:Operand}{x y:Code}(b:Bool)(hc:ev ρ c= .bool b)(h:xI P n (bif b then x else y) Q ρ w):xI P n (.cond c x y) Q ρ w:=
 λa hf=>wp_cond (t:=b) (by rw[hf.eval];exact hc) (by
  have:=h a hf
  cases b<;>exact this)
def Ks{c:Operand}{x y:Code}(hc:ev ρ c= .bool af)(h:xI P n x Q ρ w):xI P n (.cond c x y) Q ρ w:=BO af hc h
def HJ{c:Operand}{x y:Code}(hc:ev ρ c= .bool ag)(h:xI P n y Q ρ w):xI P n (.cond c x y) Q ρ w:=BO ag hc h
def Loop{S X:Type}(body:S->Option (S⊕X)):Nat->S->Option X
 |0,_=>ae
 |k+1,s=>match body s with
  |none=>ae
  |some (.inl s')=>Loop body k s'
  |some (.inr x)=>aa x
def PD{S X:Type}(I:S->(Nat->Value)->World->Prop)(Q:Exit->(Nat->Value)->World->Prop)(x:X):S⊕X->Exit->(Nat->Value)->World->Prop
 | .inl s',e,ρ,w=>e= .normal/\I s' ρ w
 | .inr x',e,ρ,w=>e≠ .normal/\(x'=x->Q e ρ w)
def Kt{S X:Type}{body:S->Option (S⊕X)}{c:Code}(I:S->(Nat->Value)->World->Prop){x:X}{N:Nat}{s:S}(hm:Loop body N s=aa x)(h0:I s ρ w)
 (hb:∀s ρ w y,I s ρ w->body s=aa y->xI P n c (PD I Q x y) ρ w):xI P n (.loop c) Q ρ w:=by
 intro a hf;refine wp_loop_rounds N ?_
 induction N generalizing s ρ w a with
 |zero=>cases hm
 |succ k ih=>
  rw[rounds_succ];unfold Loop at hm
  cases hy:body s with
  |none=>simp[hy]at hm
  |some y=>
   refine wp_mono (hb s ρ w y h0 hy a hf) λe a' w' ⟨dE,uD,hh⟩=>?_
   cases y with
   |inl s'=>
    obtain⟨rfl,hI⟩:=hh;rw[hy]at hm;exact ih hm hI a' uD
   |inr x'=>
    rw[hy]at hm;obtain⟨du,hq⟩:=hh;have:=hq (aiF hm)
    cases e with
    |normal=>exact absurd rfl du
    |_=>exact⟨dE,uD,this⟩
def TR(P:Program)(fn:Func)(n:Nat)(R:Value->World->Prop):Exit->(Nat->Value)->World->Prop
 | .normal,ρ,w| .ret,ρ,w=>∀a,Fr n a ρ->∃v,(results fn a.tmps).run P w= .ok v w/\R v w
 |_,_,_=>False
def zZ{f:FuncId}{fn:Func}{c:Code}{args:List Value}{R:Value->World->Prop}(hf:P.funcs[f]? =aa fn)(hb:fn.body=aa c)(hn:args.length<=fn.ntmps)
 (h:∀ρ,(∀t v,args[t]? =aa v->ρ t=v)->xI P fn.ntmps c (TR P fn fn.ntmps R) ρ w):
 Calls P f args.toArray w λe w'=>∃v,e= .returned v/\R v w':=by
 refine calls_of_wp hf hb ?_
 have kP:(args.toArray++Array.replicate (fn.ntmps-args.toArray.size) undef).size=fn.ntmps:=by simp;omega
 refine wp_mono (h (λt=>(args.toArray++Array.replicate (fn.ntmps-args.toArray.size) undef).getD t undef) ?_ _ ⟨kP,rfl,λt=>rfl⟩) λe a' w' ⟨dE,uD,hh⟩=>?_
 .intro t v hv;have aH:t<args.length:=(aiW.1 hv).1
  have dZ:args[t]=v:=by rw[aiG aH]at hv;exact aiF hv
  simp[ajn,Array.getElem?_append,aH,dZ]
 .cases e with
  |normal=>exact⟨uD.defers,(hh a' uD).imp λv hv=>⟨hv.1,v,rfl,hv.2⟩⟩
  |ret=>exact⟨uD.defers,(hh a' uD).imp λv hv=>⟨hv.1,v,rfl,hv.2⟩⟩
  |_=>exact hh.elim
end
end
end Go.Proofs.YtleifhfeahnocaaGreatDoor
section
open _root_.Bool renaming false->ag,true->af
open _root_.Option renaming none->ae,some->aa
open _root_.List renaming append_nil->ajv,drop_of_length_le->ajo,nil_append->ajf,take_of_length_le->ajD
open _root_.Nat renaming zero_add->ajh
open _root_.Go.Sem renaming run_bind->ai1
namespace Go.Proofs.YtleifhfeahnocaaGreatDoor
open Go Go.RowKit
def qC{α:Type}[BEq α][LawfulBEq α][DecidableEq α](a b:α):(a==b)=decide (a=b):=by
 grind
def run_equal_bool{P:Program}{t:TypeId}(ht:P.underlying t=aa .bool)(p q:Bool)(w:World):(Op.equal t (.bool p) (.bool q)).run P w= .ok (p==q) w:=by
 have h:∀d:Nat,(Op.equalIn (d+1) t (.bool p) (.bool q)).run P w= .ok (p==q) w:=λd=>by
  simp[Op.equalIn,run_underlying ht]
 exact h 9999
section
variable {P:Program} {ρ:Nat->Value} {d:Option Nat} {ty:TypeId} {pos:String} {aft:Array Edge} {x y c:Operand} {t u:TypeId} {k:IntKind} {a b:Int}
def HK{v:Value}(h:ev ρ x=v):Pure P ρ ⟨d, .move x,ty,pos,aft,ae⟩ v:=λw=>by simp[execOp,h]
def BP{v:Value}(h:ev ρ x=v):Pure P ρ ⟨d, .assign x,ty,pos,aft,ae⟩ v:=λw=>by simp[execOp,h]
def vK{v:Value}(hc:ev ρ c= .bool af)(hx:ev ρ x=v):Pure P ρ ⟨d, .pick c x y,ty,pos,aft,ae⟩ v:=λw=>by
 simp[execOp,asBool,hc,hx]
def vf{v:Value}(hc:ev ρ c= .bool ag)(hy:ev ρ y=v):Pure P ρ ⟨d, .pick c x y,ty,pos,aft,ae⟩ v:=λw=>by
 simp[execOp,asBool,hc,hy]
def Ku(hx:ev ρ x= .int k a)(hy:ev ρ y= .int k b):Pure P ρ ⟨d, .binOp .add t x y u,ty,pos,aft,ae⟩ (.int k (k.wrap (a+b))):=λw=>by
 simp[execOp,eqGuard,binOp,Op.intArith,hx,hy]
def Kv(hx:ev ρ x= .int k a)(hy:ev ρ y= .int k b):Pure P ρ ⟨d, .binOp .sub t x y u,ty,pos,aft,ae⟩ (.int k (k.wrap (a-b))):=λw=>by
 simp[execOp,eqGuard,binOp,Op.intArith,hx,hy]
def Kw(hx:ev ρ x= .int k a)(hy:ev ρ y= .int k b):Pure P ρ ⟨d, .binOp .mul t x y u,ty,pos,aft,ae⟩ (.int k (k.wrap (a*b))):=λw=>by
 simp[execOp,eqGuard,binOp,Op.intArith,hx,hy]
def Kx(hx:ev ρ x= .int k a)(hy:ev ρ y= .int k b)(hb:b≠0):Pure P ρ ⟨d, .binOp .quo t x y u,ty,pos,aft,ae⟩ (.int k (k.wrap (a.tdiv b))):=λw=>by
 simp[execOp,eqGuard,binOp,Op.intDiv,hx,hy,hb]
def Ky(hx:ev ρ x= .int k a)(hy:ev ρ y= .int k b)(hb:b≠0):Pure P ρ ⟨d, .binOp .rem t x y u,ty,pos,aft,ae⟩ (.int k (a.tmod b)):=λw=>by
 simp[execOp,eqGuard,binOp,Op.intDiv,hx,hy,hb]
def Kz(hx:ev ρ x= .int k a)(hy:ev ρ y= .int k b):Pure P ρ ⟨d, .binOp .lss t x y u,ty,pos,aft,ae⟩ (.bool (decide (a<b))):=λw=>by
 simp[execOp,eqGuard,binOp,Op.intCmp,hx,hy]
def KA(hx:ev ρ x= .int k a)(hy:ev ρ y= .int k b):Pure P ρ ⟨d, .binOp .leq t x y u,ty,pos,aft,ae⟩ (.bool (decide (a<=b))):=λw=>by
 simp[execOp,eqGuard,binOp,Op.intCmp,hx,hy]
def KB(hx:ev ρ x= .int k a)(hy:ev ρ y= .int k b):Pure P ρ ⟨d, .binOp .gtr t x y u,ty,pos,aft,ae⟩ (.bool (decide (b<a))):=λw=>by
 simp[execOp,eqGuard,binOp,Op.intCmp,hx,hy]
def KC(hx:ev ρ x= .int k a)(hy:ev ρ y= .int k b):Pure P ρ ⟨d, .binOp .geq t x y u,ty,pos,aft,ae⟩ (.bool (decide (b<=a))):=λw=>by
 simp[execOp,eqGuard,binOp,Op.intCmp,hx,hy]
def KD(hx:ev ρ x= .int k a)(hy:ev ρ y= .int k b):Pure P ρ ⟨d, .binOp .eql t x y u,ty,pos,aft,ae⟩ (.bool (decide (a=b))):=λw=>by
 simp[execOp,eqGuard,binOp,Op.intCmp,hx,hy,qC]
def KE(hx:ev ρ x= .int k a)(hy:ev ρ y= .int k b):Pure P ρ ⟨d, .binOp .neq t x y u,ty,pos,aft,ae⟩ (.bool (!decide (a=b))):=λw=>by
 simp[execOp,eqGuard,binOp,Op.intCmp,hx,hy,bne,qC]
def HL{p q:Bool}(ht:P.underlying t=aa .bool)(hx:ev ρ x= .bool p)(hy:ev ρ y= .bool q):Pure P ρ ⟨d, .binOp .eql t x y u,ty,pos,aft,ae⟩ (.bool (decide (p=q))):=λw=>by
 have h:=run_equal_bool ht p q w;rw[qC]at h;simp only[execOp,eqGuard,hx,hy];simp[binOp,h]
def HM{p q:Bool}(ht:P.underlying t=aa .bool)(hx:ev ρ x= .bool p)(hy:ev ρ y= .bool q):Pure P ρ ⟨d, .binOp .neq t x y u,ty,pos,aft,ae⟩ (.bool (!decide (p=q))):=λw=>by
 have h:=run_equal_bool ht p q w;rw[qC]at h;simp only[execOp,eqGuard,hx,hy];simp[binOp,h]
def bytes_beq(p q:ByteArray):(p.toList==q.toList)=decide (p=q):=by
 rw[qC]
 congr 1
 rw[ByteArray.toList_eq,ByteArray.toList_eq];refine propext ⟨λh=>?_,λh=>by rw[h]⟩;cases p;cases q;simpa using h
def HN{p q:ByteArray}(hx:ev ρ x= .string p)(hy:ev ρ y= .string q):Pure P ρ ⟨d, .binOp .eql t x y u,ty,pos,aft,ae⟩ (.bool (decide (p=q))):=λw=>by
 simp[execOp,eqGuard,binOp,Op.stringOp,hx,hy,bytes_beq]
def HO{p q:ByteArray}(hx:ev ρ x= .string p)(hy:ev ρ y= .string q):Pure P ρ ⟨d, .binOp .neq t x y u,ty,pos,aft,ae⟩ (.bool (!decide (p=q))):=λw=>by
 simp[execOp,eqGuard,binOp,Op.stringOp,hx,hy,bytes_beq]
def KF{p:Bool}(hx:ev ρ x= .bool p):Pure P ρ ⟨d, .unOp .not t x,ty,pos,aft,ae⟩ (.bool !p):=λw=>by
 simp[execOp,Op.unary,hx]
def KG(hx:ev ρ x= .int k a):Pure P ρ ⟨d, .unOp .neg t x,ty,pos,aft,ae⟩ (.int k (k.wrap (0-a))):=λw=>by
 simp[execOp,Op.unary,Op.intArith,hx]
def HP{k':IntKind}{e:TypeDesc}(hs:P.underlying t=aa e)(hu:P.underlying u=aa (.int k'))(hx:ev ρ x= .int k a):Pure P ρ ⟨d, .convert t u x,ty,pos,aft,ae⟩ (.int k' (k'.wrap a)):=λw=>by
 simp[execOp,convert,run_underlying hs,run_underlying hu,hx,Conv.intToInt]
def KH{e:TypeId}{A:Option Addr}{n cap:Nat}{m:Nat}(hm:m=n)(ht:P.underlying t=aa (.slice e))(hx:ev ρ x= .slice A n cap):
 Pure P ρ ⟨d, .call {callee:= .builtin .len,args:= #[x],argTypes:= #[t]},ty,pos,aft,ae⟩ (.int .i64 (m:Int)):=λw=>by
 subst hm;simp[execOp,resolve,invoke,builtin,Builtin.len_,run_underlying ht,hx,goInt]
def HQ{s:ByteArray}(ht:P.underlying t=aa .string)(hx:ev ρ x= .string s):
 Pure P ρ ⟨d, .call {callee:= .builtin .len,args:= #[x],argTypes:= #[t]},ty,pos,aft,ae⟩ (.int .i64 (s.size:Int)):=λw=>by
 simp[execOp,resolve,invoke,builtin,Builtin.len_,run_underlying ht,hx,goInt]
def HS{e:TypeId}(ht:P.underlying t=aa (.slice e))(hx:ev ρ x= .slice ae 0 0):
 Pure P ρ ⟨d, .call {callee:= .builtin .cap,args:= #[x],argTypes:= #[t]},ty,pos,aft,ae⟩ (.int .i64 0):=λw=>by
 simp[execOp,resolve,invoke,builtin,Builtin.cap_,run_underlying ht,hx,goInt]
def HT{t':TypeId}(hx:ev ρ x= .int k a)(hy:ev ρ y= .int k b):
 Pure P ρ ⟨d, .call {callee:= .builtin .max,args:= #[x,y],argTypes:= #[t,t']},ty,pos,aft,ae⟩ (.int k (if a<b then b else a)):=λw=>by
 simp[execOp,resolve,invoke,builtin,Builtin.max_,Builtin.max2,hx,hy]
def HU{t':TypeId}(hx:ev ρ x= .int k a)(hy:ev ρ y= .int k b):
 Pure P ρ ⟨d, .call {callee:= .builtin .min,args:= #[x,y],argTypes:= #[t,t']},ty,pos,aft,ae⟩ (.int k (if b<a then b else a)):=λw=>by
 simp[execOp,resolve,invoke,builtin,Builtin.min_,Builtin.min2,hx,hy]
def z6{vs:Array Value}{i:Nat}{v:Value}(hx:ev ρ x= .tuple vs)(hi:vs[i]? =aa v):Pure P ρ ⟨d, .extract x i,ty,pos,aft,ae⟩ v:=λw=>by
 simp[execOp,Instr.extract,hx,hi]
theorem dg(b o k:Nat):(⟨b,o,ae⟩:Addr).add k=⟨b,o+k,ae⟩:=by unfold Addr.add;grind
theorem vL{f:Nat}{fs:Array Field}{fd:Field}{ti:TypeInfo}{ny off:Nat}(k:Nat)(hs:P.underlying t=aa (.struct fs))(hf:fs[f]? =aa fd)(hi:P.info? fd.type=aa ti)(kP:ti.size≠0)(hk:fd.offset=k)
 (hx:ev ρ x= .pointer (aa ⟨ny,off,ae⟩)):Pure P ρ ⟨d, .fieldAddr t x f,ty,pos,aft,ae⟩ (.pointer (aa ⟨ny,off+k,ae⟩)):=λw=>by
 subst hk;simp[execOp,Instr.fieldAt,run_underlying hs,hf,Instr.sureAddr,fieldPlace,sizeOf,typeInfo,hi,kP,hx,dg]
def nz{e:TypeId}{ti:TypeInfo}{ny off n cap i:Nat}(size:Nat)(ht:P.underlying t=aa (.slice e))(hi:P.info? e=aa ti)(kP:ti.size=size)
 (hx:ev ρ x= .slice (aa ⟨ny,off,ae⟩) n cap)(hy:ev ρ y= .int k a)(ha:a=(i:Int))(aH:i<n):
 Pure P ρ ⟨d, .indexAddr t x y,ty,pos,aft,ae⟩ (.pointer (aa ⟨ny,off+i*size,ae⟩)):=λw=>by
 subst kP;subst ha;simp[execOp,Instr.indexAt,asIntOf,run_underlying ht,sizeOf,typeInfo,hi,hx,hy,aH,dg]
end
end Go.Proofs.YtleifhfeahnocaaGreatDoor
namespace Go.Proofs.YtleifhfeahnocaaGreatDoor
open Go Go.RowKit
inductive Path:Row->Row->Type where
 |here {r:Row}:Path r r
 |fst {a b s:Row} (p:Path a s):Path (.pair a b) s
 |snd {a b s:Row} (p:Path b s):Path (.pair a b) s
def Path.off:{r s:Row}->Path r s->Nat
 |_,_, .here=>0
 |_,_, .fst p=>p.off
 |_,_, .snd (a:=a) p=>a.size+p.off
@[reducible] def Path.get:{r s:Row}->Path r s->r.den->s.den
  |_,_, .here,x=>x
  |_,_, .fst p,x=>p.get x.1
  |_,_, .snd p,x=>p.get x.2
@[reducible] def Path.set:{r s:Row}->Path r s->r.den->s.den->r.den
  |_,_, .here,_,y=>y
  |_,_, .fst p,x,y=>(p.set x.1 y,x.2)
  |_,_, .snd p,x,y=>(x.1,p.set x.2 y)
section
variable {F:Nat->Prop} {w:World}
def Path.le:{r s:Row}->(p:Path r s)->p.off+s.size<=r.size
 |_,_, .here=>by simp[Path.off]
 |_,_, .fst p=>by have:=p.le;simp[Path.off];omega
 |_,_, .snd p=>by have:=p.le;simp[Path.off];omega
def cG.path:{r s:Row}->(p:Path r s)->{es:List Value}->{x:r.den}->cG F w r es x->cG F w s ((es.drop p.off).take s.size) (p.get x)
 |_,_, .here,es,x,h=>by
  have:=h.length;simp only[Path.off,List.drop_zero,Path.get]
  grind
 |_,s, .fst (a:=a) p,_,x,h=>by
  obtain⟨c1,c2,rfl,h1,h2⟩:=h;have hr:=cG.path p h1;have hle:=p.le;have hl:=h1.length;simp only[Path.off,Path.get]
  grind
 |_,s, .snd (a:=a) p,_,x,h=>by
  obtain⟨c1,c2,rfl,h1,h2⟩:=h;have hr:=cG.path p h2;have hl:=h1.length;simp only[Path.off,Path.get]
  grind [List.drop_append,ajo]
def cG.put:{r s:Row}->(p:Path r s)->{es vs:List Value}->{x:r.den}->{y:s.den}->cG F w r es x->cG F w s vs y->
 cG F w r (es.take p.off++vs++es.drop (p.off+s.size)) (p.set x y)
 |_,_, .here,es,vs,x,y,h,hv=>by
  have:=h.length;simp only[Path.off,Path.set,List.take_zero,ajf,ajh];rw[<-this,List.drop_length,ajv];exact hv
 |_,s, .fst (a:=a) p,_,vs,x,y,h,hv=>by
  obtain⟨c1,c2,rfl,h1,h2⟩:=h;have hr:=cG.put p h1 hv;have hle:=p.le;have hl:=h1.length;refine⟨_,c2,?_,hr,h2⟩;simp only[Path.off];rw[List.take_append_of_le_length (by omega),List.drop_append_of_le_length (by omega)];simp[List.append_assoc]
 |_,s, .snd (a:=a) p,_,vs,x,y,h,hv=>by
  obtain⟨c1,c2,rfl,h1,h2⟩:=h;have hr:=cG.put p h2 hv;have hl:=h1.length;refine⟨c1,_,?_,h1,hr⟩;simp only[Path.off]
  rw[<-hl,List.take_append,ajD (by omega),List.drop_append,ajo (by omega),show c1.length+p.off-c1.length=p.off from by omega,
   show c1.length+p.off+s.size-c1.length=p.off+s.size from by omega]
  simp[List.append_assoc]
def At.path{r s:Row}{b off:Nat}{x:r.den}(h:At F w r b off x)(p:Path r s)(k:Nat)(hk:p.off=k):At F w s b (off+k) (p.get x):=by
 subst hk;obtain⟨es,hl,hc,hr⟩:=h;have hp:=hr.path p;refine⟨_,hp.length,λj u hu=>?_,hp⟩
 grind
def Reads(F:Nat->Prop)(w:World)(r:Row)(v:Value)(l:List r.den):Prop:=
 ∃A cap,v= .slice A l.length cap/\l.length<=cap/\cap<=maxLen/\∀i(h:i<l.length),∃b off,A=aa ⟨b,off,ae⟩/\At F w r b (off+i*r.size) l[i]
def cG.reads{r:Row}{v:Value}{l:List r.den}(h:cG F w (.slice r) [v] l):Reads F w r v l:=by
 obtain⟨A,cap,h1,h2,h3,h4⟩:=h;refine⟨A,cap,by simpa using h1,h2,h3,λi hi=>?_⟩;obtain⟨b,off,es,hA,_,vd,hc,hr⟩:=h4 i hi;exact⟨b,off,hA,es,vd,hc,hr⟩
def idx{α:Type}(l:List α)(i:Int):Option α:=if 0<=i then l[i.toNat]? else ae
theorem iz{α:Type}{l:List α}{i:Int}{y:α}(h:idx l i=aa y):∃k:Nat,i=k/\∃hk:k<l.length,l[k]=y:=by
 grind [idx]
def Reads.elem{r:Row}{v:Value}{l:List r.den}(h:Reads F w r v l){i:Int}{y:r.den}(hi:idx l i=aa y):
 ∃b off cap k,v= .slice (aa ⟨b,off,ae⟩) l.length cap/\i=(k:Nat)/\k<l.length/\At F w r b (off+k*r.size) y:=by
 obtain⟨A,cap,hv,_,_,h4⟩:=h
 grind [iz]
end
section
variable {P:Program} {n:Nat} {ops:Array Oper} {K:(Nat->Value)->World->Prop} {rest:List Oper} {ρ:Nat->Value} {w:World} {F:Nat->Prop}
variable {d:Nat} {ty:TypeId} {pos:String} {aft:Array Edge} {x y:Operand} {t:TypeId}
def fA:TypeDesc->Bool
 | .struct _| .array _ _=>af
 |_=>ag
def fF{D:TypeDesc}(hu:P.underlying t=aa D)(w:World):(isAgg t).run P w= .ok (fA D) w:=by
 unfold isAgg;rw[ai1,run_underlying hu w]
 cases D<;>simp[fA]
def yy{dd:Option Nat}{D:TypeDesc}{b off:Nat}{v:Value}(hu:P.underlying t=aa D)(hD:fA D=ag)(hx:ev ρ x= .pointer (aa ⟨b,off,ae⟩))(hc:w.cell? ⟨b,off,ae⟩=aa v):
 (execOp (ev ρ) ⟨dd, .load t x,ty,pos,aft,ae⟩).run P w= .ok (.value v) w:=by
 simp[execOp,hx,Instr.loadAt,Instr.sureAddr,loadVar,ai1,fF hu,hD,hc,go_sem]
def HV{dd:Option Nat}{D:TypeDesc}{ti:TypeInfo}{b off:Nat}{es:List Value}(hu:P.underlying t=aa D)(hD:fA D=af)(hi:P.info? t=aa ti)(hs:ti.size=es.length)
 (hx:ev ρ x= .pointer (aa ⟨b,off,ae⟩))(hc:∀j u,es[j]? =aa u->w.cell? ⟨b,off+j,ae⟩=aa u):
 (execOp (ev ρ) ⟨dd, .load t x,ty,pos,aft,ae⟩).run P w= .ok (.value (.agg es.toArray)) w:=by
 have hl:(loadCells ⟨b,off,ae⟩ es.length).run P w= .ok es.toArray w:=
  run_loadCells_list (P:=P) w ⟨b,off,ae⟩ es (λj v hv=>by rw[dg];exact hc j v hv)
 simp[execOp,hx,Instr.loadAt,Instr.sureAddr,loadVar,ai1,fF hu,hD,sizeOf,typeInfo,hi,hs,hl]
end
end Go.Proofs.YtleifhfeahnocaaGreatDoor
end
namespace Go.Proofs.YtleifhfeahnocaaGreatDoor
open Go Go.RowKit
set_option maxRecDepth 100000
set_option linter.unusedSimpArgs false
set_option linter.unusedVariables false
set_option linter.defProp false
section
structure Ext(g:Nat->Prop)(w w':World):Prop where
 os:w'.os=w.os
 tape:w'.tape=w.tape
 output:w'.output=w.output
 size:w.heap.size<=w'.heap.size
 block:∀k,k<w.heap.size->¬g k->w'.heap[k]? =w.heap[k]?
def Ext.KI{g:Nat->Prop}{a b:World}{row:Option Nat}(h:a.grownBy b row)(hs:∀k,row=aa k->g k):Ext g a b:=
 ⟨h.os,h.tape,h.output,h.size,λk hk hn=>h.block k hk λe=>hn (hs k e.symm)⟩
section
variable {w0 w w':World} {F0 F F':Nat->Prop} {g:Nat->Prop}
def Step.ext(he:Ext g w w')(hF:∀b,F b->b<w.heap.size)(hg:∀k,g k->¬F k):Step F w F w':=
 λb hb=>⟨hb,he.block b (hF b hb) λe=>hg b e hb⟩
def bF(v:Value)(k:Nat):Prop:=v.ownBlock=aa k
def is(b k:Nat):Prop:=k=b
def nN(w:World)(base:Nat)(e:TypeId)(size:Nat)(v:Value)(n:Nat)(xs:List Value):Prop:=
 xs.length=n*size/\
 ((v= .slice ae 0 0/\n=0)\/
  ∃g o0 cap cur,v= .slice (aa ⟨g,o0,ae⟩) n cap/\base<=g/\w.heap[g]? =aa (.cells cur e (0,0))/\n<=cap/\cap<=maxLen/\o0+cap*size<=cur.size/\(cur.toList.drop o0).take (n*size)=xs)
theorem nN.of{w:World}{base:Nat}{e:TypeId}{size:Nat}{v:Value}{n:Nat}{xs:List Value}(h:w.ownsRow base e size v n xs):nN w base e size v n xs:=by
 refine⟨h.1,?_⟩
 rcases h.2 with h|⟨g,cap,cur,hv,hb,hg,h1,h2,h3,h4⟩
 .exact .inl h
 .exact .inr ⟨g,0,cap,cur,hv,hb,hg,h1,h2,by omega,h4⟩
def HW(w:World)(base:Nat)(e:TypeId)(size:Nat):nN w base e size (.slice ae 0 0) 0 []:= .of (World.ownsRow_nil w base e size)
def nN.lt{w:World}{base:Nat}{e:TypeId}{size:Nat}{v:Value}{n:Nat}{xs:List Value}(h:nN w base e size v n xs):∀k,v.ownBlock=aa k->base<=k/\k<w.heap.size:=by
 intro k hk
 rcases h.2 with⟨rfl,_⟩|⟨g,o0,cap,cur,rfl,hb,hg,_⟩
 .cases hk
 .obtain rfl:g=k:=by simpa[aiT]using hk
  grind
def Own(base:Nat)(F:Nat->Prop)(w:World)(T:TypeId)(r:Row)(v:Value)(l:List r.den):Prop:=
 (∀k,bF v k->¬F k)/\∃xs,nN w base T r.size v l.length xs/\∀i(h:i<l.length),cG F w r ((xs.drop (i*r.size)).take r.size) l[i]
variable {base b:Nat} {T:TypeId} {r:Row}
def Own.lt{v:Value}{l:List r.den}(h:Own base F w T r v l):∀k,bF v k->k<w.heap.size:=by
 obtain⟨_,xs,h,_⟩:=h
 exact λk hk=>(h.lt k hk).2
def Own.no{v:Value}{l:List r.den}(h:Own base F w T r v l):∀k,bF v k->¬F k:=h.1
def Own.nil(base:Nat)(F:Nat->Prop)(w:World)(T:TypeId)(r:Row):Own base F w T r (.slice ae 0 0) []:=
 ⟨λk hk=>by simp[bF,aiT]at hk,[],HW _ _ _ _,λi h=>absurd h (by simp)⟩
def Own.reads{v:Value}{l:List r.den}(h:Own base F w T r v l):Reads F w r v l:=by
 obtain⟨_,xs,hx,h3⟩:=h;have hlen:=hx.1
 rcases hx.2 with⟨rfl,h0⟩|⟨gg,o0,cap,cur,rfl,hb,hg,h1,h2,rB,sa⟩
 .exact⟨ae,0,by rw[h0],by omega,by simp[maxLen],λi hi=>absurd hi (by omega)⟩
 .refine⟨_,cap,rfl,h1,h2,λi hi=>⟨gg,o0,rfl,_,(h3 i hi).length,λj u hu=>?_,h3 i hi⟩⟩
  grind [Go.cell_of_row]
def Own.freeze{v:Value}{l:List r.den}(h:Own base F w T r v l):cG (λb=>F b\/bF v b) w (.slice r) [v] l:=by
 obtain⟨A,cap,hv,h1,h2,h3⟩:=h.reads;refine⟨A,cap,by rw[hv],h1,h2,λi hi=>?_⟩;obtain⟨b,off,rfl,es,vd,hc,hr⟩:=h3 i hi;subst hv;exact⟨b,off,es,rfl, .inr (by simp[bF,aiT]),vd,hc,hr.step λb hb=>⟨.inl hb,rfl⟩⟩
@[reducible] def Row.zero:(r:Row)->r.den
  | .int _=>(0:Int)
  | .bool=>ag
  | .str=>ByteArray.empty
  | .slice _=>[]
  | .lS=> .slice ae 0 0
  | .nul _=>()
  | .map .. =>[]
  | .pair a b=>(a.zero,b.zero)
def Row.dF:(r:Row)->List Value
 | .int k=>[.int k 0]
 | .bool=>[.bool ag]
 | .str=>[.string ByteArray.empty]
 | .slice _=>[.slice ae 0 0]
 | .lS=>[.slice ae 0 0]
 | .nul k=>[k.val]
 | .map .. =>[.map ae]
 | .pair a b=>a.dF++b.dF
theorem cG.zero(F:Nat->Prop)(w:World):(r:Row)->cG F w r r.dF r.zero
 | .int _=>rfl
 | .bool=>rfl
 | .str=>rfl
 | .slice e=>cG.nil F w e
 | .lS=>⟨rfl,ae,0,0,rfl⟩
 | .nul _=>rfl
 | .map .. =>⟨_,rfl, .inl ⟨rfl,rfl⟩⟩
 | .pair a b=>⟨_,_,rfl,cG.zero F w a,cG.zero F w b⟩
end
section
variable {P:Program} {n:Nat} {ops:Array Oper} {K:(Nat->Value)->World->Prop} {rest:List Oper} {ρ:Nat->Value} {w:World} {F:Nat->Prop} {base:Nat}
variable {d:Nat} {ty:TypeId} {pos:String} {aft:Array Edge} {x y:Operand} {t:TypeId}
def HX{dd:Option Nat}{ti:TypeInfo}{z:Value}(hi:P.info? t=aa ti)(hz:ti.zero=aa z):
 (execOp (ev ρ) ⟨dd, .alloc t,ty,pos,aft,ae⟩).run P w= .ok (.value (.pointer (aa ⟨w.heap.size,0,ae⟩))) (w.alloc (.cells z.cells t)):=by
 simp[execOp,Instr.alloc,zeroValue,typeInfo,hi,hz,newVar,newRow]
def NF{dd:Option Nat}{v:Value}(hx:ev ρ x=v):
 (execOp (ev ρ) ⟨dd, .box t x,ty,pos,aft,ae⟩).run P w= .ok (.value (.pointer (aa ⟨w.heap.size,0,ae⟩))) (w.alloc (.cells v.cells t)):=by
 simp[execOp,Instr.box,hx,newVar,newRow]
def pc{dd:Option Nat}{ti:TypeInfo}{b off:Nat}{cur:Array Value}{T:TypeId}{v:Value}{vs:List Value}(hi:P.info? t=aa ti)(hs:ti.size=vs.length)(hx:ev ρ x= .pointer (aa ⟨b,off,ae⟩))(hy:ev ρ y=v)
 (hv:v.cells.toList=vs)(h1:∀u∈vs,u.oneCell'=af)(hg:w.heap[b]? =aa (.cells cur T (0,0)))(hl:off+vs.length<=cur.size):
 (execOp (ev ρ) ⟨dd, .store t x y,ty,pos,aft,ae⟩).run P w= .ok .skip (w.setRow b (cur.toList.take off++vs++cur.toList.drop (off+vs.length)).toArray):=by
 have gq:=run_storeCells_at P b off T vs 0 cur w hg (by omega) h1
 have kP:v.cells.size=ti.size:=by rw[hs,<-hv];simp
 simp only[ajO]at gq;simp[execOp,Instr.storeAt,Instr.sureAddr,storeVar,sizeOf,typeInfo,hi,kP,hx,hy,hv,gq]
def pT{α:Type}(m:Int)(z:α):Option (List α):=if 0<=m/\m<=4294967296 then aa (aiN m.toNat z)else ae
def cA{α:Type}(l m:List α):Option (List α):=if l.length+m.length<=4294967296 then aa (l++m)else ae
theorem sd(z:Array Value)(m j:Nat)(hj:j<m)(hz:0<z.size):(madeCells z m).toList[j]? =z[j%z.size]? :=by
 have:j%z.size<z.size:=Nat.mod_lt _ hz;simp[madeCells,hj,this]
theorem BQ(z:List Value)(m i:Nat)(hz:0<z.length)(hi:i<m):(((madeCells z.toArray (m*z.length)).toList.drop (i*z.length)).take z.length)=z:=by
 apply List.ext_getElem?
 intro j;rw[ajI,ajE];split
 .rename_i hj;have hle:(i+1)*z.length<=m*z.length:=aiV _ hi
  grind [sd,Nat.add_mul_mod_self_right,Nat.mod_eq_of_lt]
 grind
def Reads.news{r:Row}{A:Option Addr}{cap m:Nat}{l:List r.den}(h:Reads F w r (.slice A m cap) l)(b off:Nat)(hA:A=aa ⟨b,off,ae⟩):
 ∃news:List Value,news.length=l.length*r.size/\(∀j u,news[j]? =aa u->w.cell? ⟨b,off+j,ae⟩=aa u)/\∀i(hi:i<l.length),cG F w r ((news.drop (i*r.size)).take r.size) l[i]:=by
 subst hA;obtain⟨A',Ei,hv,_,_,h4⟩:=h;simp only[ajS]at hv;obtain⟨rfl,_,_⟩:=hv;have pW:=r.size_pos
 have BN:∀j,j<l.length*r.size->∃u,w.cell? ⟨b,off+j,ae⟩=aa u:=by
  intro j hj;have hi:j/r.size<l.length:=Nat.div_lt_of_lt_mul (by rwa [Nat.mul_comm]);obtain⟨b',eC,pX,es,vd,hc,_⟩:=h4 _ hi;simp only[aiO,Addr.mk.injEq,and_true]at pX;obtain⟨rfl,rfl⟩:=pX
  have Xa:j%r.size<es.length:=by rw[vd];exact Nat.mod_lt _ pW
  have:=hc (j%r.size) _ (aiG Xa);rw[Nat.add_assoc,Nat.div_add_mod']at this;exact⟨_,this⟩
 have NG:∀j u,((ajp (l.length*r.size)).map λj=>(w.cell? ⟨b,off+j,ae⟩).getD undef)[j]? =aa u↔j<l.length*r.size/\w.cell? ⟨b,off+j,ae⟩=aa u:=by
  intro j u;by_cases hj:j<l.length*r.size
  .obtain⟨q,hq⟩:=BN j hj;simp[hj,hq]
  .simp[hj]
 refine⟨(ajp (l.length*r.size)).map λj=>(w.cell? ⟨b,off+j,ae⟩).getD undef,by simp,λj u hu=>((NG j u).1 hu).2,λi hi=>?_⟩;obtain⟨b',eC,pX,es,vd,hc,hr⟩:=h4 i hi;simp only[aiO,Addr.mk.injEq,and_true]at pX;obtain⟨rfl,rfl⟩:=pX
 have he:(((ajp (l.length*r.size)).map λj=>(w.cell? ⟨b,off+j,ae⟩).getD undef).drop (i*r.size)).take r.size=es:=by
  have hle:(i+1)*r.size<=l.length*r.size:=aiV _ hi;rw[ajW]at hle
  apply List.ext_getElem?
  intro j;rw[ajI,ajE];split
  .rename_i hj;rw[(NG (i*r.size+j) (es[j]'(by omega))).2 ⟨by omega,by rw[<-Nat.add_assoc];exact hc j _ (aiG (by omega))⟩,aiG (by omega)]
  .rw[List.getElem?_eq_none (by omega)]
 rw[he];exact hr
def se(w:World)(base:Nat)(t ty e:TypeId)(i:TypeInfo)(size:Nat)(ht:P.underlying t=aa (.slice e))(hi:P.info? e=aa i)
 (v:Value)(n:Nat)(xs:List Value)(ed:nN w base e size v n xs)(c:Nat):(aka #[t,t] ty #[v, .slice ae 0 c]).run P w= .ok v w:=by
 rcases ed.2 with⟨rfl,rfl⟩|⟨g,o0,cap,cur,rfl,_,_,TS,_⟩
 .simp[aka,run_underlying ht,sizeOf,typeInfo,hi,Builtin.lenOf,Builtin.firstCells]
 .simp[aka,run_underlying ht,sizeOf,typeInfo,hi,Builtin.lenOf,Builtin.firstCells,TS,storeCells]
def z7(w:World)(base:Nat)(t ty e:TypeId)(i:TypeInfo)(z:Value)(size bytes:Nat)(ht:P.underlying t=aa (.slice e))(hi:P.info? e=aa i)(hz:i.zero=aa z)
 (PE:i.size=size)(PF:i.bytes=bytes)(TT:z.cells.size=size)(kP:0<size)
 (v:Value)(n:Nat)(xs:List Value)(ed:nN w base e size v n xs)
 (a:Addr)(m c:Nat)(news:List Value)(hl:news.length=m*size)(KJ:∀j u,news[j]? =aa u->w.cell? (a.add j)=aa u)(h1:∀u∈news,u.oneCell'=af)
 (XU:n+m<=maxLen)(KK:(n+m)*bytes<=140737488355328)(PG:base<=w.heap.size):
 ∃v' w',(aka #[t,t] ty #[v, .slice (aa a) m c]).run P w= .ok v' w'/\nN w' base e size v' (n+m) (xs++news)/\w.grownBy w' v.ownBlock/\
  (v'.ownBlock=v.ownBlock\/v'.ownBlock=aa w.heap.size):=by
 rcases ed.2 with⟨rfl,rfl⟩|⟨g,o0,cap,cur,rfl,hbg,hg,TS,TU,rB,sa⟩
 .have hx:xs=[]:=List.eq_nil_of_length_eq_zero (by simpa using ed.1);subst hx;obtain⟨v',w',g1,g2,g3,_,g4⟩:=run_append_own_at (P:=P) w base t ty e i z size bytes ht hi hz PE PF TT kP (.slice ae 0 0) 0 [] (World.ownsRow_nil w base e size) a m c news hl KJ h1 XU KK PG;exact⟨v',w',g1, .of g2,g3,g4⟩
 subst PE;subst PF
 have XV:n+m<=9223372036854775807:=by simp only[maxLen]at XU;omega
 have hlen:(xs++news).length=(n+m)*i.size:=by rw[List.length_append,ed.1,hl,ajW]
 have hnm:n*i.size+news.length=(n+m)*i.size:=by rw[hl,ajW]
 have adr:n*i.size<=cap*i.size:=aiV _ TS;by_cases KL:n+m<=cap
 .have vg:(n+m)*i.size<=cap*i.size:=aiV _ KL;have hf:=run_firstCells_some (P:=P) w i.size m a m c news hl KJ;have gq:=run_storeCells_at P g (o0+n*i.size) e news 0 cur w hg (by omega) h1;simp only[ajO]at gq
  have hr:(aka #[t,t] ty #[.slice (aa ⟨g,o0,ae⟩) n cap, .slice (aa a) m c]).run P w=
   .ok (.slice (aa ⟨g,o0,ae⟩) (n+m) cap) (w.setRow g (cur.toList.take (o0+n*i.size)++news++cur.toList.drop (o0+n*i.size+news.length)).toArray):=by
   simp[aka,run_underlying ht,sizeOf,typeInfo,hi,Builtin.lenOf,KL,hf,Addr.add_lit,gq]
  refine⟨_,_,hr,⟨hlen, .inr ⟨g,o0,cap,_,rfl,hbg,setRow_heap w g cur _ e _ hg,KL,TU,?_,?_⟩⟩,⟨rfl,rfl,rfl,by simp,λk _ hk=>setRow_other w g k _ (λe=>hk (by simp[aiT,e]))⟩,Or.inl rfl⟩
  all_goals grind
 .have holds:∀j u,xs[j]? =aa u->w.cell? ((⟨g,o0,ae⟩:Addr).add j)=aa u:=λj u hj=>by
   grind [dg,Go.cell_of_row]
  have hr:=run_append_grow (P:=P) w t ty e i z ht hi hz ⟨g,o0,ae⟩ n cap xs ed.1 holds a m c news hl KJ (by omega) (by omega) (growslice_fits (by omega) KK);have hge:=grownCap_ge w (n+m) cap e;have XW:grownCap w (n+m) cap e<=maxLen:=grownCap_le_maxLen w (n+m) cap e XU;refine⟨_,_,hr, .of ⟨hlen, .inr ⟨w.heap.size,_,_,rfl,PG,heap_alloc_new w.drew _,hge,XW,?_,?_⟩⟩,⟨rfl,rfl,rfl,by simp,λk hk _=>heap_alloc_old w.drew _ hk⟩,Or.inr rfl⟩
  .simp only[Array.size_append,ajT,size_zeroCells,TT,ed.1,hl,<-ajW]
   congr 1
   omega
  grind
def vM{e:TypeId}{ti:TypeInfo}{z:Value}{r:Row}{v u:Value}{l m out:List r.den}(ty:TypeId)(ht:P.underlying t=aa (.slice e))(hi:P.info? e=aa ti)(hz:ti.zero=aa z)(QF:z.cells.toList=r.dF)(hs:ti.size=r.size)(PF:ti.bytes<=32768)
 (hv:Own base F w e r v l)(hu:Reads F w r u m)(hm:cA l m=aa out)(hF:∀b,F b->b<w.heap.size)(hb:base<=w.heap.size):
 ∃v' w',(aka #[t,t] ty #[v,u]).run P w= .ok v' w'/\Ext (bF v) w w'/\Own base F w' e r v' out/\(bF v'=bF v\/bF v'=(w.heap.size= ·)):=by
 unfold cA at hm;split at hm
 case isFalse=>cases hm
 rename_i hlen;obtain rfl:=aiF hm
 have TT:z.cells.size=r.size:=by rw[<-(cG.zero F w r).length,<-QF];simp
 obtain⟨Ni,xs,hx,h3⟩:=hv;have Xb:=hu;obtain⟨A,cap,rfl,hmc,TU,vd⟩:=hu
 have TV:∀(v':Value)(w':World)(news:List Value),news.length=m.length*r.size->(∀i(hi:i<m.length),cG F w r ((news.drop (i*r.size)).take r.size) m[i])->
  nN w' base e r.size v' (l.length+m.length) (xs++news)->w.grownBy w' v.ownBlock->(v'.ownBlock=v.ownBlock\/v'.ownBlock=aa w.heap.size)->
  Ext (bF v) w w'/\Own base F w' e r v' (l++m)/\(bF v'=bF v\/bF v'=(w.heap.size= ·)):=by
  intro v' _ news Xc Xd gP hg xS
  have hm:bF v'=bF v\/bF v'=(w.heap.size= ·):=by
   rcases xS with h|h
   .exact .inl (by unfold bF;rw[h])
   .refine .inr ?_;funext b;unfold bF;rw[h];simp
  have bW:=Ext.KI hg (g:=bF v) λk hk=>hk
  have mU:=Step.ext bW hF Ni;refine⟨bW,⟨λk hk=>?_,xs++news,by simpa using gP,λk hk=>?_⟩,hm⟩
  .rcases hm with h|h
   .rw[h]at hk;exact Ni k hk
   .rw[h]at hk;intro hf;have:=hF k hf;omega
  .have KM:=hx.1
   rcases Nat.lt_or_ge k l.length with aH|hge
   .have hle:(k+1)*r.size<=l.length*r.size:=aiV _ aH;rw[ajW]at hle;rw[ai7 aH,List.drop_append_of_le_length (by omega),List.take_append_of_le_length (by rw[List.length_drop];omega)];exact(h3 k aH).step mU
   .have HY:k-l.length<m.length:=by simp at hk;omega
    have hmul:k*r.size=l.length*r.size+(k-l.length)*r.size:=by rw[<-ajW];congr 1;omega
    rw[ajc hge,List.drop_append,KM,ajo (by omega),ajf,show k*r.size-l.length*r.size=(k-l.length)*r.size from by omega];exact(Xd _ HY).step mU
 cases A with
 |none=>
  have QG:m=[]:=by
   cases m with
   |nil=>rfl
   |cons a q=>obtain⟨b,off,h,_⟩:=vd 0 (by simp);cases h
  subst QG;refine⟨v,w,se w base t ty e ti r.size ht hi v _ xs hx _,?_⟩;exact TV v w [] (by simp) (λi hi=>absurd hi (by simp)) (by simpa using hx) ⟨rfl,rfl,rfl,aiM _,λ_ _ _=>rfl⟩ (.inl rfl)
 |some ad=>
  have key:∃news:List Value,news.length=m.length*r.size/\(∀j u,news[j]? =aa u->w.cell? (ad.add j)=aa u)/\∀i(hi:i<m.length),cG F w r ((news.drop (i*r.size)).take r.size) m[i]:=by
   cases m with
   |nil=>exact⟨[],by simp,λj u h=>by simp at h,λi hi=>absurd hi (by simp)⟩
   |cons a q=>
    obtain⟨b,off,h,_⟩:=vd 0 (by simp);obtain⟨news,h1,h2,h3⟩:=Xb.news b off h
    obtain rfl:ad=⟨b,off,ae⟩:=by simpa using h
    exact⟨news,h1,λj u hj=>by rw[dg];exact h2 j u hj,h3⟩
  obtain⟨news,Xc,TS,Xd⟩:=key
  have lT:∀u∈news,u.oneCell'=af:=by
   intro u hu;obtain⟨j,hj,rfl⟩:=aiR hu;have pW:=r.size_pos;have hi:j/r.size<m.length:=Nat.div_lt_of_lt_mul (by rw[Nat.mul_comm,<-Xc];exact hj);have hr:=Xd _ hi;refine hr.kw _ ?_;have hle:(j/r.size)*r.size+j%r.size=j:=Nat.div_add_mod' j r.size;have aH:=Nat.mod_lt j pW;rw[List.mem_iff_getElem?];refine⟨j%r.size,?_⟩;rw[ajI,aj aH,ajE,hle,aiG hj]
  obtain⟨v',w',bG,gP,hg,xS⟩:=z7 (P:=P) w base t ty e ti z r.size ti.bytes ht hi hz hs rfl TT r.size_pos v l.length xs hx ad m.length cap news Xc TS lT (by simp only[maxLen];omega)
   (aiY (Nat.mul_le_mul hlen PF) (by omega)) hb
  exact⟨v',w',bG,TV v' w' news Xc Xd gP hg xS⟩
end
end
end Go.Proofs.YtleifhfeahnocaaGreatDoor
section
open _root_.Bool renaming false->ag,true->af,false_eq_true->aiX
open _root_.Option renaming none->ae,some->aa
open _root_.List.cons renaming injEq->ajw
open _root_.List renaming drop_eq_getElem_cons->ai5,length_take->ajj,take_length->aiS
open _root_.Nat renaming add_zero->ajO,beq->aiK,min_eq_left->ajV
open _root_.Option.some renaming injEq->aiO
open _root_.Go.Result renaming andThen_ok->ajC
open _root_.Go.Sem renaming run_bind->ai1
namespace Go.Proofs.YtleifhfeahnocaaGreatDoor
open Go Go.RowKit
def bind_some{α β:Type}{o:Option α}{f:α->Option β}{r:β}(h:o.bind f=aa r):∃x,o=aa x/\f x=aa r:=Option.bind_eq_some_iff.1 h
section
variable {P:Program} {n:Nat} {ρ:Nat->Value} {w:World} {K:(Nat->Value)->World->Prop} {Q:Exit->(Nat->Value)->World->Prop}
def KN{id:Nat}(h:Q .normal ρ w):Tp id Q (.exit id) ρ w:=by
 show(bif aiK id id then _ else _)
 simp_all
def HZ{id HH:Nat}(du:aiK HH id=ag)(h:Q (.exit HH) ρ w):Tp id Q (.exit HH) ρ w:=by
 show(bif aiK HH id then _ else _)
 grind
end
def TI(P:Program)(e:TypeId)(r:Row):Prop:=∃ti z,P.info? e=aa ti/\ti.zero=aa z/\z.cells.toList=r.dF/\ti.size=r.size/\ti.bytes<=32768
def TI.mk{P:Program}{e:TypeId}{r:Row}{k:Nat}(h:(P.info? e).map (λi=>(i.zero.map (λz=>z.cells.toList),i.size,decide (i.bytes<=32768)))=aa (aa r.dF,k,af))(hk:k=r.size):TI P e r:=by
 cases hi:P.info? e with
 |none=>simp[hi]at h
 |some ti=>
  simp only[hi,Option.map_some,aiO,Prod.mk.injEq,az]at h;obtain⟨h1,h2,h3⟩:=h
  cases hz:ti.zero with
  |none=>simp[hz]at h1
  |some z=>
   simp only[hz,Option.map_some,aiO]at h1;exact⟨ti,z,hi,hz,h1,h2.trans hk,h3⟩
section
variable {P:Program} {n:Nat} {ops:Array Oper} {K:(Nat->Value)->World->Prop} {rest:List Oper} {ρ:Nat->Value} {w:World} {F:Nat->Prop} {base:Nat}
variable {d:Nat} {dd:Option Nat} {ty:TypeId} {pos:String} {aft:Array Edge} {x y c:Operand} {t e:TypeId} {r:Row}
def nO{f:Nat}{fs:Array Field}{fd:Field}{ny off:Nat}(k:Nat)(hs:P.underlying t=aa (.struct fs))(hf:fs[f]? =aa fd)(hi:TI P fd.type r)(hk:fd.offset=k)
 (hx:ev ρ x= .pointer (aa ⟨ny,off,ae⟩)):Pure P ρ ⟨dd, .fieldAddr t x f,ty,pos,aft,ae⟩ (.pointer (aa ⟨ny,off+k,ae⟩)):=by
 obtain⟨ti,z,h1,_,_,h4,_⟩:=hi
 grind [vL,Row.size_pos]
end
end Go.Proofs.YtleifhfeahnocaaGreatDoor
namespace Go.Proofs.YtleifhfeahnocaaGreatDoor
open Go Go.RowKit
noncomputable def oo(r:Row)(x y:r.den):Bool:= @decide (x=y) (Row.decEq r x y)
def z8{r:Row}{x y:r.den}:oo r x y=af↔x=y:=by simp[oo]
def KO(P:Program)(t:TypeId)(cs:List Value)(v:Value):Prop:=∃D,P.underlying t=aa D/\(if fA D=af then v= .agg cs.toArray else cs=[v])
def oq(P:Program)(t:TypeId)(r:Row)(K:Nat):Prop:=
 ∀(d:Nat)(w2 w:World)(F:Nat->Prop)(cs ra:List Value)(x y:r.den)(v v':Value),KO P t cs v->KO P t ra v'->cG F w r cs x->cG F w r ra y->
  (Op.equalIn (d+K) t v v').run P w2= .ok (decide (x=y)) w2
def NH(P:Program)(fs:List Field)(r:Row)(off K:Nat):Prop:=
 ∀(d:Nat)(w2 w:World)(F:Nat->Prop)(xs ys:List Value)(x y:r.den),cG F w r ((xs.drop off).take r.size) x->cG F w r ((ys.drop off).take r.size) y->
  (Op.eqFields (d+K) xs.toArray ys.toArray fs).run P w2= .ok (decide (x=y)) w2
section
variable {P:Program} {t:TypeId} {r:Row} {k:IntKind} {K:Nat}
def Gr(ht:P.underlying t=aa (.int k)):oq P t (.int k) 1:=by
 intro d w2 w F cs ra x y v v' ⟨D,hD,h1⟩ ⟨D',Gs,h2⟩ hx hy;rw[ht]at hD Gs;cases hD;cases Gs;obtain rfl:cs=_:=hx;obtain rfl:ra=_:=hy;simp only[fA,aiX,if_false,ajw,and_true]at h1 h2;subst h1;subst h2;rw[run_equalIn_int (h:=ht),qC]
def sf{D:TypeDesc}{ti:TypeInfo}{cs:List Value}{off:Nat}{F:Nat->Prop}{w:World}{x:r.den}(hD:P.underlying t=aa D)(hi:P.info? t=aa ti)(hs:ti.size=r.size)(lT:fA D=ag->r.size=1)
 (hr:cG F w r ((cs.drop off).take r.size) x)(w2:World):∃v,(part t cs.toArray off).run P w2= .ok v w2/\KO P t ((cs.drop off).take r.size) v:=by
 have hl:=hr.length;have pW:=r.size_pos
 cases hA:fA D with
 |true=>
  refine⟨.agg ((cs.drop off).take r.size).toArray,?_,D,hD,by rw[aj hA]⟩;unfold part;rw[ai1,fF hD,hA];simp[sizeOf,typeInfo,hi,hs]
 |false=>
  have h1:=lT hA;rw[h1]at hl⊢
  have aH:off<cs.length:=by
   rw[ajj,List.length_drop]at hl;omega
  refine⟨cs[off],?_,D,hD,?_⟩
  .unfold part;rw[ai1,fF hD,hA];simp[aH]
  .rw[ai (by simp[hA])]
   grind [ai5]
def nA{f:Field}{off:Nat}(hn:(f.name != "_")=af)(ho:f.offset=off){D:TypeDesc}(hD:P.underlying f.type=aa D)(lT:fA D=ag->r.size=1)(hi:TI P f.type r)(he:oq P f.type r K):NH P [f] r off K:=by
 intro d w2 w F xs ys x y hx hy;subst ho;obtain⟨ti,z,h1,_,_,h4,_⟩:=hi;obtain⟨v,hv,si⟩:=sf hD h1 h4 lT hx w2;obtain⟨v',dZ,Ia⟩:=sf hD h1 h4 lT hy w2;have:=he d w2 w F _ _ x y v v' si Ia hx hy
 have NI:f.name≠ "_" :=by simpa using hn
 unfold Op.eqFields;rw[aj NI,ai1,hv,ajC,ai1,dZ,ajC,ai1,this,ajC]
 by_cases rC:x=y<;>simp[rC,Op.eqFields]
def dh{f:Field}{fs:List Field}{a b:Row}{off:Nat}(hn:(f.name != "_")=af)(ho:f.offset=off){D:TypeDesc}(hD:P.underlying f.type=aa D)(lT:fA D=ag->a.size=1)(hi:TI P f.type a)(he:oq P f.type a K)
 (hr:NH P fs b (off+a.size) K):NH P (f::fs) (.pair a b) off K:=by
 intro d w2 w F xs ys x y hx hy;subst ho;obtain⟨ti,z,h1,_,_,h4,_⟩:=hi
 have hle:a.size<=(Row.pair a b).size:=by simp
 have fX:∀(zs:List Value)(u:(Row.pair a b).den),cG F w (.pair a b) ((zs.drop f.offset).take (Row.pair a b).size) u->cG F w a ((zs.drop f.offset).take a.size) u.1:=by
  intro zs u hu;have:=cG.path (.fst (.here (r:=a)):Path (.pair a b) a) hu;simp only[Path.off,List.drop_zero]at this;rw[List.take_take,ajV hle]at this;exact this
 have vN:∀(zs:List Value)(u:(Row.pair a b).den),cG F w (.pair a b) ((zs.drop f.offset).take (Row.pair a b).size) u->cG F w b ((zs.drop (f.offset+a.size)).take b.size) u.2:=by
  intro zs u hu;have:=cG.path (.snd (.here (r:=b)):Path (.pair a b) b) hu;simp only[Path.off,ajO]at this;rw[List.drop_take,List.drop_drop]at this;rw[show(Row.pair a b).size-a.size=b.size from by simp]at this;rw[List.take_take,Nat.min_self]at this;exact this
 obtain⟨v,hv,si⟩:=sf hD h1 h4 lT (fX xs x hx) w2;obtain⟨v',dZ,Ia⟩:=sf hD h1 h4 lT (fX ys y hy) w2;have h5:=he d w2 w F _ _ _ _ v v' si Ia (fX xs x hx) (fX ys y hy);have h6:=hr d w2 w F xs ys _ _ (vN xs x hx) (vN ys y hy)
 have NI:f.name≠ "_" :=by simpa using hn
 unfold Op.eqFields;rw[aj NI,ai1,hv,ajC,ai1,dZ,ajC,ai1,h5,ajC];obtain⟨x1,x2⟩:=x;obtain⟨y1,y2⟩:=y;by_cases rC:x1=y1
 .simp only[rC,decide_true,Bool.not_true,aiX,if_false,h6]
  congr 1
  simp[Prod.ext_iff]
 .simp[rC,Prod.ext_iff]
def kQ{fs:Array Field}(ht:P.underlying t=aa (.struct fs))(hp:P.stoodInHeld t=ag)(h:NH P fs.toList r 0 K):oq P t r (K+1):=by
 intro d w2 w F cs ra x y v v' ⟨D,hD,h1⟩ ⟨D',Gs,h2⟩ hx hy;rw[ht]at hD Gs;cases hD;cases Gs;simp only[fA,if_true]at h1 h2;subst h1;subst h2
 have hf:P.fieldsOf t=fs:=by simp[Program.fieldsOf,ht]
 have TW:=hx.length;have XX:=hy.length;rw[<-Nat.add_assoc,run_equalIn_struct _ _ _ _ _ (by grind) hp,hf];exact h d w2 w F cs ra x y (by rw[List.drop_zero,<-TW,aiS];exact hx) (by grind)
variable {ρ:Nat->Value} {dd:Option Nat} {ty:TypeId} {pos:String} {aft:Array Edge} {x y:Operand} {u:TypeId}
def Ib{d:Nat}{F:Nat->Prop}{w:World}{es oD:List Value}{a b:r.den}(hE:oq P t r K)(hd:d+K=10000)(hg:P.eqGuardType P.depth t=ag)(hD:(P.underlying t).any fA=af)
 (hx:ev ρ x= .agg es.toArray)(hy:ev ρ y= .agg oD.toArray)(ha:cG F w r es a)(hb:cG F w r oD b):
 Pure P ρ ⟨dd, .binOp .eql t x y u,ty,pos,aft,ae⟩ (.bool (oo r a b)):=λw2=>by
 cases hu:P.underlying t with
 |none=>simp[hu]at hD
 |some D=>
  have hA:fA D=af:=by simpa[hu]using hD
  have:=hE d w2 w F es oD a b _ _ ⟨D,hu,by rw[aj hA]⟩ ⟨D,hu,by rw[aj hA]⟩ ha hb;rw[hd]at this;simp only[execOp,hx,hy,ai1,run_eqGuard_agg _ _ _ _ _ _ _ hg,ajC,run_eql_struct,this];rfl
def Ic{d:Nat}{F:Nat->Prop}{w:World}{es oD:List Value}{a b:r.den}(hE:oq P t r K)(hd:d+K=10000)(hg:P.eqGuardType P.depth t=ag)(hD:(P.underlying t).any fA=af)
 (hx:ev ρ x= .agg es.toArray)(hy:ev ρ y= .agg oD.toArray)(ha:cG F w r es a)(hb:cG F w r oD b):
 Pure P ρ ⟨dd, .binOp .neq t x y u,ty,pos,aft,ae⟩ (.bool (!oo r a b)):=λw2=>by
 cases hu:P.underlying t with
 |none=>simp[hu]at hD
 |some D=>
  have hA:fA D=af:=by simpa[hu]using hD
  have:=hE d w2 w F es oD a b _ _ ⟨D,hu,by rw[aj hA]⟩ ⟨D,hu,by rw[aj hA]⟩ ha hb;rw[hd]at this;simp only[execOp,hx,hy,ai1,run_eqGuard_agg _ _ _ _ _ _ _ hg,ajC,run_neq_struct,this];rfl
end
section
variable {P:Program} {n:Nat} {ops:Array Oper} {K:(Nat->Value)->Prop} {rest:List Oper} {ρ:Nat->Value} {w:World} {F:Nat->Prop}
variable {d:Nat} {ty:TypeId} {pos:String} {aft:Array Edge} {x y:Operand} {t e:TypeId} {r:Row}
end
end Go.Proofs.YtleifhfeahnocaaGreatDoor
end
namespace Go.Proofs.YtleifhfeahnocaaGreatDoor
open Go Go.RowKit
set_option maxRecDepth 100000
set_option linter.unusedSimpArgs false
set_option linter.unusedVariables false
set_option linter.defProp false
section
def oq.lift{P:Program}{t:TypeId}{r:Row}{K:Nat}(h:oq P t r K)(m:Nat):oq P t r (K+m):=by
 intro d w2 w F cs ra x y v v' h1 h2 h3 h4;have:=h (d+m) w2 w F cs ra x y v v' h1 h2 h3 h4
 grind
section
variable {P:Program} {n:Nat} {ops:Array Oper} {K:(Nat->Value)->World->Prop} {rest:List Oper} {ρ:Nat->Value} {w:World} {F:Nat->Prop} {base:Nat}
variable {d:Nat} {ty:TypeId} {pos:String} {aft:Array Edge} {x y:Operand} {t e:TypeId} {r s:Row}
def b8{α:Type}(l:List α)(i:Int)(y:α):List α:=l.set i.toNat y
def Own.put{g o0 m0 QH q:Nat}{v:Value}{l:List r.den}(h:Own base F w e r v l)(hg:v= .slice (aa ⟨g,o0,ae⟩) m0 QH)(hq:q<l.length)(hF:∀b,F b->b<w.heap.size)(p:Path r s){vs:List Value}{u:s.den}(hv:cG F w s vs u):
 ∃cur,w.heap[g]? =aa (.cells cur e (0,0))/\o0+q*r.size+p.off+vs.length<=cur.size/\
  Ext (bF v) w (w.setRow g (cur.toList.take (o0+q*r.size+p.off)++vs++cur.toList.drop (o0+q*r.size+p.off+vs.length)).toArray)/\
  Own base F (w.setRow g (cur.toList.take (o0+q*r.size+p.off)++vs++cur.toList.drop (o0+q*r.size+p.off+vs.length)).toArray) e r v (l.set q (p.set l[q] u)):=by
 obtain⟨Ni,xs,⟨KM,hx⟩,h3⟩:=h
 rcases hx with⟨rfl,_⟩|⟨g',o1,cap,cur,rfl,hb,hh,h1,h2,rB,sa⟩
 .simp at hg
 .simp only[ajS,aiO,Addr.mk.injEq,and_true]at hg;obtain⟨⟨rfl,rfl⟩,rfl,rfl⟩:=hg;have hle:=p.le;have hl:=hv.length;have hmul:(q+1)*r.size<=l.length*r.size:=aiV _ hq;rw[ajW]at hmul;have vg:l.length*r.size<=cap*r.size:=aiV _ h1
  have bW:Ext (bF (.slice (aa ⟨g',o1,ae⟩) l.length cap)) w (w.setRow g' (cur.toList.take (o1+q*r.size+p.off)++vs++cur.toList.drop (o1+q*r.size+p.off+vs.length)).toArray):=
   ⟨rfl,rfl,rfl,by simp,λk _ hk=>setRow_other w g' k _ λe=>hk (by simp[bF,aiT,e])⟩
  have mU:=Step.ext bW hF Ni;refine⟨cur,hh,by omega,bW,Ni,xs.take (q*r.size+p.off)++vs++xs.drop (q*r.size+p.off+vs.length),⟨by simp;omega, .inr ⟨g',o1,cap,_,by simp,hb,setRow_heap w g' _ _ e (0,0) hh,by simpa using h1,h2,by simp;omega,?_⟩⟩,?_⟩
  .rw[List.length_set,List.toList_toArray,<-sa]
   have e0:(cur.toList.take (o1+q*r.size+p.off)++vs++cur.toList.drop (o1+q*r.size+p.off+vs.length)).drop o1=(cur.toList.drop o1).take (q*r.size+p.off)++vs++(cur.toList.drop o1).drop (q*r.size+p.off+vs.length):=by
    rw[List.append_assoc,List.drop_append_of_le_length (by simp;omega),List.drop_take,List.drop_drop,show o1+q*r.size+p.off-o1=q*r.size+p.off by omega,List.append_assoc,show o1+q*r.size+p.off+vs.length=o1+(q*r.size+p.off+vs.length) by omega]
   rw[e0]
   have xJ:cap*r.size<=(cur.toList.drop o1).length:=by simp;omega
   generalize cur.toList.drop o1=c2 at*
   have e1:(c2.take (l.length*r.size)).take (q*r.size+p.off)=c2.take (q*r.size+p.off):=by rw[List.take_take,ajV (by omega)]
   rw[e1,List.take_append,ajD (by simp;omega),List.drop_take]
   congr 1
   simp
   congr 1
   omega
  .intro i pJ
   have hi:i<l.length:=by simpa using pJ
   have QI:(i+1)*r.size<=l.length*r.size:=aiV _ hi;rw[ajW]at QI
   have A:∀j,j<r.size->((xs.take (q*r.size+p.off)++vs++xs.drop (q*r.size+p.off+vs.length)))[i*r.size+j]? =
    if i*r.size+j<q*r.size+p.off then xs[i*r.size+j]? else if i*r.size+j<q*r.size+p.off+vs.length then vs[i*r.size+j-(q*r.size+p.off)]? else xs[i*r.size+j]? :=by
    intro j hj;rw[List.append_assoc,akj];simp only[ajj,KM,ajV (show q*r.size+p.off<=l.length*r.size from by omega)];split
    .grind
    .rw[akj];split
     .grind
     .rename_i h1 h2;rw[ai (by omega),ajE]
      grind
   by_cases XY:i=q
   .subst XY;rw[List.getElem_set_self];have hp:=(h3 i hi).put p hv
    have:((xs.take (i*r.size+p.off)++vs++xs.drop (i*r.size+p.off+vs.length)).drop (i*r.size)).take r.size=
     ((xs.drop (i*r.size)).take r.size).take p.off++vs++((xs.drop (i*r.size)).take r.size).drop (p.off+s.size):=by
     have TX:((xs.drop (i*r.size)).take r.size).length=r.size:=by rw[ajj,List.length_drop,KM];omega
     have XZ:∀j,j<r.size->((xs.drop (i*r.size)).take r.size)[j]? =xs[i*r.size+j]? :=(by grind)
     generalize(xs.drop (i*r.size)).take r.size=seg at TX XZ
     apply List.ext_getElem?
     intro j;rw[akj (l₁:=seg.take p.off++vs),akj (l₁:=seg.take p.off),List.length_append,ajj,TX,ajV (show p.off<=r.size from by omega),ajI (l:=List.drop _ _)];by_cases hj:j<r.size
     .rw[aj hj,ajE,A j hj];by_cases X0:j<p.off
      .rw[aj (by omega),aj (by omega),aj X0,ajI,aj X0,XZ j hj]
      .rw[ai (by omega)];by_cases Xa:j<p.off+vs.length
       .rw[aj (by omega),aj Xa,ai X0]
        congr 1
        omega
       .rw[ai (by omega),ai Xa,ajE,<-XZ j hj]
        congr 1
        omega
     .grind
    rw[this];exact hp.step mU
   .rw[List.getElem_set_ne (λe=>XY e.symm)]
    have:((xs.take (q*r.size+p.off)++vs++xs.drop (q*r.size+p.off+vs.length)).drop (i*r.size)).take r.size=(xs.drop (i*r.size)).take r.size:=by
     apply List.ext_getElem?
     intro j;rw[ajI,ajI];by_cases hj:j<r.size
     .rw[aj hj,aj hj,ajE,A j hj,ajE]
      rcases Nat.lt_or_gt_of_ne XY with aH|hgt
      .have:(i+1)*r.size<=q*r.size:=aiV _ aH
       grind
      .have:(q+1)*r.size<=i*r.size:=aiV _ hgt
       grind
     .grind
    rw[this];exact(h3 i hi).step mU
def Own.at{g o0 m0 QH q:Nat}{i:Int}{v:Value}{l:List r.den}{a:r.den}(h:Own base F w e r v l)(hg:v= .slice (aa ⟨g,o0,ae⟩) m0 QH)(hq:i=(q:Nat))(pY:idx l i=aa a):At F w r g (o0+q*r.size) a:=by
 obtain⟨b,off,cap,k,hv,hk,aH,xS⟩:=h.reads.elem pY
 grind
def KP(cs:List Value):∀(k:Nat)(pre post:List Value),post.length=cs.length->∀(tail:List Value),
 (cs.zipIdx k).foldl (λ(acc:Array Value)(cj:Value×Nat)=>acc.setIfInBounds (pre.length-k+cj.2) cj.1) (pre++post++tail).toArray=(pre++cs++tail).toArray\/pre.length<k:=by
 induction cs with
 |nil=>simp_all
 |cons c q ih=>
  intro k pre post hp tail;by_cases hk:pre.length<k
  .exact .inr hk
  cases post with
  |nil=>simp at hp
  |cons p0 post=>
   simp only[List.zipIdx_cons,List.foldl_cons]
   rcases ih (k+1) (pre++[c]) post (by simpa using hp) tail with h|h
   all_goals simp_all
def yz{place:Nat->Option (Nat×Nat)}{i off size:Nat}{v:Value}{vs cells:List Value}{rest:List (Nat×Value)}(hp:place i=aa (off,size))(hv:v.cells.toList=vs)(hs:vs.length=size)(hle:off+size<=cells.length):
 Instr.fill place cells.toArray ((i,v)::rest)=Instr.fill place (cells.take off++vs++cells.drop (off+size)).toArray rest:=by
 have hvc:v.cells=vs.toArray:=by rw[<-hv,ajq]
 have hf:=KP vs 0 (cells.take off) ((cells.drop off).take size) (by simp;omega) (cells.drop (off+size))
 have Ej:cells.take off++(cells.drop off).take size++cells.drop (off+size)=cells:=by
  rw[List.append_assoc,<-List.drop_drop,ajU,ajU]
 have hlen:(cells.take off).length=off:=by simp;omega
 rw[Ej,hlen,Nat.sub_zero]at hf
 rcases hf with hf|hf
 case inr=>omega
 rw[Instr.fill]
 grind
inductive vO(F:Nat->Prop)(w:World)(r:Row):List Value->List r.den->Prop where
 |nil:vO F w r [] []
 |cons {v:Value} {vs:List Value} {cs:List Value} {a:r.den} {l:List r.den} (hc:v.cells.toList=cs) (hr:cG F w r cs a) (h:vO F w r vs l):vO F w r (v::vs) (a::l)
theorem vO.length{vs:List Value}{l:List r.den}(h:vO F w r vs l):vs.length=l.length:=by
 induction h<;>grind
def vO.fill{vs:List Value}{l:List r.den}(h:vO F w r vs l):∀(k:Nat)(pre post:List Value),pre.length=k*r.size->post.length=vs.length*r.size->
 ∃xs,Instr.fill (λi=>aa (i*r.size,r.size)) (pre++post).toArray ((vs.zipIdx k).map λp=>(p.2,p.1))=aa (pre++xs).toArray/\xs.length=l.length*r.size/\∀i(hi:i<l.length),cG F w r ((xs.drop (i*r.size)).take r.size) l[i]:=by
 induction h with
 |nil=>
  intro k pre post hp hq
  have:post=[]:=(by simp_all)
  subst this;exact⟨[],by simp[Instr.fill],by simp,λi hi=>absurd hi (by simp)⟩
 | @cons v vs cs a l hc hr h ih=>
   intro k pre post hp hq;have hl:=hr.length;rw[aiU,ajW,Nat.one_mul]at hq;obtain⟨xs,h1,h2,h3⟩:=ih (k+1) (pre++cs) (post.drop r.size) (by grind) (by grind);refine⟨cs++xs,?_,by grind,λi hi=>?_⟩
   .simp only[List.zipIdx_cons,ai2];rw[yz (place:=λi=>aa (i*r.size,r.size)) rfl hc hl (by grind)];rw[<-hp,List.take_left',List.drop_append,ajo (by omega),ajf,show pre.length+r.size-pre.length=r.size from by omega]
    all_goals grind
   .cases i with
    |zero=>
     grind
    |succ i=>
     rw[ajW,Nat.one_mul,Nat.add_comm,<-List.drop_drop,<-hl,List.drop_left',hl]
     all_goals grind
end
end
section
open Go Go.RowKit Go.ChangeShapes Go.WideShapes Go.ChangeAt Go.Deep
def WF:(r:Row)->r.den->Prop
 | .int k,n=>k.min<=n/\n<=k.max
 | .bool,_=>True
 | .str,s=>s.size<=maxLen
 | .slice e,l=>l.length<=maxLen/\∀x∈l,WF e x
 | .lS,_=>True
 | .nul _,_=>True
 | .map ..,_=>True
 | .pair a b,x=>WF a x.1/\WF b x.2
def sj:(r:Row)->r.den->Nat
 | .int _,_=>1
 | .bool,_=>1
 | .str,s=>s.size+1
 | .slice e,l=>(l.map (sj e)).sum+1
 | .lS,_=>1
 | .nul _,_=>1
 | .map ..,_=>1
 | .pair a b,x=>sj a x.1+sj b x.2
def pK{H:Type}:(l:List (DataW H))->Rows.uptoBulkAll l=(l.map Rows.uptoBulk).sum
 |[]=>by simp[Rows.uptoBulkAll]
 |a::l=>by simp[Rows.uptoBulkAll,pK l]
def here(w:World)(b:Nat):Prop:=b<w.heap.size
def dQ(P:Program)(t:TypeId)(r:Row):Prop:=
 ∀(H:Type)(enc:TypeId×Value->H)(w:World)(spare:Nat->Bool)(held:Bool)(fuel:Nat)(cs:List Value)(x:DataW H×List MemPlace),DataW.trod enc P w 0 spare held fuel t cs=aa x->
  ∃y:r.den,cG (here w) w r cs y/\WF r y/\sj r y<=Rows.uptoBulk x.1
def vv(P:Program)(fs:List Field)(r:Row)(off:Nat):Prop:=
 ∀(H:Type)(enc:TypeId×Value->H)(w:World)(spare:Nat->Bool)(held:Bool)(n:Nat)(cs:List Value)(xs:List (DataW H×List MemPlace)),xs.length=fs.length->
  (∀(i:Nat)(f:Field),fs[i]? =aa f->DataW.trod enc P w 0 spare held n f.type ((cs.drop f.offset).take (P.cellsOf f.type))=xs[i]?)->off+r.size<=cs.length->
  ∃y:r.den,cG (here w) w r ((cs.drop off).take r.size) y/\WF r y/\sj r y<=Rows.uptoBulkAll (xs.map (·.1))
section
variable {P:Program} {t e:TypeId} {r a b:Row} {k:IntKind}
def Ie(ht:P.underlying t=aa (.int k)):dQ P t (.int k):=by
 intro H enc w spare held fuel cs x h;obtain⟨n,rfl,rfl,hn⟩:=DataW.trod_int ht h;exact⟨n,rfl,by simpa[Lit.wf,WF]using hn,by simp[sj,Rows.uptoBulk]⟩
def yA(ht:P.underlying t=aa .string):dQ P t .str:=by
 intro H enc w spare held fuel cs x h;obtain⟨s,rfl,rfl,hs⟩:=DataW.trod_string ht h;exact⟨s,rfl,hs,Nat.le_of_eq rfl⟩
def pZ{α:Type}{p:Nat->α->Prop}:(n:Nat)->(∀i,i<n->∃x,p i x)->∃l:List α,l.length=n/\∀i(h:i<l.length),p i l[i]
 |0,_=>(by simp_all)
 |n+1,h=>by
  obtain⟨l,hl,hp⟩:=pZ n λi hi=>h i (by omega)
  obtain⟨x,hx⟩:=h n (by omega);refine⟨l++[x],by simp[hl],λi hi=>?_⟩
  grind
def eD(ht:P.underlying t=aa (.slice e))(hs:P.cellsOf e=r.size)(he:dQ P e r):dQ P t (.slice r):=by
 intro H enc w spare held fuel cs x h
 rcases open_slice ht h with⟨rfl,rfl⟩|⟨ad,len,cap,m,n,D,Pl,rfl,_,hl,hm,QJ,rfl,hi⟩
 .exact⟨[],cG.nil _ _ _,⟨by simp[maxLen],λx hx=>absurd hx (by simp)⟩,by simp[sj,Rows.uptoBulk]⟩
 .have hlm:len<=m:=by rw[QJ];split<;>omega
  have key:∀i,i<len->∃y:r.den,∃ra,(ra.length=r.size/\(∀j,j<r.size->w.cell? ((ad.add (i*r.size)).add j)=ra[j]?))/\cG (here w) w r ra y/\WF r y/\sj r y<=Rows.uptoBulk (D i):=by
   intro i pJ;obtain⟨ra,hc,htr⟩:=hi i (by omega);rw[hs]at hc;obtain⟨_,yB,xJ⟩:=World.cells?_some hc;obtain⟨y,h1,h2,h3⟩:=he H enc w spare held n ra _ htr;exact(by grind)
  obtain⟨l,Tq,hp⟩:=pZ len key;subst Tq;have pW:=r.size_pos;refine⟨l,⟨aa ad,cap,rfl,hl,hm,λi hi=>?_⟩,⟨by omega,λx hx=>?_⟩,?_⟩
  .obtain⟨ra,⟨yB,xJ⟩,hr,_,_⟩:=hp i hi;obtain⟨Xe,⟨xK,xL⟩,_⟩:=hp 0 (by omega);have h0:=xL 0 pW;rw[aiG (by omega)]at h0;simp only[Nat.zero_mul,Addr.add,if_true]at h0
   have tE:ad.spot=ae:=by
    cases tE:ad.spot with
    |none=>rfl
    |some q=>
     unfold ajr at h0
     grind
   obtain⟨bb,off,sp⟩:=ad;simp only at tE;subst tE;refine⟨bb,off,ra,rfl,block_lt_of_cell h0,yB,λj u hu=>?_,hr⟩
   grind [dg]
  .grind [aiR]
  .simp only[sj,Rows.uptoBulk,pK]
   have:∀(n:Nat),n<=l.length->((l.take n).map (sj r)).sum<=(((ajp n).map D).map Rows.uptoBulk).sum:=by
    intro n hn
    induction n with
    |zero=>simp
    |succ n ih=>
     have h1:=ih (by omega);obtain⟨_,_,_,_,h3⟩:=hp n (by omega)
     grind [List.take_succ_eq_append_getElem,List.range_succ]
   grind
def cJ{f:Field}{off:Nat}(ho:f.offset=off)(hc:P.cellsOf f.type=r.size)(he:dQ P f.type r):vv P [f] r off:=by
 intro H enc w spare held n cs xs hl hx _;subst ho
 match xs,hl with
 |[x],_=>
  have h:=hx 0 f rfl;rw[hc]at h;obtain⟨y,h1,h2,h3⟩:=he H enc w spare held n _ x h
  grind [Rows.uptoBulkAll]
def aO{f:Field}{fs:List Field}{off:Nat}(ho:f.offset=off)(hc:P.cellsOf f.type=a.size)(he:dQ P f.type a)(hr:vv P fs b (off+a.size)):vv P (f::fs) (.pair a b) off:=by
 intro H enc w spare held n cs xs hl hx hle;subst ho
 match xs,hl with
 |x::xs,hl=>
  have h:=hx 0 f rfl;rw[hc]at h;obtain⟨y,h1,h2,h3⟩:=he H enc w spare held n _ x h;simp only[Row.size]at hle;obtain⟨z,g1,g2,g3⟩:=hr H enc w spare held n cs xs (by simpa using hl) (λi f' hf=>by simpa using hx (i+1) f' (by simpa using hf)) (by omega);refine⟨(y,z),⟨_,_,?_,h1,g1⟩,⟨h2,g2⟩,by grind [sj,Rows.uptoBulkAll]⟩
  grind [Row.size,List.drop_drop]
def cw{fs:Array Field}(ht:P.underlying t=aa (.struct fs))(hc:P.cellsOf t=r.size)(h:vv P fs.toList r 0):dQ P t r:=by
 intro H enc w spare held fuel cs x hx;obtain⟨xs,n,_,rfl,hlen,KM,hf⟩:=DataW.trod_struct ht hx;rw[hc]at hlen;obtain⟨y,h1,h2,h3⟩:=h H enc w spare held n cs xs (by simpa using KM) (by grind) (by omega)
 grind [Rows.uptoBulk]
variable {H:Type} {enc:TypeId×Value->H} {w:World} {base:Nat} {spare:Nat->Bool} {held:Bool} {v:Value} {d:DataW H} {ps:List MemPlace}
def If(ht:P.underlying t=aa (.slice e))(ho:dQ P t (.slice r))(hv:Value.okWide P w .any base t v)(h:DataW.Trod enc P w 0 spare held t v d ps):
 ∃l:List r.den,cG (here w) w (.slice r) [v] l/\WF (.slice r) l/\sj (.slice r) l<=Rows.uptoBulk d:=by
 obtain⟨a0,len,cap,rfl⟩:=okWide_slice ht hv;obtain⟨fuel,hf⟩:=h;exact ho H enc w spare held fuel _ _ hf
def rD{fs:Array Field}(ht:P.underlying t=aa (.struct fs))(ho:dQ P t r)(hv:Value.okWide P w .any base t v)(h:DataW.Trod enc P w 0 spare held t v d ps):
 ∃(es:List Value)(x:r.den),v= .agg es.toArray/\cG (here w) w r es x/\WF r x/\sj r x<=Rows.uptoBulk d:=by
 obtain⟨cs,rfl,_⟩:=okWide_struct ht hv;obtain⟨fuel,hf⟩:=h;obtain⟨x,h1,h2,h3⟩:=ho H enc w spare held fuel _ _ hf;exact⟨cs.toList,x,by simp,by simpa[Value.cells]using h1,h2,h3⟩
def rf(hl:laidOutB P=af){W W':World}(hb:Below W.heap.size W W'){sp:Nat->Bool}:(ts:List TypeId)->(vs:List Value)->(ds:List (DataW H))->(ps:List MemPlace)->
 (∀t∈ts,(P.readableRec t&&ajg t P.types.size)=af)->DataW.TrodAll enc P W 0 (λ_=>af) af ts vs ds ps->(∀x∈ps,x.block<W.heap.size)->(∀x∈ps,sp x.block=af)->DataW.TrodAll enc P W' 0 sp af ts vs ds ps
 |[],[],[],_,_,h,_,_=>h
 |t::ts,v::vs,d::ds,ps,hr,h,aH,tE=>by
  obtain⟨p,q,h1,h2,rfl⟩:=h;have ht:=hr t (by simp);simp only[ajH,Nat.blt_eq]at ht
  exact⟨p,q,WideElems.Trod_stays hl ht.1 ht.2 h1 (λx hx=>hb.same (aH x (by simp[hx]))) (λx hx=>tE x (by simp[hx])),
   rf hl hb ts vs ds q (λt ht=>hr t (by simp[ht])) h2 (λx hx=>aH x (by simp[hx])) (λx hx=>tE x (by simp[hx])),rfl⟩
def xT{f:Func}{s:ChangeSpec}{apart fresh handsOn again:Bool}{W W':World}{args:Array Value}{v:Value}{ds gs:List (DataW H)}{before pa pv:List MemPlace}
 (hW:DataW.Whole enc P f.params.toList s.vars apart W args.toList ds gs before)
 (BR:∀(b:Nat)(sp:Nat->Bool)(hd:Bool),DataW.TrodAll enc P W' b sp hd f.resultTypes.toList (v.resultList f.resultTypes.size) (s.fn H (ds++gs)).results [])
 (Gt:∀sp:Nat->Bool,(∀p∈before,sp p.block=af)->DataW.TrodAll enc P W' 0 sp af f.params.toList args.toList (s.fn H (ds++gs)).args pa)
 (PH:∀sp:Nat->Bool,(∀p∈before,sp p.block=af)->DataW.TrodVars enc P W' sp s.vars (s.fn H (ds++gs)).vars pv)
 (hps:before=pa++pv)(hb:Below W.heap.size W W')
 (sq:∀(j:Nat)(t:TypeId)(r:Value),f.resultTypes[j]? =aa t->(v.resultList f.resultTypes.size)[j]? =aa r->Value.okWide P W' .any 0 t r):
 s.post enc P f apart fresh handsOn again W args v W':=by
 have aH:∀p∈before,p.block<W.heap.size:=λp hp=>hW.lt p hp
 have hold:∀p∈before,(λb=>decide (b<W.heap.size)) p.block=af:=λp hp=>by grind
 refine⟨ds,gs,before,[],pa,pv,hW,BR _ _ _,Gt _ hold,PH _ hold,World.keptBut_mono (λp hp=>⟨hp,?_⟩) (hb.frame (· ∈before)),λ_=>?_⟩
 .grind
 .obtain⟨_,_,_,_,_,hz,hn⟩:=hW;refine⟨sq,_,_,([]++pa)++pv,⟨[]++pa,pv,trodAll_append (Gt _ (λ_ _=>rfl)) (BR _ _ _),PH _ (λ_ _=>rfl),rfl,?_,?_⟩,?_⟩
  .intro b off hp
   have cP:MemPlace.cell b off∈before:=by rw[hps];simpa using hp
   rw[hb.frozen (aH _ cP)];exact hz b off cP
  all_goals grind
end
end
section
def fX{α:Type}(l:List α)(a b:Int):Option (List α):=if 0<=a/\a<=b/\b<=l.length then aa ((l.take b.toNat).drop a.toNat)else ae
def vN{α:Type}(l:List α)(a b c:Int):Option (List α):=if c=(l.length:Int)then fX l a b else ae
variable {F:Nat->Prop} {w:World} {r:Row}
def cG.cut{A:Option Addr}{cap:Nat}{l:List r.den}{a b:Nat}(h:cG F w (.slice r) [.slice A l.length cap] l)(h1:a<=b)(h2:b<=l.length):
 cG F w (.slice r) [sliced A a b cap r.size] ((l.take b).drop a):=by
 obtain⟨A',Ei,hv,hc,hm,hs⟩:=h;simp only[ajw,ajS,and_true,true_and]at hv;obtain⟨rfl,rfl⟩:=hv
 have hlen:((l.take b).drop a).length=b-a:=by simp;omega
 refine⟨_,cap-a,by rw[hlen];rfl,by omega,by omega,λi hi=>?_⟩
 have pJ:a+i<l.length:=by omega
 grind [dg]
def cG.tight{A:Option Addr}{cap:Nat}{l:List r.den}(h:cG F w (.slice r) [.slice A l.length cap] l):
 cG F w (.slice r) [.slice A l.length l.length] l:=by
 obtain⟨A',Ei,hv,hc,hm,hs⟩:=h;simp only[ajw,ajS,and_true,true_and]at hv;obtain⟨rfl,rfl⟩:=hv;exact⟨_,_,rfl,aiM _,by omega,hs⟩
section
variable {P:Program} {n:Nat} {ops:Array Oper} {K:(Nat->Value)->World->Prop} {rest:List Oper} {ρ:Nat->Value}
variable {d:Nat} {ty:TypeId} {pos:String} {aft:Array Edge} {x y z:Operand} {t e:TypeId}
def Gu{t e:TypeId}(ht:P.underlying t=aa (.slice e)):P.underlying t=aa (.slice (P.elem t)):=by
 simp[Program.elem,ht]
inductive PI(ρ:Nat->Value):Option Operand->Option Int->Prop
 |none:PI ρ ae ae
 |some {x:Operand} {k:IntKind} {i:Int} (h:ev ρ x= .int k i):PI ρ (aa x) (aa i)
def vw{ti:TypeInfo}{A:Option Addr}{len cap:Nat}{lo hi:Option Operand}{a b:Option Int}(ht:P.underlying t=aa (.slice e))(pJ:P.info? e=aa ti)(hx:ev ρ x= .slice A len cap)
 (ha:PI ρ lo a)(hb:PI ρ hi b)(h0:0<=a.getD 0)(h1:a.getD 0<=b.getD len)(h2:b.getD len<=len)(hc:len<=cap):
 (execOp (ev ρ) ⟨aa d, .slice t x lo hi ae,ty,pos,aft,ae⟩).run P w= .ok (.value (sliced A (a.getD 0).toNat (b.getD len).toNat cap ti.size)) w:=by
 have BH:=Gu ht
 have he:P.elem t=e:=by simp[Program.elem,ht]
 cases ha with
 |none=>
  cases hb with
  |none=>
   have:=run_slice_all (P:=P) (w:=w) t A len cap BH;simp[execOp,hx,run_sliceAt_slice (P:=P) w t _ _ _ _ BH,this,he,sizeOf,typeInfo,pJ]
  |some hh=>
   rename_i xb kb ib;have:=run_slice_h (P:=P) (w:=w) t A len cap BH kb ib (by simpa using h1) (by grind);simp[execOp,hx,hh,run_sliceAt_slice (P:=P) w t _ _ _ _ BH,this,he,sizeOf,typeInfo,pJ]
 |some hl=>
  rename_i xa ka ia
  cases hb with
  |none=>
   have:=run_slice_l (P:=P) (w:=w) t A len cap BH ka ia (by simpa using h0) (by simpa using h1);simp[execOp,hx,hl,run_sliceAt_slice (P:=P) w t _ _ _ _ BH,this,he,sizeOf,typeInfo,pJ]
  |some hh=>
   rename_i xb kb ib;have:=run_slice_lh (P:=P) (w:=w) t A len cap BH ka kb ia ib (by simpa using h0) (by simpa using h1) (by grind);simp[execOp,hx,hl,hh,run_sliceAt_slice (P:=P) w t _ _ _ _ BH,this,he,sizeOf,typeInfo,pJ]
def KQ{ti:TypeInfo}{A:Option Addr}{len cap:Nat}{lo:Option Operand}{a:Option Int}{kb km:IntKind}{b c:Int}(ht:P.underlying t=aa (.slice e))(pJ:P.info? e=aa ti)(hx:ev ρ x= .slice A len cap)
 (ha:PI ρ lo a)(hb:ev ρ y= .int kb b)(hm:ev ρ z= .int km c)(h0:0<=a.getD 0)(h1:a.getD 0<=b)(h2:b<=c)(hc:c<=cap):
 (execOp (ev ρ) ⟨aa d, .slice t x lo (aa y) (aa z),ty,pos,aft,ae⟩).run P w= .ok (.value (sliced A (a.getD 0).toNat b.toNat c.toNat ti.size)) w:=by
 have BH:=Gu ht
 have he:P.elem t=e:=by simp[Program.elem,ht]
 cases ha with
 |none=>
  have:=run_slice_hm (P:=P) (w:=w) t A len cap BH kb km b c (by simpa using h1) h2 hc;simp[execOp,hx,hb,hm,run_sliceAt_slice (P:=P) w t _ _ _ _ BH,this,he,sizeOf,typeInfo,pJ]
 |some hl=>
  rename_i xa ka ia;have:=run_slice_lhm (P:=P) (w:=w) t A len cap BH ka kb km ia b c (by simpa using h0) (by simpa using h1) h2 hc;simp[execOp,hx,hl,hb,hm,run_sliceAt_slice (P:=P) w t _ _ _ _ BH,this,he,sizeOf,typeInfo,pJ]
def qD{α:Type}{l m:List α}{a b:Int}(h:fX l a b=aa m):∃p q:Nat,a=p/\b=q/\p<=q/\q<=l.length/\m=(l.take q).drop p:=by
 grind [fX]
end
end
abbrev pL:Row:= .int .i64
def Gv:List (Nat×((r:Row)×r.den)):=[(0,⟨.pair pL (.pair pL (.pair pL (.pair pL (.pair pL (.pair pL (.pair pL (.pair pL (.pair pL (.pair pL (.pair pL pL)))))))))),(31,28,31,30,31,30,31,31,30,31,30,31)⟩)]
section
inductive DR where
 |leaf (r:Row)
 |sl (T:TypeId) (d:DR)
 |pair (a b:DR)
@[reducible] def DR.row:DR->Row
  | .leaf r=>r
  | .sl _ d=> .slice d.row
  | .pair a b=> .pair a.row b.row
@[reducible] def DR.low:DR->Row
  | .leaf r=>r
  | .sl _ _=> .lS
  | .pair a b=> .pair a.low b.low
theorem DR.size:(d:DR)->d.low.size=d.row.size
 | .leaf _=>rfl
 | .sl _ _=>rfl
 | .pair a b=>by show a.low.size+b.low.size=a.row.size+b.row.size;rw[a.size,b.size]
inductive gB:DR->DR->Type where
 |here {d:DR}:gB d d
 |fst {a b e:DR} (p:gB a e):gB (.pair a b) e
 |snd {a b e:DR} (p:gB b e):gB (.pair a b) e
def gB.lo:{d e:DR}->gB d e->Path d.low e.low
 |_,_, .here=> .here
 |_,_, .fst p=> .fst p.lo
 |_,_, .snd p=> .snd p.lo
def gB.hi:{d e:DR}->gB d e->Path d.row e.row
 |_,_, .here=> .here
 |_,_, .fst p=> .fst p.hi
 |_,_, .snd p=> .snd p.hi
def DR.path:(d:DR)->List Bool->Option ((e:DR)×gB d e)
 |d,[]=>aa ⟨d, .here⟩
 | .pair a b,c::p=>match c with
   |false=>match a.path p with
    |some ⟨e,q⟩=>aa ⟨e, .fst q⟩
    |none=>ae
   |true=>match b.path p with
    |some ⟨e,q⟩=>aa ⟨e, .snd q⟩
    |none=>ae
 |_,_::_=>ae
def lU(F:Nat->Prop)(w:World)(T:TypeId)(r:Row)(v:Value)(l:List r.den):Prop:=
 ∃xs,nN w 0 T r.size v l.length xs/\∀i(h:i<l.length),cG F w r ((xs.drop (i*r.size)).take r.size) l[i]
structure oE(Ss:Nat->Nat->Prop)(n:Nat)(m:Nat->Prop)(S:Nat->Prop):Prop where
 all:∀k,S k↔m k\/∃i,i<n/\Ss i k
 two:∀i j k,i<n->j<n->i≠j->Ss i k->¬Ss j k
 out:∀i k,i<n->Ss i k->¬m k
structure r7(A B S:Nat->Prop):Prop where
 all:∀k,S k↔A k\/B k
 off:∀k,A k->¬B k
def Ig{α:Type}(F:Nat->Prop)(w:World)(T:TypeId)(r:Row)(rel:Nat->r.den->α->(Nat->Prop)->Prop)(u:Value)(l:List α)(S:Nat->Prop):Prop:=
 ∃(lh:List r.den)(Ss:Nat->Nat->Prop),lU F w T r u lh/\lh.length=l.length/\(∀i(h1:i<lh.length)(h2:i<l.length),rel i lh[i] l[i] (Ss i))/\oE Ss l.length (bF u) S
def lk(F:Nat->Prop)(w:World):(d:DR)->d.low.den->d.row.den->(Nat->Prop)->Prop
 | .leaf _,x',x,S=>x'=x/\∀k,¬S k
 | .sl T d,u,l,S=>Ig F w T d.low (λ_=>lk F w d) u l S
 | .pair a b,x',x,S=>∃A B,lk F w a x'.1 x.1 A/\lk F w b x'.2 x.2 B/\r7 A B S
def ot(F:Nat->Prop)(w:World):{d e:DR}->gB d e->d.low.den->d.row.den->(Nat->Prop)->Prop
 |_,_, .here,_,_,S=>∀k,¬S k
 |_,_, .fst (b:=b) p,x',x,S=>∃A B,ot F w p x'.1 x.1 A/\lk F w b x'.2 x.2 B/\r7 A B S
 |_,_, .snd (a:=a) p,x',x,S=>∃A B,lk F w a x'.1 x.1 A/\ot F w p x'.2 x.2 B/\r7 A B S
section
variable {F F':Nat->Prop} {w w':World} {T:TypeId} {S:Nat->Prop}
def lU.keep{r:Row}{v:Value}{l:List r.den}(h:lU F w T r v l)(hs:Step F w F' w')(hb:∀k,bF v k->w'.heap[k]? =w.heap[k]?):lU F' w' T r v l:=by
 obtain⟨xs,⟨X1,Gw⟩,h3⟩:=h;refine⟨xs,⟨X1,?_⟩,λi hi=>(h3 i hi).step hs⟩
 rcases Gw with h2|⟨gg,o0,cap,cur,rfl,pX,hg,rest⟩
 .exact .inl h2
 .exact .inr ⟨gg,o0,cap,cur,rfl,pX,(hb gg rfl).trans hg,rest⟩
def lU.lt{r:Row}{v:Value}{l:List r.den}(h:lU F w T r v l):∀k,bF v k->k<w.heap.size:=by
 obtain⟨xs,h,_⟩:=h
 exact λk hk=>(h.lt k hk).2
def lU.one{r:Row}{v:Value}{l:List r.den}(h:lU F w T r v l):v.oneCell'=af:=by
 obtain⟨xs,⟨_,h⟩,_⟩:=h
 rcases h with⟨rfl,_⟩|⟨gg,o0,cap,cur,rfl,_⟩<;>rfl
def lU.nil(F:Nat->Prop)(w:World)(T:TypeId)(r:Row):lU F w T r (.slice ae 0 0) []:=(Own.nil 0 F w T r).2
def r7.left{A B:Nat->Prop}(h:r7 A B S):∀k,A k->S k:=λk hk=>(h.all k).2 (.inl hk)
def r7.right{A B:Nat->Prop}(h:r7 A B S):∀k,B k->S k:=λk hk=>(h.all k).2 (.inr hk)
def oE.bF{Ss:Nat->Nat->Prop}{n:Nat}{m:Nat->Prop}(h:oE Ss n m S):∀k,m k->S k:=λk hk=>(h.all k).2 (.inl hk)
def oE.part{Ss:Nat->Nat->Prop}{n:Nat}{m:Nat->Prop}(h:oE Ss n m S){i:Nat}(hi:i<n):∀k,Ss i k->S k:=λk hk=>(h.all k).2 (.inr ⟨i,hi,hk⟩)
def Ig.mono{α:Type}{r:Row}{rel TY:Nat->r.den->α->(Nat->Prop)->Prop}{u:Value}{l:List α}(h:Ig F w T r rel u l S)(hs:Step F w F' w')(hb:∀k,S k->w'.heap[k]? =w.heap[k]?)
 (hr:∀i x'(hi:i<l.length)A,(∀k,A k->S k)->rel i x' l[i] A->TY i x' l[i] A):Ig F' w' T r TY u l S:=by
 obtain⟨lh,Ss,h1,h2,h3,h4⟩:=h;exact⟨lh,Ss,h1.keep hs λk hk=>hb k (h4.bF k hk),h2,λi a b=>hr i _ b _ (h4.part b) (h3 i a b),h4⟩
def lk.keep(hs:Step F w F' w'):{d:DR}->{x':d.low.den}->{x:d.row.den}->{S:Nat->Prop}->lk F w d x' x S->(∀k,S k->w'.heap[k]? =w.heap[k]?)->lk F' w' d x' x S
 | .leaf _,_,_,_,h,_=>h
 | .sl T d,u,l,S,h,hb=>Ig.mono (show Ig F w T d.low _ u l S from h) hs hb λi x' hi A hA hr=>lk.keep hs hr λk hk=>hb k (hA k hk)
 | .pair a b,_,_,_,h,hb=>by
   obtain⟨A,B,h1,h2,h3⟩:=h;exact⟨A,B,h1.keep hs λk hk=>hb k (h3.left k hk),h2.keep hs λk hk=>hb k (h3.right k hk),h3⟩
def ot.keep(hs:Step F w F' w'):{d e:DR}->{p:gB d e}->{x':d.low.den}->{x:d.row.den}->{S:Nat->Prop}->ot F w p x' x S->(∀k,S k->w'.heap[k]? =w.heap[k]?)->ot F' w' p x' x S
 |_,_, .here,_,_,_,h,_=>h
 |_,_, .fst p,_,_,_,h,hb=>by
  obtain⟨A,B,h1,h2,h3⟩:=h;exact⟨A,B,ot.keep hs h1 λk hk=>hb k (h3.left k hk),h2.keep hs λk hk=>hb k (h3.right k hk),h3⟩
 |_,_, .snd p,_,_,_,h,hb=>by
  obtain⟨A,B,h1,h2,h3⟩:=h;exact⟨A,B,h1.keep hs λk hk=>hb k (h3.left k hk),ot.keep hs h2 λk hk=>hb k (h3.right k hk),h3⟩
def lk.lt:{d:DR}->{x':d.low.den}->{x:d.row.den}->{S:Nat->Prop}->lk F w d x' x S->∀k,S k->k<w.heap.size
 | .leaf _,_,_,_,h,k,hk=>absurd hk (h.2 k)
 | .sl T d,u,l,S,h,k,hk=>by
   obtain⟨lh,Ss,h1,h2,h3,h4⟩:=h
   rcases(h4.all k).1 hk with hm|⟨i,hi,hm⟩
   .exact h1.lt k hm
   .exact lk.lt (h3 i (by omega) hi) k hm
 | .pair a b,_,_,_,h,k,hk=>by
   obtain⟨A,B,h1,h2,h3⟩:=h
   rcases(h3.all k).1 hk with hm|hm
   .exact lk.lt h1 k hm
   .exact lk.lt h2 k hm
def lk.freeze:{d:DR}->{cs:List Value}->{x':d.low.den}->{x:d.row.den}->{S:Nat->Prop}->lk F w d x' x S->(∀k,S k->¬F k)->cG F w d.low cs x'->cG (λb=>F b\/S b) w d.row cs x
 | .leaf _,_,_,_,S,h,_,hr=>by
   obtain⟨rfl,_⟩:=h
   simp_all
 | .sl T d,cs,u,l,S,h,hn,hr=>by
   obtain⟨lh,Ss,⟨xs,hx,PJ⟩,h2,h3,h4⟩:=h;obtain⟨rfl,_⟩:=hr
   have Ek:Own 0 (λb=>F b\/∃i,i<l.length/\Ss i b) w T d.row u l:=by
    refine⟨λk hk hF=>?_,xs,?_,λi hi=>?_⟩
    .rcases hF with hF|⟨i,hi,hm⟩
     .exact hn k (h4.bF k hk) hF
     .exact h4.out i k hi hm hk
    .rw[<-d.size,<-h2];exact hx
    .have pJ:i<lh.length:=by omega
     have:=lk.freeze (h3 i pJ hi) (λk hk=>hn k (h4.part hi k hk)) (PJ i pJ);rw[<-d.size]
     exact this.step λb hb=>(by grind)
   exact Ek.freeze.step (r:= .slice d.row) λb hb=>⟨by
    rcases hb with(hb|⟨i,hi,hb⟩)|hb
    .exact .inl hb
    .exact .inr (h4.part hi b hb)
    .exact .inr (h4.bF b hb),rfl⟩
 | .pair a b,_,_,_,S,h,hn,hr=>by
   obtain⟨A,B,h1,h2,h3⟩:=h;obtain⟨c1,c2,rfl,r1,r2⟩:=hr;exact⟨c1,c2,rfl,(lk.freeze h1 (λk hk=>hn k (h3.left k hk)) r1).step λb hb=>⟨hb.imp id (h3.left b),rfl⟩,(lk.freeze h2 (λk hk=>hn k (h3.right k hk)) r2).step λb hb=>⟨hb.imp id (h3.right b),rfl⟩⟩
def lk.out:{d e:DR}->(p:gB d e)->{x':d.low.den}->{x:d.row.den}->{S:Nat->Prop}->lk F w d x' x S->∃A B,lk F w e (p.lo.get x') (p.hi.get x) A/\ot F w p x' x B/\r7 A B S
 |_,_, .here,_,_,S,h=>⟨S,λ_=>False,h,λ_ h=>h,⟨λk=>by simp,λ_ _ h=>h⟩⟩
 |_,_, .fst p,_,_,S,h=>by
  obtain⟨A,B,h1,h2,h3⟩:=h;obtain⟨A1,A2,g1,g2,g3⟩:=lk.out p h1;refine⟨A1,λk=>A2 k\/B k,g1,⟨A2,B,g2,h2,λk=>Iff.rfl,λk hk=>h3.off k (g3.right k hk)⟩,λk=>?_,λk hk hh=>?_⟩
  .rw[h3.all,g3.all,or_assoc]
  .exact hh.elim (g3.off k hk) (h3.off k (g3.left k hk))
 |_,_, .snd p,_,_,S,h=>by
  obtain⟨A,B,h1,h2,h3⟩:=h;obtain⟨B1,B2,g1,g2,g3⟩:=lk.out p h2;refine⟨B1,λk=>A k\/B2 k,g1,⟨A,B2,h1,g2,λk=>Iff.rfl,λk hk hh=>h3.off k hk (g3.right k hh)⟩,λk=>?_,λk hk hh=>?_⟩
  .rw[h3.all,g3.all];grind
  .exact hh.elim (λhh=>h3.off k hh (g3.left k hk)) (g3.off k hk)
def ot.put:{d e:DR}->(p:gB d e)->{x':d.low.den}->{x:d.row.den}->{y':e.low.den}->{y:e.row.den}->{A B S:Nat->Prop}->ot F w p x' x B->lk F w e y' y A->r7 A B S->lk F w d (p.lo.set x' y') (p.hi.set x y) S
 |_,_, .here,_,_,y',y,A,B,S,h,hy,h3=>by
  have:A=S:=by
   funext k;exact propext ⟨λhk=>h3.left k hk,λhk=>((h3.all k).1 hk).elim id λhb=>absurd hb (h k)⟩
  subst this;exact hy
 |_,_, .fst p,x',x,y',y,A,B,S,h,hy,h3=>by
  obtain⟨A2,B2,g1,g2,g3⟩:=h
  have t1:r7 A A2 (λk=>A k\/A2 k):=⟨λ_=>Iff.rfl,λk hk h2=>h3.off k hk (g3.left k h2)⟩
  refine⟨λk=>A k\/A2 k,B2,ot.put p g1 hy t1,g2,λk=>?_,λk hk h2=>?_⟩
  .rw[h3.all,g3.all,or_assoc]
  .exact hk.elim (λhk=>h3.off k hk (g3.right k h2)) λhk=>g3.off k hk h2
 |_,_, .snd p,x',x,y',y,A,B,S,h,hy,h3=>by
  obtain⟨A2,B2,g1,g2,g3⟩:=h
  have t1:r7 A B2 (λk=>A k\/B2 k):=⟨λ_=>Iff.rfl,λk hk h2=>h3.off k hk (g3.right k h2)⟩
  refine⟨A2,λk=>A k\/B2 k,g1,ot.put p g2 hy t1,λk=>?_,λk hk h2=>?_⟩
  .rw[h3.all,g3.all];grind
  .exact h2.elim (λh2=>h3.off k h2 (g3.left k hk)) λh2=>g3.off k hk h2
end
end
section
inductive Tree where
 |leaf (r:Row) (x:r.den)
 |own (o:Nat)
 |nil
 |pair (a b:Tree)
 |view (o s:Nat) (r:Row) (m:List r.den)
 |junk (n:Nat)
structure vP where
 i:Int
 p:List Bool
 o:Nat
 s:Nat
inductive Th where
 |box (T:TypeId) (t:Tree)
 |own (T:TypeId) (r:Row) (l:List r.den)
 |vh (T:TypeId) (r:Row) (l:List r.den)
 |map (T:TypeId) (K:Row) (agg:Bool) (V:Row) (l:List (K.den×V.den))
 |fmap (T:TypeId) (K:Row) (agg:Bool) (V:Row) (l:List (K.den×V.den))
 |deep (T:TypeId) (d:DR) (l:List d.row.den) (h:Option vP)
 |fdeep (T:TypeId) (d:DR) (l:List d.row.den)
 |dmap (T:TypeId) (K:Row) (E:TypeId) (r:Row) (l:List (K.den×List r.den)) (h:Option (K.den×Nat))
 |fdmap (T:TypeId) (K:Row) (E:TypeId) (r:Row) (l:List (K.den×List r.den))
def Th.base:Th->Th
 | .vh T r l=> .own T r l
 | .fmap T K agg V l=> .map T K agg V l
 | .fdeep T d l=> .deep T d l ae
 | .fdmap T K E r l=> .dmap T K E r l ae
 |t=>t
inductive aI where
 |dead
 |undef
 |val (agg:Bool) (t:Tree)
 |ptr (o:Nat) (p:List Bool) (off:Nat)
 |at (r:Row) (x:r.den)
 |elem (o s:Nat) (r:Row) (i:Int) (x:r.den) (p:List Bool) (off:Nat)
 |tup (ds:List (Bool×Tree))
 |dlm (o:Nat) (d:DR) (i:Int) (p:List Bool) (off:Nat)
 |fn (f:FuncId) (caps:List (Nat×List Bool×Nat))
 |ifc (T:TypeId) (d:aI)
structure aK where
 val:Nat->Option Value
 con:Nat->Option Th
 sub:Nat->Nat->Prop
structure aK.le(H H':aK):Prop where
 val:∀o v,H.val o=aa v->H'.val o=aa v
 con:∀s t,H.con s=aa t->H'.con s=aa t
 sub:∀s t,H.con s=aa t->H'.sub s=H.sub s
def aK.le.refl(H:aK):H.le H:=⟨λ_ _ h=>h,λ_ _ h=>h,λ_ _ _=>rfl⟩
def aK.le.trans{H H' xU:aK}(h:H.le H')(k:H'.le xU):H.le xU:=⟨λo v e=>k.val o v (h.val o v e),λo v e=>k.con o v (h.con o v e),λs t e=>(k.sub s t (h.con s t e)).trans (h.sub s t e)⟩
def mO(H:aK)(o s:Nat)(r:Row)(m:List r.den)(v:Value):Prop:=
 ∃A cap T,∃l:List r.den,∃a b,H.val o=aa (.slice A l.length cap)/\H.con s=aa (.own T r l)/\a<=b/\b<=l.length/\m=(l.take b).drop a/\v=sliced A a b cap r.size
def mO.keep{H H':aK}(hH:H.le H'){o s:Nat}{r:Row}{m:List r.den}{v:Value}(h:mO H o s r m v):mO H' o s r m v:=by
 obtain⟨A,cap,T,l,a,b,h1,h2,h3⟩:=h;exact⟨A,cap,T,l,a,b,hH.val _ _ h1,hH.con _ _ h2,h3⟩
def mO.back{H H' xU:aK}(hH:H.le H')(El:H.le xU){o s:Nat}{r:Row}{m:List r.den}{v0 v:Value}(h0:mO H o s r m v0)(h:mO H' o s r m v):mO xU o s r m v:=by
 obtain⟨A,cap,T,l,a,b,h1,h2,_⟩:=h0;obtain⟨A',Ei,T',l',a',b',k1,k2,k3⟩:=h;have e1:=hH.val _ _ h1;have e2:=hH.con _ _ h2;rw[k1]at e1;rw[k2]at e2;simp only[aiO,Th.own.injEq,heq_eq_eq,true_and]at e2;obtain⟨rfl,rfl⟩:=e2;exact⟨A',Ei,T',l',a',b',by rw[e1];exact El.val _ _ h1,El.con _ _ h2,k3⟩
def mO.one{H:aK}{o s:Nat}{r:Row}{m:List r.den}{v:Value}(h:mO H o s r m v):v.oneCell'=af:=by
 obtain⟨A,cap,T,l,a,b,_,_,_,_,_,rfl⟩:=h;simp[sliced,ajZ]
def lZ(H:aK):List (Nat×List Bool×Nat)->List Value->Prop
 |[],vs=>vs=[]
 |c::cs,vs=>∃v us,vs=v::us/\(∃b,H.val c.1=aa (.pointer (aa ⟨b,0,ae⟩))/\v= .pointer (aa ⟨b,c.2.2,ae⟩))/\lZ H cs us
def lZ.keep{H H':aK}(hH:∀o v,H.val o=aa v->H'.val o=aa v):{cs:List (Nat×List Bool×Nat)}->{vs:List Value}->lZ H cs vs->lZ H' cs vs
 |[],_,h=>h
 |_::_,_,h=>by obtain⟨v,us,e,⟨b,h1,h2⟩,h3⟩:=h;exact⟨v,us,e,⟨b,hH _ _ h1,h2⟩,h3.keep hH⟩
def Holds(H:aK)(F:Nat->Prop)(w:World):Tree->List Value->Prop
 | .leaf r x,cs=>cG F w r cs x
 | .own o,cs=>∃v,H.val o=aa v/\v.oneCell'=af/\cs=[v]
 | .nil,cs=>cs=[.slice ae 0 0]
 | .pair a b,cs=>∃c1 c2,cs=c1++c2/\Holds H F w a c1/\Holds H F w b c2
 | .view o s r m,cs=>∃v,cs=[v]/\mO H o s r m v
 | .junk n,cs=>cs.length=n/\∀u∈cs,u.oneCell'=af
def Tree.size:Tree->Nat
 | .leaf r _=>r.size
 | .own _=>1
 | .nil=>1
 | .pair a b=>a.size+b.size
 | .view .. =>1
 | .junk n=>n
def aW(H:aK)(F:Nat->Prop)(w:World)(agg:Bool)(t:Tree)(v:Value):Prop:=
 ∃cs,Holds H F w t cs/\v=(bif agg then .agg cs.toArray else cs.headD undef)/\(agg=ag->cs=[v])
def sr(H:aK)(F:Nat->Prop)(w:World):List (Bool×Tree)->List Value->Prop
 |[],vs=>vs=[]
 |d::ds,vs=>∃v us,vs=v::us/\aW H F w d.1 d.2 v/\sr H F w ds us
def aG(H:aK)(F:Nat->Prop)(w:World):aI->Value->Prop
 | .dead,_=>True
 | .undef,v=>v=Go.undef
 | .val agg t,v=>aW H F w agg t v
 | .ptr o _ off,v=>∃b,H.val o=aa (.pointer (aa ⟨b,0,ae⟩))/\v= .pointer (aa ⟨b,off,ae⟩)
 | .at r x,v=>∃b off,v= .pointer (aa ⟨b,off,ae⟩)/\F b/\At F w r b off x
 | .elem o s r i x _ off,v=>∃g o0 q T m cap l,H.val o=aa (.slice (aa ⟨g,o0,ae⟩) m cap)/\i=(q:Nat)/\H.con s=aa (.own T r l)/\idx l i=aa x/\v= .pointer (aa ⟨g,o0+q*r.size+off,ae⟩)
 | .tup ds,v=>∃vs,v= .tuple vs.toArray/\sr H F w ds vs
 | .dlm o d i _ off,v=>∃g o0 q m cap,H.val o=aa (.slice (aa ⟨g,o0,ae⟩) m cap)/\i=(q:Nat)/\v= .pointer (aa ⟨g,o0+q*d.low.size+off,ae⟩)
 | .fn f caps,v=>∃vs,v= .func (.func f) #[] vs.toArray/\lZ H caps vs
 | .ifc T d,v=>∃u,v= .iface T u/\aG H F w d u
section
variable {H H':aK} {F F':Nat->Prop} {w w':World}
theorem Holds.length:{t:Tree}->{cs:List Value}->Holds H F w t cs->cs.length=t.size
 | .leaf _ _,_,h=>cG.length h
 | .own _,_,h=>by obtain⟨v,_,_,rfl⟩:=h;rfl
 | .nil,_,h=>by rw[show _=_ from h];rfl
 | .pair a b,_,h=>by obtain⟨c1,c2,rfl,h1,h2⟩:=h;simp[h1.length,h2.length,Tree.size]
 | .view ..,_,h=>by obtain⟨v,rfl,_⟩:=h;rfl
 | .junk _,_,h=>h.1
def Holds.kw:{t:Tree}->{cs:List Value}->Holds H F w t cs->∀u∈cs,u.oneCell'=af
 | .leaf _ _,_,h=>cG.kw h
 | .own _,_,h=>by obtain⟨v,_,h1,rfl⟩:=h;simpa using h1
 | .nil,_,h=>by rw[show _=_ from h];simp[ajZ]
 | .pair a b,_,h=>by
   obtain⟨c1,c2,rfl,h1,h2⟩:=h;intro u hu
   rcases aje.1 hu with h'|h'
   .exact h1.kw u h'
   .exact h2.kw u h'
 | .view ..,_,h=>by obtain⟨v,rfl,h⟩:=h;simpa using h.one
 | .junk _,_,h=>h.2
def Holds.keep(hH:H.le H')(hs:Step F w F' w'):{t:Tree}->{cs:List Value}->Holds H F w t cs->Holds H' F' w' t cs
 | .leaf _ _,_,h=>cG.step hs h
 | .own _,_,h=>by obtain⟨v,h0,h1,rfl⟩:=h;exact⟨v,hH.val _ _ h0,h1,rfl⟩
 | .nil,_,h=>h
 | .pair a b,_,h=>by obtain⟨c1,c2,rfl,h1,h2⟩:=h;exact⟨c1,c2,rfl,h1.keep hH hs,h2.keep hH hs⟩
 | .view ..,_,h=>by obtain⟨v,rfl,h⟩:=h;exact⟨v,rfl,h.keep hH⟩
 | .junk _,_,h=>h
def Holds.back{xU:aK}{w0:World}{F0:Nat->Prop}(hH:H.le H')(El:H.le xU):{t:Tree}->{Xe cs:List Value}->Holds H F0 w0 t Xe->Holds H' F w t cs->Holds xU F w t cs
 | .leaf _ _,_,_,_,h=>h
 | .own _,_,_,h0,h=>by
   obtain⟨v,a0,_,_⟩:=h0;obtain⟨u,b0,b1,rfl⟩:=h;have:=hH.val _ _ a0;rw[b0]at this;obtain rfl:=aiF this;exact⟨u,El.val _ _ a0,b1,rfl⟩
 | .nil,_,_,_,h=>h
 | .pair a b,_,_,h0,h=>by
   obtain⟨_,_,_,a1,a2⟩:=h0;obtain⟨c1,c2,rfl,h1,h2⟩:=h;exact⟨c1,c2,rfl,Holds.back (w0:=w0) (F0:=F0) hH El a1 h1,Holds.back (w0:=w0) (F0:=F0) hH El a2 h2⟩
 | .view ..,_,_,h0,h=>by
   obtain⟨_,_,h0⟩:=h0;obtain⟨v,rfl,h⟩:=h;exact⟨v,rfl,h0.back hH El h⟩
 | .junk _,_,_,_,h=>h
def aW.keep{agg:Bool}{t:Tree}{v:Value}(hH:H.le H')(hs:Step F w F' w')(h:aW H F w agg t v):aW H' F' w' agg t v:=by
 obtain⟨cs,h1,h2⟩:=h;exact⟨cs,h1.keep hH hs,h2⟩
def sr.keep(hH:H.le H')(hs:Step F w F' w'):{ds:List (Bool×Tree)}->{vs:List Value}->sr H F w ds vs->sr H' F' w' ds vs
 |[],_,h=>h
 |_::_,_,h=>by obtain⟨v,us,rfl,h1,h2⟩:=h;exact⟨v,us,rfl,h1.keep hH hs,h2.keep hH hs⟩
def At.keep{r:Row}{b off:Nat}{x:r.den}(hs:Step F w F' w')(hb:F b)(h:At F w r b off x):At F' w' r b off x:=by
 obtain⟨es,hl,hc,hr⟩:=h;exact⟨es,hl,λj u hu=>(World.cell?_of_block (hs b hb).2).trans (hc j u hu),hr.step hs⟩
def aG.keep(hH:H.le H')(hs:Step F w F' w'):{d:aI}->{v:Value}->aG H F w d v->aG H' F' w' d v
 | .dead,_,_=>trivial
 | .undef,_,h=>h
 | .val _ _,_,h=>aW.keep hH hs h
 | .ptr _ _ _,_,h=>by obtain⟨b,h1,h2⟩:=h;exact⟨b,hH.val _ _ h1,h2⟩
 | .at _ _,_,h=>by obtain⟨b,off,h1,h2,h3⟩:=h;exact⟨b,off,h1,(hs b h2).1,h3.keep hs h2⟩
 | .elem ..,_,h=>by obtain⟨g,o0,q,T,m,cap,l,h1,h2,h3,h4⟩:=h;exact⟨g,o0,q,T,m,cap,l,hH.val _ _ h1,h2,hH.con _ _ h3,h4⟩
 | .tup _,_,h=>by obtain⟨vs,h1,h2⟩:=h;exact⟨vs,h1,h2.keep hH hs⟩
 | .dlm ..,_,h=>by obtain⟨g,o0,q,m,cap,h1,h2,h3⟩:=h;exact⟨g,o0,q,m,cap,hH.val _ _ h1,h2,h3⟩
 | .fn ..,_,h=>by obtain⟨vs,h1,h2⟩:=h;exact⟨vs,h1,h2.keep hH.val⟩
 | .ifc _ d,_,h=>by obtain⟨u,h1,h2⟩:=h;exact⟨u,h1,aG.keep hH hs (d:=d) h2⟩
def find{α:Type}:List (Nat×α)->Nat->Option α
 |[],_=>ae
 |(m,a)::l,n=>bif aiK m n then aa a else find l n
def del{α:Type}(ns:List Nat):List (Nat×α)->List (Nat×α)
 |[]=>[]
 |(m,a)::l=>bif ns.any (aiK m)then del ns l else(m,a)::del ns l
theorem ba{α:Type}{m:Nat}{a:α}{l:List (Nat×α)}{n:Nat}:find ((m,a)::l) n=if m=n then aa a else find l n:=by
 show(bif aiK m n then aa a else find l n)=_
 simp_all
def jb{α:Type}{l l':List (Nat×α)}{n:Nat}:find (l++l') n=(find l n).or (find l' n):=by
 induction l with
 |nil=>rfl
 |cons p l ih=>
  grind [ba]
theorem any_beq{ns:List Nat}{m:Nat}:ns.any (aiK m)=af↔m∈ns:=by
 simp_all
theorem jc{α:Type}{ns:List Nat}{l:List (Nat×α)}{n:Nat}{a:α}:find (del ns l) n=aa a↔n∉ns/\find l n=aa a:=by
 induction l with
 |nil=>simp[del,find]
 |cons p l ih=>
  grind [del,any_beq,ba]
def rE(F:Nat->Prop)(w:World):Prop:=∀g d,find Gv g=aa d->F g/\At F w d.1 g 0 d.2
def rE.step{F F':Nat->Prop}{w w':World}(h:rE F w)(hs:Step F w F' w'):rE F' w':=λg d hg=>⟨(hs g (h g d hg).1).1,(h g d hg).2.keep hs (h g d hg).1⟩
def mY(H:aK)(F:Nat->Prop)(w:World)(K:Row)(agg:Bool)(V:Row):List MapEntry->List (K.den×V.den)->Prop
 |[],l=>l=[]
 |e::es,l=>∃k x l',l=(k,x)::l'/\pS K k=aa e.key/\aW H F w agg (.leaf V x) e.val/\mY H F w K agg V es l'
def mY.keep{H H':aK}{F F':Nat->Prop}{w w':World}(hH:H.le H')(hs:Step F w F' w'){K:Row}{agg:Bool}{V:Row}:{es:List MapEntry}->{l:List (K.den×V.den)}->mY H F w K agg V es l->mY H' F' w' K agg V es l
 |[],_,h=>h
 |_::_,_,h=>by obtain⟨k,x,l',e,h1,h2,h3⟩:=h;exact⟨k,x,l',e,h1,h2.keep hH hs,mY.keep hH hs h3⟩
def mY.kg{H H':aK}{F:Nat->Prop}{w:World}{K:Row}{agg:Bool}{V:Row}:{es:List MapEntry}->{l:List (K.den×V.den)}->mY H F w K agg V es l->mY H' F w K agg V es l
 |[],_,h=>h
 |_::_,_,h=>by
  obtain⟨k,x,l',e,h1,⟨cs,h2,J6⟩,h3⟩:=h;exact⟨k,x,l',e,h1,⟨cs,h2,J6⟩,mY.kg h3⟩
noncomputable def cZ:(K:Row)->K.den->K.den->Bool
 | .int _,a,b=>decide ((a:Int)=b)
 | .bool,a,b=>decide ((a:Bool)=b)
 | .str,a,b=>decide ((a:ByteArray)=b)
 |_,_,_=>ag
def su(F:Nat->Prop)(w:World)(E:TypeId)(r:Row)(v:Value)(y:List r.den)(A:Nat->Prop):Prop:=lU F w E r v y/\∀k,A k↔bF v k
def gC(H:aK)(F:Nat->Prop)(w:World)(K:Row)(E:TypeId)(r:Row):Option (K.den×Nat)->List MapEntry->List (K.den×List r.den)->(Nat->Prop)->Prop
 |_,[],l,S=>l=[]/\∀k,¬S k
 |none,e::es,l,S=>∃k y l' A B,l=(k,y)::l'/\pS K k=aa e.key/\su F w E r e.val y A/\gC H F w K E r ae es l' B/\r7 A B S
 |some (a,o),e::es,l,S=>∃k y l' A B,l=(k,y)::l'/\pS K k=aa e.key/\((cZ K k a=af/\H.val o=aa e.val/\(∀j,¬A j)/\gC H F w K E r ae es l' B)\/(cZ K k a=ag/\su F w E r e.val y A/\gC H F w K E r (aa (a,o)) es l' B))/\r7 A B S
def su.keep{F F':Nat->Prop}{w w':World}{E:TypeId}{r:Row}{v:Value}{y:List r.den}{A:Nat->Prop}(h:su F w E r v y A)(hs:Step F w F' w')(hb:∀k,A k->w'.heap[k]? =w.heap[k]?):su F' w' E r v y A:=
 ⟨h.1.keep hs λk hk=>hb k ((h.2 k).2 hk),h.2⟩
def gC.keep{H H':aK}{F F':Nat->Prop}{w w':World}{K:Row}{E:TypeId}{r:Row}(hs:Step F w F' w'):{h:Option (K.den×Nat)}->{es:List MapEntry}->{l:List (K.den×List r.den)}->{S:Nat->Prop}->(∀a o u,h=aa (a,o)->H.val o=aa u->H'.val o=aa u)->gC H F w K E r h es l S->(∀k,S k->w'.heap[k]? =w.heap[k]?)->gC H' F' w' K E r h es l S
 |none,[],_,_,_,h,_=>h
 |some _,[],_,_,_,h,_=>h
 |none,_::_,_,_,hH,h,hb=>by
  obtain⟨k,y,l',A,B,e,h1,h2,h3,h4⟩:=h;exact⟨k,y,l',A,B,e,h1,h2.keep hs λk hk=>hb k (h4.left k hk),h3.keep hs (λ_ _ _ e=>by cases e) λk hk=>hb k (h4.right k hk),h4⟩
 |some (a,o),_::_,_,_,hH,h,hb=>by
  obtain⟨k,y,l',A,B,e,h1,h2,h4⟩:=h;refine⟨k,y,l',A,B,e,h1,?_,h4⟩
  rcases h2 with⟨g1,g2,g3,g4⟩|⟨g1,g2,g3⟩
  .exact .inl ⟨g1,hH _ _ _ rfl g2,g3,g4.keep hs (λ_ _ _ e=>by cases e) λk hk=>hb k (h4.right k hk)⟩
  .exact .inr ⟨g1,g2.keep hs λk hk=>hb k (h4.left k hk),g3.keep hs hH λk hk=>hb k (h4.right k hk)⟩
def pd(H:aK)(F:Nat->Prop)(w:World)(d:DR)(h:Option vP)(i:Nat)(x':d.low.den)(x:d.row.den)(S:Nat->Prop):Prop:=
 match h with
 |none=>lk F w d x' x S
 |some h=>(h.i≠(i:Int)->lk F w d x' x S)/\(h.i=(i:Int)->∃T' e,∃q:gB d (.sl T' e),d.path h.p=aa ⟨_,q⟩/\ot F w q x' x S/\H.val h.o=aa (q.lo.get x'))
def pd.keep{H H':aK}{F F':Nat->Prop}{w w':World}{d:DR}{h:Option vP}{i:Nat}{x':d.low.den}{x:d.row.den}{S:Nat->Prop}(hr:pd H F w d h i x' x S)(hH:H.le H')(hs:Step F w F' w')(hb:∀k,S k->w'.heap[k]? =w.heap[k]?):pd H' F' w' d h i x' x S:=by
 cases h with
 |none=>exact lk.keep hs hr hb
 |some h=>
  refine⟨λhi=>(hr.1 hi).keep hs hb,λhi=>?_⟩;obtain⟨T',e,q,h1,h2,h3⟩:=hr.2 hi;exact⟨T',e,q,h1,h2.keep hs hb,hH.val _ _ h3⟩
def fp(S:Nat->Prop)(v:Value):Th->Nat->Prop
 | .box ..,k=>v= .pointer (aa ⟨k,0,ae⟩)
 | .own ..,k=>bF v k
 | .vh ..,_=>False
 | .map ..,k=>v= .map (aa k)
 | .fmap ..,_=>False
 | .deep ..,k=>S k
 | .fdeep ..,_=>False
 | .dmap ..,k=>S k
 | .fdmap ..,_=>False
def jV(H:aK)(F:Nat->Prop)(w:World)(S:Nat->Prop)(v:Value):Th->Prop
 | .box T t=>∃b es,v= .pointer (aa ⟨b,0,ae⟩)/\w.heap[b]? =aa (.cells es.toArray T (0,0))/\Holds H F w t es
 | .own T r l=>∃xs,nN w 0 T r.size v l.length xs/\∀i(h:i<l.length),cG F w r ((xs.drop (i*r.size)).take r.size) l[i]
 | .vh _ r l=>cG F w (.slice r) [v] l
 | .fmap _ K agg V l=>cG F w (.map K agg V) [v] l
 | .map _ K agg V l=>∃b es clock,v= .map (aa b)/\w.heap[b]? =aa (.map es clock)/\MapKept.Stamped es clock/\mY H F w K agg V es.toList l
 | .deep T d l h=>Ig F w T d.low (pd H F w d h) v l S
 | .fdeep _ d l=>cG F w (.slice d.row) [v] l
 | .dmap _ K E r l h=>∃b es clock B,v= .map (aa b)/\w.heap[b]? =aa (.map es clock)/\MapKept.Stamped es clock/\gC H F w K E r h es.toList l B/\r7 (is b) B S/\∀a o,h=aa (a,o)->∃u,H.val o=aa u
 | .fdmap _ K _ r l=>cG F w (.map K ag (.slice r)) [v] l
structure Ih(U:Nat->Prop)(H:aK)(F:Nat->Prop)(w:World)(v:Value)(s:Nat)(t:Th):Prop where
 one:v.oneCell'=af
 con:H.con s=aa t.base
 ok:jV H F w (H.sub s) v t
 no:∀k,fp (H.sub s) v t k->¬F k
 lt:∀k,fp (H.sub s) v t k->k<w.heap.size
 use:∀k,fp (H.sub s) v t k->U k
structure aL(U:Nat->Prop)(H:aK)(F:Nat->Prop)(w:World)(ob:Nat->Option (Nat×Th))(n:Nat):Prop where
 obj:∀o s t,ob o=aa (s,t)->∃v,H.val o=aa v/\Ih U H F w v s t
 apart:∀o o' s s' t t' v v',o≠o'->ob o=aa (s,t)->ob o'=aa (s',t')->H.val o=aa v->H.val o'=aa v'->∀k,fp (H.sub s) v t k->¬fp (H.sub s') v' t' k
 fresh:∀m,n<=m->m<n+16->H.val m=ae/\H.con m=ae
 lt:∀b,F b->b<w.heap.size
 new:∀b,w.heap.size<=b->U b
 gl:rE F w
def jV.heap{S:Nat->Prop}{v:Value}{t:Th}(h:jV H F w S v t)(hH:H.le H')(hs:Step F w F' w')(hb:∀k,fp S v t k->w'.heap[k]? =w.heap[k]?):jV H' F' w' S v t:=by
 cases t with
 |box T t=>
  obtain⟨b,es,rfl,h1,h2⟩:=h;exact⟨b,es,rfl,(hb b rfl).trans h1,h2.keep hH hs⟩
 |own T r l=>
  obtain⟨xs,⟨X1,Gw⟩,h3⟩:=h;refine⟨xs,⟨X1,?_⟩,λi hi=>(h3 i hi).step hs⟩
  rcases Gw with h2|⟨gg,o0,cap,cur,rfl,pX,hg,rest⟩
  .exact .inl h2
  .exact .inr ⟨gg,o0,cap,cur,rfl,pX,(hb gg rfl).trans hg,rest⟩
 |vh T r l=>exact cG.step (r:= .slice r) hs h
 |fmap T K agg V l=>exact cG.step (r:= .map K agg V) hs h
 |fdeep T d l=>exact cG.step (r:= .slice d.row) hs h
 |deep T d l hh=>exact Ig.mono (show Ig F w T d.low _ v l S from h) hs hb λi x' hi A hA hr=>hr.keep hH hs λk hk=>hb k (hA k hk)
 |map T K agg V l=>
  obtain⟨b,es,clock,rfl,h1,h2,h3⟩:=h;exact⟨b,es,clock,rfl,(hb b rfl).trans h1,h2,h3.keep hH hs⟩
 |fdmap T K E r l=>exact cG.step (r:= .map K ag (.slice r)) hs h
 |dmap T K E r l hh=>
  obtain⟨b,es,clock,B,rfl,h1,h2,h3,h4,h5⟩:=h;exact⟨b,es,clock,B,rfl,(hb b (h4.left b rfl)).trans h1,h2,h3.keep hs (λa o u _ hu=>hH.val _ _ hu) λk hk=>hb k (h4.right k hk),h4,λa o e=>(h5 a o e).imp λu hu=>hH.val _ _ hu⟩
def Own.to{v:Value}{T:TypeId}{r:Row}{l:List r.den}(S:Nat->Prop)(h:Own 0 F w T r v l):jV H F w S v (.own T r l):=h.2
end
structure State where
 aJ:List (Nat×aI)
 objs:List (Nat×(Nat×Th))
 nxt:Nat
def jd(H:aK)(n:Nat):Prop:=∀m,n<=m->H.val m=ae/\H.con m=ae
structure Sat(U:Nat->Prop)(H:aK)(F:Nat->Prop)(w:World)(ρ:Nat->Value)(st:State):Prop where
 slot:∀t d,find st.aJ t=aa d->aG H F w d (ρ t)
 ob:aL U H F w (find st.objs) st.nxt
 all:jd H st.nxt
structure eB where
 dst:aI
 eat:List Nat:=[]
 make:List (Nat×(Nat×Th)):=[]
def State.apply(st:State)(d:Option Nat)(e:eB):State:=
 {aJ:=(match d with|some d=>(d,e.dst)::st.aJ|none=>st.aJ),objs:=e.make++del e.eat st.objs,nxt:=st.nxt+16}
def cC(H:aK)(ob:Nat->Option (Nat×Th))(eat:List Nat)(k:Nat):Prop:=∃o∈eat,∃s t v,ob o=aa (s,t)/\H.val o=aa v/\fp (H.sub s) v t k
structure Nj(H:aK)(F:Nat->Prop)(w:World)(H':aK)(F':Nat->Prop)(w':World)(g:Nat->Prop):Prop where
 kg:H.le H'
 ext:Ext g w w'
 le:∀b,F b->F' b
 grow:∀b,F' b->F b\/w.heap.size<=b\/g b
 lt:∀b,F' b->b<w'.heap.size
structure Made(H':aK)(F':Nat->Prop)(w w':World)(g:Nat->Prop)(make:List (Nat×(Nat×Th))):Prop where
 obj:∀o s t,find make o=aa (s,t)->∃v,H'.val o=aa v/\v.oneCell'=af/\H'.con s=aa t.base/\jV H' F' w' (H'.sub s) v t/\∀k,fp (H'.sub s) v t k->¬F' k/\k<w'.heap.size/\(w.heap.size<=k\/g k)
 apart:∀o o' s s' t t' v v',o≠o'->find make o=aa (s,t)->find make o'=aa (s',t')->H'.val o=aa v->H'.val o'=aa v'->∀k,fp (H'.sub s) v t k->¬fp (H'.sub s') v' t' k
structure mP(H:aK)(F:Nat->Prop)(w:World)(ob:Nat->Option (Nat×Th))(n:Nat)(e:eB)(v:Value)(w':World)(H':aK)(F':Nat->Prop):Prop where
 mQ:Nj H F w H' F' w' (cC H ob e.eat)
 fresh:∀m,(m<n\/n+16<=m)->(H.val m=ae->H'.val m=ae)/\(H.con m=ae->H'.con m=ae)
 dst:aG H' F' w' e.dst v
 made:Made H' F' w w' (cC H ob e.eat) e.make
 ids:∀o,(find e.make o).isSome->o∈e.eat\/n<=o
def lV(H:aK)(F:Nat->Prop)(w:World)(ob:Nat->Option (Nat×Th))(n:Nat)(e:eB)(v:Value)(w':World):Prop:=∃H' F',mP H F w ob n e v w' H' F'
def vi(ρ:Nat->Value):Option Nat->Value->Nat->Value
 |some d,v=>Eg ρ d v
 |none,_=>ρ
theorem p4(ρ:Nat->Value)(d:Nat)(v:Value)(t:Nat):Eg ρ d v t=if t=d then v else ρ t:=by
 unfold Eg
 simp_all
section
variable {U:Nat->Prop} {H H':aK} {F F':Nat->Prop} {w w':World} {ρ:Nat->Value} {st:State}
def Nj.step{g:Nat->Prop}(h:Nj H F w H' F' w' g)(hF:∀b,F b->b<w.heap.size)(hg:∀k,g k->¬F k):Step F w F' w':=
 λb hb=>⟨h.le b hb,h.ext.block b (hF b hb) λe=>hg b e hb⟩
def aL.je{ob:Nat->Option (Nat×Th)}{n:Nat}(h:aL U H F w ob n){eat:List Nat}:∀k,cC H ob eat k->¬F k:=by
 rintro k ⟨o,_,s,t,v,h1,h2,h3⟩
 obtain⟨v',e,hi⟩:=h.obj o s t h1;rw[h2]at e;obtain rfl:=aiF e;exact hi.no k h3
def aL.vQ{ob:Nat->Option (Nat×Th)}{n:Nat}(h:aL U H F w ob n){eat:List Nat}:∀k,cC H ob eat k->k<w.heap.size:=by
 rintro k ⟨o,_,s,t,v,h1,h2,h3⟩
 obtain⟨v',e,hi⟩:=h.obj o s t h1;rw[h2]at e;obtain rfl:=aiF e;exact hi.lt k h3
def aL.iF{ob:Nat->Option (Nat×Th)}{n:Nat}(h:aL U H F w ob n){eat:List Nat}:∀k,cC H ob eat k->U k:=by
 rintro k ⟨o,_,s,t,v,h1,h2,h3⟩
 obtain⟨v',e,hi⟩:=h.obj o s t h1;rw[h2]at e;obtain rfl:=aiF e;exact hi.use k h3
def Ih.mQ{ob:Nat->Option (Nat×Th)}{n:Nat}(hs:aL U H F w ob n){eat:List Nat}(he:Nj H F w H' F' w' (cC H ob eat)){o s:Nat}{t:Th}{v:Value}(ho:ob o=aa (s,t))(hn:o∉eat)(hv:H.val o=aa v)(h:Ih U H F w v s t):Ih U H' F' w' v s t:=by
 have TZ:∀k,fp (H.sub s) v t k->¬cC H ob eat k:=by
  rintro k hk ⟨o',jS,s',t',v',h1,h2,h3⟩
  exact hs.apart o o' s s' t t' v v' (λe=>hn (e▸jS)) ho h1 hv h2 k hk h3
 have iA:=he.kg.sub _ _ h.con;refine⟨h.one,he.kg.con _ _ h.con,by rw[iA];exact h.ok.heap he.kg (he.step hs.lt hs.je) λk hk=>he.ext.block k (h.lt k hk) (TZ k hk),λk hk hF=>?_,λk hk=>ai4 (h.lt k (by rwa [iA]at hk)) he.ext.size,λk hk=>h.use k (by rwa [iA]at hk)⟩;rw[iA]at hk
 rcases he.grow k hF with h1|h1|h1
 .exact h.no k hk h1
 .have:=h.lt k hk;omega
 .exact TZ k hk h1
def aL.KR{ob Nk KS:Nat->Option (Nat×Th)}{n n' m:Nat}{e:eB}{v:Value}(h:aL U H F w ob n)(hR:∀o x,Nk o=aa x->ob o=aa x)(hp:mP H F w Nk m e v w' H' F')
 (part:∀o s t,KS o=aa (s,t)->find e.make o=aa (s,t)\/(o∉e.eat/\ob o=aa (s,t)/\find e.make o=ae))(xM:∀m,n'<=m->m<n'+16->H'.val m=ae/\H'.con m=ae):
 aL U H' F' w' KS n':=by
 have Em:∀k,cC H Nk e.eat k->cC H ob e.eat k:=λk ⟨o,ho,s,t,v,h1,h2⟩=>⟨o,ho,s,t,v,hR _ _ h1,h2⟩
 have T4:Nj H F w H' F' w' (cC H ob e.eat):=⟨hp.mQ.kg,⟨hp.mQ.ext.os,hp.mQ.ext.tape,hp.mQ.ext.output,hp.mQ.ext.size,λk hk hn=>hp.mQ.ext.block k hk λhh=>hn (Em k hh)⟩,hp.mQ.le,λb hb=>(hp.mQ.grow b hb).imp id λh=>h.imp id (Em b),hp.mQ.lt⟩
 have k9:∀o s t,o∉e.eat->ob o=aa (s,t)->∃v,H.val o=aa v/\H'.val o=aa v/\Ih U H' F' w' v s t/\H'.sub s=H.sub s/\∀k,fp (H'.sub s) v t k->k<w.heap.size/\¬cC H ob e.eat k:=by
  intro o s t ho hf;obtain⟨v,hv,hi⟩:=h.obj o s t hf;have iA:=hp.mQ.kg.sub _ _ hi.con;refine⟨v,hv,hp.mQ.kg.val _ _ hv,hi.mQ h T4 hf ho hv,iA,λk hk=>?_⟩;rw[iA]at hk;refine⟨hi.lt k hk,?_⟩
  rintro⟨o',jS,s',t',v',h1,h2,h3⟩
  exact h.apart o o' s s' t t' v v' (λe=>ho (e▸jS)) hf h1 hv h2 k hk h3
 refine⟨λo s t ho=>?_,λo o' s s' t t' v v' du ho jS hv dZ k hk iK=>?_,xM,hp.mQ.lt,λb hb=>h.new b (aiY hp.mQ.ext.size hb),h.gl.step (T4.step h.lt h.je)⟩
 .rcases part o s t ho with h1|⟨h1,h2,_⟩
  .obtain⟨v,a1,a2,a3,a4,a5⟩:=hp.made.obj o s t h1;exact⟨v,a1,a2,a3,a4,λk hk=>(a5 k hk).1,λk hk=>(a5 k hk).2.1,λk hk=>(a5 k hk).2.2.elim (h.new k) (λhh=>h.iF k (Em k hh))⟩
  grind
 .rcases part o s t ho with h1|⟨h1,h2,_⟩<;>rcases part o' s' t' jS with Aa|⟨Aa,J6,_⟩
  .exact hp.made.apart o o' s s' t t' v v' du h1 Aa hv dZ k hk iK
  .obtain⟨u,_,a1,_,_,a5⟩:=hp.made.obj o s t h1
   grind
  .obtain⟨u,_,a1,_,_,a5⟩:=hp.made.obj o' s' t' Aa
   grind
  .obtain⟨u,b1,b2,_,b5,_⟩:=k9 o s t h1 h2;obtain⟨u',c1,c2,_,c5,_⟩:=k9 o' s' t' Aa J6;rw[b5]at hk;rw[c5]at iK;have e1:=aiF (hv.symm.trans b2);have e2:=aiF (dZ.symm.trans c2);subst e1;subst e2;exact h.apart o o' s s' t t' v v' du h2 J6 b1 c1 k hk iK
def Eo{objs:List (Nat×(Nat×Th))}{e:eB}:∀o s t,find (e.make++del e.eat objs) o=aa (s,t)->find e.make o=aa (s,t)\/(o∉e.eat/\find objs o=aa (s,t)/\find e.make o=ae):=by
 intro o s t ho;rw[jb]at ho
 cases hm:find e.make o with
 |some x=>grind
 |none=>
  grind [jc]
def Sat.apply{d:Option Nat}{e:eB}{v:Value}(h:Sat U H F w ρ st)(hp:mP H F w (find st.objs) st.nxt e v w' H' F'):Sat U H' F' w' (vi ρ d v) (st.apply d e):=by
 have eV:jd H' (st.nxt+16):=λm hm=>⟨(hp.fresh m (.inr hm)).1 (h.all m (by omega)).1,(hp.fresh m (.inr hm)).2 (h.all m (by omega)).2⟩
 refine⟨λt q hq=>?_,h.ob.KR (λ_ _ h=>h) hp Eo λm hm _=>eV m hm,eV⟩;have gq:=hp.mQ.step h.ob.lt h.ob.je
 cases d with
 |none=>exact(h.slot t q hq).keep hp.mQ.kg gq
 |some d=>
  have xN:find ((d,e.dst)::st.aJ) t=aa q:=hq;rw[ba]at xN
  show aG H' F' w' q (Eg ρ d v t)
  rw[p4];by_cases hd:d=t
  .grind [mP.dst]
  .rw[ai hd]at xN;rw[ai (Ne.symm hd)];exact(h.slot t q xN).keep hp.mQ.kg gq
end
end
section
def cz(P:Program)(ρ:Nat->Value)(o:Oper)(w:World)(Q:Value->World->Prop):Prop:=
 match(execOp (ev ρ) o).run P w with
 | .ok (.value v) w'=>o.dst.isSome/\Q v w'
 | .ok .skip w'=>o.dst=ae/\Q undef w'
 | .ok (.enter f args) w'=>Calls P f args w' λe BI=>∃v,e= .returned v/\Q v BI
 |_=>False
section
variable {P:Program} {n:Nat} {ops:Array Oper} {K:(Nat->Value)->World->Prop} {rest:List Oper} {ρ:Nat->Value} {w:World}
variable {dst:Option Nat} {op:Op} {ty:TypeId} {pos:String} {aft:Array Edge} {Q:Value->World->Prop}
def cz.mono{o:Oper}{Q':Value->World->Prop}(h:cz P ρ o w Q)(hq:∀v w',Q v w'->Q' v w'):cz P ρ o w Q':=by
 unfold cz at*;generalize(execOp (ev ρ) o).run P w=r at*
 cases r with
 |halt x w'=>exact h
 |ok x w'=>
  cases x<;>first
   |exact h
   |exact⟨h.1,hq _ _ h.2⟩
   |exact h.mono (by grind)
def cz.val{d:Nat}{v:Value}{w':World}(hr:(execOp (ev ρ) ⟨aa d,op,ty,pos,aft,ae⟩).run P w= .ok (.value v) w')(h:Q v w'):cz P ρ ⟨aa d,op,ty,pos,aft,ae⟩ w Q:=by
 unfold cz;rw[hr];exact⟨rfl,h⟩
def cz.unit{w':World}(hr:(execOp (ev ρ) ⟨ae,op,ty,pos,aft,ae⟩).run P w= .ok .skip w')(h:Q undef w'):cz P ρ ⟨ae,op,ty,pos,aft,ae⟩ w Q:=by
 unfold cz;rw[hr];exact⟨rfl,h⟩
def BS(h:cz P ρ ⟨dst,op,ty,pos,aft,ae⟩ w Q)(hd:∀d,dst=aa d->ajg d n=af)
 (hk:∀v w',Q v w'->wpS P n ops K rest (vi ρ dst v) w'):wpS P n ops K (⟨dst,op,ty,pos,aft,ae⟩::rest) ρ w:=
 λQQ a hf KT=>wpList_plain rfl λK' hK=>by
  unfold Oper.wp;rw[hf.eval];unfold cz at h;generalize(execOp (ev ρ) ⟨dst,op,ty,pos,aft,ae⟩).run P w=r at*
  have vR:∀v,Fr n (a.put dst v) (vi ρ dst v):=λv=>by
   cases dst with
   |none=>exact hf
   |some d=>exact hf.put (hd d rfl) v
  cases r with
  |halt x w'=>exact h.elim
  |ok x w'=>
   cases x<;>first
    |exact h.elim
    |skip
   case value v=>exact hK _ _ (hk v w' h.2 QQ _ (vR v) KT)
   case skip=>exact hK _ _ (hk undef w' h.2 QQ _ (vR undef) KT)
   case enter f args=>
    refine h.mono λe BI ⟨v,he,hv⟩=>?_
    subst he;exact hK _ _ (hk v BI hv QQ _ (vR v) KT)
end
inductive J7 where
 |int (k:IntKind)
 |bool
 |str
 |slice (e:TypeId)
 |struct (fs:List (TypeId×Nat))
 |array (n:Nat) (e:TypeId)
 |map (k v:TypeId)
 |ptr (e:TypeId)
 |other
def yC(P:Program)(t:TypeId):J7->Prop
 | .int k=>P.underlying t=aa (.int k)
 | .bool=>P.underlying t=aa .bool
 | .str=>P.underlying t=aa .string
 | .slice e=>P.underlying t=aa (.slice e)
 | .struct fs=>∃arr:Array Field,P.underlying t=aa (.struct arr)/\arr.toList.map (λf=>(f.type,f.offset))=fs
 | .array n e=>P.underlying t=aa (.array n e)
 | .map k v=>P.underlying t=aa (.map k v)
 | .ptr e=>P.underlying t=aa (.pointer e)
 | .other=>∃d,P.underlying t=aa d/\fA d=ag
def Ab(P:Program)(t:TypeId)(agg:Bool)(r:Row):Prop:=∃z,(P.info? t).bind (·.zero)=aa z/\z=(bif agg then .agg r.dF.toArray else r.dF.headD undef)
def ri(P:Program)(t:TypeId)(name:String)(f:FuncId)(pr:Bool):Prop:=
 ((P.info? t).bind λi=>i.methods.find? λm=>m.name==name).map (λm=>(m.path.toList.length,m.func))=aa (0,aa (f,pr))
structure bk(P:Program)where
 und:List (Nat×J7)
 row:List (Nat×Row)
 eqs:List (Nat×Row)
 zer:List (Nat×(Bool×Row))
 und_ok:∀t k,find und t=aa k->yC P t k
 row_ok:∀t r,find row t=aa r->TI P t r
 eqs_ok:∀t r,find eqs t=aa r->∃K d,oq P t r K/\d+K=10000/\P.eqGuardType P.depth t=ag/\(P.underlying t).any fA=af
 zer_ok:∀t agg r,find zer t=aa (agg,r)->Ab P t agg r
 mth:List (TypeId×(String×(FuncId×Bool)))
 mth_ok:∀p∈mth,ri P p.1 p.2.1 p.2.2.1 p.2.2.2
def l4:J7->Bool
 | .struct _| .array _ _=>af
 |_=>ag
def yC.agg{P:Program}{t:TypeId}{k:J7}(h:yC P t k):∃d,P.underlying t=aa d/\fA d=l4 k:=by
 cases k<;>first
  |exact⟨_,h,rfl⟩
  |(obtain⟨arr,h,_⟩:=h;exact⟨_,h,rfl⟩)
  |exact h
def nP{α:Type}{Q:Nat->α->Prop}{l:List (Nat×α)}(h:∀p∈l,Q p.1 p.2):∀t a,find l t=aa a->Q t a:=by
 intro t a
 induction l with
 |nil=>intro h';cases h'
 |cons p l ih=>
  grind [ba]
def Ep:Value->Option aI
 | .int k n=>aa (.val ag (.leaf (.int k) n))
 | .bool b=>aa (.val ag (.leaf .bool b))
 | .string s=>aa (.val ag (.leaf .str s))
 | .slice ae 0 0=>aa (.val ag .nil)
 | .map ae=>aa (.val ag (.leaf (.nul .map) ()))
 | .pointer ae=>aa (.val ag (.leaf (.nul .ptr) ()))
 | .nilFunc=>aa (.val ag (.leaf (.nul .func) ()))
 | .nilIface=>aa .dead
 |_=>ae
def J8(aJ:List (Nat×aI)):Operand->Option aI
 | .tmp t=>find aJ t
 | .const v=>Ep v
 | .func f=>aa (.fn f [])
 | .global g=>match find Gv g with
   |some d=>aa (.at d.1 d.2)
   |none=>ae
def aW.mD{H:aK}{F:Nat->Prop}{w:World}{r:Row}{x:r.den}{v:Value}(h:cG F w r [v] x):aW H F w ag (.leaf r x) v:=⟨[v],h,rfl,λ_=>rfl⟩
def Ii{H:aK}{F:Nat->Prop}{w:World}{v:Value}{d:aI}(h:Ep v=aa d):aG H F w d v:=by
 unfold Ep at h
 split at h<;>first|cases h|skip
 .exact aW.mD rfl
 .exact aW.mD rfl
 .exact aW.mD rfl
 .exact⟨_,rfl,rfl,λ_=>rfl⟩
 .exact aW.mD rfl
 .exact aW.mD rfl
 .exact aW.mD rfl
 .trivial
def vS{H:aK}{F:Nat->Prop}{w:World}{ρ:Nat->Value}{aJ:List (Nat×aI)}(hg:rE F w)(h:∀t d,find aJ t=aa d->aG H F w d (ρ t)):∀x d,J8 aJ x=aa d->aG H F w d (ev ρ x):=by
 intro x d hx
 cases x with
 |tmp t=>exact h t d hx
 |const v=>exact Ii hx
 |global g=>
  have QK:(match find Gv g with|some d=>aa (aI.at d.1 d.2)|none=>ae)=aa d:=hx;split at QK
  .rename_i q hq;obtain rfl:=aiF QK;obtain⟨h1,h2⟩:=hg g q hq;exact⟨g,0,rfl,h1,h2⟩
  .cases QK
 |func f=>obtain rfl:=aiF hx;exact⟨[],rfl,rfl⟩
def aW.inv{H:aK}{F:Nat->Prop}{w:World}{r:Row}{x:r.den}{v:Value}(h:aW H F w ag (.leaf r x) v):cG F w r [v] x:=by
 obtain⟨cs,h1,_,h3⟩:=h;rw[h3 rfl]at h1;exact h1
def aW.int{H:aK}{F:Nat->Prop}{w:World}{k:IntKind}{x:Int}{v:Value}(h:aW H F w ag (.leaf (.int k) x) v):v= .int k x:=by
 have:=h.inv;simpa[cG]using this
def aW.bool{H:aK}{F:Nat->Prop}{w:World}{x:Bool}{v:Value}(h:aW H F w ag (.leaf .bool x) v):v= .bool x:=by
 have:=h.inv;simpa[cG]using this
def aW.str{H:aK}{F:Nat->Prop}{w:World}{x:ByteArray}{v:Value}(h:aW H F w ag (.leaf .str x) v):v= .string x:=by
 have:=h.inv;simpa[cG]using this
def aW.kh(H:aK)(F:Nat->Prop)(w:World)(k:IntKind)(x:Int):aW H F w ag (.leaf (.int k) x) (.int k x):=aW.mD rfl
def aW.gS(H:aK)(F:Nat->Prop)(w:World)(x:Bool):aW H F w ag (.leaf .bool x) (.bool x):=aW.mD rfl
def aW.mkStr(H:aK)(F:Nat->Prop)(w:World)(x:ByteArray):aW H F w ag (.leaf .str x) (.string x):=aW.mD rfl
abbrev mZ(k:IntKind)(x:Int):aI:= .val ag (.leaf (.int k) x)
abbrev ey(x:Bool):aI:= .val ag (.leaf .bool x)
abbrev X2(x:ByteArray):aI:= .val ag (.leaf .str x)
def asInt:aI->Option (IntKind×Int)
 | .val ag (.leaf (.int k) x)=>aa (k,x)
 |_=>ae
def asBool:aI->Option Bool
 | .val ag (.leaf .bool x)=>aa x
 |_=>ae
def BT:aI->Option ByteArray
 | .val ag (.leaf .str x)=>aa x
 |_=>ae
section
variable {P:Program} {ρ:Nat->Value} {w w':World} {H H':aK} {F F':Nat->Prop} {U:Nat->Prop} {ob:Nat->Option (Nat×Th)} {n:Nat} {R:Type}
variable {dst:Option Nat} {op:Op} {ty:TypeId} {pos:String} {aft:Array Edge} {d:Nat}
def fK{D:aI}{k:IntKind}{x:Int}{v:Value}(h:asInt D=aa (k,x))(hd:aG H F w D v):v= .int k x:=by
 unfold asInt at h
 split at h<;>cases h
 exact aW.int hd
def oF{D:aI}{x:Bool}{v:Value}(h:asBool D=aa x)(hd:aG H F w D v):v= .bool x:=by
 unfold asBool at h
 split at h<;>cases h
 exact aW.bool hd
def vT{D:aI}{x:ByteArray}{v:Value}(h:BT D=aa x)(hd:aG H F w D v):v= .string x:=by
 unfold BT at h
 split at h<;>cases h
 exact aW.str hd
def cK(P:Program)(_U:Nat->Prop)(H:aK)(F:Nat->Prop)(w:World)(ρ:Nat->Value)(ob:Nat->Option (Nat×Th))(n:Nat)(o:Oper)(e:eB):Prop:=
 cz P ρ o w (lV H F w ob n e)
def Nj.refl{g:Nat->Prop}(hF:∀b,F b->b<w.heap.size):Nj H F w H F w g:=⟨aK.le.refl H,⟨rfl,rfl,rfl,aiM _,λ_ _ _=>rfl⟩,λ_ h=>h,λ_ h=> .inl h,hF⟩
def Made.nil{g:Nat->Prop}:Made H' F' w w' g []:=⟨λ_ _ _ h=>(by cases h),λ_ _ _ _ _ _ _ _ _ h=>(by cases h)⟩
def mP.pure(hs:aL U H F w ob n){D:aI}{v:Value}(h:aG H F w D v):lV H F w ob n {dst:=D} v w:=
 ⟨H,F,Nj.refl hs.lt,λm hm=>⟨id,id⟩,h,Made.nil,λo h=>by cases h⟩
def cq(hs:aL U H F w ob n){D:aI}{v:Value}(hr:(execOp (ev ρ) ⟨aa d,op,ty,pos,aft,ae⟩).run P w= .ok (.value v) w)(h:aG H F w D v):cK P U H F w ρ ob n ⟨aa d,op,ty,pos,aft,ae⟩ {dst:=D}:=
 cz.val hr (mP.pure hs h)
def bc(hs:aL U H F w ob n){D:aI}{v:Value}(hr:Pure P ρ ⟨aa d,op,ty,pos,aft,ae⟩ v)(h:aG H F w D v):cK P U H F w ρ ob n ⟨aa d,op,ty,pos,aft,ae⟩ {dst:=D}:=
 cq hs (hr w) h
def fy(o:BinOp)(k:IntKind)(a b:Int):Int:=
 match o with
 | .and=>k.wrap (akf k.bits a&&& akf k.bits b).toNat
 | .or=>k.wrap (akf k.bits a|||akf k.bits b).toNat
 | .xor=>k.wrap (akf k.bits a ^^^ akf k.bits b).toNat
 |_=>k.wrap (akf k.bits a&&& ~~~akf k.bits b).toNat
def Ac(k:IntKind)(a b:Int):Int:=k.wrap (a*2 ^ min b.toNat k.bits)
def gu(k:IntKind)(a b:Int):Int:=a.fdiv (2 ^ min b.toNat k.bits)
def Ij(k:IntKind)(a b:Int):Option Int:=if b<0 then ae else aa (Ac k a b)
def BU(k:IntKind)(a b:Int):Option Int:=if b<0 then ae else aa (gu k a b)
def arith:BinOp->IntKind->Int->Int->Option aI
 | .add,k,a,b=>aa (mZ k (k.wrap (a+b)))
 | .sub,k,a,b=>aa (mZ k (k.wrap (a-b)))
 | .mul,k,a,b=>aa (mZ k (k.wrap (a*b)))
 | .lss,_,a,b=>aa (ey (decide (a<b)))
 | .leq,_,a,b=>aa (ey (decide (a<=b)))
 | .gtr,_,a,b=>aa (ey (decide (b<a)))
 | .geq,_,a,b=>aa (ey (decide (b<=a)))
 | .eql,_,a,b=>aa (ey (decide (a=b)))
 | .neq,_,a,b=>aa (ey (!decide (a=b)))
 | .and,k,a,b=>aa (mZ k (fy .and k a b))
 | .or,k,a,b=>aa (mZ k (fy .or k a b))
 | .xor,k,a,b=>aa (mZ k (fy .xor k a b))
 | .andNot,k,a,b=>aa (mZ k (fy .andNot k a b))
 |_,_,_,_=>ae
def pure_and{k:IntKind}{a b:Int}{t u:TypeId}{x y:Operand}(hx:ev ρ x= .int k a)(hy:ev ρ y= .int k b):Pure P ρ ⟨aa d, .binOp .and t x y u,ty,pos,aft,ae⟩ (.int k (fy .and k a b)):=λw=>by simp[execOp,hx,hy,binOp,Op.intBits,eqGuard,fy,go_sem]
def pure_or{k:IntKind}{a b:Int}{t u:TypeId}{x y:Operand}(hx:ev ρ x= .int k a)(hy:ev ρ y= .int k b):Pure P ρ ⟨aa d, .binOp .or t x y u,ty,pos,aft,ae⟩ (.int k (fy .or k a b)):=λw=>by simp[execOp,hx,hy,binOp,Op.intBits,eqGuard,fy,go_sem]
def KU{k:IntKind}{a b:Int}{t u:TypeId}{x y:Operand}(hx:ev ρ x= .int k a)(hy:ev ρ y= .int k b):Pure P ρ ⟨aa d, .binOp .xor t x y u,ty,pos,aft,ae⟩ (.int k (fy .xor k a b)):=λw=>by simp[execOp,hx,hy,binOp,Op.intBits,eqGuard,fy,go_sem]
def BV{k:IntKind}{a b:Int}{t u:TypeId}{x y:Operand}(hx:ev ρ x= .int k a)(hy:ev ρ y= .int k b):Pure P ρ ⟨aa d, .binOp .andNot t x y u,ty,pos,aft,ae⟩ (.int k (fy .andNot k a b)):=λw=>by simp[execOp,hx,hy,binOp,Op.intBits,eqGuard,fy,go_sem]
def BW{k k':IntKind}{a b:Int}{t u:TypeId}{x y:Operand}(hx:ev ρ x= .int k a)(hy:ev ρ y= .int k' b)(hb:¬b<0):Pure P ρ ⟨aa d, .binOp .shl t x y u,ty,pos,aft,ae⟩ (.int k (Ac k a b)):=λw=>by simp[execOp,hx,hy,binOp,Op.shift,eqGuard,Ac,hb,go_sem]
def BX{k k':IntKind}{a b:Int}{t u:TypeId}{x y:Operand}(hx:ev ρ x= .int k a)(hy:ev ρ y= .int k' b)(hb:¬b<0):Pure P ρ ⟨aa d, .binOp .shr t x y u,ty,pos,aft,ae⟩ (.int k (gu k a b)):=λw=>by simp[execOp,hx,hy,binOp,Op.shift,eqGuard,gu,hb,go_sem]
theorem KV{o:BinOp}{k:IntKind}{a b:Int}{D:aI}{t u:TypeId}{x y:Operand}(h:arith o k a b=aa D)(hs:aL U H F w ob n)(hx:ev ρ x= .int k a)(hy:ev ρ y= .int k b):
 cK P U H F w ρ ob n ⟨aa d, .binOp o t x y u,ty,pos,aft,ae⟩ {dst:=D}:=by
 unfold arith at h
 split at h<;>cases h
 .exact bc hs (Ku hx hy) (aW.kh ..)
 .exact bc hs (Kv hx hy) (aW.kh ..)
 .exact bc hs (Kw hx hy) (aW.kh ..)
 .exact bc hs (Kz hx hy) (aW.gS ..)
 .exact bc hs (KA hx hy) (aW.gS ..)
 .exact bc hs (KB hx hy) (aW.gS ..)
 .exact bc hs (KC hx hy) (aW.gS ..)
 .exact bc hs (KD hx hy) (aW.gS ..)
 .exact bc hs (KE hx hy) (aW.gS ..)
 .exact bc hs (pure_and hx hy) (aW.kh ..)
 .exact bc hs (pure_or hx hy) (aW.kh ..)
 .exact bc hs (KU hx hy) (aW.kh ..)
 .exact bc hs (BV hx hy) (aW.kh ..)
def xV(a b:Int):Option Int:=if b=0 then ae else aa (aiQ a b)
def Er(a b:Int):Option Int:=if b=0 then ae else aa (ajd a b)
def T5:Operand->Bool
 | .const _=>af
 |_=>ag
theorem KW{k:IntKind}{a b:Int}{t u:TypeId}{x y:Operand}(hb:b≠0)(hs:aL U H F w ob n)(hx:ev ρ x= .int k a)(hy:ev ρ y= .int k b):
 cK P U H F w ρ ob n ⟨aa d, .binOp .quo t x y u,ty,pos,aft,ae⟩ {dst:=mZ k (k.wrap (aiQ a b))}:=
 bc hs (Kx hx hy hb) (aW.kh ..)
theorem KX{k:IntKind}{a b:Int}{t u:TypeId}{x y:Operand}(hb:b≠0)(hs:aL U H F w ob n)(hx:ev ρ x= .int k a)(hy:ev ρ y= .int k b):
 cK P U H F w ρ ob n ⟨aa d, .binOp .rem t x y u,ty,pos,aft,ae⟩ {dst:=mZ k (ajd a b)}:=
 bc hs (Ky hx hy hb) (aW.kh ..)
end
end
section
def Tree.split:Tree->Option (Tree×Tree)
 | .leaf (.pair a b) x=>aa (.leaf a x.1, .leaf b x.2)
 | .pair a b=>aa (a,b)
 |_=>ae
def Tree.get:Tree->List Bool->Option (Tree×Nat)
 |t,[]=>aa (t,0)
 |t,d::p=>match t.split with
  |none=>ae
  |some (a,b)=>match d with
   |false=>Tree.get a p
   |true=>match Tree.get b p with
    |none=>ae
    |some (s,off)=>aa (s,a.size+off)
def Tree.put:Tree->List Bool->Tree->Option Tree
 |_,[],u=>aa u
 |t,d::p,u=>match t.split with
  |none=>ae
  |some (a,b)=>match d with
   |false=>match Tree.put a p u with
    |none=>ae
    |some a'=>aa (.pair a' b)
   |true=>match Tree.put b p u with
    |none=>ae
    |some b'=>aa (.pair a b')
def sv:Nat->Nat->List Bool
 |0,_=>[]
 |1,_=>[]
 |_+2,0=>[ag]
 |m+2,f+1=>af::sv (m+1) f
section
variable {H:aK} {F:Nat->Prop} {w:World}
def Holds.split{t a b:Tree}{cs:List Value}(hs:t.split=aa (a,b))(h:Holds H F w t cs):∃c1 c2,cs=c1++c2/\Holds H F w a c1/\Holds H F w b c2/\t.size=a.size+b.size:=by
 unfold Tree.split at hs
 split at hs<;>cases hs
 .obtain⟨c1,c2,e,h1,h2⟩:=h;exact⟨c1,c2,e,h1,h2,rfl⟩
 .obtain⟨c1,c2,e,h1,h2⟩:=h;exact⟨c1,c2,e,h1,h2,rfl⟩
def Holds.get:{p:List Bool}->{t s:Tree}->{off:Nat}->{cs:List Value}->t.get p=aa (s,off)->Holds H F w t cs->Holds H F w s ((cs.drop off).take s.size)/\off+s.size<=cs.length
 |[],t,s,off,cs,hg,h=>by
  obtain⟨rfl,rfl⟩:=aj5 (aiF hg)
  grind [Holds.length]
 |d::p,t,s,off,cs,hg,h=>by
  unfold Tree.get at hg
  cases tE:t.split with
  |none=>rw[tE]at hg;cases hg
  |some ab=>
   obtain⟨a,b⟩:=ab;rw[tE]at hg;obtain⟨c1,c2,rfl,h1,h2,_⟩:=h.split tE;have Nl:=h1.length
   cases d with
   |false=>
    obtain⟨g1,g2⟩:=Holds.get hg h1
    grind
   |true=>
    cases hb:b.get p with
    |none=>simp only[hb]at hg;cases hg
    |some so=>
     obtain⟨s',eC⟩:=so;simp only[hb,aiO,Prod.mk.injEq]at hg;obtain⟨rfl,rfl⟩:=hg;obtain⟨g1,g2⟩:=Holds.get hb h2
     grind [List.drop_append,ajo]
def Holds.put{u:Tree}{vs:List Value}(hu:Holds H F w u vs):{p:List Bool}->{t s t':Tree}->{off:Nat}->{cs:List Value}->t.get p=aa (s,off)->t.put p u=aa t'->s.size=u.size->Holds H F w t cs->
 Holds H F w t' (cs.take off++vs++cs.drop (off+u.size))
 |[],t,s,t',off,cs,hg,hp,hz,h=>by
  obtain⟨rfl,rfl⟩:=aj5 (aiF hg);obtain rfl:=aiF hp;have hl:=h.length
  grind
 |d::p,t,s,t',off,cs,hg,hp,hz,h=>by
  unfold Tree.get at hg;unfold Tree.put at hp
  cases tE:t.split with
  |none=>rw[tE]at hg;cases hg
  |some ab=>
   obtain⟨a,b⟩:=ab;rw[tE]at hg hp;obtain⟨c1,c2,rfl,h1,h2,_⟩:=h.split tE;have Nl:=h1.length
   cases d with
   |false=>
    cases hq:a.put p u with
    |none=>simp only[hq]at hp;cases hp
    |some a'=>
     simp only[hq,aiO]at hp;subst hp;have h3:=Holds.put hu hg hq hz h1;have g2:=(Holds.get hg h1).2;refine⟨_,c2,?_,h3,h2⟩
     grind
   |true=>
    cases hb:b.get p with
    |none=>simp only[hb]at hg;cases hg
    |some so=>
     obtain⟨s',eC⟩:=so;simp only[hb,aiO,Prod.mk.injEq]at hg;obtain⟨rfl,rfl⟩:=hg
     cases hq:b.put p u with
     |none=>simp only[hq]at hp;cases hp
     |some b'=>
      simp only[hq,aiO]at hp;subst hp;have h3:=Holds.put hu hb hq hz h2;refine⟨c1,_,?_,h1,h3⟩
      rw[<-Nl,List.take_append,ajD (by omega),List.drop_append,ajo (by omega),show c1.length+eC-c1.length=eC from by omega,
       show c1.length+eC+u.size-c1.length=eC+u.size from by omega]
      simp[List.append_assoc]
end
def J5.beq:J5->J5->Bool
 | .map, .map=>af
 | .ptr, .ptr=>af
 | .func, .func=>af
 |_,_=>ag
def J5.eq_of_beq{a b:J5}(h:a.beq b=af):a=b:=by cases a<;>cases b<;>first|rfl|cases h
def Row.beq:Row->Row->Bool
 | .int k, .int k'=>decide (k=k')
 | .bool, .bool=>af
 | .str, .str=>af
 | .lS, .lS=>af
 | .nul a, .nul b=>a.beq b
 | .map a x b, .map c y d=>a.beq c&&(bif x then y else !y)&&b.beq d
 | .slice a, .slice b=>a.beq b
 | .pair a b, .pair c d=>a.beq c&&b.beq d
 |_,_=>ag
def Row.eq_of_beq:{r s:Row}->r.beq s=af->r=s
 | .int k, .int k',h=>by rw[an (show decide (k=k')=af from h)]
 | .bool, .bool,_=>rfl
 | .str, .str,_=>rfl
 | .lS, .lS,_=>rfl
 | .nul a, .nul b,h=>by rw[J5.eq_of_beq (show a.beq b=af from h)]
 | .map a x b, .map c y d,h=>by
   have h':(a.beq c&&(bif x then y else !y)&&b.beq d)=af:=h;rw[ajH,ajH]at h'
   have rC:x=y:=by cases x<;>cases y<;>simp_all
   rw[Row.eq_of_beq h'.1.1,Row.eq_of_beq h'.2,rC]
 | .slice a, .slice b,h=>by rw[Row.eq_of_beq (show a.beq b=af from h)]
 | .pair a b, .pair c d,h=>by
   have h':(a.beq c&&b.beq d)=af:=h;rw[ajH]at h';rw[Row.eq_of_beq h'.1,Row.eq_of_beq h'.2]
def jT{r s:Row}(h:r=s)(x:r.den):s.den:=h▸x
def Row.beq_refl:(r:Row)->r.beq r=af
 | .int k=>by simp[Row.beq]
 | .bool=>rfl
 | .str=>rfl
 | .lS=>rfl
 | .nul a=>by cases a<;>rfl
 | .map a x b=>by
   show(a.beq a&&(bif x then x else !x)&&b.beq b)=af
   rw[Row.beq_refl a,Row.beq_refl b]
   cases x<;>rfl
 | .slice a=>Row.beq_refl a
 | .pair a b=>by
   show(a.beq a&&b.beq b)=af
   rw[Row.beq_refl a,Row.beq_refl b];rfl
def DR.beq:DR->DR->Bool
 | .leaf r, .leaf s=>r.beq s
 | .sl T d, .sl T' d'=>aiK T T'&&d.beq d'
 | .pair a b, .pair c d=>a.beq c&&b.beq d
 |_,_=>ag
def DR.eq_of_beq:{d e:DR}->d.beq e=af->d=e
 | .leaf r, .leaf s,h=>by rw[Row.eq_of_beq (show r.beq s=af from h)]
 | .sl T d, .sl T' d',h=>by
   obtain⟨h1,h2⟩:=(ajH _ _▸(show(aiK T T'&&d.beq d')=af from h):aiK T T'=af/\d.beq d'=af)
   rw[Nat.eq_of_beq_eq_true h1,DR.eq_of_beq h2]
 | .pair a b, .pair c d,h=>by
   obtain⟨h1,h2⟩:=(ajH _ _▸(show(a.beq c&&b.beq d)=af from h):a.beq c=af/\b.beq d=af)
   rw[DR.eq_of_beq h1,DR.eq_of_beq h2]
 | .leaf _, .sl ..,h=>by cases h
 | .leaf _, .pair ..,h=>by cases h
 | .sl .., .leaf _,h=>by cases h
 | .sl .., .pair ..,h=>by cases h
 | .pair .., .leaf _,h=>by cases h
 | .pair .., .sl ..,h=>by cases h
def pe:List Bool->List Bool->Bool
 |[],[]=>af
 |a::p,b::q=>(bif a then b else !b)&&pe p q
 |_,_=>ag
theorem rF:{p q:List Bool}->pe p q=af->p=q
 |[],[],_=>rfl
 |a::p,b::q,h=>by
  have h':((bif a then b else !b)&&pe p q)=af:=h;rw[ajH]at h';rw[rF h'.2]
  grind
 |[],_::_,h=>by cases h
 |_::_,[],h=>by cases h
def Es:(r s:Row)->Option r.den
 | .map .., .nul .map=>aa []
 |_,_=>ae
def Ik{F:Nat->Prop}{w:World}:{r s:Row}->{x:r.den}->{y:s.den}->{cs:List Value}->Es r s=aa x->cG F w s cs y->cG F w r cs x
 | .map .., .nul .map,x,_,cs,h,hr=>by
   obtain rfl:=aiF h;exact⟨.map ae,hr, .inl ⟨rfl,rfl⟩⟩
 | .map .., .int _,_,_,_,h,_| .map .., .bool,_,_,_,h,_| .map .., .str,_,_,_,h,_| .map .., .slice _,_,_,_,h,_| .map .., .lS,_,_,_,h,_| .map .., .map ..,_,_,_,h,_| .map .., .pair ..,_,_,_,h,_| .map .., .nul .ptr,_,_,_,h,_| .map .., .nul .func,_,_,_,h,_=>by cases h
 | .int _,_,_,_,_,h,_| .bool,_,_,_,_,h,_| .str,_,_,_,_,h,_| .slice _,_,_,_,_,h,_| .lS,_,_,_,_,h,_| .nul _,_,_,_,_,h,_| .pair ..,_,_,_,_,h,_=>by unfold Es at h;cases h
def flat(ob:Nat->Option (Nat×Th)):(r:Row)->Tree->Option r.den
 |r, .leaf s x=>if h:s.beq r=af then aa (jT (Row.eq_of_beq h) x)else Es r s
 | .slice e, .own o=>match ob o with
   |some (_, .vh _ s l)=>if h:s.beq e=af then aa (jT (r:= .slice s) (s:= .slice e) (ay Row.slice (Row.eq_of_beq h)) l)else ae
   |some (_, .fdeep _ d l)=>if h:d.row.beq e=af then aa (jT (r:= .slice d.row) (s:= .slice e) (ay Row.slice (Row.eq_of_beq h)) l)else ae
   |_=>ae
 | .slice _, .nil=>aa []
 | .map K agg V, .own o=>match ob o with
   |some (_, .fmap _ K' mE V' l)=>if h:(Row.map K' mE V').beq (.map K agg V)=af then aa (jT (Row.eq_of_beq h) l)else ae
   |some (_, .fdmap _ K' _ r' l)=>if h:(Row.map K' ag (.slice r')).beq (.map K agg V)=af then aa (jT (r:= .map K' ag (.slice r')) (Row.eq_of_beq h) l)else ae
   |_=>ae
 | .slice e, .view o s r m=>match ob o with
   |some (s', .vh ..)=>bif aiK s' s then(if h:r.beq e=af then aa (jT (r:= .slice r) (s:= .slice e) (ay Row.slice (Row.eq_of_beq h)) m)else ae)else ae
   |_=>ae
 | .pair a b, .pair t u=>match flat ob a t with
   |none=>ae
   |some x=>match flat ob b u with
    |none=>ae
    |some y=>aa (x,y)
 |_,_=>ae
section
variable {U:Nat->Prop} {H:aK} {F:Nat->Prop} {w:World} {ob:Nat->Option (Nat×Th)} {n:Nat}
def yD(hs:aL U H F w ob n){o s:Nat}{T:TypeId}{r0 r:Row}{l0:List r0.den}{m:List r.den}{v:Value}(ho:ob o=aa (s, .vh T r0 l0))(h:mO H o s r m v):cG F w (.slice r) [v] m:=by
 obtain⟨A,cap,T',l,a,b,h1,h2,h3,h4,rfl,rfl⟩:=h;obtain⟨v',dZ,cP⟩:=hs.obj _ _ _ ho;rw[h1]at dZ;obtain rfl:=aiF dZ;have e:=cP.con;rw[h2]at e;simp only[Th.base,aiO,Th.own.injEq]at e;obtain⟨rfl,rfl,e⟩:=e;obtain rfl:=eq_of_heq e;exact cG.cut cP.ok h3 h4
theorem jF(hs:aL U H F w ob n):{r:Row}->{t:Tree}->{x:r.den}->{cs:List Value}->flat ob r t=aa x->Holds H F w t cs->cG F w r cs x
 |r, .leaf s x0,x,cs,hf,h=>by
  unfold flat at hf;split at hf
  .rename_i e;obtain rfl:=Row.eq_of_beq e;obtain rfl:=aiF hf;exact h
  .exact Ik hf h
 | .slice e, .own o,x,cs,hf,h=>by
   unfold flat at hf;split at hf
   .rename_i s0 T s l xW;split at hf
    .rename_i e;obtain rfl:=Row.eq_of_beq e;obtain rfl:=aiF hf;obtain⟨v,hv,_,rfl⟩:=h;obtain⟨v',dZ,cP⟩:=hs.obj _ _ _ xW;rw[hv]at dZ;obtain rfl:=aiF dZ;exact cP.ok
    .cases hf
   .rename_i s0 T d l xW;split at hf
    .rename_i e;obtain rfl:=Row.eq_of_beq e;obtain rfl:=aiF hf;obtain⟨v,hv,_,rfl⟩:=h;obtain⟨v',dZ,cP⟩:=hs.obj _ _ _ xW;rw[hv]at dZ;obtain rfl:=aiF dZ;exact cP.ok
    .cases hf
   .cases hf
 | .map K agg V, .own o,x,cs,hf,h=>by
   unfold flat at hf;split at hf
   .rename_i s0 T K' mE V' l xW;split at hf
    .rename_i e;cases Row.eq_of_beq e;obtain rfl:=aiF hf;obtain⟨v,hv,_,rfl⟩:=h;obtain⟨v',dZ,cP⟩:=hs.obj _ _ _ xW;rw[hv]at dZ;obtain rfl:=aiF dZ;exact cP.ok
    .cases hf
   .rename_i s0 T K' E r' l xW;split at hf
    .rename_i e;cases Row.eq_of_beq e;obtain rfl:=aiF hf;obtain⟨v,hv,_,rfl⟩:=h;obtain⟨v',dZ,cP⟩:=hs.obj _ _ _ xW;rw[hv]at dZ;obtain rfl:=aiF dZ;exact cP.ok
    .cases hf
   .cases hf
 | .slice e, .nil,x,cs,hf,h=>by
   unfold flat at hf;obtain rfl:=aiF hf;rw[show cs=_ from h];exact cG.nil F w e
 | .slice e, .view o s r m,x,cs,hf,h=>by
   unfold flat at hf;split at hf
   .rename_i s' T r' l' xW
    cases hb:aiK s' s with
    |false=>rw[hb]at hf;cases hf
    |true=>
     rw[hb,cond_true]at hf;obtain rfl:=Nat.eq_of_beq_eq_true hb;split at hf
     .rename_i e;obtain rfl:=Row.eq_of_beq e;obtain rfl:=aiF hf;obtain⟨v,rfl,h⟩:=h;exact yD hs xW h
     .cases hf
   .cases hf
 | .pair a b, .pair t u,x,cs,hf,h=>by
   obtain⟨c1,c2,rfl,h1,h2⟩:=h;unfold flat at hf
   cases ha:flat ob a t with
   |none=>grind
   |some p=>
    cases hb:flat ob b u with
    |none=>grind
    |some q=>
     simp only[ha,hb,aiO]at hf;subst hf;exact⟨c1,c2,rfl,jF hs ha h1,jF hs hb h2⟩
 | .int _, .own _,_,_,hf,_=>by unfold flat at hf;cases hf
 | .bool, .own _,_,_,hf,_=>by unfold flat at hf;cases hf
 | .str, .own _,_,_,hf,_=>by unfold flat at hf;cases hf
 | .lS, .own _,_,_,hf,_=>by unfold flat at hf;cases hf
 | .nul _, .own _,_,_,hf,_=>by unfold flat at hf;cases hf
 | .pair _ _, .own _,_,_,hf,_=>by unfold flat at hf;cases hf
 | .int _, .nil,_,_,hf,_=>by unfold flat at hf;cases hf
 | .bool, .nil,_,_,hf,_=>by unfold flat at hf;cases hf
 | .str, .nil,_,_,hf,_=>by unfold flat at hf;cases hf
 | .lS, .nil,_,_,hf,_=>by unfold flat at hf;cases hf
 | .nul _, .nil,_,_,hf,_=>by unfold flat at hf;cases hf
 | .map .., .nil,_,_,hf,_=>by unfold flat at hf;cases hf
 | .pair _ _, .nil,_,_,hf,_=>by unfold flat at hf;cases hf
 | .int _, .view ..,_,_,hf,_=>by unfold flat at hf;cases hf
 | .bool, .view ..,_,_,hf,_=>by unfold flat at hf;cases hf
 | .str, .view ..,_,_,hf,_=>by unfold flat at hf;cases hf
 | .lS, .view ..,_,_,hf,_=>by unfold flat at hf;cases hf
 | .nul _, .view ..,_,_,hf,_=>by unfold flat at hf;cases hf
 | .map .., .view ..,_,_,hf,_=>by unfold flat at hf;cases hf
 | .pair _ _, .view ..,_,_,hf,_=>by unfold flat at hf;cases hf
 | .int _, .junk _,_,_,hf,_=>by unfold flat at hf;cases hf
 | .bool, .junk _,_,_,hf,_=>by unfold flat at hf;cases hf
 | .str, .junk _,_,_,hf,_=>by unfold flat at hf;cases hf
 | .slice _, .junk _,_,_,hf,_=>by unfold flat at hf;cases hf
 | .lS, .junk _,_,_,hf,_=>by unfold flat at hf;cases hf
 | .nul _, .junk _,_,_,hf,_=>by unfold flat at hf;cases hf
 | .map .., .junk _,_,_,hf,_=>by unfold flat at hf;cases hf
 | .pair _ _, .junk _,_,_,hf,_=>by unfold flat at hf;cases hf
 | .int _, .pair _ _,_,_,hf,_=>by unfold flat at hf;cases hf
 | .bool, .pair _ _,_,_,hf,_=>by unfold flat at hf;cases hf
 | .str, .pair _ _,_,_,hf,_=>by unfold flat at hf;cases hf
 | .lS, .pair _ _,_,_,hf,_=>by unfold flat at hf;cases hf
 | .nul _, .pair _ _,_,_,hf,_=>by unfold flat at hf;cases hf
 | .map .., .pair _ _,_,_,hf,_=>by unfold flat at hf;cases hf
 | .slice _, .pair _ _,_,_,hf,_=>by unfold flat at hf;cases hf
end
def Row.BY:Row->Tree
 | .slice _=> .nil
 | .pair a b=> .pair a.BY b.BY
 |r=> .leaf r r.zero
def Row.nQ(H:aK)(F:Nat->Prop)(w:World):(r:Row)->Holds H F w r.BY r.dF
 | .int _=>rfl
 | .bool=>rfl
 | .str=>rfl
 | .slice _=>rfl
 | .lS=>⟨rfl,ae,0,0,rfl⟩
 | .nul _=>rfl
 | .map .. =>⟨_,rfl, .inl ⟨rfl,rfl⟩⟩
 | .pair a b=>⟨_,_,rfl,Row.nQ H F w a,Row.nQ H F w b⟩
end
end Go.Proofs.YtleifhfeahnocaaGreatDoor
