/- Joined texts: Base Mem Own More Lit Open Cut Glob Deep Sym Eff Path. -/
import Derived.WalkKit
import Derived.WalkSpells
import Derived.WalkLawsBesides
import Derived.LoopN
import Derived.Deep.Draws
import Derived.Deep.Quiet
import Derived.Maps.AppendAt
import Derived.OwnWalk
import Derived.KernelRfl
import Derived.MapKept
import Derived.Laws.StructEq
import Derived.Test.YtleifhfeahnocaaGreatDoorRows
import Derived.ProofKit
import Derived.OpenShut
import Derived.JoinedCond
import Derived.Deep.Slices
import Derived.Laws.Slices
set_option linter.defProp false
open _root_.Bool renaming false->ag,true->af,and_eq_true->akd
open _root_.Option renaming none->ae,some->aa
open _root_.Array renaming getD_eq_getD_getElem?->ajW,getElem?_eq_getElem->ajG,toArray_toList->ajZ
open _root_.Go.RowKit.Below renaming heap_alloc->akc
open _root_.Classical renaming propDecidable->aju
open _root_.List renaming getElem?_eq_getElem->ajb,getElem?_eq_some_iff->ajr,mem_append->ajt,drop_of_length_le->ajX,getElem?_drop->aj9,getElem?_take->ake,getElem_append_left->ajM,getElem_append_right->ajU,getElem_of_mem->ajm,nil_append->ajC,range->ajY,replicate->aji,size_toArray->ako,getElem?_append->akP,length_cons->ajp,length_take->ajO,map_cons->ajD,take_append_drop->akx
open _root_.Nat renaming beq->ajf,blt->ajK,le_refl->ajh,add_mul->akq,add_zero->akj,le_trans->ajs,mul_le_mul_right->ajq,min_eq_left->akp,lt_of_lt_of_le->ajA
open _root_.Option.some renaming inj->aja,injEq->ajj
open _root_.Go.Region renaming wanted->aky
open _root_.Go.Value renaming oneCell'->akt,ownBlock->ajo
open _root_.Go.Builtin renaming append_->akG
open _root_.Go.Value.slice renaming injEq->akn
open _root_.Go.World renaming cell?->aj0
open _root_.List.cons renaming injEq->aj3
open _root_.BitVec renaming ofInt->akL
open _root_.Int renaming tdiv->ajl,tmod->ajH
open _root_.Prod.mk renaming inj->akA
namespace Go.Proofs.YtleifhfeahnocaaGreatDoor
open Go Go.RowKit
set_option maxRecDepth 100000
set_option linter.unusedSimpArgs false
set_option linter.unusedVariables false
set_option linter.defProp false
section
def ai.{u}:type_of% @_root_.if_neg.{u}:= @_root_.if_neg.{u}
def aj.{u}:type_of% @_root_.if_pos.{u}:= @_root_.if_pos.{u}
def an:type_of% @_root_.of_decide_eq_true:= @_root_.of_decide_eq_true
def ao:type_of% @_root_.of_decide_eq_false:= @_root_.of_decide_eq_false
def aq:type_of% @_root_.decide_eq_true:= @_root_.decide_eq_true
def au:type_of% @_root_.decide_eq_false:= @_root_.decide_eq_false
def av.{u}:type_of% @_root_.implies_true.{u}:= @_root_.implies_true.{u}
def ax.{u}:type_of% @_root_.forall_const.{u}:= @_root_.forall_const.{u}
def ay.{u,v}:type_of% @_root_.congrArg.{u,v}:= @_root_.congrArg.{u,v}
def az:type_of% @_root_.decide_eq_true_eq:= @_root_.decide_eq_true_eq
def aA:type_of% @_root_.iff_of_false:= @_root_.iff_of_false
open Go Go.RowKit
inductive Kq where
 |map
 |ptr
 |func
def Kq.val:Kq->Value
 | .map=> .map ae
 | .ptr=> .pointer ae
 | .func=> .nilFunc
def Kq.one(k:Kq):k.val.oneCell'=af:=by cases k<;>simp[Kq.val,akt]
inductive Row where
 |int (k:IntKind)
 |bool
 |str
 |slice (e:Row)
 |lZ
 |nul (k:Kq)
 |map (K:Row) (agg:Bool) (V:Row)
 |pair (a b:Row)
@[reducible] def Row.den:Row->Type
  | .int _=>Int
  | .bool=>Bool
  | .str=>ByteArray
  | .slice e=>List e.den
  | .lZ=>Value
  | .nul _=>Unit
  | .map K _ V=>List (K.den×V.den)
  | .pair a b=>a.den×b.den
noncomputable instance Row.decEq:(r:Row)->DecidableEq r.den
 | .int _=>inferInstanceAs (DecidableEq Int)
 | .bool=>inferInstanceAs (DecidableEq Bool)
 | .str=>inferInstanceAs (DecidableEq ByteArray)
 | .slice e=>have:=Row.decEq e;inferInstanceAs (DecidableEq (List e.den))
 | .lZ=>λa b=>aju (a=b)
 | .nul _=>inferInstanceAs (DecidableEq Unit)
 | .map K _ V=>have:=Row.decEq K;have:=Row.decEq V;inferInstanceAs (DecidableEq (List (K.den×V.den)))
 | .pair a b=>have:=Row.decEq a;have:=Row.decEq b;inferInstanceAs (DecidableEq (a.den×b.den))
@[simp] def Row.size:Row->Nat
  | .pair a b=>a.size+b.size
  |_=>1
theorem Row.size_pos:(r:Row)->0<r.size
 | .pair a b=>by have:=Row.size_pos a;simp;omega
 | .int _| .bool| .str| .slice _| .lZ| .nul _| .map .. =>by simp
def p5:(K:Row)->K.den->Option Value
 | .int k,n=>aa (.int k n)
 | .bool,b=>aa (.bool b)
 | .str,s=>aa (.string s)
 |_,_=>ae
def cI(F:Nat->Prop)(w:World):(r:Row)->List Value->r.den->Prop
 | .int k,cs,n=>cs=[.int k n]
 | .bool,cs,b=>cs=[.bool b]
 | .str,cs,s=>cs=[.string s]
 | .slice e,cs,l=>∃A cap,cs=[.slice A l.length cap]/\l.length<=cap/\cap<=maxLen/\
     ∀i(h:i<l.length),∃b off es,A=aa ⟨b,off,ae⟩/\F b/\es.length=e.size/\
      (∀j u,es[j]? =aa u->w.cell? ⟨b,off+i*e.size+j,ae⟩=aa u)/\cI F w e es l[i]
 | .lZ,cs,v=>cs=[v]/\∃A m c,v= .slice A m c
 | .nul k,cs,_=>cs=[k.val]
 | .map K agg V,cs,l=>∃v,cs=[v]/\((v= .map ae/\l=[])\/∃b es clock,v= .map (aa b)/\F b/\w.heap[b]? =aa (.map es clock)/\MapKept.Stamped es clock/\es.size=l.length/\
     ∀i(h:i<l.length),∃(e:MapEntry)(cs:List Value),es[i]? =aa e/\p5 K l[i].1=aa e.key/\cI F w V cs l[i].2/\e.val=(bif agg then .agg cs.toArray else cs.headD undef)/\(agg=ag->cs=[e.val]))
 | .pair a b,cs,d=>∃c1 c2,cs=c1++c2/\cI F w a c1 d.1/\cI F w b c2 d.2
theorem cI.length{F:Nat->Prop}{w:World}:{r:Row}->{cs:List Value}->{d:r.den}->cI F w r cs d->cs.length=r.size
 | .int _,_,_,h=>by rw[show _=_ from h];rfl
 | .bool,_,_,h=>by rw[show _=_ from h];rfl
 | .str,_,_,h=>by rw[show _=_ from h];rfl
 | .slice _,_,_,h=>by obtain⟨A,cap,h,_⟩:=h;rw[h];rfl
 | .lZ,_,_,h=>by rw[h.1];rfl
 | .nul _,_,_,h=>by rw[show _=_ from h];rfl
 | .map ..,_,_,h=>by obtain⟨v,rfl,_⟩:=h;rfl
 | .pair a b,_,_,h=>by
   obtain⟨c1,c2,rfl,h1,h2⟩:=h;simp[h1.length,h2.length]
def cI.kD{F:Nat->Prop}{w:World}:{r:Row}->{cs:List Value}->{d:r.den}->cI F w r cs d->∀u∈cs,u.oneCell'=af
 | .int _,_,_,h=>by rw[show _=_ from h];simp[akt]
 | .bool,_,_,h=>by rw[show _=_ from h];simp[akt]
 | .str,_,_,h=>by rw[show _=_ from h];simp[akt]
 | .slice _,_,_,h=>by obtain⟨A,cap,rfl,_⟩:=h;simp[akt]
 | .lZ,_,_,h=>by obtain⟨rfl,A,m,c,rfl⟩:=h;simp[akt]
 | .nul k,_,_,h=>by rw[show _=_ from h];simp[k.one]
 | .map ..,_,_,h=>by
   obtain⟨v,rfl,h⟩:=h
   rcases h with⟨rfl,_⟩|⟨b,es,clock,rfl,_⟩<;>simp[akt]
 | .pair a b,_,_,h=>by
   obtain⟨c1,c2,rfl,h1,h2⟩:=h;intro u hu
   rcases ajt.1 hu with h'|h'
   .exact h1.kD u h'
   .exact h2.kD u h'
def Step(F:Nat->Prop)(w:World)(F':Nat->Prop)(w':World):Prop:=∀b,F b->F' b/\w'.heap[b]? =w.heap[b]?
def cI.step{F F':Nat->Prop}{w w':World}(ho:Step F w F' w'):{r:Row}->{cs:List Value}->{d:r.den}->cI F w r cs d->cI F' w' r cs d
 | .int _,_,_,h=>h
 | .bool,_,_,h=>h
 | .str,_,_,h=>h
 | .slice e,_,l,h=>by
   obtain⟨A,cap,hc,h1,h2,h3⟩:=h;refine⟨A,cap,hc,h1,h2,λi hi=>?_⟩;obtain⟨b,off,es,hA,hb,vy,B5,hr⟩:=h3 i hi;exact⟨b,off,es,hA,(ho b hb).1,vy,λj u hu=>(World.cell?_of_block (ho b hb).2).trans (B5 j u hu),hr.step ho⟩
 | .lZ,_,_,h=>h
 | .nul _,_,_,h=>h
 | .map K agg V,_,l,h=>by
   obtain⟨v,hv,h⟩:=h;refine⟨v,hv,h.imp id λ⟨b,es,clock,h1,h2,h3,h4,h5,h6⟩=>⟨b,es,clock,h1,(ho b h2).1,(ho b h2).2.trans h3,h4,h5,λi hi=>?_⟩⟩;obtain⟨e,cs,g1,g2,g3,g4⟩:=h6 i hi;exact⟨e,cs,g1,g2,g3.step ho,g4⟩
 | .pair a b,_,_,h=>by
   obtain⟨c1,c2,hc,h1,h2⟩:=h;exact⟨c1,c2,hc,h1.step ho,h2.step ho⟩
def At(F:Nat->Prop)(w:World)(r:Row)(b off:Nat)(x:r.den):Prop:=
 ∃es,es.length=r.size/\(∀j u,es[j]? =aa u->w.cell? ⟨b,off+j,ae⟩=aa u)/\cI F w r es x
def At.fst{F:Nat->Prop}{w:World}{r s:Row}{b off:Nat}{x:(Row.pair r s).den}(h:At F w (.pair r s) b off x):At F w r b off x.1:=by
 obtain⟨es,hl,hc,c1,c2,rfl,h1,h2⟩:=h;exact⟨c1,h1.length,(by grind),h1⟩
def At.snd{F:Nat->Prop}{w:World}{r s:Row}{b off:Nat}{x:(Row.pair r s).den}(h:At F w (.pair r s) b off x)(k:Nat)(hk:k=r.size):At F w s b (off+k) x.2:=by
 obtain⟨es,hl,hc,c1,c2,rfl,h1,h2⟩:=h;subst hk
 exact⟨c2,h2.length,λj u hu=>by
  have:=hc (r.size+j) u (by
   grind [cI.length])
  grind,h2⟩
def cI.nil(F:Nat->Prop)(w:World)(e:Row):cI F w (.slice e) [.slice ae 0 0] []:=⟨ae,0,rfl,ajh _,by simp[maxLen],λi hi=>absurd hi (by simp)⟩
def cI.EA{F:Nat->Prop}{w:World}{e:Row}{v:Value}{l:List e.den}(h:cI F w (.slice e) [v] l):
 ∃A cap,v= .slice A l.length cap/\l.length<=cap/\cap<=9223372036854775807:=by
 obtain⟨A,cap,h1,h2,h3,_⟩:=h;exact⟨A,cap,by simpa using h1,h2,h3⟩
def Step.refl(F:Nat->Prop)(w:World):Step F w F w:=λ_ h=>⟨h,rfl⟩
def Step.trans{F F1 F2:Nat->Prop}{w w1 w2:World}(h:Step F w F1 w1)(k:Step F1 w1 F2 w2):Step F w F2 w2:=λb hb=>⟨(k b (h b hb).1).1,(k b (h b hb).1).2.trans (h b hb).2⟩
def Step.drew(F:Nat->Prop)(w:World):Step F w F w.drew:=λ_ h=>⟨h,rfl⟩
def Step.alloc{F:Nat->Prop}{w:World}(h:∀b,F b->b<w.heap.size)(o:Obj):Step F w F (w.alloc o):=λb hb=>⟨hb,akc w o b (h b hb)⟩
def Step.freeze(F:Nat->Prop)(w:World)(G:Nat->Prop):Step F w (λb=>F b\/G b) w:=λ_ h=>⟨.inl h,rfl⟩
structure Fr(n:Nat)(a:Act)(ρ:Nat->Value):Prop where
 size:a.tmps.size=n
 defers:a.defers=[]
 get:∀t,a.tmps.getD t undef=ρ t
def EB(ρ:Nat->Value)(d:Nat)(v:Value):Nat->Value:=λt=>bif ajf t d then v else ρ t
def ev(ρ:Nat->Value):Operand->Value
 | .tmp t=>ρ t
 | .const v=>v
 | .global g=> .pointer (aa ⟨g,0,ae⟩)
 | .func f=> .func (.func f) #[] #[]
def Fr.eval{n:Nat}{a:Act}{ρ:Nat->Value}(h:Fr n a ρ):a.eval=ev ρ:=by
 funext x
 cases x with
 |tmp t=>exact h.get t
 |const v=>rfl
 |global g=>rfl
 |func f=>rfl
def Fr.put{n:Nat}{a:Act}{ρ:Nat->Value}(h:Fr n a ρ){d:Nat}(hd:ajK d n=af)(v:Value):Fr n (a.put (aa d) v) (EB ρ d v):=by
 have aG:d<n:=by simpa[Nat.blt_eq]using hd
 refine⟨by simpa[Act.put]using h.size,by simpa[Act.put]using h.defers,λt=>?_⟩;have hs:=h.size;have hg:=h.get t;simp only[Act.put,ajW,Array.getElem?_setIfInBounds]at hg⊢;unfold EB;by_cases ht:t=d
 .simp_all
 .have dw:¬d=t:=λe=>ht e.symm
  grind [Nat.eq_of_beq_eq_true]
def wpS(P:Program)(n:Nat)(ops:Array Oper)(K:(Nat->Value)->World->Prop)(l:List Oper)(ρ:Nat->Value)(w:World):Prop:=
 ∀(Q:Exit->Act->World->Prop)(a:Act),Fr n a ρ->(∀a' dH w',Fr n a' dH->K dH w'->Q .normal a' w')->wpList P ops Q l a w
section
variable {P:Program} {n:Nat} {ops:Array Oper} {K:(Nat->Value)->World->Prop} {rest:List Oper} {ρ:Nat->Value} {w:World}
def NW(h:K ρ w):wpS P n ops K [] ρ w:=λ_ _ hf hk=>hk _ _ _ hf h
def Pure(P:Program)(ρ:Nat->Value)(o:Oper)(v:Value):Prop:=∀w,(execOp (ev ρ) o).run P w= .ok (.value v) w
def pu{a:Act}(hf:Fr n a ρ){j d:Nat}{b:Bool}(hj:(ops[j]?).bind (·.dst)=aa d)(hd:ajK d n=af)(hb:ρ d= .bool b):yielded ops a.tmps j=aa b:=by
 have aG:d<n:=by simpa[Nat.blt_eq]using hd
 have hg:=hf.get d;have hs:=hf.size;rw[hb]at hg
 have:a.tmps[d]? =aa (.bool b):=by
  rw[ajW]at hg;rw[ajG (by omega)]at hg⊢;simpa using hg
 unfold yielded;rw[hj];simp[this]
def Q3{dst:Option Nat}{op:Op}{ty:TypeId}{pos:String}{aft:Array Edge}{j:Nat}{b:Bool}(d:Nat)(hj:(ops[j]?).bind (·.dst)=aa d)(hd:ajK d n=af)(hb:ρ d= .bool b)
 (h:wpS P n ops K (⟨dst,op,ty,pos,aft,ae⟩::rest) ρ w):wpS P n ops K (⟨dst,op,ty,pos,aft,aa (j,b)⟩::rest) ρ w:=
 λQ a hf hk=>by
  have:=h Q a hf hk;unfold wpList at this⊢;rw[aj (by simp[aky])]at this;rw[aj (by simp[aky,pu hf hj hd hb])];exact this
def NX{d':Nat}{op:Op}{ty:TypeId}{pos:String}{aft:Array Edge}{j:Nat}{b b':Bool}(d:Nat)(hj:(ops[j]?).bind (·.dst)=aa d)(hd:ajK d n=af)(hb:ρ d= .bool b')(dw:b'≠b)(BV:ajK d' n=af)
 (h:wpS P n ops K rest (EB ρ d' undef) w):wpS P n ops K (⟨aa d',op,ty,pos,aft,aa (j,b)⟩::rest) ρ w:=
 λQ a hf hk=>by
  have:=h Q _ (hf.put BV undef) hk;unfold wpList;rw[ai (by simp[aky,pu hf hj hd hb,dw])];exact this
def Ao{op:Op}{ty:TypeId}{pos:String}{aft:Array Edge}{j:Nat}{b b':Bool}(d:Nat)(hj:(ops[j]?).bind (·.dst)=aa d)(hd:ajK d n=af)(hb:ρ d= .bool b')(dw:b'≠b)
 (h:wpS P n ops K rest ρ w):wpS P n ops K (⟨ae,op,ty,pos,aft,aa (j,b)⟩::rest) ρ w:=
 λQ a hf hk=>by
  have:=h Q _ hf hk;unfold wpList;rw[ai (by simp[aky,pu hf hj hd hb,dw])];exact this
def oE{a:Act}(hf:Fr n a ρ){j d:Nat}(hj:(ops[j]?).bind (·.dst)=aa d)(hd:ajK d n=af)(hb:ρ d=undef):yielded ops a.tmps j=ae:=by
 have aG:d<n:=by simpa[Nat.blt_eq]using hd
 have hg:=hf.get d;have hs:=hf.size;rw[hb]at hg
 have:a.tmps[d]? =aa undef:=by
  rw[ajW]at hg;rw[ajG (by omega)]at hg⊢;simpa using hg
 unfold yielded;rw[hj];simp[this,undef]
def KI{d':Nat}{op:Op}{ty:TypeId}{pos:String}{aft:Array Edge}{j:Nat}{b:Bool}(d:Nat)(hj:(ops[j]?).bind (·.dst)=aa d)(hd:ajK d n=af)(hb:ρ d=undef)(BV:ajK d' n=af)
 (h:wpS P n ops K rest (EB ρ d' undef) w):wpS P n ops K (⟨aa d',op,ty,pos,aft,aa (j,b)⟩::rest) ρ w:=
 λQ a hf hk=>by
  have:=h Q _ (hf.put BV undef) hk;unfold wpList;rw[ai (by simp[aky,oE hf hj hd hb])];exact this
def yl{op:Op}{ty:TypeId}{pos:String}{aft:Array Edge}{j:Nat}{b:Bool}(d:Nat)(hj:(ops[j]?).bind (·.dst)=aa d)(hd:ajK d n=af)(hb:ρ d=undef)
 (h:wpS P n ops K rest ρ w):wpS P n ops K (⟨ae,op,ty,pos,aft,aa (j,b)⟩::rest) ρ w:=
 λQ a hf hk=>by
  have:=h Q _ hf hk;unfold wpList;rw[ai (by simp[aky,oE hf hj hd hb])];exact this
end
def yb(P:Program)(n:Nat)(c:Code)(Q:Exit->(Nat->Value)->World->Prop)(ρ:Nat->Value)(w:World):Prop:=
 ∀a,Fr n a ρ->c.wp P (λe a' w'=>∃dH,Fr n a' dH/\Q e dH w') a w
def thn(K:(Nat->Value)->World->Prop)(Q:Exit->(Nat->Value)->World->Prop):Exit->(Nat->Value)->World->Prop
 | .normal,ρ,w=>K ρ w
 |e,ρ,w=>Q e ρ w
def TS(id:Nat)(Q:Exit->(Nat->Value)->World->Prop):Exit->(Nat->Value)->World->Prop
 | .exit HY,ρ,w=>bif ajf HY id then Q .normal ρ w else Q (.exit HY) ρ w
 |e,ρ,w=>Q e ρ w
section
variable {P:Program} {n:Nat} {Q:Exit->(Nat->Value)->World->Prop} {ρ:Nat->Value} {w:World}
def EC{id:Nat}{l:List Oper}(h:wpS P n l.toArray (λρ w=>Q .normal ρ w) l ρ w):yb P n (.region id l.toArray ag) Q ρ w:=
 λa hf=>wp_region_lit (h _ a hf λ_ _ _ uW hk=>⟨_,uW,hk⟩)
def Aq{a b:Code}(h:yb P n a (thn (λρ w=>yb P n b Q ρ w) Q) ρ w):yb P n (.seq a b) Q ρ w:=
 λact hf=>wp_seq (wp_mono (h act hf) λe a' w' ⟨dH,uW,hh⟩=>by
  cases e with
  |normal=>exact hh a' uW
  |_=>exact⟨dH,uW,hh⟩)
def KJ(h:Q .normal ρ w):yb P n .skip Q ρ w:=λ_ hf=>wp_skip ⟨_,hf,h⟩
def KK{id:Nat}(h:Q (.exit id) ρ w):yb P n (.exit id) Q ρ w:=λ_ hf=>wp_exit ⟨_,hf,h⟩
def NY(h:Q .ret ρ w):yb P n .ret Q ρ w:=λ_ hf=>wp_ret ⟨_,hf,h⟩
def tS{id:Nat}{c:Code}(h:yb P n c (TS id Q) ρ w):yb P n (.block id c) Q ρ w:=
 λa hf=>wp_block (wp_mono (h a hf) λe a' w' ⟨dH,uW,hh⟩=>by
  cases e with
  |exit HY=>
   unfold Exit.inBlock;by_cases he:HY=id
   .subst he;simp only[TS,show ajf HY HY=af from Nat.beq_refl _,cond_true]at hh;simpa using⟨dH,uW,hh⟩
   .have hb:ajf HY id=ag:=by
     cases HZ:ajf HY id with
     |false=>rfl
     |true=>exact absurd (Nat.eq_of_beq_eq_true HZ) he
    simp only[TS,hb,cond_false]at hh;simpa[he]using⟨dH,uW,hh⟩
  |_=>exact⟨dH,uW,hh⟩)
def B6{c:Operand}{x y:Code}(b:Bool)(hc:ev ρ c= .bool b)(h:yb P n (bif b then x else y) Q ρ w):yb P n (.cond c x y) Q ρ w:=
 λa hf=>wp_cond (t:=b) (by rw[hf.eval];exact hc) (by
  have:=h a hf
  cases b<;>exact this)
def KL{c:Operand}{x y:Code}(hc:ev ρ c= .bool af)(h:yb P n x Q ρ w):yb P n (.cond c x y) Q ρ w:=B6 af hc h
def Ia{c:Operand}{x y:Code}(hc:ev ρ c= .bool ag)(h:yb P n y Q ρ w):yb P n (.cond c x y) Q ρ w:=B6 ag hc h
def Loop{S X:Type}(body:S->Option (S⊕X)):Nat->S->Option X
 |0,_=>ae
 |k+1,s=>match body s with
  |none=>ae
  |some (.inl s')=>Loop body k s'
  |some (.inr x)=>aa x
def P1{S X:Type}(I:S->(Nat->Value)->World->Prop)(Q:Exit->(Nat->Value)->World->Prop)(x:X):S⊕X->Exit->(Nat->Value)->World->Prop
 | .inl s',e,ρ,w=>e= .normal/\I s' ρ w
 | .inr x',e,ρ,w=>e≠ .normal/\(x'=x->Q e ρ w)
def KM{S X:Type}{body:S->Option (S⊕X)}{c:Code}(I:S->(Nat->Value)->World->Prop){x:X}{N:Nat}{s:S}(hm:Loop body N s=aa x)(h0:I s ρ w)
 (hb:∀s ρ w y,I s ρ w->body s=aa y->yb P n c (P1 I Q x y) ρ w):yb P n (.loop c) Q ρ w:=by
 intro a hf;refine wp_loop_rounds N ?_
 induction N generalizing s ρ w a with
 |zero=>cases hm
 |succ k ih=>
  rw[rounds_succ];unfold Loop at hm
  cases hy:body s with
  |none=>simp[hy]at hm
  |some y=>
   refine wp_mono (hb s ρ w y h0 hy a hf) λe a' w' ⟨dH,uW,hh⟩=>?_
   cases y with
   |inl s'=>
    obtain⟨rfl,hI⟩:=hh;rw[hy]at hm;exact ih hm hI a' uW
   |inr x'=>
    rw[hy]at hm;obtain⟨dw,hq⟩:=hh;have:=hq (aja hm)
    cases e with
    |normal=>exact absurd rfl dw
    |_=>exact⟨dH,uW,this⟩
def Uo(P:Program)(fn:Func)(n:Nat)(R:Value->World->Prop):Exit->(Nat->Value)->World->Prop
 | .normal,ρ,w| .ret,ρ,w=>∀a,Fr n a ρ->∃v,(results fn a.tmps).run P w= .ok v w/\R v w
 |_,_,_=>False
def Ar{f:FuncId}{fn:Func}{c:Code}{args:List Value}{R:Value->World->Prop}(hf:P.funcs[f]? =aa fn)(hb:fn.body=aa c)(hn:args.length<=fn.ntmps)
 (h:∀ρ,(∀t v,args[t]? =aa v->ρ t=v)->yb P fn.ntmps c (Uo P fn fn.ntmps R) ρ w):
 Calls P f args.toArray w λe w'=>∃v,e= .returned v/\R v w':=by
 refine calls_of_wp hf hb ?_
 have kS:(args.toArray++Array.replicate (fn.ntmps-args.toArray.size) undef).size=fn.ntmps:=by simp;omega
 refine wp_mono (h (λt=>(args.toArray++Array.replicate (fn.ntmps-args.toArray.size) undef).getD t undef) ?_ _ ⟨kS,rfl,λt=>rfl⟩) λe a' w' ⟨dH,uW,hh⟩=>?_
 .intro t v hv;have aG:t<args.length:=(ajr.1 hv).1
  have dZ:args[t]=v:=by rw[ajb aG]at hv;exact aja hv
  simp[ajW,Array.getElem?_append,aG,dZ]
 .cases e with
  |normal=>exact⟨uW.defers,(hh a' uW).imp λv hv=>⟨hv.1,v,rfl,hv.2⟩⟩
  |ret=>exact⟨uW.defers,(hh a' uW).imp λv hv=>⟨hv.1,v,rfl,hv.2⟩⟩
  |_=>exact hh.elim
end
end
end Go.Proofs.YtleifhfeahnocaaGreatDoor
section
open _root_.Bool renaming false->ag,true->af
open _root_.Option renaming none->ae,some->aa
open _root_.List renaming append_nil->ajS,drop_of_length_le->ajX,nil_append->ajC
open _root_.Nat renaming zero_add->ajL
open _root_.Go.Sem renaming run_bind->ajw
namespace Go.Proofs.YtleifhfeahnocaaGreatDoor
open Go Go.RowKit
def qQ{α:Type}[BEq α][LawfulBEq α][DecidableEq α](a b:α):(a==b)=decide (a=b):=by
 grind
def run_equal_bool{P:Program}{t:TypeId}(ht:P.underlying t=aa .bool)(p q:Bool)(w:World):(Op.equal t (.bool p) (.bool q)).run P w= .ok (p==q) w:=by
 have h:∀d:Nat,(Op.equalIn (d+1) t (.bool p) (.bool q)).run P w= .ok (p==q) w:=λd=>by
  simp[Op.equalIn,run_underlying ht]
 exact h 9999
section
variable {P:Program} {ρ:Nat->Value} {d:Option Nat} {ty:TypeId} {pos:String} {aft:Array Edge} {x y c:Operand} {t u:TypeId} {k:IntKind} {a b:Int}
def Ib{v:Value}(h:ev ρ x=v):Pure P ρ ⟨d, .move x,ty,pos,aft,ae⟩ v:=λw=>by simp[execOp,h]
def B7{v:Value}(h:ev ρ x=v):Pure P ρ ⟨d, .assign x,ty,pos,aft,ae⟩ v:=λw=>by simp[execOp,h]
def wa{v:Value}(hc:ev ρ c= .bool af)(hx:ev ρ x=v):Pure P ρ ⟨d, .pick c x y,ty,pos,aft,ae⟩ v:=λw=>by
 simp[execOp,asBool,hc,hx]
def vz{v:Value}(hc:ev ρ c= .bool ag)(hy:ev ρ y=v):Pure P ρ ⟨d, .pick c x y,ty,pos,aft,ae⟩ v:=λw=>by
 simp[execOp,asBool,hc,hy]
def KN(hx:ev ρ x= .int k a)(hy:ev ρ y= .int k b):Pure P ρ ⟨d, .binOp .add t x y u,ty,pos,aft,ae⟩ (.int k (k.wrap (a+b))):=λw=>by
 simp[execOp,eqGuard,binOp,Op.intArith,hx,hy]
def KO(hx:ev ρ x= .int k a)(hy:ev ρ y= .int k b):Pure P ρ ⟨d, .binOp .sub t x y u,ty,pos,aft,ae⟩ (.int k (k.wrap (a-b))):=λw=>by
 simp[execOp,eqGuard,binOp,Op.intArith,hx,hy]
def KP(hx:ev ρ x= .int k a)(hy:ev ρ y= .int k b):Pure P ρ ⟨d, .binOp .mul t x y u,ty,pos,aft,ae⟩ (.int k (k.wrap (a*b))):=λw=>by
 simp[execOp,eqGuard,binOp,Op.intArith,hx,hy]
def KQ(hx:ev ρ x= .int k a)(hy:ev ρ y= .int k b)(hb:b≠0):Pure P ρ ⟨d, .binOp .quo t x y u,ty,pos,aft,ae⟩ (.int k (k.wrap (a.tdiv b))):=λw=>by
 simp[execOp,eqGuard,binOp,Op.intDiv,hx,hy,hb]
def KR(hx:ev ρ x= .int k a)(hy:ev ρ y= .int k b)(hb:b≠0):Pure P ρ ⟨d, .binOp .rem t x y u,ty,pos,aft,ae⟩ (.int k (a.tmod b)):=λw=>by
 simp[execOp,eqGuard,binOp,Op.intDiv,hx,hy,hb]
def KS(hx:ev ρ x= .int k a)(hy:ev ρ y= .int k b):Pure P ρ ⟨d, .binOp .lss t x y u,ty,pos,aft,ae⟩ (.bool (decide (a<b))):=λw=>by
 simp[execOp,eqGuard,binOp,Op.intCmp,hx,hy]
def KT(hx:ev ρ x= .int k a)(hy:ev ρ y= .int k b):Pure P ρ ⟨d, .binOp .leq t x y u,ty,pos,aft,ae⟩ (.bool (decide (a<=b))):=λw=>by
 simp[execOp,eqGuard,binOp,Op.intCmp,hx,hy]
def KU(hx:ev ρ x= .int k a)(hy:ev ρ y= .int k b):Pure P ρ ⟨d, .binOp .gtr t x y u,ty,pos,aft,ae⟩ (.bool (decide (b<a))):=λw=>by
 simp[execOp,eqGuard,binOp,Op.intCmp,hx,hy]
def KV(hx:ev ρ x= .int k a)(hy:ev ρ y= .int k b):Pure P ρ ⟨d, .binOp .geq t x y u,ty,pos,aft,ae⟩ (.bool (decide (b<=a))):=λw=>by
 simp[execOp,eqGuard,binOp,Op.intCmp,hx,hy]
def KW(hx:ev ρ x= .int k a)(hy:ev ρ y= .int k b):Pure P ρ ⟨d, .binOp .eql t x y u,ty,pos,aft,ae⟩ (.bool (decide (a=b))):=λw=>by
 simp[execOp,eqGuard,binOp,Op.intCmp,hx,hy,qQ]
def KX(hx:ev ρ x= .int k a)(hy:ev ρ y= .int k b):Pure P ρ ⟨d, .binOp .neq t x y u,ty,pos,aft,ae⟩ (.bool (!decide (a=b))):=λw=>by
 simp[execOp,eqGuard,binOp,Op.intCmp,hx,hy,bne,qQ]
def Ic{p q:Bool}(ht:P.underlying t=aa .bool)(hx:ev ρ x= .bool p)(hy:ev ρ y= .bool q):Pure P ρ ⟨d, .binOp .eql t x y u,ty,pos,aft,ae⟩ (.bool (decide (p=q))):=λw=>by
 have h:=run_equal_bool ht p q w;rw[qQ]at h;simp only[execOp,eqGuard,hx,hy];simp[binOp,h]
def Ie{p q:Bool}(ht:P.underlying t=aa .bool)(hx:ev ρ x= .bool p)(hy:ev ρ y= .bool q):Pure P ρ ⟨d, .binOp .neq t x y u,ty,pos,aft,ae⟩ (.bool (!decide (p=q))):=λw=>by
 have h:=run_equal_bool ht p q w;rw[qQ]at h;simp only[execOp,eqGuard,hx,hy];simp[binOp,h]
def bytes_beq(p q:ByteArray):(p.toList==q.toList)=decide (p=q):=by
 rw[qQ]
 congr 1
 rw[ByteArray.toList_eq,ByteArray.toList_eq];refine propext ⟨λh=>?_,λh=>by rw[h]⟩;cases p;cases q;simpa using h
def If{p q:ByteArray}(hx:ev ρ x= .string p)(hy:ev ρ y= .string q):Pure P ρ ⟨d, .binOp .eql t x y u,ty,pos,aft,ae⟩ (.bool (decide (p=q))):=λw=>by
 simp[execOp,eqGuard,binOp,Op.stringOp,hx,hy,bytes_beq]
def Ig{p q:ByteArray}(hx:ev ρ x= .string p)(hy:ev ρ y= .string q):Pure P ρ ⟨d, .binOp .neq t x y u,ty,pos,aft,ae⟩ (.bool (!decide (p=q))):=λw=>by
 simp[execOp,eqGuard,binOp,Op.stringOp,hx,hy,bytes_beq]
def KY{p:Bool}(hx:ev ρ x= .bool p):Pure P ρ ⟨d, .unOp .not t x,ty,pos,aft,ae⟩ (.bool !p):=λw=>by
 simp[execOp,Op.unary,hx]
def KZ(hx:ev ρ x= .int k a):Pure P ρ ⟨d, .unOp .neg t x,ty,pos,aft,ae⟩ (.int k (k.wrap (0-a))):=λw=>by
 simp[execOp,Op.unary,Op.intArith,hx]
def Ih{k':IntKind}{e:TypeDesc}(hs:P.underlying t=aa e)(hu:P.underlying u=aa (.int k'))(hx:ev ρ x= .int k a):Pure P ρ ⟨d, .convert t u x,ty,pos,aft,ae⟩ (.int k' (k'.wrap a)):=λw=>by
 simp[execOp,convert,run_underlying hs,run_underlying hu,hx,Conv.intToInt]
def K0{e:TypeId}{A:Option Addr}{n cap:Nat}{m:Nat}(hm:m=n)(ht:P.underlying t=aa (.slice e))(hx:ev ρ x= .slice A n cap):
 Pure P ρ ⟨d, .call {callee:= .builtin .len,args:= #[x],argTypes:= #[t]},ty,pos,aft,ae⟩ (.int .i64 (m:Int)):=λw=>by
 subst hm;simp[execOp,resolve,invoke,builtin,Builtin.len_,run_underlying ht,hx,goInt]
def Ii{s:ByteArray}(ht:P.underlying t=aa .string)(hx:ev ρ x= .string s):
 Pure P ρ ⟨d, .call {callee:= .builtin .len,args:= #[x],argTypes:= #[t]},ty,pos,aft,ae⟩ (.int .i64 (s.size:Int)):=λw=>by
 simp[execOp,resolve,invoke,builtin,Builtin.len_,run_underlying ht,hx,goInt]
def Ij{e:TypeId}(ht:P.underlying t=aa (.slice e))(hx:ev ρ x= .slice ae 0 0):
 Pure P ρ ⟨d, .call {callee:= .builtin .cap,args:= #[x],argTypes:= #[t]},ty,pos,aft,ae⟩ (.int .i64 0):=λw=>by
 simp[execOp,resolve,invoke,builtin,Builtin.cap_,run_underlying ht,hx,goInt]
def Ik{t':TypeId}(hx:ev ρ x= .int k a)(hy:ev ρ y= .int k b):
 Pure P ρ ⟨d, .call {callee:= .builtin .max,args:= #[x,y],argTypes:= #[t,t']},ty,pos,aft,ae⟩ (.int k (if a<b then b else a)):=λw=>by
 simp[execOp,resolve,invoke,builtin,Builtin.max_,Builtin.max2,hx,hy]
def Il{t':TypeId}(hx:ev ρ x= .int k a)(hy:ev ρ y= .int k b):
 Pure P ρ ⟨d, .call {callee:= .builtin .min,args:= #[x,y],argTypes:= #[t,t']},ty,pos,aft,ae⟩ (.int k (if b<a then b else a)):=λw=>by
 simp[execOp,resolve,invoke,builtin,Builtin.min_,Builtin.min2,hx,hy]
def As{vs:Array Value}{i:Nat}{v:Value}(hx:ev ρ x= .tuple vs)(hi:vs[i]? =aa v):Pure P ρ ⟨d, .extract x i,ty,pos,aft,ae⟩ v:=λw=>by
 simp[execOp,Instr.extract,hx,hi]
theorem dh(b o k:Nat):(⟨b,o,ae⟩:Addr).add k=⟨b,o+k,ae⟩:=by unfold Addr.add;grind
theorem wb{f:Nat}{fs:Array Field}{fd:Field}{ti:TypeInfo}{nG off:Nat}(k:Nat)(hs:P.underlying t=aa (.struct fs))(hf:fs[f]? =aa fd)(hi:P.info? fd.type=aa ti)(kS:ti.size≠0)(hk:fd.offset=k)
 (hx:ev ρ x= .pointer (aa ⟨nG,off,ae⟩)):Pure P ρ ⟨d, .fieldAddr t x f,ty,pos,aft,ae⟩ (.pointer (aa ⟨nG,off+k,ae⟩)):=λw=>by
 subst hk;simp[execOp,Instr.fieldAt,run_underlying hs,hf,Instr.sureAddr,fieldPlace,sizeOf,typeInfo,hi,kS,hx,dh]
def nI{e:TypeId}{ti:TypeInfo}{nG off n cap i:Nat}(size:Nat)(ht:P.underlying t=aa (.slice e))(hi:P.info? e=aa ti)(kS:ti.size=size)
 (hx:ev ρ x= .slice (aa ⟨nG,off,ae⟩) n cap)(hy:ev ρ y= .int k a)(ha:a=(i:Int))(aG:i<n):
 Pure P ρ ⟨d, .indexAddr t x y,ty,pos,aft,ae⟩ (.pointer (aa ⟨nG,off+i*size,ae⟩)):=λw=>by
 subst kS;subst ha;simp[execOp,Instr.indexAt,asIntOf,run_underlying ht,sizeOf,typeInfo,hi,hx,hy,aG,dh]
end
end Go.Proofs.YtleifhfeahnocaaGreatDoor
namespace Go.Proofs.YtleifhfeahnocaaGreatDoor
open Go Go.RowKit
inductive Path:Row->Row->Type where
 |here {r:Row}:Path r r
 |fst {a b s:Row} (p:Path a s):Path (.pair a b) s
 |snd {a b s:Row} (p:Path b s):Path (.pair a b) s
def Path.off:{r s:Row}->Path r s->Nat
 |_,_, .here=>0
 |_,_, .fst p=>p.off
 |_,_, .snd (a:=a) p=>a.size+p.off
@[reducible] def Path.get:{r s:Row}->Path r s->r.den->s.den
  |_,_, .here,x=>x
  |_,_, .fst p,x=>p.get x.1
  |_,_, .snd p,x=>p.get x.2
@[reducible] def Path.set:{r s:Row}->Path r s->r.den->s.den->r.den
  |_,_, .here,_,y=>y
  |_,_, .fst p,x,y=>(p.set x.1 y,x.2)
  |_,_, .snd p,x,y=>(x.1,p.set x.2 y)
section
variable {F:Nat->Prop} {w:World}
def Path.le:{r s:Row}->(p:Path r s)->p.off+s.size<=r.size
 |_,_, .here=>by simp[Path.off]
 |_,_, .fst p=>by have:=p.le;simp[Path.off];omega
 |_,_, .snd p=>by have:=p.le;simp[Path.off];omega
def cI.path:{r s:Row}->(p:Path r s)->{es:List Value}->{x:r.den}->cI F w r es x->cI F w s ((es.drop p.off).take s.size) (p.get x)
 |_,_, .here,es,x,h=>by
  have:=h.length;simp only[Path.off,List.drop_zero,Path.get]
  grind
 |_,s, .fst (a:=a) p,_,x,h=>by
  obtain⟨c1,c2,rfl,h1,h2⟩:=h;have hr:=cI.path p h1;have hle:=p.le;have hl:=h1.length;simp only[Path.off,Path.get]
  grind
 |_,s, .snd (a:=a) p,_,x,h=>by
  obtain⟨c1,c2,rfl,h1,h2⟩:=h;have hr:=cI.path p h2;have hl:=h1.length;simp only[Path.off,Path.get]
  grind [List.drop_append,ajX]
def cI.put:{r s:Row}->(p:Path r s)->{es vs:List Value}->{x:r.den}->{y:s.den}->cI F w r es x->cI F w s vs y->
 cI F w r (es.take p.off++vs++es.drop (p.off+s.size)) (p.set x y)
 |_,_, .here,es,vs,x,y,h,hv=>by
  have:=h.length;simp only[Path.off,Path.set,List.take_zero,ajC,ajL];rw[<-this,List.drop_length,ajS];exact hv
 |_,s, .fst (a:=a) p,_,vs,x,y,h,hv=>by
  obtain⟨c1,c2,rfl,h1,h2⟩:=h;have hr:=cI.put p h1 hv;have hle:=p.le;have hl:=h1.length;refine⟨_,c2,?_,hr,h2⟩;simp only[Path.off];rw[List.take_append_of_le_length (by omega),List.drop_append_of_le_length (by omega)];simp[List.append_assoc]
 |_,s, .snd (a:=a) p,_,vs,x,y,h,hv=>by
  obtain⟨c1,c2,rfl,h1,h2⟩:=h;have hr:=cI.put p h2 hv;have hl:=h1.length;refine⟨c1,_,?_,h1,hr⟩;simp only[Path.off]
  rw[<-hl,List.take_append,List.take_of_length_le (by omega),List.drop_append,ajX (by omega),show c1.length+p.off-c1.length=p.off from by omega,
   show c1.length+p.off+s.size-c1.length=p.off+s.size from by omega]
  simp[List.append_assoc]
def At.path{r s:Row}{b off:Nat}{x:r.den}(h:At F w r b off x)(p:Path r s)(k:Nat)(hk:p.off=k):At F w s b (off+k) (p.get x):=by
 subst hk;obtain⟨es,hl,hc,hr⟩:=h;have hp:=hr.path p;refine⟨_,hp.length,λj u hu=>?_,hp⟩
 grind
def Reads(F:Nat->Prop)(w:World)(r:Row)(v:Value)(l:List r.den):Prop:=
 ∃A cap,v= .slice A l.length cap/\l.length<=cap/\cap<=maxLen/\∀i(h:i<l.length),∃b off,A=aa ⟨b,off,ae⟩/\At F w r b (off+i*r.size) l[i]
def cI.reads{r:Row}{v:Value}{l:List r.den}(h:cI F w (.slice r) [v] l):Reads F w r v l:=by
 obtain⟨A,cap,h1,h2,h3,h4⟩:=h;refine⟨A,cap,by simpa using h1,h2,h3,λi hi=>?_⟩;obtain⟨b,off,es,hA,_,vy,hc,hr⟩:=h4 i hi;exact⟨b,off,hA,es,vy,hc,hr⟩
def idx{α:Type}(l:List α)(i:Int):Option α:=if 0<=i then l[i.toNat]? else ae
theorem iK{α:Type}{l:List α}{i:Int}{y:α}(h:idx l i=aa y):∃k:Nat,i=k/\∃hk:k<l.length,l[k]=y:=by
 grind [idx]
def Reads.elem{r:Row}{v:Value}{l:List r.den}(h:Reads F w r v l){i:Int}{y:r.den}(hi:idx l i=aa y):
 ∃b off cap k,v= .slice (aa ⟨b,off,ae⟩) l.length cap/\i=(k:Nat)/\k<l.length/\At F w r b (off+k*r.size) y:=by
 obtain⟨A,cap,hv,_,_,h4⟩:=h
 grind [iK]
end
section
variable {P:Program} {n:Nat} {ops:Array Oper} {K:(Nat->Value)->World->Prop} {rest:List Oper} {ρ:Nat->Value} {w:World} {F:Nat->Prop}
variable {d:Nat} {ty:TypeId} {pos:String} {aft:Array Edge} {x y:Operand} {t:TypeId}
def fJ:TypeDesc->Bool
 | .struct _| .array _ _=>af
 |_=>ag
def fN{D:TypeDesc}(hu:P.underlying t=aa D)(w:World):(isAgg t).run P w= .ok (fJ D) w:=by
 unfold isAgg;rw[ajw,run_underlying hu w]
 cases D<;>simp[fJ]
def yS{dd:Option Nat}{D:TypeDesc}{b off:Nat}{v:Value}(hu:P.underlying t=aa D)(hD:fJ D=ag)(hx:ev ρ x= .pointer (aa ⟨b,off,ae⟩))(hc:w.cell? ⟨b,off,ae⟩=aa v):
 (execOp (ev ρ) ⟨dd, .load t x,ty,pos,aft,ae⟩).run P w= .ok (.value v) w:=by
 simp[execOp,hx,Instr.loadAt,Instr.sureAddr,loadVar,ajw,fN hu,hD,hc,go_sem]
def Im{dd:Option Nat}{D:TypeDesc}{ti:TypeInfo}{b off:Nat}{es:List Value}(hu:P.underlying t=aa D)(hD:fJ D=af)(hi:P.info? t=aa ti)(hs:ti.size=es.length)
 (hx:ev ρ x= .pointer (aa ⟨b,off,ae⟩))(hc:∀j u,es[j]? =aa u->w.cell? ⟨b,off+j,ae⟩=aa u):
 (execOp (ev ρ) ⟨dd, .load t x,ty,pos,aft,ae⟩).run P w= .ok (.value (.agg es.toArray)) w:=by
 have hl:(loadCells ⟨b,off,ae⟩ es.length).run P w= .ok es.toArray w:=
  run_loadCells_list (P:=P) w ⟨b,off,ae⟩ es (λj v hv=>by rw[dh];exact hc j v hv)
 simp[execOp,hx,Instr.loadAt,Instr.sureAddr,loadVar,ajw,fN hu,hD,sizeOf,typeInfo,hi,hs,hl]
end
end Go.Proofs.YtleifhfeahnocaaGreatDoor
end
namespace Go.Proofs.YtleifhfeahnocaaGreatDoor
open Go Go.RowKit
set_option maxRecDepth 100000
set_option linter.unusedSimpArgs false
set_option linter.unusedVariables false
set_option linter.defProp false
section
structure Ext(g:Nat->Prop)(w w':World):Prop where
 os:w'.os=w.os
 tape:w'.tape=w.tape
 output:w'.output=w.output
 size:w.heap.size<=w'.heap.size
 block:∀k,k<w.heap.size->¬g k->w'.heap[k]? =w.heap[k]?
def Ext.K2{g:Nat->Prop}{a b:World}{row:Option Nat}(h:a.grownBy b row)(hs:∀k,row=aa k->g k):Ext g a b:=
 ⟨h.os,h.tape,h.output,h.size,λk hk hn=>h.block k hk λe=>hn (hs k e.symm)⟩
section
variable {w0 w w':World} {F0 F F':Nat->Prop} {g:Nat->Prop}
def Step.ext(he:Ext g w w')(hF:∀b,F b->b<w.heap.size)(hg:∀k,g k->¬F k):Step F w F w':=
 λb hb=>⟨hb,he.block b (hF b hb) λe=>hg b e hb⟩
def bH(v:Value)(k:Nat):Prop:=v.ownBlock=aa k
def is(b k:Nat):Prop:=k=b
def nX(w:World)(base:Nat)(e:TypeId)(size:Nat)(v:Value)(n:Nat)(xs:List Value):Prop:=
 xs.length=n*size/\
 ((v= .slice ae 0 0/\n=0)\/
  ∃g o0 cap cur,v= .slice (aa ⟨g,o0,ae⟩) n cap/\base<=g/\w.heap[g]? =aa (.cells cur e (0,0))/\n<=cap/\cap<=maxLen/\o0+cap*size<=cur.size/\(cur.toList.drop o0).take (n*size)=xs)
theorem nX.of{w:World}{base:Nat}{e:TypeId}{size:Nat}{v:Value}{n:Nat}{xs:List Value}(h:w.ownsRow base e size v n xs):nX w base e size v n xs:=by
 refine⟨h.1,?_⟩
 rcases h.2 with h|⟨g,cap,cur,hv,hb,hg,h1,h2,h3,h4⟩
 .exact .inl h
 .exact .inr ⟨g,0,cap,cur,hv,hb,hg,h1,h2,by omega,h4⟩
def Io(w:World)(base:Nat)(e:TypeId)(size:Nat):nX w base e size (.slice ae 0 0) 0 []:= .of (World.ownsRow_nil w base e size)
def nX.lt{w:World}{base:Nat}{e:TypeId}{size:Nat}{v:Value}{n:Nat}{xs:List Value}(h:nX w base e size v n xs):∀k,v.ownBlock=aa k->base<=k/\k<w.heap.size:=by
 intro k hk
 rcases h.2 with⟨rfl,_⟩|⟨g,o0,cap,cur,rfl,hb,hg,_⟩
 .cases hk
 .obtain rfl:g=k:=by simpa[ajo]using hk
  grind
def Own(base:Nat)(F:Nat->Prop)(w:World)(T:TypeId)(r:Row)(v:Value)(l:List r.den):Prop:=
 (∀k,bH v k->¬F k)/\∃xs,nX w base T r.size v l.length xs/\∀i(h:i<l.length),cI F w r ((xs.drop (i*r.size)).take r.size) l[i]
variable {base b:Nat} {T:TypeId} {r:Row}
def Own.lt{v:Value}{l:List r.den}(h:Own base F w T r v l):∀k,bH v k->k<w.heap.size:=by
 obtain⟨_,xs,h,_⟩:=h
 exact λk hk=>(h.lt k hk).2
def Own.no{v:Value}{l:List r.den}(h:Own base F w T r v l):∀k,bH v k->¬F k:=h.1
def Own.nil(base:Nat)(F:Nat->Prop)(w:World)(T:TypeId)(r:Row):Own base F w T r (.slice ae 0 0) []:=
 ⟨λk hk=>by simp[bH,ajo]at hk,[],Io _ _ _ _,λi h=>absurd h (by simp)⟩
def Own.reads{v:Value}{l:List r.den}(h:Own base F w T r v l):Reads F w r v l:=by
 obtain⟨_,xs,hx,h3⟩:=h;have hlen:=hx.1
 rcases hx.2 with⟨rfl,h0⟩|⟨gg,o0,cap,cur,rfl,hb,hg,h1,h2,rT,sF⟩
 .exact⟨ae,0,by rw[h0],by omega,by simp[maxLen],λi hi=>absurd hi (by omega)⟩
 .refine⟨_,cap,rfl,h1,h2,λi hi=>⟨gg,o0,rfl,_,(h3 i hi).length,λj u hu=>?_,h3 i hi⟩⟩
  grind [Go.cell_of_row]
def Own.freeze{v:Value}{l:List r.den}(h:Own base F w T r v l):cI (λb=>F b\/bH v b) w (.slice r) [v] l:=by
 obtain⟨A,cap,hv,h1,h2,h3⟩:=h.reads;refine⟨A,cap,by rw[hv],h1,h2,λi hi=>?_⟩;obtain⟨b,off,rfl,es,vy,hc,hr⟩:=h3 i hi;subst hv;exact⟨b,off,es,rfl, .inr (by simp[bH,ajo]),vy,hc,hr.step λb hb=>⟨.inl hb,rfl⟩⟩
@[reducible] def Row.zero:(r:Row)->r.den
  | .int _=>(0:Int)
  | .bool=>ag
  | .str=>ByteArray.empty
  | .slice _=>[]
  | .lZ=> .slice ae 0 0
  | .nul _=>()
  | .map .. =>[]
  | .pair a b=>(a.zero,b.zero)
def Row.dI:(r:Row)->List Value
 | .int k=>[.int k 0]
 | .bool=>[.bool ag]
 | .str=>[.string ByteArray.empty]
 | .slice _=>[.slice ae 0 0]
 | .lZ=>[.slice ae 0 0]
 | .nul k=>[k.val]
 | .map .. =>[.map ae]
 | .pair a b=>a.dI++b.dI
theorem cI.zero(F:Nat->Prop)(w:World):(r:Row)->cI F w r r.dI r.zero
 | .int _=>rfl
 | .bool=>rfl
 | .str=>rfl
 | .slice e=>cI.nil F w e
 | .lZ=>⟨rfl,ae,0,0,rfl⟩
 | .nul _=>rfl
 | .map .. =>⟨_,rfl, .inl ⟨rfl,rfl⟩⟩
 | .pair a b=>⟨_,_,rfl,cI.zero F w a,cI.zero F w b⟩
end
section
variable {P:Program} {n:Nat} {ops:Array Oper} {K:(Nat->Value)->World->Prop} {rest:List Oper} {ρ:Nat->Value} {w:World} {F:Nat->Prop} {base:Nat}
variable {d:Nat} {ty:TypeId} {pos:String} {aft:Array Edge} {x y:Operand} {t:TypeId}
def Ip{dd:Option Nat}{ti:TypeInfo}{z:Value}(hi:P.info? t=aa ti)(hz:ti.zero=aa z):
 (execOp (ev ρ) ⟨dd, .alloc t,ty,pos,aft,ae⟩).run P w= .ok (.value (.pointer (aa ⟨w.heap.size,0,ae⟩))) (w.alloc (.cells z.cells t)):=by
 simp[execOp,Instr.alloc,zeroValue,typeInfo,hi,hz,newVar,newRow]
def NZ{dd:Option Nat}{v:Value}(hx:ev ρ x=v):
 (execOp (ev ρ) ⟨dd, .box t x,ty,pos,aft,ae⟩).run P w= .ok (.value (.pointer (aa ⟨w.heap.size,0,ae⟩))) (w.alloc (.cells v.cells t)):=by
 simp[execOp,Instr.box,hx,newVar,newRow]
def pw{dd:Option Nat}{ti:TypeInfo}{b off:Nat}{cur:Array Value}{T:TypeId}{v:Value}{vs:List Value}(hi:P.info? t=aa ti)(hs:ti.size=vs.length)(hx:ev ρ x= .pointer (aa ⟨b,off,ae⟩))(hy:ev ρ y=v)
 (hv:v.cells.toList=vs)(h1:∀u∈vs,u.oneCell'=af)(hg:w.heap[b]? =aa (.cells cur T (0,0)))(hl:off+vs.length<=cur.size):
 (execOp (ev ρ) ⟨dd, .store t x y,ty,pos,aft,ae⟩).run P w= .ok .skip (w.setRow b (cur.toList.take off++vs++cur.toList.drop (off+vs.length)).toArray):=by
 have gD:=run_storeCells_at P b off T vs 0 cur w hg (by omega) h1
 have kS:v.cells.size=ti.size:=by rw[hs,<-hv];simp
 simp only[akj]at gD;simp[execOp,Instr.storeAt,Instr.sureAddr,storeVar,sizeOf,typeInfo,hi,kS,hx,hy,hv,gD]
def p6{α:Type}(m:Int)(z:α):Option (List α):=if 0<=m/\m<=4294967296 then aa (aji m.toNat z)else ae
def cu{α:Type}(l m:List α):Option (List α):=if l.length+m.length<=4294967296 then aa (l++m)else ae
theorem sG(z:Array Value)(m j:Nat)(hj:j<m)(hz:0<z.size):(madeCells z m).toList[j]? =z[j%z.size]? :=by
 have:j%z.size<z.size:=Nat.mod_lt _ hz;simp[madeCells,hj,this]
theorem B8(z:List Value)(m i:Nat)(hz:0<z.length)(hi:i<m):(((madeCells z.toArray (m*z.length)).toList.drop (i*z.length)).take z.length)=z:=by
 apply List.ext_getElem?
 intro j;rw[ake,aj9];split
 .rename_i hj;have hle:(i+1)*z.length<=m*z.length:=ajq _ hi
  grind [sG,Nat.add_mul_mod_self_right,Nat.mod_eq_of_lt]
 grind
def Reads.news{r:Row}{A:Option Addr}{cap m:Nat}{l:List r.den}(h:Reads F w r (.slice A m cap) l)(b off:Nat)(hA:A=aa ⟨b,off,ae⟩):
 ∃news:List Value,news.length=l.length*r.size/\(∀j u,news[j]? =aa u->w.cell? ⟨b,off+j,ae⟩=aa u)/\∀i(hi:i<l.length),cI F w r ((news.drop (i*r.size)).take r.size) l[i]:=by
 subst hA;obtain⟨A',ED,hv,_,_,h4⟩:=h;simp only[akn]at hv;obtain⟨rfl,_,_⟩:=hv;have qa:=r.size_pos
 have B5:∀j,j<l.length*r.size->∃u,w.cell? ⟨b,off+j,ae⟩=aa u:=by
  intro j hj;have hi:j/r.size<l.length:=Nat.div_lt_of_lt_mul (by rwa [Nat.mul_comm]);obtain⟨b',eE,qR,es,vy,hc,_⟩:=h4 _ hi;simp only[ajj,Addr.mk.injEq,and_true]at qR;obtain⟨rfl,rfl⟩:=qR
  have XC:j%r.size<es.length:=by rw[vy];exact Nat.mod_lt _ qa
  have:=hc (j%r.size) _ (ajb XC);rw[Nat.add_assoc,Nat.div_add_mod']at this;exact⟨_,this⟩
 have N0:∀j u,((ajY (l.length*r.size)).map λj=>(w.cell? ⟨b,off+j,ae⟩).getD undef)[j]? =aa u↔j<l.length*r.size/\w.cell? ⟨b,off+j,ae⟩=aa u:=by
  intro j u;by_cases hj:j<l.length*r.size
  .obtain⟨q,hq⟩:=B5 j hj;simp[hj,hq]
  .simp[hj]
 refine⟨(ajY (l.length*r.size)).map λj=>(w.cell? ⟨b,off+j,ae⟩).getD undef,by simp,λj u hu=>((N0 j u).1 hu).2,λi hi=>?_⟩;obtain⟨b',eE,qR,es,vy,hc,hr⟩:=h4 i hi;simp only[ajj,Addr.mk.injEq,and_true]at qR;obtain⟨rfl,rfl⟩:=qR
 have he:(((ajY (l.length*r.size)).map λj=>(w.cell? ⟨b,off+j,ae⟩).getD undef).drop (i*r.size)).take r.size=es:=by
  have hle:(i+1)*r.size<=l.length*r.size:=ajq _ hi;rw[akq]at hle
  apply List.ext_getElem?
  intro j;rw[ake,aj9];split
  .rename_i hj;rw[(N0 (i*r.size+j) (es[j]'(by omega))).2 ⟨by omega,by rw[<-Nat.add_assoc];exact hc j _ (ajb (by omega))⟩,ajb (by omega)]
  .rw[List.getElem?_eq_none (by omega)]
 rw[he];exact hr
def sH(w:World)(base:Nat)(t ty e:TypeId)(i:TypeInfo)(size:Nat)(ht:P.underlying t=aa (.slice e))(hi:P.info? e=aa i)
 (v:Value)(n:Nat)(xs:List Value)(eh:nX w base e size v n xs)(c:Nat):(akG #[t,t] ty #[v, .slice ae 0 c]).run P w= .ok v w:=by
 rcases eh.2 with⟨rfl,rfl⟩|⟨g,o0,cap,cur,rfl,_,_,Up,_⟩
 .simp[akG,run_underlying ht,sizeOf,typeInfo,hi,Builtin.lenOf,Builtin.firstCells]
 .simp[akG,run_underlying ht,sizeOf,typeInfo,hi,Builtin.lenOf,Builtin.firstCells,Up,storeCells]
def Au(w:World)(base:Nat)(t ty e:TypeId)(i:TypeInfo)(z:Value)(size bytes:Nat)(ht:P.underlying t=aa (.slice e))(hi:P.info? e=aa i)(hz:i.zero=aa z)
 (P2:i.size=size)(P5:i.bytes=bytes)(Uq:z.cells.size=size)(kS:0<size)
 (v:Value)(n:Nat)(xs:List Value)(eh:nX w base e size v n xs)
 (a:Addr)(m c:Nat)(news:List Value)(hl:news.length=m*size)(K3:∀j u,news[j]? =aa u->w.cell? (a.add j)=aa u)(h1:∀u∈news,u.oneCell'=af)
 (Yo:n+m<=maxLen)(K4:(n+m)*bytes<=140737488355328)(P7:base<=w.heap.size):
 ∃v' w',(akG #[t,t] ty #[v, .slice (aa a) m c]).run P w= .ok v' w'/\nX w' base e size v' (n+m) (xs++news)/\w.grownBy w' v.ownBlock/\
  (v'.ownBlock=v.ownBlock\/v'.ownBlock=aa w.heap.size):=by
 rcases eh.2 with⟨rfl,rfl⟩|⟨g,o0,cap,cur,rfl,hbg,hg,Up,Ur,rT,sF⟩
 .have hx:xs=[]:=List.eq_nil_of_length_eq_zero (by simpa using eh.1);subst hx;obtain⟨v',w',g1,g2,g3,_,g4⟩:=run_append_own_at (P:=P) w base t ty e i z size bytes ht hi hz P2 P5 Uq kS (.slice ae 0 0) 0 [] (World.ownsRow_nil w base e size) a m c news hl K3 h1 Yo K4 P7;exact⟨v',w',g1, .of g2,g3,g4⟩
 subst P2;subst P5
 have Yp:n+m<=9223372036854775807:=by simp only[maxLen]at Yo;omega
 have hlen:(xs++news).length=(n+m)*i.size:=by rw[List.length_append,eh.1,hl,akq]
 have hnm:n*i.size+news.length=(n+m)*i.size:=by rw[hl,akq]
 have ad0:n*i.size<=cap*i.size:=ajq _ Up;by_cases K5:n+m<=cap
 .have vA:(n+m)*i.size<=cap*i.size:=ajq _ K5;have hf:=run_firstCells_some (P:=P) w i.size m a m c news hl K3;have gD:=run_storeCells_at P g (o0+n*i.size) e news 0 cur w hg (by omega) h1;simp only[akj]at gD
  have hr:(akG #[t,t] ty #[.slice (aa ⟨g,o0,ae⟩) n cap, .slice (aa a) m c]).run P w=
   .ok (.slice (aa ⟨g,o0,ae⟩) (n+m) cap) (w.setRow g (cur.toList.take (o0+n*i.size)++news++cur.toList.drop (o0+n*i.size+news.length)).toArray):=by
   simp[akG,run_underlying ht,sizeOf,typeInfo,hi,Builtin.lenOf,K5,hf,Addr.add_lit,gD]
  refine⟨_,_,hr,⟨hlen, .inr ⟨g,o0,cap,_,rfl,hbg,setRow_heap w g cur _ e _ hg,K5,Ur,?_,?_⟩⟩,⟨rfl,rfl,rfl,by simp,λk _ hk=>setRow_other w g k _ (λe=>hk (by simp[ajo,e]))⟩,Or.inl rfl⟩
  all_goals grind
 .have holds:∀j u,xs[j]? =aa u->w.cell? ((⟨g,o0,ae⟩:Addr).add j)=aa u:=λj u hj=>by
   grind [dh,Go.cell_of_row]
  have hr:=run_append_grow (P:=P) w t ty e i z ht hi hz ⟨g,o0,ae⟩ n cap xs eh.1 holds a m c news hl K3 (by omega) (by omega) (growslice_fits (by omega) K4);have hge:=grownCap_ge w (n+m) cap e;have Yq:grownCap w (n+m) cap e<=maxLen:=grownCap_le_maxLen w (n+m) cap e Yo;refine⟨_,_,hr, .of ⟨hlen, .inr ⟨w.heap.size,_,_,rfl,P7,heap_alloc_new w.drew _,hge,Yq,?_,?_⟩⟩,⟨rfl,rfl,rfl,by simp,λk hk _=>heap_alloc_old w.drew _ hk⟩,Or.inr rfl⟩
  .simp only[Array.size_append,ako,size_zeroCells,Uq,eh.1,hl,<-akq]
   congr 1
   omega
  grind
def wc{e:TypeId}{ti:TypeInfo}{z:Value}{r:Row}{v u:Value}{l m out:List r.den}(ty:TypeId)(ht:P.underlying t=aa (.slice e))(hi:P.info? e=aa ti)(hz:ti.zero=aa z)(Q4:z.cells.toList=r.dI)(hs:ti.size=r.size)(P5:ti.bytes<=32768)
 (hv:Own base F w e r v l)(hu:Reads F w r u m)(hm:cu l m=aa out)(hF:∀b,F b->b<w.heap.size)(hb:base<=w.heap.size):
 ∃v' w',(akG #[t,t] ty #[v,u]).run P w= .ok v' w'/\Ext (bH v) w w'/\Own base F w' e r v' out/\(bH v'=bH v\/bH v'=(w.heap.size= ·)):=by
 unfold cu at hm;split at hm
 case isFalse=>cases hm
 rename_i hlen;obtain rfl:=aja hm
 have Uq:z.cells.size=r.size:=by rw[<-(cI.zero F w r).length,<-Q4];simp
 obtain⟨ND,xs,hx,h3⟩:=hv;have XD:=hu;obtain⟨A,cap,rfl,hmc,Ur,vy⟩:=hu
 have Us:∀(v':Value)(w':World)(news:List Value),news.length=m.length*r.size->(∀i(hi:i<m.length),cI F w r ((news.drop (i*r.size)).take r.size) m[i])->
  nX w' base e r.size v' (l.length+m.length) (xs++news)->w.grownBy w' v.ownBlock->(v'.ownBlock=v.ownBlock\/v'.ownBlock=aa w.heap.size)->
  Ext (bH v) w w'/\Own base F w' e r v' (l++m)/\(bH v'=bH v\/bH v'=(w.heap.size= ·)):=by
  intro v' _ news XE XF hZ hg ym
  have hm:bH v'=bH v\/bH v'=(w.heap.size= ·):=by
   rcases ym with h|h
   .exact .inl (by unfold bH;rw[h])
   .refine .inr ?_;funext b;unfold bH;rw[h];simp
  have bY:=Ext.K2 hg (g:=bH v) λk hk=>hk
  have nh:=Step.ext bY hF ND;refine⟨bY,⟨λk hk=>?_,xs++news,by simpa using hZ,λk hk=>?_⟩,hm⟩
  .rcases hm with h|h
   .rw[h]at hk;exact ND k hk
   .rw[h]at hk;intro hf;have:=hF k hf;omega
  .have K6:=hx.1
   rcases Nat.lt_or_ge k l.length with aG|hge
   .have hle:(k+1)*r.size<=l.length*r.size:=ajq _ aG;rw[akq]at hle;rw[ajM aG,List.drop_append_of_le_length (by omega),List.take_append_of_le_length (by rw[List.length_drop];omega)];exact(h3 k aG).step nh
   .have Iq:k-l.length<m.length:=by simp at hk;omega
    have hmul:k*r.size=l.length*r.size+(k-l.length)*r.size:=by rw[<-akq];congr 1;omega
    rw[ajU hge,List.drop_append,K6,ajX (by omega),ajC,show k*r.size-l.length*r.size=(k-l.length)*r.size from by omega];exact(XF _ Iq).step nh
 cases A with
 |none=>
  have Q5:m=[]:=by
   cases m with
   |nil=>rfl
   |cons a q=>obtain⟨b,off,h,_⟩:=vy 0 (by simp);cases h
  subst Q5;refine⟨v,w,sH w base t ty e ti r.size ht hi v _ xs hx _,?_⟩;exact Us v w [] (by simp) (λi hi=>absurd hi (by simp)) (by simpa using hx) ⟨rfl,rfl,rfl,ajh _,λ_ _ _=>rfl⟩ (.inl rfl)
 |some ad=>
  have key:∃news:List Value,news.length=m.length*r.size/\(∀j u,news[j]? =aa u->w.cell? (ad.add j)=aa u)/\∀i(hi:i<m.length),cI F w r ((news.drop (i*r.size)).take r.size) m[i]:=by
   cases m with
   |nil=>exact⟨[],by simp,λj u h=>by simp at h,λi hi=>absurd hi (by simp)⟩
   |cons a q=>
    obtain⟨b,off,h,_⟩:=vy 0 (by simp);obtain⟨news,h1,h2,h3⟩:=XD.news b off h
    obtain rfl:ad=⟨b,off,ae⟩:=by simpa using h
    exact⟨news,h1,λj u hj=>by rw[dh];exact h2 j u hj,h3⟩
  obtain⟨news,XE,Up,XF⟩:=key
  have l4:∀u∈news,u.oneCell'=af:=by
   intro u hu;obtain⟨j,hj,rfl⟩:=ajm hu;have qa:=r.size_pos;have hi:j/r.size<m.length:=Nat.div_lt_of_lt_mul (by rw[Nat.mul_comm,<-XE];exact hj);have hr:=XF _ hi;refine hr.kD _ ?_;have hle:(j/r.size)*r.size+j%r.size=j:=Nat.div_add_mod' j r.size;have aG:=Nat.mod_lt j qa;rw[List.mem_iff_getElem?];refine⟨j%r.size,?_⟩;rw[ake,aj aG,aj9,hle,ajb hj]
  obtain⟨v',w',bJ,hZ,hg,ym⟩:=Au (P:=P) w base t ty e ti z r.size ti.bytes ht hi hz hs rfl Uq r.size_pos v l.length xs hx ad m.length cap news XE Up l4 (by simp only[maxLen];omega)
   (ajs (Nat.mul_le_mul hlen P5) (by omega)) hb
  exact⟨v',w',bJ,Us v' w' news XE XF hZ hg ym⟩
end
end
end Go.Proofs.YtleifhfeahnocaaGreatDoor
section
open _root_.Bool renaming false->ag,true->af,false_eq_true->ajI
open _root_.Option renaming none->ae,some->aa
open _root_.List.cons renaming injEq->aj3
open _root_.List renaming drop_eq_getElem_cons->ajx,length_take->ajO,take_length->ajn
open _root_.Nat renaming add_zero->akj,beq->ajf,min_eq_left->akp
open _root_.Option.some renaming injEq->ajj
open _root_.Go.Result renaming andThen_ok->aj8
open _root_.Go.Sem renaming run_bind->ajw
namespace Go.Proofs.YtleifhfeahnocaaGreatDoor
open Go Go.RowKit
def bind_some{α β:Type}{o:Option α}{f:α->Option β}{r:β}(h:o.bind f=aa r):∃x,o=aa x/\f x=aa r:=Option.bind_eq_some_iff.1 h
section
variable {P:Program} {n:Nat} {ρ:Nat->Value} {w:World} {K:(Nat->Value)->World->Prop} {Q:Exit->(Nat->Value)->World->Prop}
def K7{id:Nat}(h:Q .normal ρ w):TS id Q (.exit id) ρ w:=by
 show(bif ajf id id then _ else _)
 simp_all
def Ir{id HY:Nat}(dw:ajf HY id=ag)(h:Q (.exit HY) ρ w):TS id Q (.exit HY) ρ w:=by
 show(bif ajf HY id then _ else _)
 grind
end
def TI(P:Program)(e:TypeId)(r:Row):Prop:=∃ti z,P.info? e=aa ti/\ti.zero=aa z/\z.cells.toList=r.dI/\ti.size=r.size/\ti.bytes<=32768
def TI.mk{P:Program}{e:TypeId}{r:Row}{k:Nat}(h:(P.info? e).map (λi=>(i.zero.map (λz=>z.cells.toList),i.size,decide (i.bytes<=32768)))=aa (aa r.dI,k,af))(hk:k=r.size):TI P e r:=by
 cases hi:P.info? e with
 |none=>simp[hi]at h
 |some ti=>
  simp only[hi,Option.map_some,ajj,Prod.mk.injEq,az]at h;obtain⟨h1,h2,h3⟩:=h
  cases hz:ti.zero with
  |none=>simp[hz]at h1
  |some z=>
   simp only[hz,Option.map_some,ajj]at h1;exact⟨ti,z,hi,hz,h1,h2.trans hk,h3⟩
section
variable {P:Program} {n:Nat} {ops:Array Oper} {K:(Nat->Value)->World->Prop} {rest:List Oper} {ρ:Nat->Value} {w:World} {F:Nat->Prop} {base:Nat}
variable {d:Nat} {dd:Option Nat} {ty:TypeId} {pos:String} {aft:Array Edge} {x y c:Operand} {t e:TypeId} {r:Row}
def nY{f:Nat}{fs:Array Field}{fd:Field}{nG off:Nat}(k:Nat)(hs:P.underlying t=aa (.struct fs))(hf:fs[f]? =aa fd)(hi:TI P fd.type r)(hk:fd.offset=k)
 (hx:ev ρ x= .pointer (aa ⟨nG,off,ae⟩)):Pure P ρ ⟨dd, .fieldAddr t x f,ty,pos,aft,ae⟩ (.pointer (aa ⟨nG,off+k,ae⟩)):=by
 obtain⟨ti,z,h1,_,_,h4,_⟩:=hi
 grind [wb,Row.size_pos]
end
end Go.Proofs.YtleifhfeahnocaaGreatDoor
namespace Go.Proofs.YtleifhfeahnocaaGreatDoor
open Go Go.RowKit
noncomputable def pT(r:Row)(x y:r.den):Bool:= @decide (x=y) (Row.decEq r x y)
def Av{r:Row}{x y:r.den}:pT r x y=af↔x=y:=by simp[pT]
def K8(P:Program)(t:TypeId)(cs:List Value)(v:Value):Prop:=∃D,P.underlying t=aa D/\(if fJ D=af then v= .agg cs.toArray else cs=[v])
def oF(P:Program)(t:TypeId)(r:Row)(K:Nat):Prop:=
 ∀(d:Nat)(w2 w:World)(F:Nat->Prop)(cs rE:List Value)(x y:r.den)(v v':Value),K8 P t cs v->K8 P t rE v'->cI F w r cs x->cI F w r rE y->
  (Op.equalIn (d+K) t v v').run P w2= .ok (decide (x=y)) w2
def N1(P:Program)(fs:List Field)(r:Row)(off K:Nat):Prop:=
 ∀(d:Nat)(w2 w:World)(F:Nat->Prop)(xs ys:List Value)(x y:r.den),cI F w r ((xs.drop off).take r.size) x->cI F w r ((ys.drop off).take r.size) y->
  (Op.eqFields (d+K) xs.toArray ys.toArray fs).run P w2= .ok (decide (x=y)) w2
section
variable {P:Program} {t:TypeId} {r:Row} {k:IntKind} {K:Nat}
def GJ(ht:P.underlying t=aa (.int k)):oF P t (.int k) 1:=by
 intro d w2 w F cs rE x y v v' ⟨D,hD,h1⟩ ⟨D',GK,h2⟩ hx hy;rw[ht]at hD GK;cases hD;cases GK;obtain rfl:cs=_:=hx;obtain rfl:rE=_:=hy;simp only[fJ,ajI,if_false,aj3,and_true]at h1 h2;subst h1;subst h2;rw[run_equalIn_int (h:=ht),qQ]
def sI{D:TypeDesc}{ti:TypeInfo}{cs:List Value}{off:Nat}{F:Nat->Prop}{w:World}{x:r.den}(hD:P.underlying t=aa D)(hi:P.info? t=aa ti)(hs:ti.size=r.size)(l4:fJ D=ag->r.size=1)
 (hr:cI F w r ((cs.drop off).take r.size) x)(w2:World):∃v,(part t cs.toArray off).run P w2= .ok v w2/\K8 P t ((cs.drop off).take r.size) v:=by
 have hl:=hr.length;have qa:=r.size_pos
 cases hA:fJ D with
 |true=>
  refine⟨.agg ((cs.drop off).take r.size).toArray,?_,D,hD,by rw[aj hA]⟩;unfold part;rw[ajw,fN hD,hA];simp[sizeOf,typeInfo,hi,hs]
 |false=>
  have h1:=l4 hA;rw[h1]at hl⊢
  have aG:off<cs.length:=by
   rw[ajO,List.length_drop]at hl;omega
  refine⟨cs[off],?_,D,hD,?_⟩
  .unfold part;rw[ajw,fN hD,hA];simp[aG]
  .rw[ai (by simp[hA])]
   grind [ajx]
def nJ{f:Field}{off:Nat}(hn:(f.name != "_")=af)(ho:f.offset=off){D:TypeDesc}(hD:P.underlying f.type=aa D)(l4:fJ D=ag->r.size=1)(hi:TI P f.type r)(he:oF P f.type r K):N1 P [f] r off K:=by
 intro d w2 w F xs ys x y hx hy;subst ho;obtain⟨ti,z,h1,_,_,h4,_⟩:=hi;obtain⟨v,hv,sJ⟩:=sI hD h1 h4 l4 hx w2;obtain⟨v',dZ,Is⟩:=sI hD h1 h4 l4 hy w2;have:=he d w2 w F _ _ x y v v' sJ Is hx hy
 have N2:f.name≠ "_" :=by simpa using hn
 unfold Op.eqFields;rw[aj N2,ajw,hv,aj8,ajw,dZ,aj8,ajw,this,aj8]
 by_cases rU:x=y<;>simp[rU,Op.eqFields]
def di{f:Field}{fs:List Field}{a b:Row}{off:Nat}(hn:(f.name != "_")=af)(ho:f.offset=off){D:TypeDesc}(hD:P.underlying f.type=aa D)(l4:fJ D=ag->a.size=1)(hi:TI P f.type a)(he:oF P f.type a K)
 (hr:N1 P fs b (off+a.size) K):N1 P (f::fs) (.pair a b) off K:=by
 intro d w2 w F xs ys x y hx hy;subst ho;obtain⟨ti,z,h1,_,_,h4,_⟩:=hi
 have hle:a.size<=(Row.pair a b).size:=by simp
 have gq:∀(zs:List Value)(u:(Row.pair a b).den),cI F w (.pair a b) ((zs.drop f.offset).take (Row.pair a b).size) u->cI F w a ((zs.drop f.offset).take a.size) u.1:=by
  intro zs u hu;have:=cI.path (.fst (.here (r:=a)):Path (.pair a b) a) hu;simp only[Path.off,List.drop_zero]at this;rw[List.take_take,akp hle]at this;exact this
 have we:∀(zs:List Value)(u:(Row.pair a b).den),cI F w (.pair a b) ((zs.drop f.offset).take (Row.pair a b).size) u->cI F w b ((zs.drop (f.offset+a.size)).take b.size) u.2:=by
  intro zs u hu;have:=cI.path (.snd (.here (r:=b)):Path (.pair a b) b) hu;simp only[Path.off,akj]at this;rw[List.drop_take,List.drop_drop]at this;rw[show(Row.pair a b).size-a.size=b.size from by simp]at this;rw[List.take_take,Nat.min_self]at this;exact this
 obtain⟨v,hv,sJ⟩:=sI hD h1 h4 l4 (gq xs x hx) w2;obtain⟨v',dZ,Is⟩:=sI hD h1 h4 l4 (gq ys y hy) w2;have h5:=he d w2 w F _ _ _ _ v v' sJ Is (gq xs x hx) (gq ys y hy);have h6:=hr d w2 w F xs ys _ _ (we xs x hx) (we ys y hy)
 have N2:f.name≠ "_" :=by simpa using hn
 unfold Op.eqFields;rw[aj N2,ajw,hv,aj8,ajw,dZ,aj8,ajw,h5,aj8];obtain⟨x1,x2⟩:=x;obtain⟨y1,y2⟩:=y;by_cases rU:x1=y1
 .simp only[rU,decide_true,Bool.not_true,ajI,if_false,h6]
  congr 1
  simp[Prod.ext_iff]
 .simp[rU,Prod.ext_iff]
def kT{fs:Array Field}(ht:P.underlying t=aa (.struct fs))(hp:P.stoodInHeld t=ag)(h:N1 P fs.toList r 0 K):oF P t r (K+1):=by
 intro d w2 w F cs rE x y v v' ⟨D,hD,h1⟩ ⟨D',GK,h2⟩ hx hy;rw[ht]at hD GK;cases hD;cases GK;simp only[fJ,if_true]at h1 h2;subst h1;subst h2
 have hf:P.fieldsOf t=fs:=by simp[Program.fieldsOf,ht]
 have Ut:=hx.length;have Yr:=hy.length;rw[<-Nat.add_assoc,run_equalIn_struct _ _ _ _ _ (by grind) hp,hf];exact h d w2 w F cs rE x y (by rw[List.drop_zero,<-Ut,ajn];exact hx) (by grind)
variable {ρ:Nat->Value} {dd:Option Nat} {ty:TypeId} {pos:String} {aft:Array Edge} {x y:Operand} {u:TypeId}
def It{d:Nat}{F:Nat->Prop}{w:World}{es oP:List Value}{a b:r.den}(hE:oF P t r K)(hd:d+K=10000)(hg:P.eqGuardType P.depth t=ag)(hD:(P.underlying t).any fJ=af)
 (hx:ev ρ x= .agg es.toArray)(hy:ev ρ y= .agg oP.toArray)(ha:cI F w r es a)(hb:cI F w r oP b):
 Pure P ρ ⟨dd, .binOp .eql t x y u,ty,pos,aft,ae⟩ (.bool (pT r a b)):=λw2=>by
 cases hu:P.underlying t with
 |none=>simp[hu]at hD
 |some D=>
  have hA:fJ D=af:=by simpa[hu]using hD
  have:=hE d w2 w F es oP a b _ _ ⟨D,hu,by rw[aj hA]⟩ ⟨D,hu,by rw[aj hA]⟩ ha hb;rw[hd]at this;simp only[execOp,hx,hy,ajw,run_eqGuard_agg _ _ _ _ _ _ _ hg,aj8,run_eql_struct,this];rfl
def Iu{d:Nat}{F:Nat->Prop}{w:World}{es oP:List Value}{a b:r.den}(hE:oF P t r K)(hd:d+K=10000)(hg:P.eqGuardType P.depth t=ag)(hD:(P.underlying t).any fJ=af)
 (hx:ev ρ x= .agg es.toArray)(hy:ev ρ y= .agg oP.toArray)(ha:cI F w r es a)(hb:cI F w r oP b):
 Pure P ρ ⟨dd, .binOp .neq t x y u,ty,pos,aft,ae⟩ (.bool (!pT r a b)):=λw2=>by
 cases hu:P.underlying t with
 |none=>simp[hu]at hD
 |some D=>
  have hA:fJ D=af:=by simpa[hu]using hD
  have:=hE d w2 w F es oP a b _ _ ⟨D,hu,by rw[aj hA]⟩ ⟨D,hu,by rw[aj hA]⟩ ha hb;rw[hd]at this;simp only[execOp,hx,hy,ajw,run_eqGuard_agg _ _ _ _ _ _ _ hg,aj8,run_neq_struct,this];rfl
end
section
variable {P:Program} {n:Nat} {ops:Array Oper} {K:(Nat->Value)->Prop} {rest:List Oper} {ρ:Nat->Value} {w:World} {F:Nat->Prop}
variable {d:Nat} {ty:TypeId} {pos:String} {aft:Array Edge} {x y:Operand} {t e:TypeId} {r:Row}
end
end Go.Proofs.YtleifhfeahnocaaGreatDoor
end
namespace Go.Proofs.YtleifhfeahnocaaGreatDoor
open Go Go.RowKit
set_option maxRecDepth 100000
set_option linter.unusedSimpArgs false
set_option linter.unusedVariables false
set_option linter.defProp false
section
def oF.lift{P:Program}{t:TypeId}{r:Row}{K:Nat}(h:oF P t r K)(m:Nat):oF P t r (K+m):=by
 intro d w2 w F cs rE x y v v' h1 h2 h3 h4;have:=h (d+m) w2 w F cs rE x y v v' h1 h2 h3 h4
 grind
section
variable {P:Program} {n:Nat} {ops:Array Oper} {K:(Nat->Value)->World->Prop} {rest:List Oper} {ρ:Nat->Value} {w:World} {F:Nat->Prop} {base:Nat}
variable {d:Nat} {ty:TypeId} {pos:String} {aft:Array Edge} {x y:Operand} {t e:TypeId} {r s:Row}
def b8{α:Type}(l:List α)(i:Int)(y:α):List α:=l.set i.toNat y
def Own.put{g o0 m0 Q6 q:Nat}{v:Value}{l:List r.den}(h:Own base F w e r v l)(hg:v= .slice (aa ⟨g,o0,ae⟩) m0 Q6)(hq:q<l.length)(hF:∀b,F b->b<w.heap.size)(p:Path r s){vs:List Value}{u:s.den}(hv:cI F w s vs u):
 ∃cur,w.heap[g]? =aa (.cells cur e (0,0))/\o0+q*r.size+p.off+vs.length<=cur.size/\
  Ext (bH v) w (w.setRow g (cur.toList.take (o0+q*r.size+p.off)++vs++cur.toList.drop (o0+q*r.size+p.off+vs.length)).toArray)/\
  Own base F (w.setRow g (cur.toList.take (o0+q*r.size+p.off)++vs++cur.toList.drop (o0+q*r.size+p.off+vs.length)).toArray) e r v (l.set q (p.set l[q] u)):=by
 obtain⟨ND,xs,⟨K6,hx⟩,h3⟩:=h
 rcases hx with⟨rfl,_⟩|⟨g',o1,cap,cur,rfl,hb,hh,h1,h2,rT,sF⟩
 .simp at hg
 .simp only[akn,ajj,Addr.mk.injEq,and_true]at hg;obtain⟨⟨rfl,rfl⟩,rfl,rfl⟩:=hg;have hle:=p.le;have hl:=hv.length;have hmul:(q+1)*r.size<=l.length*r.size:=ajq _ hq;rw[akq]at hmul;have vA:l.length*r.size<=cap*r.size:=ajq _ h1
  have bY:Ext (bH (.slice (aa ⟨g',o1,ae⟩) l.length cap)) w (w.setRow g' (cur.toList.take (o1+q*r.size+p.off)++vs++cur.toList.drop (o1+q*r.size+p.off+vs.length)).toArray):=
   ⟨rfl,rfl,rfl,by simp,λk _ hk=>setRow_other w g' k _ λe=>hk (by simp[bH,ajo,e])⟩
  have nh:=Step.ext bY hF ND;refine⟨cur,hh,by omega,bY,ND,xs.take (q*r.size+p.off)++vs++xs.drop (q*r.size+p.off+vs.length),⟨by simp;omega, .inr ⟨g',o1,cap,_,by simp,hb,setRow_heap w g' _ _ e (0,0) hh,by simpa using h1,h2,by simp;omega,?_⟩⟩,?_⟩
  .rw[List.length_set,List.toList_toArray,<-sF]
   have e0:(cur.toList.take (o1+q*r.size+p.off)++vs++cur.toList.drop (o1+q*r.size+p.off+vs.length)).drop o1=(cur.toList.drop o1).take (q*r.size+p.off)++vs++(cur.toList.drop o1).drop (q*r.size+p.off+vs.length):=by
    rw[List.append_assoc,List.drop_append_of_le_length (by simp;omega),List.drop_take,List.drop_drop,show o1+q*r.size+p.off-o1=q*r.size+p.off by omega,List.append_assoc,show o1+q*r.size+p.off+vs.length=o1+(q*r.size+p.off+vs.length) by omega]
   rw[e0]
   have yc:cap*r.size<=(cur.toList.drop o1).length:=by simp;omega
   generalize cur.toList.drop o1=c2 at*
   have e1:(c2.take (l.length*r.size)).take (q*r.size+p.off)=c2.take (q*r.size+p.off):=by rw[List.take_take,akp (by omega)]
   rw[e1,List.take_append,List.take_of_length_le (by simp;omega),List.drop_take]
   congr 1
   simp
   congr 1
   omega
  .intro i qS
   have hi:i<l.length:=by simpa using qS
   have Q7:(i+1)*r.size<=l.length*r.size:=ajq _ hi;rw[akq]at Q7
   have A:∀j,j<r.size->((xs.take (q*r.size+p.off)++vs++xs.drop (q*r.size+p.off+vs.length)))[i*r.size+j]? =
    if i*r.size+j<q*r.size+p.off then xs[i*r.size+j]? else if i*r.size+j<q*r.size+p.off+vs.length then vs[i*r.size+j-(q*r.size+p.off)]? else xs[i*r.size+j]? :=by
    intro j hj;rw[List.append_assoc,akP];simp only[ajO,K6,akp (show q*r.size+p.off<=l.length*r.size from by omega)];split
    .grind
    .rw[akP];split
     .grind
     .rename_i h1 h2;rw[ai (by omega),aj9]
      grind
   by_cases Ys:i=q
   .subst Ys;rw[List.getElem_set_self];have hp:=(h3 i hi).put p hv
    have:((xs.take (i*r.size+p.off)++vs++xs.drop (i*r.size+p.off+vs.length)).drop (i*r.size)).take r.size=
     ((xs.drop (i*r.size)).take r.size).take p.off++vs++((xs.drop (i*r.size)).take r.size).drop (p.off+s.size):=by
     have Uu:((xs.drop (i*r.size)).take r.size).length=r.size:=by rw[ajO,List.length_drop,K6];omega
     have Yt:∀j,j<r.size->((xs.drop (i*r.size)).take r.size)[j]? =xs[i*r.size+j]? :=(by grind)
     generalize(xs.drop (i*r.size)).take r.size=seg at Uu Yt
     apply List.ext_getElem?
     intro j;rw[akP (l₁:=seg.take p.off++vs),akP (l₁:=seg.take p.off),List.length_append,ajO,Uu,akp (show p.off<=r.size from by omega),ake (l:=List.drop _ _)];by_cases hj:j<r.size
     .rw[aj hj,aj9,A j hj];by_cases Yu:j<p.off
      .rw[aj (by omega),aj (by omega),aj Yu,ake,aj Yu,Yt j hj]
      .rw[ai (by omega)];by_cases XC:j<p.off+vs.length
       .rw[aj (by omega),aj XC,ai Yu]
        congr 1
        omega
       .rw[ai (by omega),ai XC,aj9,<-Yt j hj]
        congr 1
        omega
     .grind
    rw[this];exact hp.step nh
   .rw[List.getElem_set_ne (λe=>Ys e.symm)]
    have:((xs.take (q*r.size+p.off)++vs++xs.drop (q*r.size+p.off+vs.length)).drop (i*r.size)).take r.size=(xs.drop (i*r.size)).take r.size:=by
     apply List.ext_getElem?
     intro j;rw[ake,ake];by_cases hj:j<r.size
     .rw[aj hj,aj hj,aj9,A j hj,aj9]
      rcases Nat.lt_or_gt_of_ne Ys with aG|hgt
      .have:(i+1)*r.size<=q*r.size:=ajq _ aG
       grind
      .have:(q+1)*r.size<=i*r.size:=ajq _ hgt
       grind
     .grind
    rw[this];exact(h3 i hi).step nh
def Own.at{g o0 m0 Q6 q:Nat}{i:Int}{v:Value}{l:List r.den}{a:r.den}(h:Own base F w e r v l)(hg:v= .slice (aa ⟨g,o0,ae⟩) m0 Q6)(hq:i=(q:Nat))(qb:idx l i=aa a):At F w r g (o0+q*r.size) a:=by
 obtain⟨b,off,cap,k,hv,hk,aG,ym⟩:=h.reads.elem qb
 grind
def K9(cs:List Value):∀(k:Nat)(pre post:List Value),post.length=cs.length->∀(tail:List Value),
 (cs.zipIdx k).foldl (λ(acc:Array Value)(cj:Value×Nat)=>acc.setIfInBounds (pre.length-k+cj.2) cj.1) (pre++post++tail).toArray=(pre++cs++tail).toArray\/pre.length<k:=by
 induction cs with
 |nil=>simp_all
 |cons c q ih=>
  intro k pre post hp tail;by_cases hk:pre.length<k
  .exact .inr hk
  cases post with
  |nil=>simp at hp
  |cons p0 post=>
   simp only[List.zipIdx_cons,List.foldl_cons]
   rcases ih (k+1) (pre++[c]) post (by simpa using hp) tail with h|h
   all_goals simp_all
def yT{place:Nat->Option (Nat×Nat)}{i off size:Nat}{v:Value}{vs cells:List Value}{rest:List (Nat×Value)}(hp:place i=aa (off,size))(hv:v.cells.toList=vs)(hs:vs.length=size)(hle:off+size<=cells.length):
 Instr.fill place cells.toArray ((i,v)::rest)=Instr.fill place (cells.take off++vs++cells.drop (off+size)).toArray rest:=by
 have hvc:v.cells=vs.toArray:=by rw[<-hv,ajZ]
 have hf:=K9 vs 0 (cells.take off) ((cells.drop off).take size) (by simp;omega) (cells.drop (off+size))
 have EE:cells.take off++(cells.drop off).take size++cells.drop (off+size)=cells:=by
  rw[List.append_assoc,<-List.drop_drop,akx,akx]
 have hlen:(cells.take off).length=off:=by simp;omega
 rw[EE,hlen,Nat.sub_zero]at hf
 rcases hf with hf|hf
 case inr=>omega
 rw[Instr.fill]
 grind
inductive wg(F:Nat->Prop)(w:World)(r:Row):List Value->List r.den->Prop where
 |nil:wg F w r [] []
 |cons {v:Value} {vs:List Value} {cs:List Value} {a:r.den} {l:List r.den} (hc:v.cells.toList=cs) (hr:cI F w r cs a) (h:wg F w r vs l):wg F w r (v::vs) (a::l)
theorem wg.length{vs:List Value}{l:List r.den}(h:wg F w r vs l):vs.length=l.length:=by
 induction h<;>grind
def wg.fill{vs:List Value}{l:List r.den}(h:wg F w r vs l):∀(k:Nat)(pre post:List Value),pre.length=k*r.size->post.length=vs.length*r.size->
 ∃xs,Instr.fill (λi=>aa (i*r.size,r.size)) (pre++post).toArray ((vs.zipIdx k).map λp=>(p.2,p.1))=aa (pre++xs).toArray/\xs.length=l.length*r.size/\∀i(hi:i<l.length),cI F w r ((xs.drop (i*r.size)).take r.size) l[i]:=by
 induction h with
 |nil=>
  intro k pre post hp hq
  have:post=[]:=(by simp_all)
  subst this;exact⟨[],by simp[Instr.fill],by simp,λi hi=>absurd hi (by simp)⟩
 | @cons v vs cs a l hc hr h ih=>
   intro k pre post hp hq;have hl:=hr.length;rw[ajp,akq,Nat.one_mul]at hq;obtain⟨xs,h1,h2,h3⟩:=ih (k+1) (pre++cs) (post.drop r.size) (by grind) (by grind);refine⟨cs++xs,?_,by grind,λi hi=>?_⟩
   .simp only[List.zipIdx_cons,ajD];rw[yT (place:=λi=>aa (i*r.size,r.size)) rfl hc hl (by grind)];rw[<-hp,List.take_left',List.drop_append,ajX (by omega),ajC,show pre.length+r.size-pre.length=r.size from by omega]
    all_goals grind
   .cases i with
    |zero=>
     grind
    |succ i=>
     rw[akq,Nat.one_mul,Nat.add_comm,<-List.drop_drop,<-hl,List.drop_left',hl]
     all_goals grind
end
end
section
open Go Go.RowKit Go.ChangeShapes Go.WideShapes Go.ChangeAt Go.Deep
def WF:(r:Row)->r.den->Prop
 | .int k,n=>k.min<=n/\n<=k.max
 | .bool,_=>True
 | .str,s=>s.size<=maxLen
 | .slice e,l=>l.length<=maxLen/\∀x∈l,WF e x
 | .lZ,_=>True
 | .nul _,_=>True
 | .map ..,_=>True
 | .pair a b,x=>WF a x.1/\WF b x.2
def sK:(r:Row)->r.den->Nat
 | .int _,_=>1
 | .bool,_=>1
 | .str,s=>s.size+1
 | .slice e,l=>(l.map (sK e)).sum+1
 | .lZ,_=>1
 | .nul _,_=>1
 | .map ..,_=>1
 | .pair a b,x=>sK a x.1+sK b x.2
def pU{H:Type}:(l:List (DataW H))->Rows.uptoBulkAll l=(l.map Rows.uptoBulk).sum
 |[]=>by simp[Rows.uptoBulkAll]
 |a::l=>by simp[Rows.uptoBulkAll,pU l]
def here(w:World)(b:Nat):Prop:=b<w.heap.size
def dT(P:Program)(t:TypeId)(r:Row):Prop:=
 ∀(H:Type)(enc:TypeId×Value->H)(w:World)(spare:Nat->Bool)(held:Bool)(fuel:Nat)(cs:List Value)(x:DataW H×List MemPlace),DataW.trod enc P w 0 spare held fuel t cs=aa x->
  ∃y:r.den,cI (here w) w r cs y/\WF r y/\sK r y<=Rows.uptoBulk x.1
def vM(P:Program)(fs:List Field)(r:Row)(off:Nat):Prop:=
 ∀(H:Type)(enc:TypeId×Value->H)(w:World)(spare:Nat->Bool)(held:Bool)(n:Nat)(cs:List Value)(xs:List (DataW H×List MemPlace)),xs.length=fs.length->
  (∀(i:Nat)(f:Field),fs[i]? =aa f->DataW.trod enc P w 0 spare held n f.type ((cs.drop f.offset).take (P.cellsOf f.type))=xs[i]?)->off+r.size<=cs.length->
  ∃y:r.den,cI (here w) w r ((cs.drop off).take r.size) y/\WF r y/\sK r y<=Rows.uptoBulkAll (xs.map (·.1))
section
variable {P:Program} {t e:TypeId} {r a b:Row} {k:IntKind}
def Iv(ht:P.underlying t=aa (.int k)):dT P t (.int k):=by
 intro H enc w spare held fuel cs x h;obtain⟨n,rfl,rfl,hn⟩:=DataW.trod_int ht h;exact⟨n,rfl,by simpa[Lit.wf,WF]using hn,by simp[sK,Rows.uptoBulk]⟩
def yU(ht:P.underlying t=aa .string):dT P t .str:=by
 intro H enc w spare held fuel cs x h;obtain⟨s,rfl,rfl,hs⟩:=DataW.trod_string ht h;exact⟨s,rfl,hs,Nat.le_of_eq rfl⟩
def qc{α:Type}{p:Nat->α->Prop}:(n:Nat)->(∀i,i<n->∃x,p i x)->∃l:List α,l.length=n/\∀i(h:i<l.length),p i l[i]
 |0,_=>(by simp_all)
 |n+1,h=>by
  obtain⟨l,hl,hp⟩:=qc n λi hi=>h i (by omega)
  obtain⟨x,hx⟩:=h n (by omega);refine⟨l++[x],by simp[hl],λi hi=>?_⟩
  grind
def eF(ht:P.underlying t=aa (.slice e))(hs:P.cellsOf e=r.size)(he:dT P e r):dT P t (.slice r):=by
 intro H enc w spare held fuel cs x h
 rcases open_slice ht h with⟨rfl,rfl⟩|⟨ad,len,cap,m,n,D,Pl,rfl,_,hl,hm,Q8,rfl,hi⟩
 .exact⟨[],cI.nil _ _ _,⟨by simp[maxLen],λx hx=>absurd hx (by simp)⟩,by simp[sK,Rows.uptoBulk]⟩
 .have Yv:len<=m:=by rw[Q8];split<;>omega
  have key:∀i,i<len->∃y:r.den,∃rE,(rE.length=r.size/\(∀j,j<r.size->w.cell? ((ad.add (i*r.size)).add j)=rE[j]?))/\cI (here w) w r rE y/\WF r y/\sK r y<=Rows.uptoBulk (D i):=by
   intro i qS;obtain⟨rE,hc,htr⟩:=hi i (by omega);rw[hs]at hc;obtain⟨_,yV,yc⟩:=World.cells?_some hc;obtain⟨y,h1,h2,h3⟩:=he H enc w spare held n rE _ htr;exact(by grind)
  obtain⟨l,TT,hp⟩:=qc len key;subst TT;have qa:=r.size_pos;refine⟨l,⟨aa ad,cap,rfl,hl,hm,λi hi=>?_⟩,⟨by omega,λx hx=>?_⟩,?_⟩
  .obtain⟨rE,⟨yV,yc⟩,hr,_,_⟩:=hp i hi;obtain⟨XG,⟨yd,ye⟩,_⟩:=hp 0 (by omega);have h0:=ye 0 qa;rw[ajb (by omega)]at h0;simp only[Nat.zero_mul,Addr.add,if_true]at h0
   have tT:ad.spot=ae:=by
    cases tT:ad.spot with
    |none=>rfl
    |some q=>
     unfold aj0 at h0
     grind
   obtain⟨bb,off,sp⟩:=ad;simp only at tT;subst tT;refine⟨bb,off,rE,rfl,block_lt_of_cell h0,yV,λj u hu=>?_,hr⟩
   grind [dh]
  .grind [ajm]
  .simp only[sK,Rows.uptoBulk,pU]
   have:∀(n:Nat),n<=l.length->((l.take n).map (sK r)).sum<=(((ajY n).map D).map Rows.uptoBulk).sum:=by
    intro n hn
    induction n with
    |zero=>simp
    |succ n ih=>
     have h1:=ih (by omega);obtain⟨_,_,_,_,h3⟩:=hp n (by omega)
     grind [List.take_succ_eq_append_getElem,List.range_succ]
   grind
def cN{f:Field}{off:Nat}(ho:f.offset=off)(hc:P.cellsOf f.type=r.size)(he:dT P f.type r):vM P [f] r off:=by
 intro H enc w spare held n cs xs hl hx _;subst ho
 match xs,hl with
 |[x],_=>
  have h:=hx 0 f rfl;rw[hc]at h;obtain⟨y,h1,h2,h3⟩:=he H enc w spare held n _ x h
  grind [Rows.uptoBulkAll]
def aN{f:Field}{fs:List Field}{off:Nat}(ho:f.offset=off)(hc:P.cellsOf f.type=a.size)(he:dT P f.type a)(hr:vM P fs b (off+a.size)):vM P (f::fs) (.pair a b) off:=by
 intro H enc w spare held n cs xs hl hx hle;subst ho
 match xs,hl with
 |x::xs,hl=>
  have h:=hx 0 f rfl;rw[hc]at h;obtain⟨y,h1,h2,h3⟩:=he H enc w spare held n _ x h;simp only[Row.size]at hle;obtain⟨z,g1,g2,g3⟩:=hr H enc w spare held n cs xs (by simpa using hl) (λi f' hf=>by simpa using hx (i+1) f' (by simpa using hf)) (by omega);refine⟨(y,z),⟨_,_,?_,h1,g1⟩,⟨h2,g2⟩,by grind [sK,Rows.uptoBulkAll]⟩
  grind [Row.size,List.drop_drop]
def cw{fs:Array Field}(ht:P.underlying t=aa (.struct fs))(hc:P.cellsOf t=r.size)(h:vM P fs.toList r 0):dT P t r:=by
 intro H enc w spare held fuel cs x hx;obtain⟨xs,n,_,rfl,hlen,K6,hf⟩:=DataW.trod_struct ht hx;rw[hc]at hlen;obtain⟨y,h1,h2,h3⟩:=h H enc w spare held n cs xs (by simpa using K6) (by grind) (by omega)
 grind [Rows.uptoBulk]
variable {H:Type} {enc:TypeId×Value->H} {w:World} {base:Nat} {spare:Nat->Bool} {held:Bool} {v:Value} {d:DataW H} {ps:List MemPlace}
def Iw(ht:P.underlying t=aa (.slice e))(ho:dT P t (.slice r))(hv:Value.okWide P w .any base t v)(h:DataW.Trod enc P w 0 spare held t v d ps):
 ∃l:List r.den,cI (here w) w (.slice r) [v] l/\WF (.slice r) l/\sK (.slice r) l<=Rows.uptoBulk d:=by
 obtain⟨a0,len,cap,rfl⟩:=okWide_slice ht hv;obtain⟨fuel,hf⟩:=h;exact ho H enc w spare held fuel _ _ hf
def rV{fs:Array Field}(ht:P.underlying t=aa (.struct fs))(ho:dT P t r)(hv:Value.okWide P w .any base t v)(h:DataW.Trod enc P w 0 spare held t v d ps):
 ∃(es:List Value)(x:r.den),v= .agg es.toArray/\cI (here w) w r es x/\WF r x/\sK r x<=Rows.uptoBulk d:=by
 obtain⟨cs,rfl,_⟩:=okWide_struct ht hv;obtain⟨fuel,hf⟩:=h;obtain⟨x,h1,h2,h3⟩:=ho H enc w spare held fuel _ _ hf;exact⟨cs.toList,x,by simp,by simpa[Value.cells]using h1,h2,h3⟩
def rF(hl:laidOutB P=af){W W':World}(hb:Below W.heap.size W W'){sp:Nat->Bool}:(ts:List TypeId)->(vs:List Value)->(ds:List (DataW H))->(ps:List MemPlace)->
 (∀t∈ts,(P.readableRec t&&ajK t P.types.size)=af)->DataW.TrodAll enc P W 0 (λ_=>af) af ts vs ds ps->(∀x∈ps,x.block<W.heap.size)->(∀x∈ps,sp x.block=af)->DataW.TrodAll enc P W' 0 sp af ts vs ds ps
 |[],[],[],_,_,h,_,_=>h
 |t::ts,v::vs,d::ds,ps,hr,h,aG,tT=>by
  obtain⟨p,q,h1,h2,rfl⟩:=h;have ht:=hr t (by simp);simp only[akd,Nat.blt_eq]at ht
  exact⟨p,q,WideElems.Trod_stays hl ht.1 ht.2 h1 (λx hx=>hb.same (aG x (by simp[hx]))) (λx hx=>tT x (by simp[hx])),
   rF hl hb ts vs ds q (λt ht=>hr t (by simp[ht])) h2 (λx hx=>aG x (by simp[hx])) (λx hx=>tT x (by simp[hx])),rfl⟩
def yo{f:Func}{s:ChangeSpec}{apart fresh handsOn again:Bool}{W W':World}{args:Array Value}{v:Value}{ds gs:List (DataW H)}{before pa pv:List MemPlace}
 (hW:DataW.Whole enc P f.params.toList s.vars apart W args.toList ds gs before)
 (B9:∀(b:Nat)(sp:Nat->Bool)(hd:Bool),DataW.TrodAll enc P W' b sp hd f.resultTypes.toList (v.resultList f.resultTypes.size) (s.fn H (ds++gs)).results [])
 (GL:∀sp:Nat->Bool,(∀p∈before,sp p.block=af)->DataW.TrodAll enc P W' 0 sp af f.params.toList args.toList (s.fn H (ds++gs)).args pa)
 (P9:∀sp:Nat->Bool,(∀p∈before,sp p.block=af)->DataW.TrodVars enc P W' sp s.vars (s.fn H (ds++gs)).vars pv)
 (hps:before=pa++pv)(hb:Below W.heap.size W W')
 (sL:∀(j:Nat)(t:TypeId)(r:Value),f.resultTypes[j]? =aa t->(v.resultList f.resultTypes.size)[j]? =aa r->Value.okWide P W' .any 0 t r):
 s.post enc P f apart fresh handsOn again W args v W':=by
 have aG:∀p∈before,p.block<W.heap.size:=λp hp=>hW.lt p hp
 have hold:∀p∈before,(λb=>decide (b<W.heap.size)) p.block=af:=λp hp=>by grind
 refine⟨ds,gs,before,[],pa,pv,hW,B9 _ _ _,GL _ hold,P9 _ hold,World.keptBut_mono (λp hp=>⟨hp,?_⟩) (hb.frame (· ∈before)),λ_=>?_⟩
 .grind
 .obtain⟨_,_,_,_,_,hz,hn⟩:=hW;refine⟨sL,_,_,([]++pa)++pv,⟨[]++pa,pv,trodAll_append (GL _ (λ_ _=>rfl)) (B9 _ _ _),P9 _ (λ_ _=>rfl),rfl,?_,?_⟩,?_⟩
  .intro b off hp
   have cT:MemPlace.cell b off∈before:=by rw[hps];simpa using hp
   rw[hb.frozen (aG _ cT)];exact hz b off cT
  all_goals grind
end
end
section
def gq{α:Type}(l:List α)(a b:Int):Option (List α):=if 0<=a/\a<=b/\b<=l.length then aa ((l.take b.toNat).drop a.toNat)else ae
def we{α:Type}(l:List α)(a b c:Int):Option (List α):=if c=(l.length:Int)then gq l a b else ae
variable {F:Nat->Prop} {w:World} {r:Row}
def cI.cut{A:Option Addr}{cap:Nat}{l:List r.den}{a b:Nat}(h:cI F w (.slice r) [.slice A l.length cap] l)(h1:a<=b)(h2:b<=l.length):
 cI F w (.slice r) [sliced A a b cap r.size] ((l.take b).drop a):=by
 obtain⟨A',ED,hv,hc,hm,hs⟩:=h;simp only[aj3,akn,and_true,true_and]at hv;obtain⟨rfl,rfl⟩:=hv
 have hlen:((l.take b).drop a).length=b-a:=by simp;omega
 refine⟨_,cap-a,by rw[hlen];rfl,by omega,by omega,λi hi=>?_⟩
 have qS:a+i<l.length:=by omega
 grind [dh]
def cI.tight{A:Option Addr}{cap:Nat}{l:List r.den}(h:cI F w (.slice r) [.slice A l.length cap] l):
 cI F w (.slice r) [.slice A l.length l.length] l:=by
 obtain⟨A',ED,hv,hc,hm,hs⟩:=h;simp only[aj3,akn,and_true,true_and]at hv;obtain⟨rfl,rfl⟩:=hv;exact⟨_,_,rfl,ajh _,by omega,hs⟩
section
variable {P:Program} {n:Nat} {ops:Array Oper} {K:(Nat->Value)->World->Prop} {rest:List Oper} {ρ:Nat->Value}
variable {d:Nat} {ty:TypeId} {pos:String} {aft:Array Edge} {x y z:Operand} {t e:TypeId}
def GM{t e:TypeId}(ht:P.underlying t=aa (.slice e)):P.underlying t=aa (.slice (P.elem t)):=by
 simp[Program.elem,ht]
inductive Qa(ρ:Nat->Value):Option Operand->Option Int->Prop
 |none:Qa ρ ae ae
 |some {x:Operand} {k:IntKind} {i:Int} (h:ev ρ x= .int k i):Qa ρ (aa x) (aa i)
def vN{ti:TypeInfo}{A:Option Addr}{len cap:Nat}{lo hi:Option Operand}{a b:Option Int}(ht:P.underlying t=aa (.slice e))(qS:P.info? e=aa ti)(hx:ev ρ x= .slice A len cap)
 (ha:Qa ρ lo a)(hb:Qa ρ hi b)(h0:0<=a.getD 0)(h1:a.getD 0<=b.getD len)(h2:b.getD len<=len)(hc:len<=cap):
 (execOp (ev ρ) ⟨aa d, .slice t x lo hi ae,ty,pos,aft,ae⟩).run P w= .ok (.value (sliced A (a.getD 0).toNat (b.getD len).toNat cap ti.size)) w:=by
 have BW:=GM ht
 have he:P.elem t=e:=by simp[Program.elem,ht]
 cases ha with
 |none=>
  cases hb with
  |none=>
   have:=run_slice_all (P:=P) (w:=w) t A len cap BW;simp[execOp,hx,run_sliceAt_slice (P:=P) w t _ _ _ _ BW,this,he,sizeOf,typeInfo,qS]
  |some hh=>
   rename_i xb kb ib;have:=run_slice_h (P:=P) (w:=w) t A len cap BW kb ib (by simpa using h1) (by grind);simp[execOp,hx,hh,run_sliceAt_slice (P:=P) w t _ _ _ _ BW,this,he,sizeOf,typeInfo,qS]
 |some hl=>
  rename_i xa ka ia
  cases hb with
  |none=>
   have:=run_slice_l (P:=P) (w:=w) t A len cap BW ka ia (by simpa using h0) (by simpa using h1);simp[execOp,hx,hl,run_sliceAt_slice (P:=P) w t _ _ _ _ BW,this,he,sizeOf,typeInfo,qS]
  |some hh=>
   rename_i xb kb ib;have:=run_slice_lh (P:=P) (w:=w) t A len cap BW ka kb ia ib (by simpa using h0) (by simpa using h1) (by grind);simp[execOp,hx,hl,hh,run_sliceAt_slice (P:=P) w t _ _ _ _ BW,this,he,sizeOf,typeInfo,qS]
def La{ti:TypeInfo}{A:Option Addr}{len cap:Nat}{lo:Option Operand}{a:Option Int}{kb km:IntKind}{b c:Int}(ht:P.underlying t=aa (.slice e))(qS:P.info? e=aa ti)(hx:ev ρ x= .slice A len cap)
 (ha:Qa ρ lo a)(hb:ev ρ y= .int kb b)(hm:ev ρ z= .int km c)(h0:0<=a.getD 0)(h1:a.getD 0<=b)(h2:b<=c)(hc:c<=cap):
 (execOp (ev ρ) ⟨aa d, .slice t x lo (aa y) (aa z),ty,pos,aft,ae⟩).run P w= .ok (.value (sliced A (a.getD 0).toNat b.toNat c.toNat ti.size)) w:=by
 have BW:=GM ht
 have he:P.elem t=e:=by simp[Program.elem,ht]
 cases ha with
 |none=>
  have:=run_slice_hm (P:=P) (w:=w) t A len cap BW kb km b c (by simpa using h1) h2 hc;simp[execOp,hx,hb,hm,run_sliceAt_slice (P:=P) w t _ _ _ _ BW,this,he,sizeOf,typeInfo,qS]
 |some hl=>
  rename_i xa ka ia;have:=run_slice_lhm (P:=P) (w:=w) t A len cap BW ka kb km ia b c (by simpa using h0) (by simpa using h1) h2 hc;simp[execOp,hx,hl,hb,hm,run_sliceAt_slice (P:=P) w t _ _ _ _ BW,this,he,sizeOf,typeInfo,qS]
def qT{α:Type}{l m:List α}{a b:Int}(h:gq l a b=aa m):∃p q:Nat,a=p/\b=q/\p<=q/\q<=l.length/\m=(l.take q).drop p:=by
 grind [gq]
end
end
abbrev pV:Row:= .int .i64
def GN:List (Nat×((r:Row)×r.den)):=[(0,⟨.pair pV (.pair pV (.pair pV (.pair pV (.pair pV (.pair pV (.pair pV (.pair pV (.pair pV (.pair pV (.pair pV pV)))))))))),(31,28,31,30,31,30,31,31,30,31,30,31)⟩)]
section
inductive DR where
 |leaf (r:Row)
 |sl (T:TypeId) (d:DR)
 |pair (a b:DR)
@[reducible] def DR.row:DR->Row
  | .leaf r=>r
  | .sl _ d=> .slice d.row
  | .pair a b=> .pair a.row b.row
@[reducible] def DR.low:DR->Row
  | .leaf r=>r
  | .sl _ _=> .lZ
  | .pair a b=> .pair a.low b.low
theorem DR.size:(d:DR)->d.low.size=d.row.size
 | .leaf _=>rfl
 | .sl _ _=>rfl
 | .pair a b=>by show a.low.size+b.low.size=a.row.size+b.row.size;rw[a.size,b.size]
inductive gL:DR->DR->Type where
 |here {d:DR}:gL d d
 |fst {a b e:DR} (p:gL a e):gL (.pair a b) e
 |snd {a b e:DR} (p:gL b e):gL (.pair a b) e
def gL.lo:{d e:DR}->gL d e->Path d.low e.low
 |_,_, .here=> .here
 |_,_, .fst p=> .fst p.lo
 |_,_, .snd p=> .snd p.lo
def gL.hi:{d e:DR}->gL d e->Path d.row e.row
 |_,_, .here=> .here
 |_,_, .fst p=> .fst p.hi
 |_,_, .snd p=> .snd p.hi
def DR.path:(d:DR)->List Bool->Option ((e:DR)×gL d e)
 |d,[]=>aa ⟨d, .here⟩
 | .pair a b,c::p=>match c with
   |false=>match a.path p with
    |some ⟨e,q⟩=>aa ⟨e, .fst q⟩
    |none=>ae
   |true=>match b.path p with
    |some ⟨e,q⟩=>aa ⟨e, .snd q⟩
    |none=>ae
 |_,_::_=>ae
def l5(F:Nat->Prop)(w:World)(T:TypeId)(r:Row)(v:Value)(l:List r.den):Prop:=
 ∃xs,nX w 0 T r.size v l.length xs/\∀i(h:i<l.length),cI F w r ((xs.drop (i*r.size)).take r.size) l[i]
structure oQ(Ss:Nat->Nat->Prop)(n:Nat)(m:Nat->Prop)(S:Nat->Prop):Prop where
 all:∀k,S k↔m k\/∃i,i<n/\Ss i k
 two:∀i j k,i<n->j<n->i≠j->Ss i k->¬Ss j k
 out:∀i k,i<n->Ss i k->¬m k
structure sD(A B S:Nat->Prop):Prop where
 all:∀k,S k↔A k\/B k
 off:∀k,A k->¬B k
def Ix{α:Type}(F:Nat->Prop)(w:World)(T:TypeId)(r:Row)(rel:Nat->r.den->α->(Nat->Prop)->Prop)(u:Value)(l:List α)(S:Nat->Prop):Prop:=
 ∃(lh:List r.den)(Ss:Nat->Nat->Prop),l5 F w T r u lh/\lh.length=l.length/\(∀i(h1:i<lh.length)(h2:i<l.length),rel i lh[i] l[i] (Ss i))/\oQ Ss l.length (bH u) S
def lr(F:Nat->Prop)(w:World):(d:DR)->d.low.den->d.row.den->(Nat->Prop)->Prop
 | .leaf _,x',x,S=>x'=x/\∀k,¬S k
 | .sl T d,u,l,S=>Ix F w T d.low (λ_=>lr F w d) u l S
 | .pair a b,x',x,S=>∃A B,lr F w a x'.1 x.1 A/\lr F w b x'.2 x.2 B/\sD A B S
def oG(F:Nat->Prop)(w:World):{d e:DR}->gL d e->d.low.den->d.row.den->(Nat->Prop)->Prop
 |_,_, .here,_,_,S=>∀k,¬S k
 |_,_, .fst (b:=b) p,x',x,S=>∃A B,oG F w p x'.1 x.1 A/\lr F w b x'.2 x.2 B/\sD A B S
 |_,_, .snd (a:=a) p,x',x,S=>∃A B,lr F w a x'.1 x.1 A/\oG F w p x'.2 x.2 B/\sD A B S
section
variable {F F':Nat->Prop} {w w':World} {T:TypeId} {S:Nat->Prop}
def l5.keep{r:Row}{v:Value}{l:List r.den}(h:l5 F w T r v l)(hs:Step F w F' w')(hb:∀k,bH v k->w'.heap[k]? =w.heap[k]?):l5 F' w' T r v l:=by
 obtain⟨xs,⟨Yw,GO⟩,h3⟩:=h;refine⟨xs,⟨Yw,?_⟩,λi hi=>(h3 i hi).step hs⟩
 rcases GO with h2|⟨gg,o0,cap,cur,rfl,qR,hg,rest⟩
 .exact .inl h2
 .exact .inr ⟨gg,o0,cap,cur,rfl,qR,(hb gg rfl).trans hg,rest⟩
def l5.lt{r:Row}{v:Value}{l:List r.den}(h:l5 F w T r v l):∀k,bH v k->k<w.heap.size:=by
 obtain⟨xs,h,_⟩:=h
 exact λk hk=>(h.lt k hk).2
def l5.one{r:Row}{v:Value}{l:List r.den}(h:l5 F w T r v l):v.oneCell'=af:=by
 obtain⟨xs,⟨_,h⟩,_⟩:=h
 rcases h with⟨rfl,_⟩|⟨gg,o0,cap,cur,rfl,_⟩<;>rfl
def l5.nil(F:Nat->Prop)(w:World)(T:TypeId)(r:Row):l5 F w T r (.slice ae 0 0) []:=(Own.nil 0 F w T r).2
def sD.left{A B:Nat->Prop}(h:sD A B S):∀k,A k->S k:=λk hk=>(h.all k).2 (.inl hk)
def sD.right{A B:Nat->Prop}(h:sD A B S):∀k,B k->S k:=λk hk=>(h.all k).2 (.inr hk)
def oQ.bH{Ss:Nat->Nat->Prop}{n:Nat}{m:Nat->Prop}(h:oQ Ss n m S):∀k,m k->S k:=λk hk=>(h.all k).2 (.inl hk)
def oQ.part{Ss:Nat->Nat->Prop}{n:Nat}{m:Nat->Prop}(h:oQ Ss n m S){i:Nat}(hi:i<n):∀k,Ss i k->S k:=λk hk=>(h.all k).2 (.inr ⟨i,hi,hk⟩)
def Ix.mono{α:Type}{r:Row}{rel Uv:Nat->r.den->α->(Nat->Prop)->Prop}{u:Value}{l:List α}(h:Ix F w T r rel u l S)(hs:Step F w F' w')(hb:∀k,S k->w'.heap[k]? =w.heap[k]?)
 (hr:∀i x'(hi:i<l.length)A,(∀k,A k->S k)->rel i x' l[i] A->Uv i x' l[i] A):Ix F' w' T r Uv u l S:=by
 obtain⟨lh,Ss,h1,h2,h3,h4⟩:=h;exact⟨lh,Ss,h1.keep hs λk hk=>hb k (h4.bH k hk),h2,λi a b=>hr i _ b _ (h4.part b) (h3 i a b),h4⟩
def lr.keep(hs:Step F w F' w'):{d:DR}->{x':d.low.den}->{x:d.row.den}->{S:Nat->Prop}->lr F w d x' x S->(∀k,S k->w'.heap[k]? =w.heap[k]?)->lr F' w' d x' x S
 | .leaf _,_,_,_,h,_=>h
 | .sl T d,u,l,S,h,hb=>Ix.mono (show Ix F w T d.low _ u l S from h) hs hb λi x' hi A hA hr=>lr.keep hs hr λk hk=>hb k (hA k hk)
 | .pair a b,_,_,_,h,hb=>by
   obtain⟨A,B,h1,h2,h3⟩:=h;exact⟨A,B,h1.keep hs λk hk=>hb k (h3.left k hk),h2.keep hs λk hk=>hb k (h3.right k hk),h3⟩
def oG.keep(hs:Step F w F' w'):{d e:DR}->{p:gL d e}->{x':d.low.den}->{x:d.row.den}->{S:Nat->Prop}->oG F w p x' x S->(∀k,S k->w'.heap[k]? =w.heap[k]?)->oG F' w' p x' x S
 |_,_, .here,_,_,_,h,_=>h
 |_,_, .fst p,_,_,_,h,hb=>by
  obtain⟨A,B,h1,h2,h3⟩:=h;exact⟨A,B,oG.keep hs h1 λk hk=>hb k (h3.left k hk),h2.keep hs λk hk=>hb k (h3.right k hk),h3⟩
 |_,_, .snd p,_,_,_,h,hb=>by
  obtain⟨A,B,h1,h2,h3⟩:=h;exact⟨A,B,h1.keep hs λk hk=>hb k (h3.left k hk),oG.keep hs h2 λk hk=>hb k (h3.right k hk),h3⟩
def lr.lt:{d:DR}->{x':d.low.den}->{x:d.row.den}->{S:Nat->Prop}->lr F w d x' x S->∀k,S k->k<w.heap.size
 | .leaf _,_,_,_,h,k,hk=>absurd hk (h.2 k)
 | .sl T d,u,l,S,h,k,hk=>by
   obtain⟨lh,Ss,h1,h2,h3,h4⟩:=h
   rcases(h4.all k).1 hk with hm|⟨i,hi,hm⟩
   .exact h1.lt k hm
   .exact lr.lt (h3 i (by omega) hi) k hm
 | .pair a b,_,_,_,h,k,hk=>by
   obtain⟨A,B,h1,h2,h3⟩:=h
   rcases(h3.all k).1 hk with hm|hm
   .exact lr.lt h1 k hm
   .exact lr.lt h2 k hm
def lr.freeze:{d:DR}->{cs:List Value}->{x':d.low.den}->{x:d.row.den}->{S:Nat->Prop}->lr F w d x' x S->(∀k,S k->¬F k)->cI F w d.low cs x'->cI (λb=>F b\/S b) w d.row cs x
 | .leaf _,_,_,_,S,h,_,hr=>by
   obtain⟨rfl,_⟩:=h
   simp_all
 | .sl T d,cs,u,l,S,h,hn,hr=>by
   obtain⟨lh,Ss,⟨xs,hx,Qb⟩,h2,h3,h4⟩:=h;obtain⟨rfl,_⟩:=hr
   have EF:Own 0 (λb=>F b\/∃i,i<l.length/\Ss i b) w T d.row u l:=by
    refine⟨λk hk hF=>?_,xs,?_,λi hi=>?_⟩
    .rcases hF with hF|⟨i,hi,hm⟩
     .exact hn k (h4.bH k hk) hF
     .exact h4.out i k hi hm hk
    .rw[<-d.size,<-h2];exact hx
    .have qS:i<lh.length:=by omega
     have:=lr.freeze (h3 i qS hi) (λk hk=>hn k (h4.part hi k hk)) (Qb i qS);rw[<-d.size]
     exact this.step λb hb=>(by grind)
   exact EF.freeze.step (r:= .slice d.row) λb hb=>⟨by
    rcases hb with(hb|⟨i,hi,hb⟩)|hb
    .exact .inl hb
    .exact .inr (h4.part hi b hb)
    .exact .inr (h4.bH b hb),rfl⟩
 | .pair a b,_,_,_,S,h,hn,hr=>by
   obtain⟨A,B,h1,h2,h3⟩:=h;obtain⟨c1,c2,rfl,r1,r2⟩:=hr;exact⟨c1,c2,rfl,(lr.freeze h1 (λk hk=>hn k (h3.left k hk)) r1).step λb hb=>⟨hb.imp id (h3.left b),rfl⟩,(lr.freeze h2 (λk hk=>hn k (h3.right k hk)) r2).step λb hb=>⟨hb.imp id (h3.right b),rfl⟩⟩
def lr.out:{d e:DR}->(p:gL d e)->{x':d.low.den}->{x:d.row.den}->{S:Nat->Prop}->lr F w d x' x S->∃A B,lr F w e (p.lo.get x') (p.hi.get x) A/\oG F w p x' x B/\sD A B S
 |_,_, .here,_,_,S,h=>⟨S,λ_=>False,h,λ_ h=>h,⟨λk=>by simp,λ_ _ h=>h⟩⟩
 |_,_, .fst p,_,_,S,h=>by
  obtain⟨A,B,h1,h2,h3⟩:=h;obtain⟨A1,A2,g1,g2,g3⟩:=lr.out p h1;refine⟨A1,λk=>A2 k\/B k,g1,⟨A2,B,g2,h2,λk=>Iff.rfl,λk hk=>h3.off k (g3.right k hk)⟩,λk=>?_,λk hk hh=>?_⟩
  .rw[h3.all,g3.all,or_assoc]
  .exact hh.elim (g3.off k hk) (h3.off k (g3.left k hk))
 |_,_, .snd p,_,_,S,h=>by
  obtain⟨A,B,h1,h2,h3⟩:=h;obtain⟨B1,B2,g1,g2,g3⟩:=lr.out p h2;refine⟨B1,λk=>A k\/B2 k,g1,⟨A,B2,h1,g2,λk=>Iff.rfl,λk hk hh=>h3.off k hk (g3.right k hh)⟩,λk=>?_,λk hk hh=>?_⟩
  .rw[h3.all,g3.all];grind
  .exact hh.elim (λhh=>h3.off k hh (g3.left k hk)) (g3.off k hk)
def oG.put:{d e:DR}->(p:gL d e)->{x':d.low.den}->{x:d.row.den}->{y':e.low.den}->{y:e.row.den}->{A B S:Nat->Prop}->oG F w p x' x B->lr F w e y' y A->sD A B S->lr F w d (p.lo.set x' y') (p.hi.set x y) S
 |_,_, .here,_,_,y',y,A,B,S,h,hy,h3=>by
  have:A=S:=by
   funext k;exact propext ⟨λhk=>h3.left k hk,λhk=>((h3.all k).1 hk).elim id λhb=>absurd hb (h k)⟩
  subst this;exact hy
 |_,_, .fst p,x',x,y',y,A,B,S,h,hy,h3=>by
  obtain⟨A2,B2,g1,g2,g3⟩:=h
  have t1:sD A A2 (λk=>A k\/A2 k):=⟨λ_=>Iff.rfl,λk hk h2=>h3.off k hk (g3.left k h2)⟩
  refine⟨λk=>A k\/A2 k,B2,oG.put p g1 hy t1,g2,λk=>?_,λk hk h2=>?_⟩
  .rw[h3.all,g3.all,or_assoc]
  .exact hk.elim (λhk=>h3.off k hk (g3.right k h2)) λhk=>g3.off k hk h2
 |_,_, .snd p,x',x,y',y,A,B,S,h,hy,h3=>by
  obtain⟨A2,B2,g1,g2,g3⟩:=h
  have t1:sD A B2 (λk=>A k\/B2 k):=⟨λ_=>Iff.rfl,λk hk h2=>h3.off k hk (g3.right k h2)⟩
  refine⟨A2,λk=>A k\/B2 k,g1,oG.put p g2 hy t1,λk=>?_,λk hk h2=>?_⟩
  .rw[h3.all,g3.all];grind
  .exact h2.elim (λh2=>h3.off k h2 (g3.left k hk)) λh2=>g3.off k hk h2
end
end
section
inductive Tree where
 |leaf (r:Row) (x:r.den)
 |own (o:Nat)
 |nil
 |pair (a b:Tree)
 |view (o s:Nat) (r:Row) (m:List r.den)
 |junk (n:Nat)
structure wh where
 i:Int
 p:List Bool
 o:Nat
 s:Nat
inductive Th where
 |box (T:TypeId) (t:Tree)
 |own (T:TypeId) (r:Row) (l:List r.den)
 |vB (T:TypeId) (r:Row) (l:List r.den)
 |map (T:TypeId) (K:Row) (agg:Bool) (V:Row) (l:List (K.den×V.den))
 |fmap (T:TypeId) (K:Row) (agg:Bool) (V:Row) (l:List (K.den×V.den))
 |deep (T:TypeId) (d:DR) (l:List d.row.den) (h:Option wh)
 |fdeep (T:TypeId) (d:DR) (l:List d.row.den)
 |dmap (T:TypeId) (K:Row) (E:TypeId) (r:Row) (l:List (K.den×List r.den)) (h:Option (K.den×Nat))
 |fdmap (T:TypeId) (K:Row) (E:TypeId) (r:Row) (l:List (K.den×List r.den))
def Th.base:Th->Th
 | .vB T r l=> .own T r l
 | .fmap T K agg V l=> .map T K agg V l
 | .fdeep T d l=> .deep T d l ae
 | .fdmap T K E r l=> .dmap T K E r l ae
 |t=>t
inductive aI where
 |dead
 |undef
 |val (agg:Bool) (t:Tree)
 |ptr (o:Nat) (p:List Bool) (off:Nat)
 |at (r:Row) (x:r.den)
 |elem (o s:Nat) (r:Row) (i:Int) (x:r.den) (p:List Bool) (off:Nat)
 |tup (ds:List (Bool×Tree))
 |dlm (o:Nat) (d:DR) (i:Int) (p:List Bool) (off:Nat)
 |fn (f:FuncId) (caps:List (Nat×List Bool×Nat))
 |ifc (T:TypeId) (d:aI)
structure aK where
 val:Nat->Option Value
 con:Nat->Option Th
 sub:Nat->Nat->Prop
structure aK.le(H H':aK):Prop where
 val:∀o v,H.val o=aa v->H'.val o=aa v
 con:∀s t,H.con s=aa t->H'.con s=aa t
 sub:∀s t,H.con s=aa t->H'.sub s=H.sub s
def aK.le.refl(H:aK):H.le H:=⟨λ_ _ h=>h,λ_ _ h=>h,λ_ _ _=>rfl⟩
def aK.le.trans{H H' yp:aK}(h:H.le H')(k:H'.le yp):H.le yp:=⟨λo v e=>k.val o v (h.val o v e),λo v e=>k.con o v (h.con o v e),λs t e=>(k.sub s t (h.con s t e)).trans (h.sub s t e)⟩
def mX(H:aK)(o s:Nat)(r:Row)(m:List r.den)(v:Value):Prop:=
 ∃A cap T,∃l:List r.den,∃a b,H.val o=aa (.slice A l.length cap)/\H.con s=aa (.own T r l)/\a<=b/\b<=l.length/\m=(l.take b).drop a/\v=sliced A a b cap r.size
def mX.keep{H H':aK}(hH:H.le H'){o s:Nat}{r:Row}{m:List r.den}{v:Value}(h:mX H o s r m v):mX H' o s r m v:=by
 obtain⟨A,cap,T,l,a,b,h1,h2,h3⟩:=h;exact⟨A,cap,T,l,a,b,hH.val _ _ h1,hH.con _ _ h2,h3⟩
def mX.back{H H' yp:aK}(hH:H.le H')(EG:H.le yp){o s:Nat}{r:Row}{m:List r.den}{v0 v:Value}(h0:mX H o s r m v0)(h:mX H' o s r m v):mX yp o s r m v:=by
 obtain⟨A,cap,T,l,a,b,h1,h2,_⟩:=h0;obtain⟨A',ED,T',l',a',b',k1,k2,k3⟩:=h;have e1:=hH.val _ _ h1;have e2:=hH.con _ _ h2;rw[k1]at e1;rw[k2]at e2;simp only[ajj,Th.own.injEq,heq_eq_eq,true_and]at e2;obtain⟨rfl,rfl⟩:=e2;exact⟨A',ED,T',l',a',b',by rw[e1];exact EG.val _ _ h1,EG.con _ _ h2,k3⟩
def mX.one{H:aK}{o s:Nat}{r:Row}{m:List r.den}{v:Value}(h:mX H o s r m v):v.oneCell'=af:=by
 obtain⟨A,cap,T,l,a,b,_,_,_,_,_,rfl⟩:=h;simp[sliced,akt]
def mh(H:aK):List (Nat×List Bool×Nat)->List Value->Prop
 |[],vs=>vs=[]
 |c::cs,vs=>∃v us,vs=v::us/\(∃b,H.val c.1=aa (.pointer (aa ⟨b,0,ae⟩))/\v= .pointer (aa ⟨b,c.2.2,ae⟩))/\mh H cs us
def mh.keep{H H':aK}(hH:∀o v,H.val o=aa v->H'.val o=aa v):{cs:List (Nat×List Bool×Nat)}->{vs:List Value}->mh H cs vs->mh H' cs vs
 |[],_,h=>h
 |_::_,_,h=>by obtain⟨v,us,e,⟨b,h1,h2⟩,h3⟩:=h;exact⟨v,us,e,⟨b,hH _ _ h1,h2⟩,h3.keep hH⟩
def Holds(H:aK)(F:Nat->Prop)(w:World):Tree->List Value->Prop
 | .leaf r x,cs=>cI F w r cs x
 | .own o,cs=>∃v,H.val o=aa v/\v.oneCell'=af/\cs=[v]
 | .nil,cs=>cs=[.slice ae 0 0]
 | .pair a b,cs=>∃c1 c2,cs=c1++c2/\Holds H F w a c1/\Holds H F w b c2
 | .view o s r m,cs=>∃v,cs=[v]/\mX H o s r m v
 | .junk n,cs=>cs.length=n/\∀u∈cs,u.oneCell'=af
def Tree.size:Tree->Nat
 | .leaf r _=>r.size
 | .own _=>1
 | .nil=>1
 | .pair a b=>a.size+b.size
 | .view .. =>1
 | .junk n=>n
def aV(H:aK)(F:Nat->Prop)(w:World)(agg:Bool)(t:Tree)(v:Value):Prop:=
 ∃cs,Holds H F w t cs/\v=(bif agg then .agg cs.toArray else cs.headD undef)/\(agg=ag->cs=[v])
def sM(H:aK)(F:Nat->Prop)(w:World):List (Bool×Tree)->List Value->Prop
 |[],vs=>vs=[]
 |d::ds,vs=>∃v us,vs=v::us/\aV H F w d.1 d.2 v/\sM H F w ds us
def aH(H:aK)(F:Nat->Prop)(w:World):aI->Value->Prop
 | .dead,_=>True
 | .undef,v=>v=Go.undef
 | .val agg t,v=>aV H F w agg t v
 | .ptr o _ off,v=>∃b,H.val o=aa (.pointer (aa ⟨b,0,ae⟩))/\v= .pointer (aa ⟨b,off,ae⟩)
 | .at r x,v=>∃b off,v= .pointer (aa ⟨b,off,ae⟩)/\F b/\At F w r b off x
 | .elem o s r i x _ off,v=>∃g o0 q T m cap l,H.val o=aa (.slice (aa ⟨g,o0,ae⟩) m cap)/\i=(q:Nat)/\H.con s=aa (.own T r l)/\idx l i=aa x/\v= .pointer (aa ⟨g,o0+q*r.size+off,ae⟩)
 | .tup ds,v=>∃vs,v= .tuple vs.toArray/\sM H F w ds vs
 | .dlm o d i _ off,v=>∃g o0 q m cap,H.val o=aa (.slice (aa ⟨g,o0,ae⟩) m cap)/\i=(q:Nat)/\v= .pointer (aa ⟨g,o0+q*d.low.size+off,ae⟩)
 | .fn f caps,v=>∃vs,v= .func (.func f) #[] vs.toArray/\mh H caps vs
 | .ifc T d,v=>∃u,v= .iface T u/\aH H F w d u
section
variable {H H':aK} {F F':Nat->Prop} {w w':World}
theorem Holds.length:{t:Tree}->{cs:List Value}->Holds H F w t cs->cs.length=t.size
 | .leaf _ _,_,h=>cI.length h
 | .own _,_,h=>by obtain⟨v,_,_,rfl⟩:=h;rfl
 | .nil,_,h=>by rw[show _=_ from h];rfl
 | .pair a b,_,h=>by obtain⟨c1,c2,rfl,h1,h2⟩:=h;simp[h1.length,h2.length,Tree.size]
 | .view ..,_,h=>by obtain⟨v,rfl,_⟩:=h;rfl
 | .junk _,_,h=>h.1
def Holds.kD:{t:Tree}->{cs:List Value}->Holds H F w t cs->∀u∈cs,u.oneCell'=af
 | .leaf _ _,_,h=>cI.kD h
 | .own _,_,h=>by obtain⟨v,_,h1,rfl⟩:=h;simpa using h1
 | .nil,_,h=>by rw[show _=_ from h];simp[akt]
 | .pair a b,_,h=>by
   obtain⟨c1,c2,rfl,h1,h2⟩:=h;intro u hu
   rcases ajt.1 hu with h'|h'
   .exact h1.kD u h'
   .exact h2.kD u h'
 | .view ..,_,h=>by obtain⟨v,rfl,h⟩:=h;simpa using h.one
 | .junk _,_,h=>h.2
def Holds.keep(hH:H.le H')(hs:Step F w F' w'):{t:Tree}->{cs:List Value}->Holds H F w t cs->Holds H' F' w' t cs
 | .leaf _ _,_,h=>cI.step hs h
 | .own _,_,h=>by obtain⟨v,h0,h1,rfl⟩:=h;exact⟨v,hH.val _ _ h0,h1,rfl⟩
 | .nil,_,h=>h
 | .pair a b,_,h=>by obtain⟨c1,c2,rfl,h1,h2⟩:=h;exact⟨c1,c2,rfl,h1.keep hH hs,h2.keep hH hs⟩
 | .view ..,_,h=>by obtain⟨v,rfl,h⟩:=h;exact⟨v,rfl,h.keep hH⟩
 | .junk _,_,h=>h
def Holds.back{yp:aK}{w0:World}{F0:Nat->Prop}(hH:H.le H')(EG:H.le yp):{t:Tree}->{XG cs:List Value}->Holds H F0 w0 t XG->Holds H' F w t cs->Holds yp F w t cs
 | .leaf _ _,_,_,_,h=>h
 | .own _,_,_,h0,h=>by
   obtain⟨v,a0,_,_⟩:=h0;obtain⟨u,b0,b1,rfl⟩:=h;have:=hH.val _ _ a0;rw[b0]at this;obtain rfl:=aja this;exact⟨u,EG.val _ _ a0,b1,rfl⟩
 | .nil,_,_,_,h=>h
 | .pair a b,_,_,h0,h=>by
   obtain⟨_,_,_,a1,a2⟩:=h0;obtain⟨c1,c2,rfl,h1,h2⟩:=h;exact⟨c1,c2,rfl,Holds.back (w0:=w0) (F0:=F0) hH EG a1 h1,Holds.back (w0:=w0) (F0:=F0) hH EG a2 h2⟩
 | .view ..,_,_,h0,h=>by
   obtain⟨_,_,h0⟩:=h0;obtain⟨v,rfl,h⟩:=h;exact⟨v,rfl,h0.back hH EG h⟩
 | .junk _,_,_,_,h=>h
def aV.keep{agg:Bool}{t:Tree}{v:Value}(hH:H.le H')(hs:Step F w F' w')(h:aV H F w agg t v):aV H' F' w' agg t v:=by
 obtain⟨cs,h1,h2⟩:=h;exact⟨cs,h1.keep hH hs,h2⟩
def sM.keep(hH:H.le H')(hs:Step F w F' w'):{ds:List (Bool×Tree)}->{vs:List Value}->sM H F w ds vs->sM H' F' w' ds vs
 |[],_,h=>h
 |_::_,_,h=>by obtain⟨v,us,rfl,h1,h2⟩:=h;exact⟨v,us,rfl,h1.keep hH hs,h2.keep hH hs⟩
def At.keep{r:Row}{b off:Nat}{x:r.den}(hs:Step F w F' w')(hb:F b)(h:At F w r b off x):At F' w' r b off x:=by
 obtain⟨es,hl,hc,hr⟩:=h;exact⟨es,hl,λj u hu=>(World.cell?_of_block (hs b hb).2).trans (hc j u hu),hr.step hs⟩
def aH.keep(hH:H.le H')(hs:Step F w F' w'):{d:aI}->{v:Value}->aH H F w d v->aH H' F' w' d v
 | .dead,_,_=>trivial
 | .undef,_,h=>h
 | .val _ _,_,h=>aV.keep hH hs h
 | .ptr _ _ _,_,h=>by obtain⟨b,h1,h2⟩:=h;exact⟨b,hH.val _ _ h1,h2⟩
 | .at _ _,_,h=>by obtain⟨b,off,h1,h2,h3⟩:=h;exact⟨b,off,h1,(hs b h2).1,h3.keep hs h2⟩
 | .elem ..,_,h=>by obtain⟨g,o0,q,T,m,cap,l,h1,h2,h3,h4⟩:=h;exact⟨g,o0,q,T,m,cap,l,hH.val _ _ h1,h2,hH.con _ _ h3,h4⟩
 | .tup _,_,h=>by obtain⟨vs,h1,h2⟩:=h;exact⟨vs,h1,h2.keep hH hs⟩
 | .dlm ..,_,h=>by obtain⟨g,o0,q,m,cap,h1,h2,h3⟩:=h;exact⟨g,o0,q,m,cap,hH.val _ _ h1,h2,h3⟩
 | .fn ..,_,h=>by obtain⟨vs,h1,h2⟩:=h;exact⟨vs,h1,h2.keep hH.val⟩
 | .ifc _ d,_,h=>by obtain⟨u,h1,h2⟩:=h;exact⟨u,h1,aH.keep hH hs (d:=d) h2⟩
def find{α:Type}:List (Nat×α)->Nat->Option α
 |[],_=>ae
 |(m,a)::l,n=>bif ajf m n then aa a else find l n
def del{α:Type}(ns:List Nat):List (Nat×α)->List (Nat×α)
 |[]=>[]
 |(m,a)::l=>bif ns.any (ajf m)then del ns l else(m,a)::del ns l
theorem aZ{α:Type}{m:Nat}{a:α}{l:List (Nat×α)}{n:Nat}:find ((m,a)::l) n=if m=n then aa a else find l n:=by
 show(bif ajf m n then aa a else find l n)=_
 simp_all
def jo{α:Type}{l l':List (Nat×α)}{n:Nat}:find (l++l') n=(find l n).or (find l' n):=by
 induction l with
 |nil=>rfl
 |cons p l ih=>
  grind [aZ]
theorem any_beq{ns:List Nat}{m:Nat}:ns.any (ajf m)=af↔m∈ns:=by
 simp_all
theorem jq{α:Type}{ns:List Nat}{l:List (Nat×α)}{n:Nat}{a:α}:find (del ns l) n=aa a↔n∉ns/\find l n=aa a:=by
 induction l with
 |nil=>simp[del,find]
 |cons p l ih=>
  grind [del,any_beq,aZ]
def rW(F:Nat->Prop)(w:World):Prop:=∀g d,find GN g=aa d->F g/\At F w d.1 g 0 d.2
def rW.step{F F':Nat->Prop}{w w':World}(h:rW F w)(hs:Step F w F' w'):rW F' w':=λg d hg=>⟨(hs g (h g d hg).1).1,(h g d hg).2.keep hs (h g d hg).1⟩
def nl(H:aK)(F:Nat->Prop)(w:World)(K:Row)(agg:Bool)(V:Row):List MapEntry->List (K.den×V.den)->Prop
 |[],l=>l=[]
 |e::es,l=>∃k x l',l=(k,x)::l'/\p5 K k=aa e.key/\aV H F w agg (.leaf V x) e.val/\nl H F w K agg V es l'
def nl.keep{H H':aK}{F F':Nat->Prop}{w w':World}(hH:H.le H')(hs:Step F w F' w'){K:Row}{agg:Bool}{V:Row}:{es:List MapEntry}->{l:List (K.den×V.den)}->nl H F w K agg V es l->nl H' F' w' K agg V es l
 |[],_,h=>h
 |_::_,_,h=>by obtain⟨k,x,l',e,h1,h2,h3⟩:=h;exact⟨k,x,l',e,h1,h2.keep hH hs,nl.keep hH hs h3⟩
def nl.kr{H H':aK}{F:Nat->Prop}{w:World}{K:Row}{agg:Bool}{V:Row}:{es:List MapEntry}->{l:List (K.den×V.den)}->nl H F w K agg V es l->nl H' F w K agg V es l
 |[],_,h=>h
 |_::_,_,h=>by
  obtain⟨k,x,l',e,h1,⟨cs,h2,Kr⟩,h3⟩:=h;exact⟨k,x,l',e,h1,⟨cs,h2,Kr⟩,nl.kr h3⟩
noncomputable def c9:(K:Row)->K.den->K.den->Bool
 | .int _,a,b=>decide ((a:Int)=b)
 | .bool,a,b=>decide ((a:Bool)=b)
 | .str,a,b=>decide ((a:ByteArray)=b)
 |_,_,_=>ag
def sN(F:Nat->Prop)(w:World)(E:TypeId)(r:Row)(v:Value)(y:List r.den)(A:Nat->Prop):Prop:=l5 F w E r v y/\∀k,A k↔bH v k
def gM(H:aK)(F:Nat->Prop)(w:World)(K:Row)(E:TypeId)(r:Row):Option (K.den×Nat)->List MapEntry->List (K.den×List r.den)->(Nat->Prop)->Prop
 |_,[],l,S=>l=[]/\∀k,¬S k
 |none,e::es,l,S=>∃k y l' A B,l=(k,y)::l'/\p5 K k=aa e.key/\sN F w E r e.val y A/\gM H F w K E r ae es l' B/\sD A B S
 |some (a,o),e::es,l,S=>∃k y l' A B,l=(k,y)::l'/\p5 K k=aa e.key/\((c9 K k a=af/\H.val o=aa e.val/\(∀j,¬A j)/\gM H F w K E r ae es l' B)\/(c9 K k a=ag/\sN F w E r e.val y A/\gM H F w K E r (aa (a,o)) es l' B))/\sD A B S
def sN.keep{F F':Nat->Prop}{w w':World}{E:TypeId}{r:Row}{v:Value}{y:List r.den}{A:Nat->Prop}(h:sN F w E r v y A)(hs:Step F w F' w')(hb:∀k,A k->w'.heap[k]? =w.heap[k]?):sN F' w' E r v y A:=
 ⟨h.1.keep hs λk hk=>hb k ((h.2 k).2 hk),h.2⟩
def gM.keep{H H':aK}{F F':Nat->Prop}{w w':World}{K:Row}{E:TypeId}{r:Row}(hs:Step F w F' w'):{h:Option (K.den×Nat)}->{es:List MapEntry}->{l:List (K.den×List r.den)}->{S:Nat->Prop}->(∀a o u,h=aa (a,o)->H.val o=aa u->H'.val o=aa u)->gM H F w K E r h es l S->(∀k,S k->w'.heap[k]? =w.heap[k]?)->gM H' F' w' K E r h es l S
 |none,[],_,_,_,h,_=>h
 |some _,[],_,_,_,h,_=>h
 |none,_::_,_,_,hH,h,hb=>by
  obtain⟨k,y,l',A,B,e,h1,h2,h3,h4⟩:=h;exact⟨k,y,l',A,B,e,h1,h2.keep hs λk hk=>hb k (h4.left k hk),h3.keep hs (λ_ _ _ e=>by cases e) λk hk=>hb k (h4.right k hk),h4⟩
 |some (a,o),_::_,_,_,hH,h,hb=>by
  obtain⟨k,y,l',A,B,e,h1,h2,h4⟩:=h;refine⟨k,y,l',A,B,e,h1,?_,h4⟩
  rcases h2 with⟨g1,g2,g3,g4⟩|⟨g1,g2,g3⟩
  .exact .inl ⟨g1,hH _ _ _ rfl g2,g3,g4.keep hs (λ_ _ _ e=>by cases e) λk hk=>hb k (h4.right k hk)⟩
  .exact .inr ⟨g1,g2.keep hs λk hk=>hb k (h4.left k hk),g3.keep hs hH λk hk=>hb k (h4.right k hk)⟩
def px(H:aK)(F:Nat->Prop)(w:World)(d:DR)(h:Option wh)(i:Nat)(x':d.low.den)(x:d.row.den)(S:Nat->Prop):Prop:=
 match h with
 |none=>lr F w d x' x S
 |some h=>(h.i≠(i:Int)->lr F w d x' x S)/\(h.i=(i:Int)->∃T' e,∃q:gL d (.sl T' e),d.path h.p=aa ⟨_,q⟩/\oG F w q x' x S/\H.val h.o=aa (q.lo.get x'))
def px.keep{H H':aK}{F F':Nat->Prop}{w w':World}{d:DR}{h:Option wh}{i:Nat}{x':d.low.den}{x:d.row.den}{S:Nat->Prop}(hr:px H F w d h i x' x S)(hH:H.le H')(hs:Step F w F' w')(hb:∀k,S k->w'.heap[k]? =w.heap[k]?):px H' F' w' d h i x' x S:=by
 cases h with
 |none=>exact lr.keep hs hr hb
 |some h=>
  refine⟨λhi=>(hr.1 hi).keep hs hb,λhi=>?_⟩;obtain⟨T',e,q,h1,h2,h3⟩:=hr.2 hi;exact⟨T',e,q,h1,h2.keep hs hb,hH.val _ _ h3⟩
def fp(S:Nat->Prop)(v:Value):Th->Nat->Prop
 | .box ..,k=>v= .pointer (aa ⟨k,0,ae⟩)
 | .own ..,k=>bH v k
 | .vB ..,_=>False
 | .map ..,k=>v= .map (aa k)
 | .fmap ..,_=>False
 | .deep ..,k=>S k
 | .fdeep ..,_=>False
 | .dmap ..,k=>S k
 | .fdmap ..,_=>False
def kf(H:aK)(F:Nat->Prop)(w:World)(S:Nat->Prop)(v:Value):Th->Prop
 | .box T t=>∃b es,v= .pointer (aa ⟨b,0,ae⟩)/\w.heap[b]? =aa (.cells es.toArray T (0,0))/\Holds H F w t es
 | .own T r l=>∃xs,nX w 0 T r.size v l.length xs/\∀i(h:i<l.length),cI F w r ((xs.drop (i*r.size)).take r.size) l[i]
 | .vB _ r l=>cI F w (.slice r) [v] l
 | .fmap _ K agg V l=>cI F w (.map K agg V) [v] l
 | .map _ K agg V l=>∃b es clock,v= .map (aa b)/\w.heap[b]? =aa (.map es clock)/\MapKept.Stamped es clock/\nl H F w K agg V es.toList l
 | .deep T d l h=>Ix F w T d.low (px H F w d h) v l S
 | .fdeep _ d l=>cI F w (.slice d.row) [v] l
 | .dmap _ K E r l h=>∃b es clock B,v= .map (aa b)/\w.heap[b]? =aa (.map es clock)/\MapKept.Stamped es clock/\gM H F w K E r h es.toList l B/\sD (is b) B S/\∀a o,h=aa (a,o)->∃u,H.val o=aa u
 | .fdmap _ K _ r l=>cI F w (.map K ag (.slice r)) [v] l
structure Iy(U:Nat->Prop)(H:aK)(F:Nat->Prop)(w:World)(v:Value)(s:Nat)(t:Th):Prop where
 one:v.oneCell'=af
 con:H.con s=aa t.base
 ok:kf H F w (H.sub s) v t
 no:∀k,fp (H.sub s) v t k->¬F k
 lt:∀k,fp (H.sub s) v t k->k<w.heap.size
 use:∀k,fp (H.sub s) v t k->U k
structure aL(U:Nat->Prop)(H:aK)(F:Nat->Prop)(w:World)(ob:Nat->Option (Nat×Th))(n:Nat):Prop where
 obj:∀o s t,ob o=aa (s,t)->∃v,H.val o=aa v/\Iy U H F w v s t
 apart:∀o o' s s' t t' v v',o≠o'->ob o=aa (s,t)->ob o'=aa (s',t')->H.val o=aa v->H.val o'=aa v'->∀k,fp (H.sub s) v t k->¬fp (H.sub s') v' t' k
 fresh:∀m,n<=m->m<n+16->H.val m=ae/\H.con m=ae
 lt:∀b,F b->b<w.heap.size
 new:∀b,w.heap.size<=b->U b
 gl:rW F w
def kf.heap{S:Nat->Prop}{v:Value}{t:Th}(h:kf H F w S v t)(hH:H.le H')(hs:Step F w F' w')(hb:∀k,fp S v t k->w'.heap[k]? =w.heap[k]?):kf H' F' w' S v t:=by
 cases t with
 |box T t=>
  obtain⟨b,es,rfl,h1,h2⟩:=h;exact⟨b,es,rfl,(hb b rfl).trans h1,h2.keep hH hs⟩
 |own T r l=>
  obtain⟨xs,⟨Yw,GO⟩,h3⟩:=h;refine⟨xs,⟨Yw,?_⟩,λi hi=>(h3 i hi).step hs⟩
  rcases GO with h2|⟨gg,o0,cap,cur,rfl,qR,hg,rest⟩
  .exact .inl h2
  .exact .inr ⟨gg,o0,cap,cur,rfl,qR,(hb gg rfl).trans hg,rest⟩
 |vB T r l=>exact cI.step (r:= .slice r) hs h
 |fmap T K agg V l=>exact cI.step (r:= .map K agg V) hs h
 |fdeep T d l=>exact cI.step (r:= .slice d.row) hs h
 |deep T d l hh=>exact Ix.mono (show Ix F w T d.low _ v l S from h) hs hb λi x' hi A hA hr=>hr.keep hH hs λk hk=>hb k (hA k hk)
 |map T K agg V l=>
  obtain⟨b,es,clock,rfl,h1,h2,h3⟩:=h;exact⟨b,es,clock,rfl,(hb b rfl).trans h1,h2,h3.keep hH hs⟩
 |fdmap T K E r l=>exact cI.step (r:= .map K ag (.slice r)) hs h
 |dmap T K E r l hh=>
  obtain⟨b,es,clock,B,rfl,h1,h2,h3,h4,h5⟩:=h;exact⟨b,es,clock,B,rfl,(hb b (h4.left b rfl)).trans h1,h2,h3.keep hs (λa o u _ hu=>hH.val _ _ hu) λk hk=>hb k (h4.right k hk),h4,λa o e=>(h5 a o e).imp λu hu=>hH.val _ _ hu⟩
def Own.to{v:Value}{T:TypeId}{r:Row}{l:List r.den}(S:Nat->Prop)(h:Own 0 F w T r v l):kf H F w S v (.own T r l):=h.2
end
structure State where
 aJ:List (Nat×aI)
 objs:List (Nat×(Nat×Th))
 nxt:Nat
def jr(H:aK)(n:Nat):Prop:=∀m,n<=m->H.val m=ae/\H.con m=ae
structure Sat(U:Nat->Prop)(H:aK)(F:Nat->Prop)(w:World)(ρ:Nat->Value)(st:State):Prop where
 slot:∀t d,find st.aJ t=aa d->aH H F w d (ρ t)
 ob:aL U H F w (find st.objs) st.nxt
 all:jr H st.nxt
structure eD where
 dst:aI
 eat:List Nat:=[]
 make:List (Nat×(Nat×Th)):=[]
def State.apply(st:State)(d:Option Nat)(e:eD):State:=
 {aJ:=(match d with|some d=>(d,e.dst)::st.aJ|none=>st.aJ),objs:=e.make++del e.eat st.objs,nxt:=st.nxt+16}
def cD(H:aK)(ob:Nat->Option (Nat×Th))(eat:List Nat)(k:Nat):Prop:=∃o∈eat,∃s t v,ob o=aa (s,t)/\H.val o=aa v/\fp (H.sub s) v t k
structure NF(H:aK)(F:Nat->Prop)(w:World)(H':aK)(F':Nat->Prop)(w':World)(g:Nat->Prop):Prop where
 kr:H.le H'
 ext:Ext g w w'
 le:∀b,F b->F' b
 grow:∀b,F' b->F b\/w.heap.size<=b\/g b
 lt:∀b,F' b->b<w'.heap.size
structure Made(H':aK)(F':Nat->Prop)(w w':World)(g:Nat->Prop)(make:List (Nat×(Nat×Th))):Prop where
 obj:∀o s t,find make o=aa (s,t)->∃v,H'.val o=aa v/\v.oneCell'=af/\H'.con s=aa t.base/\kf H' F' w' (H'.sub s) v t/\∀k,fp (H'.sub s) v t k->¬F' k/\k<w'.heap.size/\(w.heap.size<=k\/g k)
 apart:∀o o' s s' t t' v v',o≠o'->find make o=aa (s,t)->find make o'=aa (s',t')->H'.val o=aa v->H'.val o'=aa v'->∀k,fp (H'.sub s) v t k->¬fp (H'.sub s') v' t' k
structure mY(H:aK)(F:Nat->Prop)(w:World)(ob:Nat->Option (Nat×Th))(n:Nat)(e:eD)(v:Value)(w':World)(H':aK)(F':Nat->Prop):Prop where
 mZ:NF H F w H' F' w' (cD H ob e.eat)
 fresh:∀m,(m<n\/n+16<=m)->(H.val m=ae->H'.val m=ae)/\(H.con m=ae->H'.con m=ae)
 dst:aH H' F' w' e.dst v
 made:Made H' F' w w' (cD H ob e.eat) e.make
 ids:∀o,(find e.make o).isSome->o∈e.eat\/n<=o
def ma(H:aK)(F:Nat->Prop)(w:World)(ob:Nat->Option (Nat×Th))(n:Nat)(e:eD)(v:Value)(w':World):Prop:=∃H' F',mY H F w ob n e v w' H' F'
def vC(ρ:Nat->Value):Option Nat->Value->Nat->Value
 |some d,v=>EB ρ d v
 |none,_=>ρ
theorem qd(ρ:Nat->Value)(d:Nat)(v:Value)(t:Nat):EB ρ d v t=if t=d then v else ρ t:=by
 unfold EB
 simp_all
section
variable {U:Nat->Prop} {H H':aK} {F F':Nat->Prop} {w w':World} {ρ:Nat->Value} {st:State}
def NF.step{g:Nat->Prop}(h:NF H F w H' F' w' g)(hF:∀b,F b->b<w.heap.size)(hg:∀k,g k->¬F k):Step F w F' w':=
 λb hb=>⟨h.le b hb,h.ext.block b (hF b hb) λe=>hg b e hb⟩
def aL.jt{ob:Nat->Option (Nat×Th)}{n:Nat}(h:aL U H F w ob n){eat:List Nat}:∀k,cD H ob eat k->¬F k:=by
 rintro k ⟨o,_,s,t,v,h1,h2,h3⟩
 obtain⟨v',e,hi⟩:=h.obj o s t h1;rw[h2]at e;obtain rfl:=aja e;exact hi.no k h3
def aL.wi{ob:Nat->Option (Nat×Th)}{n:Nat}(h:aL U H F w ob n){eat:List Nat}:∀k,cD H ob eat k->k<w.heap.size:=by
 rintro k ⟨o,_,s,t,v,h1,h2,h3⟩
 obtain⟨v',e,hi⟩:=h.obj o s t h1;rw[h2]at e;obtain rfl:=aja e;exact hi.lt k h3
def aL.iP{ob:Nat->Option (Nat×Th)}{n:Nat}(h:aL U H F w ob n){eat:List Nat}:∀k,cD H ob eat k->U k:=by
 rintro k ⟨o,_,s,t,v,h1,h2,h3⟩
 obtain⟨v',e,hi⟩:=h.obj o s t h1;rw[h2]at e;obtain rfl:=aja e;exact hi.use k h3
def Iy.mZ{ob:Nat->Option (Nat×Th)}{n:Nat}(hs:aL U H F w ob n){eat:List Nat}(he:NF H F w H' F' w' (cD H ob eat)){o s:Nat}{t:Th}{v:Value}(ho:ob o=aa (s,t))(hn:o∉eat)(hv:H.val o=aa v)(h:Iy U H F w v s t):Iy U H' F' w' v s t:=by
 have Uw:∀k,fp (H.sub s) v t k->¬cD H ob eat k:=by
  rintro k hk ⟨o',jY,s',t',v',h1,h2,h3⟩
  exact hs.apart o o' s s' t t' v v' (λe=>hn (e▸jY)) ho h1 hv h2 k hk h3
 have iL:=he.kr.sub _ _ h.con;refine⟨h.one,he.kr.con _ _ h.con,by rw[iL];exact h.ok.heap he.kr (he.step hs.lt hs.jt) λk hk=>he.ext.block k (h.lt k hk) (Uw k hk),λk hk hF=>?_,λk hk=>ajA (h.lt k (by rwa [iL]at hk)) he.ext.size,λk hk=>h.use k (by rwa [iL]at hk)⟩;rw[iL]at hk
 rcases he.grow k hF with h1|h1|h1
 .exact h.no k hk h1
 .have:=h.lt k hk;omega
 .exact Uw k hk h1
def aL.Lb{ob NG Lc:Nat->Option (Nat×Th)}{n n' m:Nat}{e:eD}{v:Value}(h:aL U H F w ob n)(hR:∀o x,NG o=aa x->ob o=aa x)(hp:mY H F w NG m e v w' H' F')
 (part:∀o s t,Lc o=aa (s,t)->find e.make o=aa (s,t)\/(o∉e.eat/\ob o=aa (s,t)/\find e.make o=ae))(yf:∀m,n'<=m->m<n'+16->H'.val m=ae/\H'.con m=ae):
 aL U H' F' w' Lc n':=by
 have EH:∀k,cD H NG e.eat k->cD H ob e.eat k:=λk ⟨o,ho,s,t,v,h1,h2⟩=>⟨o,ho,s,t,v,hR _ _ h1,h2⟩
 have Ux:NF H F w H' F' w' (cD H ob e.eat):=⟨hp.mZ.kr,⟨hp.mZ.ext.os,hp.mZ.ext.tape,hp.mZ.ext.output,hp.mZ.ext.size,λk hk hn=>hp.mZ.ext.block k hk λhh=>hn (EH k hh)⟩,hp.mZ.le,λb hb=>(hp.mZ.grow b hb).imp id λh=>h.imp id (EH b),hp.mZ.lt⟩
 have mc:∀o s t,o∉e.eat->ob o=aa (s,t)->∃v,H.val o=aa v/\H'.val o=aa v/\Iy U H' F' w' v s t/\H'.sub s=H.sub s/\∀k,fp (H'.sub s) v t k->k<w.heap.size/\¬cD H ob e.eat k:=by
  intro o s t ho hf;obtain⟨v,hv,hi⟩:=h.obj o s t hf;have iL:=hp.mZ.kr.sub _ _ hi.con;refine⟨v,hv,hp.mZ.kr.val _ _ hv,hi.mZ h Ux hf ho hv,iL,λk hk=>?_⟩;rw[iL]at hk;refine⟨hi.lt k hk,?_⟩
  rintro⟨o',jY,s',t',v',h1,h2,h3⟩
  exact h.apart o o' s s' t t' v v' (λe=>ho (e▸jY)) hf h1 hv h2 k hk h3
 refine⟨λo s t ho=>?_,λo o' s s' t t' v v' dw ho jY hv dZ k hk iU=>?_,yf,hp.mZ.lt,λb hb=>h.new b (ajs hp.mZ.ext.size hb),h.gl.step (Ux.step h.lt h.jt)⟩
 .rcases part o s t ho with h1|⟨h1,h2,_⟩
  .obtain⟨v,a1,a2,a3,a4,a5⟩:=hp.made.obj o s t h1;exact⟨v,a1,a2,a3,a4,λk hk=>(a5 k hk).1,λk hk=>(a5 k hk).2.1,λk hk=>(a5 k hk).2.2.elim (h.new k) (λhh=>h.iP k (EH k hh))⟩
  grind
 .rcases part o s t ho with h1|⟨h1,h2,_⟩<;>rcases part o' s' t' jY with Aw|⟨Aw,Kr,_⟩
  .exact hp.made.apart o o' s s' t t' v v' dw h1 Aw hv dZ k hk iU
  .obtain⟨u,_,a1,_,_,a5⟩:=hp.made.obj o s t h1
   grind
  .obtain⟨u,_,a1,_,_,a5⟩:=hp.made.obj o' s' t' Aw
   grind
  .obtain⟨u,b1,b2,_,b5,_⟩:=mc o s t h1 h2;obtain⟨u',c1,c2,_,c5,_⟩:=mc o' s' t' Aw Kr;rw[b5]at hk;rw[c5]at iU;have e1:=aja (hv.symm.trans b2);have e2:=aja (dZ.symm.trans c2);subst e1;subst e2;exact h.apart o o' s s' t t' v v' dw h2 Kr b1 c1 k hk iU
def EI{objs:List (Nat×(Nat×Th))}{e:eD}:∀o s t,find (e.make++del e.eat objs) o=aa (s,t)->find e.make o=aa (s,t)\/(o∉e.eat/\find objs o=aa (s,t)/\find e.make o=ae):=by
 intro o s t ho;rw[jo]at ho
 cases hm:find e.make o with
 |some x=>grind
 |none=>
  grind [jq]
def Sat.apply{d:Option Nat}{e:eD}{v:Value}(h:Sat U H F w ρ st)(hp:mY H F w (find st.objs) st.nxt e v w' H' F'):Sat U H' F' w' (vC ρ d v) (st.apply d e):=by
 have fe:jr H' (st.nxt+16):=λm hm=>⟨(hp.fresh m (.inr hm)).1 (h.all m (by omega)).1,(hp.fresh m (.inr hm)).2 (h.all m (by omega)).2⟩
 refine⟨λt q hq=>?_,h.ob.Lb (λ_ _ h=>h) hp EI λm hm _=>fe m hm,fe⟩;have gD:=hp.mZ.step h.ob.lt h.ob.jt
 cases d with
 |none=>exact(h.slot t q hq).keep hp.mZ.kr gD
 |some d=>
  have yg:find ((d,e.dst)::st.aJ) t=aa q:=hq;rw[aZ]at yg
  show aH H' F' w' q (EB ρ d v t)
  rw[qd];by_cases hd:d=t
  .grind [mY.dst]
  .rw[ai hd]at yg;rw[ai (Ne.symm hd)];exact(h.slot t q yg).keep hp.mZ.kr gD
end
end
section
def cA(P:Program)(ρ:Nat->Value)(o:Oper)(w:World)(Q:Value->World->Prop):Prop:=
 match(execOp (ev ρ) o).run P w with
 | .ok (.value v) w'=>o.dst.isSome/\Q v w'
 | .ok .skip w'=>o.dst=ae/\Q undef w'
 | .ok (.enter f args) w'=>Calls P f args w' λe BX=>∃v,e= .returned v/\Q v BX
 |_=>False
section
variable {P:Program} {n:Nat} {ops:Array Oper} {K:(Nat->Value)->World->Prop} {rest:List Oper} {ρ:Nat->Value} {w:World}
variable {dst:Option Nat} {op:Op} {ty:TypeId} {pos:String} {aft:Array Edge} {Q:Value->World->Prop}
def cA.mono{o:Oper}{Q':Value->World->Prop}(h:cA P ρ o w Q)(hq:∀v w',Q v w'->Q' v w'):cA P ρ o w Q':=by
 unfold cA at*;generalize(execOp (ev ρ) o).run P w=r at*
 cases r with
 |halt x w'=>exact h
 |ok x w'=>
  cases x<;>first
   |exact h
   |exact⟨h.1,hq _ _ h.2⟩
   |exact h.mono (by grind)
def cA.val{d:Nat}{v:Value}{w':World}(hr:(execOp (ev ρ) ⟨aa d,op,ty,pos,aft,ae⟩).run P w= .ok (.value v) w')(h:Q v w'):cA P ρ ⟨aa d,op,ty,pos,aft,ae⟩ w Q:=by
 unfold cA;rw[hr];exact⟨rfl,h⟩
def cA.unit{w':World}(hr:(execOp (ev ρ) ⟨ae,op,ty,pos,aft,ae⟩).run P w= .ok .skip w')(h:Q undef w'):cA P ρ ⟨ae,op,ty,pos,aft,ae⟩ w Q:=by
 unfold cA;rw[hr];exact⟨rfl,h⟩
def Ca(h:cA P ρ ⟨dst,op,ty,pos,aft,ae⟩ w Q)(hd:∀d,dst=aa d->ajK d n=af)
 (hk:∀v w',Q v w'->wpS P n ops K rest (vC ρ dst v) w'):wpS P n ops K (⟨dst,op,ty,pos,aft,ae⟩::rest) ρ w:=
 λQQ a hf Ld=>wpList_plain rfl λK' hK=>by
  unfold Oper.wp;rw[hf.eval];unfold cA at h;generalize(execOp (ev ρ) ⟨dst,op,ty,pos,aft,ae⟩).run P w=r at*
  have wj:∀v,Fr n (a.put dst v) (vC ρ dst v):=λv=>by
   cases dst with
   |none=>exact hf
   |some d=>exact hf.put (hd d rfl) v
  cases r with
  |halt x w'=>exact h.elim
  |ok x w'=>
   cases x<;>first
    |exact h.elim
    |skip
   case value v=>exact hK _ _ (hk v w' h.2 QQ _ (wj v) Ld)
   case skip=>exact hK _ _ (hk undef w' h.2 QQ _ (wj undef) Ld)
   case enter f args=>
    refine h.mono λe BX ⟨v,he,hv⟩=>?_
    subst he;exact hK _ _ (hk v BX hv QQ _ (wj v) Ld)
end
inductive Ks where
 |int (k:IntKind)
 |bool
 |str
 |slice (e:TypeId)
 |struct (fs:List (TypeId×Nat))
 |array (n:Nat) (e:TypeId)
 |map (k v:TypeId)
 |ptr (e:TypeId)
 |other
def yW(P:Program)(t:TypeId):Ks->Prop
 | .int k=>P.underlying t=aa (.int k)
 | .bool=>P.underlying t=aa .bool
 | .str=>P.underlying t=aa .string
 | .slice e=>P.underlying t=aa (.slice e)
 | .struct fs=>∃arr:Array Field,P.underlying t=aa (.struct arr)/\arr.toList.map (λf=>(f.type,f.offset))=fs
 | .array n e=>P.underlying t=aa (.array n e)
 | .map k v=>P.underlying t=aa (.map k v)
 | .ptr e=>P.underlying t=aa (.pointer e)
 | .other=>∃d,P.underlying t=aa d/\fJ d=ag
def Ax(P:Program)(t:TypeId)(agg:Bool)(r:Row):Prop:=∃z,(P.info? t).bind (·.zero)=aa z/\z=(bif agg then .agg r.dI.toArray else r.dI.headD undef)
def rG(P:Program)(t:TypeId)(name:String)(f:FuncId)(pr:Bool):Prop:=
 ((P.info? t).bind λi=>i.methods.find? λm=>m.name==name).map (λm=>(m.path.toList.length,m.func))=aa (0,aa (f,pr))
structure bj(P:Program)where
 und:List (Nat×Ks)
 row:List (Nat×Row)
 eqs:List (Nat×Row)
 zer:List (Nat×(Bool×Row))
 und_ok:∀t k,find und t=aa k->yW P t k
 row_ok:∀t r,find row t=aa r->TI P t r
 eqs_ok:∀t r,find eqs t=aa r->∃K d,oF P t r K/\d+K=10000/\P.eqGuardType P.depth t=ag/\(P.underlying t).any fJ=af
 zer_ok:∀t agg r,find zer t=aa (agg,r)->Ax P t agg r
 mth:List (TypeId×(String×(FuncId×Bool)))
 mth_ok:∀p∈mth,rG P p.1 p.2.1 p.2.2.1 p.2.2.2
def mi:Ks->Bool
 | .struct _| .array _ _=>af
 |_=>ag
def yW.agg{P:Program}{t:TypeId}{k:Ks}(h:yW P t k):∃d,P.underlying t=aa d/\fJ d=mi k:=by
 cases k<;>first
  |exact⟨_,h,rfl⟩
  |(obtain⟨arr,h,_⟩:=h;exact⟨_,h,rfl⟩)
  |exact h
def nZ{α:Type}{Q:Nat->α->Prop}{l:List (Nat×α)}(h:∀p∈l,Q p.1 p.2):∀t a,find l t=aa a->Q t a:=by
 intro t a
 induction l with
 |nil=>intro h';cases h'
 |cons p l ih=>
  grind [aZ]
def EJ:Value->Option aI
 | .int k n=>aa (.val ag (.leaf (.int k) n))
 | .bool b=>aa (.val ag (.leaf .bool b))
 | .string s=>aa (.val ag (.leaf .str s))
 | .slice ae 0 0=>aa (.val ag .nil)
 | .map ae=>aa (.val ag (.leaf (.nul .map) ()))
 | .pointer ae=>aa (.val ag (.leaf (.nul .ptr) ()))
 | .nilFunc=>aa (.val ag (.leaf (.nul .func) ()))
 | .nilIface=>aa .dead
 |_=>ae
def Kt(aJ:List (Nat×aI)):Operand->Option aI
 | .tmp t=>find aJ t
 | .const v=>EJ v
 | .func f=>aa (.fn f [])
 | .global g=>match find GN g with
   |some d=>aa (.at d.1 d.2)
   |none=>ae
def aV.mK{H:aK}{F:Nat->Prop}{w:World}{r:Row}{x:r.den}{v:Value}(h:cI F w r [v] x):aV H F w ag (.leaf r x) v:=⟨[v],h,rfl,λ_=>rfl⟩
def Iz{H:aK}{F:Nat->Prop}{w:World}{v:Value}{d:aI}(h:EJ v=aa d):aH H F w d v:=by
 unfold EJ at h
 split at h<;>first|cases h|skip
 .exact aV.mK rfl
 .exact aV.mK rfl
 .exact aV.mK rfl
 .exact⟨_,rfl,rfl,λ_=>rfl⟩
 .exact aV.mK rfl
 .exact aV.mK rfl
 .exact aV.mK rfl
 .trivial
def wk{H:aK}{F:Nat->Prop}{w:World}{ρ:Nat->Value}{aJ:List (Nat×aI)}(hg:rW F w)(h:∀t d,find aJ t=aa d->aH H F w d (ρ t)):∀x d,Kt aJ x=aa d->aH H F w d (ev ρ x):=by
 intro x d hx
 cases x with
 |tmp t=>exact h t d hx
 |const v=>exact Iz hx
 |global g=>
  have hx':(match find GN g with|some d=>aa (aI.at d.1 d.2)|none=>ae)=aa d:=hx;split at hx'
  .rename_i q hq;obtain rfl:=aja hx';obtain⟨h1,h2⟩:=hg g q hq;exact⟨g,0,rfl,h1,h2⟩
  .cases hx'
 |func f=>obtain rfl:=aja hx;exact⟨[],rfl,rfl⟩
def aV.inv{H:aK}{F:Nat->Prop}{w:World}{r:Row}{x:r.den}{v:Value}(h:aV H F w ag (.leaf r x) v):cI F w r [v] x:=by
 obtain⟨cs,h1,_,h3⟩:=h;rw[h3 rfl]at h1;exact h1
def aV.int{H:aK}{F:Nat->Prop}{w:World}{k:IntKind}{x:Int}{v:Value}(h:aV H F w ag (.leaf (.int k) x) v):v= .int k x:=by
 have:=h.inv;simpa[cI]using this
def aV.bool{H:aK}{F:Nat->Prop}{w:World}{x:Bool}{v:Value}(h:aV H F w ag (.leaf .bool x) v):v= .bool x:=by
 have:=h.inv;simpa[cI]using this
def aV.str{H:aK}{F:Nat->Prop}{w:World}{x:ByteArray}{v:Value}(h:aV H F w ag (.leaf .str x) v):v= .string x:=by
 have:=h.inv;simpa[cI]using this
def aV.ku(H:aK)(F:Nat->Prop)(w:World)(k:IntKind)(x:Int):aV H F w ag (.leaf (.int k) x) (.int k x):=aV.mK rfl
def aV.ig(H:aK)(F:Nat->Prop)(w:World)(x:Bool):aV H F w ag (.leaf .bool x) (.bool x):=aV.mK rfl
def aV.mkStr(H:aK)(F:Nat->Prop)(w:World)(x:ByteArray):aV H F w ag (.leaf .str x) (.string x):=aV.mK rfl
abbrev np(k:IntKind)(x:Int):aI:= .val ag (.leaf (.int k) x)
abbrev eA(x:Bool):aI:= .val ag (.leaf .bool x)
abbrev Yx(x:ByteArray):aI:= .val ag (.leaf .str x)
def asInt:aI->Option (IntKind×Int)
 | .val ag (.leaf (.int k) x)=>aa (k,x)
 |_=>ae
def asBool:aI->Option Bool
 | .val ag (.leaf .bool x)=>aa x
 |_=>ae
def Cb:aI->Option ByteArray
 | .val ag (.leaf .str x)=>aa x
 |_=>ae
section
variable {P:Program} {ρ:Nat->Value} {w w':World} {H H':aK} {F F':Nat->Prop} {U:Nat->Prop} {ob:Nat->Option (Nat×Th)} {n:Nat} {R:Type}
variable {dst:Option Nat} {op:Op} {ty:TypeId} {pos:String} {aft:Array Edge} {d:Nat}
def fW{D:aI}{k:IntKind}{x:Int}{v:Value}(h:asInt D=aa (k,x))(hd:aH H F w D v):v= .int k x:=by
 unfold asInt at h
 split at h<;>cases h
 exact aV.int hd
def oR{D:aI}{x:Bool}{v:Value}(h:asBool D=aa x)(hd:aH H F w D v):v= .bool x:=by
 unfold asBool at h
 split at h<;>cases h
 exact aV.bool hd
def wm{D:aI}{x:ByteArray}{v:Value}(h:Cb D=aa x)(hd:aH H F w D v):v= .string x:=by
 unfold Cb at h
 split at h<;>cases h
 exact aV.str hd
def cO(P:Program)(_U:Nat->Prop)(H:aK)(F:Nat->Prop)(w:World)(ρ:Nat->Value)(ob:Nat->Option (Nat×Th))(n:Nat)(o:Oper)(e:eD):Prop:=
 cA P ρ o w (ma H F w ob n e)
def NF.refl{g:Nat->Prop}(hF:∀b,F b->b<w.heap.size):NF H F w H F w g:=⟨aK.le.refl H,⟨rfl,rfl,rfl,ajh _,λ_ _ _=>rfl⟩,λ_ h=>h,λ_ h=> .inl h,hF⟩
def Made.nil{g:Nat->Prop}:Made H' F' w w' g []:=⟨λ_ _ _ h=>(by cases h),λ_ _ _ _ _ _ _ _ _ h=>(by cases h)⟩
def mY.pure(hs:aL U H F w ob n){D:aI}{v:Value}(h:aH H F w D v):ma H F w ob n {dst:=D} v w:=
 ⟨H,F,NF.refl hs.lt,λm hm=>⟨id,id⟩,h,Made.nil,λo h=>by cases h⟩
def cn(hs:aL U H F w ob n){D:aI}{v:Value}(hr:(execOp (ev ρ) ⟨aa d,op,ty,pos,aft,ae⟩).run P w= .ok (.value v) w)(h:aH H F w D v):cO P U H F w ρ ob n ⟨aa d,op,ty,pos,aft,ae⟩ {dst:=D}:=
 cA.val hr (mY.pure hs h)
def ba(hs:aL U H F w ob n){D:aI}{v:Value}(hr:Pure P ρ ⟨aa d,op,ty,pos,aft,ae⟩ v)(h:aH H F w D v):cO P U H F w ρ ob n ⟨aa d,op,ty,pos,aft,ae⟩ {dst:=D}:=
 cn hs (hr w) h
def fI(o:BinOp)(k:IntKind)(a b:Int):Int:=
 match o with
 | .and=>k.wrap (akL k.bits a&&& akL k.bits b).toNat
 | .or=>k.wrap (akL k.bits a|||akL k.bits b).toNat
 | .xor=>k.wrap (akL k.bits a ^^^ akL k.bits b).toNat
 |_=>k.wrap (akL k.bits a&&& ~~~akL k.bits b).toNat
def Ay(k:IntKind)(a b:Int):Int:=k.wrap (a*2 ^ min b.toNat k.bits)
def gF(k:IntKind)(a b:Int):Int:=a.fdiv (2 ^ min b.toNat k.bits)
def IA(k:IntKind)(a b:Int):Option Int:=if b<0 then ae else aa (Ay k a b)
def Cc(k:IntKind)(a b:Int):Option Int:=if b<0 then ae else aa (gF k a b)
def arith:BinOp->IntKind->Int->Int->Option aI
 | .add,k,a,b=>aa (np k (k.wrap (a+b)))
 | .sub,k,a,b=>aa (np k (k.wrap (a-b)))
 | .mul,k,a,b=>aa (np k (k.wrap (a*b)))
 | .lss,_,a,b=>aa (eA (decide (a<b)))
 | .leq,_,a,b=>aa (eA (decide (a<=b)))
 | .gtr,_,a,b=>aa (eA (decide (b<a)))
 | .geq,_,a,b=>aa (eA (decide (b<=a)))
 | .eql,_,a,b=>aa (eA (decide (a=b)))
 | .neq,_,a,b=>aa (eA (!decide (a=b)))
 | .and,k,a,b=>aa (np k (fI .and k a b))
 | .or,k,a,b=>aa (np k (fI .or k a b))
 | .xor,k,a,b=>aa (np k (fI .xor k a b))
 | .andNot,k,a,b=>aa (np k (fI .andNot k a b))
 |_,_,_,_=>ae
def pure_and{k:IntKind}{a b:Int}{t u:TypeId}{x y:Operand}(hx:ev ρ x= .int k a)(hy:ev ρ y= .int k b):Pure P ρ ⟨aa d, .binOp .and t x y u,ty,pos,aft,ae⟩ (.int k (fI .and k a b)):=λw=>by simp[execOp,hx,hy,binOp,Op.intBits,eqGuard,fI,go_sem]
def pure_or{k:IntKind}{a b:Int}{t u:TypeId}{x y:Operand}(hx:ev ρ x= .int k a)(hy:ev ρ y= .int k b):Pure P ρ ⟨aa d, .binOp .or t x y u,ty,pos,aft,ae⟩ (.int k (fI .or k a b)):=λw=>by simp[execOp,hx,hy,binOp,Op.intBits,eqGuard,fI,go_sem]
def Le{k:IntKind}{a b:Int}{t u:TypeId}{x y:Operand}(hx:ev ρ x= .int k a)(hy:ev ρ y= .int k b):Pure P ρ ⟨aa d, .binOp .xor t x y u,ty,pos,aft,ae⟩ (.int k (fI .xor k a b)):=λw=>by simp[execOp,hx,hy,binOp,Op.intBits,eqGuard,fI,go_sem]
def Cg{k:IntKind}{a b:Int}{t u:TypeId}{x y:Operand}(hx:ev ρ x= .int k a)(hy:ev ρ y= .int k b):Pure P ρ ⟨aa d, .binOp .andNot t x y u,ty,pos,aft,ae⟩ (.int k (fI .andNot k a b)):=λw=>by simp[execOp,hx,hy,binOp,Op.intBits,eqGuard,fI,go_sem]
def Ci{k k':IntKind}{a b:Int}{t u:TypeId}{x y:Operand}(hx:ev ρ x= .int k a)(hy:ev ρ y= .int k' b)(hb:¬b<0):Pure P ρ ⟨aa d, .binOp .shl t x y u,ty,pos,aft,ae⟩ (.int k (Ay k a b)):=λw=>by simp[execOp,hx,hy,binOp,Op.shift,eqGuard,Ay,hb,go_sem]
def Cj{k k':IntKind}{a b:Int}{t u:TypeId}{x y:Operand}(hx:ev ρ x= .int k a)(hy:ev ρ y= .int k' b)(hb:¬b<0):Pure P ρ ⟨aa d, .binOp .shr t x y u,ty,pos,aft,ae⟩ (.int k (gF k a b)):=λw=>by simp[execOp,hx,hy,binOp,Op.shift,eqGuard,gF,hb,go_sem]
theorem Lf{o:BinOp}{k:IntKind}{a b:Int}{D:aI}{t u:TypeId}{x y:Operand}(h:arith o k a b=aa D)(hs:aL U H F w ob n)(hx:ev ρ x= .int k a)(hy:ev ρ y= .int k b):
 cO P U H F w ρ ob n ⟨aa d, .binOp o t x y u,ty,pos,aft,ae⟩ {dst:=D}:=by
 unfold arith at h
 split at h<;>cases h
 .exact ba hs (KN hx hy) (aV.ku ..)
 .exact ba hs (KO hx hy) (aV.ku ..)
 .exact ba hs (KP hx hy) (aV.ku ..)
 .exact ba hs (KS hx hy) (aV.ig ..)
 .exact ba hs (KT hx hy) (aV.ig ..)
 .exact ba hs (KU hx hy) (aV.ig ..)
 .exact ba hs (KV hx hy) (aV.ig ..)
 .exact ba hs (KW hx hy) (aV.ig ..)
 .exact ba hs (KX hx hy) (aV.ig ..)
 .exact ba hs (pure_and hx hy) (aV.ku ..)
 .exact ba hs (pure_or hx hy) (aV.ku ..)
 .exact ba hs (Le hx hy) (aV.ku ..)
 .exact ba hs (Cg hx hy) (aV.ku ..)
def yq(a b:Int):Option Int:=if b=0 then ae else aa (ajl a b)
def EK(a b:Int):Option Int:=if b=0 then ae else aa (ajH a b)
def Uy:Operand->Bool
 | .const _=>af
 |_=>ag
theorem Lg{k:IntKind}{a b:Int}{t u:TypeId}{x y:Operand}(hb:b≠0)(hs:aL U H F w ob n)(hx:ev ρ x= .int k a)(hy:ev ρ y= .int k b):
 cO P U H F w ρ ob n ⟨aa d, .binOp .quo t x y u,ty,pos,aft,ae⟩ {dst:=np k (k.wrap (ajl a b))}:=
 ba hs (KQ hx hy hb) (aV.ku ..)
theorem Lh{k:IntKind}{a b:Int}{t u:TypeId}{x y:Operand}(hb:b≠0)(hs:aL U H F w ob n)(hx:ev ρ x= .int k a)(hy:ev ρ y= .int k b):
 cO P U H F w ρ ob n ⟨aa d, .binOp .rem t x y u,ty,pos,aft,ae⟩ {dst:=np k (ajH a b)}:=
 ba hs (KR hx hy hb) (aV.ku ..)
end
end
section
def Tree.split:Tree->Option (Tree×Tree)
 | .leaf (.pair a b) x=>aa (.leaf a x.1, .leaf b x.2)
 | .pair a b=>aa (a,b)
 |_=>ae
def Tree.get:Tree->List Bool->Option (Tree×Nat)
 |t,[]=>aa (t,0)
 |t,d::p=>match t.split with
  |none=>ae
  |some (a,b)=>match d with
   |false=>Tree.get a p
   |true=>match Tree.get b p with
    |none=>ae
    |some (s,off)=>aa (s,a.size+off)
def Tree.put:Tree->List Bool->Tree->Option Tree
 |_,[],u=>aa u
 |t,d::p,u=>match t.split with
  |none=>ae
  |some (a,b)=>match d with
   |false=>match Tree.put a p u with
    |none=>ae
    |some a'=>aa (.pair a' b)
   |true=>match Tree.put b p u with
    |none=>ae
    |some b'=>aa (.pair a b')
def sO:Nat->Nat->List Bool
 |0,_=>[]
 |1,_=>[]
 |_+2,0=>[ag]
 |m+2,f+1=>af::sO (m+1) f
section
variable {H:aK} {F:Nat->Prop} {w:World}
def Holds.split{t a b:Tree}{cs:List Value}(hs:t.split=aa (a,b))(h:Holds H F w t cs):∃c1 c2,cs=c1++c2/\Holds H F w a c1/\Holds H F w b c2/\t.size=a.size+b.size:=by
 unfold Tree.split at hs
 split at hs<;>cases hs
 .obtain⟨c1,c2,e,h1,h2⟩:=h;exact⟨c1,c2,e,h1,h2,rfl⟩
 .obtain⟨c1,c2,e,h1,h2⟩:=h;exact⟨c1,c2,e,h1,h2,rfl⟩
def Holds.get:{p:List Bool}->{t s:Tree}->{off:Nat}->{cs:List Value}->t.get p=aa (s,off)->Holds H F w t cs->Holds H F w s ((cs.drop off).take s.size)/\off+s.size<=cs.length
 |[],t,s,off,cs,hg,h=>by
  obtain⟨rfl,rfl⟩:=akA (aja hg)
  grind [Holds.length]
 |d::p,t,s,off,cs,hg,h=>by
  unfold Tree.get at hg
  cases tT:t.split with
  |none=>rw[tT]at hg;cases hg
  |some ab=>
   obtain⟨a,b⟩:=ab;rw[tT]at hg;obtain⟨c1,c2,rfl,h1,h2,_⟩:=h.split tT;have NH:=h1.length
   cases d with
   |false=>
    obtain⟨g1,g2⟩:=Holds.get hg h1
    grind
   |true=>
    cases hb:b.get p with
    |none=>simp only[hb]at hg;cases hg
    |some so=>
     obtain⟨s',eE⟩:=so;simp only[hb,ajj,Prod.mk.injEq]at hg;obtain⟨rfl,rfl⟩:=hg;obtain⟨g1,g2⟩:=Holds.get hb h2
     grind [List.drop_append,ajX]
def Holds.put{u:Tree}{vs:List Value}(hu:Holds H F w u vs):{p:List Bool}->{t s t':Tree}->{off:Nat}->{cs:List Value}->t.get p=aa (s,off)->t.put p u=aa t'->s.size=u.size->Holds H F w t cs->
 Holds H F w t' (cs.take off++vs++cs.drop (off+u.size))
 |[],t,s,t',off,cs,hg,hp,hz,h=>by
  obtain⟨rfl,rfl⟩:=akA (aja hg);obtain rfl:=aja hp;have hl:=h.length
  grind
 |d::p,t,s,t',off,cs,hg,hp,hz,h=>by
  unfold Tree.get at hg;unfold Tree.put at hp
  cases tT:t.split with
  |none=>rw[tT]at hg;cases hg
  |some ab=>
   obtain⟨a,b⟩:=ab;rw[tT]at hg hp;obtain⟨c1,c2,rfl,h1,h2,_⟩:=h.split tT;have NH:=h1.length
   cases d with
   |false=>
    cases hq:a.put p u with
    |none=>simp only[hq]at hp;cases hp
    |some a'=>
     simp only[hq,ajj]at hp;subst hp;have h3:=Holds.put hu hg hq hz h1;have g2:=(Holds.get hg h1).2;refine⟨_,c2,?_,h3,h2⟩
     grind
   |true=>
    cases hb:b.get p with
    |none=>simp only[hb]at hg;cases hg
    |some so=>
     obtain⟨s',eE⟩:=so;simp only[hb,ajj,Prod.mk.injEq]at hg;obtain⟨rfl,rfl⟩:=hg
     cases hq:b.put p u with
     |none=>simp only[hq]at hp;cases hp
     |some b'=>
      simp only[hq,ajj]at hp;subst hp;have h3:=Holds.put hu hb hq hz h2;refine⟨c1,_,?_,h1,h3⟩
      rw[<-NH,List.take_append,List.take_of_length_le (by omega),List.drop_append,ajX (by omega),show c1.length+eE-c1.length=eE from by omega,
       show c1.length+eE+u.size-c1.length=eE+u.size from by omega]
      simp[List.append_assoc]
end
def Kq.beq:Kq->Kq->Bool
 | .map, .map=>af
 | .ptr, .ptr=>af
 | .func, .func=>af
 |_,_=>ag
def Kq.eq_of_beq{a b:Kq}(h:a.beq b=af):a=b:=by cases a<;>cases b<;>first|rfl|cases h
def Row.beq:Row->Row->Bool
 | .int k, .int k'=>decide (k=k')
 | .bool, .bool=>af
 | .str, .str=>af
 | .lZ, .lZ=>af
 | .nul a, .nul b=>a.beq b
 | .map a x b, .map c y d=>a.beq c&&(bif x then y else !y)&&b.beq d
 | .slice a, .slice b=>a.beq b
 | .pair a b, .pair c d=>a.beq c&&b.beq d
 |_,_=>ag
def Row.eq_of_beq:{r s:Row}->r.beq s=af->r=s
 | .int k, .int k',h=>by rw[an (show decide (k=k')=af from h)]
 | .bool, .bool,_=>rfl
 | .str, .str,_=>rfl
 | .lZ, .lZ,_=>rfl
 | .nul a, .nul b,h=>by rw[Kq.eq_of_beq (show a.beq b=af from h)]
 | .map a x b, .map c y d,h=>by
   have h':(a.beq c&&(bif x then y else !y)&&b.beq d)=af:=h;rw[akd,akd]at h'
   have rU:x=y:=by cases x<;>cases y<;>simp_all
   rw[Row.eq_of_beq h'.1.1,Row.eq_of_beq h'.2,rU]
 | .slice a, .slice b,h=>by rw[Row.eq_of_beq (show a.beq b=af from h)]
 | .pair a b, .pair c d,h=>by
   have h':(a.beq c&&b.beq d)=af:=h;rw[akd]at h';rw[Row.eq_of_beq h'.1,Row.eq_of_beq h'.2]
def jZ{r s:Row}(h:r=s)(x:r.den):s.den:=h▸x
def Row.beq_refl:(r:Row)->r.beq r=af
 | .int k=>by simp[Row.beq]
 | .bool=>rfl
 | .str=>rfl
 | .lZ=>rfl
 | .nul a=>by cases a<;>rfl
 | .map a x b=>by
   show(a.beq a&&(bif x then x else !x)&&b.beq b)=af
   rw[Row.beq_refl a,Row.beq_refl b]
   cases x<;>rfl
 | .slice a=>Row.beq_refl a
 | .pair a b=>by
   show(a.beq a&&b.beq b)=af
   rw[Row.beq_refl a,Row.beq_refl b];rfl
def DR.beq:DR->DR->Bool
 | .leaf r, .leaf s=>r.beq s
 | .sl T d, .sl T' d'=>ajf T T'&&d.beq d'
 | .pair a b, .pair c d=>a.beq c&&b.beq d
 |_,_=>ag
def DR.eq_of_beq:{d e:DR}->d.beq e=af->d=e
 | .leaf r, .leaf s,h=>by rw[Row.eq_of_beq (show r.beq s=af from h)]
 | .sl T d, .sl T' d',h=>by
   obtain⟨h1,h2⟩:=(akd _ _▸(show(ajf T T'&&d.beq d')=af from h):ajf T T'=af/\d.beq d'=af)
   rw[Nat.eq_of_beq_eq_true h1,DR.eq_of_beq h2]
 | .pair a b, .pair c d,h=>by
   obtain⟨h1,h2⟩:=(akd _ _▸(show(a.beq c&&b.beq d)=af from h):a.beq c=af/\b.beq d=af)
   rw[DR.eq_of_beq h1,DR.eq_of_beq h2]
 | .leaf _, .sl ..,h=>by cases h
 | .leaf _, .pair ..,h=>by cases h
 | .sl .., .leaf _,h=>by cases h
 | .sl .., .pair ..,h=>by cases h
 | .pair .., .leaf _,h=>by cases h
 | .pair .., .sl ..,h=>by cases h
def py:List Bool->List Bool->Bool
 |[],[]=>af
 |a::p,b::q=>(bif a then b else !b)&&py p q
 |_,_=>ag
theorem rX:{p q:List Bool}->py p q=af->p=q
 |[],[],_=>rfl
 |a::p,b::q,h=>by
  have h':((bif a then b else !b)&&py p q)=af:=h;rw[akd]at h';rw[rX h'.2]
  grind
 |[],_::_,h=>by cases h
 |_::_,[],h=>by cases h
def EL:(r s:Row)->Option r.den
 | .map .., .nul .map=>aa []
 |_,_=>ae
def IB{F:Nat->Prop}{w:World}:{r s:Row}->{x:r.den}->{y:s.den}->{cs:List Value}->EL r s=aa x->cI F w s cs y->cI F w r cs x
 | .map .., .nul .map,x,_,cs,h,hr=>by
   obtain rfl:=aja h;exact⟨.map ae,hr, .inl ⟨rfl,rfl⟩⟩
 | .map .., .int _,_,_,_,h,_| .map .., .bool,_,_,_,h,_| .map .., .str,_,_,_,h,_| .map .., .slice _,_,_,_,h,_| .map .., .lZ,_,_,_,h,_| .map .., .map ..,_,_,_,h,_| .map .., .pair ..,_,_,_,h,_| .map .., .nul .ptr,_,_,_,h,_| .map .., .nul .func,_,_,_,h,_=>by cases h
 | .int _,_,_,_,_,h,_| .bool,_,_,_,_,h,_| .str,_,_,_,_,h,_| .slice _,_,_,_,_,h,_| .lZ,_,_,_,_,h,_| .nul _,_,_,_,_,h,_| .pair ..,_,_,_,_,h,_=>by unfold EL at h;cases h
def flat(ob:Nat->Option (Nat×Th)):(r:Row)->Tree->Option r.den
 |r, .leaf s x=>if h:s.beq r=af then aa (jZ (Row.eq_of_beq h) x)else EL r s
 | .slice e, .own o=>match ob o with
   |some (_, .vB _ s l)=>if h:s.beq e=af then aa (jZ (r:= .slice s) (s:= .slice e) (ay Row.slice (Row.eq_of_beq h)) l)else ae
   |some (_, .fdeep _ d l)=>if h:d.row.beq e=af then aa (jZ (r:= .slice d.row) (s:= .slice e) (ay Row.slice (Row.eq_of_beq h)) l)else ae
   |_=>ae
 | .slice _, .nil=>aa []
 | .map K agg V, .own o=>match ob o with
   |some (_, .fmap _ K' mL V' l)=>if h:(Row.map K' mL V').beq (.map K agg V)=af then aa (jZ (Row.eq_of_beq h) l)else ae
   |some (_, .fdmap _ K' _ r' l)=>if h:(Row.map K' ag (.slice r')).beq (.map K agg V)=af then aa (jZ (r:= .map K' ag (.slice r')) (Row.eq_of_beq h) l)else ae
   |_=>ae
 | .slice e, .view o s r m=>match ob o with
   |some (s', .vB ..)=>bif ajf s' s then(if h:r.beq e=af then aa (jZ (r:= .slice r) (s:= .slice e) (ay Row.slice (Row.eq_of_beq h)) m)else ae)else ae
   |_=>ae
 | .pair a b, .pair t u=>match flat ob a t with
   |none=>ae
   |some x=>match flat ob b u with
    |none=>ae
    |some y=>aa (x,y)
 |_,_=>ae
section
variable {U:Nat->Prop} {H:aK} {F:Nat->Prop} {w:World} {ob:Nat->Option (Nat×Th)} {n:Nat}
def yX(hs:aL U H F w ob n){o s:Nat}{T:TypeId}{r0 r:Row}{l0:List r0.den}{m:List r.den}{v:Value}(ho:ob o=aa (s, .vB T r0 l0))(h:mX H o s r m v):cI F w (.slice r) [v] m:=by
 obtain⟨A,cap,T',l,a,b,h1,h2,h3,h4,rfl,rfl⟩:=h;obtain⟨v',dZ,cT⟩:=hs.obj _ _ _ ho;rw[h1]at dZ;obtain rfl:=aja dZ;have e:=cT.con;rw[h2]at e;simp only[Th.base,ajj,Th.own.injEq]at e;obtain⟨rfl,rfl,e⟩:=e;obtain rfl:=eq_of_heq e;exact cI.cut cT.ok h3 h4
theorem jL(hs:aL U H F w ob n):{r:Row}->{t:Tree}->{x:r.den}->{cs:List Value}->flat ob r t=aa x->Holds H F w t cs->cI F w r cs x
 |r, .leaf s x0,x,cs,hf,h=>by
  unfold flat at hf;split at hf
  .rename_i e;obtain rfl:=Row.eq_of_beq e;obtain rfl:=aja hf;exact h
  .exact IB hf h
 | .slice e, .own o,x,cs,hf,h=>by
   unfold flat at hf;split at hf
   .rename_i s0 T s l yr;split at hf
    .rename_i e;obtain rfl:=Row.eq_of_beq e;obtain rfl:=aja hf;obtain⟨v,hv,_,rfl⟩:=h;obtain⟨v',dZ,cT⟩:=hs.obj _ _ _ yr;rw[hv]at dZ;obtain rfl:=aja dZ;exact cT.ok
    .cases hf
   .rename_i s0 T d l yr;split at hf
    .rename_i e;obtain rfl:=Row.eq_of_beq e;obtain rfl:=aja hf;obtain⟨v,hv,_,rfl⟩:=h;obtain⟨v',dZ,cT⟩:=hs.obj _ _ _ yr;rw[hv]at dZ;obtain rfl:=aja dZ;exact cT.ok
    .cases hf
   .cases hf
 | .map K agg V, .own o,x,cs,hf,h=>by
   unfold flat at hf;split at hf
   .rename_i s0 T K' mL V' l yr;split at hf
    .rename_i e;cases Row.eq_of_beq e;obtain rfl:=aja hf;obtain⟨v,hv,_,rfl⟩:=h;obtain⟨v',dZ,cT⟩:=hs.obj _ _ _ yr;rw[hv]at dZ;obtain rfl:=aja dZ;exact cT.ok
    .cases hf
   .rename_i s0 T K' E r' l yr;split at hf
    .rename_i e;cases Row.eq_of_beq e;obtain rfl:=aja hf;obtain⟨v,hv,_,rfl⟩:=h;obtain⟨v',dZ,cT⟩:=hs.obj _ _ _ yr;rw[hv]at dZ;obtain rfl:=aja dZ;exact cT.ok
    .cases hf
   .cases hf
 | .slice e, .nil,x,cs,hf,h=>by
   unfold flat at hf;obtain rfl:=aja hf;rw[show cs=_ from h];exact cI.nil F w e
 | .slice e, .view o s r m,x,cs,hf,h=>by
   unfold flat at hf;split at hf
   .rename_i s' T r' l' yr
    cases hb:ajf s' s with
    |false=>rw[hb]at hf;cases hf
    |true=>
     rw[hb,cond_true]at hf;obtain rfl:=Nat.eq_of_beq_eq_true hb;split at hf
     .rename_i e;obtain rfl:=Row.eq_of_beq e;obtain rfl:=aja hf;obtain⟨v,rfl,h⟩:=h;exact yX hs yr h
     .cases hf
   .cases hf
 | .pair a b, .pair t u,x,cs,hf,h=>by
   obtain⟨c1,c2,rfl,h1,h2⟩:=h;unfold flat at hf
   cases ha:flat ob a t with
   |none=>grind
   |some p=>
    cases hb:flat ob b u with
    |none=>grind
    |some q=>
     simp only[ha,hb,ajj]at hf;subst hf;exact⟨c1,c2,rfl,jL hs ha h1,jL hs hb h2⟩
 | .int _, .own _,_,_,hf,_=>by unfold flat at hf;cases hf
 | .bool, .own _,_,_,hf,_=>by unfold flat at hf;cases hf
 | .str, .own _,_,_,hf,_=>by unfold flat at hf;cases hf
 | .lZ, .own _,_,_,hf,_=>by unfold flat at hf;cases hf
 | .nul _, .own _,_,_,hf,_=>by unfold flat at hf;cases hf
 | .pair _ _, .own _,_,_,hf,_=>by unfold flat at hf;cases hf
 | .int _, .nil,_,_,hf,_=>by unfold flat at hf;cases hf
 | .bool, .nil,_,_,hf,_=>by unfold flat at hf;cases hf
 | .str, .nil,_,_,hf,_=>by unfold flat at hf;cases hf
 | .lZ, .nil,_,_,hf,_=>by unfold flat at hf;cases hf
 | .nul _, .nil,_,_,hf,_=>by unfold flat at hf;cases hf
 | .map .., .nil,_,_,hf,_=>by unfold flat at hf;cases hf
 | .pair _ _, .nil,_,_,hf,_=>by unfold flat at hf;cases hf
 | .int _, .view ..,_,_,hf,_=>by unfold flat at hf;cases hf
 | .bool, .view ..,_,_,hf,_=>by unfold flat at hf;cases hf
 | .str, .view ..,_,_,hf,_=>by unfold flat at hf;cases hf
 | .lZ, .view ..,_,_,hf,_=>by unfold flat at hf;cases hf
 | .nul _, .view ..,_,_,hf,_=>by unfold flat at hf;cases hf
 | .map .., .view ..,_,_,hf,_=>by unfold flat at hf;cases hf
 | .pair _ _, .view ..,_,_,hf,_=>by unfold flat at hf;cases hf
 | .int _, .junk _,_,_,hf,_=>by unfold flat at hf;cases hf
 | .bool, .junk _,_,_,hf,_=>by unfold flat at hf;cases hf
 | .str, .junk _,_,_,hf,_=>by unfold flat at hf;cases hf
 | .slice _, .junk _,_,_,hf,_=>by unfold flat at hf;cases hf
 | .lZ, .junk _,_,_,hf,_=>by unfold flat at hf;cases hf
 | .nul _, .junk _,_,_,hf,_=>by unfold flat at hf;cases hf
 | .map .., .junk _,_,_,hf,_=>by unfold flat at hf;cases hf
 | .pair _ _, .junk _,_,_,hf,_=>by unfold flat at hf;cases hf
 | .int _, .pair _ _,_,_,hf,_=>by unfold flat at hf;cases hf
 | .bool, .pair _ _,_,_,hf,_=>by unfold flat at hf;cases hf
 | .str, .pair _ _,_,_,hf,_=>by unfold flat at hf;cases hf
 | .lZ, .pair _ _,_,_,hf,_=>by unfold flat at hf;cases hf
 | .nul _, .pair _ _,_,_,hf,_=>by unfold flat at hf;cases hf
 | .map .., .pair _ _,_,_,hf,_=>by unfold flat at hf;cases hf
 | .slice _, .pair _ _,_,_,hf,_=>by unfold flat at hf;cases hf
end
def Row.Ck:Row->Tree
 | .slice _=> .nil
 | .pair a b=> .pair a.Ck b.Ck
 |r=> .leaf r r.zero
def Row.n7(H:aK)(F:Nat->Prop)(w:World):(r:Row)->Holds H F w r.Ck r.dI
 | .int _=>rfl
 | .bool=>rfl
 | .str=>rfl
 | .slice _=>rfl
 | .lZ=>⟨rfl,ae,0,0,rfl⟩
 | .nul _=>rfl
 | .map .. =>⟨_,rfl, .inl ⟨rfl,rfl⟩⟩
 | .pair a b=>⟨_,_,rfl,Row.n7 H F w a,Row.n7 H F w b⟩
end
end Go.Proofs.YtleifhfeahnocaaGreatDoor
