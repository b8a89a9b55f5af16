/- Joined texts: Base Mem Own More Lit Open Cut Glob Deep Sym Eff Path. -/
import Derived.WalkKit
import Derived.WalkSpells
import Derived.WalkLawsBesides
import Derived.LoopN
import Derived.Deep.Draws
import Derived.Deep.Quiet
import Derived.Maps.AppendAt
import Derived.OwnWalk
import Derived.KernelRfl
import Derived.MapKept
import Derived.Maps.RangeRun
import Derived.Laws.StructEq
import Derived.Test.YtfeahmiobbjklaaGreatDoorRows
import Derived.ProofKit
import Derived.OpenShut
import Derived.JoinedCond
import Derived.Deep.Slices
import Derived.Laws.Slices
set_option linter.defProp false
open _root_.Bool renaming false->ag,true->af,and_eq_true->arY
open _root_.Option renaming none->ae,some->aa
open _root_.Array renaming getD_eq_getD_getElem?->arq,getElem?_eq_getElem->arc,toArray_toList->arL
open _root_.Classical renaming propDecidable->aro
open _root_.List renaming getElem?_eq_getElem->aqR,getElem?_eq_some_iff->aq9,mem_append->arf,getElem?_drop->ars,getElem?_take->arB,getElem_append_left->arE,getElem_append_right->arJ,getElem_of_mem->aq6,range->aq0,replicate->aqW,append_assoc->arQ,getElem?_append->asu,length_take->ard,take_append_drop->asc
open _root_.Nat renaming beq->aqV,blt->aru,le_refl->aqU,add_mul->arn,le_trans->ark,mod_lt->ar0,mul_comm->arm,mul_le_mul_right->aq4,min_eq_left->ar1,lt_of_lt_of_le->arh
open _root_.Option.some renaming inj->aqP,injEq->aq2
open _root_.Go.Region renaming wanted->ase
open _root_.Go.Value renaming oneCell'->ar8,ownBlock->are
open _root_.Go.Builtin renaming append_->asl
open _root_.ByteArray renaming empty->asg
open _root_.Go.Sem renaming run->asF
open _root_.Go.Value.slice renaming injEq->asf
open _root_.List.cons renaming injEq->arV
open _root_.BitVec renaming ofInt->arH
open _root_.Int renaming tdiv->aq1,tmod->aq3
namespace Go.Proofs.YtfeahmiobbjklaaGreatDoor
open Go Go.RowKit
set_option maxRecDepth 100000
set_option linter.unusedSimpArgs false
set_option linter.unusedVariables false
set_option linter.defProp false
section
def ai.{u}:type_of% @_root_.if_neg.{u}:= @_root_.if_neg.{u}
def aj.{u}:type_of% @_root_.if_pos.{u}:= @_root_.if_pos.{u}
def al:type_of% @_root_.of_decide_eq_true:= @_root_.of_decide_eq_true
def an:type_of% @_root_.decide_eq_true:= @_root_.decide_eq_true
def ao:type_of% @_root_.decide_eq_false:= @_root_.decide_eq_false
def aq.{u}:type_of% @_root_.implies_true.{u}:= @_root_.implies_true.{u}
def au.{u}:type_of% @_root_.forall_const.{u}:= @_root_.forall_const.{u}
def av.{u,v}:type_of% @_root_.congrArg.{u,v}:= @_root_.congrArg.{u,v}
def aw:type_of% @_root_.decide_eq_true_eq:= @_root_.decide_eq_true_eq
def ax:type_of% @_root_.iff_of_false:= @_root_.iff_of_false
def ay:type_of% @_root_.decide_eq_false_iff_not:= @_root_.decide_eq_false_iff_not
open Go Go.RowKit
inductive OQ where
 |map
 |ptr
 |func
def OQ.val:OQ->Value
 | .map=> .map ae
 | .ptr=> .pointer ae
 | .func=> .nilFunc
theorem OQ.one(k:OQ):k.val.oneCell'=af:=by cases k<;>simp[OQ.val,ar8]
inductive Row where
 |int (k:IntKind)
 |bool
 |str
 |slice (e:Row)
 |od
 |nul (k:OQ)
 |map (K:Row) (agg:Bool) (V:Row)
 |pair (a b:Row)
@[reducible] def Row.den:Row->Type
  | .int _=>Int
  | .bool=>Bool
  | .str=>ByteArray
  | .slice e=>List e.den
  | .od=>Value
  | .nul _=>Unit
  | .map K _ V=>List (K.den×V.den)
  | .pair a b=>a.den×b.den
noncomputable instance Row.decEq:(r:Row)->DecidableEq r.den
 | .int _=>inferInstanceAs (DecidableEq Int)
 | .bool=>inferInstanceAs (DecidableEq Bool)
 | .str=>inferInstanceAs (DecidableEq ByteArray)
 | .slice e=>have:=Row.decEq e;inferInstanceAs (DecidableEq (List e.den))
 | .od=>λa b=>aro (a=b)
 | .nul _=>inferInstanceAs (DecidableEq Unit)
 | .map K _ V=>have:=Row.decEq K;have:=Row.decEq V;inferInstanceAs (DecidableEq (List (K.den×V.den)))
 | .pair a b=>have:=Row.decEq a;have:=Row.decEq b;inferInstanceAs (DecidableEq (a.den×b.den))
@[simp] def Row.size:Row->Nat
  | .pair a b=>a.size+b.size
  |_=>1
theorem Row.size_pos:(r:Row)->0<r.size
 | .pair a b=>by have:=Row.size_pos a;simp;omega
 | .int _| .bool| .str| .slice _| .od| .nul _| .map .. =>by simp
def mS:(K:Row)->K.den->Option Value
 | .int k,n=>aa (.int k n)
 | .bool,b=>aa (.bool b)
 | .str,s=>aa (.string s)
 | .pair (.int j) (.int k),x=>aa (.agg #[.int j x.1, .int k x.2])
 |_,_=>ae
def dy(F:Nat->Prop)(w:World):(r:Row)->List Value->r.den->Prop
 | .int k,cs,n=>cs=[.int k n]
 | .bool,cs,b=>cs=[.bool b]
 | .str,cs,s=>cs=[.string s]
 | .slice e,cs,l=>∃A cap,cs=[.slice A l.length cap]/\l.length<=cap/\cap<=maxLen/\
     ∀i(h:i<l.length),∃b off es,A=aa ⟨b,off,ae⟩/\F b/\es.length=e.size/\
      (∀j u,es[j]? =aa u->w.cell? ⟨b,off+i*e.size+j,ae⟩=aa u)/\dy F w e es l[i]
 | .od,cs,v=>cs=[v]/\∃A m c,v= .slice A m c
 | .nul k,cs,_=>cs=[k.val]
 | .map K agg V,cs,l=>∃v,cs=[v]/\((v= .map ae/\l=[])\/∃b es clock,v= .map (aa b)/\F b/\w.heap[b]? =aa (.map es clock)/\MapKept.Stamped es clock/\es.size=l.length/\
     ∀i(h:i<l.length),∃(e:MapEntry)(cs:List Value),es[i]? =aa e/\mS K l[i].1=aa e.key/\dy F w V cs l[i].2/\e.val=(bif agg then .agg cs.toArray else cs.headD undef)/\(agg=ag->cs=[e.val]))
 | .pair a b,cs,d=>∃c1 c2,cs=c1++c2/\dy F w a c1 d.1/\dy F w b c2 d.2
theorem dy.length{F:Nat->Prop}{w:World}:{r:Row}->{cs:List Value}->{d:r.den}->dy F w r cs d->cs.length=r.size
 | .int _,_,_,h=>by rw[show _=_ from h];rfl
 | .bool,_,_,h=>by rw[show _=_ from h];rfl
 | .str,_,_,h=>by rw[show _=_ from h];rfl
 | .slice _,_,_,h=>by obtain⟨A,cap,h,_⟩:=h;rw[h];rfl
 | .od,_,_,h=>by rw[h.1];rfl
 | .nul _,_,_,h=>by rw[show _=_ from h];rfl
 | .map ..,_,_,h=>by obtain⟨v,rfl,_⟩:=h;rfl
 | .pair a b,_,_,h=>by
   obtain⟨c1,c2,rfl,h1,h2⟩:=h;simp[h1.length,h2.length]
def dy.mb{F:Nat->Prop}{w:World}:{r:Row}->{cs:List Value}->{d:r.den}->dy F w r cs d->∀u∈cs,u.oneCell'=af
 | .int _,_,_,h=>by rw[show _=_ from h];simp[ar8]
 | .bool,_,_,h=>by rw[show _=_ from h];simp[ar8]
 | .str,_,_,h=>by rw[show _=_ from h];simp[ar8]
 | .slice _,_,_,h=>by obtain⟨A,cap,rfl,_⟩:=h;simp[ar8]
 | .od,_,_,h=>by obtain⟨rfl,A,m,c,rfl⟩:=h;simp[ar8]
 | .nul k,_,_,h=>by rw[show _=_ from h];simp[k.one]
 | .map ..,_,_,h=>by
   obtain⟨v,rfl,h⟩:=h
   rcases h with⟨rfl,_⟩|⟨b,es,clock,rfl,_⟩<;>simp[ar8]
 | .pair a b,_,_,h=>by
   obtain⟨c1,c2,rfl,h1,h2⟩:=h;intro u hu
   rcases arf.1 hu with h'|h'
   .exact h1.mb u h'
   .exact h2.mb u h'
def Step(F:Nat->Prop)(w:World)(F':Nat->Prop)(w':World):Prop:=∀b,F b->F' b/\w'.heap[b]? =w.heap[b]?
def dy.step{F F':Nat->Prop}{w w':World}(ho:Step F w F' w'):{r:Row}->{cs:List Value}->{d:r.den}->dy F w r cs d->dy F' w' r cs d
 | .int _,_,_,h=>h
 | .bool,_,_,h=>h
 | .str,_,_,h=>h
 | .slice e,_,l,h=>by
   obtain⟨A,cap,hc,h1,h2,h3⟩:=h;refine⟨A,cap,hc,h1,h2,λi hi=>?_⟩;obtain⟨b,off,es,hA,hb,yx,zw,hr⟩:=h3 i hi;exact⟨b,off,es,hA,(ho b hb).1,yx,λj u hu=>(World.cell?_of_block (ho b hb).2).trans (zw j u hu),hr.step ho⟩
 | .od,_,_,h=>h
 | .nul _,_,_,h=>h
 | .map K agg V,_,l,h=>by
   obtain⟨v,hv,h⟩:=h;refine⟨v,hv,h.imp id λ⟨b,es,clock,h1,h2,h3,h4,h5,h6⟩=>⟨b,es,clock,h1,(ho b h2).1,(ho b h2).2.trans h3,h4,h5,λi hi=>?_⟩⟩;obtain⟨e,cs,g1,g2,g3,g4⟩:=h6 i hi;exact⟨e,cs,g1,g2,g3.step ho,g4⟩
 | .pair a b,_,_,h=>by
   obtain⟨c1,c2,hc,h1,h2⟩:=h;exact⟨c1,c2,hc,h1.step ho,h2.step ho⟩
def At(F:Nat->Prop)(w:World)(r:Row)(b off:Nat)(x:r.den):Prop:=
 ∃es,es.length=r.size/\(∀j u,es[j]? =aa u->w.cell? ⟨b,off+j,ae⟩=aa u)/\dy F w r es x
def At.fst{F:Nat->Prop}{w:World}{r s:Row}{b off:Nat}{x:(Row.pair r s).den}(h:At F w (.pair r s) b off x):At F w r b off x.1:=by
 obtain⟨es,hl,hc,c1,c2,rfl,h1,h2⟩:=h;exact⟨c1,h1.length,(by grind),h1⟩
def At.snd{F:Nat->Prop}{w:World}{r s:Row}{b off:Nat}{x:(Row.pair r s).den}(h:At F w (.pair r s) b off x)(k:Nat)(hk:k=r.size):At F w s b (off+k) x.2:=by
 obtain⟨es,hl,hc,c1,c2,rfl,h1,h2⟩:=h;subst hk
 exact⟨c2,h2.length,λj u hu=>by
  have:=hc (r.size+j) u (by
   grind [dy.length])
  grind,h2⟩
theorem dy.nil(F:Nat->Prop)(w:World)(e:Row):dy F w (.slice e) [.slice ae 0 0] []:=⟨ae,0,rfl,aqU _,by simp[maxLen],λi hi=>absurd hi (by simp)⟩
def dy.IA{F:Nat->Prop}{w:World}{e:Row}{v:Value}{l:List e.den}(h:dy F w (.slice e) [v] l):
 ∃A cap,v= .slice A l.length cap/\l.length<=cap/\cap<=9223372036854775807:=by
 obtain⟨A,cap,h1,h2,h3,_⟩:=h;exact⟨A,cap,by simpa using h1,h2,h3⟩
def Step.refl(F:Nat->Prop)(w:World):Step F w F w:=λ_ h=>⟨h,rfl⟩
def Step.trans{F F1 F2:Nat->Prop}{w w1 w2:World}(h:Step F w F1 w1)(k:Step F1 w1 F2 w2):Step F w F2 w2:=λb hb=>⟨(k b (h b hb).1).1,(k b (h b hb).1).2.trans (h b hb).2⟩
def Step.drew(F:Nat->Prop)(w:World):Step F w F w.drew:=λ_ h=>⟨h,rfl⟩
def Step.alloc{F:Nat->Prop}{w:World}(h:∀b,F b->b<w.heap.size)(o:Obj):Step F w F (w.alloc o):=λb hb=>⟨hb,Below.heap_alloc w o b (h b hb)⟩
def Step.freeze(F:Nat->Prop)(w:World)(G:Nat->Prop):Step F w (λb=>F b\/G b) w:=λ_ h=>⟨.inl h,rfl⟩
structure Fr(n:Nat)(a:Act)(ρ:Nat->Value):Prop where
 size:a.tmps.size=n
 defers:a.defers=[]
 get:∀t,a.tmps.getD t undef=ρ t
def Iq(ρ:Nat->Value)(d:Nat)(v:Value):Nat->Value:=λt=>bif aqV t d then v else ρ t
def ev(ρ:Nat->Value):Operand->Value
 | .tmp t=>ρ t
 | .const v=>v
 | .global g=> .pointer (aa ⟨g,0,ae⟩)
 | .func f=> .func (.func f) #[] #[]
def Fr.eval{n:Nat}{a:Act}{ρ:Nat->Value}(h:Fr n a ρ):a.eval=ev ρ:=by
 funext x
 cases x with
 |tmp t=>exact h.get t
 |const v=>rfl
 |global g=>rfl
 |func f=>rfl
def Fr.put{n:Nat}{a:Act}{ρ:Nat->Value}(h:Fr n a ρ){d:Nat}(hd:aru d n=af)(v:Value):Fr n (a.put (aa d) v) (Iq ρ d v):=by
 have aF:d<n:=by simpa[Nat.blt_eq]using hd
 refine⟨by simpa[Act.put]using h.size,by simpa[Act.put]using h.defers,λt=>?_⟩;have hs:=h.size;have hg:=h.get t;simp only[Act.put,arq,Array.getElem?_setIfInBounds]at hg⊢;unfold Iq;by_cases ht:t=d
 .simp_all
 .have eG:¬d=t:=λe=>ht e.symm
  grind [Nat.eq_of_beq_eq_true]
def wpS(P:Program)(n:Nat)(ops:Array Oper)(K:(Nat->Value)->World->Prop)(l:List Oper)(ρ:Nat->Value)(w:World):Prop:=
 ∀(Q:Exit->Act->World->Prop)(a:Act),Fr n a ρ->(∀a' dN w',Fr n a' dN->K dN w'->Q .normal a' w')->wpList P ops Q l a w
section
variable {P:Program} {n:Nat} {ops:Array Oper} {K:(Nat->Value)->World->Prop} {rest:List Oper} {ρ:Nat->Value} {w:World}
def Tp(h:K ρ w):wpS P n ops K [] ρ w:=λ_ _ hf hk=>hk _ _ _ hf h
def Pure(P:Program)(ρ:Nat->Value)(o:Oper)(v:Value):Prop:=∀w,(execOp (ev ρ) o).run P w= .ok (.value v) w
def rP{a:Act}(hf:Fr n a ρ){j d:Nat}{b:Bool}(hj:(ops[j]?).bind (·.dst)=aa d)(hd:aru d n=af)(hb:ρ d= .bool b):yielded ops a.tmps j=aa b:=by
 have aF:d<n:=by simpa[Nat.blt_eq]using hd
 have hg:=hf.get d;have hs:=hf.size;rw[hb]at hg
 have:a.tmps[d]? =aa (.bool b):=by
  rw[arq]at hg;rw[arc (by omega)]at hg⊢;simpa using hg
 unfold yielded
 grind
def WE{dst:Option Nat}{op:Op}{ty:TypeId}{pos:String}{aft:Array Edge}{j:Nat}{b:Bool}(d:Nat)(hj:(ops[j]?).bind (·.dst)=aa d)(hd:aru d n=af)(hb:ρ d= .bool b)
 (h:wpS P n ops K (⟨dst,op,ty,pos,aft,ae⟩::rest) ρ w):wpS P n ops K (⟨dst,op,ty,pos,aft,aa (j,b)⟩::rest) ρ w:=
 λQ a hf hk=>by
  have:=h Q a hf hk;unfold wpList at this⊢;rw[aj (by simp[ase])]at this;rw[aj (by simp[ase,rP hf hj hd hb])];exact this
def Tq{d':Nat}{op:Op}{ty:TypeId}{pos:String}{aft:Array Edge}{j:Nat}{b b':Bool}(d:Nat)(hj:(ops[j]?).bind (·.dst)=aa d)(hd:aru d n=af)(hb:ρ d= .bool b')(eG:b'≠b)(E7:aru d' n=af)
 (h:wpS P n ops K rest (Iq ρ d' undef) w):wpS P n ops K (⟨aa d',op,ty,pos,aft,aa (j,b)⟩::rest) ρ w:=
 λQ a hf hk=>by
  have:=h Q _ (hf.put E7 undef) hk;unfold wpList;rw[ai (by simp[ase,rP hf hj hd hb,eG])];exact this
def Du{op:Op}{ty:TypeId}{pos:String}{aft:Array Edge}{j:Nat}{b b':Bool}(d:Nat)(hj:(ops[j]?).bind (·.dst)=aa d)(hd:aru d n=af)(hb:ρ d= .bool b')(eG:b'≠b)
 (h:wpS P n ops K rest ρ w):wpS P n ops K (⟨ae,op,ty,pos,aft,aa (j,b)⟩::rest) ρ w:=
 λQ a hf hk=>by
  have:=h Q _ hf hk;unfold wpList;rw[ai (by simp[ase,rP hf hj hd hb,eG])];exact this
def qQ{a:Act}(hf:Fr n a ρ){j d:Nat}(hj:(ops[j]?).bind (·.dst)=aa d)(hd:aru d n=af)(hb:ρ d=undef):yielded ops a.tmps j=ae:=by
 have aF:d<n:=by simpa[Nat.blt_eq]using hd
 have hg:=hf.get d;have hs:=hf.size;rw[hb]at hg
 have:a.tmps[d]? =aa undef:=by
  rw[arq]at hg;rw[arc (by omega)]at hg⊢;simpa using hg
 unfold yielded;rw[hj];simp[this,undef]
def Pb{d':Nat}{op:Op}{ty:TypeId}{pos:String}{aft:Array Edge}{j:Nat}{b:Bool}(d:Nat)(hj:(ops[j]?).bind (·.dst)=aa d)(hd:aru d n=af)(hb:ρ d=undef)(E7:aru d' n=af)
 (h:wpS P n ops K rest (Iq ρ d' undef) w):wpS P n ops K (⟨aa d',op,ty,pos,aft,aa (j,b)⟩::rest) ρ w:=
 λQ a hf hk=>by
  have:=h Q _ (hf.put E7 undef) hk;unfold wpList;rw[ai (by simp[ase,qQ hf hj hd hb])];exact this
def Bp{op:Op}{ty:TypeId}{pos:String}{aft:Array Edge}{j:Nat}{b:Bool}(d:Nat)(hj:(ops[j]?).bind (·.dst)=aa d)(hd:aru d n=af)(hb:ρ d=undef)
 (h:wpS P n ops K rest ρ w):wpS P n ops K (⟨ae,op,ty,pos,aft,aa (j,b)⟩::rest) ρ w:=
 λQ a hf hk=>by
  have:=h Q _ hf hk;unfold wpList;rw[ai (by simp[ase,qQ hf hj hd hb])];exact this
end
def yU(P:Program)(n:Nat)(c:Code)(Q:Exit->(Nat->Value)->World->Prop)(ρ:Nat->Value)(w:World):Prop:=
 ∀a,Fr n a ρ->c.wp P (λe a' w'=>∃dN,Fr n a' dN/\Q e dN w') a w
def thn(K:(Nat->Value)->World->Prop)(Q:Exit->(Nat->Value)->World->Prop):Exit->(Nat->Value)->World->Prop
 | .normal,ρ,w=>K ρ w
 |e,ρ,w=>Q e ρ w
def Y0(id:Nat)(Q:Exit->(Nat->Value)->World->Prop):Exit->(Nat->Value)->World->Prop
 | .exit Mg,ρ,w=>bif aqV Mg id then Q .normal ρ w else Q (.exit Mg) ρ w
 |e,ρ,w=>Q e ρ w
section
variable {P:Program} {n:Nat} {Q:Exit->(Nat->Value)->World->Prop} {ρ:Nat->Value} {w:World}
def IB{id:Nat}{l:List Oper}(h:wpS P n l.toArray (λρ w=>Q .normal ρ w) l ρ w):yU P n (.region id l.toArray ag) Q ρ w:=
 λa hf=>wp_region_lit (h _ a hf λ_ _ _ vO hk=>⟨_,vO,hk⟩)
def Dv{a b:Code}(h:yU P n a (thn (λρ w=>yU P n b Q ρ w) Q) ρ w):yU P n (.seq a b) Q ρ w:=
 λact hf=>wp_seq (wp_mono (h act hf) λe a' w' ⟨dN,vO,hh⟩=>by
  cases e with
  |normal=>exact hh a' vO
  |_=>exact⟨dN,vO,hh⟩)
def Pd(h:Q .normal ρ w):yU P n .skip Q ρ w:=λ_ hf=>wp_skip ⟨_,hf,h⟩
def Pe{id:Nat}(h:Q (.exit id) ρ w):yU P n (.exit id) Q ρ w:=λ_ hf=>wp_exit ⟨_,hf,h⟩
def Tt(h:Q .ret ρ w):yU P n .ret Q ρ w:=λ_ hf=>wp_ret ⟨_,hf,h⟩
def wZ{id:Nat}{c:Code}(h:yU P n c (Y0 id Q) ρ w):yU P n (.block id c) Q ρ w:=
 λa hf=>wp_block (wp_mono (h a hf) λe a' w' ⟨dN,vO,hh⟩=>by
  cases e with
  |exit Mg=>
   unfold Exit.inBlock;by_cases he:Mg=id
   .subst he;simp only[Y0,show aqV Mg Mg=af from Nat.beq_refl _,cond_true]at hh;simpa using⟨dN,vO,hh⟩
   .have hb:aqV Mg id=ag:=by
     cases B3:aqV Mg id with
     |false=>rfl
     |true=>exact absurd (Nat.eq_of_beq_eq_true B3) he
    simp only[Y0,hb,cond_false]at hh;simpa[he]using⟨dN,vO,hh⟩
  |_=>exact⟨dN,vO,hh⟩)
def Fc{c:Operand}{x y:Code}(b:Bool)(hc:ev ρ c= .bool b)(h:yU P n (bif b then x else y) Q ρ w):yU P n (.cond c x y) Q ρ w:=
 λa hf=>wp_cond (t:=b) (by rw[hf.eval];exact hc) (by
  have:=h a hf
  grind)
def Pf{c:Operand}{x y:Code}(hc:ev ρ c= .bool af)(h:yU P n x Q ρ w):yU P n (.cond c x y) Q ρ w:=Fc af hc h
def Mh{c:Operand}{x y:Code}(hc:ev ρ c= .bool ag)(h:yU P n y Q ρ w):yU P n (.cond c x y) Q ρ w:=Fc ag hc h
def Loop{S X:Type}(body:S->Option (S⊕X)):Nat->S->Option X
 |0,_=>ae
 |k+1,s=>match body s with
  |none=>ae
  |some (.inl s')=>Loop body k s'
  |some (.inr x)=>aa x
def VG{S X:Type}(I:S->(Nat->Value)->World->Prop)(Q:Exit->(Nat->Value)->World->Prop)(x:X):S⊕X->Exit->(Nat->Value)->World->Prop
 | .inl s',e,ρ,w=>e= .normal/\I s' ρ w
 | .inr x',e,ρ,w=>e≠ .normal/\(x'=x->Q e ρ w)
def Pg{S X:Type}{body:S->Option (S⊕X)}{c:Code}(I:S->(Nat->Value)->World->Prop){x:X}{N:Nat}{s:S}(hm:Loop body N s=aa x)(h0:I s ρ w)
 (hb:∀s ρ w y,I s ρ w->body s=aa y->yU P n c (VG I Q x y) ρ w):yU P n (.loop c) Q ρ w:=by
 intro a hf;refine wp_loop_rounds N ?_
 induction N generalizing s ρ w a with
 |zero=>cases hm
 |succ k ih=>
  rw[rounds_succ];unfold Loop at hm
  cases hy:body s with
  |none=>simp[hy]at hm
  |some y=>
   refine wp_mono (hb s ρ w y h0 hy a hf) λe a' w' ⟨dN,vO,hh⟩=>?_
   cases y with
   |inl s'=>
    obtain⟨rfl,hI⟩:=hh;rw[hy]at hm;exact ih hm hI a' vO
   |inr x'=>
    rw[hy]at hm;obtain⟨eG,hq⟩:=hh;have:=hq (aqP hm)
    cases e with
    |normal=>grind
    |_=>exact⟨dN,vO,this⟩
def Zu(P:Program)(fn:Func)(n:Nat)(R:Value->World->Prop):Exit->(Nat->Value)->World->Prop
 | .normal,ρ,w| .ret,ρ,w=>∀a,Fr n a ρ->∃v,(results fn a.tmps).run P w= .ok v w/\R v w
 |_,_,_=>False
def Dw{f:FuncId}{fn:Func}{c:Code}{args:List Value}{R:Value->World->Prop}(hf:P.funcs[f]? =aa fn)(hb:fn.body=aa c)(hn:args.length<=fn.ntmps)
 (h:∀ρ,(∀t v,args[t]? =aa v->ρ t=v)->yU P fn.ntmps c (Zu P fn fn.ntmps R) ρ w):
 Calls P f args.toArray w λe w'=>∃v,e= .returned v/\R v w':=by
 refine calls_of_wp hf hb ?_
 have po:(args.toArray++Array.replicate (fn.ntmps-args.toArray.size) undef).size=fn.ntmps:=by simp;omega
 refine wp_mono (h (λt=>(args.toArray++Array.replicate (fn.ntmps-args.toArray.size) undef).getD t undef) ?_ _ ⟨po,rfl,λt=>rfl⟩) λe a' w' ⟨dN,vO,hh⟩=>?_
 .intro t v hv;have aF:t<args.length:=(aq9.1 hv).1
  have ga:args[t]=v:=by rw[aqR aF]at hv;exact aqP hv
  simp[arq,Array.getElem?_append,aF,ga]
 .cases e with
  |normal=>exact⟨vO.defers,(hh a' vO).imp λv hv=>⟨hv.1,v,rfl,hv.2⟩⟩
  |ret=>exact⟨vO.defers,(hh a' vO).imp λv hv=>⟨hv.1,v,rfl,hv.2⟩⟩
  |_=>exact hh.elim
end
end
end Go.Proofs.YtfeahmiobbjklaaGreatDoor
section
open _root_.Bool renaming false->ag,true->af
open _root_.Option renaming none->ae,some->aa
open _root_.List renaming append_assoc->arQ
open _root_.Nat renaming zero_add->arv
open _root_.Go.Sem renaming run_bind->arj
namespace Go.Proofs.YtfeahmiobbjklaaGreatDoor
open Go Go.RowKit
def tO{α:Type}[BEq α][LawfulBEq α][DecidableEq α](a b:α):(a==b)=decide (a=b):=by
 grind
def run_equal_bool{P:Program}{t:TypeId}(ht:P.underlying t=aa .bool)(p q:Bool)(w:World):(Op.equal t (.bool p) (.bool q)).run P w= .ok (p==q) w:=by
 have h:∀d:Nat,(Op.equalIn (d+1) t (.bool p) (.bool q)).run P w= .ok (p==q) w:=λd=>by
  simp[Op.equalIn,run_underlying ht]
 exact h 9999
section
variable {P:Program} {ρ:Nat->Value} {d:Option Nat} {ty:TypeId} {pos:String} {aft:Array Edge} {x y c:Operand} {t u:TypeId} {k:IntKind} {a b:Int}
def Mi{v:Value}(h:ev ρ x=v):Pure P ρ ⟨d, .move x,ty,pos,aft,ae⟩ v:=λw=>by simp[execOp,h]
def Fe{v:Value}(h:ev ρ x=v):Pure P ρ ⟨d, .assign x,ty,pos,aft,ae⟩ v:=λw=>by simp[execOp,h]
def zx{v:Value}(hc:ev ρ c= .bool af)(hx:ev ρ x=v):Pure P ρ ⟨d, .pick c x y,ty,pos,aft,ae⟩ v:=λw=>by
 simp[execOp,asBool,hc,hx]
def yy{v:Value}(hc:ev ρ c= .bool ag)(hy:ev ρ y=v):Pure P ρ ⟨d, .pick c x y,ty,pos,aft,ae⟩ v:=λw=>by
 simp[execOp,asBool,hc,hy]
def Ph(hx:ev ρ x= .int k a)(hy:ev ρ y= .int k b):Pure P ρ ⟨d, .binOp .add t x y u,ty,pos,aft,ae⟩ (.int k (k.wrap (a+b))):=λw=>by
 simp[execOp,eqGuard,binOp,Op.intArith,hx,hy]
def Pj(hx:ev ρ x= .int k a)(hy:ev ρ y= .int k b):Pure P ρ ⟨d, .binOp .sub t x y u,ty,pos,aft,ae⟩ (.int k (k.wrap (a-b))):=λw=>by
 simp[execOp,eqGuard,binOp,Op.intArith,hx,hy]
def Pk(hx:ev ρ x= .int k a)(hy:ev ρ y= .int k b):Pure P ρ ⟨d, .binOp .mul t x y u,ty,pos,aft,ae⟩ (.int k (k.wrap (a*b))):=λw=>by
 simp[execOp,eqGuard,binOp,Op.intArith,hx,hy]
def Pm(hx:ev ρ x= .int k a)(hy:ev ρ y= .int k b)(hb:b≠0):Pure P ρ ⟨d, .binOp .quo t x y u,ty,pos,aft,ae⟩ (.int k (k.wrap (a.tdiv b))):=λw=>by
 simp[execOp,eqGuard,binOp,Op.intDiv,hx,hy,hb]
def Pn(hx:ev ρ x= .int k a)(hy:ev ρ y= .int k b)(hb:b≠0):Pure P ρ ⟨d, .binOp .rem t x y u,ty,pos,aft,ae⟩ (.int k (a.tmod b)):=λw=>by
 simp[execOp,eqGuard,binOp,Op.intDiv,hx,hy,hb]
def Po(hx:ev ρ x= .int k a)(hy:ev ρ y= .int k b):Pure P ρ ⟨d, .binOp .lss t x y u,ty,pos,aft,ae⟩ (.bool (decide (a<b))):=λw=>by
 simp[execOp,eqGuard,binOp,Op.intCmp,hx,hy]
def Pp(hx:ev ρ x= .int k a)(hy:ev ρ y= .int k b):Pure P ρ ⟨d, .binOp .leq t x y u,ty,pos,aft,ae⟩ (.bool (decide (a<=b))):=λw=>by
 simp[execOp,eqGuard,binOp,Op.intCmp,hx,hy]
def Pq(hx:ev ρ x= .int k a)(hy:ev ρ y= .int k b):Pure P ρ ⟨d, .binOp .gtr t x y u,ty,pos,aft,ae⟩ (.bool (decide (b<a))):=λw=>by
 simp[execOp,eqGuard,binOp,Op.intCmp,hx,hy]
def Ps(hx:ev ρ x= .int k a)(hy:ev ρ y= .int k b):Pure P ρ ⟨d, .binOp .geq t x y u,ty,pos,aft,ae⟩ (.bool (decide (b<=a))):=λw=>by
 simp[execOp,eqGuard,binOp,Op.intCmp,hx,hy]
def Pu(hx:ev ρ x= .int k a)(hy:ev ρ y= .int k b):Pure P ρ ⟨d, .binOp .eql t x y u,ty,pos,aft,ae⟩ (.bool (decide (a=b))):=λw=>by
 simp[execOp,eqGuard,binOp,Op.intCmp,hx,hy,tO]
def Pv(hx:ev ρ x= .int k a)(hy:ev ρ y= .int k b):Pure P ρ ⟨d, .binOp .neq t x y u,ty,pos,aft,ae⟩ (.bool (!decide (a=b))):=λw=>by
 simp[execOp,eqGuard,binOp,Op.intCmp,hx,hy,bne,tO]
def Mj{p q:Bool}(ht:P.underlying t=aa .bool)(hx:ev ρ x= .bool p)(hy:ev ρ y= .bool q):Pure P ρ ⟨d, .binOp .eql t x y u,ty,pos,aft,ae⟩ (.bool (decide (p=q))):=λw=>by
 have h:=run_equal_bool ht p q w;rw[tO]at h;simp only[execOp,eqGuard,hx,hy];simp[binOp,h]
def Mk{p q:Bool}(ht:P.underlying t=aa .bool)(hx:ev ρ x= .bool p)(hy:ev ρ y= .bool q):Pure P ρ ⟨d, .binOp .neq t x y u,ty,pos,aft,ae⟩ (.bool (!decide (p=q))):=λw=>by
 have h:=run_equal_bool ht p q w;rw[tO]at h;simp only[execOp,eqGuard,hx,hy];simp[binOp,h]
def bytes_beq(p q:ByteArray):(p.toList==q.toList)=decide (p=q):=by
 rw[tO]
 congr 1
 rw[ByteArray.toList_eq,ByteArray.toList_eq];refine propext ⟨λh=>?_,λh=>by rw[h]⟩;cases p;cases q;simpa using h
def Ml{p q:ByteArray}(hx:ev ρ x= .string p)(hy:ev ρ y= .string q):Pure P ρ ⟨d, .binOp .eql t x y u,ty,pos,aft,ae⟩ (.bool (decide (p=q))):=λw=>by
 simp[execOp,eqGuard,binOp,Op.stringOp,hx,hy,bytes_beq]
def Mm{p q:ByteArray}(hx:ev ρ x= .string p)(hy:ev ρ y= .string q):Pure P ρ ⟨d, .binOp .neq t x y u,ty,pos,aft,ae⟩ (.bool (!decide (p=q))):=λw=>by
 simp[execOp,eqGuard,binOp,Op.stringOp,hx,hy,bytes_beq]
def Pw{p:Bool}(hx:ev ρ x= .bool p):Pure P ρ ⟨d, .unOp .not t x,ty,pos,aft,ae⟩ (.bool !p):=λw=>by
 simp[execOp,Op.unary,hx]
def Px(hx:ev ρ x= .int k a):Pure P ρ ⟨d, .unOp .neg t x,ty,pos,aft,ae⟩ (.int k (k.wrap (0-a))):=λw=>by
 simp[execOp,Op.unary,Op.intArith,hx]
def Mn{k':IntKind}{e:TypeDesc}(hs:P.underlying t=aa e)(hu:P.underlying u=aa (.int k'))(hx:ev ρ x= .int k a):Pure P ρ ⟨d, .convert t u x,ty,pos,aft,ae⟩ (.int k' (k'.wrap a)):=λw=>by
 simp[execOp,convert,run_underlying hs,run_underlying hu,hx,Conv.intToInt]
def Py{e:TypeId}{A:Option Addr}{n cap:Nat}{m:Nat}(hm:m=n)(ht:P.underlying t=aa (.slice e))(hx:ev ρ x= .slice A n cap):
 Pure P ρ ⟨d, .call {callee:= .builtin .len,args:= #[x],argTypes:= #[t]},ty,pos,aft,ae⟩ (.int .i64 (m:Int)):=λw=>by
 subst hm;simp[execOp,resolve,invoke,builtin,Builtin.len_,run_underlying ht,hx,goInt]
def Mo{s:ByteArray}(ht:P.underlying t=aa .string)(hx:ev ρ x= .string s):
 Pure P ρ ⟨d, .call {callee:= .builtin .len,args:= #[x],argTypes:= #[t]},ty,pos,aft,ae⟩ (.int .i64 (s.size:Int)):=λw=>by
 simp[execOp,resolve,invoke,builtin,Builtin.len_,run_underlying ht,hx,goInt]
def Mp{t':TypeId}(hx:ev ρ x= .int k a)(hy:ev ρ y= .int k b):
 Pure P ρ ⟨d, .call {callee:= .builtin .max,args:= #[x,y],argTypes:= #[t,t']},ty,pos,aft,ae⟩ (.int k (if a<b then b else a)):=λw=>by
 simp[execOp,resolve,invoke,builtin,Builtin.max_,Builtin.max2,hx,hy]
def Mq{t':TypeId}(hx:ev ρ x= .int k a)(hy:ev ρ y= .int k b):
 Pure P ρ ⟨d, .call {callee:= .builtin .min,args:= #[x,y],argTypes:= #[t,t']},ty,pos,aft,ae⟩ (.int k (if b<a then b else a)):=λw=>by
 simp[execOp,resolve,invoke,builtin,Builtin.min_,Builtin.min2,hx,hy]
def Dx{vs:Array Value}{i:Nat}{v:Value}(hx:ev ρ x= .tuple vs)(hi:vs[i]? =aa v):Pure P ρ ⟨d, .extract x i,ty,pos,aft,ae⟩ v:=λw=>by
 simp[execOp,Instr.extract,hx,hi]
theorem dV(b o k:Nat):(⟨b,o,ae⟩:Addr).add k=⟨b,o+k,ae⟩:=by unfold Addr.add;grind
theorem zy{f:Nat}{fs:Array Field}{fd:Field}{ti:TypeInfo}{q7 off:Nat}(k:Nat)(hs:P.underlying t=aa (.struct fs))(hf:fs[f]? =aa fd)(hi:P.info? fd.type=aa ti)(po:ti.size≠0)(hk:fd.offset=k)
 (hx:ev ρ x= .pointer (aa ⟨q7,off,ae⟩)):Pure P ρ ⟨d, .fieldAddr t x f,ty,pos,aft,ae⟩ (.pointer (aa ⟨q7,off+k,ae⟩)):=λw=>by
 subst hk;simp[execOp,Instr.fieldAt,run_underlying hs,hf,Instr.sureAddr,fieldPlace,sizeOf,typeInfo,hi,po,hx,dV]
def pV{e:TypeId}{ti:TypeInfo}{q7 off n cap i:Nat}(size:Nat)(ht:P.underlying t=aa (.slice e))(hi:P.info? e=aa ti)(po:ti.size=size)
 (hx:ev ρ x= .slice (aa ⟨q7,off,ae⟩) n cap)(hy:ev ρ y= .int k a)(ha:a=(i:Int))(aF:i<n):
 Pure P ρ ⟨d, .indexAddr t x y,ty,pos,aft,ae⟩ (.pointer (aa ⟨q7,off+i*size,ae⟩)):=λw=>by
 subst po;subst ha;simp[execOp,Instr.indexAt,asIntOf,run_underlying ht,sizeOf,typeInfo,hi,hx,hy,aF,dV]
end
end Go.Proofs.YtfeahmiobbjklaaGreatDoor
namespace Go.Proofs.YtfeahmiobbjklaaGreatDoor
open Go Go.RowKit
inductive Path:Row->Row->Type where
 |here {r:Row}:Path r r
 |fst {a b s:Row} (p:Path a s):Path (.pair a b) s
 |snd {a b s:Row} (p:Path b s):Path (.pair a b) s
def Path.off:{r s:Row}->Path r s->Nat
 |_,_, .here=>0
 |_,_, .fst p=>p.off
 |_,_, .snd (a:=a) p=>a.size+p.off
@[reducible] def Path.get:{r s:Row}->Path r s->r.den->s.den
  |_,_, .here,x=>x
  |_,_, .fst p,x=>p.get x.1
  |_,_, .snd p,x=>p.get x.2
@[reducible] def Path.set:{r s:Row}->Path r s->r.den->s.den->r.den
  |_,_, .here,_,y=>y
  |_,_, .fst p,x,y=>(p.set x.1 y,x.2)
  |_,_, .snd p,x,y=>(x.1,p.set x.2 y)
section
variable {F:Nat->Prop} {w:World}
def Path.le:{r s:Row}->(p:Path r s)->p.off+s.size<=r.size
 |_,_, .here=>by simp[Path.off]
 |_,_, .fst p=>by have:=p.le;simp[Path.off];omega
 |_,_, .snd p=>by have:=p.le;simp[Path.off];omega
def dy.path:{r s:Row}->(p:Path r s)->{es:List Value}->{x:r.den}->dy F w r es x->dy F w s ((es.drop p.off).take s.size) (p.get x)
 |_,_, .here,es,x,h=>by
  have:=h.length;simp only[Path.off,List.drop_zero,Path.get]
  grind
 |_,s, .fst (a:=a) p,_,x,h=>by
  obtain⟨c1,c2,rfl,h1,h2⟩:=h;have hr:=dy.path p h1;have hle:=p.le;have hl:=h1.length;simp only[Path.off,Path.get]
  grind
 |_,s, .snd (a:=a) p,_,x,h=>by
  obtain⟨c1,c2,rfl,h1,h2⟩:=h;have hr:=dy.path p h2;have hl:=h1.length;simp only[Path.off,Path.get]
  grind [List.drop_append,List.drop_of_length_le]
def dy.put:{r s:Row}->(p:Path r s)->{es vs:List Value}->{x:r.den}->{y:s.den}->dy F w r es x->dy F w s vs y->
 dy F w r (es.take p.off++vs++es.drop (p.off+s.size)) (p.set x y)
 |_,_, .here,es,vs,x,y,h,hv=>by
  have:=h.length;simp only[Path.off,Path.set,List.take_zero,List.nil_append,arv];rw[<-this,List.drop_length,List.append_nil];exact hv
 |_,s, .fst (a:=a) p,_,vs,x,y,h,hv=>by
  obtain⟨c1,c2,rfl,h1,h2⟩:=h;have hr:=dy.put p h1 hv;have hle:=p.le;have hl:=h1.length;refine⟨_,c2,?_,hr,h2⟩;simp only[Path.off];rw[List.take_append_of_le_length (by omega),List.drop_append_of_le_length (by omega)];simp[arQ]
 |_,s, .snd (a:=a) p,_,vs,x,y,h,hv=>by
  obtain⟨c1,c2,rfl,h1,h2⟩:=h;have hr:=dy.put p h2 hv;have hl:=h1.length;refine⟨c1,_,?_,h1,hr⟩;simp only[Path.off]
  rw[<-hl,List.take_append,List.take_of_length_le (by omega),List.drop_append,List.drop_of_length_le (by omega),show c1.length+p.off-c1.length=p.off from by omega,
   show c1.length+p.off+s.size-c1.length=p.off+s.size from by omega]
  simp[arQ]
def At.path{r s:Row}{b off:Nat}{x:r.den}(h:At F w r b off x)(p:Path r s)(k:Nat)(hk:p.off=k):At F w s b (off+k) (p.get x):=by
 subst hk;obtain⟨es,hl,hc,hr⟩:=h;have hp:=hr.path p;refine⟨_,hp.length,λj u hu=>?_,hp⟩
 grind
def Reads(F:Nat->Prop)(w:World)(r:Row)(v:Value)(l:List r.den):Prop:=
 ∃A cap,v= .slice A l.length cap/\l.length<=cap/\cap<=maxLen/\∀i(h:i<l.length),∃b off,A=aa ⟨b,off,ae⟩/\At F w r b (off+i*r.size) l[i]
def dy.reads{r:Row}{v:Value}{l:List r.den}(h:dy F w (.slice r) [v] l):Reads F w r v l:=by
 obtain⟨A,cap,h1,h2,h3,h4⟩:=h;refine⟨A,cap,by simpa using h1,h2,h3,λi hi=>?_⟩;obtain⟨b,off,es,hA,_,yx,hc,hr⟩:=h4 i hi;exact⟨b,off,hA,es,yx,hc,hr⟩
def idx{α:Type}(l:List α)(i:Int):Option α:=if 0<=i then l[i.toNat]? else ae
theorem jI{α:Type}{l:List α}{i:Int}{y:α}(h:idx l i=aa y):∃k:Nat,i=k/\∃hk:k<l.length,l[k]=y:=by
 grind [idx]
def Reads.elem{r:Row}{v:Value}{l:List r.den}(h:Reads F w r v l){i:Int}{y:r.den}(hi:idx l i=aa y):
 ∃b off cap k,v= .slice (aa ⟨b,off,ae⟩) l.length cap/\i=(k:Nat)/\k<l.length/\At F w r b (off+k*r.size) y:=by
 obtain⟨A,cap,hv,_,_,h4⟩:=h
 grind [jI]
end
section
variable {P:Program} {n:Nat} {ops:Array Oper} {K:(Nat->Value)->World->Prop} {rest:List Oper} {ρ:Nat->Value} {w:World} {F:Nat->Prop}
variable {d:Nat} {ty:TypeId} {pos:String} {aft:Array Edge} {x y:Operand} {t:TypeId}
def jV:TypeDesc->Bool
 | .struct _| .array _ _=>af
 |_=>ag
def ic{D:TypeDesc}(hu:P.underlying t=aa D)(w:World):(isAgg t).run P w= .ok (jV D) w:=by
 unfold isAgg;rw[arj,run_underlying hu w]
 cases D<;>simp[jV]
def B4{dd:Option Nat}{D:TypeDesc}{b off:Nat}{v:Value}(hu:P.underlying t=aa D)(hD:jV D=ag)(hx:ev ρ x= .pointer (aa ⟨b,off,ae⟩))(hc:w.cell? ⟨b,off,ae⟩=aa v):
 (execOp (ev ρ) ⟨dd, .load t x,ty,pos,aft,ae⟩).run P w= .ok (.value v) w:=by
 simp[execOp,hx,Instr.loadAt,Instr.sureAddr,loadVar,arj,ic hu,hD,hc,go_sem]
def Mr{dd:Option Nat}{D:TypeDesc}{ti:TypeInfo}{b off:Nat}{es:List Value}(hu:P.underlying t=aa D)(hD:jV D=af)(hi:P.info? t=aa ti)(hs:ti.size=es.length)
 (hx:ev ρ x= .pointer (aa ⟨b,off,ae⟩))(hc:∀j u,es[j]? =aa u->w.cell? ⟨b,off+j,ae⟩=aa u):
 (execOp (ev ρ) ⟨dd, .load t x,ty,pos,aft,ae⟩).run P w= .ok (.value (.agg es.toArray)) w:=by
 have hl:(loadCells ⟨b,off,ae⟩ es.length).run P w= .ok es.toArray w:=
  run_loadCells_list (P:=P) w ⟨b,off,ae⟩ es (λj v hv=>by rw[dV];exact hc j v hv)
 simp[execOp,hx,Instr.loadAt,Instr.sureAddr,loadVar,arj,ic hu,hD,sizeOf,typeInfo,hi,hs,hl]
end
end Go.Proofs.YtfeahmiobbjklaaGreatDoor
end
namespace Go.Proofs.YtfeahmiobbjklaaGreatDoor
open Go Go.RowKit
set_option maxRecDepth 100000
set_option linter.unusedSimpArgs false
set_option linter.unusedVariables false
set_option linter.defProp false
section
def WG{ε α β:Type}{x:Except ε α}{f:α->Except ε β}{b:β}(h:(x >>= f)= .ok b):∃a,f a= .ok b:=by
 cases x with
 |error e=>cases h
 |ok a=>exact⟨a,h⟩
theorem yz{P:Program}{w w':World}{at_ k:Addr}{u:TypeId}{v:Value}{at':Bool}{l:List Addr}(h:World.viewStore P w at_ u k v at'= .ok (w',l)):w'.drawn=w.drawn:=by
 unfold World.viewStore at h
 repeat' (first
  |(obtain⟨_,h⟩:=WG h)
  |(split at h)
  |(cases h;done)
  |(cases h;rfl))
theorem Mt{α:Type}(a:Ask α):(w:World)->w.drawn<=(World.ask w a).2.drawn:=by
 induction a with
 |done a=>intro w;exact aqU _
 |ask akB range k ih=>
  intro w;unfold World.ask
  grind
theorem Mu(w:World)(c:Sys):w.drawn<=(w.sys c).2.drawn:=by
 unfold World.sys
 grind [Mt]
def Mv{P:Program}{α:Type}{a:α}{w':World}(s:Sem α):(w:World)->s.run P w= .ok a w'->w.drawn<=w'.drawn:=by
 induction s with
 |pure a=>simp_all
 |load m a k ih=>
  intro w h;unfold asF at h
  grind
 |store m a v k ih=>
  intro w h
  cases v<;>simp only[asF]at h<;>first
   |(cases h;done)
   |(split at h
     .split at h
      .cases h
      .have h2:=ih _ h;exact h2
     .split at h
      .rename_i e3;have h2:=ih _ h;unfold World.farStore at e3
       grind [yz]
      .cases h)
 |new o k ih=>intro w h;unfold asF at h;grind
 |shape r k ih=>intro w h;unfold asF at h;exact ih _ _ h
 |freeze a n k ih=>intro w h;unfold asF at h;have:=ih _ h;unfold World.freeze at this;grind
 |frozen a k ih=>intro w h;unfold asF at h;exact ih _ _ h
 |getObj r k ih=>intro w h;unfold asF at h;grind
 |setObj r o k ih=>intro w h;unfold asF at h;grind
 |choose q k ih=>
  intro w h;unfold asF at h
  grind
 |sys c k ih=>intro w h;unfold asF at h;grind [Mu]
 |program k ih=>intro w h;unfold asF at h;exact ih _ _ h
 |mark m k ih=>intro w h;unfold asF at h;exact ih _ h
 |halt hh=>simp_all
structure Ext(g:Nat->Prop)(w w':World):Prop where
 os:w'.os=w.os
 tape:w'.tape=w.tape/\w.drawn<=w'.drawn
 output:w'.output=w.output
 size:w.heap.size<=w'.heap.size
 block:∀k,k<w.heap.size->¬g k->w'.heap[k]? =w.heap[k]?
def Ext.Pz{g:Nat->Prop}{a b:World}{row:Option Nat}(h:a.grownBy b row)(hd:a.drawn<=b.drawn)(hs:∀k,row=aa k->g k):Ext g a b:=
 ⟨h.os,⟨h.tape,hd⟩,h.output,h.size,λk hk hn=>h.block k hk λe=>hn (hs k e.symm)⟩
section
variable {w0 w w':World} {F0 F F':Nat->Prop} {g:Nat->Prop}
def Step.ext(he:Ext g w w')(hF:∀b,F b->b<w.heap.size)(hg:∀k,g k->¬F k):Step F w F w':=
 λb hb=>⟨hb,he.block b (hF b hb) λe=>hg b e hb⟩
def cx(v:Value)(k:Nat):Prop:=v.ownBlock=aa k
def is(b k:Nat):Prop:=k=b
def qg(w:World)(base:Nat)(e:TypeId)(size:Nat)(v:Value)(n:Nat)(xs:List Value):Prop:=
 xs.length=n*size/\
 ((v= .slice ae 0 0/\n=0)\/
  ∃g o0 cap cur,v= .slice (aa ⟨g,o0,ae⟩) n cap/\base<=g/\w.heap[g]? =aa (.cells cur e (0,0))/\n<=cap/\cap<=maxLen/\o0+cap*size<=cur.size/\(cur.toList.drop o0).take (n*size)=xs)
theorem qg.of{w:World}{base:Nat}{e:TypeId}{size:Nat}{v:Value}{n:Nat}{xs:List Value}(h:w.ownsRow base e size v n xs):qg w base e size v n xs:=by
 refine⟨h.1,?_⟩
 rcases h.2 with h|⟨g,cap,cur,hv,hb,hg,h1,h2,h3,h4⟩
 .exact .inl h
 .exact .inr ⟨g,0,cap,cur,hv,hb,hg,h1,h2,by omega,h4⟩
def Mw(w:World)(base:Nat)(e:TypeId)(size:Nat):qg w base e size (.slice ae 0 0) 0 []:= .of (World.ownsRow_nil w base e size)
def qg.lt{w:World}{base:Nat}{e:TypeId}{size:Nat}{v:Value}{n:Nat}{xs:List Value}(h:qg w base e size v n xs):∀k,v.ownBlock=aa k->base<=k/\k<w.heap.size:=by
 intro k hk
 rcases h.2 with⟨rfl,_⟩|⟨g,o0,cap,cur,rfl,hb,hg,_⟩
 .cases hk
 .obtain rfl:g=k:=by simpa[are]using hk
  grind
def pz(base:Nat)(F:Nat->Prop)(w:World)(T:TypeId)(r:Row)(v:Value)(l:List r.den):Prop:=
 (∀k,cx v k->¬F k)/\∃xs,qg w base T r.size v l.length xs/\∀i(h:i<l.length),dy F w r ((xs.drop (i*r.size)).take r.size) l[i]
variable {base b:Nat} {T:TypeId} {r:Row}
def pz.lt{v:Value}{l:List r.den}(h:pz base F w T r v l):∀k,cx v k->k<w.heap.size:=by
 obtain⟨_,xs,h,_⟩:=h
 exact λk hk=>(h.lt k hk).2
def pz.no{v:Value}{l:List r.den}(h:pz base F w T r v l):∀k,cx v k->¬F k:=h.1
theorem pz.nil(base:Nat)(F:Nat->Prop)(w:World)(T:TypeId)(r:Row):pz base F w T r (.slice ae 0 0) []:=
 ⟨λk hk=>by simp[cx,are]at hk,[],Mw _ _ _ _,λi h=>absurd h (by simp)⟩
def pz.reads{v:Value}{l:List r.den}(h:pz base F w T r v l):Reads F w r v l:=by
 obtain⟨_,xs,hx,h3⟩:=h;have hlen:=hx.1
 rcases hx.2 with⟨rfl,h0⟩|⟨gg,o0,cap,cur,rfl,hb,hg,h1,h2,tP,PA⟩
 .exact⟨ae,0,by rw[h0],by omega,by simp[maxLen],λi hi=>absurd hi (by omega)⟩
 .refine⟨_,cap,rfl,h1,h2,λi hi=>⟨gg,o0,rfl,_,(h3 i hi).length,λj u hu=>?_,h3 i hi⟩⟩
  grind [Go.cell_of_row]
def pz.freeze{v:Value}{l:List r.den}(h:pz base F w T r v l):dy (λb=>F b\/cx v b) w (.slice r) [v] l:=by
 obtain⟨A,cap,hv,h1,h2,h3⟩:=h.reads;refine⟨A,cap,by rw[hv],h1,h2,λi hi=>?_⟩;obtain⟨b,off,rfl,es,yx,hc,hr⟩:=h3 i hi;subst hv;exact⟨b,off,es,rfl, .inr (by simp[cx,are]),yx,hc,hr.step λb hb=>⟨.inl hb,rfl⟩⟩
@[reducible] def Row.zero:(r:Row)->r.den
  | .int _=>(0:Int)
  | .bool=>ag
  | .str=>asg
  | .slice _=>[]
  | .od=> .slice ae 0 0
  | .nul _=>()
  | .map .. =>[]
  | .pair a b=>(a.zero,b.zero)
def Row.gF:(r:Row)->List Value
 | .int k=>[.int k 0]
 | .bool=>[.bool ag]
 | .str=>[.string asg]
 | .slice _=>[.slice ae 0 0]
 | .od=>[.slice ae 0 0]
 | .nul k=>[k.val]
 | .map .. =>[.map ae]
 | .pair a b=>a.gF++b.gF
theorem dy.zero(F:Nat->Prop)(w:World):(r:Row)->dy F w r r.gF r.zero
 | .int _=>rfl
 | .bool=>rfl
 | .str=>rfl
 | .slice e=>dy.nil F w e
 | .od=>⟨rfl,ae,0,0,rfl⟩
 | .nul _=>rfl
 | .map .. =>⟨_,rfl, .inl ⟨rfl,rfl⟩⟩
 | .pair a b=>⟨_,_,rfl,dy.zero F w a,dy.zero F w b⟩
end
section
variable {P:Program} {n:Nat} {ops:Array Oper} {K:(Nat->Value)->World->Prop} {rest:List Oper} {ρ:Nat->Value} {w:World} {F:Nat->Prop} {base:Nat}
variable {d:Nat} {ty:TypeId} {pos:String} {aft:Array Edge} {x y:Operand} {t:TypeId}
def Mx{dd:Option Nat}{ti:TypeInfo}{z:Value}(hi:P.info? t=aa ti)(hz:ti.zero=aa z):
 (execOp (ev ρ) ⟨dd, .alloc t,ty,pos,aft,ae⟩).run P w= .ok (.value (.pointer (aa ⟨w.heap.size,0,ae⟩))) (w.alloc (.cells z.cells t)):=by
 simp[execOp,Instr.alloc,zeroValue,typeInfo,hi,hz,newVar,newRow]
def Tu{dd:Option Nat}{v:Value}(hx:ev ρ x=v):
 (execOp (ev ρ) ⟨dd, .box t x,ty,pos,aft,ae⟩).run P w= .ok (.value (.pointer (aa ⟨w.heap.size,0,ae⟩))) (w.alloc (.cells v.cells t)):=by
 simp[execOp,Instr.box,hx,newVar,newRow]
def rQ{dd:Option Nat}{ti:TypeInfo}{b off:Nat}{cur:Array Value}{T:TypeId}{v:Value}{vs:List Value}(hi:P.info? t=aa ti)(hs:ti.size=vs.length)(hx:ev ρ x= .pointer (aa ⟨b,off,ae⟩))(hy:ev ρ y=v)
 (hv:v.cells.toList=vs)(h1:∀u∈vs,u.oneCell'=af)(hg:w.heap[b]? =aa (.cells cur T (0,0)))(hl:off+vs.length<=cur.size):
 (execOp (ev ρ) ⟨dd, .store t x y,ty,pos,aft,ae⟩).run P w= .ok .skip (w.setRow b (cur.toList.take off++vs++cur.toList.drop (off+vs.length)).toArray):=by
 have jJ:=run_storeCells_at P b off T vs 0 cur w hg (by omega) h1
 have po:v.cells.size=ti.size:=by rw[hs,<-hv];simp
 simp only[Nat.add_zero]at jJ;simp[execOp,Instr.storeAt,Instr.sureAddr,storeVar,sizeOf,typeInfo,hi,po,hx,hy,hv,jJ]
def qh{α:Type}(m:Int)(z:α):Option (List α):=if 0<=m/\m<=4294967296 then aa (aqW m.toNat z)else ae
def cD{α:Type}(l m:List α):Option (List α):=if l.length+m.length<=4294967296 then aa (l++m)else ae
theorem vP(z:Array Value)(m j:Nat)(hj:j<m)(hz:0<z.size):(madeCells z m).toList[j]? =z[j%z.size]? :=by
 have:j%z.size<z.size:=ar0 _ hz;simp[madeCells,hj,this]
theorem PB(z:List Value)(m i:Nat)(hz:0<z.length)(hi:i<m):(((madeCells z.toArray (m*z.length)).toList.drop (i*z.length)).take z.length)=z:=by
 apply List.ext_getElem?
 intro j;rw[arB,ars];split
 .rename_i hj;have hle:(i+1)*z.length<=m*z.length:=aq4 _ hi
  grind [vP,Nat.add_mul_mod_self_right,Nat.mod_eq_of_lt]
 grind
def Reads.news{r:Row}{A:Option Addr}{cap m:Nat}{l:List r.den}(h:Reads F w r (.slice A m cap) l)(b off:Nat)(hA:A=aa ⟨b,off,ae⟩):
 ∃news:List Value,news.length=l.length*r.size/\(∀j u,news[j]? =aa u->w.cell? ⟨b,off+j,ae⟩=aa u)/\∀i(hi:i<l.length),dy F w r ((news.drop (i*r.size)).take r.size) l[i]:=by
 subst hA;obtain⟨A',PC,hv,_,_,h4⟩:=h;simp only[asf]at hv;obtain⟨rfl,_,_⟩:=hv;have qe:=r.size_pos
 have zw:∀j,j<l.length*r.size->∃u,w.cell? ⟨b,off+j,ae⟩=aa u:=by
  intro j hj;have hi:j/r.size<l.length:=Nat.div_lt_of_lt_mul (by rwa [arm]);obtain⟨b',fJ,u0,es,yx,hc,_⟩:=h4 _ hi;simp only[aq2,Addr.mk.injEq,and_true]at u0;obtain⟨rfl,rfl⟩:=u0
  have VH:j%r.size<es.length:=by rw[yx];exact ar0 _ qe
  have:=hc (j%r.size) _ (aqR VH);rw[Nat.add_assoc,Nat.div_add_mod']at this;exact⟨_,this⟩
 have Tv:∀j u,((aq0 (l.length*r.size)).map λj=>(w.cell? ⟨b,off+j,ae⟩).getD undef)[j]? =aa u↔j<l.length*r.size/\w.cell? ⟨b,off+j,ae⟩=aa u:=by
  intro j u;by_cases hj:j<l.length*r.size
  .obtain⟨q,hq⟩:=zw j hj;simp[hj,hq]
  .simp[hj]
 refine⟨(aq0 (l.length*r.size)).map λj=>(w.cell? ⟨b,off+j,ae⟩).getD undef,by simp,λj u hu=>((Tv j u).1 hu).2,λi hi=>?_⟩;obtain⟨b',fJ,u0,es,yx,hc,hr⟩:=h4 i hi;simp only[aq2,Addr.mk.injEq,and_true]at u0;obtain⟨rfl,rfl⟩:=u0
 have he:(((aq0 (l.length*r.size)).map λj=>(w.cell? ⟨b,off+j,ae⟩).getD undef).drop (i*r.size)).take r.size=es:=by
  have hle:(i+1)*r.size<=l.length*r.size:=aq4 _ hi;rw[arn]at hle
  apply List.ext_getElem?
  intro j;rw[arB,ars];split
  .rename_i hj;rw[(Tv (i*r.size+j) (es[j]'(by omega))).2 ⟨by omega,by rw[<-Nat.add_assoc];exact hc j _ (aqR (by omega))⟩,aqR (by omega)]
  .rw[List.getElem?_eq_none (by omega)]
 rw[he];exact hr
def vQ(w:World)(base:Nat)(t ty e:TypeId)(i:TypeInfo)(size:Nat)(ht:P.underlying t=aa (.slice e))(hi:P.info? e=aa i)
 (v:Value)(n:Nat)(xs:List Value)(fU:qg w base e size v n xs)(c:Nat):(asl #[t,t] ty #[v, .slice ae 0 c]).run P w= .ok v w:=by
 rcases fU.2 with⟨rfl,rfl⟩|⟨g,o0,cap,cur,rfl,_,_,Zv,_⟩
 .simp[asl,run_underlying ht,sizeOf,typeInfo,hi,Builtin.lenOf,Builtin.firstCells]
 .simp[asl,run_underlying ht,sizeOf,typeInfo,hi,Builtin.lenOf,Builtin.firstCells,Zv,storeCells]
def Dy(w:World)(base:Nat)(t ty e:TypeId)(i:TypeInfo)(z:Value)(size bytes:Nat)(ht:P.underlying t=aa (.slice e))(hi:P.info? e=aa i)(hz:i.zero=aa z)
 (VI:i.size=size)(OR:i.bytes=bytes)(Zw:z.cells.size=size)(po:0<size)
 (v:Value)(n:Nat)(xs:List Value)(fU:qg w base e size v n xs)
 (a:Addr)(m c:Nat)(news:List Value)(hl:news.length=m*size)(PD:∀j u,news[j]? =aa u->w.cell? (a.add j)=aa u)(h1:∀u∈news,u.oneCell'=af)
 (h63:n+m<=maxLen)(PE:(n+m)*bytes<=140737488355328)(VJ:base<=w.heap.size):
 ∃v' w',(asl #[t,t] ty #[v, .slice (aa a) m c]).run P w= .ok v' w'/\qg w' base e size v' (n+m) (xs++news)/\w.grownBy w' v.ownBlock/\
  (v'.ownBlock=v.ownBlock\/v'.ownBlock=aa w.heap.size):=by
 rcases fU.2 with⟨rfl,rfl⟩|⟨g,o0,cap,cur,rfl,hbg,hg,Zv,WH,tP,PA⟩
 .have hx:xs=[]:=List.eq_nil_of_length_eq_zero (by simpa using fU.1);subst hx;obtain⟨v',w',g1,g2,g3,_,g4⟩:=run_append_own_at (P:=P) w base t ty e i z size bytes ht hi hz VI OR Zw po (.slice ae 0 0) 0 [] (World.ownsRow_nil w base e size) a m c news hl PD h1 h63 PE VJ;exact⟨v',w',g1, .of g2,g3,g4⟩
 subst VI;subst OR
 have adC:n+m<=9223372036854775807:=by simp only[maxLen]at h63;omega
 have hlen:(xs++news).length=(n+m)*i.size:=by rw[List.length_append,fU.1,hl,arn]
 have hnm:n*i.size+news.length=(n+m)*i.size:=by rw[hl,arn]
 have akD:n*i.size<=cap*i.size:=aq4 _ Zv;by_cases PF:n+m<=cap
 .have Ff:(n+m)*i.size<=cap*i.size:=aq4 _ PF;have hf:=run_firstCells_some (P:=P) w i.size m a m c news hl PD;have jJ:=run_storeCells_at P g (o0+n*i.size) e news 0 cur w hg (by omega) h1;simp only[Nat.add_zero]at jJ
  have hr:(asl #[t,t] ty #[.slice (aa ⟨g,o0,ae⟩) n cap, .slice (aa a) m c]).run P w=
   .ok (.slice (aa ⟨g,o0,ae⟩) (n+m) cap) (w.setRow g (cur.toList.take (o0+n*i.size)++news++cur.toList.drop (o0+n*i.size+news.length)).toArray):=by
   simp[asl,run_underlying ht,sizeOf,typeInfo,hi,Builtin.lenOf,PF,hf,Addr.add_lit,jJ]
  refine⟨_,_,hr,⟨hlen, .inr ⟨g,o0,cap,_,rfl,hbg,setRow_heap w g cur _ e _ hg,PF,WH,?_,?_⟩⟩,⟨rfl,rfl,rfl,by simp,λk _ hk=>setRow_other w g k _ (λe=>hk (by simp[are,e]))⟩,Or.inl rfl⟩
  all_goals grind
 .have holds:∀j u,xs[j]? =aa u->w.cell? ((⟨g,o0,ae⟩:Addr).add j)=aa u:=λj u hj=>by
   grind [dV,Go.cell_of_row]
  have hr:=run_append_grow (P:=P) w t ty e i z ht hi hz ⟨g,o0,ae⟩ n cap xs fU.1 holds a m c news hl PD (by omega) (by omega) (growslice_fits (by omega) PE);have hge:=grownCap_ge w (n+m) cap e;have adD:grownCap w (n+m) cap e<=maxLen:=grownCap_le_maxLen w (n+m) cap e h63;refine⟨_,_,hr, .of ⟨hlen, .inr ⟨w.heap.size,_,_,rfl,VJ,heap_alloc_new w.drew _,hge,adD,?_,?_⟩⟩,⟨rfl,rfl,rfl,by simp,λk hk _=>heap_alloc_old w.drew _ hk⟩,Or.inr rfl⟩
  .simp only[Array.size_append,List.size_toArray,size_zeroCells,Zw,fU.1,hl,<-arn]
   grind
  grind
def zA{e:TypeId}{ti:TypeInfo}{z:Value}{r:Row}{v u:Value}{l m out:List r.den}(ty:TypeId)(ht:P.underlying t=aa (.slice e))(hi:P.info? e=aa ti)(hz:ti.zero=aa z)(Zx:z.cells.toList=r.gF)(hs:ti.size=r.size)(OR:ti.bytes<=32768)
 (hv:pz base F w e r v l)(hu:Reads F w r u m)(hm:cD l m=aa out)(hF:∀b,F b->b<w.heap.size)(hb:base<=w.heap.size):
 ∃v' w',(asl #[t,t] ty #[v,u]).run P w= .ok v' w'/\Ext (cx v) w w'/\pz base F w' e r v' out/\(cx v'=cx v\/cx v'=(w.heap.size= ·)):=by
 unfold cD at hm;split at hm
 case isFalse=>cases hm
 rename_i hlen;obtain rfl:=aqP hm
 have Zw:z.cells.size=r.size:=by rw[<-(dy.zero F w r).length,<-Zx];simp
 obtain⟨Dz,xs,hx,h3⟩:=hv;have hu0:=hu;obtain⟨A,cap,rfl,hmc,WH,yx⟩:=hu
 have My:∀(v':Value)(w':World)(news:List Value),news.length=m.length*r.size->(∀i(hi:i<m.length),dy F w r ((news.drop (i*r.size)).take r.size) m[i])->
  qg w' base e r.size v' (l.length+m.length) (xs++news)->w.grownBy w' v.ownBlock->w.drawn<=w'.drawn->(v'.ownBlock=v.ownBlock\/v'.ownBlock=aa w.heap.size)->
  Ext (cx v) w w'/\pz base F w' e r v' (l++m)/\(cx v'=cx v\/cx v'=(w.heap.size= ·)):=by
  intro v' _ news hnl hnr jK hg od Bq
  have hm:cx v'=cx v\/cx v'=(w.heap.size= ·):=by
   rcases Bq with h|h
   .exact .inl (by unfold cx;rw[h])
   .refine .inr ?_;funext b;unfold cx;rw[h];simp
  have ct:=Ext.Pz hg od (g:=cx v) λk hk=>hk
  have fC:=Step.ext ct hF Dz;refine⟨ct,⟨λk hk=>?_,xs++news,by simpa using jK,λk hk=>?_⟩,hm⟩
  .rcases hm with h|h
   .rw[h]at hk;exact Dz k hk
   .rw[h]at hk;intro hf;have:=hF k hf;omega
  .have Mz:=hx.1
   rcases Nat.lt_or_ge k l.length with aF|hge
   .have hle:(k+1)*r.size<=l.length*r.size:=aq4 _ aF;rw[arn]at hle;rw[arE aF,List.drop_append_of_le_length (by omega),List.take_append_of_le_length (by rw[List.length_drop];omega)];exact(h3 k aF).step fC
   .have VK:k-l.length<m.length:=by simp at hk;omega
    have hmul:k*r.size=l.length*r.size+(k-l.length)*r.size:=by rw[<-arn];congr 1;omega
    rw[arJ hge,List.drop_append,Mz,List.drop_of_length_le (by omega),List.nil_append,show k*r.size-l.length*r.size=(k-l.length)*r.size from by omega];exact(hnr _ VK).step fC
 cases A with
 |none=>
  have WI:m=[]:=by
   cases m with
   |nil=>rfl
   |cons a q=>obtain⟨b,off,h,_⟩:=yx 0 (by simp);cases h
  subst WI;refine⟨v,w,vQ w base t ty e ti r.size ht hi v _ xs hx _,?_⟩;exact My v w [] (by simp) (λi hi=>absurd hi (by simp)) (by simpa using hx) ⟨rfl,rfl,rfl,aqU _,λ_ _ _=>rfl⟩ (aqU _) (.inl rfl)
 |some ad=>
  have key:∃news:List Value,news.length=m.length*r.size/\(∀j u,news[j]? =aa u->w.cell? (ad.add j)=aa u)/\∀i(hi:i<m.length),dy F w r ((news.drop (i*r.size)).take r.size) m[i]:=by
   cases m with
   |nil=>exact⟨[],by simp,λj u h=>by simp at h,λi hi=>absurd hi (by simp)⟩
   |cons a q=>
    obtain⟨b,off,h,_⟩:=yx 0 (by simp);obtain⟨news,h1,h2,h3⟩:=hu0.news b off h
    obtain rfl:ad=⟨b,off,ae⟩:=by simpa using h
    exact⟨news,h1,λj u hj=>by rw[dV];exact h2 j u hj,h3⟩
  obtain⟨news,hnl,Zv,hnr⟩:=key
  have n5:∀u∈news,u.oneCell'=af:=by
   intro u hu;obtain⟨j,hj,rfl⟩:=aq6 hu;have qe:=r.size_pos;have hi:j/r.size<m.length:=Nat.div_lt_of_lt_mul (by rw[arm,<-hnl];exact hj);have hr:=hnr _ hi;refine hr.mb _ ?_;have hle:(j/r.size)*r.size+j%r.size=j:=Nat.div_add_mod' j r.size;have aF:=ar0 j qe;rw[List.mem_iff_getElem?];refine⟨j%r.size,?_⟩;rw[arB,aj aF,ars,hle,aqR hj]
  obtain⟨v',w',bP,jK,hg,Bq⟩:=Dy (P:=P) w base t ty e ti z r.size ti.bytes ht hi hz hs rfl Zw r.size_pos v l.length xs hx ad m.length cap news hnl Zv n5 (by simp only[maxLen];omega)
   (ark (Nat.mul_le_mul hlen OR) (by omega)) hb
  exact⟨v',w',bP,My v' w' news hnl hnr jK hg (Mv _ _ bP) Bq⟩
end
end
end Go.Proofs.YtfeahmiobbjklaaGreatDoor
section
open _root_.Bool renaming false->ag,true->af,false_eq_true->aqT,not_true->arA
open _root_.Option renaming none->ae,some->aa
open _root_.List.cons renaming injEq->arV
open _root_.List renaming drop_eq_getElem_cons->aqZ,length_take->ard
open _root_.Nat renaming beq->aqV,min_eq_left->ar1
open _root_.Option.some renaming injEq->aq2
open _root_.Go.Result renaming andThen_ok->arR
open _root_.Go.Sem renaming run_bind->arj
namespace Go.Proofs.YtfeahmiobbjklaaGreatDoor
open Go Go.RowKit
def bind_some{α β:Type}{o:Option α}{f:α->Option β}{r:β}(h:o.bind f=aa r):∃x,o=aa x/\f x=aa r:=Option.bind_eq_some_iff.1 h
section
variable {P:Program} {n:Nat} {ρ:Nat->Value} {w:World} {K:(Nat->Value)->World->Prop} {Q:Exit->(Nat->Value)->World->Prop}
def PG{id:Nat}(h:Q .normal ρ w):Y0 id Q (.exit id) ρ w:=by
 show(bif aqV id id then _ else _)
 simp_all
def MA{id Mg:Nat}(eG:aqV Mg id=ag)(h:Q (.exit Mg) ρ w):Y0 id Q (.exit Mg) ρ w:=by
 show(bif aqV Mg id then _ else _)
 grind
end
def TI(P:Program)(e:TypeId)(r:Row):Prop:=∃ti z,P.info? e=aa ti/\ti.zero=aa z/\z.cells.toList=r.gF/\ti.size=r.size/\ti.bytes<=32768
def TI.mk{P:Program}{e:TypeId}{r:Row}{k:Nat}(h:(P.info? e).map (λi=>(i.zero.map (λz=>z.cells.toList),i.size,decide (i.bytes<=32768)))=aa (aa r.gF,k,af))(hk:k=r.size):TI P e r:=by
 cases hi:P.info? e with
 |none=>simp[hi]at h
 |some ti=>
  simp only[hi,Option.map_some,aq2,Prod.mk.injEq,aw]at h;obtain⟨h1,h2,h3⟩:=h
  cases hz:ti.zero with
  |none=>simp[hz]at h1
  |some z=>
   simp only[hz,Option.map_some,aq2]at h1;exact⟨ti,z,hi,hz,h1,h2.trans hk,h3⟩
section
variable {P:Program} {n:Nat} {ops:Array Oper} {K:(Nat->Value)->World->Prop} {rest:List Oper} {ρ:Nat->Value} {w:World} {F:Nat->Prop} {base:Nat}
variable {d:Nat} {dd:Option Nat} {ty:TypeId} {pos:String} {aft:Array Edge} {x y c:Operand} {t e:TypeId} {r:Row}
def qi{f:Nat}{fs:Array Field}{fd:Field}{q7 off:Nat}(k:Nat)(hs:P.underlying t=aa (.struct fs))(hf:fs[f]? =aa fd)(hi:TI P fd.type r)(hk:fd.offset=k)
 (hx:ev ρ x= .pointer (aa ⟨q7,off,ae⟩)):Pure P ρ ⟨dd, .fieldAddr t x f,ty,pos,aft,ae⟩ (.pointer (aa ⟨q7,off+k,ae⟩)):=by
 obtain⟨ti,z,h1,_,_,h4,_⟩:=hi
 grind [zy,Row.size_pos]
end
end Go.Proofs.YtfeahmiobbjklaaGreatDoor
namespace Go.Proofs.YtfeahmiobbjklaaGreatDoor
open Go Go.RowKit
noncomputable def mD(r:Row)(x y:r.den):Bool:= @decide (x=y) (Row.decEq r x y)
theorem vR{r:Row}{x y:r.den}:mD r x y=af↔x=y:=by simp[mD]
def q8{r:Row}{x y:r.den}:mD r x y=ag↔x≠y:=by simp[mD]
def PH(P:Program)(t:TypeId)(cs:List Value)(v:Value):Prop:=∃D,P.underlying t=aa D/\(if jV D=af then v= .agg cs.toArray else cs=[v])
def uE(P:Program)(t:TypeId)(r:Row)(K:Nat):Prop:=
 ∀(d:Nat)(w2 w:World)(F:Nat->Prop)(cs yA:List Value)(x y:r.den)(v v':Value),PH P t cs v->PH P t yA v'->dy F w r cs x->dy F w r yA y->
  (Op.equalIn (d+K) t v v').run P w2= .ok (decide (x=y)) w2
def Tw(P:Program)(fs:List Field)(r:Row)(off K:Nat):Prop:=
 ∀(d:Nat)(w2 w:World)(F:Nat->Prop)(xs ys:List Value)(x y:r.den),dy F w r ((xs.drop off).take r.size) x->dy F w r ((ys.drop off).take r.size) y->
  (Op.eqFields (d+K) xs.toArray ys.toArray fs).run P w2= .ok (decide (x=y)) w2
section
variable {P:Program} {t:TypeId} {r:Row} {k:IntKind} {K:Nat}
def KD(ht:P.underlying t=aa (.int k)):uE P t (.int k) 1:=by
 intro d w2 w F cs yA x y v v' ⟨D,hD,h1⟩ ⟨D',Tx,h2⟩ hx hy;rw[ht]at hD Tx;cases hD;cases Tx;obtain rfl:cs=_:=hx;obtain rfl:yA=_:=hy;simp only[jV,aqT,if_false,arV,and_true]at h1 h2;subst h1;subst h2;rw[run_equalIn_int (h:=ht),tO]
def vS{D:TypeDesc}{ti:TypeInfo}{cs:List Value}{off:Nat}{F:Nat->Prop}{w:World}{x:r.den}(hD:P.underlying t=aa D)(hi:P.info? t=aa ti)(hs:ti.size=r.size)(n5:jV D=ag->r.size=1)
 (hr:dy F w r ((cs.drop off).take r.size) x)(w2:World):∃v,(part t cs.toArray off).run P w2= .ok v w2/\PH P t ((cs.drop off).take r.size) v:=by
 have hl:=hr.length;have qe:=r.size_pos
 cases hA:jV D with
 |true=>
  refine⟨.agg ((cs.drop off).take r.size).toArray,?_,D,hD,by rw[aj hA]⟩;unfold part;rw[arj,ic hD,hA];simp[sizeOf,typeInfo,hi,hs]
 |false=>
  have h1:=n5 hA;rw[h1]at hl⊢
  have aF:off<cs.length:=by
   rw[ard,List.length_drop]at hl;omega
  refine⟨cs[off],?_,D,hD,?_⟩
  .unfold part;rw[arj,ic hD,hA];simp[aF]
  .rw[ai (by simp[hA])]
   grind [aqZ]
def q9{f:Field}{off:Nat}(hn:(f.name != "_")=af)(ho:f.offset=off){D:TypeDesc}(hD:P.underlying f.type=aa D)(n5:jV D=ag->r.size=1)(hi:TI P f.type r)(he:uE P f.type r K):Tw P [f] r off K:=by
 intro d w2 w F xs ys x y hx hy;subst ho;obtain⟨ti,z,h1,_,_,h4,_⟩:=hi;obtain⟨v,hv,qj⟩:=vS hD h1 h4 n5 hx w2;obtain⟨v',ga,MB⟩:=vS hD h1 h4 n5 hy w2;have:=he d w2 w F _ _ x y v v' qj MB hx hy
 have PI:f.name≠ "_" :=by simpa using hn
 unfold Op.eqFields;rw[aj PI,arj,hv,arR,arj,ga,arR,arj,this,arR]
 by_cases vJ:x=y<;>simp[vJ,Op.eqFields]
def ku{f:Field}{fs:List Field}{a b:Row}{off:Nat}(hn:(f.name != "_")=af)(ho:f.offset=off){D:TypeDesc}(hD:P.underlying f.type=aa D)(n5:jV D=ag->a.size=1)(hi:TI P f.type a)(he:uE P f.type a K)
 (hr:Tw P fs b (off+a.size) K):Tw P (f::fs) (.pair a b) off K:=by
 intro d w2 w F xs ys x y hx hy;subst ho;obtain⟨ti,z,h1,_,_,h4,_⟩:=hi
 have hle:a.size<=(Row.pair a b).size:=by simp
 have iE:∀(zs:List Value)(u:(Row.pair a b).den),dy F w (.pair a b) ((zs.drop f.offset).take (Row.pair a b).size) u->dy F w a ((zs.drop f.offset).take a.size) u.1:=by
  intro zs u hu;have:=dy.path (.fst (.here (r:=a)):Path (.pair a b) a) hu;simp only[Path.off,List.drop_zero]at this;rw[List.take_take,ar1 hle]at this;exact this
 have Zy:∀(zs:List Value)(u:(Row.pair a b).den),dy F w (.pair a b) ((zs.drop f.offset).take (Row.pair a b).size) u->dy F w b ((zs.drop (f.offset+a.size)).take b.size) u.2:=by
  intro zs u hu;have:=dy.path (.snd (.here (r:=b)):Path (.pair a b) b) hu;simp only[Path.off,Nat.add_zero]at this;rw[List.drop_take,List.drop_drop]at this;rw[show(Row.pair a b).size-a.size=b.size from by simp]at this;rw[List.take_take,Nat.min_self]at this;exact this
 obtain⟨v,hv,qj⟩:=vS hD h1 h4 n5 (iE xs x hx) w2;obtain⟨v',ga,MB⟩:=vS hD h1 h4 n5 (iE ys y hy) w2;have h5:=he d w2 w F _ _ _ _ v v' qj MB (iE xs x hx) (iE ys y hy);have h6:=hr d w2 w F xs ys _ _ (Zy xs x hx) (Zy ys y hy)
 have PI:f.name≠ "_" :=by simpa using hn
 unfold Op.eqFields;rw[aj PI,arj,hv,arR,arj,ga,arR,arj,h5,arR];obtain⟨x1,x2⟩:=x;obtain⟨y1,y2⟩:=y;by_cases vJ:x1=y1
 .simp only[vJ,decide_true,arA,aqT,if_false,h6]
  congr 1
  simp[Prod.ext_iff]
 .simp[vJ,Prod.ext_iff]
def oe{fs:Array Field}(ht:P.underlying t=aa (.struct fs))(hp:P.stoodInHeld t=ag)(h:Tw P fs.toList r 0 K):uE P t r (K+1):=by
 intro d w2 w F cs yA x y v v' ⟨D,hD,h1⟩ ⟨D',Tx,h2⟩ hx hy;rw[ht]at hD Tx;cases hD;cases Tx;simp only[jV,if_true]at h1 h2;subst h1;subst h2
 have hf:P.fieldsOf t=fs:=by simp[Program.fieldsOf,ht]
 have Zz:=hx.length;have hly:=hy.length;rw[<-Nat.add_assoc,run_equalIn_struct _ _ _ _ _ (by grind) hp,hf];exact h d w2 w F cs yA x y (by rw[List.drop_zero,<-Zz,List.take_length];exact hx) (by grind)
variable {ρ:Nat->Value} {dd:Option Nat} {ty:TypeId} {pos:String} {aft:Array Edge} {x y:Operand} {u:TypeId}
def MC{d:Nat}{F:Nat->Prop}{w:World}{es pA:List Value}{a b:r.den}(hE:uE P t r K)(hd:d+K=10000)(hg:P.eqGuardType P.depth t=ag)(hD:(P.underlying t).any jV=af)
 (hx:ev ρ x= .agg es.toArray)(hy:ev ρ y= .agg pA.toArray)(ha:dy F w r es a)(hb:dy F w r pA b):
 Pure P ρ ⟨dd, .binOp .eql t x y u,ty,pos,aft,ae⟩ (.bool (mD r a b)):=λw2=>by
 cases hu:P.underlying t with
 |none=>simp[hu]at hD
 |some D=>
  have hA:jV D=af:=by simpa[hu]using hD
  have:=hE d w2 w F es pA a b _ _ ⟨D,hu,by rw[aj hA]⟩ ⟨D,hu,by rw[aj hA]⟩ ha hb;rw[hd]at this;simp only[execOp,hx,hy,arj,run_eqGuard_agg _ _ _ _ _ _ _ hg,arR,run_eql_struct,this];rfl
def MD{d:Nat}{F:Nat->Prop}{w:World}{es pA:List Value}{a b:r.den}(hE:uE P t r K)(hd:d+K=10000)(hg:P.eqGuardType P.depth t=ag)(hD:(P.underlying t).any jV=af)
 (hx:ev ρ x= .agg es.toArray)(hy:ev ρ y= .agg pA.toArray)(ha:dy F w r es a)(hb:dy F w r pA b):
 Pure P ρ ⟨dd, .binOp .neq t x y u,ty,pos,aft,ae⟩ (.bool (!mD r a b)):=λw2=>by
 cases hu:P.underlying t with
 |none=>simp[hu]at hD
 |some D=>
  have hA:jV D=af:=by simpa[hu]using hD
  have:=hE d w2 w F es pA a b _ _ ⟨D,hu,by rw[aj hA]⟩ ⟨D,hu,by rw[aj hA]⟩ ha hb;rw[hd]at this;simp only[execOp,hx,hy,arj,run_eqGuard_agg _ _ _ _ _ _ _ hg,arR,run_neq_struct,this];rfl
end
section
variable {P:Program} {n:Nat} {ops:Array Oper} {K:(Nat->Value)->Prop} {rest:List Oper} {ρ:Nat->Value} {w:World} {F:Nat->Prop}
variable {d:Nat} {ty:TypeId} {pos:String} {aft:Array Edge} {x y:Operand} {t e:TypeId} {r:Row}
end
end Go.Proofs.YtfeahmiobbjklaaGreatDoor
end
namespace Go.Proofs.YtfeahmiobbjklaaGreatDoor
open Go Go.RowKit
set_option maxRecDepth 100000
set_option linter.unusedSimpArgs false
set_option linter.unusedVariables false
set_option linter.defProp false
section
section
variable {P:Program} {n:Nat} {ops:Array Oper} {K:(Nat->Value)->World->Prop} {rest:List Oper} {ρ:Nat->Value} {w:World} {F:Nat->Prop} {base:Nat}
variable {d:Nat} {ty:TypeId} {pos:String} {aft:Array Edge} {x y:Operand} {t e:TypeId} {r s:Row}
def bH{α:Type}(l:List α)(i:Int)(y:α):List α:=l.set i.toNat y
def pz.put{g o0 m0 WJ q:Nat}{v:Value}{l:List r.den}(h:pz base F w e r v l)(hg:v= .slice (aa ⟨g,o0,ae⟩) m0 WJ)(hq:q<l.length)(hF:∀b,F b->b<w.heap.size)(p:Path r s){vs:List Value}{u:s.den}(hv:dy F w s vs u):
 ∃cur,w.heap[g]? =aa (.cells cur e (0,0))/\o0+q*r.size+p.off+vs.length<=cur.size/\
  Ext (cx v) w (w.setRow g (cur.toList.take (o0+q*r.size+p.off)++vs++cur.toList.drop (o0+q*r.size+p.off+vs.length)).toArray)/\
  pz base F (w.setRow g (cur.toList.take (o0+q*r.size+p.off)++vs++cur.toList.drop (o0+q*r.size+p.off+vs.length)).toArray) e r v (l.set q (p.set l[q] u)):=by
 obtain⟨Dz,xs,⟨Mz,hx⟩,h3⟩:=h
 rcases hx with⟨rfl,_⟩|⟨g',o1,cap,cur,rfl,hb,hh,h1,h2,tP,PA⟩
 .simp at hg
 .simp only[asf,aq2,Addr.mk.injEq,and_true]at hg;obtain⟨⟨rfl,rfl⟩,rfl,rfl⟩:=hg;have hle:=p.le;have hl:=hv.length;have hmul:(q+1)*r.size<=l.length*r.size:=aq4 _ hq;rw[arn]at hmul;have Ff:l.length*r.size<=cap*r.size:=aq4 _ h1
  have ct:Ext (cx (.slice (aa ⟨g',o1,ae⟩) l.length cap)) w (w.setRow g' (cur.toList.take (o1+q*r.size+p.off)++vs++cur.toList.drop (o1+q*r.size+p.off+vs.length)).toArray):=
   ⟨rfl,⟨rfl,aqU _⟩,rfl,by simp,λk _ hk=>setRow_other w g' k _ λe=>hk (by simp[cx,are,e])⟩
  have fC:=Step.ext ct hF Dz;refine⟨cur,hh,by omega,ct,Dz,xs.take (q*r.size+p.off)++vs++xs.drop (q*r.size+p.off+vs.length),⟨by simp;omega, .inr ⟨g',o1,cap,_,by simp,hb,setRow_heap w g' _ _ e (0,0) hh,by simpa using h1,h2,by simp;omega,?_⟩⟩,?_⟩
  .rw[List.length_set,List.toList_toArray,<-PA]
   have e0:(cur.toList.take (o1+q*r.size+p.off)++vs++cur.toList.drop (o1+q*r.size+p.off+vs.length)).drop o1=(cur.toList.drop o1).take (q*r.size+p.off)++vs++(cur.toList.drop o1).drop (q*r.size+p.off+vs.length):=by
    rw[arQ,List.drop_append_of_le_length (by simp;omega),List.drop_take,List.drop_drop,show o1+q*r.size+p.off-o1=q*r.size+p.off by omega,arQ,show o1+q*r.size+p.off+vs.length=o1+(q*r.size+p.off+vs.length) by omega]
   rw[e0]
   have Fg:cap*r.size<=(cur.toList.drop o1).length:=by simp;omega
   generalize cur.toList.drop o1=c2 at*
   have e1:(c2.take (l.length*r.size)).take (q*r.size+p.off)=c2.take (q*r.size+p.off):=by rw[List.take_take,ar1 (by omega)]
   rw[e1,List.take_append,List.take_of_length_le (by simp;omega),List.drop_take]
   congr 1
   simp;omega
  .intro i mO
   have hi:i<l.length:=by simpa using mO
   have WK:(i+1)*r.size<=l.length*r.size:=aq4 _ hi;rw[arn]at WK
   have A:∀j,j<r.size->((xs.take (q*r.size+p.off)++vs++xs.drop (q*r.size+p.off+vs.length)))[i*r.size+j]? =
    if i*r.size+j<q*r.size+p.off then xs[i*r.size+j]? else if i*r.size+j<q*r.size+p.off+vs.length then vs[i*r.size+j-(q*r.size+p.off)]? else xs[i*r.size+j]? :=by
    intro j hj;rw[arQ,asu];simp only[ard,Mz,ar1 (show q*r.size+p.off<=l.length*r.size from by omega)];split
    .grind
    .rw[asu];split
     .grind
     .rename_i h1 h2;rw[ai (by omega),ars]
      grind
   by_cases hiq:i=q
   .subst hiq;rw[List.getElem_set_self];have hp:=(h3 i hi).put p hv
    have:((xs.take (i*r.size+p.off)++vs++xs.drop (i*r.size+p.off+vs.length)).drop (i*r.size)).take r.size=
     ((xs.drop (i*r.size)).take r.size).take p.off++vs++((xs.drop (i*r.size)).take r.size).drop (p.off+s.size):=by
     have ZA:((xs.drop (i*r.size)).take r.size).length=r.size:=by rw[ard,List.length_drop,Mz];omega
     have hsj:∀j,j<r.size->((xs.drop (i*r.size)).take r.size)[j]? =xs[i*r.size+j]? :=(by grind)
     generalize(xs.drop (i*r.size)).take r.size=seg at ZA hsj
     apply List.ext_getElem?
     intro j;rw[asu (l₁:=seg.take p.off++vs),asu (l₁:=seg.take p.off),List.length_append,ard,ZA,ar1 (show p.off<=r.size from by omega),arB (l:=List.drop _ _)];by_cases hj:j<r.size
     .rw[aj hj,ars,A j hj];by_cases hj1:j<p.off
      .rw[aj (by omega),aj (by omega),aj hj1,arB,aj hj1,hsj j hj]
      .rw[ai (by omega)];by_cases VH:j<p.off+vs.length
       .rw[aj (by omega),aj VH,ai hj1]
        congr 1
        omega
       .rw[ai (by omega),ai VH,ars,<-hsj j hj]
        congr 1
        omega
     .grind
    rw[this];exact hp.step fC
   .rw[List.getElem_set_ne (λe=>hiq e.symm)]
    have:((xs.take (q*r.size+p.off)++vs++xs.drop (q*r.size+p.off+vs.length)).drop (i*r.size)).take r.size=(xs.drop (i*r.size)).take r.size:=by
     apply List.ext_getElem?
     intro j;rw[arB,arB];by_cases hj:j<r.size
     .rw[aj hj,aj hj,ars,A j hj,ars]
      rcases Nat.lt_or_gt_of_ne hiq with aF|hgt
      .have:(i+1)*r.size<=q*r.size:=aq4 _ aF
       grind
      .have:(q+1)*r.size<=i*r.size:=aq4 _ hgt
       grind
     .grind
    rw[this];exact(h3 i hi).step fC
def pz.at{g o0 m0 WJ q:Nat}{i:Int}{v:Value}{l:List r.den}{a:r.den}(h:pz base F w e r v l)(hg:v= .slice (aa ⟨g,o0,ae⟩) m0 WJ)(hq:i=(q:Nat))(sS:idx l i=aa a):At F w r g (o0+q*r.size) a:=by
 obtain⟨b,off,cap,k,hv,hk,aF,Bq⟩:=h.reads.elem sS
 grind
def PJ(cs:List Value):∀(k:Nat)(pre post:List Value),post.length=cs.length->∀(tail:List Value),
 (cs.zipIdx k).foldl (λ(acc:Array Value)(cj:Value×Nat)=>acc.setIfInBounds (pre.length-k+cj.2) cj.1) (pre++post++tail).toArray=(pre++cs++tail).toArray\/pre.length<k:=by
 induction cs with
 |nil=>simp_all
 |cons c q ih=>
  intro k pre post hp tail;by_cases hk:pre.length<k
  .exact .inr hk
  cases post with
  |nil=>simp at hp
  |cons p0 post=>
   simp only[List.zipIdx_cons,List.foldl_cons]
   rcases ih (k+1) (pre++[c]) post (by simpa using hp) tail with h|h
   all_goals simp_all
def B5{place:Nat->Option (Nat×Nat)}{i off size:Nat}{v:Value}{vs cells:List Value}{rest:List (Nat×Value)}(hp:place i=aa (off,size))(hv:v.cells.toList=vs)(hs:vs.length=size)(hle:off+size<=cells.length):
 Instr.fill place cells.toArray ((i,v)::rest)=Instr.fill place (cells.take off++vs++cells.drop (off+size)).toArray rest:=by
 have hvc:v.cells=vs.toArray:=by rw[<-hv,arL]
 have hf:=PJ vs 0 (cells.take off) ((cells.drop off).take size) (by simp;omega) (cells.drop (off+size))
 have IC:cells.take off++(cells.drop off).take size++cells.drop (off+size)=cells:=by
  rw[arQ,<-List.drop_drop,asc,asc]
 have hlen:(cells.take off).length=off:=by simp;omega
 rw[IC,hlen,Nat.sub_zero]at hf
 rcases hf with hf|hf
 case inr=>omega
 rw[Instr.fill]
 grind
inductive zB(F:Nat->Prop)(w:World)(r:Row):List Value->List r.den->Prop where
 |nil:zB F w r [] []
 |cons {v:Value} {vs:List Value} {cs:List Value} {a:r.den} {l:List r.den} (hc:v.cells.toList=cs) (hr:dy F w r cs a) (h:zB F w r vs l):zB F w r (v::vs) (a::l)
theorem zB.length{vs:List Value}{l:List r.den}(h:zB F w r vs l):vs.length=l.length:=by
 induction h<;>grind
def zB.fill{vs:List Value}{l:List r.den}(h:zB F w r vs l):∀(k:Nat)(pre post:List Value),pre.length=k*r.size->post.length=vs.length*r.size->
 ∃xs,Instr.fill (λi=>aa (i*r.size,r.size)) (pre++post).toArray ((vs.zipIdx k).map λp=>(p.2,p.1))=aa (pre++xs).toArray/\xs.length=l.length*r.size/\∀i(hi:i<l.length),dy F w r ((xs.drop (i*r.size)).take r.size) l[i]:=by
 induction h with
 |nil=>
  intro k pre post hp hq
  have:post=[]:=(by simp_all)
  subst this;exact⟨[],by simp[Instr.fill],by simp,λi hi=>absurd hi (by simp)⟩
 | @cons v vs cs a l hc hr h ih=>
   intro k pre post hp hq;have hl:=hr.length;rw[List.length_cons,arn,Nat.one_mul]at hq;obtain⟨xs,h1,h2,h3⟩:=ih (k+1) (pre++cs) (post.drop r.size) (by rw[List.length_append,hp,hl,arn,Nat.one_mul]) (by grind);refine⟨cs++xs,?_,by grind,λi hi=>?_⟩
   .simp only[List.zipIdx_cons,List.map_cons];rw[B5 (place:=λi=>aa (i*r.size,r.size)) rfl hc hl (by grind)];rw[<-hp,List.take_left',List.drop_append,List.drop_of_length_le (by omega),List.nil_append,show pre.length+r.size-pre.length=r.size from by omega]
    all_goals grind
   .cases i with
    |zero=>
     grind
    |succ i=>
     rw[arn,Nat.one_mul,Nat.add_comm,<-List.drop_drop,<-hl,List.drop_left',hl]
     all_goals grind
end
end
section
open Go Go.RowKit Go.ChangeShapes Go.WideShapes Go.ChangeAt Go.Deep
def WF:(r:Row)->r.den->Prop
 | .int k,n=>k.min<=n/\n<=k.max
 | .bool,_=>True
 | .str,s=>s.size<=maxLen
 | .slice e,l=>l.length<=maxLen/\∀x∈l,WF e x
 | .od,_=>True
 | .nul _,_=>True
 | .map ..,_=>True
 | .pair a b,x=>WF a x.1/\WF b x.2
def u7:(r:Row)->r.den->Nat
 | .int _,_=>1
 | .bool,_=>1
 | .str,s=>s.size+1
 | .slice e,l=>(l.map (u7 e)).sum+1
 | .od,_=>1
 | .nul _,_=>1
 | .map ..,_=>1
 | .pair a b,x=>u7 a x.1+u7 b x.2
def sz{H:Type}:(l:List (DataW H))->Rows.uptoBulkAll l=(l.map Rows.uptoBulk).sum
 |[]=>by simp[Rows.uptoBulkAll]
 |a::l=>by simp[Rows.uptoBulkAll,sz l]
def here(w:World)(b:Nat):Prop:=b<w.heap.size
def gr(P:Program)(t:TypeId)(r:Row):Prop:=
 ∀(H:Type)(enc:TypeId×Value->H)(w:World)(spare:Nat->Bool)(held:Bool)(fuel:Nat)(cs:List Value)(x:DataW H×List MemPlace),DataW.trod enc P w 0 spare held fuel t cs=aa x->
  ∃y:r.den,dy (here w) w r cs y/\WF r y/\u7 r y<=Rows.uptoBulk x.1
def yV(P:Program)(fs:List Field)(r:Row)(off:Nat):Prop:=
 ∀(H:Type)(enc:TypeId×Value->H)(w:World)(spare:Nat->Bool)(held:Bool)(n:Nat)(cs:List Value)(xs:List (DataW H×List MemPlace)),xs.length=fs.length->
  (∀(i:Nat)(f:Field),fs[i]? =aa f->DataW.trod enc P w 0 spare held n f.type ((cs.drop f.offset).take (P.cellsOf f.type))=xs[i]?)->off+r.size<=cs.length->
  ∃y:r.den,dy (here w) w r ((cs.drop off).take r.size) y/\WF r y/\u7 r y<=Rows.uptoBulkAll (xs.map (·.1))
section
variable {P:Program} {t e:TypeId} {r a b:Row} {k:IntKind}
def ME(ht:P.underlying t=aa (.int k)):gr P t (.int k):=by
 intro H enc w spare held fuel cs x h;obtain⟨n,rfl,rfl,hn⟩:=DataW.trod_int ht h;exact⟨n,rfl,by simpa[Lit.wf,WF]using hn,by simp[u7,Rows.uptoBulk]⟩
def B6(ht:P.underlying t=aa .string):gr P t .str:=by
 intro H enc w spare held fuel cs x h;obtain⟨s,rfl,rfl,hs⟩:=DataW.trod_string ht h;exact⟨s,rfl,hs,Nat.le_of_eq rfl⟩
def sT{α:Type}{p:Nat->α->Prop}:(n:Nat)->(∀i,i<n->∃x,p i x)->∃l:List α,l.length=n/\∀i(h:i<l.length),p i l[i]
 |0,_=>(by simp_all)
 |n+1,h=>by
  obtain⟨l,hl,hp⟩:=sT n λi hi=>h i (by omega)
  obtain⟨x,hx⟩:=h n (by omega);refine⟨l++[x],by simp[hl],λi hi=>?_⟩
  grind
def gu(ht:P.underlying t=aa (.slice e))(hs:P.cellsOf e=r.size)(he:gr P e r):gr P t (.slice r):=by
 intro H enc w spare held fuel cs x h
 rcases open_slice ht h with⟨rfl,rfl⟩|⟨ad,len,cap,m,n,D,Pl,rfl,_,hl,hm,ZB,rfl,hi⟩
 .exact⟨[],dy.nil _ _ _,⟨by simp[maxLen],λx hx=>absurd hx (by simp)⟩,by simp[u7,Rows.uptoBulk]⟩
 .have hlm:len<=m:=by rw[ZB];split<;>omega
  have key:∀i,i<len->∃y:r.den,∃yA,(yA.length=r.size/\(∀j,j<r.size->w.cell? ((ad.add (i*r.size)).add j)=yA[j]?))/\dy (here w) w r yA y/\WF r y/\u7 r y<=Rows.uptoBulk (D i):=by
   intro i mO;obtain⟨yA,hc,htr⟩:=hi i (by omega);rw[hs]at hc;obtain⟨_,B7,Fg⟩:=World.cells?_some hc;obtain⟨y,h1,h2,h3⟩:=he H enc w spare held n yA _ htr;exact(by grind)
  obtain⟨l,WL,hp⟩:=sT len key;subst WL;have qe:=r.size_pos;refine⟨l,⟨aa ad,cap,rfl,hl,hm,λi hi=>?_⟩,⟨by omega,λx hx=>?_⟩,?_⟩
  .obtain⟨yA,⟨B7,Fg⟩,hr,_,_⟩:=hp i hi;obtain⟨cs0,⟨yB,yC⟩,_⟩:=hp 0 (by omega);have h0:=yC 0 qe;rw[aqR (by omega)]at h0;simp only[Nat.zero_mul,Addr.add,if_true]at h0
   have uL:ad.spot=ae:=by
    cases uL:ad.spot with
    |none=>rfl
    |some q=>
     unfold World.cell? at h0
     grind
   obtain⟨bb,off,sp⟩:=ad;simp only at uL;subst uL;refine⟨bb,off,yA,rfl,block_lt_of_cell h0,B7,λj u hu=>?_,hr⟩
   grind [dV]
  .grind [aq6]
  .simp only[u7,Rows.uptoBulk,sz]
   have:∀(n:Nat),n<=l.length->((l.take n).map (u7 r)).sum<=(((aq0 n).map D).map Rows.uptoBulk).sum:=by
    intro n hn
    induction n with
    |zero=>simp
    |succ n ih=>
     have h1:=ih (by omega);obtain⟨_,_,_,_,h3⟩:=hp n (by omega)
     grind [List.take_succ_eq_append_getElem,List.range_succ]
   grind
def fe{f:Field}{off:Nat}(ho:f.offset=off)(hc:P.cellsOf f.type=r.size)(he:gr P f.type r):yV P [f] r off:=by
 intro H enc w spare held n cs xs hl hx _;subst ho
 match xs,hl with
 |[x],_=>
  have h:=hx 0 f rfl;rw[hc]at h;obtain⟨y,h1,h2,h3⟩:=he H enc w spare held n _ x h
  grind [Rows.uptoBulkAll]
def bI{f:Field}{fs:List Field}{off:Nat}(ho:f.offset=off)(hc:P.cellsOf f.type=a.size)(he:gr P f.type a)(hr:yV P fs b (off+a.size)):yV P (f::fs) (.pair a b) off:=by
 intro H enc w spare held n cs xs hl hx hle;subst ho
 match xs,hl with
 |x::xs,hl=>
  have h:=hx 0 f rfl;rw[hc]at h;obtain⟨y,h1,h2,h3⟩:=he H enc w spare held n _ x h;simp only[Row.size]at hle;obtain⟨z,g1,g2,g3⟩:=hr H enc w spare held n cs xs (by simpa using hl) (λi f' hf=>by simpa using hx (i+1) f' (by simpa using hf)) (by omega);refine⟨(y,z),⟨_,_,?_,h1,g1⟩,⟨h2,g2⟩,by grind [u7,Rows.uptoBulkAll]⟩
  grind [Row.size,List.drop_drop]
def ee{fs:Array Field}(ht:P.underlying t=aa (.struct fs))(hc:P.cellsOf t=r.size)(h:yV P fs.toList r 0):gr P t r:=by
 intro H enc w spare held fuel cs x hx;obtain⟨xs,n,_,rfl,hlen,Mz,hf⟩:=DataW.trod_struct ht hx;rw[hc]at hlen;obtain⟨y,h1,h2,h3⟩:=h H enc w spare held n cs xs (by simpa using Mz) (by grind) (by omega)
 grind [Rows.uptoBulk]
variable {H:Type} {enc:TypeId×Value->H} {w:World} {base:Nat} {spare:Nat->Bool} {held:Bool} {v:Value} {d:DataW H} {ps:List MemPlace}
def Tz(ht:P.underlying t=aa (.int k))(hv:Value.okWide P w .any base t v)(h:DataW.Trod enc P w 0 spare held t v d ps):∃n:Int,v= .int k n/\WF (.int k) n/\u7 (.int k) n<=Rows.uptoBulk d:=by
 obtain⟨x,rfl,rfl,rfl,wx⟩:=open_int ht hv h;exact⟨x,rfl,by simpa[Lit.wf,WF]using wx,by simp[u7,Rows.uptoBulk]⟩
def zC{fs:Array Field}(ht:P.underlying t=aa (.struct fs))(ho:gr P t r)(hv:Value.okWide P w .any base t v)(h:DataW.Trod enc P w 0 spare held t v d ps):
 ∃(es:List Value)(x:r.den),v= .agg es.toArray/\dy (here w) w r es x/\WF r x/\u7 r x<=Rows.uptoBulk d:=by
 obtain⟨cs,rfl,_⟩:=okWide_struct ht hv;obtain⟨fuel,hf⟩:=h;obtain⟨x,h1,h2,h3⟩:=ho H enc w spare held fuel _ _ hf;exact⟨cs.toList,x,by simp,by simpa[Value.cells]using h1,h2,h3⟩
def uM(hl:laidOutB P=af){W W':World}(hb:Below W.heap.size W W'){sp:Nat->Bool}:(ts:List TypeId)->(vs:List Value)->(ds:List (DataW H))->(ps:List MemPlace)->
 (∀t∈ts,(P.readableRec t&&aru t P.types.size)=af)->DataW.TrodAll enc P W 0 (λ_=>af) af ts vs ds ps->(∀x∈ps,x.block<W.heap.size)->(∀x∈ps,sp x.block=af)->DataW.TrodAll enc P W' 0 sp af ts vs ds ps
 |[],[],[],_,_,h,_,_=>h
 |t::ts,v::vs,d::ds,ps,hr,h,aF,uL=>by
  obtain⟨p,q,h1,h2,rfl⟩:=h;have ht:=hr t (by simp);simp only[arY,Nat.blt_eq]at ht
  exact⟨p,q,WideElems.Trod_stays hl ht.1 ht.2 h1 (λx hx=>hb.same (aF x (by simp[hx]))) (λx hx=>uL x (by simp[hx])),
   uM hl hb ts vs ds q (λt ht=>hr t (by simp[ht])) h2 (λx hx=>aF x (by simp[hx])) (λx hx=>uL x (by simp[hx])),rfl⟩
def Br{f:Func}{s:ChangeSpec}{apart fresh handsOn again:Bool}{W W':World}{args:Array Value}{v:Value}{ds gs:List (DataW H)}{before pa pv:List MemPlace}
 (hW:DataW.Whole enc P f.params.toList s.vars apart W args.toList ds gs before)
 (Fh:∀(b:Nat)(sp:Nat->Bool)(hd:Bool),DataW.TrodAll enc P W' b sp hd f.resultTypes.toList (v.resultList f.resultTypes.size) (s.fn H (ds++gs)).results [])
 (KE:∀sp:Nat->Bool,(∀p∈before,sp p.block=af)->DataW.TrodAll enc P W' 0 sp af f.params.toList args.toList (s.fn H (ds++gs)).args pa)
 (VL:∀sp:Nat->Bool,(∀p∈before,sp p.block=af)->DataW.TrodVars enc P W' sp s.vars (s.fn H (ds++gs)).vars pv)
 (hps:before=pa++pv)(hb:Below W.heap.size W W')
 (qk:∀(j:Nat)(t:TypeId)(r:Value),f.resultTypes[j]? =aa t->(v.resultList f.resultTypes.size)[j]? =aa r->Value.okWide P W' .any 0 t r):
 s.post enc P f apart fresh handsOn again W args v W':=by
 have aF:∀p∈before,p.block<W.heap.size:=λp hp=>hW.lt p hp
 have hold:∀p∈before,(λb=>decide (b<W.heap.size)) p.block=af:=λp hp=>by grind
 refine⟨ds,gs,before,[],pa,pv,hW,Fh _ _ _,KE _ hold,VL _ hold,World.keptBut_mono (λp hp=>⟨hp,?_⟩) (hb.frame (· ∈before)),λ_=>?_⟩
 .grind
 .obtain⟨_,_,_,_,_,hz,hn⟩:=hW;refine⟨qk,_,_,([]++pa)++pv,⟨[]++pa,pv,trodAll_append (KE _ (λ_ _=>rfl)) (Fh _ _ _),VL _ (λ_ _=>rfl),rfl,?_,?_⟩,?_⟩
  .intro b off hp
   have dC:MemPlace.cell b off∈before:=by rw[hps];simpa using hp
   rw[hb.frozen (aF _ dC)];exact hz b off dC
  all_goals grind
end
end
section
def iE{α:Type}(l:List α)(a b:Int):Option (List α):=if 0<=a/\a<=b/\b<=l.length then aa ((l.take b.toNat).drop a.toNat)else ae
variable {F:Nat->Prop} {w:World} {r:Row}
def dy.cut{A:Option Addr}{cap:Nat}{l:List r.den}{a b:Nat}(h:dy F w (.slice r) [.slice A l.length cap] l)(h1:a<=b)(h2:b<=l.length):
 dy F w (.slice r) [sliced A a b cap r.size] ((l.take b).drop a):=by
 obtain⟨A',PC,hv,hc,hm,hs⟩:=h;simp only[arV,asf,and_true,true_and]at hv;obtain⟨rfl,rfl⟩:=hv
 have hlen:((l.take b).drop a).length=b-a:=by simp;omega
 refine⟨_,cap-a,by rw[hlen];rfl,by omega,by omega,λi hi=>?_⟩
 have mO:a+i<l.length:=by omega
 grind [dV]
section
variable {P:Program} {n:Nat} {ops:Array Oper} {K:(Nat->Value)->World->Prop} {rest:List Oper} {ρ:Nat->Value}
variable {d:Nat} {ty:TypeId} {pos:String} {aft:Array Edge} {x y z:Operand} {t e:TypeId}
def TA{t e:TypeId}(ht:P.underlying t=aa (.slice e)):P.underlying t=aa (.slice (P.elem t)):=by
 simp[Program.elem,ht]
inductive WM(ρ:Nat->Value):Option Operand->Option Int->Prop
 |none:WM ρ ae ae
 |some {x:Operand} {k:IntKind} {i:Int} (h:ev ρ x= .int k i):WM ρ (aa x) (aa i)
def yW{ti:TypeInfo}{A:Option Addr}{len cap:Nat}{lo hi:Option Operand}{a b:Option Int}(ht:P.underlying t=aa (.slice e))(mO:P.info? e=aa ti)(hx:ev ρ x= .slice A len cap)
 (ha:WM ρ lo a)(hb:WM ρ hi b)(h0:0<=a.getD 0)(h1:a.getD 0<=b.getD len)(h2:b.getD len<=len)(hc:len<=cap):
 (execOp (ev ρ) ⟨aa d, .slice t x lo hi ae,ty,pos,aft,ae⟩).run P w= .ok (.value (sliced A (a.getD 0).toNat (b.getD len).toNat cap ti.size)) w:=by
 have VM:=TA ht
 have he:P.elem t=e:=by simp[Program.elem,ht]
 cases ha with
 |none=>
  cases hb with
  |none=>
   have:=run_slice_all (P:=P) (w:=w) t A len cap VM;simp[execOp,hx,run_sliceAt_slice (P:=P) w t _ _ _ _ VM,this,he,sizeOf,typeInfo,mO]
  |some hh=>
   rename_i xb kb ib;have:=run_slice_h (P:=P) (w:=w) t A len cap VM kb ib (by simpa using h1) (by grind);simp[execOp,hx,hh,run_sliceAt_slice (P:=P) w t _ _ _ _ VM,this,he,sizeOf,typeInfo,mO]
 |some hl=>
  rename_i xa ka ia
  cases hb with
  |none=>
   have:=run_slice_l (P:=P) (w:=w) t A len cap VM ka ia (by simpa using h0) (by simpa using h1);simp[execOp,hx,hl,run_sliceAt_slice (P:=P) w t _ _ _ _ VM,this,he,sizeOf,typeInfo,mO]
  |some hh=>
   rename_i xb kb ib;have:=run_slice_lh (P:=P) (w:=w) t A len cap VM ka kb ia ib (by simpa using h0) (by simpa using h1) (by grind);simp[execOp,hx,hl,hh,run_sliceAt_slice (P:=P) w t _ _ _ _ VM,this,he,sizeOf,typeInfo,mO]
def w4{α:Type}{l m:List α}{a b:Int}(h:iE l a b=aa m):∃p q:Nat,a=p/\b=q/\p<=q/\q<=l.length/\m=(l.take q).drop p:=by
 grind [iE]
end
end
abbrev sA:Row:= .int .i64
def KF:List (Nat×((r:Row)×r.den)):=[(2,⟨.pair sA (.pair sA (.pair sA (.pair sA (.pair sA (.pair sA (.pair sA (.pair sA (.pair sA (.pair sA (.pair sA sA)))))))))),(31,28,31,30,31,30,31,31,30,31,30,31)⟩)]
section
inductive DR where
 |leaf (r:Row)
 |sl (T:TypeId) (d:DR)
 |pair (a b:DR)
@[reducible] def DR.row:DR->Row
  | .leaf r=>r
  | .sl _ d=> .slice d.row
  | .pair a b=> .pair a.row b.row
@[reducible] def DR.low:DR->Row
  | .leaf r=>r
  | .sl _ _=> .od
  | .pair a b=> .pair a.low b.low
theorem DR.size:(d:DR)->d.low.size=d.row.size
 | .leaf _=>rfl
 | .sl _ _=>rfl
 | .pair a b=>by show a.low.size+b.low.size=a.row.size+b.row.size;rw[a.size,b.size]
inductive iS:DR->DR->Type where
 |here {d:DR}:iS d d
 |fst {a b e:DR} (p:iS a e):iS (.pair a b) e
 |snd {a b e:DR} (p:iS b e):iS (.pair a b) e
def iS.lo:{d e:DR}->iS d e->Path d.low e.low
 |_,_, .here=> .here
 |_,_, .fst p=> .fst p.lo
 |_,_, .snd p=> .snd p.lo
def iS.hi:{d e:DR}->iS d e->Path d.row e.row
 |_,_, .here=> .here
 |_,_, .fst p=> .fst p.hi
 |_,_, .snd p=> .snd p.hi
def DR.path:(d:DR)->List Bool->Option ((e:DR)×iS d e)
 |d,[]=>aa ⟨d, .here⟩
 | .pair a b,c::p=>match c with
   |false=>match a.path p with
    |some ⟨e,q⟩=>aa ⟨e, .fst q⟩
    |none=>ae
   |true=>match b.path p with
    |some ⟨e,q⟩=>aa ⟨e, .snd q⟩
    |none=>ae
 |_,_::_=>ae
def pE(F:Nat->Prop)(w:World)(T:TypeId)(r:Row)(v:Value)(l:List r.den):Prop:=
 ∃xs,qg w 0 T r.size v l.length xs/\∀i(h:i<l.length),dy F w r ((xs.drop (i*r.size)).take r.size) l[i]
structure ra(Ss:Nat->Nat->Prop)(n:Nat)(m:Nat->Prop)(S:Nat->Prop):Prop where
 all:∀k,S k↔m k\/∃i,i<n/\Ss i k
 two:∀i j k,i<n->j<n->i≠j->Ss i k->¬Ss j k
 out:∀i k,i<n->Ss i k->¬m k
structure PK(A B S:Nat->Prop):Prop where
 all:∀k,S k↔A k\/B k
 off:∀k,A k->¬B k
def MF{α:Type}(F:Nat->Prop)(w:World)(T:TypeId)(r:Row)(rel:Nat->r.den->α->(Nat->Prop)->Prop)(u:Value)(l:List α)(S:Nat->Prop):Prop:=
 ∃(lh:List r.den)(Ss:Nat->Nat->Prop),pE F w T r u lh/\lh.length=l.length/\(∀i(h1:i<lh.length)(h2:i<l.length),rel i lh[i] l[i] (Ss i))/\ra Ss l.length (cx u) S
def mP(F:Nat->Prop)(w:World):(d:DR)->d.low.den->d.row.den->(Nat->Prop)->Prop
 | .leaf _,x',x,S=>x'=x/\∀k,¬S k
 | .sl T d,u,l,S=>MF F w T d.low (λ_=>mP F w d) u l S
 | .pair a b,x',x,S=>∃A B,mP F w a x'.1 x.1 A/\mP F w b x'.2 x.2 B/\PK A B S
def qR(F:Nat->Prop)(w:World):{d e:DR}->iS d e->d.low.den->d.row.den->(Nat->Prop)->Prop
 |_,_, .here,_,_,S=>∀k,¬S k
 |_,_, .fst (b:=b) p,x',x,S=>∃A B,qR F w p x'.1 x.1 A/\mP F w b x'.2 x.2 B/\PK A B S
 |_,_, .snd (a:=a) p,x',x,S=>∃A B,mP F w a x'.1 x.1 A/\qR F w p x'.2 x.2 B/\PK A B S
section
variable {F F':Nat->Prop} {w w':World} {T:TypeId} {S:Nat->Prop}
theorem pE.keep{r:Row}{v:Value}{l:List r.den}(h:pE F w T r v l)(hs:Step F w F' w')(hb:∀k,cx v k->w'.heap[k]? =w.heap[k]?):pE F' w' T r v l:=by
 obtain⟨xs,⟨Ir,KG⟩,h3⟩:=h;refine⟨xs,⟨Ir,?_⟩,λi hi=>(h3 i hi).step hs⟩
 rcases KG with h2|⟨gg,o0,cap,cur,rfl,u0,hg,rest⟩
 .exact .inl h2
 .exact .inr ⟨gg,o0,cap,cur,rfl,u0,(hb gg rfl).trans hg,rest⟩
def pE.lt{r:Row}{v:Value}{l:List r.den}(h:pE F w T r v l):∀k,cx v k->k<w.heap.size:=by
 obtain⟨xs,h,_⟩:=h
 exact λk hk=>(h.lt k hk).2
theorem pE.one{r:Row}{v:Value}{l:List r.den}(h:pE F w T r v l):v.oneCell'=af:=by
 obtain⟨xs,⟨_,h⟩,_⟩:=h
 rcases h with⟨rfl,_⟩|⟨gg,o0,cap,cur,rfl,_⟩<;>rfl
theorem pE.nil(F:Nat->Prop)(w:World)(T:TypeId)(r:Row):pE F w T r (.slice ae 0 0) []:=(pz.nil 0 F w T r).2
def PK.left{A B:Nat->Prop}(h:PK A B S):∀k,A k->S k:=λk hk=>(h.all k).2 (.inl hk)
def PK.right{A B:Nat->Prop}(h:PK A B S):∀k,B k->S k:=λk hk=>(h.all k).2 (.inr hk)
def ra.cx{Ss:Nat->Nat->Prop}{n:Nat}{m:Nat->Prop}(h:ra Ss n m S):∀k,m k->S k:=λk hk=>(h.all k).2 (.inl hk)
def ra.part{Ss:Nat->Nat->Prop}{n:Nat}{m:Nat->Prop}(h:ra Ss n m S){i:Nat}(hi:i<n):∀k,Ss i k->S k:=λk hk=>(h.all k).2 (.inr ⟨i,hi,hk⟩)
def MF.mono{α:Type}{r:Row}{rel ZC:Nat->r.den->α->(Nat->Prop)->Prop}{u:Value}{l:List α}(h:MF F w T r rel u l S)(hs:Step F w F' w')(hb:∀k,S k->w'.heap[k]? =w.heap[k]?)
 (hr:∀i x'(hi:i<l.length)A,(∀k,A k->S k)->rel i x' l[i] A->ZC i x' l[i] A):MF F' w' T r ZC u l S:=by
 obtain⟨lh,Ss,h1,h2,h3,h4⟩:=h;exact⟨lh,Ss,h1.keep hs λk hk=>hb k (h4.cx k hk),h2,λi a b=>hr i _ b _ (h4.part b) (h3 i a b),h4⟩
theorem mP.keep(hs:Step F w F' w'):{d:DR}->{x':d.low.den}->{x:d.row.den}->{S:Nat->Prop}->mP F w d x' x S->(∀k,S k->w'.heap[k]? =w.heap[k]?)->mP F' w' d x' x S
 | .leaf _,_,_,_,h,_=>h
 | .sl T d,u,l,S,h,hb=>MF.mono (show MF F w T d.low _ u l S from h) hs hb λi x' hi A hA hr=>mP.keep hs hr λk hk=>hb k (hA k hk)
 | .pair a b,_,_,_,h,hb=>by
   obtain⟨A,B,h1,h2,h3⟩:=h;exact⟨A,B,h1.keep hs λk hk=>hb k (h3.left k hk),h2.keep hs λk hk=>hb k (h3.right k hk),h3⟩
theorem qR.keep(hs:Step F w F' w'):{d e:DR}->{p:iS d e}->{x':d.low.den}->{x:d.row.den}->{S:Nat->Prop}->qR F w p x' x S->(∀k,S k->w'.heap[k]? =w.heap[k]?)->qR F' w' p x' x S
 |_,_, .here,_,_,_,h,_=>h
 |_,_, .fst p,_,_,_,h,hb=>by
  obtain⟨A,B,h1,h2,h3⟩:=h;exact⟨A,B,qR.keep hs h1 λk hk=>hb k (h3.left k hk),h2.keep hs λk hk=>hb k (h3.right k hk),h3⟩
 |_,_, .snd p,_,_,_,h,hb=>by
  obtain⟨A,B,h1,h2,h3⟩:=h;exact⟨A,B,h1.keep hs λk hk=>hb k (h3.left k hk),qR.keep hs h2 λk hk=>hb k (h3.right k hk),h3⟩
def mP.lt:{d:DR}->{x':d.low.den}->{x:d.row.den}->{S:Nat->Prop}->mP F w d x' x S->∀k,S k->k<w.heap.size
 | .leaf _,_,_,_,h,k,hk=>absurd hk (h.2 k)
 | .sl T d,u,l,S,h,k,hk=>by
   obtain⟨lh,Ss,h1,h2,h3,h4⟩:=h
   rcases(h4.all k).1 hk with hm|⟨i,hi,hm⟩
   .exact h1.lt k hm
   .exact mP.lt (h3 i (by omega) hi) k hm
 | .pair a b,_,_,_,h,k,hk=>by
   obtain⟨A,B,h1,h2,h3⟩:=h
   rcases(h3.all k).1 hk with hm|hm
   .exact mP.lt h1 k hm
   .exact mP.lt h2 k hm
def mP.freeze:{d:DR}->{cs:List Value}->{x':d.low.den}->{x:d.row.den}->{S:Nat->Prop}->mP F w d x' x S->(∀k,S k->¬F k)->dy F w d.low cs x'->dy (λb=>F b\/S b) w d.row cs x
 | .leaf _,_,_,_,S,h,_,hr=>by
   obtain⟨rfl,_⟩:=h
   simp_all
 | .sl T d,cs,u,l,S,h,hn,hr=>by
   obtain⟨lh,Ss,⟨xs,hx,VN⟩,h2,h3,h4⟩:=h;obtain⟨rfl,_⟩:=hr
   have Fi:pz 0 (λb=>F b\/∃i,i<l.length/\Ss i b) w T d.row u l:=by
    refine⟨λk hk hF=>?_,xs,?_,λi hi=>?_⟩
    .rcases hF with hF|⟨i,hi,hm⟩
     .exact hn k (h4.cx k hk) hF
     .exact h4.out i k hi hm hk
    .rw[<-d.size,<-h2];exact hx
    .have mO:i<lh.length:=by omega
     have:=mP.freeze (h3 i mO hi) (λk hk=>hn k (h4.part hi k hk)) (VN i mO);rw[<-d.size]
     exact this.step λb hb=>(by grind)
   exact Fi.freeze.step (r:= .slice d.row) λb hb=>⟨by
    rcases hb with(hb|⟨i,hi,hb⟩)|hb
    .exact .inl hb
    .exact .inr (h4.part hi b hb)
    .exact .inr (h4.cx b hb),rfl⟩
 | .pair a b,_,_,_,S,h,hn,hr=>by
   obtain⟨A,B,h1,h2,h3⟩:=h;obtain⟨c1,c2,rfl,r1,r2⟩:=hr;exact⟨c1,c2,rfl,(mP.freeze h1 (λk hk=>hn k (h3.left k hk)) r1).step λb hb=>⟨hb.imp id (h3.left b),rfl⟩,(mP.freeze h2 (λk hk=>hn k (h3.right k hk)) r2).step λb hb=>⟨hb.imp id (h3.right b),rfl⟩⟩
def mP.out:{d e:DR}->(p:iS d e)->{x':d.low.den}->{x:d.row.den}->{S:Nat->Prop}->mP F w d x' x S->∃A B,mP F w e (p.lo.get x') (p.hi.get x) A/\qR F w p x' x B/\PK A B S
 |_,_, .here,_,_,S,h=>⟨S,λ_=>False,h,λ_ h=>h,⟨λk=>by simp,λ_ _ h=>h⟩⟩
 |_,_, .fst p,_,_,S,h=>by
  obtain⟨A,B,h1,h2,h3⟩:=h;obtain⟨A1,A2,g1,g2,g3⟩:=mP.out p h1;refine⟨A1,λk=>A2 k\/B k,g1,⟨A2,B,g2,h2,λk=>Iff.rfl,λk hk=>h3.off k (g3.right k hk)⟩,λk=>?_,λk hk hh=>?_⟩
  .rw[h3.all,g3.all,or_assoc]
  .exact hh.elim (g3.off k hk) (h3.off k (g3.left k hk))
 |_,_, .snd p,_,_,S,h=>by
  obtain⟨A,B,h1,h2,h3⟩:=h;obtain⟨B1,B2,g1,g2,g3⟩:=mP.out p h2;refine⟨B1,λk=>A k\/B2 k,g1,⟨A,B2,h1,g2,λk=>Iff.rfl,λk hk hh=>h3.off k hk (g3.right k hh)⟩,λk=>?_,λk hk hh=>?_⟩
  .rw[h3.all,g3.all];grind
  .exact hh.elim (λhh=>h3.off k hh (g3.left k hk)) (g3.off k hk)
def qR.put:{d e:DR}->(p:iS d e)->{x':d.low.den}->{x:d.row.den}->{y':e.low.den}->{y:e.row.den}->{A B S:Nat->Prop}->qR F w p x' x B->mP F w e y' y A->PK A B S->mP F w d (p.lo.set x' y') (p.hi.set x y) S
 |_,_, .here,_,_,y',y,A,B,S,h,hy,h3=>by
  have:A=S:=by
   funext k;exact propext ⟨λhk=>h3.left k hk,λhk=>((h3.all k).1 hk).elim id λhb=>absurd hb (h k)⟩
  subst this;exact hy
 |_,_, .fst p,x',x,y',y,A,B,S,h,hy,h3=>by
  obtain⟨A2,B2,g1,g2,g3⟩:=h
  have t1:PK A A2 (λk=>A k\/A2 k):=⟨λ_=>Iff.rfl,λk hk h2=>h3.off k hk (g3.left k h2)⟩
  refine⟨λk=>A k\/A2 k,B2,qR.put p g1 hy t1,g2,λk=>?_,λk hk h2=>?_⟩
  .rw[h3.all,g3.all,or_assoc]
  .exact hk.elim (λhk=>h3.off k hk (g3.right k h2)) λhk=>g3.off k hk h2
 |_,_, .snd p,x',x,y',y,A,B,S,h,hy,h3=>by
  obtain⟨A2,B2,g1,g2,g3⟩:=h
  have t1:PK A B2 (λk=>A k\/B2 k):=⟨λ_=>Iff.rfl,λk hk h2=>h3.off k hk (g3.right k h2)⟩
  refine⟨A2,λk=>A k\/B2 k,g1,qR.put p g2 hy t1,λk=>?_,λk hk h2=>?_⟩
  .rw[h3.all,g3.all];grind
  .exact h2.elim (λh2=>h3.off k h2 (g3.left k hk)) λh2=>g3.off k hk h2
end
end
section
inductive Tree where
 |leaf (r:Row) (x:r.den)
 |own (o:Nat)
 |nil
 |pair (a b:Tree)
 |view (o s:Nat) (r:Row) (m:List r.den)
 |junk (n:Nat)
structure zD where
 i:Int
 p:List Bool
 o:Nat
 s:Nat
inductive Th where
 |box (T:TypeId) (t:Tree)
 |own (T:TypeId) (r:Row) (l:List r.den)
 |yD (T:TypeId) (r:Row) (l:List r.den)
 |map (T:TypeId) (K:Row) (agg:Bool) (V:Row) (l:List (K.den×V.den))
 |fmap (T:TypeId) (K:Row) (agg:Bool) (V:Row) (l:List (K.den×V.den))
 |deep (T:TypeId) (d:DR) (l:List d.row.den) (h:Option zD)
 |fdeep (T:TypeId) (d:DR) (l:List d.row.den)
 |smap (T:TypeId) (K:Row) (agg:Bool) (V:Row) (l:List (K.den×V.den)) (it:Option (Nat×List (K.den×V.den)×Option (K.den×V.den)))
def Th.base:Th->Th
 | .yD T r l=> .own T r l
 | .fmap T K agg V l=> .map T K agg V l
 | .fdeep T d l=> .deep T d l ae
 |t=>t
inductive aI where
 |dead
 |undef
 |val (agg:Bool) (t:Tree)
 |ptr (o:Nat) (p:List Bool) (off:Nat)
 |at (r:Row) (x:r.den)
 |elem (o s:Nat) (r:Row) (i:Int) (x:r.den) (p:List Bool) (off:Nat)
 |tup (ds:List (Bool×Tree))
 |dlm (o:Nat) (d:DR) (i:Int) (p:List Bool) (off:Nat)
 |fn (f:FuncId) (caps:List (Nat×List Bool×Nat))
 |ifc (T:TypeId) (d:aI)
structure aN where
 val:Nat->Option Value
 con:Nat->Option Th
 sub:Nat->Nat->Prop
structure aN.le(H H':aN):Prop where
 val:∀o v,H.val o=aa v->H'.val o=aa v
 con:∀s t,H.con s=aa t->H'.con s=aa t
 sub:∀s t,H.con s=aa t->H'.sub s=H.sub s
def aN.le.refl(H:aN):H.le H:=⟨λ_ _ h=>h,λ_ _ h=>h,λ_ _ _=>rfl⟩
def aN.le.trans{H H' yE:aN}(h:H.le H')(k:H'.le yE):H.le yE:=⟨λo v e=>k.val o v (h.val o v e),λo v e=>k.con o v (h.con o v e),λs t e=>(k.sub s t (h.con s t e)).trans (h.sub s t e)⟩
def pt(H:aN)(o s:Nat)(r:Row)(m:List r.den)(v:Value):Prop:=
 ∃A cap T,∃l:List r.den,∃a b,H.val o=aa (.slice A l.length cap)/\H.con s=aa (.own T r l)/\a<=b/\b<=l.length/\m=(l.take b).drop a/\v=sliced A a b cap r.size
theorem pt.keep{H H':aN}(hH:H.le H'){o s:Nat}{r:Row}{m:List r.den}{v:Value}(h:pt H o s r m v):pt H' o s r m v:=by
 obtain⟨A,cap,T,l,a,b,h1,h2,h3⟩:=h;exact⟨A,cap,T,l,a,b,hH.val _ _ h1,hH.con _ _ h2,h3⟩
def pt.back{H H' yE:aN}(hH:H.le H')(ID:H.le yE){o s:Nat}{r:Row}{m:List r.den}{v0 v:Value}(h0:pt H o s r m v0)(h:pt H' o s r m v):pt yE o s r m v:=by
 obtain⟨A,cap,T,l,a,b,h1,h2,_⟩:=h0;obtain⟨A',PC,T',l',a',b',k1,k2,k3⟩:=h;have e1:=hH.val _ _ h1;have e2:=hH.con _ _ h2;rw[k1]at e1;rw[k2]at e2;simp only[aq2,Th.own.injEq,heq_eq_eq,true_and]at e2;obtain⟨rfl,rfl⟩:=e2;exact⟨A',PC,T',l',a',b',by rw[e1];exact ID.val _ _ h1,ID.con _ _ h2,k3⟩
theorem pt.one{H:aN}{o s:Nat}{r:Row}{m:List r.den}{v:Value}(h:pt H o s r m v):v.oneCell'=af:=by
 obtain⟨A,cap,T,l,a,b,_,_,_,_,_,rfl⟩:=h;simp[sliced,ar8]
def og(H:aN):List (Nat×List Bool×Nat)->List Value->Prop
 |[],vs=>vs=[]
 |c::cs,vs=>∃v us,vs=v::us/\(∃b,H.val c.1=aa (.pointer (aa ⟨b,0,ae⟩))/\v= .pointer (aa ⟨b,c.2.2,ae⟩))/\og H cs us
theorem og.keep{H H':aN}(hH:∀o v,H.val o=aa v->H'.val o=aa v):{cs:List (Nat×List Bool×Nat)}->{vs:List Value}->og H cs vs->og H' cs vs
 |[],_,h=>h
 |_::_,_,h=>by obtain⟨v,us,e,⟨b,h1,h2⟩,h3⟩:=h;exact⟨v,us,e,⟨b,hH _ _ h1,h2⟩,h3.keep hH⟩
def Holds(H:aN)(F:Nat->Prop)(w:World):Tree->List Value->Prop
 | .leaf r x,cs=>dy F w r cs x
 | .own o,cs=>∃v,H.val o=aa v/\v.oneCell'=af/\cs=[v]
 | .nil,cs=>cs=[.slice ae 0 0]
 | .pair a b,cs=>∃c1 c2,cs=c1++c2/\Holds H F w a c1/\Holds H F w b c2
 | .view o s r m,cs=>∃v,cs=[v]/\pt H o s r m v
 | .junk n,cs=>cs.length=n/\∀u∈cs,u.oneCell'=af
def Tree.size:Tree->Nat
 | .leaf r _=>r.size
 | .own _=>1
 | .nil=>1
 | .pair a b=>a.size+b.size
 | .view .. =>1
 | .junk n=>n
def bg(H:aN)(F:Nat->Prop)(w:World)(agg:Bool)(t:Tree)(v:Value):Prop:=
 ∃cs,Holds H F w t cs/\v=(bif agg then .agg cs.toArray else cs.headD undef)/\(agg=ag->cs=[v])
def vT(H:aN)(F:Nat->Prop)(w:World):List (Bool×Tree)->List Value->Prop
 |[],vs=>vs=[]
 |d::ds,vs=>∃v us,vs=v::us/\bg H F w d.1 d.2 v/\vT H F w ds us
def aH(H:aN)(F:Nat->Prop)(w:World):aI->Value->Prop
 | .dead,_=>True
 | .undef,v=>v=Go.undef
 | .val agg t,v=>bg H F w agg t v
 | .ptr o _ off,v=>∃b,H.val o=aa (.pointer (aa ⟨b,0,ae⟩))/\v= .pointer (aa ⟨b,off,ae⟩)
 | .at r x,v=>∃b off,v= .pointer (aa ⟨b,off,ae⟩)/\F b/\At F w r b off x
 | .elem o s r i x _ off,v=>∃g o0 q T m cap l,H.val o=aa (.slice (aa ⟨g,o0,ae⟩) m cap)/\i=(q:Nat)/\H.con s=aa (.own T r l)/\idx l i=aa x/\v= .pointer (aa ⟨g,o0+q*r.size+off,ae⟩)
 | .tup ds,v=>∃vs,v= .tuple vs.toArray/\vT H F w ds vs
 | .dlm o d i _ off,v=>∃g o0 q m cap,H.val o=aa (.slice (aa ⟨g,o0,ae⟩) m cap)/\i=(q:Nat)/\v= .pointer (aa ⟨g,o0+q*d.low.size+off,ae⟩)
 | .fn f caps,v=>∃vs,v= .func (.func f) #[] vs.toArray/\og H caps vs
 | .ifc T d,v=>∃u,v= .iface T u/\aH H F w d u
section
variable {H H':aN} {F F':Nat->Prop} {w w':World}
theorem Holds.length:{t:Tree}->{cs:List Value}->Holds H F w t cs->cs.length=t.size
 | .leaf _ _,_,h=>dy.length h
 | .own _,_,h=>by obtain⟨v,_,_,rfl⟩:=h;rfl
 | .nil,_,h=>by rw[show _=_ from h];rfl
 | .pair a b,_,h=>by obtain⟨c1,c2,rfl,h1,h2⟩:=h;simp[h1.length,h2.length,Tree.size]
 | .view ..,_,h=>by obtain⟨v,rfl,_⟩:=h;rfl
 | .junk _,_,h=>h.1
def Holds.mb:{t:Tree}->{cs:List Value}->Holds H F w t cs->∀u∈cs,u.oneCell'=af
 | .leaf _ _,_,h=>dy.mb h
 | .own _,_,h=>by obtain⟨v,_,h1,rfl⟩:=h;simpa using h1
 | .nil,_,h=>by rw[show _=_ from h];simp[ar8]
 | .pair a b,_,h=>by
   obtain⟨c1,c2,rfl,h1,h2⟩:=h;intro u hu
   rcases arf.1 hu with h'|h'
   .exact h1.mb u h'
   .exact h2.mb u h'
 | .view ..,_,h=>by obtain⟨v,rfl,h⟩:=h;simpa using h.one
 | .junk _,_,h=>h.2
theorem Holds.keep(hH:H.le H')(hs:Step F w F' w'):{t:Tree}->{cs:List Value}->Holds H F w t cs->Holds H' F' w' t cs
 | .leaf _ _,_,h=>dy.step hs h
 | .own _,_,h=>by obtain⟨v,h0,h1,rfl⟩:=h;exact⟨v,hH.val _ _ h0,h1,rfl⟩
 | .nil,_,h=>h
 | .pair a b,_,h=>by obtain⟨c1,c2,rfl,h1,h2⟩:=h;exact⟨c1,c2,rfl,h1.keep hH hs,h2.keep hH hs⟩
 | .view ..,_,h=>by obtain⟨v,rfl,h⟩:=h;exact⟨v,rfl,h.keep hH⟩
 | .junk _,_,h=>h
def Holds.back{yE:aN}{w0:World}{F0:Nat->Prop}(hH:H.le H')(ID:H.le yE):{t:Tree}->{cs0 cs:List Value}->Holds H F0 w0 t cs0->Holds H' F w t cs->Holds yE F w t cs
 | .leaf _ _,_,_,_,h=>h
 | .own _,_,_,h0,h=>by
   obtain⟨v,a0,_,_⟩:=h0;obtain⟨u,b0,b1,rfl⟩:=h;have:=hH.val _ _ a0;rw[b0]at this;obtain rfl:=aqP this;exact⟨u,ID.val _ _ a0,b1,rfl⟩
 | .nil,_,_,_,h=>h
 | .pair a b,_,_,h0,h=>by
   obtain⟨_,_,_,a1,a2⟩:=h0;obtain⟨c1,c2,rfl,h1,h2⟩:=h;exact⟨c1,c2,rfl,Holds.back (w0:=w0) (F0:=F0) hH ID a1 h1,Holds.back (w0:=w0) (F0:=F0) hH ID a2 h2⟩
 | .view ..,_,_,h0,h=>by
   obtain⟨_,_,h0⟩:=h0;obtain⟨v,rfl,h⟩:=h;exact⟨v,rfl,h0.back hH ID h⟩
 | .junk _,_,_,_,h=>h
theorem bg.keep{agg:Bool}{t:Tree}{v:Value}(hH:H.le H')(hs:Step F w F' w')(h:bg H F w agg t v):bg H' F' w' agg t v:=by
 obtain⟨cs,h1,h2⟩:=h;exact⟨cs,h1.keep hH hs,h2⟩
theorem vT.keep(hH:H.le H')(hs:Step F w F' w'):{ds:List (Bool×Tree)}->{vs:List Value}->vT H F w ds vs->vT H' F' w' ds vs
 |[],_,h=>h
 |_::_,_,h=>by obtain⟨v,us,rfl,h1,h2⟩:=h;exact⟨v,us,rfl,h1.keep hH hs,h2.keep hH hs⟩
theorem At.keep{r:Row}{b off:Nat}{x:r.den}(hs:Step F w F' w')(hb:F b)(h:At F w r b off x):At F' w' r b off x:=by
 obtain⟨es,hl,hc,hr⟩:=h;exact⟨es,hl,λj u hu=>(World.cell?_of_block (hs b hb).2).trans (hc j u hu),hr.step hs⟩
theorem aH.keep(hH:H.le H')(hs:Step F w F' w'):{d:aI}->{v:Value}->aH H F w d v->aH H' F' w' d v
 | .dead,_,_=>trivial
 | .undef,_,h=>h
 | .val _ _,_,h=>bg.keep hH hs h
 | .ptr _ _ _,_,h=>by obtain⟨b,h1,h2⟩:=h;exact⟨b,hH.val _ _ h1,h2⟩
 | .at _ _,_,h=>by obtain⟨b,off,h1,h2,h3⟩:=h;exact⟨b,off,h1,(hs b h2).1,h3.keep hs h2⟩
 | .elem ..,_,h=>by obtain⟨g,o0,q,T,m,cap,l,h1,h2,h3,h4⟩:=h;exact⟨g,o0,q,T,m,cap,l,hH.val _ _ h1,h2,hH.con _ _ h3,h4⟩
 | .tup _,_,h=>by obtain⟨vs,h1,h2⟩:=h;exact⟨vs,h1,h2.keep hH hs⟩
 | .dlm ..,_,h=>by obtain⟨g,o0,q,m,cap,h1,h2,h3⟩:=h;exact⟨g,o0,q,m,cap,hH.val _ _ h1,h2,h3⟩
 | .fn ..,_,h=>by obtain⟨vs,h1,h2⟩:=h;exact⟨vs,h1,h2.keep hH.val⟩
 | .ifc _ d,_,h=>by obtain⟨u,h1,h2⟩:=h;exact⟨u,h1,aH.keep hH hs (d:=d) h2⟩
def find{α:Type}:List (Nat×α)->Nat->Option α
 |[],_=>ae
 |(m,a)::l,n=>bif aqV m n then aa a else find l n
def del{α:Type}(ns:List Nat):List (Nat×α)->List (Nat×α)
 |[]=>[]
 |(m,a)::l=>bif ns.any (aqV m)then del ns l else(m,a)::del ns l
theorem bp{α:Type}{m:Nat}{a:α}{l:List (Nat×α)}{n:Nat}:find ((m,a)::l) n=if m=n then aa a else find l n:=by
 show(bif aqV m n then aa a else find l n)=_
 simp_all
def kw{α:Type}{l l':List (Nat×α)}{n:Nat}:find (l++l') n=(find l n).or (find l' n):=by
 induction l with
 |nil=>rfl
 |cons p l ih=>
  grind [bp]
theorem any_beq{ns:List Nat}{m:Nat}:ns.any (aqV m)=af↔m∈ns:=by
 simp_all
theorem kz{α:Type}{ns:List Nat}{l:List (Nat×α)}{n:Nat}{a:α}:find (del ns l) n=aa a↔n∉ns/\find l n=aa a:=by
 induction l with
 |nil=>simp[del,find]
 |cons p l ih=>
  grind [del,any_beq,bp]
def sU(F:Nat->Prop)(w:World):Prop:=∀g d,find KF g=aa d->F g/\At F w d.1 g 0 d.2
def sU.step{F F':Nat->Prop}{w w':World}(h:sU F w)(hs:Step F w F' w'):sU F' w':=λg d hg=>⟨(hs g (h g d hg).1).1,(h g d hg).2.keep hs (h g d hg).1⟩
def iP(H:aN)(F:Nat->Prop)(w:World)(K:Row)(agg:Bool)(V:Row):List MapEntry->List (K.den×V.den)->Prop
 |[],l=>l=[]
 |e::es,l=>∃k x l',l=(k,x)::l'/\mS K k=aa e.key/\bg H F w agg (.leaf V x) e.val/\iP H F w K agg V es l'
theorem iP.keep{H H':aN}{F F':Nat->Prop}{w w':World}(hH:H.le H')(hs:Step F w F' w'){K:Row}{agg:Bool}{V:Row}:{es:List MapEntry}->{l:List (K.den×V.den)}->iP H F w K agg V es l->iP H' F' w' K agg V es l
 |[],_,h=>h
 |_::_,_,h=>by obtain⟨k,x,l',e,h1,h2,h3⟩:=h;exact⟨k,x,l',e,h1,h2.keep hH hs,iP.keep hH hs h3⟩
def iP.jy{H H':aN}{F:Nat->Prop}{w:World}{K:Row}{agg:Bool}{V:Row}:{es:List MapEntry}->{l:List (K.den×V.den)}->iP H F w K agg V es l->iP H' F w K agg V es l
 |[],_,h=>h
 |_::_,_,h=>by
  obtain⟨k,x,l',e,h1,⟨cs,h2,MG⟩,h3⟩:=h;exact⟨k,x,l',e,h1,⟨cs,h2,MG⟩,iP.jy h3⟩
noncomputable def gf:(K:Row)->K.den->K.den->Bool
 | .int _,a,b=>decide ((a:Int)=b)
 | .bool,a,b=>decide ((a:Bool)=b)
 | .str,a,b=>decide ((a:ByteArray)=b)
 | .pair (.int _) (.int _),a,b=>decide ((a.1:Int)=b.1/\(a.2:Int)=b.2)
 |_,_,_=>ag
def IE(H:aN)(F:Nat->Prop)(w:World)(S:Nat->Prop)(K:Row)(agg:Bool)(V:Row)(b:Nat)(es:Array MapEntry)(clock:Nat):Option (Nat×List (K.den×V.den)×Option (K.den×V.den))->Prop
 |none=>True
 |some (n,left,cur)=>∃r since seen last,S r/\r≠b/\H.val n=aa (.pointer (aa ⟨r,0,ae⟩))/\w.heap[r]? =aa (.mapIter (aa b) since seen last)/\(∀x∈es.toList,x.born<since)/\since<=last/\since<=clock/\
   (∃l2,iP H F w K agg V (leftOf es seen).toList l2/\l2.Perm left)/\∀p,cur=aa p->last=clock/\∃e∈es.toList,(∃s0:Array Nat,seen=s0.push e.born)/\mS K p.1=aa e.key/\bg H F w agg (.leaf V p.2) e.val
theorem IE.keep{H H':aN}{F F':Nat->Prop}{w w':World}{S:Nat->Prop}{K:Row}{agg:Bool}{V:Row}{b:Nat}{es:Array MapEntry}{clock:Nat}{it:Option (Nat×List (K.den×V.den)×Option (K.den×V.den))}
 (hH:H.le H')(hs:Step F w F' w')(hb:∀k,S k->w'.heap[k]? =w.heap[k]?)(h:IE H F w S K agg V b es clock it):IE H' F' w' S K agg V b es clock it:=by
 match it,h with
 |none,_=>trivial
 |some (n,left,cur),⟨r,since,seen,last,h1,h2,h3,h4,h5,h6,h6',⟨l2,h7,h8⟩,h9⟩=>
  exact⟨r,since,seen,last,h1,h2,hH.val _ _ h3,(hb r h1).trans h4,h5,h6,h6',⟨l2,h7.keep hH hs,h8⟩,λp hp=>by
   obtain⟨g1,e,g2,g3,g4,g5⟩:=h9 p hp
   exact⟨g1,e,g2,g3,g4,g5.keep hH hs⟩⟩
def IE.jy{H H':aN}{F:Nat->Prop}{w:World}{S:Nat->Prop}{K:Row}{agg:Bool}{V:Row}{b:Nat}{es:Array MapEntry}{clock:Nat}{it:Option (Nat×List (K.den×V.den)×Option (K.den×V.den))}
 (hn:∀n x u,it=aa (n,x)->H.val n=aa u->H'.val n=aa u)(h:IE H F w S K agg V b es clock it):IE H' F w S K agg V b es clock it:=by
 match it,h,hn with
 |none,_,_=>trivial
 |some (n,left,cur),⟨r,since,seen,last,h1,h2,h3,h4,h5,h6,h6',⟨l2,h7,h8⟩,h9⟩,hn=>
  exact⟨r,since,seen,last,h1,h2,hn _ _ _ rfl h3,h4,h5,h6,h6',⟨l2,h7.jy,h8⟩,λp hp=>by
   obtain⟨g1,e,g2,g3,g4,cs,g5,g6⟩:=h9 p hp
   exact⟨g1,e,g2,g3,g4,cs,g5,g6⟩⟩
def rR(H:aN)(F:Nat->Prop)(w:World)(d:DR)(h:Option zD)(i:Nat)(x':d.low.den)(x:d.row.den)(S:Nat->Prop):Prop:=
 match h with
 |none=>mP F w d x' x S
 |some h=>(h.i≠(i:Int)->mP F w d x' x S)/\(h.i=(i:Int)->∃T' e,∃q:iS d (.sl T' e),d.path h.p=aa ⟨_,q⟩/\qR F w q x' x S/\H.val h.o=aa (q.lo.get x'))
theorem rR.keep{H H':aN}{F F':Nat->Prop}{w w':World}{d:DR}{h:Option zD}{i:Nat}{x':d.low.den}{x:d.row.den}{S:Nat->Prop}(hr:rR H F w d h i x' x S)(hH:H.le H')(hs:Step F w F' w')(hb:∀k,S k->w'.heap[k]? =w.heap[k]?):rR H' F' w' d h i x' x S:=by
 cases h with
 |none=>exact mP.keep hs hr hb
 |some h=>
  refine⟨λhi=>(hr.1 hi).keep hs hb,λhi=>?_⟩;obtain⟨T',e,q,h1,h2,h3⟩:=hr.2 hi;exact⟨T',e,q,h1,h2.keep hs hb,hH.val _ _ h3⟩
def fp(S:Nat->Prop)(v:Value):Th->Nat->Prop
 | .box ..,k=>v= .pointer (aa ⟨k,0,ae⟩)
 | .own ..,k=>cx v k
 | .yD ..,_=>False
 | .map ..,k=>v= .map (aa k)
 | .fmap ..,_=>False
 | .deep ..,k=>S k
 | .fdeep ..,_=>False
 | .smap ..,k=>S k
def kA(H:aN)(F:Nat->Prop)(w:World)(S:Nat->Prop)(v:Value):Th->Prop
 | .box T t=>∃b es,v= .pointer (aa ⟨b,0,ae⟩)/\w.heap[b]? =aa (.cells es.toArray T (0,0))/\Holds H F w t es
 | .own T r l=>∃xs,qg w 0 T r.size v l.length xs/\∀i(h:i<l.length),dy F w r ((xs.drop (i*r.size)).take r.size) l[i]
 | .yD _ r l=>dy F w (.slice r) [v] l
 | .fmap _ K agg V l=>dy F w (.map K agg V) [v] l
 | .map _ K agg V l=>∃b es clock,v= .map (aa b)/\w.heap[b]? =aa (.map es clock)/\MapKept.Stamped es clock/\iP H F w K agg V es.toList l
 | .deep T d l h=>MF F w T d.low (rR H F w d h) v l S
 | .fdeep _ d l=>dy F w (.slice d.row) [v] l
 | .smap _ K agg V l it=>∃b es clock l',v= .map (aa b)/\S b/\w.heap[b]? =aa (.map es clock)/\MapKept.Stamped es clock/\iP H F w K agg V es.toList l'/\l'.Perm l/\IE H F w S K agg V b es clock it
structure IF(U:Nat->Prop)(H:aN)(F:Nat->Prop)(w:World)(v:Value)(s:Nat)(t:Th):Prop where
 one:v.oneCell'=af
 con:H.con s=aa t.base
 ok:kA H F w (H.sub s) v t
 no:∀k,fp (H.sub s) v t k->¬F k
 lt:∀k,fp (H.sub s) v t k->k<w.heap.size
 use:∀k,fp (H.sub s) v t k->U k
structure aP(U:Nat->Prop)(H:aN)(F:Nat->Prop)(w:World)(ob:Nat->Option (Nat×Th))(n:Nat):Prop where
 obj:∀o s t,ob o=aa (s,t)->∃v,H.val o=aa v/\IF U H F w v s t
 apart:∀o o' s s' t t' v v',o≠o'->ob o=aa (s,t)->ob o'=aa (s',t')->H.val o=aa v->H.val o'=aa v'->∀k,fp (H.sub s) v t k->¬fp (H.sub s') v' t' k
 fresh:∀m,n<=m->m<n+16->H.val m=ae/\H.con m=ae
 lt:∀b,F b->b<w.heap.size
 new:∀b,w.heap.size<=b->U b
 gl:sU F w
def kA.heap{S:Nat->Prop}{v:Value}{t:Th}(h:kA H F w S v t)(hH:H.le H')(hs:Step F w F' w')(hb:∀k,fp S v t k->w'.heap[k]? =w.heap[k]?):kA H' F' w' S v t:=by
 cases t with
 |box T t=>
  obtain⟨b,es,rfl,h1,h2⟩:=h;exact⟨b,es,rfl,(hb b rfl).trans h1,h2.keep hH hs⟩
 |own T r l=>
  obtain⟨xs,⟨Ir,KG⟩,h3⟩:=h;refine⟨xs,⟨Ir,?_⟩,λi hi=>(h3 i hi).step hs⟩
  rcases KG with h2|⟨gg,o0,cap,cur,rfl,u0,hg,rest⟩
  .exact .inl h2
  .exact .inr ⟨gg,o0,cap,cur,rfl,u0,(hb gg rfl).trans hg,rest⟩
 |yD T r l=>exact dy.step (r:= .slice r) hs h
 |fmap T K agg V l=>exact dy.step (r:= .map K agg V) hs h
 |fdeep T d l=>exact dy.step (r:= .slice d.row) hs h
 |deep T d l hh=>exact MF.mono (show MF F w T d.low _ v l S from h) hs hb λi x' hi A hA hr=>hr.keep hH hs λk hk=>hb k (hA k hk)
 |map T K agg V l=>
  obtain⟨b,es,clock,rfl,h1,h2,h3⟩:=h;exact⟨b,es,clock,rfl,(hb b rfl).trans h1,h2,h3.keep hH hs⟩
 |smap T K agg V l it=>
  obtain⟨b,es,clock,l',rfl,h0,h1,h2,h3,h4,h5⟩:=h;exact⟨b,es,clock,l',rfl,h0,(hb b h0).trans h1,h2,h3.keep hH hs,h4,h5.keep hH hs hb⟩
def pz.to{v:Value}{T:TypeId}{r:Row}{l:List r.den}(S:Nat->Prop)(h:pz 0 F w T r v l):kA H F w S v (.own T r l):=h.2
end
structure State where
 aJ:List (Nat×aI)
 objs:List (Nat×(Nat×Th))
 nxt:Nat
def kB(H:aN)(n:Nat):Prop:=∀m,n<=m->H.val m=ae/\H.con m=ae
structure Sat(U:Nat->Prop)(H:aN)(F:Nat->Prop)(w:World)(ρ:Nat->Value)(st:State):Prop where
 slot:∀t d,find st.aJ t=aa d->aH H F w d (ρ t)
 ob:aP U H F w (find st.objs) st.nxt
 all:kB H st.nxt
structure fF where
 dst:aI
 eat:List Nat:=[]
 make:List (Nat×(Nat×Th)):=[]
def State.apply(st:State)(d:Option Nat)(e:fF):State:=
 {aJ:=(match d with|some d=>(d,e.dst)::st.aJ|none=>st.aJ),objs:=e.make++del e.eat st.objs,nxt:=st.nxt+16}
def cT(H:aN)(ob:Nat->Option (Nat×Th))(eat:List Nat)(k:Nat):Prop:=∃o∈eat,∃s t v,ob o=aa (s,t)/\H.val o=aa v/\fp (H.sub s) v t k
structure S7(H:aN)(F:Nat->Prop)(w:World)(H':aN)(F':Nat->Prop)(w':World)(g:Nat->Prop):Prop where
 jy:H.le H'
 ext:Ext g w w'
 le:∀b,F b->F' b
 grow:∀b,F' b->F b\/w.heap.size<=b\/g b
 lt:∀b,F' b->b<w'.heap.size
structure Made(H':aN)(F':Nat->Prop)(w w':World)(g:Nat->Prop)(make:List (Nat×(Nat×Th))):Prop where
 obj:∀o s t,find make o=aa (s,t)->∃v,H'.val o=aa v/\v.oneCell'=af/\H'.con s=aa t.base/\kA H' F' w' (H'.sub s) v t/\∀k,fp (H'.sub s) v t k->¬F' k/\k<w'.heap.size/\(w.heap.size<=k\/g k)
 apart:∀o o' s s' t t' v v',o≠o'->find make o=aa (s,t)->find make o'=aa (s',t')->H'.val o=aa v->H'.val o'=aa v'->∀k,fp (H'.sub s) v t k->¬fp (H'.sub s') v' t' k
structure oh(H:aN)(F:Nat->Prop)(w:World)(ob:Nat->Option (Nat×Th))(n:Nat)(e:fF)(v:Value)(w':World)(H':aN)(F':Nat->Prop):Prop where
 oB:S7 H F w H' F' w' (cT H ob e.eat)
 fresh:∀m,(m<n\/n+16<=m)->(H.val m=ae->H'.val m=ae)/\(H.con m=ae->H'.con m=ae)
 dst:aH H' F' w' e.dst v
 made:Made H' F' w w' (cT H ob e.eat) e.make
 ids:∀o,(find e.make o).isSome->o∈e.eat\/n<=o
def pB(H:aN)(F:Nat->Prop)(w:World)(ob:Nat->Option (Nat×Th))(n:Nat)(e:fF)(v:Value)(w':World):Prop:=∃H' F',oh H F w ob n e v w' H' F'
def yF(ρ:Nat->Value):Option Nat->Value->Nat->Value
 |some d,v=>Iq ρ d v
 |none,_=>ρ
theorem rS(ρ:Nat->Value)(d:Nat)(v:Value)(t:Nat):Iq ρ d v t=if t=d then v else ρ t:=by
 unfold Iq
 simp_all
section
variable {U:Nat->Prop} {H H':aN} {F F':Nat->Prop} {w w':World} {ρ:Nat->Value} {st:State}
def S7.step{g:Nat->Prop}(h:S7 H F w H' F' w' g)(hF:∀b,F b->b<w.heap.size)(hg:∀k,g k->¬F k):Step F w F' w':=
 λb hb=>⟨h.le b hb,h.ext.block b (hF b hb) λe=>hg b e hb⟩
def aP.gG{ob:Nat->Option (Nat×Th)}{n:Nat}(h:aP U H F w ob n){eat:List Nat}:∀k,cT H ob eat k->¬F k:=by
 rintro k ⟨o,_,s,t,v,h1,h2,h3⟩
 obtain⟨v',e,hi⟩:=h.obj o s t h1;rw[h2]at e;obtain rfl:=aqP e;exact hi.no k h3
def aP.zE{ob:Nat->Option (Nat×Th)}{n:Nat}(h:aP U H F w ob n){eat:List Nat}:∀k,cT H ob eat k->k<w.heap.size:=by
 rintro k ⟨o,_,s,t,v,h1,h2,h3⟩
 obtain⟨v',e,hi⟩:=h.obj o s t h1;rw[h2]at e;obtain rfl:=aqP e;exact hi.lt k h3
def aP.iT{ob:Nat->Option (Nat×Th)}{n:Nat}(h:aP U H F w ob n){eat:List Nat}:∀k,cT H ob eat k->U k:=by
 rintro k ⟨o,_,s,t,v,h1,h2,h3⟩
 obtain⟨v',e,hi⟩:=h.obj o s t h1;rw[h2]at e;obtain rfl:=aqP e;exact hi.use k h3
def IF.oB{ob:Nat->Option (Nat×Th)}{n:Nat}(hs:aP U H F w ob n){eat:List Nat}(he:S7 H F w H' F' w' (cT H ob eat)){o s:Nat}{t:Th}{v:Value}(ho:ob o=aa (s,t))(hn:o∉eat)(hv:H.val o=aa v)(h:IF U H F w v s t):IF U H' F' w' v s t:=by
 have hap:∀k,fp (H.sub s) v t k->¬cT H ob eat k:=by
  rintro k hk ⟨o',pq,s',t',v',h1,h2,h3⟩
  exact hs.apart o o' s s' t t' v v' (λe=>hn (e▸pq)) ho h1 hv h2 k hk h3
 have kC:=he.jy.sub _ _ h.con;refine⟨h.one,he.jy.con _ _ h.con,by rw[kC];exact h.ok.heap he.jy (he.step hs.lt hs.gG) λk hk=>he.ext.block k (h.lt k hk) (hap k hk),λk hk hF=>?_,λk hk=>arh (h.lt k (by rwa [kC]at hk)) he.ext.size,λk hk=>h.use k (by grind)⟩;rw[kC]at hk
 rcases he.grow k hF with h1|h1|h1
 .exact h.no k hk h1
 .have:=h.lt k hk;omega
 grind
def aP.PL{ob S8 PM:Nat->Option (Nat×Th)}{n n' m:Nat}{e:fF}{v:Value}(h:aP U H F w ob n)(hR:∀o x,S8 o=aa x->ob o=aa x)(hp:oh H F w S8 m e v w' H' F')
 (part:∀o s t,PM o=aa (s,t)->find e.make o=aa (s,t)\/(o∉e.eat/\ob o=aa (s,t)/\find e.make o=ae))(DA:∀m,n'<=m->m<n'+16->H'.val m=ae/\H'.con m=ae):
 aP U H' F' w' PM n':=by
 have IG:∀k,cT H S8 e.eat k->cT H ob e.eat k:=λk ⟨o,ho,s,t,v,h1,h2⟩=>⟨o,ho,s,t,v,hR _ _ h1,h2⟩
 have ZD:S7 H F w H' F' w' (cT H ob e.eat):=⟨hp.oB.jy,⟨hp.oB.ext.os,hp.oB.ext.tape,hp.oB.ext.output,hp.oB.ext.size,λk hk hn=>hp.oB.ext.block k hk λhh=>hn (IG k hh)⟩,hp.oB.le,λb hb=>(hp.oB.grow b hb).imp id λh=>h.imp id (IG b),hp.oB.lt⟩
 have S9:∀o s t,o∉e.eat->ob o=aa (s,t)->∃v,H.val o=aa v/\H'.val o=aa v/\IF U H' F' w' v s t/\H'.sub s=H.sub s/\∀k,fp (H'.sub s) v t k->k<w.heap.size/\¬cT H ob e.eat k:=by
  intro o s t ho hf;obtain⟨v,hv,hi⟩:=h.obj o s t hf;have kC:=hp.oB.jy.sub _ _ hi.con;refine⟨v,hv,hp.oB.jy.val _ _ hv,hi.oB h ZD hf ho hv,kC,λk hk=>?_⟩;rw[kC]at hk;refine⟨hi.lt k hk,?_⟩
  rintro⟨o',pq,s',t',v',h1,h2,h3⟩
  exact h.apart o o' s s' t t' v v' (λe=>ho (e▸pq)) hf h1 hv h2 k hk h3
 refine⟨λo s t ho=>?_,λo o' s s' t t' v v' eG ho pq hv ga k hk jn=>?_,DA,hp.oB.lt,λb hb=>h.new b (ark hp.oB.ext.size hb),h.gl.step (ZD.step h.lt h.gG)⟩
 .rcases part o s t ho with h1|⟨h1,h2,_⟩
  .obtain⟨v,a1,a2,a3,a4,a5⟩:=hp.made.obj o s t h1;exact⟨v,a1,a2,a3,a4,λk hk=>(a5 k hk).1,λk hk=>(a5 k hk).2.1,λk hk=>(a5 k hk).2.2.elim (h.new k) (λhh=>h.iT k (IG k hh))⟩
  grind
 .rcases part o s t ho with h1|⟨h1,h2,_⟩<;>rcases part o' s' t' pq with Is|⟨Is,MG,_⟩
  .exact hp.made.apart o o' s s' t t' v v' eG h1 Is hv ga k hk jn
  .obtain⟨u,_,a1,_,_,a5⟩:=hp.made.obj o s t h1
   grind
  .obtain⟨u,_,a1,_,_,a5⟩:=hp.made.obj o' s' t' Is
   grind
  .obtain⟨u,b1,b2,_,b5,_⟩:=S9 o s t h1 h2;obtain⟨u',c1,c2,_,c5,_⟩:=S9 o' s' t' Is MG;rw[b5]at hk;rw[c5]at jn;have e1:=aqP (hv.symm.trans b2);have e2:=aqP (ga.symm.trans c2);subst e1;subst e2;exact h.apart o o' s s' t t' v v' eG h2 MG b1 c1 k hk jn
def IH{objs:List (Nat×(Nat×Th))}{e:fF}:∀o s t,find (e.make++del e.eat objs) o=aa (s,t)->find e.make o=aa (s,t)\/(o∉e.eat/\find objs o=aa (s,t)/\find e.make o=ae):=by
 intro o s t ho;rw[kw]at ho
 cases hm:find e.make o with
 |some x=>grind
 |none=>
  grind [kz]
def Sat.apply{d:Option Nat}{e:fF}{v:Value}(h:Sat U H F w ρ st)(hp:oh H F w (find st.objs) st.nxt e v w' H' F'):Sat U H' F' w' (yF ρ d v) (st.apply d e):=by
 have gZ:kB H' (st.nxt+16):=λm hm=>⟨(hp.fresh m (.inr hm)).1 (h.all m (by omega)).1,(hp.fresh m (.inr hm)).2 (h.all m (by omega)).2⟩
 refine⟨λt q hq=>?_,h.ob.PL (λ_ _ h=>h) hp IH λm hm _=>gZ m hm,gZ⟩;have jJ:=hp.oB.step h.ob.lt h.ob.gG
 cases d with
 |none=>exact(h.slot t q hq).keep hp.oB.jy jJ
 |some d=>
  have B8:find ((d,e.dst)::st.aJ) t=aa q:=hq;rw[bp]at B8
  show aH H' F' w' q (Iq ρ d v t)
  rw[rS];by_cases hd:d=t
  .grind [oh.dst]
  .rw[ai hd]at B8;rw[ai (Ne.symm hd)];exact(h.slot t q B8).keep hp.oB.jy jJ
end
end
section
def cP(P:Program)(ρ:Nat->Value)(o:Oper)(w:World)(Q:Value->World->Prop):Prop:=
 match(execOp (ev ρ) o).run P w with
 | .ok (.value v) w'=>True/\Q v w'
 | .ok .skip w'=>o.dst=ae/\Q undef w'
 | .ok (.enter f args) w'=>Calls P f args w' λe Bn=>∃v,e= .returned v/\Q v Bn
 |_=>False
section
variable {P:Program} {n:Nat} {ops:Array Oper} {K:(Nat->Value)->World->Prop} {rest:List Oper} {ρ:Nat->Value} {w:World}
variable {dst:Option Nat} {op:Op} {ty:TypeId} {pos:String} {aft:Array Edge} {Q:Value->World->Prop}
def cP.mono{o:Oper}{Q':Value->World->Prop}(h:cP P ρ o w Q)(hq:∀v w',Q v w'->Q' v w'):cP P ρ o w Q':=by
 unfold cP at*;generalize(execOp (ev ρ) o).run P w=r at*
 cases r with
 |halt x w'=>exact h
 |ok x w'=>
  cases x<;>first
   |exact h
   |exact⟨h.1,hq _ _ h.2⟩
   |exact h.mono (by grind)
def cP.val{d:Option Nat}{v:Value}{w':World}(hr:(execOp (ev ρ) ⟨d,op,ty,pos,aft,ae⟩).run P w= .ok (.value v) w')(h:Q v w'):cP P ρ ⟨d,op,ty,pos,aft,ae⟩ w Q:=by
 grind [cP]
def cP.unit{w':World}(hr:(execOp (ev ρ) ⟨ae,op,ty,pos,aft,ae⟩).run P w= .ok .skip w')(h:Q undef w'):cP P ρ ⟨ae,op,ty,pos,aft,ae⟩ w Q:=by
 grind [cP]
def zF(h:cP P ρ ⟨dst,op,ty,pos,aft,ae⟩ w Q)(hd:∀d,dst=aa d->aru d n=af)
 (hk:∀v w',Q v w'->wpS P n ops K rest (yF ρ dst v) w'):wpS P n ops K (⟨dst,op,ty,pos,aft,ae⟩::rest) ρ w:=
 λQQ a hf OT=>wpList_plain rfl λK' hK=>by
  unfold Oper.wp;rw[hf.eval];unfold cP at h;generalize(execOp (ev ρ) ⟨dst,op,ty,pos,aft,ae⟩).run P w=r at*
  have w5:∀v,Fr n (a.put dst v) (yF ρ dst v):=λv=>by
   cases dst with
   |none=>exact hf
   |some d=>exact hf.put (hd d rfl) v
  cases r with
  |halt x w'=>exact h.elim
  |ok x w'=>
   cases x<;>first
    |exact h.elim
    |skip
   case value v=>exact hK _ _ (hk v w' h.2 QQ _ (w5 v) OT)
   case skip=>exact hK _ _ (hk undef w' h.2 QQ _ (w5 undef) OT)
   case enter f args=>
    refine h.mono λe Bn ⟨v,he,hv⟩=>?_
    subst he;exact hK _ _ (hk v Bn hv QQ _ (w5 v) OT)
end
inductive OU where
 |int (k:IntKind)
 |bool
 |str
 |slice (e:TypeId)
 |struct (fs:List (TypeId×Nat))
 |array (n:Nat) (e:TypeId)
 |map (k v:TypeId)
 |ptr (e:TypeId)
 |other
def B9(P:Program)(t:TypeId):OU->Prop
 | .int k=>P.underlying t=aa (.int k)
 | .bool=>P.underlying t=aa .bool
 | .str=>P.underlying t=aa .string
 | .slice e=>P.underlying t=aa (.slice e)
 | .struct fs=>∃arr:Array Field,P.underlying t=aa (.struct arr)/\arr.toList.map (λf=>(f.type,f.offset))=fs
 | .array n e=>P.underlying t=aa (.array n e)
 | .map k v=>P.underlying t=aa (.map k v)
 | .ptr e=>P.underlying t=aa (.pointer e)
 | .other=>∃d,P.underlying t=aa d/\jV d=ag
def DB(P:Program)(t:TypeId)(agg:Bool)(r:Row):Prop:=∃z,(P.info? t).bind (·.zero)=aa z/\z=(bif agg then .agg r.gF.toArray else r.gF.headD undef)
def uN(P:Program)(t:TypeId)(name:String)(f:FuncId)(pr:Bool):Prop:=
 ((P.info? t).bind λi=>i.methods.find? λm=>m.name==name).map (λm=>(m.path.toList.length,m.func))=aa (0,aa (f,pr))
structure bz(P:Program)where
 und:List (Nat×OU)
 row:List (Nat×Row)
 eqs:List (Nat×Row)
 zer:List (Nat×(Bool×Row))
 und_ok:∀t k,find und t=aa k->B9 P t k
 row_ok:∀t r,find row t=aa r->TI P t r
 eqs_ok:∀t r,find eqs t=aa r->∃K d,uE P t r K/\d+K=10000/\P.eqGuardType P.depth t=ag/\(P.underlying t).any jV=af
 zer_ok:∀t agg r,find zer t=aa (agg,r)->DB P t agg r
 kys:List TypeId
 kys_ok:∀t∈kys,∀(em:Bool)(a b:Value)(w:World),(Instr.checkKey em 10000 t (.agg #[a,b])).run P w= .ok () w
 mth:List (TypeId×(String×(FuncId×Bool)))
 mth_ok:∀p∈mth,uN P p.1 p.2.1 p.2.2.1 p.2.2.2
def mT:OU->Bool
 | .struct _| .array _ _=>af
 |_=>ag
def B9.agg{P:Program}{t:TypeId}{k:OU}(h:B9 P t k):∃d,P.underlying t=aa d/\jV d=mT k:=by
 cases k<;>first
  |exact⟨_,h,rfl⟩
  |(obtain⟨arr,h,_⟩:=h;exact⟨_,h,rfl⟩)
  |exact h
def ql{α:Type}{Q:Nat->α->Prop}{l:List (Nat×α)}(h:∀p∈l,Q p.1 p.2):∀t a,find l t=aa a->Q t a:=by
 intro t a
 induction l with
 |nil=>intro h';cases h'
 |cons p l ih=>
  grind [bp]
def II:Value->Option aI
 | .int k n=>aa (.val ag (.leaf (.int k) n))
 | .bool b=>aa (.val ag (.leaf .bool b))
 | .string s=>aa (.val ag (.leaf .str s))
 | .slice ae 0 0=>aa (.val ag .nil)
 | .map ae=>aa (.val ag (.leaf (.nul .map) ()))
 | .pointer ae=>aa (.val ag (.leaf (.nul .ptr) ()))
 | .nilFunc=>aa (.val ag (.leaf (.nul .func) ()))
 | .nilIface=>aa .dead
 |_=>ae
def MH(aJ:List (Nat×aI)):Operand->Option aI
 | .tmp t=>find aJ t
 | .const v=>II v
 | .func f=>aa (.fn f [])
 | .global g=>match find KF g with
   |some d=>aa (.at d.1 d.2)
   |none=>ae
def bg.qm{H:aN}{F:Nat->Prop}{w:World}{r:Row}{x:r.den}{v:Value}(h:dy F w r [v] x):bg H F w ag (.leaf r x) v:=⟨[v],h,rfl,λ_=>rfl⟩
def MI{H:aN}{F:Nat->Prop}{w:World}{v:Value}{d:aI}(h:II v=aa d):aH H F w d v:=by
 unfold II at h
 split at h<;>first|cases h|skip
 .exact bg.qm rfl
 .exact bg.qm rfl
 .exact bg.qm rfl
 .exact⟨_,rfl,rfl,λ_=>rfl⟩
 .exact bg.qm rfl
 .exact bg.qm rfl
 .exact bg.qm rfl
 .trivial
def w6{H:aN}{F:Nat->Prop}{w:World}{ρ:Nat->Value}{aJ:List (Nat×aI)}(hg:sU F w)(h:∀t d,find aJ t=aa d->aH H F w d (ρ t)):∀x d,MH aJ x=aa d->aH H F w d (ev ρ x):=by
 intro x d hx
 cases x with
 |tmp t=>exact h t d hx
 |const v=>exact MI hx
 |global g=>
  have TB:(match find KF g with|some d=>aa (aI.at d.1 d.2)|none=>ae)=aa d:=hx;split at TB
  .rename_i q hq;obtain rfl:=aqP TB;obtain⟨h1,h2⟩:=hg g q hq;exact⟨g,0,rfl,h1,h2⟩
  .cases TB
 |func f=>obtain rfl:=aqP hx;exact⟨[],rfl,rfl⟩
def bg.inv{H:aN}{F:Nat->Prop}{w:World}{r:Row}{x:r.den}{v:Value}(h:bg H F w ag (.leaf r x) v):dy F w r [v] x:=by
 obtain⟨cs,h1,_,h3⟩:=h;rw[h3 rfl]at h1;exact h1
def bg.int{H:aN}{F:Nat->Prop}{w:World}{k:IntKind}{x:Int}{v:Value}(h:bg H F w ag (.leaf (.int k) x) v):v= .int k x:=by
 have:=h.inv;simpa[dy]using this
def bg.bool{H:aN}{F:Nat->Prop}{w:World}{x:Bool}{v:Value}(h:bg H F w ag (.leaf .bool x) v):v= .bool x:=by
 have:=h.inv;simpa[dy]using this
def bg.str{H:aN}{F:Nat->Prop}{w:World}{x:ByteArray}{v:Value}(h:bg H F w ag (.leaf .str x) v):v= .string x:=by
 have:=h.inv;simpa[dy]using this
def bg.mE(H:aN)(F:Nat->Prop)(w:World)(k:IntKind)(x:Int):bg H F w ag (.leaf (.int k) x) (.int k x):=bg.qm rfl
def bg.iF(H:aN)(F:Nat->Prop)(w:World)(x:Bool):bg H F w ag (.leaf .bool x) (.bool x):=bg.qm rfl
def bg.mkStr(H:aN)(F:Nat->Prop)(w:World)(x:ByteArray):bg H F w ag (.leaf .str x) (.string x):=bg.qm rfl
abbrev pW(k:IntKind)(x:Int):aI:= .val ag (.leaf (.int k) x)
abbrev fD(x:Bool):aI:= .val ag (.leaf .bool x)
abbrev adJ(x:ByteArray):aI:= .val ag (.leaf .str x)
def asInt:aI->Option (IntKind×Int)
 | .val ag (.leaf (.int k) x)=>aa (k,x)
 |_=>ae
def asBool:aI->Option Bool
 | .val ag (.leaf .bool x)=>aa x
 |_=>ae
def Fj:aI->Option ByteArray
 | .val ag (.leaf .str x)=>aa x
 |_=>ae
section
variable {P:Program} {ρ:Nat->Value} {w w':World} {H H':aN} {F F':Nat->Prop} {U:Nat->Prop} {ob:Nat->Option (Nat×Th)} {n:Nat} {R:Type}
variable {dst:Option Nat} {op:Op} {ty:TypeId} {pos:String} {aft:Array Edge} {d:Nat}
def kD{D:aI}{k:IntKind}{x:Int}{v:Value}(h:asInt D=aa (k,x))(hd:aH H F w D v):v= .int k x:=by
 unfold asInt at h
 split at h<;>cases h
 exact bg.int hd
def rb{D:aI}{x:Bool}{v:Value}(h:asBool D=aa x)(hd:aH H F w D v):v= .bool x:=by
 unfold asBool at h
 split at h<;>cases h
 exact bg.bool hd
def zG{D:aI}{x:ByteArray}{v:Value}(h:Fj D=aa x)(hd:aH H F w D v):v= .string x:=by
 unfold Fj at h
 split at h<;>cases h
 exact bg.str hd
def cX(P:Program)(_U:Nat->Prop)(H:aN)(F:Nat->Prop)(w:World)(ρ:Nat->Value)(ob:Nat->Option (Nat×Th))(n:Nat)(o:Oper)(e:fF):Prop:=
 cP P ρ o w (pB H F w ob n e)
def S7.refl{g:Nat->Prop}(hF:∀b,F b->b<w.heap.size):S7 H F w H F w g:=⟨aN.le.refl H,⟨rfl,⟨rfl,aqU _⟩,rfl,aqU _,λ_ _ _=>rfl⟩,λ_ h=>h,λ_ h=> .inl h,hF⟩
theorem Made.nil{g:Nat->Prop}:Made H' F' w w' g []:=⟨λ_ _ _ h=>(by cases h),λ_ _ _ _ _ _ _ _ _ h=>(by cases h)⟩
def oh.pure(hs:aP U H F w ob n){D:aI}{v:Value}(h:aH H F w D v):pB H F w ob n {dst:=D} v w:=
 ⟨H,F,S7.refl hs.lt,λm hm=>⟨id,id⟩,h,Made.nil,λo h=>by cases h⟩
def cm(hs:aP U H F w ob n){D:aI}{v:Value}(hr:(execOp (ev ρ) ⟨aa d,op,ty,pos,aft,ae⟩).run P w= .ok (.value v) w)(h:aH H F w D v):cX P U H F w ρ ob n ⟨aa d,op,ty,pos,aft,ae⟩ {dst:=D}:=
 cP.val hr (oh.pure hs h)
def bo(hs:aP U H F w ob n){D:aI}{v:Value}(hr:Pure P ρ ⟨aa d,op,ty,pos,aft,ae⟩ v)(h:aH H F w D v):cX P U H F w ρ ob n ⟨aa d,op,ty,pos,aft,ae⟩ {dst:=D}:=
 cm hs (hr w) h
def aL(o:BinOp)(k:IntKind)(a b:Int):Int:=
 match o with
 | .and=>k.wrap (arH k.bits a&&& arH k.bits b).toNat
 | .or=>k.wrap (arH k.bits a|||arH k.bits b).toNat
 | .xor=>k.wrap (arH k.bits a ^^^ arH k.bits b).toNat
 |_=>k.wrap (arH k.bits a&&& ~~~arH k.bits b).toNat
def w7(k:IntKind)(a b:Int):Int:=k.wrap (a*2 ^ min b.toNat k.bits)
def cg(k:IntKind)(a b:Int):Int:=a.fdiv (2 ^ min b.toNat k.bits)
def uF(k:IntKind)(a b:Int):Option Int:=if b<0 then ae else aa (w7 k a b)
def yG(k:IntKind)(a b:Int):Option Int:=if b<0 then ae else aa (cg k a b)
def arith:BinOp->IntKind->Int->Int->Option aI
 | .add,k,a,b=>aa (pW k (k.wrap (a+b)))
 | .sub,k,a,b=>aa (pW k (k.wrap (a-b)))
 | .mul,k,a,b=>aa (pW k (k.wrap (a*b)))
 | .lss,_,a,b=>aa (fD (decide (a<b)))
 | .leq,_,a,b=>aa (fD (decide (a<=b)))
 | .gtr,_,a,b=>aa (fD (decide (b<a)))
 | .geq,_,a,b=>aa (fD (decide (b<=a)))
 | .eql,_,a,b=>aa (fD (decide (a=b)))
 | .neq,_,a,b=>aa (fD (!decide (a=b)))
 | .and,k,a,b=>aa (pW k (aL .and k a b))
 | .or,k,a,b=>aa (pW k (aL .or k a b))
 | .xor,k,a,b=>aa (pW k (aL .xor k a b))
 | .andNot,k,a,b=>aa (pW k (aL .andNot k a b))
 |_,_,_,_=>ae
def pure_and{k:IntKind}{a b:Int}{t u:TypeId}{x y:Operand}(hx:ev ρ x= .int k a)(hy:ev ρ y= .int k b):Pure P ρ ⟨aa d, .binOp .and t x y u,ty,pos,aft,ae⟩ (.int k (aL .and k a b)):=λw=>by simp[execOp,hx,hy,binOp,Op.intBits,eqGuard,aL,go_sem]
def pure_or{k:IntKind}{a b:Int}{t u:TypeId}{x y:Operand}(hx:ev ρ x= .int k a)(hy:ev ρ y= .int k b):Pure P ρ ⟨aa d, .binOp .or t x y u,ty,pos,aft,ae⟩ (.int k (aL .or k a b)):=λw=>by simp[execOp,hx,hy,binOp,Op.intBits,eqGuard,aL,go_sem]
def PN{k:IntKind}{a b:Int}{t u:TypeId}{x y:Operand}(hx:ev ρ x= .int k a)(hy:ev ρ y= .int k b):Pure P ρ ⟨aa d, .binOp .xor t x y u,ty,pos,aft,ae⟩ (.int k (aL .xor k a b)):=λw=>by simp[execOp,hx,hy,binOp,Op.intBits,eqGuard,aL,go_sem]
def Fk{k:IntKind}{a b:Int}{t u:TypeId}{x y:Operand}(hx:ev ρ x= .int k a)(hy:ev ρ y= .int k b):Pure P ρ ⟨aa d, .binOp .andNot t x y u,ty,pos,aft,ae⟩ (.int k (aL .andNot k a b)):=λw=>by simp[execOp,hx,hy,binOp,Op.intBits,eqGuard,aL,go_sem]
def Fl{k k':IntKind}{a b:Int}{t u:TypeId}{x y:Operand}(hx:ev ρ x= .int k a)(hy:ev ρ y= .int k' b)(hb:¬b<0):Pure P ρ ⟨aa d, .binOp .shl t x y u,ty,pos,aft,ae⟩ (.int k (w7 k a b)):=λw=>by simp[execOp,hx,hy,binOp,Op.shift,eqGuard,w7,hb,go_sem]
def Fp{k k':IntKind}{a b:Int}{t u:TypeId}{x y:Operand}(hx:ev ρ x= .int k a)(hy:ev ρ y= .int k' b)(hb:¬b<0):Pure P ρ ⟨aa d, .binOp .shr t x y u,ty,pos,aft,ae⟩ (.int k (cg k a b)):=λw=>by simp[execOp,hx,hy,binOp,Op.shift,eqGuard,cg,hb,go_sem]
theorem PO{o:BinOp}{k:IntKind}{a b:Int}{D:aI}{t u:TypeId}{x y:Operand}(h:arith o k a b=aa D)(hs:aP U H F w ob n)(hx:ev ρ x= .int k a)(hy:ev ρ y= .int k b):
 cX P U H F w ρ ob n ⟨aa d, .binOp o t x y u,ty,pos,aft,ae⟩ {dst:=D}:=by
 unfold arith at h
 split at h<;>cases h
 .exact bo hs (Ph hx hy) (bg.mE ..)
 .exact bo hs (Pj hx hy) (bg.mE ..)
 .exact bo hs (Pk hx hy) (bg.mE ..)
 .exact bo hs (Po hx hy) (bg.iF ..)
 .exact bo hs (Pp hx hy) (bg.iF ..)
 .exact bo hs (Pq hx hy) (bg.iF ..)
 .exact bo hs (Ps hx hy) (bg.iF ..)
 .exact bo hs (Pu hx hy) (bg.iF ..)
 .exact bo hs (Pv hx hy) (bg.iF ..)
 .exact bo hs (pure_and hx hy) (bg.mE ..)
 .exact bo hs (pure_or hx hy) (bg.mE ..)
 .exact bo hs (PN hx hy) (bg.mE ..)
 .exact bo hs (Fk hx hy) (bg.mE ..)
def n9(a b:Int):Option Int:=if b=0 then ae else aa (aq1 a b)
def sV(a b:Int):Option Int:=if b=0 then ae else aa (aq3 a b)
def ZE:Operand->Bool
 | .const _=>af
 |_=>ag
theorem PP{k:IntKind}{a b:Int}{t u:TypeId}{x y:Operand}(hb:b≠0)(hs:aP U H F w ob n)(hx:ev ρ x= .int k a)(hy:ev ρ y= .int k b):
 cX P U H F w ρ ob n ⟨aa d, .binOp .quo t x y u,ty,pos,aft,ae⟩ {dst:=pW k (k.wrap (aq1 a b))}:=
 bo hs (Pm hx hy hb) (bg.mE ..)
theorem PQ{k:IntKind}{a b:Int}{t u:TypeId}{x y:Operand}(hb:b≠0)(hs:aP U H F w ob n)(hx:ev ρ x= .int k a)(hy:ev ρ y= .int k b):
 cX P U H F w ρ ob n ⟨aa d, .binOp .rem t x y u,ty,pos,aft,ae⟩ {dst:=pW k (aq3 a b)}:=
 bo hs (Pn hx hy hb) (bg.mE ..)
end
end
section
def Tree.split:Tree->Option (Tree×Tree)
 | .leaf (.pair a b) x=>aa (.leaf a x.1, .leaf b x.2)
 | .pair a b=>aa (a,b)
 |_=>ae
def Tree.get:Tree->List Bool->Option (Tree×Nat)
 |t,[]=>aa (t,0)
 |t,d::p=>match t.split with
  |none=>ae
  |some (a,b)=>match d with
   |false=>Tree.get a p
   |true=>match Tree.get b p with
    |none=>ae
    |some (s,off)=>aa (s,a.size+off)
def Tree.put:Tree->List Bool->Tree->Option Tree
 |_,[],u=>aa u
 |t,d::p,u=>match t.split with
  |none=>ae
  |some (a,b)=>match d with
   |false=>match Tree.put a p u with
    |none=>ae
    |some a'=>aa (.pair a' b)
   |true=>match Tree.put b p u with
    |none=>ae
    |some b'=>aa (.pair a b')
def vU:Nat->Nat->List Bool
 |0,_=>[]
 |1,_=>[]
 |_+2,0=>[ag]
 |m+2,f+1=>af::vU (m+1) f
section
variable {H:aN} {F:Nat->Prop} {w:World}
def Holds.split{t a b:Tree}{cs:List Value}(hs:t.split=aa (a,b))(h:Holds H F w t cs):∃c1 c2,cs=c1++c2/\Holds H F w a c1/\Holds H F w b c2/\t.size=a.size+b.size:=by
 unfold Tree.split at hs
 split at hs<;>cases hs
 .obtain⟨c1,c2,e,h1,h2⟩:=h;exact⟨c1,c2,e,h1,h2,rfl⟩
 .obtain⟨c1,c2,e,h1,h2⟩:=h;exact⟨c1,c2,e,h1,h2,rfl⟩
def Holds.get:{p:List Bool}->{t s:Tree}->{off:Nat}->{cs:List Value}->t.get p=aa (s,off)->Holds H F w t cs->Holds H F w s ((cs.drop off).take s.size)/\off+s.size<=cs.length
 |[],t,s,off,cs,hg,h=>by
  obtain⟨rfl,rfl⟩:=Prod.mk.inj (aqP hg)
  grind [Holds.length]
 |d::p,t,s,off,cs,hg,h=>by
  unfold Tree.get at hg
  cases uL:t.split with
  |none=>grind
  |some ab=>
   obtain⟨a,b⟩:=ab;rw[uL]at hg;obtain⟨c1,c2,rfl,h1,h2,_⟩:=h.split uL;have Y1:=h1.length
   cases d with
   |false=>
    obtain⟨g1,g2⟩:=Holds.get hg h1
    grind
   |true=>
    cases hb:b.get p with
    |none=>grind
    |some so=>
     obtain⟨s',fJ⟩:=so;simp only[hb,aq2,Prod.mk.injEq]at hg;obtain⟨rfl,rfl⟩:=hg;obtain⟨g1,g2⟩:=Holds.get hb h2
     grind [List.drop_append,List.drop_of_length_le]
def Holds.put{u:Tree}{vs:List Value}(hu:Holds H F w u vs):{p:List Bool}->{t s t':Tree}->{off:Nat}->{cs:List Value}->t.get p=aa (s,off)->t.put p u=aa t'->s.size=u.size->Holds H F w t cs->
 Holds H F w t' (cs.take off++vs++cs.drop (off+u.size))
 |[],t,s,t',off,cs,hg,hp,hz,h=>by
  obtain⟨rfl,rfl⟩:=Prod.mk.inj (aqP hg);obtain rfl:=aqP hp;have hl:=h.length
  grind
 |d::p,t,s,t',off,cs,hg,hp,hz,h=>by
  unfold Tree.get at hg;unfold Tree.put at hp
  cases uL:t.split with
  |none=>grind
  |some ab=>
   obtain⟨a,b⟩:=ab;rw[uL]at hg hp;obtain⟨c1,c2,rfl,h1,h2,_⟩:=h.split uL;have Y1:=h1.length
   cases d with
   |false=>
    cases hq:a.put p u with
    |none=>grind
    |some a'=>
     simp only[hq,aq2]at hp;subst hp;have h3:=Holds.put hu hg hq hz h1;have g2:=(Holds.get hg h1).2;refine⟨_,c2,?_,h3,h2⟩
     grind
   |true=>
    cases hb:b.get p with
    |none=>grind
    |some so=>
     obtain⟨s',fJ⟩:=so;simp only[hb,aq2,Prod.mk.injEq]at hg;obtain⟨rfl,rfl⟩:=hg
     cases hq:b.put p u with
     |none=>grind
     |some b'=>
      simp only[hq,aq2]at hp;subst hp;have h3:=Holds.put hu hb hq hz h2;refine⟨c1,_,?_,h1,h3⟩
      rw[<-Y1,List.take_append,List.take_of_length_le (by omega),List.drop_append,List.drop_of_length_le (by omega),show c1.length+fJ-c1.length=fJ from by omega,
       show c1.length+fJ+u.size-c1.length=fJ+u.size from by omega]
      grind
end
def OQ.beq:OQ->OQ->Bool
 | .map, .map=>af
 | .ptr, .ptr=>af
 | .func, .func=>af
 |_,_=>ag
theorem OQ.eq_of_beq{a b:OQ}(h:a.beq b=af):a=b:=by cases a<;>cases b<;>first|rfl|cases h
def Row.beq:Row->Row->Bool
 | .int k, .int k'=>decide (k=k')
 | .bool, .bool=>af
 | .str, .str=>af
 | .od, .od=>af
 | .nul a, .nul b=>a.beq b
 | .map a x b, .map c y d=>a.beq c&&(bif x then y else !y)&&b.beq d
 | .slice a, .slice b=>a.beq b
 | .pair a b, .pair c d=>a.beq c&&b.beq d
 |_,_=>ag
theorem Row.eq_of_beq:{r s:Row}->r.beq s=af->r=s
 | .int k, .int k',h=>by rw[al (show decide (k=k')=af from h)]
 | .bool, .bool,_=>rfl
 | .str, .str,_=>rfl
 | .od, .od,_=>rfl
 | .nul a, .nul b,h=>by rw[OQ.eq_of_beq (show a.beq b=af from h)]
 | .map a x b, .map c y d,h=>by
   have h':(a.beq c&&(bif x then y else !y)&&b.beq d)=af:=h;rw[arY,arY]at h'
   have vJ:x=y:=by cases x<;>cases y<;>simp_all
   rw[Row.eq_of_beq h'.1.1,Row.eq_of_beq h'.2,vJ]
 | .slice a, .slice b,h=>by rw[Row.eq_of_beq (show a.beq b=af from h)]
 | .pair a b, .pair c d,h=>by
   have h':(a.beq c&&b.beq d)=af:=h;rw[arY]at h';rw[Row.eq_of_beq h'.1,Row.eq_of_beq h'.2]
def lS{r s:Row}(h:r=s)(x:r.den):s.den:=h▸x
def Row.beq_refl:(r:Row)->r.beq r=af
 | .int k=>by simp[Row.beq]
 | .bool=>rfl
 | .str=>rfl
 | .od=>rfl
 | .nul a=>by cases a<;>rfl
 | .map a x b=>by
   show(a.beq a&&(bif x then x else !x)&&b.beq b)=af
   rw[Row.beq_refl a,Row.beq_refl b]
   cases x<;>rfl
 | .slice a=>Row.beq_refl a
 | .pair a b=>by
   show(a.beq a&&b.beq b)=af
   rw[Row.beq_refl a,Row.beq_refl b];rfl
def DR.beq:DR->DR->Bool
 | .leaf r, .leaf s=>r.beq s
 | .sl T d, .sl T' d'=>aqV T T'&&d.beq d'
 | .pair a b, .pair c d=>a.beq c&&b.beq d
 |_,_=>ag
theorem DR.eq_of_beq:{d e:DR}->d.beq e=af->d=e
 | .leaf r, .leaf s,h=>by rw[Row.eq_of_beq (show r.beq s=af from h)]
 | .sl T d, .sl T' d',h=>by
   obtain⟨h1,h2⟩:=(arY _ _▸(show(aqV T T'&&d.beq d')=af from h):aqV T T'=af/\d.beq d'=af)
   rw[Nat.eq_of_beq_eq_true h1,DR.eq_of_beq h2]
 | .pair a b, .pair c d,h=>by
   obtain⟨h1,h2⟩:=(arY _ _▸(show(a.beq c&&b.beq d)=af from h):a.beq c=af/\b.beq d=af)
   rw[DR.eq_of_beq h1,DR.eq_of_beq h2]
 | .leaf _, .sl ..,h=>by cases h
 | .leaf _, .pair ..,h=>by cases h
 | .sl .., .leaf _,h=>by cases h
 | .sl .., .pair ..,h=>by cases h
 | .pair .., .leaf _,h=>by cases h
 | .pair .., .sl ..,h=>by cases h
def rT:List Bool->List Bool->Bool
 |[],[]=>af
 |a::p,b::q=>(bif a then b else !b)&&rT p q
 |_,_=>ag
theorem u9:{p q:List Bool}->rT p q=af->p=q
 |[],[],_=>rfl
 |a::p,b::q,h=>by
  have h':((bif a then b else !b)&&rT p q)=af:=h;rw[arY]at h';rw[u9 h'.2]
  grind
 |[],_::_,h=>by cases h
 |_::_,[],h=>by cases h
def flat(ob:Nat->Option (Nat×Th)):(r:Row)->Tree->Option r.den
 |r, .leaf s x=>if h:s.beq r=af then aa (lS (Row.eq_of_beq h) x)else ae
 | .slice e, .own o=>match ob o with
   |some (_, .yD _ s l)=>if h:s.beq e=af then aa (lS (r:= .slice s) (s:= .slice e) (av Row.slice (Row.eq_of_beq h)) l)else ae
   |some (_, .fdeep _ d l)=>if h:d.row.beq e=af then aa (lS (r:= .slice d.row) (s:= .slice e) (av Row.slice (Row.eq_of_beq h)) l)else ae
   |_=>ae
 | .slice _, .nil=>aa []
 | .map K agg V, .own o=>match ob o with
   |some (_, .fmap _ K' gh V' l)=>if h:(Row.map K' gh V').beq (.map K agg V)=af then aa (lS (Row.eq_of_beq h) l)else ae
   |_=>ae
 | .slice e, .view o s r m=>match ob o with
   |some (s', .yD ..)=>bif aqV s' s then(if h:r.beq e=af then aa (lS (r:= .slice r) (s:= .slice e) (av Row.slice (Row.eq_of_beq h)) m)else ae)else ae
   |_=>ae
 | .pair a b, .pair t u=>match flat ob a t with
   |none=>ae
   |some x=>match flat ob b u with
    |none=>ae
    |some y=>aa (x,y)
 |_,_=>ae
section
variable {U:Nat->Prop} {H:aN} {F:Nat->Prop} {w:World} {ob:Nat->Option (Nat×Th)} {n:Nat}
def Ca(hs:aP U H F w ob n){o s:Nat}{T:TypeId}{r0 r:Row}{l0:List r0.den}{m:List r.den}{v:Value}(ho:ob o=aa (s, .yD T r0 l0))(h:pt H o s r m v):dy F w (.slice r) [v] m:=by
 obtain⟨A,cap,T',l,a,b,h1,h2,h3,h4,rfl,rfl⟩:=h;obtain⟨v',ga,dC⟩:=hs.obj _ _ _ ho;rw[h1]at ga;obtain rfl:=aqP ga;have e:=dC.con;rw[h2]at e;simp only[Th.base,aq2,Th.own.injEq]at e;obtain⟨rfl,rfl,e⟩:=e;obtain rfl:=eq_of_heq e;exact dy.cut dC.ok h3 h4
theorem jz(hs:aP U H F w ob n):{r:Row}->{t:Tree}->{x:r.den}->{cs:List Value}->flat ob r t=aa x->Holds H F w t cs->dy F w r cs x
 |r, .leaf s x0,x,cs,hf,h=>by
  unfold flat at hf;split at hf
  .rename_i e;obtain rfl:=Row.eq_of_beq e;obtain rfl:=aqP hf;exact h
  .cases hf
 | .slice e, .own o,x,cs,hf,h=>by
   unfold flat at hf;split at hf
   .rename_i s0 T s l zH;split at hf
    .rename_i e;obtain rfl:=Row.eq_of_beq e;obtain rfl:=aqP hf;obtain⟨v,hv,_,rfl⟩:=h;obtain⟨v',ga,dC⟩:=hs.obj _ _ _ zH;rw[hv]at ga;obtain rfl:=aqP ga;exact dC.ok
    .cases hf
   .rename_i s0 T d l zH;split at hf
    .rename_i e;obtain rfl:=Row.eq_of_beq e;obtain rfl:=aqP hf;obtain⟨v,hv,_,rfl⟩:=h;obtain⟨v',ga,dC⟩:=hs.obj _ _ _ zH;rw[hv]at ga;obtain rfl:=aqP ga;exact dC.ok
    .cases hf
   .cases hf
 | .map K agg V, .own o,x,cs,hf,h=>by
   unfold flat at hf;split at hf
   .rename_i s0 T K' gh V' l zH;split at hf
    .rename_i e;cases Row.eq_of_beq e;obtain rfl:=aqP hf;obtain⟨v,hv,_,rfl⟩:=h;obtain⟨v',ga,dC⟩:=hs.obj _ _ _ zH;rw[hv]at ga;obtain rfl:=aqP ga;exact dC.ok
    .cases hf
   .cases hf
 | .slice e, .nil,x,cs,hf,h=>by
   unfold flat at hf;obtain rfl:=aqP hf;rw[show cs=_ from h];exact dy.nil F w e
 | .slice e, .view o s r m,x,cs,hf,h=>by
   unfold flat at hf;split at hf
   .rename_i s' T r' l' zH
    cases hb:aqV s' s with
    |false=>grind
    |true=>
     rw[hb,cond_true]at hf;obtain rfl:=Nat.eq_of_beq_eq_true hb;split at hf
     .rename_i e;obtain rfl:=Row.eq_of_beq e;obtain rfl:=aqP hf;obtain⟨v,rfl,h⟩:=h;exact Ca hs zH h
     .cases hf
   .cases hf
 | .pair a b, .pair t u,x,cs,hf,h=>by
   obtain⟨c1,c2,rfl,h1,h2⟩:=h;unfold flat at hf
   cases ha:flat ob a t with
   |none=>grind
   |some p=>
    cases hb:flat ob b u with
    |none=>grind
    |some q=>
     simp only[ha,hb,aq2]at hf;subst hf;exact⟨c1,c2,rfl,jz hs ha h1,jz hs hb h2⟩
 | .int _, .own _,_,_,hf,_=>by unfold flat at hf;cases hf
 | .bool, .own _,_,_,hf,_=>by unfold flat at hf;cases hf
 | .str, .own _,_,_,hf,_=>by unfold flat at hf;cases hf
 | .od, .own _,_,_,hf,_=>by unfold flat at hf;cases hf
 | .nul _, .own _,_,_,hf,_=>by unfold flat at hf;cases hf
 | .pair _ _, .own _,_,_,hf,_=>by unfold flat at hf;cases hf
 | .int _, .nil,_,_,hf,_=>by unfold flat at hf;cases hf
 | .bool, .nil,_,_,hf,_=>by unfold flat at hf;cases hf
 | .str, .nil,_,_,hf,_=>by unfold flat at hf;cases hf
 | .od, .nil,_,_,hf,_=>by unfold flat at hf;cases hf
 | .nul _, .nil,_,_,hf,_=>by unfold flat at hf;cases hf
 | .map .., .nil,_,_,hf,_=>by unfold flat at hf;cases hf
 | .pair _ _, .nil,_,_,hf,_=>by unfold flat at hf;cases hf
 | .int _, .view ..,_,_,hf,_=>by unfold flat at hf;cases hf
 | .bool, .view ..,_,_,hf,_=>by unfold flat at hf;cases hf
 | .str, .view ..,_,_,hf,_=>by unfold flat at hf;cases hf
 | .od, .view ..,_,_,hf,_=>by unfold flat at hf;cases hf
 | .nul _, .view ..,_,_,hf,_=>by unfold flat at hf;cases hf
 | .map .., .view ..,_,_,hf,_=>by unfold flat at hf;cases hf
 | .pair _ _, .view ..,_,_,hf,_=>by unfold flat at hf;cases hf
 | .int _, .junk _,_,_,hf,_=>by unfold flat at hf;cases hf
 | .bool, .junk _,_,_,hf,_=>by unfold flat at hf;cases hf
 | .str, .junk _,_,_,hf,_=>by unfold flat at hf;cases hf
 | .slice _, .junk _,_,_,hf,_=>by unfold flat at hf;cases hf
 | .od, .junk _,_,_,hf,_=>by unfold flat at hf;cases hf
 | .nul _, .junk _,_,_,hf,_=>by unfold flat at hf;cases hf
 | .map .., .junk _,_,_,hf,_=>by unfold flat at hf;cases hf
 | .pair _ _, .junk _,_,_,hf,_=>by unfold flat at hf;cases hf
 | .int _, .pair _ _,_,_,hf,_=>by unfold flat at hf;cases hf
 | .bool, .pair _ _,_,_,hf,_=>by unfold flat at hf;cases hf
 | .str, .pair _ _,_,_,hf,_=>by unfold flat at hf;cases hf
 | .od, .pair _ _,_,_,hf,_=>by unfold flat at hf;cases hf
 | .nul _, .pair _ _,_,_,hf,_=>by unfold flat at hf;cases hf
 | .map .., .pair _ _,_,_,hf,_=>by unfold flat at hf;cases hf
 | .slice _, .pair _ _,_,_,hf,_=>by unfold flat at hf;cases hf
end
def Row.Fq:Row->Tree
 | .slice _=> .nil
 | .pair a b=> .pair a.Fq b.Fq
 |r=> .leaf r r.zero
def Row.qn(H:aN)(F:Nat->Prop)(w:World):(r:Row)->Holds H F w r.Fq r.gF
 | .int _=>rfl
 | .bool=>rfl
 | .str=>rfl
 | .slice _=>rfl
 | .od=>⟨rfl,ae,0,0,rfl⟩
 | .nul _=>rfl
 | .map .. =>⟨_,rfl, .inl ⟨rfl,rfl⟩⟩
 | .pair a b=>⟨_,_,rfl,Row.qn H F w a,Row.qn H F w b⟩
end
end Go.Proofs.YtfeahmiobbjklaaGreatDoor
