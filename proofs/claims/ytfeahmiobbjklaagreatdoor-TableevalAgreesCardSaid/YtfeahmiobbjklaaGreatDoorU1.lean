/- Joined texts: Base Mem Own More Lit Open Cut Glob Deep Sym Eff Path. -/
import Derived.WalkKit
import Derived.WalkSpells
import Derived.WalkLawsBesides
import Derived.LoopN
import Derived.Deep.Draws
import Derived.Deep.Quiet
import Derived.Maps.AppendAt
import Derived.OwnWalk
import Derived.KernelRfl
import Derived.MapKept
import Derived.Maps.RangeRun
import Derived.Laws.StructEq
import Derived.Test.YtfeahmiobbjklaaGreatDoorRows
import Derived.ProofKit
import Derived.OpenShut
import Derived.JoinedCond
import Derived.Deep.Slices
import Derived.Laws.Slices
set_option linter.defProp false
open _root_.Bool renaming false->ah,true->af,and_eq_true->ajB
open _root_.Option renaming none->ae,some->aa
open _root_.Array renaming getD_eq_getD_getElem?->ai8,getElem?_eq_getElem->aiW,toArray_toList->ajo
open _root_.Classical renaming propDecidable->ai6
open _root_.List renaming getElem?_eq_getElem->aiE,getElem?_eq_some_iff->aiP,mem_append->aiX,getElem?_drop->ai9,getElem?_take->ajf,getElem_append_left->ajq,getElem_append_right->ajm,getElem_of_mem->aiV,range->aiM,replicate->aiG,getElem?_append->aj1,length_take->ai5,take_append_drop->ajP
open _root_.Nat renaming beq->aiJ,blt->aja,le_refl->aiH,add_mul->ajF,le_trans->ai4,mul_le_mul_right->aiS,min_eq_left->ajD,lt_of_lt_of_le->ai1
open _root_.Option.some renaming inj->aiC,injEq->aiO
open _root_.Go.Region renaming wanted->ajQ
open _root_.Go.Value renaming oneCell'->ajK,ownBlock->aiY
open _root_.Go.Builtin renaming append_->ajV
open _root_.ByteArray renaming empty->ajO
open _root_.Go.Sem renaming run->aj9
open _root_.Go.Value.slice renaming injEq->ajS
open _root_.List.cons renaming injEq->ajt
open _root_.BitVec renaming ofInt->ajk
open _root_.Int renaming tdiv->aiR,tmod->ai3
namespace Go.Proofs.YtfeahmiobbjklaaGreatDoor
open Go Go.RowKit
set_option maxRecDepth 100000
set_option linter.unusedSimpArgs false
set_option linter.unusedVariables false
set_option linter.defProp false
section
def aj.{u}:type_of% @_root_.if_neg.{u}:= @_root_.if_neg.{u}
def al.{u}:type_of% @_root_.if_pos.{u}:= @_root_.if_pos.{u}
def an:type_of% @_root_.of_decide_eq_true:= @_root_.of_decide_eq_true
def ao:type_of% @_root_.decide_eq_true:= @_root_.decide_eq_true
def aq:type_of% @_root_.decide_eq_false:= @_root_.decide_eq_false
def au.{u}:type_of% @_root_.implies_true.{u}:= @_root_.implies_true.{u}
def av.{u}:type_of% @_root_.forall_const.{u}:= @_root_.forall_const.{u}
def aw.{u,v}:type_of% @_root_.congrArg.{u,v}:= @_root_.congrArg.{u,v}
def ax:type_of% @_root_.decide_eq_true_eq:= @_root_.decide_eq_true_eq
def ay:type_of% @_root_.iff_of_false:= @_root_.iff_of_false
open Go Go.RowKit
inductive Kr where
 |map
 |ptr
 |func
def Kr.val:Kr->Value
 | .map=> .map ae
 | .ptr=> .pointer ae
 | .func=> .nilFunc
def Kr.one(k:Kr):k.val.oneCell'=af:=by cases k<;>simp[Kr.val,ajK]
inductive Row where
 |int (k:IntKind)
 |bool
 |str
 |slice (e:Row)
 |lz
 |nul (k:Kr)
 |map (K:Row) (agg:Bool) (V:Row)
 |pair (a b:Row)
@[reducible] def Row.den:Row->Type
  | .int _=>Int
  | .bool=>Bool
  | .str=>ByteArray
  | .slice e=>List e.den
  | .lz=>Value
  | .nul _=>Unit
  | .map K _ V=>List (K.den×V.den)
  | .pair a b=>a.den×b.den
noncomputable instance Row.decEq:(r:Row)->DecidableEq r.den
 | .int _=>inferInstanceAs (DecidableEq Int)
 | .bool=>inferInstanceAs (DecidableEq Bool)
 | .str=>inferInstanceAs (DecidableEq ByteArray)
 | .slice e=>have:=Row.decEq e;inferInstanceAs (DecidableEq (List e.den))
 | .lz=>λa b=>ai6 (a=b)
 | .nul _=>inferInstanceAs (DecidableEq Unit)
 | .map K _ V=>have:=Row.decEq K;have:=Row.decEq V;inferInstanceAs (DecidableEq (List (K.den×V.den)))
 | .pair a b=>have:=Row.decEq a;have:=Row.decEq b;inferInstanceAs (DecidableEq (a.den×b.den))
@[simp] def Row.size:Row->Nat
  | .pair a b=>a.size+b.size
  |_=>1
theorem Row.size_pos:(r:Row)->0<r.size
 | .pair a b=>by have:=Row.size_pos a;simp;omega
 | .int _| .bool| .str| .slice _| .lz| .nul _| .map .. =>by simp
def kK:(K:Row)->K.den->Option Value
 | .int k,n=>aa (.int k n)
 | .bool,b=>aa (.bool b)
 | .str,s=>aa (.string s)
 | .pair (.int j) (.int k),x=>aa (.agg #[.int j x.1, .int k x.2])
 |_,_=>ae
def cS(F:Nat->Prop)(w:World):(r:Row)->List Value->r.den->Prop
 | .int k,cs,n=>cs=[.int k n]
 | .bool,cs,b=>cs=[.bool b]
 | .str,cs,s=>cs=[.string s]
 | .slice e,cs,l=>∃A cap,cs=[.slice A l.length cap]/\l.length<=cap/\cap<=maxLen/\
     ∀i(h:i<l.length),∃b off es,A=aa ⟨b,off,ae⟩/\F b/\es.length=e.size/\
      (∀j u,es[j]? =aa u->w.cell? ⟨b,off+i*e.size+j,ae⟩=aa u)/\cS F w e es l[i]
 | .lz,cs,v=>cs=[v]/\∃A m c,v= .slice A m c
 | .nul k,cs,_=>cs=[k.val]
 | .map K agg V,cs,l=>∃v,cs=[v]/\((v= .map ae/\l=[])\/∃b es clock,v= .map (aa b)/\F b/\w.heap[b]? =aa (.map es clock)/\MapKept.Stamped es clock/\es.size=l.length/\
     ∀i(h:i<l.length),∃(e:MapEntry)(cs:List Value),es[i]? =aa e/\kK K l[i].1=aa e.key/\cS F w V cs l[i].2/\e.val=(bif agg then .agg cs.toArray else cs.headD undef)/\(agg=ah->cs=[e.val]))
 | .pair a b,cs,d=>∃c1 c2,cs=c1++c2/\cS F w a c1 d.1/\cS F w b c2 d.2
theorem cS.length{F:Nat->Prop}{w:World}:{r:Row}->{cs:List Value}->{d:r.den}->cS F w r cs d->cs.length=r.size
 | .int _,_,_,h=>by rw[show _=_ from h];rfl
 | .bool,_,_,h=>by rw[show _=_ from h];rfl
 | .str,_,_,h=>by rw[show _=_ from h];rfl
 | .slice _,_,_,h=>by obtain⟨A,cap,h,_⟩:=h;rw[h];rfl
 | .lz,_,_,h=>by rw[h.1];rfl
 | .nul _,_,_,h=>by rw[show _=_ from h];rfl
 | .map ..,_,_,h=>by obtain⟨v,rfl,_⟩:=h;rfl
 | .pair a b,_,_,h=>by
   obtain⟨c1,c2,rfl,h1,h2⟩:=h;simp[h1.length,h2.length]
def cS.jR{F:Nat->Prop}{w:World}:{r:Row}->{cs:List Value}->{d:r.den}->cS F w r cs d->∀u∈cs,u.oneCell'=af
 | .int _,_,_,h=>by rw[show _=_ from h];simp[ajK]
 | .bool,_,_,h=>by rw[show _=_ from h];simp[ajK]
 | .str,_,_,h=>by rw[show _=_ from h];simp[ajK]
 | .slice _,_,_,h=>by obtain⟨A,cap,rfl,_⟩:=h;simp[ajK]
 | .lz,_,_,h=>by obtain⟨rfl,A,m,c,rfl⟩:=h;simp[ajK]
 | .nul k,_,_,h=>by rw[show _=_ from h];simp[k.one]
 | .map ..,_,_,h=>by
   obtain⟨v,rfl,h⟩:=h
   rcases h with⟨rfl,_⟩|⟨b,es,clock,rfl,_⟩<;>simp[ajK]
 | .pair a b,_,_,h=>by
   obtain⟨c1,c2,rfl,h1,h2⟩:=h;intro u hu
   rcases aiX.1 hu with h'|h'
   .exact h1.jR u h'
   .exact h2.jR u h'
def Step(F:Nat->Prop)(w:World)(F':Nat->Prop)(w':World):Prop:=∀b,F b->F' b/\w'.heap[b]? =w.heap[b]?
def cS.step{F F':Nat->Prop}{w w':World}(ho:Step F w F' w'):{r:Row}->{cs:List Value}->{d:r.den}->cS F w r cs d->cS F' w' r cs d
 | .int _,_,_,h=>h
 | .bool,_,_,h=>h
 | .str,_,_,h=>h
 | .slice e,_,l,h=>by
   obtain⟨A,cap,hc,h1,h2,h3⟩:=h;refine⟨A,cap,hc,h1,h2,λi hi=>?_⟩;obtain⟨b,off,es,hA,hb,uX,vO,hr⟩:=h3 i hi;exact⟨b,off,es,hA,(ho b hb).1,uX,λj u hu=>(World.cell?_of_block (ho b hb).2).trans (vO j u hu),hr.step ho⟩
 | .lz,_,_,h=>h
 | .nul _,_,_,h=>h
 | .map K agg V,_,l,h=>by
   obtain⟨v,hv,h⟩:=h;refine⟨v,hv,h.imp id λ⟨b,es,clock,h1,h2,h3,h4,h5,h6⟩=>⟨b,es,clock,h1,(ho b h2).1,(ho b h2).2.trans h3,h4,h5,λi hi=>?_⟩⟩;obtain⟨e,cs,g1,g2,g3,g4⟩:=h6 i hi;exact⟨e,cs,g1,g2,g3.step ho,g4⟩
 | .pair a b,_,_,h=>by
   obtain⟨c1,c2,hc,h1,h2⟩:=h;exact⟨c1,c2,hc,h1.step ho,h2.step ho⟩
def At(F:Nat->Prop)(w:World)(r:Row)(b off:Nat)(x:r.den):Prop:=
 ∃es,es.length=r.size/\(∀j u,es[j]? =aa u->w.cell? ⟨b,off+j,ae⟩=aa u)/\cS F w r es x
def At.fst{F:Nat->Prop}{w:World}{r s:Row}{b off:Nat}{x:(Row.pair r s).den}(h:At F w (.pair r s) b off x):At F w r b off x.1:=by
 obtain⟨es,hl,hc,c1,c2,rfl,h1,h2⟩:=h;exact⟨c1,h1.length,(by grind),h1⟩
def At.snd{F:Nat->Prop}{w:World}{r s:Row}{b off:Nat}{x:(Row.pair r s).den}(h:At F w (.pair r s) b off x)(k:Nat)(hk:k=r.size):At F w s b (off+k) x.2:=by
 obtain⟨es,hl,hc,c1,c2,rfl,h1,h2⟩:=h;subst hk
 exact⟨c2,h2.length,λj u hu=>by
  have:=hc (r.size+j) u (by
   grind [cS.length])
  grind,h2⟩
theorem cS.nil(F:Nat->Prop)(w:World)(e:Row):cS F w (.slice e) [.slice ae 0 0] []:=⟨ae,0,rfl,aiH _,by simp[maxLen],λi hi=>absurd hi (by simp)⟩
def cS.Er{F:Nat->Prop}{w:World}{e:Row}{v:Value}{l:List e.den}(h:cS F w (.slice e) [v] l):
 ∃A cap,v= .slice A l.length cap/\l.length<=cap/\cap<=9223372036854775807:=by
 obtain⟨A,cap,h1,h2,h3,_⟩:=h;exact⟨A,cap,by simpa using h1,h2,h3⟩
def Step.refl(F:Nat->Prop)(w:World):Step F w F w:=λ_ h=>⟨h,rfl⟩
def Step.trans{F F1 F2:Nat->Prop}{w w1 w2:World}(h:Step F w F1 w1)(k:Step F1 w1 F2 w2):Step F w F2 w2:=λb hb=>⟨(k b (h b hb).1).1,(k b (h b hb).1).2.trans (h b hb).2⟩
def Step.drew(F:Nat->Prop)(w:World):Step F w F w.drew:=λ_ h=>⟨h,rfl⟩
def Step.alloc{F:Nat->Prop}{w:World}(h:∀b,F b->b<w.heap.size)(o:Obj):Step F w F (w.alloc o):=λb hb=>⟨hb,Below.heap_alloc w o b (h b hb)⟩
def Step.freeze(F:Nat->Prop)(w:World)(G:Nat->Prop):Step F w (λb=>F b\/G b) w:=λ_ h=>⟨.inl h,rfl⟩
structure Fr(n:Nat)(a:Act)(ρ:Nat->Value):Prop where
 size:a.tmps.size=n
 defers:a.defers=[]
 get:∀t,a.tmps.getD t undef=ρ t
def Eg(ρ:Nat->Value)(d:Nat)(v:Value):Nat->Value:=λt=>bif aiJ t d then v else ρ t
def ev(ρ:Nat->Value):Operand->Value
 | .tmp t=>ρ t
 | .const v=>v
 | .global g=> .pointer (aa ⟨g,0,ae⟩)
 | .func f=> .func (.func f) #[] #[]
def Fr.eval{n:Nat}{a:Act}{ρ:Nat->Value}(h:Fr n a ρ):a.eval=ev ρ:=by
 funext x
 cases x with
 |tmp t=>exact h.get t
 |const v=>rfl
 |global g=>rfl
 |func f=>rfl
def Fr.put{n:Nat}{a:Act}{ρ:Nat->Value}(h:Fr n a ρ){d:Nat}(hd:aja d n=af)(v:Value):Fr n (a.put (aa d) v) (Eg ρ d v):=by
 have aH:d<n:=by simpa[Nat.blt_eq]using hd
 refine⟨by simpa[Act.put]using h.size,by simpa[Act.put]using h.defers,λt=>?_⟩;have hs:=h.size;have hg:=h.get t;simp only[Act.put,ai8,Array.getElem?_setIfInBounds]at hg⊢;unfold Eg;by_cases ht:t=d
 .simp_all
 .have dA:¬d=t:=λe=>ht e.symm
  grind [Nat.eq_of_beq_eq_true]
def wpS(P:Program)(n:Nat)(ops:Array Oper)(K:(Nat->Value)->World->Prop)(l:List Oper)(ρ:Nat->Value)(w:World):Prop:=
 ∀(Q:Exit->Act->World->Prop)(a:Act),Fr n a ρ->(∀a' c7 w',Fr n a' c7->K c7 w'->Q .normal a' w')->wpList P ops Q l a w
section
variable {P:Program} {n:Nat} {ops:Array Oper} {K:(Nat->Value)->World->Prop} {rest:List Oper} {ρ:Nat->Value} {w:World}
def Ov(h:K ρ w):wpS P n ops K [] ρ w:=λ_ _ hf hk=>hk _ _ _ hf h
def Pure(P:Program)(ρ:Nat->Value)(o:Oper)(v:Value):Prop:=∀w,(execOp (ev ρ) o).run P w= .ok (.value v) w
def oL{a:Act}(hf:Fr n a ρ){j d:Nat}{b:Bool}(hj:(ops[j]?).bind (·.dst)=aa d)(hd:aja d n=af)(hb:ρ d= .bool b):yielded ops a.tmps j=aa b:=by
 have aH:d<n:=by simpa[Nat.blt_eq]using hd
 have hg:=hf.get d;have hs:=hf.size;rw[hb]at hg
 have:a.tmps[d]? =aa (.bool b):=by
  rw[ai8]at hg;rw[aiW (by omega)]at hg⊢;simpa using hg
 unfold yielded
 grind
def Rr{dst:Option Nat}{op:Op}{ty:TypeId}{pos:String}{aft:Array Edge}{j:Nat}{b:Bool}(d:Nat)(hj:(ops[j]?).bind (·.dst)=aa d)(hd:aja d n=af)(hb:ρ d= .bool b)
 (h:wpS P n ops K (⟨dst,op,ty,pos,aft,ae⟩::rest) ρ w):wpS P n ops K (⟨dst,op,ty,pos,aft,aa (j,b)⟩::rest) ρ w:=
 λQ a hf hk=>by
  have:=h Q a hf hk;unfold wpList at this⊢;rw[al (by simp[ajQ])]at this;rw[al (by simp[ajQ,oL hf hj hd hb])];exact this
def Ow{d':Nat}{op:Op}{ty:TypeId}{pos:String}{aft:Array Edge}{j:Nat}{b b':Bool}(d:Nat)(hj:(ops[j]?).bind (·.dst)=aa d)(hd:aja d n=af)(hb:ρ d= .bool b')(dA:b'≠b)(Bw:aja d' n=af)
 (h:wpS P n ops K rest (Eg ρ d' undef) w):wpS P n ops K (⟨aa d',op,ty,pos,aft,aa (j,b)⟩::rest) ρ w:=
 λQ a hf hk=>by
  have:=h Q _ (hf.put Bw undef) hk;unfold wpList;rw[aj (by simp[ajQ,oL hf hj hd hb,dA])];exact this
def zT{op:Op}{ty:TypeId}{pos:String}{aft:Array Edge}{j:Nat}{b b':Bool}(d:Nat)(hj:(ops[j]?).bind (·.dst)=aa d)(hd:aja d n=af)(hb:ρ d= .bool b')(dA:b'≠b)
 (h:wpS P n ops K rest ρ w):wpS P n ops K (⟨ae,op,ty,pos,aft,aa (j,b)⟩::rest) ρ w:=
 λQ a hf hk=>by
  have:=h Q _ hf hk;unfold wpList;rw[aj (by simp[ajQ,oL hf hj hd hb,dA])];exact this
def nL{a:Act}(hf:Fr n a ρ){j d:Nat}(hj:(ops[j]?).bind (·.dst)=aa d)(hd:aja d n=af)(hb:ρ d=undef):yielded ops a.tmps j=ae:=by
 have aH:d<n:=by simpa[Nat.blt_eq]using hd
 have hg:=hf.get d;have hs:=hf.size;rw[hb]at hg
 have:a.tmps[d]? =aa undef:=by
  rw[ai8]at hg;rw[aiW (by omega)]at hg⊢;simpa using hg
 unfold yielded;rw[hj];simp[this,undef]
def KE{d':Nat}{op:Op}{ty:TypeId}{pos:String}{aft:Array Edge}{j:Nat}{b:Bool}(d:Nat)(hj:(ops[j]?).bind (·.dst)=aa d)(hd:aja d n=af)(hb:ρ d=undef)(Bw:aja d' n=af)
 (h:wpS P n ops K rest (Eg ρ d' undef) w):wpS P n ops K (⟨aa d',op,ty,pos,aft,aa (j,b)⟩::rest) ρ w:=
 λQ a hf hk=>by
  have:=h Q _ (hf.put Bw undef) hk;unfold wpList;rw[aj (by simp[ajQ,nL hf hj hd hb])];exact this
def xN{op:Op}{ty:TypeId}{pos:String}{aft:Array Edge}{j:Nat}{b:Bool}(d:Nat)(hj:(ops[j]?).bind (·.dst)=aa d)(hd:aja d n=af)(hb:ρ d=undef)
 (h:wpS P n ops K rest ρ w):wpS P n ops K (⟨ae,op,ty,pos,aft,aa (j,b)⟩::rest) ρ w:=
 λQ a hf hk=>by
  have:=h Q _ hf hk;unfold wpList;rw[aj (by simp[ajQ,nL hf hj hd hb])];exact this
end
def vq(P:Program)(n:Nat)(c:Code)(Q:Exit->(Nat->Value)->World->Prop)(ρ:Nat->Value)(w:World):Prop:=
 ∀a,Fr n a ρ->c.wp P (λe a' w'=>∃c7,Fr n a' c7/\Q e c7 w') a w
def thn(K:(Nat->Value)->World->Prop)(Q:Exit->(Nat->Value)->World->Prop):Exit->(Nat->Value)->World->Prop
 | .normal,ρ,w=>K ρ w
 |e,ρ,w=>Q e ρ w
def T5(id:Nat)(Q:Exit->(Nat->Value)->World->Prop):Exit->(Nat->Value)->World->Prop
 | .exit HN,ρ,w=>bif aiJ HN id then Q .normal ρ w else Q (.exit HN) ρ w
 |e,ρ,w=>Q e ρ w
section
variable {P:Program} {n:Nat} {Q:Exit->(Nat->Value)->World->Prop} {ρ:Nat->Value} {w:World}
def Es{id:Nat}{l:List Oper}(h:wpS P n l.toArray (λρ w=>Q .normal ρ w) l ρ w):vq P n (.region id l.toArray ah) Q ρ w:=
 λa hf=>wp_region_lit (h _ a hf λ_ _ _ sd hk=>⟨_,sd,hk⟩)
def zU{a b:Code}(h:vq P n a (thn (λρ w=>vq P n b Q ρ w) Q) ρ w):vq P n (.seq a b) Q ρ w:=
 λact hf=>wp_seq (wp_mono (h act hf) λe a' w' ⟨c7,sd,hh⟩=>by
  cases e with
  |normal=>exact hh a' sd
  |_=>exact⟨c7,sd,hh⟩)
def KF(h:Q .normal ρ w):vq P n .skip Q ρ w:=λ_ hf=>wp_skip ⟨_,hf,h⟩
def KG{id:Nat}(h:Q (.exit id) ρ w):vq P n (.exit id) Q ρ w:=λ_ hf=>wp_exit ⟨_,hf,h⟩
def Ox(h:Q .ret ρ w):vq P n .ret Q ρ w:=λ_ hf=>wp_ret ⟨_,hf,h⟩
def th{id:Nat}{c:Code}(h:vq P n c (T5 id Q) ρ w):vq P n (.block id c) Q ρ w:=
 λa hf=>wp_block (wp_mono (h a hf) λe a' w' ⟨c7,sd,hh⟩=>by
  cases e with
  |exit HN=>
   unfold Exit.inBlock;by_cases he:HN=id
   .subst he;simp only[T5,show aiJ HN HN=af from Nat.beq_refl _,cond_true]at hh;simpa using⟨c7,sd,hh⟩
   .have hb:aiJ HN id=ah:=by
     cases Bz:aiJ HN id with
     |false=>rfl
     |true=>exact absurd (Nat.eq_of_beq_eq_true Bz) he
    simp only[T5,hb,cond_false]at hh;simpa[he]using⟨c7,sd,hh⟩
  |_=>exact⟨c7,sd,hh⟩)
def BA{c:Operand}{x y:Code}(b:Bool)(hc:ev ρ c= .bool b)(h:vq P n (bif b then x else y) Q ρ w):vq P n (.cond c x y) Q ρ w:=
 λa hf=>wp_cond (t:=b) (by rw[hf.eval];exact hc) (by
  have:=h a hf
  grind)
def KH{c:Operand}{x y:Code}(hc:ev ρ c= .bool af)(h:vq P n x Q ρ w):vq P n (.cond c x y) Q ρ w:=BA af hc h
def HO{c:Operand}{x y:Code}(hc:ev ρ c= .bool ah)(h:vq P n y Q ρ w):vq P n (.cond c x y) Q ρ w:=BA ah hc h
def Loop{S X:Type}(body:S->Option (S⊕X)):Nat->S->Option X
 |0,_=>ae
 |k+1,s=>match body s with
  |none=>ae
  |some (.inl s')=>Loop body k s'
  |some (.inr x)=>aa x
def QD{S X:Type}(I:S->(Nat->Value)->World->Prop)(Q:Exit->(Nat->Value)->World->Prop)(x:X):S⊕X->Exit->(Nat->Value)->World->Prop
 | .inl s',e,ρ,w=>e= .normal/\I s' ρ w
 | .inr x',e,ρ,w=>e≠ .normal/\(x'=x->Q e ρ w)
def KI{S X:Type}{body:S->Option (S⊕X)}{c:Code}(I:S->(Nat->Value)->World->Prop){x:X}{N:Nat}{s:S}(hm:Loop body N s=aa x)(h0:I s ρ w)
 (hb:∀s ρ w y,I s ρ w->body s=aa y->vq P n c (QD I Q x y) ρ w):vq P n (.loop c) Q ρ w:=by
 intro a hf;refine wp_loop_rounds N ?_
 induction N generalizing s ρ w a with
 |zero=>cases hm
 |succ k ih=>
  rw[rounds_succ];unfold Loop at hm
  cases hy:body s with
  |none=>simp[hy]at hm
  |some y=>
   refine wp_mono (hb s ρ w y h0 hy a hf) λe a' w' ⟨c7,sd,hh⟩=>?_
   cases y with
   |inl s'=>
    obtain⟨rfl,hI⟩:=hh;rw[hy]at hm;exact ih hm hI a' sd
   |inr x'=>
    rw[hy]at hm;obtain⟨dA,hq⟩:=hh;have:=hq (aiC hm)
    cases e with
    |normal=>grind
    |_=>exact⟨c7,sd,this⟩
def Uy(P:Program)(fn:Func)(n:Nat)(R:Value->World->Prop):Exit->(Nat->Value)->World->Prop
 | .normal,ρ,w| .ret,ρ,w=>∀a,Fr n a ρ->∃v,(results fn a.tmps).run P w= .ok v w/\R v w
 |_,_,_=>False
def zV{f:FuncId}{fn:Func}{c:Code}{args:List Value}{R:Value->World->Prop}(hf:P.funcs[f]? =aa fn)(hb:fn.body=aa c)(hn:args.length<=fn.ntmps)
 (h:∀ρ,(∀t v,args[t]? =aa v->ρ t=v)->vq P fn.ntmps c (Uy P fn fn.ntmps R) ρ w):
 Calls P f args.toArray w λe w'=>∃v,e= .returned v/\R v w':=by
 refine calls_of_wp hf hb ?_
 have mh:(args.toArray++Array.replicate (fn.ntmps-args.toArray.size) undef).size=fn.ntmps:=by simp;omega
 refine wp_mono (h (λt=>(args.toArray++Array.replicate (fn.ntmps-args.toArray.size) undef).getD t undef) ?_ _ ⟨mh,rfl,λt=>rfl⟩) λe a' w' ⟨c7,sd,hh⟩=>?_
 .intro t v hv;have aH:t<args.length:=(aiP.1 hv).1
  have eR:args[t]=v:=by rw[aiE aH]at hv;exact aiC hv
  simp[ai8,Array.getElem?_append,aH,eR]
 .cases e with
  |normal=>exact⟨sd.defers,(hh a' sd).imp λv hv=>⟨hv.1,v,rfl,hv.2⟩⟩
  |ret=>exact⟨sd.defers,(hh a' sd).imp λv hv=>⟨hv.1,v,rfl,hv.2⟩⟩
  |_=>exact hh.elim
end
end
end Go.Proofs.YtfeahmiobbjklaaGreatDoor
section
open _root_.Bool renaming false->ah,true->af
open _root_.Option renaming none->ae,some->aa
open _root_.Nat renaming zero_add->aje
open _root_.Go.Sem renaming run_bind->ai0
namespace Go.Proofs.YtfeahmiobbjklaaGreatDoor
open Go Go.RowKit
def qv{α:Type}[BEq α][LawfulBEq α][DecidableEq α](a b:α):(a==b)=decide (a=b):=by
 grind
def run_equal_bool{P:Program}{t:TypeId}(ht:P.underlying t=aa .bool)(p q:Bool)(w:World):(Op.equal t (.bool p) (.bool q)).run P w= .ok (p==q) w:=by
 have h:∀d:Nat,(Op.equalIn (d+1) t (.bool p) (.bool q)).run P w= .ok (p==q) w:=λd=>by
  simp[Op.equalIn,run_underlying ht]
 exact h 9999
section
variable {P:Program} {ρ:Nat->Value} {d:Option Nat} {ty:TypeId} {pos:String} {aft:Array Edge} {x y c:Operand} {t u:TypeId} {k:IntKind} {a b:Int}
def HP{v:Value}(h:ev ρ x=v):Pure P ρ ⟨d, .move x,ty,pos,aft,ae⟩ v:=λw=>by simp[execOp,h]
def BC{v:Value}(h:ev ρ x=v):Pure P ρ ⟨d, .assign x,ty,pos,aft,ae⟩ v:=λw=>by simp[execOp,h]
def vP{v:Value}(hc:ev ρ c= .bool af)(hx:ev ρ x=v):Pure P ρ ⟨d, .pick c x y,ty,pos,aft,ae⟩ v:=λw=>by
 simp[execOp,asBool,hc,hx]
def uY{v:Value}(hc:ev ρ c= .bool ah)(hy:ev ρ y=v):Pure P ρ ⟨d, .pick c x y,ty,pos,aft,ae⟩ v:=λw=>by
 simp[execOp,asBool,hc,hy]
def KJ(hx:ev ρ x= .int k a)(hy:ev ρ y= .int k b):Pure P ρ ⟨d, .binOp .add t x y u,ty,pos,aft,ae⟩ (.int k (k.wrap (a+b))):=λw=>by
 simp[execOp,eqGuard,binOp,Op.intArith,hx,hy]
def KL(hx:ev ρ x= .int k a)(hy:ev ρ y= .int k b):Pure P ρ ⟨d, .binOp .sub t x y u,ty,pos,aft,ae⟩ (.int k (k.wrap (a-b))):=λw=>by
 simp[execOp,eqGuard,binOp,Op.intArith,hx,hy]
def KM(hx:ev ρ x= .int k a)(hy:ev ρ y= .int k b):Pure P ρ ⟨d, .binOp .mul t x y u,ty,pos,aft,ae⟩ (.int k (k.wrap (a*b))):=λw=>by
 simp[execOp,eqGuard,binOp,Op.intArith,hx,hy]
def KN(hx:ev ρ x= .int k a)(hy:ev ρ y= .int k b)(hb:b≠0):Pure P ρ ⟨d, .binOp .quo t x y u,ty,pos,aft,ae⟩ (.int k (k.wrap (a.tdiv b))):=λw=>by
 simp[execOp,eqGuard,binOp,Op.intDiv,hx,hy,hb]
def KO(hx:ev ρ x= .int k a)(hy:ev ρ y= .int k b)(hb:b≠0):Pure P ρ ⟨d, .binOp .rem t x y u,ty,pos,aft,ae⟩ (.int k (a.tmod b)):=λw=>by
 simp[execOp,eqGuard,binOp,Op.intDiv,hx,hy,hb]
def KP(hx:ev ρ x= .int k a)(hy:ev ρ y= .int k b):Pure P ρ ⟨d, .binOp .lss t x y u,ty,pos,aft,ae⟩ (.bool (decide (a<b))):=λw=>by
 simp[execOp,eqGuard,binOp,Op.intCmp,hx,hy]
def KQ(hx:ev ρ x= .int k a)(hy:ev ρ y= .int k b):Pure P ρ ⟨d, .binOp .leq t x y u,ty,pos,aft,ae⟩ (.bool (decide (a<=b))):=λw=>by
 simp[execOp,eqGuard,binOp,Op.intCmp,hx,hy]
def KR(hx:ev ρ x= .int k a)(hy:ev ρ y= .int k b):Pure P ρ ⟨d, .binOp .gtr t x y u,ty,pos,aft,ae⟩ (.bool (decide (b<a))):=λw=>by
 simp[execOp,eqGuard,binOp,Op.intCmp,hx,hy]
def KS(hx:ev ρ x= .int k a)(hy:ev ρ y= .int k b):Pure P ρ ⟨d, .binOp .geq t x y u,ty,pos,aft,ae⟩ (.bool (decide (b<=a))):=λw=>by
 simp[execOp,eqGuard,binOp,Op.intCmp,hx,hy]
def KT(hx:ev ρ x= .int k a)(hy:ev ρ y= .int k b):Pure P ρ ⟨d, .binOp .eql t x y u,ty,pos,aft,ae⟩ (.bool (decide (a=b))):=λw=>by
 simp[execOp,eqGuard,binOp,Op.intCmp,hx,hy,qv]
def KU(hx:ev ρ x= .int k a)(hy:ev ρ y= .int k b):Pure P ρ ⟨d, .binOp .neq t x y u,ty,pos,aft,ae⟩ (.bool (!decide (a=b))):=λw=>by
 simp[execOp,eqGuard,binOp,Op.intCmp,hx,hy,bne,qv]
def HQ{p q:Bool}(ht:P.underlying t=aa .bool)(hx:ev ρ x= .bool p)(hy:ev ρ y= .bool q):Pure P ρ ⟨d, .binOp .eql t x y u,ty,pos,aft,ae⟩ (.bool (decide (p=q))):=λw=>by
 have h:=run_equal_bool ht p q w;rw[qv]at h;simp only[execOp,eqGuard,hx,hy];simp[binOp,h]
def HR{p q:Bool}(ht:P.underlying t=aa .bool)(hx:ev ρ x= .bool p)(hy:ev ρ y= .bool q):Pure P ρ ⟨d, .binOp .neq t x y u,ty,pos,aft,ae⟩ (.bool (!decide (p=q))):=λw=>by
 have h:=run_equal_bool ht p q w;rw[qv]at h;simp only[execOp,eqGuard,hx,hy];simp[binOp,h]
def bytes_beq(p q:ByteArray):(p.toList==q.toList)=decide (p=q):=by
 rw[qv]
 congr 1
 rw[ByteArray.toList_eq,ByteArray.toList_eq];refine propext ⟨λh=>?_,λh=>by rw[h]⟩;cases p;cases q;simpa using h
def HS{p q:ByteArray}(hx:ev ρ x= .string p)(hy:ev ρ y= .string q):Pure P ρ ⟨d, .binOp .eql t x y u,ty,pos,aft,ae⟩ (.bool (decide (p=q))):=λw=>by
 simp[execOp,eqGuard,binOp,Op.stringOp,hx,hy,bytes_beq]
def HT{p q:ByteArray}(hx:ev ρ x= .string p)(hy:ev ρ y= .string q):Pure P ρ ⟨d, .binOp .neq t x y u,ty,pos,aft,ae⟩ (.bool (!decide (p=q))):=λw=>by
 simp[execOp,eqGuard,binOp,Op.stringOp,hx,hy,bytes_beq]
def KV{p:Bool}(hx:ev ρ x= .bool p):Pure P ρ ⟨d, .unOp .not t x,ty,pos,aft,ae⟩ (.bool !p):=λw=>by
 simp[execOp,Op.unary,hx]
def KW(hx:ev ρ x= .int k a):Pure P ρ ⟨d, .unOp .neg t x,ty,pos,aft,ae⟩ (.int k (k.wrap (0-a))):=λw=>by
 simp[execOp,Op.unary,Op.intArith,hx]
def HU{k':IntKind}{e:TypeDesc}(hs:P.underlying t=aa e)(hu:P.underlying u=aa (.int k'))(hx:ev ρ x= .int k a):Pure P ρ ⟨d, .convert t u x,ty,pos,aft,ae⟩ (.int k' (k'.wrap a)):=λw=>by
 simp[execOp,convert,run_underlying hs,run_underlying hu,hx,Conv.intToInt]
def KX{e:TypeId}{A:Option Addr}{n cap:Nat}{m:Nat}(hm:m=n)(ht:P.underlying t=aa (.slice e))(hx:ev ρ x= .slice A n cap):
 Pure P ρ ⟨d, .call {callee:= .builtin .len,args:= #[x],argTypes:= #[t]},ty,pos,aft,ae⟩ (.int .i64 (m:Int)):=λw=>by
 subst hm;simp[execOp,resolve,invoke,builtin,Builtin.len_,run_underlying ht,hx,goInt]
def HV{s:ByteArray}(ht:P.underlying t=aa .string)(hx:ev ρ x= .string s):
 Pure P ρ ⟨d, .call {callee:= .builtin .len,args:= #[x],argTypes:= #[t]},ty,pos,aft,ae⟩ (.int .i64 (s.size:Int)):=λw=>by
 simp[execOp,resolve,invoke,builtin,Builtin.len_,run_underlying ht,hx,goInt]
def HW{t':TypeId}(hx:ev ρ x= .int k a)(hy:ev ρ y= .int k b):
 Pure P ρ ⟨d, .call {callee:= .builtin .max,args:= #[x,y],argTypes:= #[t,t']},ty,pos,aft,ae⟩ (.int k (if a<b then b else a)):=λw=>by
 simp[execOp,resolve,invoke,builtin,Builtin.max_,Builtin.max2,hx,hy]
def HX{t':TypeId}(hx:ev ρ x= .int k a)(hy:ev ρ y= .int k b):
 Pure P ρ ⟨d, .call {callee:= .builtin .min,args:= #[x,y],argTypes:= #[t,t']},ty,pos,aft,ae⟩ (.int k (if b<a then b else a)):=λw=>by
 simp[execOp,resolve,invoke,builtin,Builtin.min_,Builtin.min2,hx,hy]
def zW{vs:Array Value}{i:Nat}{v:Value}(hx:ev ρ x= .tuple vs)(hi:vs[i]? =aa v):Pure P ρ ⟨d, .extract x i,ty,pos,aft,ae⟩ v:=λw=>by
 simp[execOp,Instr.extract,hx,hi]
theorem di(b o k:Nat):(⟨b,o,ae⟩:Addr).add k=⟨b,o+k,ae⟩:=by unfold Addr.add;grind
theorem vQ{f:Nat}{fs:Array Field}{fd:Field}{ti:TypeInfo}{n5 off:Nat}(k:Nat)(hs:P.underlying t=aa (.struct fs))(hf:fs[f]? =aa fd)(hi:P.info? fd.type=aa ti)(mh:ti.size≠0)(hk:fd.offset=k)
 (hx:ev ρ x= .pointer (aa ⟨n5,off,ae⟩)):Pure P ρ ⟨d, .fieldAddr t x f,ty,pos,aft,ae⟩ (.pointer (aa ⟨n5,off+k,ae⟩)):=λw=>by
 subst hk;simp[execOp,Instr.fieldAt,run_underlying hs,hf,Instr.sureAddr,fieldPlace,sizeOf,typeInfo,hi,mh,hx,di]
def mQ{e:TypeId}{ti:TypeInfo}{n5 off n cap i:Nat}(size:Nat)(ht:P.underlying t=aa (.slice e))(hi:P.info? e=aa ti)(mh:ti.size=size)
 (hx:ev ρ x= .slice (aa ⟨n5,off,ae⟩) n cap)(hy:ev ρ y= .int k a)(ha:a=(i:Int))(aH:i<n):
 Pure P ρ ⟨d, .indexAddr t x y,ty,pos,aft,ae⟩ (.pointer (aa ⟨n5,off+i*size,ae⟩)):=λw=>by
 subst mh;subst ha;simp[execOp,Instr.indexAt,asIntOf,run_underlying ht,sizeOf,typeInfo,hi,hx,hy,aH,di]
end
end Go.Proofs.YtfeahmiobbjklaaGreatDoor
namespace Go.Proofs.YtfeahmiobbjklaaGreatDoor
open Go Go.RowKit
inductive Path:Row->Row->Type where
 |here {r:Row}:Path r r
 |fst {a b s:Row} (p:Path a s):Path (.pair a b) s
 |snd {a b s:Row} (p:Path b s):Path (.pair a b) s
def Path.off:{r s:Row}->Path r s->Nat
 |_,_, .here=>0
 |_,_, .fst p=>p.off
 |_,_, .snd (a:=a) p=>a.size+p.off
@[reducible] def Path.get:{r s:Row}->Path r s->r.den->s.den
  |_,_, .here,x=>x
  |_,_, .fst p,x=>p.get x.1
  |_,_, .snd p,x=>p.get x.2
@[reducible] def Path.set:{r s:Row}->Path r s->r.den->s.den->r.den
  |_,_, .here,_,y=>y
  |_,_, .fst p,x,y=>(p.set x.1 y,x.2)
  |_,_, .snd p,x,y=>(x.1,p.set x.2 y)
section
variable {F:Nat->Prop} {w:World}
def Path.le:{r s:Row}->(p:Path r s)->p.off+s.size<=r.size
 |_,_, .here=>by simp[Path.off]
 |_,_, .fst p=>by have:=p.le;simp[Path.off];omega
 |_,_, .snd p=>by have:=p.le;simp[Path.off];omega
def cS.path:{r s:Row}->(p:Path r s)->{es:List Value}->{x:r.den}->cS F w r es x->cS F w s ((es.drop p.off).take s.size) (p.get x)
 |_,_, .here,es,x,h=>by
  have:=h.length;simp only[Path.off,List.drop_zero,Path.get]
  grind
 |_,s, .fst (a:=a) p,_,x,h=>by
  obtain⟨c1,c2,rfl,h1,h2⟩:=h;have hr:=cS.path p h1;have hle:=p.le;have hl:=h1.length;simp only[Path.off,Path.get]
  grind
 |_,s, .snd (a:=a) p,_,x,h=>by
  obtain⟨c1,c2,rfl,h1,h2⟩:=h;have hr:=cS.path p h2;have hl:=h1.length;simp only[Path.off,Path.get]
  grind [List.drop_append,List.drop_of_length_le]
def cS.put:{r s:Row}->(p:Path r s)->{es vs:List Value}->{x:r.den}->{y:s.den}->cS F w r es x->cS F w s vs y->
 cS F w r (es.take p.off++vs++es.drop (p.off+s.size)) (p.set x y)
 |_,_, .here,es,vs,x,y,h,hv=>by
  have:=h.length;simp only[Path.off,Path.set,List.take_zero,List.nil_append,aje];rw[<-this,List.drop_length,List.append_nil];exact hv
 |_,s, .fst (a:=a) p,_,vs,x,y,h,hv=>by
  obtain⟨c1,c2,rfl,h1,h2⟩:=h;have hr:=cS.put p h1 hv;have hle:=p.le;have hl:=h1.length;refine⟨_,c2,?_,hr,h2⟩;simp only[Path.off];rw[List.take_append_of_le_length (by omega),List.drop_append_of_le_length (by omega)];simp[List.append_assoc]
 |_,s, .snd (a:=a) p,_,vs,x,y,h,hv=>by
  obtain⟨c1,c2,rfl,h1,h2⟩:=h;have hr:=cS.put p h2 hv;have hl:=h1.length;refine⟨c1,_,?_,h1,hr⟩;simp only[Path.off]
  rw[<-hl,List.take_append,List.take_of_length_le (by omega),List.drop_append,List.drop_of_length_le (by omega),show c1.length+p.off-c1.length=p.off from by omega,
   show c1.length+p.off+s.size-c1.length=p.off+s.size from by omega]
  simp[List.append_assoc]
def At.path{r s:Row}{b off:Nat}{x:r.den}(h:At F w r b off x)(p:Path r s)(k:Nat)(hk:p.off=k):At F w s b (off+k) (p.get x):=by
 subst hk;obtain⟨es,hl,hc,hr⟩:=h;have hp:=hr.path p;refine⟨_,hp.length,λj u hu=>?_,hp⟩
 grind
def Reads(F:Nat->Prop)(w:World)(r:Row)(v:Value)(l:List r.den):Prop:=
 ∃A cap,v= .slice A l.length cap/\l.length<=cap/\cap<=maxLen/\∀i(h:i<l.length),∃b off,A=aa ⟨b,off,ae⟩/\At F w r b (off+i*r.size) l[i]
def cS.reads{r:Row}{v:Value}{l:List r.den}(h:cS F w (.slice r) [v] l):Reads F w r v l:=by
 obtain⟨A,cap,h1,h2,h3,h4⟩:=h;refine⟨A,cap,by simpa using h1,h2,h3,λi hi=>?_⟩;obtain⟨b,off,es,hA,_,uX,hc,hr⟩:=h4 i hi;exact⟨b,off,hA,es,uX,hc,hr⟩
def idx{α:Type}(l:List α)(i:Int):Option α:=if 0<=i then l[i.toNat]? else ae
theorem gX{α:Type}{l:List α}{i:Int}{y:α}(h:idx l i=aa y):∃k:Nat,i=k/\∃hk:k<l.length,l[k]=y:=by
 grind [idx]
def Reads.elem{r:Row}{v:Value}{l:List r.den}(h:Reads F w r v l){i:Int}{y:r.den}(hi:idx l i=aa y):
 ∃b off cap k,v= .slice (aa ⟨b,off,ae⟩) l.length cap/\i=(k:Nat)/\k<l.length/\At F w r b (off+k*r.size) y:=by
 obtain⟨A,cap,hv,_,_,h4⟩:=h
 grind [gX]
end
section
variable {P:Program} {n:Nat} {ops:Array Oper} {K:(Nat->Value)->World->Prop} {rest:List Oper} {ρ:Nat->Value} {w:World} {F:Nat->Prop}
variable {d:Nat} {ty:TypeId} {pos:String} {aft:Array Edge} {x y:Operand} {t:TypeId}
def il:TypeDesc->Bool
 | .struct _| .array _ _=>af
 |_=>ah
def fJ{D:TypeDesc}(hu:P.underlying t=aa D)(w:World):(isAgg t).run P w= .ok (il D) w:=by
 unfold isAgg;rw[ai0,run_underlying hu w]
 cases D<;>simp[il]
def yq{dd:Option Nat}{D:TypeDesc}{b off:Nat}{v:Value}(hu:P.underlying t=aa D)(hD:il D=ah)(hx:ev ρ x= .pointer (aa ⟨b,off,ae⟩))(hc:w.cell? ⟨b,off,ae⟩=aa v):
 (execOp (ev ρ) ⟨dd, .load t x,ty,pos,aft,ae⟩).run P w= .ok (.value v) w:=by
 simp[execOp,hx,Instr.loadAt,Instr.sureAddr,loadVar,ai0,fJ hu,hD,hc,go_sem]
def HY{dd:Option Nat}{D:TypeDesc}{ti:TypeInfo}{b off:Nat}{es:List Value}(hu:P.underlying t=aa D)(hD:il D=af)(hi:P.info? t=aa ti)(hs:ti.size=es.length)
 (hx:ev ρ x= .pointer (aa ⟨b,off,ae⟩))(hc:∀j u,es[j]? =aa u->w.cell? ⟨b,off+j,ae⟩=aa u):
 (execOp (ev ρ) ⟨dd, .load t x,ty,pos,aft,ae⟩).run P w= .ok (.value (.agg es.toArray)) w:=by
 have hl:(loadCells ⟨b,off,ae⟩ es.length).run P w= .ok es.toArray w:=
  run_loadCells_list (P:=P) w ⟨b,off,ae⟩ es (λj v hv=>by rw[di];exact hc j v hv)
 simp[execOp,hx,Instr.loadAt,Instr.sureAddr,loadVar,ai0,fJ hu,hD,sizeOf,typeInfo,hi,hs,hl]
end
end Go.Proofs.YtfeahmiobbjklaaGreatDoor
end
namespace Go.Proofs.YtfeahmiobbjklaaGreatDoor
open Go Go.RowKit
set_option maxRecDepth 100000
set_option linter.unusedSimpArgs false
set_option linter.unusedVariables false
set_option linter.defProp false
section
def Rt{ε α β:Type}{x:Except ε α}{f:α->Except ε β}{b:β}(h:(x >>= f)= .ok b):∃a,f a= .ok b:=by
 cases x with
 |error e=>cases h
 |ok a=>exact⟨a,h⟩
theorem uZ{P:Program}{w w':World}{at_ k:Addr}{u:TypeId}{v:Value}{at':Bool}{l:List Addr}(h:World.viewStore P w at_ u k v at'= .ok (w',l)):w'.drawn=w.drawn:=by
 unfold World.viewStore at h
 repeat' (first
  |(obtain⟨_,h⟩:=Rt h)
  |(split at h)
  |(cases h;done)
  |(cases h;rfl))
theorem HZ{α:Type}(a:Ask α):(w:World)->w.drawn<=(World.ask w a).2.drawn:=by
 induction a with
 |done a=>intro w;exact aiH _
 |ask adt range k ih=>
  intro w;unfold World.ask
  grind
theorem Ia(w:World)(c:Sys):w.drawn<=(w.sys c).2.drawn:=by
 unfold World.sys
 grind [HZ]
def Ib{P:Program}{α:Type}{a:α}{w':World}(s:Sem α):(w:World)->s.run P w= .ok a w'->w.drawn<=w'.drawn:=by
 induction s with
 |pure a=>simp_all
 |load m a k ih=>
  intro w h;unfold aj9 at h
  grind
 |store m a v k ih=>
  intro w h
  cases v<;>simp only[aj9]at h<;>first
   |(cases h;done)
   |(split at h
     .split at h
      .cases h
      .have h2:=ih _ h;exact h2
     .split at h
      .rename_i e3;have h2:=ih _ h;unfold World.farStore at e3
       grind [uZ]
      .cases h)
 |new o k ih=>intro w h;unfold aj9 at h;grind
 |shape r k ih=>intro w h;unfold aj9 at h;exact ih _ _ h
 |freeze a n k ih=>intro w h;unfold aj9 at h;have:=ih _ h;unfold World.freeze at this;grind
 |frozen a k ih=>intro w h;unfold aj9 at h;exact ih _ _ h
 |getObj r k ih=>intro w h;unfold aj9 at h;grind
 |setObj r o k ih=>intro w h;unfold aj9 at h;grind
 |choose q k ih=>
  intro w h;unfold aj9 at h
  grind
 |sys c k ih=>intro w h;unfold aj9 at h;grind [Ia]
 |program k ih=>intro w h;unfold aj9 at h;exact ih _ _ h
 |mark m k ih=>intro w h;unfold aj9 at h;exact ih _ h
 |halt hh=>simp_all
structure Ext(g:Nat->Prop)(w w':World):Prop where
 os:w'.os=w.os
 tape:w'.tape=w.tape/\w.drawn<=w'.drawn
 output:w'.output=w.output
 size:w.heap.size<=w'.heap.size
 block:∀k,k<w.heap.size->¬g k->w'.heap[k]? =w.heap[k]?
def Ext.KY{g:Nat->Prop}{a b:World}{row:Option Nat}(h:a.grownBy b row)(hd:a.drawn<=b.drawn)(hs:∀k,row=aa k->g k):Ext g a b:=
 ⟨h.os,⟨h.tape,hd⟩,h.output,h.size,λk hk hn=>h.block k hk λe=>hn (hs k e.symm)⟩
section
variable {w0 w w':World} {F0 F F':Nat->Prop} {g:Nat->Prop}
def Step.ext(he:Ext g w w')(hF:∀b,F b->b<w.heap.size)(hg:∀k,g k->¬F k):Step F w F w':=
 λb hb=>⟨hb,he.block b (hF b hb) λe=>hg b e hb⟩
def bU(v:Value)(k:Nat):Prop:=v.ownBlock=aa k
def is(b k:Nat):Prop:=k=b
def nr(w:World)(base:Nat)(e:TypeId)(size:Nat)(v:Value)(n:Nat)(xs:List Value):Prop:=
 xs.length=n*size/\
 ((v= .slice ae 0 0/\n=0)\/
  ∃g o0 cap cur,v= .slice (aa ⟨g,o0,ae⟩) n cap/\base<=g/\w.heap[g]? =aa (.cells cur e (0,0))/\n<=cap/\cap<=maxLen/\o0+cap*size<=cur.size/\(cur.toList.drop o0).take (n*size)=xs)
theorem nr.of{w:World}{base:Nat}{e:TypeId}{size:Nat}{v:Value}{n:Nat}{xs:List Value}(h:w.ownsRow base e size v n xs):nr w base e size v n xs:=by
 refine⟨h.1,?_⟩
 rcases h.2 with h|⟨g,cap,cur,hv,hb,hg,h1,h2,h3,h4⟩
 .exact .inl h
 .exact .inr ⟨g,0,cap,cur,hv,hb,hg,h1,h2,by omega,h4⟩
def Ic(w:World)(base:Nat)(e:TypeId)(size:Nat):nr w base e size (.slice ae 0 0) 0 []:= .of (World.ownsRow_nil w base e size)
def nr.lt{w:World}{base:Nat}{e:TypeId}{size:Nat}{v:Value}{n:Nat}{xs:List Value}(h:nr w base e size v n xs):∀k,v.ownBlock=aa k->base<=k/\k<w.heap.size:=by
 intro k hk
 rcases h.2 with⟨rfl,_⟩|⟨g,o0,cap,cur,rfl,hb,hg,_⟩
 .cases hk
 .obtain rfl:g=k:=by simpa[aiY]using hk
  grind
def mw(base:Nat)(F:Nat->Prop)(w:World)(T:TypeId)(r:Row)(v:Value)(l:List r.den):Prop:=
 (∀k,bU v k->¬F k)/\∃xs,nr w base T r.size v l.length xs/\∀i(h:i<l.length),cS F w r ((xs.drop (i*r.size)).take r.size) l[i]
variable {base b:Nat} {T:TypeId} {r:Row}
def mw.lt{v:Value}{l:List r.den}(h:mw base F w T r v l):∀k,bU v k->k<w.heap.size:=by
 obtain⟨_,xs,h,_⟩:=h
 exact λk hk=>(h.lt k hk).2
def mw.no{v:Value}{l:List r.den}(h:mw base F w T r v l):∀k,bU v k->¬F k:=h.1
theorem mw.nil(base:Nat)(F:Nat->Prop)(w:World)(T:TypeId)(r:Row):mw base F w T r (.slice ae 0 0) []:=
 ⟨λk hk=>by simp[bU,aiY]at hk,[],Ic _ _ _ _,λi h=>absurd h (by simp)⟩
def mw.reads{v:Value}{l:List r.den}(h:mw base F w T r v l):Reads F w r v l:=by
 obtain⟨_,xs,hx,h3⟩:=h;have hlen:=hx.1
 rcases hx.2 with⟨rfl,h0⟩|⟨gg,o0,cap,cur,rfl,hb,hg,h1,h2,qw,BD⟩
 .exact⟨ae,0,by rw[h0],by omega,by simp[maxLen],λi hi=>absurd hi (by omega)⟩
 .refine⟨_,cap,rfl,h1,h2,λi hi=>⟨gg,o0,rfl,_,(h3 i hi).length,λj u hu=>?_,h3 i hi⟩⟩
  grind [Go.cell_of_row]
def mw.freeze{v:Value}{l:List r.den}(h:mw base F w T r v l):cS (λb=>F b\/bU v b) w (.slice r) [v] l:=by
 obtain⟨A,cap,hv,h1,h2,h3⟩:=h.reads;refine⟨A,cap,by rw[hv],h1,h2,λi hi=>?_⟩;obtain⟨b,off,rfl,es,uX,hc,hr⟩:=h3 i hi;subst hv;exact⟨b,off,es,rfl, .inr (by simp[bU,aiY]),uX,hc,hr.step λb hb=>⟨.inl hb,rfl⟩⟩
@[reducible] def Row.zero:(r:Row)->r.den
  | .int _=>(0:Int)
  | .bool=>ah
  | .str=>ajO
  | .slice _=>[]
  | .lz=> .slice ae 0 0
  | .nul _=>()
  | .map .. =>[]
  | .pair a b=>(a.zero,b.zero)
def Row.fi:(r:Row)->List Value
 | .int k=>[.int k 0]
 | .bool=>[.bool ah]
 | .str=>[.string ajO]
 | .slice _=>[.slice ae 0 0]
 | .lz=>[.slice ae 0 0]
 | .nul k=>[k.val]
 | .map .. =>[.map ae]
 | .pair a b=>a.fi++b.fi
theorem cS.zero(F:Nat->Prop)(w:World):(r:Row)->cS F w r r.fi r.zero
 | .int _=>rfl
 | .bool=>rfl
 | .str=>rfl
 | .slice e=>cS.nil F w e
 | .lz=>⟨rfl,ae,0,0,rfl⟩
 | .nul _=>rfl
 | .map .. =>⟨_,rfl, .inl ⟨rfl,rfl⟩⟩
 | .pair a b=>⟨_,_,rfl,cS.zero F w a,cS.zero F w b⟩
end
section
variable {P:Program} {n:Nat} {ops:Array Oper} {K:(Nat->Value)->World->Prop} {rest:List Oper} {ρ:Nat->Value} {w:World} {F:Nat->Prop} {base:Nat}
variable {d:Nat} {ty:TypeId} {pos:String} {aft:Array Edge} {x y:Operand} {t:TypeId}
def Ie{dd:Option Nat}{ti:TypeInfo}{z:Value}(hi:P.info? t=aa ti)(hz:ti.zero=aa z):
 (execOp (ev ρ) ⟨dd, .alloc t,ty,pos,aft,ae⟩).run P w= .ok (.value (.pointer (aa ⟨w.heap.size,0,ae⟩))) (w.alloc (.cells z.cells t)):=by
 simp[execOp,Instr.alloc,zeroValue,typeInfo,hi,hz,newVar,newRow]
def Oy{dd:Option Nat}{v:Value}(hx:ev ρ x=v):
 (execOp (ev ρ) ⟨dd, .box t x,ty,pos,aft,ae⟩).run P w= .ok (.value (.pointer (aa ⟨w.heap.size,0,ae⟩))) (w.alloc (.cells v.cells t)):=by
 simp[execOp,Instr.box,hx,newVar,newRow]
def oM{dd:Option Nat}{ti:TypeInfo}{b off:Nat}{cur:Array Value}{T:TypeId}{v:Value}{vs:List Value}(hi:P.info? t=aa ti)(hs:ti.size=vs.length)(hx:ev ρ x= .pointer (aa ⟨b,off,ae⟩))(hy:ev ρ y=v)
 (hv:v.cells.toList=vs)(h1:∀u∈vs,u.oneCell'=af)(hg:w.heap[b]? =aa (.cells cur T (0,0)))(hl:off+vs.length<=cur.size):
 (execOp (ev ρ) ⟨dd, .store t x y,ty,pos,aft,ae⟩).run P w= .ok .skip (w.setRow b (cur.toList.take off++vs++cur.toList.drop (off+vs.length)).toArray):=by
 have iq:=run_storeCells_at P b off T vs 0 cur w hg (by omega) h1
 have mh:v.cells.size=ti.size:=by rw[hs,<-hv];simp
 simp only[Nat.add_zero]at iq;simp[execOp,Instr.storeAt,Instr.sureAddr,storeVar,sizeOf,typeInfo,hi,mh,hx,hy,hv,iq]
def nu{α:Type}(m:Int)(z:α):Option (List α):=if 0<=m/\m<=4294967296 then aa (aiG m.toNat z)else ae
def cz{α:Type}(l m:List α):Option (List α):=if l.length+m.length<=4294967296 then aa (l++m)else ae
theorem se(z:Array Value)(m j:Nat)(hj:j<m)(hz:0<z.size):(madeCells z m).toList[j]? =z[j%z.size]? :=by
 have:j%z.size<z.size:=Nat.mod_lt _ hz;simp[madeCells,hj,this]
theorem KZ(z:List Value)(m i:Nat)(hz:0<z.length)(hi:i<m):(((madeCells z.toArray (m*z.length)).toList.drop (i*z.length)).take z.length)=z:=by
 apply List.ext_getElem?
 intro j;rw[ajf,ai9];split
 .rename_i hj;have hle:(i+1)*z.length<=m*z.length:=aiS _ hi
  grind [se,Nat.add_mul_mod_self_right,Nat.mod_eq_of_lt]
 grind
def Reads.news{r:Row}{A:Option Addr}{cap m:Nat}{l:List r.den}(h:Reads F w r (.slice A m cap) l)(b off:Nat)(hA:A=aa ⟨b,off,ae⟩):
 ∃news:List Value,news.length=l.length*r.size/\(∀j u,news[j]? =aa u->w.cell? ⟨b,off+j,ae⟩=aa u)/\∀i(hi:i<l.length),cS F w r ((news.drop (i*r.size)).take r.size) l[i]:=by
 subst hA;obtain⟨A',K0,hv,_,_,h4⟩:=h;simp only[ajS]at hv;obtain⟨rfl,_,_⟩:=hv;have pw:=r.size_pos
 have vO:∀j,j<l.length*r.size->∃u,w.cell? ⟨b,off+j,ae⟩=aa u:=by
  intro j hj;have hi:j/r.size<l.length:=Nat.div_lt_of_lt_mul (by rwa [Nat.mul_comm]);obtain⟨b',ef,tj,es,uX,hc,_⟩:=h4 _ hi;simp only[aiO,Addr.mk.injEq,and_true]at tj;obtain⟨rfl,rfl⟩:=tj
  have T6:j%r.size<es.length:=by rw[uX];exact Nat.mod_lt _ pw
  have:=hc (j%r.size) _ (aiE T6);rw[Nat.add_assoc,Nat.div_add_mod']at this;exact⟨_,this⟩
 have Oz:∀j u,((aiM (l.length*r.size)).map λj=>(w.cell? ⟨b,off+j,ae⟩).getD undef)[j]? =aa u↔j<l.length*r.size/\w.cell? ⟨b,off+j,ae⟩=aa u:=by
  intro j u;by_cases hj:j<l.length*r.size
  .obtain⟨q,hq⟩:=vO j hj;simp[hj,hq]
  .simp[hj]
 refine⟨(aiM (l.length*r.size)).map λj=>(w.cell? ⟨b,off+j,ae⟩).getD undef,by simp,λj u hu=>((Oz j u).1 hu).2,λi hi=>?_⟩;obtain⟨b',ef,tj,es,uX,hc,hr⟩:=h4 i hi;simp only[aiO,Addr.mk.injEq,and_true]at tj;obtain⟨rfl,rfl⟩:=tj
 have he:(((aiM (l.length*r.size)).map λj=>(w.cell? ⟨b,off+j,ae⟩).getD undef).drop (i*r.size)).take r.size=es:=by
  have hle:(i+1)*r.size<=l.length*r.size:=aiS _ hi;rw[ajF]at hle
  apply List.ext_getElem?
  intro j;rw[ajf,ai9];split
  .rename_i hj;rw[(Oz (i*r.size+j) (es[j]'(by omega))).2 ⟨by omega,by rw[<-Nat.add_assoc];exact hc j _ (aiE (by omega))⟩,aiE (by omega)]
  .rw[List.getElem?_eq_none (by omega)]
 rw[he];exact hr
def sf(w:World)(base:Nat)(t ty e:TypeId)(i:TypeInfo)(size:Nat)(ht:P.underlying t=aa (.slice e))(hi:P.info? e=aa i)
 (v:Value)(n:Nat)(xs:List Value)(eK:nr w base e size v n xs)(c:Nat):(ajV #[t,t] ty #[v, .slice ae 0 c]).run P w= .ok v w:=by
 rcases eK.2 with⟨rfl,rfl⟩|⟨g,o0,cap,cur,rfl,_,_,Uz,_⟩
 .simp[ajV,run_underlying ht,sizeOf,typeInfo,hi,Builtin.lenOf,Builtin.firstCells]
 .simp[ajV,run_underlying ht,sizeOf,typeInfo,hi,Builtin.lenOf,Builtin.firstCells,Uz,storeCells]
def zX(w:World)(base:Nat)(t ty e:TypeId)(i:TypeInfo)(z:Value)(size bytes:Nat)(ht:P.underlying t=aa (.slice e))(hi:P.info? e=aa i)(hz:i.zero=aa z)
 (QE:i.size=size)(T7:i.bytes=bytes)(UA:z.cells.size=size)(mh:0<size)
 (v:Value)(n:Nat)(xs:List Value)(eK:nr w base e size v n xs)
 (a:Addr)(m c:Nat)(news:List Value)(hl:news.length=m*size)(K2:∀j u,news[j]? =aa u->w.cell? (a.add j)=aa u)(h1:∀u∈news,u.oneCell'=af)
 (Yc:n+m<=maxLen)(K3:(n+m)*bytes<=140737488355328)(QF:base<=w.heap.size):
 ∃v' w',(ajV #[t,t] ty #[v, .slice (aa a) m c]).run P w= .ok v' w'/\nr w' base e size v' (n+m) (xs++news)/\w.grownBy w' v.ownBlock/\
  (v'.ownBlock=v.ownBlock\/v'.ownBlock=aa w.heap.size):=by
 rcases eK.2 with⟨rfl,rfl⟩|⟨g,o0,cap,cur,rfl,hbg,hg,Uz,Ru,qw,BD⟩
 .have hx:xs=[]:=List.eq_nil_of_length_eq_zero (by simpa using eK.1);subst hx;obtain⟨v',w',g1,g2,g3,_,g4⟩:=run_append_own_at (P:=P) w base t ty e i z size bytes ht hi hz QE T7 UA mh (.slice ae 0 0) 0 [] (World.ownsRow_nil w base e size) a m c news hl K2 h1 Yc K3 QF;exact⟨v',w',g1, .of g2,g3,g4⟩
 subst QE;subst T7
 have Yd:n+m<=9223372036854775807:=by simp only[maxLen]at Yc;omega
 have hlen:(xs++news).length=(n+m)*i.size:=by rw[List.length_append,eK.1,hl,ajF]
 have hnm:n*i.size+news.length=(n+m)*i.size:=by rw[hl,ajF]
 have adv:n*i.size<=cap*i.size:=aiS _ Uz;by_cases K4:n+m<=cap
 .have BE:(n+m)*i.size<=cap*i.size:=aiS _ K4;have hf:=run_firstCells_some (P:=P) w i.size m a m c news hl K2;have iq:=run_storeCells_at P g (o0+n*i.size) e news 0 cur w hg (by omega) h1;simp only[Nat.add_zero]at iq
  have hr:(ajV #[t,t] ty #[.slice (aa ⟨g,o0,ae⟩) n cap, .slice (aa a) m c]).run P w=
   .ok (.slice (aa ⟨g,o0,ae⟩) (n+m) cap) (w.setRow g (cur.toList.take (o0+n*i.size)++news++cur.toList.drop (o0+n*i.size+news.length)).toArray):=by
   simp[ajV,run_underlying ht,sizeOf,typeInfo,hi,Builtin.lenOf,K4,hf,Addr.add_lit,iq]
  refine⟨_,_,hr,⟨hlen, .inr ⟨g,o0,cap,_,rfl,hbg,setRow_heap w g cur _ e _ hg,K4,Ru,?_,?_⟩⟩,⟨rfl,rfl,rfl,by simp,λk _ hk=>setRow_other w g k _ (λe=>hk (by simp[aiY,e]))⟩,Or.inl rfl⟩
  all_goals grind
 .have holds:∀j u,xs[j]? =aa u->w.cell? ((⟨g,o0,ae⟩:Addr).add j)=aa u:=λj u hj=>by
   grind [di,Go.cell_of_row]
  have hr:=run_append_grow (P:=P) w t ty e i z ht hi hz ⟨g,o0,ae⟩ n cap xs eK.1 holds a m c news hl K2 (by omega) (by omega) (growslice_fits (by omega) K3);have hge:=grownCap_ge w (n+m) cap e;have Ye:grownCap w (n+m) cap e<=maxLen:=grownCap_le_maxLen w (n+m) cap e Yc;refine⟨_,_,hr, .of ⟨hlen, .inr ⟨w.heap.size,_,_,rfl,QF,heap_alloc_new w.drew _,hge,Ye,?_,?_⟩⟩,⟨rfl,rfl,rfl,by simp,λk hk _=>heap_alloc_old w.drew _ hk⟩,Or.inr rfl⟩
  .simp only[Array.size_append,List.size_toArray,size_zeroCells,UA,eK.1,hl,<-ajF]
   grind
  grind
def vR{e:TypeId}{ti:TypeInfo}{z:Value}{r:Row}{v u:Value}{l m out:List r.den}(ty:TypeId)(ht:P.underlying t=aa (.slice e))(hi:P.info? e=aa ti)(hz:ti.zero=aa z)(UB:z.cells.toList=r.fi)(hs:ti.size=r.size)(T7:ti.bytes<=32768)
 (hv:mw base F w e r v l)(hu:Reads F w r u m)(hm:cz l m=aa out)(hF:∀b,F b->b<w.heap.size)(hb:base<=w.heap.size):
 ∃v' w',(ajV #[t,t] ty #[v,u]).run P w= .ok v' w'/\Ext (bU v) w w'/\mw base F w' e r v' out/\(bU v'=bU v\/bU v'=(w.heap.size= ·)):=by
 unfold cz at hm;split at hm
 case isFalse=>cases hm
 rename_i hlen;obtain rfl:=aiC hm
 have UA:z.cells.size=r.size:=by rw[<-(cS.zero F w r).length,<-UB];simp
 obtain⟨Et,xs,hx,h3⟩:=hv;have Xq:=hu;obtain⟨A,cap,rfl,hmc,Ru,uX⟩:=hu
 have Rv:∀(v':Value)(w':World)(news:List Value),news.length=m.length*r.size->(∀i(hi:i<m.length),cS F w r ((news.drop (i*r.size)).take r.size) m[i])->
  nr w' base e r.size v' (l.length+m.length) (xs++news)->w.grownBy w' v.ownBlock->w.drawn<=w'.drawn->(v'.ownBlock=v.ownBlock\/v'.ownBlock=aa w.heap.size)->
  Ext (bU v) w w'/\mw base F w' e r v' (l++m)/\(bU v'=bU v\/bU v'=(w.heap.size= ·)):=by
  intro v' _ news Xr Xs gY hg lz xO
  have hm:bU v'=bU v\/bU v'=(w.heap.size= ·):=by
   rcases xO with h|h
   .exact .inl (by unfold bU;rw[h])
   .refine .inr ?_;funext b;unfold bU;rw[h];simp
  have bS:=Ext.KY hg lz (g:=bU v) λk hk=>hk
  have dZ:=Step.ext bS hF Et;refine⟨bS,⟨λk hk=>?_,xs++news,by simpa using gY,λk hk=>?_⟩,hm⟩
  .rcases hm with h|h
   .rw[h]at hk;exact Et k hk
   .rw[h]at hk;intro hf;have:=hF k hf;omega
  .have If:=hx.1
   rcases Nat.lt_or_ge k l.length with aH|hge
   .have hle:(k+1)*r.size<=l.length*r.size:=aiS _ aH;rw[ajF]at hle;rw[ajq aH,List.drop_append_of_le_length (by omega),List.take_append_of_le_length (by rw[List.length_drop];omega)];exact(h3 k aH).step dZ
   .have QG:k-l.length<m.length:=by simp at hk;omega
    have hmul:k*r.size=l.length*r.size+(k-l.length)*r.size:=by rw[<-ajF];congr 1;omega
    rw[ajm hge,List.drop_append,If,List.drop_of_length_le (by omega),List.nil_append,show k*r.size-l.length*r.size=(k-l.length)*r.size from by omega];exact(Xs _ QG).step dZ
 cases A with
 |none=>
  have OA:m=[]:=by
   cases m with
   |nil=>rfl
   |cons a q=>obtain⟨b,off,h,_⟩:=uX 0 (by simp);cases h
  subst OA;refine⟨v,w,sf w base t ty e ti r.size ht hi v _ xs hx _,?_⟩;exact Rv v w [] (by simp) (λi hi=>absurd hi (by simp)) (by simpa using hx) ⟨rfl,rfl,rfl,aiH _,λ_ _ _=>rfl⟩ (aiH _) (.inl rfl)
 |some ad=>
  have key:∃news:List Value,news.length=m.length*r.size/\(∀j u,news[j]? =aa u->w.cell? (ad.add j)=aa u)/\∀i(hi:i<m.length),cS F w r ((news.drop (i*r.size)).take r.size) m[i]:=by
   cases m with
   |nil=>exact⟨[],by simp,λj u h=>by simp at h,λi hi=>absurd hi (by simp)⟩
   |cons a q=>
    obtain⟨b,off,h,_⟩:=uX 0 (by simp);obtain⟨news,h1,h2,h3⟩:=Xq.news b off h
    obtain rfl:ad=⟨b,off,ae⟩:=by simpa using h
    exact⟨news,h1,λj u hj=>by rw[di];exact h2 j u hj,h3⟩
  obtain⟨news,Xr,Uz,Xs⟩:=key
  have lW:∀u∈news,u.oneCell'=af:=by
   intro u hu;obtain⟨j,hj,rfl⟩:=aiV hu;have pw:=r.size_pos;have hi:j/r.size<m.length:=Nat.div_lt_of_lt_mul (by rw[Nat.mul_comm,<-Xr];exact hj);have hr:=Xs _ hi;refine hr.jR _ ?_;have hle:(j/r.size)*r.size+j%r.size=j:=Nat.div_add_mod' j r.size;have aH:=Nat.mod_lt j pw;rw[List.mem_iff_getElem?];refine⟨j%r.size,?_⟩;rw[ajf,al aH,ai9,hle,aiE hj]
  obtain⟨v',w',bD,gY,hg,xO⟩:=zX (P:=P) w base t ty e ti z r.size ti.bytes ht hi hz hs rfl UA r.size_pos v l.length xs hx ad m.length cap news Xr Uz lW (by simp only[maxLen];omega)
   (ai4 (Nat.mul_le_mul hlen T7) (by omega)) hb
  exact⟨v',w',bD,Rv v' w' news Xr Xs gY hg (Ib _ _ bD) xO⟩
end
end
end Go.Proofs.YtfeahmiobbjklaaGreatDoor
section
open _root_.Bool renaming false->ah,true->af,false_eq_true->aiK,not_true->ajR
open _root_.Option renaming none->ae,some->aa
open _root_.List.cons renaming injEq->ajt
open _root_.List renaming drop_eq_getElem_cons->aiN,length_take->ai5
open _root_.Nat renaming beq->aiJ,min_eq_left->ajD
open _root_.Option.some renaming injEq->aiO
open _root_.Go.Result renaming andThen_ok->ajv
open _root_.Go.Sem renaming run_bind->ai0
namespace Go.Proofs.YtfeahmiobbjklaaGreatDoor
open Go Go.RowKit
def bind_some{α β:Type}{o:Option α}{f:α->Option β}{r:β}(h:o.bind f=aa r):∃x,o=aa x/\f x=aa r:=Option.bind_eq_some_iff.1 h
section
variable {P:Program} {n:Nat} {ρ:Nat->Value} {w:World} {K:(Nat->Value)->World->Prop} {Q:Exit->(Nat->Value)->World->Prop}
def K5{id:Nat}(h:Q .normal ρ w):T5 id Q (.exit id) ρ w:=by
 show(bif aiJ id id then _ else _)
 simp_all
def Ig{id HN:Nat}(dA:aiJ HN id=ah)(h:Q (.exit HN) ρ w):T5 id Q (.exit HN) ρ w:=by
 show(bif aiJ HN id then _ else _)
 grind
end
def TI(P:Program)(e:TypeId)(r:Row):Prop:=∃ti z,P.info? e=aa ti/\ti.zero=aa z/\z.cells.toList=r.fi/\ti.size=r.size/\ti.bytes<=32768
def TI.mk{P:Program}{e:TypeId}{r:Row}{k:Nat}(h:(P.info? e).map (λi=>(i.zero.map (λz=>z.cells.toList),i.size,decide (i.bytes<=32768)))=aa (aa r.fi,k,af))(hk:k=r.size):TI P e r:=by
 cases hi:P.info? e with
 |none=>simp[hi]at h
 |some ti=>
  simp only[hi,Option.map_some,aiO,Prod.mk.injEq,ax]at h;obtain⟨h1,h2,h3⟩:=h
  cases hz:ti.zero with
  |none=>simp[hz]at h1
  |some z=>
   simp only[hz,Option.map_some,aiO]at h1;exact⟨ti,z,hi,hz,h1,h2.trans hk,h3⟩
section
variable {P:Program} {n:Nat} {ops:Array Oper} {K:(Nat->Value)->World->Prop} {rest:List Oper} {ρ:Nat->Value} {w:World} {F:Nat->Prop} {base:Nat}
variable {d:Nat} {dd:Option Nat} {ty:TypeId} {pos:String} {aft:Array Edge} {x y c:Operand} {t e:TypeId} {r:Row}
def nv{f:Nat}{fs:Array Field}{fd:Field}{n5 off:Nat}(k:Nat)(hs:P.underlying t=aa (.struct fs))(hf:fs[f]? =aa fd)(hi:TI P fd.type r)(hk:fd.offset=k)
 (hx:ev ρ x= .pointer (aa ⟨n5,off,ae⟩)):Pure P ρ ⟨dd, .fieldAddr t x f,ty,pos,aft,ae⟩ (.pointer (aa ⟨n5,off+k,ae⟩)):=by
 obtain⟨ti,z,h1,_,_,h4,_⟩:=hi
 grind [vQ,Row.size_pos]
end
end Go.Proofs.YtfeahmiobbjklaaGreatDoor
namespace Go.Proofs.YtfeahmiobbjklaaGreatDoor
open Go Go.RowKit
noncomputable def lA(r:Row)(x y:r.den):Bool:= @decide (x=y) (Row.decEq r x y)
theorem vr{r:Row}{x y:r.den}:lA r x y=af↔x=y:=by simp[lA]
def n9{r:Row}{x y:r.den}:lA r x y=ah↔x≠y:=by simp[lA]
def K6(P:Program)(t:TypeId)(cs:List Value)(v:Value):Prop:=∃D,P.underlying t=aa D/\(if il D=af then v= .agg cs.toArray else cs=[v])
def qZ(P:Program)(t:TypeId)(r:Row)(K:Nat):Prop:=
 ∀(d:Nat)(w2 w:World)(F:Nat->Prop)(cs u0:List Value)(x y:r.den)(v v':Value),K6 P t cs v->K6 P t u0 v'->cS F w r cs x->cS F w r u0 y->
  (Op.equalIn (d+K) t v v').run P w2= .ok (decide (x=y)) w2
def OB(P:Program)(fs:List Field)(r:Row)(off K:Nat):Prop:=
 ∀(d:Nat)(w2 w:World)(F:Nat->Prop)(xs ys:List Value)(x y:r.den),cS F w r ((xs.drop off).take r.size) x->cS F w r ((ys.drop off).take r.size) y->
  (Op.eqFields (d+K) xs.toArray ys.toArray fs).run P w2= .ok (decide (x=y)) w2
section
variable {P:Program} {t:TypeId} {r:Row} {k:IntKind} {K:Nat}
def Gw(ht:P.underlying t=aa (.int k)):qZ P t (.int k) 1:=by
 intro d w2 w F cs u0 x y v v' ⟨D,hD,h1⟩ ⟨D',K7,h2⟩ hx hy;rw[ht]at hD K7;cases hD;cases K7;obtain rfl:cs=_:=hx;obtain rfl:u0=_:=hy;simp only[il,aiK,if_false,ajt,and_true]at h1 h2;subst h1;subst h2;rw[run_equalIn_int (h:=ht),qv]
def si{D:TypeDesc}{ti:TypeInfo}{cs:List Value}{off:Nat}{F:Nat->Prop}{w:World}{x:r.den}(hD:P.underlying t=aa D)(hi:P.info? t=aa ti)(hs:ti.size=r.size)(lW:il D=ah->r.size=1)
 (hr:cS F w r ((cs.drop off).take r.size) x)(w2:World):∃v,(part t cs.toArray off).run P w2= .ok v w2/\K6 P t ((cs.drop off).take r.size) v:=by
 have hl:=hr.length;have pw:=r.size_pos
 cases hA:il D with
 |true=>
  refine⟨.agg ((cs.drop off).take r.size).toArray,?_,D,hD,by rw[al hA]⟩;unfold part;rw[ai0,fJ hD,hA];simp[sizeOf,typeInfo,hi,hs]
 |false=>
  have h1:=lW hA;rw[h1]at hl⊢
  have aH:off<cs.length:=by
   rw[ai5,List.length_drop]at hl;omega
  refine⟨cs[off],?_,D,hD,?_⟩
  .unfold part;rw[ai0,fJ hD,hA];simp[aH]
  .rw[aj (by simp[hA])]
   grind [aiN]
def oa{f:Field}{off:Nat}(hn:(f.name != "_")=af)(ho:f.offset=off){D:TypeDesc}(hD:P.underlying f.type=aa D)(lW:il D=ah->r.size=1)(hi:TI P f.type r)(he:qZ P f.type r K):OB P [f] r off K:=by
 intro d w2 w F xs ys x y hx hy;subst ho;obtain⟨ti,z,h1,_,_,h4,_⟩:=hi;obtain⟨v,hv,nM⟩:=si hD h1 h4 lW hx w2;obtain⟨v',eR,Ih⟩:=si hD h1 h4 lW hy w2;have:=he d w2 w F _ _ x y v v' nM Ih hx hy
 have K8:f.name≠ "_" :=by simpa using hn
 unfold Op.eqFields;rw[al K8,ai0,hv,ajv,ai0,eR,ajv,ai0,this,ajv]
 by_cases r9:x=y<;>simp[r9,Op.eqFields]
def iN{f:Field}{fs:List Field}{a b:Row}{off:Nat}(hn:(f.name != "_")=af)(ho:f.offset=off){D:TypeDesc}(hD:P.underlying f.type=aa D)(lW:il D=ah->a.size=1)(hi:TI P f.type a)(he:qZ P f.type a K)
 (hr:OB P fs b (off+a.size) K):OB P (f::fs) (.pair a b) off K:=by
 intro d w2 w F xs ys x y hx hy;subst ho;obtain⟨ti,z,h1,_,_,h4,_⟩:=hi
 have hle:a.size<=(Row.pair a b).size:=by simp
 have gI:∀(zs:List Value)(u:(Row.pair a b).den),cS F w (.pair a b) ((zs.drop f.offset).take (Row.pair a b).size) u->cS F w a ((zs.drop f.offset).take a.size) u.1:=by
  intro zs u hu;have:=cS.path (.fst (.here (r:=a)):Path (.pair a b) a) hu;simp only[Path.off,List.drop_zero]at this;rw[List.take_take,ajD hle]at this;exact this
 have UC:∀(zs:List Value)(u:(Row.pair a b).den),cS F w (.pair a b) ((zs.drop f.offset).take (Row.pair a b).size) u->cS F w b ((zs.drop (f.offset+a.size)).take b.size) u.2:=by
  intro zs u hu;have:=cS.path (.snd (.here (r:=b)):Path (.pair a b) b) hu;simp only[Path.off,Nat.add_zero]at this;rw[List.drop_take,List.drop_drop]at this;rw[show(Row.pair a b).size-a.size=b.size from by simp]at this;rw[List.take_take,Nat.min_self]at this;exact this
 obtain⟨v,hv,nM⟩:=si hD h1 h4 lW (gI xs x hx) w2;obtain⟨v',eR,Ih⟩:=si hD h1 h4 lW (gI ys y hy) w2;have h5:=he d w2 w F _ _ _ _ v v' nM Ih (gI xs x hx) (gI ys y hy);have h6:=hr d w2 w F xs ys _ _ (UC xs x hx) (UC ys y hy)
 have K8:f.name≠ "_" :=by simpa using hn
 unfold Op.eqFields;rw[al K8,ai0,hv,ajv,ai0,eR,ajv,ai0,h5,ajv];obtain⟨x1,x2⟩:=x;obtain⟨y1,y2⟩:=y;by_cases r9:x1=y1
 .simp only[r9,decide_true,ajR,aiK,if_false,h6]
  congr 1
  simp[Prod.ext_iff]
 .simp[r9,Prod.ext_iff]
def lB{fs:Array Field}(ht:P.underlying t=aa (.struct fs))(hp:P.stoodInHeld t=ah)(h:OB P fs.toList r 0 K):qZ P t r (K+1):=by
 intro d w2 w F cs u0 x y v v' ⟨D,hD,h1⟩ ⟨D',K7,h2⟩ hx hy;rw[ht]at hD K7;cases hD;cases K7;simp only[il,if_true]at h1 h2;subst h1;subst h2
 have hf:P.fieldsOf t=fs:=by simp[Program.fieldsOf,ht]
 have UD:=hx.length;have Yf:=hy.length;rw[<-Nat.add_assoc,run_equalIn_struct _ _ _ _ _ (by grind) hp,hf];exact h d w2 w F cs u0 x y (by rw[List.drop_zero,<-UD,List.take_length];exact hx) (by grind)
variable {ρ:Nat->Value} {dd:Option Nat} {ty:TypeId} {pos:String} {aft:Array Edge} {x y:Operand} {u:TypeId}
def Ii{d:Nat}{F:Nat->Prop}{w:World}{es my:List Value}{a b:r.den}(hE:qZ P t r K)(hd:d+K=10000)(hg:P.eqGuardType P.depth t=ah)(hD:(P.underlying t).any il=af)
 (hx:ev ρ x= .agg es.toArray)(hy:ev ρ y= .agg my.toArray)(ha:cS F w r es a)(hb:cS F w r my b):
 Pure P ρ ⟨dd, .binOp .eql t x y u,ty,pos,aft,ae⟩ (.bool (lA r a b)):=λw2=>by
 cases hu:P.underlying t with
 |none=>simp[hu]at hD
 |some D=>
  have hA:il D=af:=by simpa[hu]using hD
  have:=hE d w2 w F es my a b _ _ ⟨D,hu,by rw[al hA]⟩ ⟨D,hu,by rw[al hA]⟩ ha hb;rw[hd]at this;simp only[execOp,hx,hy,ai0,run_eqGuard_agg _ _ _ _ _ _ _ hg,ajv,run_eql_struct,this];rfl
def Ij{d:Nat}{F:Nat->Prop}{w:World}{es my:List Value}{a b:r.den}(hE:qZ P t r K)(hd:d+K=10000)(hg:P.eqGuardType P.depth t=ah)(hD:(P.underlying t).any il=af)
 (hx:ev ρ x= .agg es.toArray)(hy:ev ρ y= .agg my.toArray)(ha:cS F w r es a)(hb:cS F w r my b):
 Pure P ρ ⟨dd, .binOp .neq t x y u,ty,pos,aft,ae⟩ (.bool (!lA r a b)):=λw2=>by
 cases hu:P.underlying t with
 |none=>simp[hu]at hD
 |some D=>
  have hA:il D=af:=by simpa[hu]using hD
  have:=hE d w2 w F es my a b _ _ ⟨D,hu,by rw[al hA]⟩ ⟨D,hu,by rw[al hA]⟩ ha hb;rw[hd]at this;simp only[execOp,hx,hy,ai0,run_eqGuard_agg _ _ _ _ _ _ _ hg,ajv,run_neq_struct,this];rfl
end
section
variable {P:Program} {n:Nat} {ops:Array Oper} {K:(Nat->Value)->Prop} {rest:List Oper} {ρ:Nat->Value} {w:World} {F:Nat->Prop}
variable {d:Nat} {ty:TypeId} {pos:String} {aft:Array Edge} {x y:Operand} {t e:TypeId} {r:Row}
end
end Go.Proofs.YtfeahmiobbjklaaGreatDoor
end
namespace Go.Proofs.YtfeahmiobbjklaaGreatDoor
open Go Go.RowKit
set_option maxRecDepth 100000
set_option linter.unusedSimpArgs false
set_option linter.unusedVariables false
set_option linter.defProp false
section
section
variable {P:Program} {n:Nat} {ops:Array Oper} {K:(Nat->Value)->World->Prop} {rest:List Oper} {ρ:Nat->Value} {w:World} {F:Nat->Prop} {base:Nat}
variable {d:Nat} {ty:TypeId} {pos:String} {aft:Array Edge} {x y:Operand} {t e:TypeId} {r s:Row}
def bg{α:Type}(l:List α)(i:Int)(y:α):List α:=l.set i.toNat y
def mw.put{g o0 m0 Rx q:Nat}{v:Value}{l:List r.den}(h:mw base F w e r v l)(hg:v= .slice (aa ⟨g,o0,ae⟩) m0 Rx)(hq:q<l.length)(hF:∀b,F b->b<w.heap.size)(p:Path r s){vs:List Value}{u:s.den}(hv:cS F w s vs u):
 ∃cur,w.heap[g]? =aa (.cells cur e (0,0))/\o0+q*r.size+p.off+vs.length<=cur.size/\
  Ext (bU v) w (w.setRow g (cur.toList.take (o0+q*r.size+p.off)++vs++cur.toList.drop (o0+q*r.size+p.off+vs.length)).toArray)/\
  mw base F (w.setRow g (cur.toList.take (o0+q*r.size+p.off)++vs++cur.toList.drop (o0+q*r.size+p.off+vs.length)).toArray) e r v (l.set q (p.set l[q] u)):=by
 obtain⟨Et,xs,⟨If,hx⟩,h3⟩:=h
 rcases hx with⟨rfl,_⟩|⟨g',o1,cap,cur,rfl,hb,hh,h1,h2,qw,BD⟩
 .simp at hg
 .simp only[ajS,aiO,Addr.mk.injEq,and_true]at hg;obtain⟨⟨rfl,rfl⟩,rfl,rfl⟩:=hg;have hle:=p.le;have hl:=hv.length;have hmul:(q+1)*r.size<=l.length*r.size:=aiS _ hq;rw[ajF]at hmul;have BE:l.length*r.size<=cap*r.size:=aiS _ h1
  have bS:Ext (bU (.slice (aa ⟨g',o1,ae⟩) l.length cap)) w (w.setRow g' (cur.toList.take (o1+q*r.size+p.off)++vs++cur.toList.drop (o1+q*r.size+p.off+vs.length)).toArray):=
   ⟨rfl,⟨rfl,aiH _⟩,rfl,by simp,λk _ hk=>setRow_other w g' k _ λe=>hk (by simp[bU,aiY,e])⟩
  have dZ:=Step.ext bS hF Et;refine⟨cur,hh,by omega,bS,Et,xs.take (q*r.size+p.off)++vs++xs.drop (q*r.size+p.off+vs.length),⟨by simp;omega, .inr ⟨g',o1,cap,_,by simp,hb,setRow_heap w g' _ _ e (0,0) hh,by simpa using h1,h2,by simp;omega,?_⟩⟩,?_⟩
  .rw[List.length_set,List.toList_toArray,<-BD]
   have e0:(cur.toList.take (o1+q*r.size+p.off)++vs++cur.toList.drop (o1+q*r.size+p.off+vs.length)).drop o1=(cur.toList.drop o1).take (q*r.size+p.off)++vs++(cur.toList.drop o1).drop (q*r.size+p.off+vs.length):=by
    rw[List.append_assoc,List.drop_append_of_le_length (by simp;omega),List.drop_take,List.drop_drop,show o1+q*r.size+p.off-o1=q*r.size+p.off by omega,List.append_assoc,show o1+q*r.size+p.off+vs.length=o1+(q*r.size+p.off+vs.length) by omega]
   rw[e0]
   have BF:cap*r.size<=(cur.toList.drop o1).length:=by simp;omega
   generalize cur.toList.drop o1=c2 at*
   have e1:(c2.take (l.length*r.size)).take (q*r.size+p.off)=c2.take (q*r.size+p.off):=by rw[List.take_take,ajD (by omega)]
   rw[e1,List.take_append,List.take_of_length_le (by simp;omega),List.drop_take]
   congr 1
   simp;omega
  .intro i kF
   have hi:i<l.length:=by simpa using kF
   have Ry:(i+1)*r.size<=l.length*r.size:=aiS _ hi;rw[ajF]at Ry
   have A:∀j,j<r.size->((xs.take (q*r.size+p.off)++vs++xs.drop (q*r.size+p.off+vs.length)))[i*r.size+j]? =
    if i*r.size+j<q*r.size+p.off then xs[i*r.size+j]? else if i*r.size+j<q*r.size+p.off+vs.length then vs[i*r.size+j-(q*r.size+p.off)]? else xs[i*r.size+j]? :=by
    intro j hj;rw[List.append_assoc,aj1];simp only[ai5,If,ajD (show q*r.size+p.off<=l.length*r.size from by omega)];split
    .grind
    .rw[aj1];split
     .grind
     .rename_i h1 h2;rw[aj (by omega),ai9]
      grind
   by_cases Yg:i=q
   .subst Yg;rw[List.getElem_set_self];have hp:=(h3 i hi).put p hv
    have:((xs.take (i*r.size+p.off)++vs++xs.drop (i*r.size+p.off+vs.length)).drop (i*r.size)).take r.size=
     ((xs.drop (i*r.size)).take r.size).take p.off++vs++((xs.drop (i*r.size)).take r.size).drop (p.off+s.size):=by
     have UE:((xs.drop (i*r.size)).take r.size).length=r.size:=by rw[ai5,List.length_drop,If];omega
     have Yh:∀j,j<r.size->((xs.drop (i*r.size)).take r.size)[j]? =xs[i*r.size+j]? :=(by grind)
     generalize(xs.drop (i*r.size)).take r.size=seg at UE Yh
     apply List.ext_getElem?
     intro j;rw[aj1 (l₁:=seg.take p.off++vs),aj1 (l₁:=seg.take p.off),List.length_append,ai5,UE,ajD (show p.off<=r.size from by omega),ajf (l:=List.drop _ _)];by_cases hj:j<r.size
     .rw[al hj,ai9,A j hj];by_cases Yi:j<p.off
      .rw[al (by omega),al (by omega),al Yi,ajf,al Yi,Yh j hj]
      .rw[aj (by omega)];by_cases T6:j<p.off+vs.length
       .rw[al (by omega),al T6,aj Yi]
        congr 1
        omega
       .rw[aj (by omega),aj T6,ai9,<-Yh j hj]
        congr 1
        omega
     .grind
    rw[this];exact hp.step dZ
   .rw[List.getElem_set_ne (λe=>Yg e.symm)]
    have:((xs.take (q*r.size+p.off)++vs++xs.drop (q*r.size+p.off+vs.length)).drop (i*r.size)).take r.size=(xs.drop (i*r.size)).take r.size:=by
     apply List.ext_getElem?
     intro j;rw[ajf,ajf];by_cases hj:j<r.size
     .rw[al hj,al hj,ai9,A j hj,ai9]
      rcases Nat.lt_or_gt_of_ne Yg with aH|hgt
      .have:(i+1)*r.size<=q*r.size:=aiS _ aH
       grind
      .have:(q+1)*r.size<=i*r.size:=aiS _ hgt
       grind
     .grind
    rw[this];exact(h3 i hi).step dZ
def mw.at{g o0 m0 Rx q:Nat}{i:Int}{v:Value}{l:List r.den}{a:r.den}(h:mw base F w e r v l)(hg:v= .slice (aa ⟨g,o0,ae⟩) m0 Rx)(hq:i=(q:Nat))(pE:idx l i=aa a):At F w r g (o0+q*r.size) a:=by
 obtain⟨b,off,cap,k,hv,hk,aH,xO⟩:=h.reads.elem pE
 grind
def K9(cs:List Value):∀(k:Nat)(pre post:List Value),post.length=cs.length->∀(tail:List Value),
 (cs.zipIdx k).foldl (λ(acc:Array Value)(cj:Value×Nat)=>acc.setIfInBounds (pre.length-k+cj.2) cj.1) (pre++post++tail).toArray=(pre++cs++tail).toArray\/pre.length<k:=by
 induction cs with
 |nil=>simp_all
 |cons c q ih=>
  intro k pre post hp tail;by_cases hk:pre.length<k
  .exact .inr hk
  cases post with
  |nil=>simp at hp
  |cons p0 post=>
   simp only[List.zipIdx_cons,List.foldl_cons]
   rcases ih (k+1) (pre++[c]) post (by simpa using hp) tail with h|h
   all_goals simp_all
def yr{place:Nat->Option (Nat×Nat)}{i off size:Nat}{v:Value}{vs cells:List Value}{rest:List (Nat×Value)}(hp:place i=aa (off,size))(hv:v.cells.toList=vs)(hs:vs.length=size)(hle:off+size<=cells.length):
 Instr.fill place cells.toArray ((i,v)::rest)=Instr.fill place (cells.take off++vs++cells.drop (off+size)).toArray rest:=by
 have hvc:v.cells=vs.toArray:=by rw[<-hv,ajo]
 have hf:=K9 vs 0 (cells.take off) ((cells.drop off).take size) (by simp;omega) (cells.drop (off+size))
 have Eu:cells.take off++(cells.drop off).take size++cells.drop (off+size)=cells:=by
  rw[List.append_assoc,<-List.drop_drop,ajP,ajP]
 have hlen:(cells.take off).length=off:=by simp;omega
 rw[Eu,hlen,Nat.sub_zero]at hf
 rcases hf with hf|hf
 case inr=>omega
 rw[Instr.fill]
 grind
inductive vS(F:Nat->Prop)(w:World)(r:Row):List Value->List r.den->Prop where
 |nil:vS F w r [] []
 |cons {v:Value} {vs:List Value} {cs:List Value} {a:r.den} {l:List r.den} (hc:v.cells.toList=cs) (hr:cS F w r cs a) (h:vS F w r vs l):vS F w r (v::vs) (a::l)
theorem vS.length{vs:List Value}{l:List r.den}(h:vS F w r vs l):vs.length=l.length:=by
 induction h<;>grind
def vS.fill{vs:List Value}{l:List r.den}(h:vS F w r vs l):∀(k:Nat)(pre post:List Value),pre.length=k*r.size->post.length=vs.length*r.size->
 ∃xs,Instr.fill (λi=>aa (i*r.size,r.size)) (pre++post).toArray ((vs.zipIdx k).map λp=>(p.2,p.1))=aa (pre++xs).toArray/\xs.length=l.length*r.size/\∀i(hi:i<l.length),cS F w r ((xs.drop (i*r.size)).take r.size) l[i]:=by
 induction h with
 |nil=>
  intro k pre post hp hq
  have:post=[]:=(by simp_all)
  subst this;exact⟨[],by simp[Instr.fill],by simp,λi hi=>absurd hi (by simp)⟩
 | @cons v vs cs a l hc hr h ih=>
   intro k pre post hp hq;have hl:=hr.length;rw[List.length_cons,ajF,Nat.one_mul]at hq;obtain⟨xs,h1,h2,h3⟩:=ih (k+1) (pre++cs) (post.drop r.size) (by rw[List.length_append,hp,hl,ajF,Nat.one_mul]) (by grind);refine⟨cs++xs,?_,by grind,λi hi=>?_⟩
   .simp only[List.zipIdx_cons,List.map_cons];rw[yr (place:=λi=>aa (i*r.size,r.size)) rfl hc hl (by grind)];rw[<-hp,List.take_left',List.drop_append,List.drop_of_length_le (by omega),List.nil_append,show pre.length+r.size-pre.length=r.size from by omega]
    all_goals grind
   .cases i with
    |zero=>
     grind
    |succ i=>
     rw[ajF,Nat.one_mul,Nat.add_comm,<-List.drop_drop,<-hl,List.drop_left',hl]
     all_goals grind
end
end
section
open Go Go.RowKit Go.ChangeShapes Go.WideShapes Go.ChangeAt Go.Deep
def WF:(r:Row)->r.den->Prop
 | .int k,n=>k.min<=n/\n<=k.max
 | .bool,_=>True
 | .str,s=>s.size<=maxLen
 | .slice e,l=>l.length<=maxLen/\∀x∈l,WF e x
 | .lz,_=>True
 | .nul _,_=>True
 | .map ..,_=>True
 | .pair a b,x=>WF a x.1/\WF b x.2
def rz:(r:Row)->r.den->Nat
 | .int _,_=>1
 | .bool,_=>1
 | .str,s=>s.size+1
 | .slice e,l=>(l.map (rz e)).sum+1
 | .lz,_=>1
 | .nul _,_=>1
 | .map ..,_=>1
 | .pair a b,x=>rz a x.1+rz b x.2
def pg{H:Type}:(l:List (DataW H))->Rows.uptoBulkAll l=(l.map Rows.uptoBulk).sum
 |[]=>by simp[Rows.uptoBulkAll]
 |a::l=>by simp[Rows.uptoBulkAll,pg l]
def here(w:World)(b:Nat):Prop:=b<w.heap.size
def fg(P:Program)(t:TypeId)(r:Row):Prop:=
 ∀(H:Type)(enc:TypeId×Value->H)(w:World)(spare:Nat->Bool)(held:Bool)(fuel:Nat)(cs:List Value)(x:DataW H×List MemPlace),DataW.trod enc P w 0 spare held fuel t cs=aa x->
  ∃y:r.den,cS (here w) w r cs y/\WF r y/\rz r y<=Rows.uptoBulk x.1
def vu(P:Program)(fs:List Field)(r:Row)(off:Nat):Prop:=
 ∀(H:Type)(enc:TypeId×Value->H)(w:World)(spare:Nat->Bool)(held:Bool)(n:Nat)(cs:List Value)(xs:List (DataW H×List MemPlace)),xs.length=fs.length->
  (∀(i:Nat)(f:Field),fs[i]? =aa f->DataW.trod enc P w 0 spare held n f.type ((cs.drop f.offset).take (P.cellsOf f.type))=xs[i]?)->off+r.size<=cs.length->
  ∃y:r.den,cS (here w) w r ((cs.drop off).take r.size) y/\WF r y/\rz r y<=Rows.uptoBulkAll (xs.map (·.1))
section
variable {P:Program} {t e:TypeId} {r a b:Row} {k:IntKind}
def Ik(ht:P.underlying t=aa (.int k)):fg P t (.int k):=by
 intro H enc w spare held fuel cs x h;obtain⟨n,rfl,rfl,hn⟩:=DataW.trod_int ht h;exact⟨n,rfl,by simpa[Lit.wf,WF]using hn,by simp[rz,Rows.uptoBulk]⟩
def yt(ht:P.underlying t=aa .string):fg P t .str:=by
 intro H enc w spare held fuel cs x h;obtain⟨s,rfl,rfl,hs⟩:=DataW.trod_string ht h;exact⟨s,rfl,hs,Nat.le_of_eq rfl⟩
def pF{α:Type}{p:Nat->α->Prop}:(n:Nat)->(∀i,i<n->∃x,p i x)->∃l:List α,l.length=n/\∀i(h:i<l.length),p i l[i]
 |0,_=>(by simp_all)
 |n+1,h=>by
  obtain⟨l,hl,hp⟩:=pF n λi hi=>h i (by omega)
  obtain⟨x,hx⟩:=h n (by omega);refine⟨l++[x],by simp[hl],λi hi=>?_⟩
  grind
def fh(ht:P.underlying t=aa (.slice e))(hs:P.cellsOf e=r.size)(he:fg P e r):fg P t (.slice r):=by
 intro H enc w spare held fuel cs x h
 rcases open_slice ht h with⟨rfl,rfl⟩|⟨ad,len,cap,m,n,D,Pl,rfl,_,hl,hm,Rz,rfl,hi⟩
 .exact⟨[],cS.nil _ _ _,⟨by simp[maxLen],λx hx=>absurd hx (by simp)⟩,by simp[rz,Rows.uptoBulk]⟩
 .have hlm:len<=m:=by rw[Rz];split<;>omega
  have key:∀i,i<len->∃y:r.den,∃u0,(u0.length=r.size/\(∀j,j<r.size->w.cell? ((ad.add (i*r.size)).add j)=u0[j]?))/\cS (here w) w r u0 y/\WF r y/\rz r y<=Rows.uptoBulk (D i):=by
   intro i kF;obtain⟨u0,hc,htr⟩:=hi i (by omega);rw[hs]at hc;obtain⟨_,yu,BF⟩:=World.cells?_some hc;obtain⟨y,h1,h2,h3⟩:=he H enc w spare held n u0 _ htr;exact(by grind)
  obtain⟨l,RA,hp⟩:=pF len key;subst RA;have pw:=r.size_pos;refine⟨l,⟨aa ad,cap,rfl,hl,hm,λi hi=>?_⟩,⟨by omega,λx hx=>?_⟩,?_⟩
  .obtain⟨u0,⟨yu,BF⟩,hr,_,_⟩:=hp i hi;obtain⟨Xt,⟨xP,xL⟩,_⟩:=hp 0 (by omega);have h0:=xL 0 pw;rw[aiE (by omega)]at h0;simp only[Nat.zero_mul,Addr.add,if_true]at h0
   have u7:ad.spot=ae:=by
    cases u7:ad.spot with
    |none=>rfl
    |some q=>
     unfold World.cell? at h0
     grind
   obtain⟨bb,off,sp⟩:=ad;simp only at u7;subst u7;refine⟨bb,off,u0,rfl,block_lt_of_cell h0,yu,λj u hu=>?_,hr⟩
   grind [di]
  .grind [aiV]
  .simp only[rz,Rows.uptoBulk,pg]
   have:∀(n:Nat),n<=l.length->((l.take n).map (rz r)).sum<=(((aiM n).map D).map Rows.uptoBulk).sum:=by
    intro n hn
    induction n with
    |zero=>simp
    |succ n ih=>
     have h1:=ih (by omega);obtain⟨_,_,_,_,h3⟩:=hp n (by omega)
     grind [List.take_succ_eq_append_getElem,List.range_succ]
   grind
def dK{f:Field}{off:Nat}(ho:f.offset=off)(hc:P.cellsOf f.type=r.size)(he:fg P f.type r):vu P [f] r off:=by
 intro H enc w spare held n cs xs hl hx _;subst ho
 match xs,hl with
 |[x],_=>
  have h:=hx 0 f rfl;rw[hc]at h;obtain⟨y,h1,h2,h3⟩:=he H enc w spare held n _ x h
  grind [Rows.uptoBulkAll]
def bx{f:Field}{fs:List Field}{off:Nat}(ho:f.offset=off)(hc:P.cellsOf f.type=a.size)(he:fg P f.type a)(hr:vu P fs b (off+a.size)):vu P (f::fs) (.pair a b) off:=by
 intro H enc w spare held n cs xs hl hx hle;subst ho
 match xs,hl with
 |x::xs,hl=>
  have h:=hx 0 f rfl;rw[hc]at h;obtain⟨y,h1,h2,h3⟩:=he H enc w spare held n _ x h;simp only[Row.size]at hle;obtain⟨z,g1,g2,g3⟩:=hr H enc w spare held n cs xs (by simpa using hl) (λi f' hf=>by simpa using hx (i+1) f' (by simpa using hf)) (by omega);refine⟨(y,z),⟨_,_,?_,h1,g1⟩,⟨h2,g2⟩,by grind [rz,Rows.uptoBulkAll]⟩
  grind [Row.size,List.drop_drop]
def du{fs:Array Field}(ht:P.underlying t=aa (.struct fs))(hc:P.cellsOf t=r.size)(h:vu P fs.toList r 0):fg P t r:=by
 intro H enc w spare held fuel cs x hx;obtain⟨xs,n,_,rfl,hlen,If,hf⟩:=DataW.trod_struct ht hx;rw[hc]at hlen;obtain⟨y,h1,h2,h3⟩:=h H enc w spare held n cs xs (by simpa using If) (by grind) (by omega)
 grind [Rows.uptoBulk]
variable {H:Type} {enc:TypeId×Value->H} {w:World} {base:Nat} {spare:Nat->Bool} {held:Bool} {v:Value} {d:DataW H} {ps:List MemPlace}
def OC(ht:P.underlying t=aa (.int k))(hv:Value.okWide P w .any base t v)(h:DataW.Trod enc P w 0 spare held t v d ps):∃n:Int,v= .int k n/\WF (.int k) n/\rz (.int k) n<=Rows.uptoBulk d:=by
 obtain⟨x,rfl,rfl,rfl,wx⟩:=open_int ht hv h;exact⟨x,rfl,by simpa[Lit.wf,WF]using wx,by simp[rz,Rows.uptoBulk]⟩
def vT{fs:Array Field}(ht:P.underlying t=aa (.struct fs))(ho:fg P t r)(hv:Value.okWide P w .any base t v)(h:DataW.Trod enc P w 0 spare held t v d ps):
 ∃(es:List Value)(x:r.den),v= .agg es.toArray/\cS (here w) w r es x/\WF r x/\rz r x<=Rows.uptoBulk d:=by
 obtain⟨cs,rfl,_⟩:=okWide_struct ht hv;obtain⟨fuel,hf⟩:=h;obtain⟨x,h1,h2,h3⟩:=ho H enc w spare held fuel _ _ hf;exact⟨cs.toList,x,by simp,by simpa[Value.cells]using h1,h2,h3⟩
def rf(hl:laidOutB P=af){W W':World}(hb:Below W.heap.size W W'){sp:Nat->Bool}:(ts:List TypeId)->(vs:List Value)->(ds:List (DataW H))->(ps:List MemPlace)->
 (∀t∈ts,(P.readableRec t&&aja t P.types.size)=af)->DataW.TrodAll enc P W 0 (λ_=>af) af ts vs ds ps->(∀x∈ps,x.block<W.heap.size)->(∀x∈ps,sp x.block=af)->DataW.TrodAll enc P W' 0 sp af ts vs ds ps
 |[],[],[],_,_,h,_,_=>h
 |t::ts,v::vs,d::ds,ps,hr,h,aH,u7=>by
  obtain⟨p,q,h1,h2,rfl⟩:=h;have ht:=hr t (by simp);simp only[ajB,Nat.blt_eq]at ht
  exact⟨p,q,WideElems.Trod_stays hl ht.1 ht.2 h1 (λx hx=>hb.same (aH x (by simp[hx]))) (λx hx=>u7 x (by simp[hx])),
   rf hl hb ts vs ds q (λt ht=>hr t (by simp[ht])) h2 (λx hx=>aH x (by simp[hx])) (λx hx=>u7 x (by simp[hx])),rfl⟩
def xQ{f:Func}{s:ChangeSpec}{apart fresh handsOn again:Bool}{W W':World}{args:Array Value}{v:Value}{ds gs:List (DataW H)}{before pa pv:List MemPlace}
 (hW:DataW.Whole enc P f.params.toList s.vars apart W args.toList ds gs before)
 (BG:∀(b:Nat)(sp:Nat->Bool)(hd:Bool),DataW.TrodAll enc P W' b sp hd f.resultTypes.toList (v.resultList f.resultTypes.size) (s.fn H (ds++gs)).results [])
 (Gx:∀sp:Nat->Bool,(∀p∈before,sp p.block=af)->DataW.TrodAll enc P W' 0 sp af f.params.toList args.toList (s.fn H (ds++gs)).args pa)
 (QH:∀sp:Nat->Bool,(∀p∈before,sp p.block=af)->DataW.TrodVars enc P W' sp s.vars (s.fn H (ds++gs)).vars pv)
 (hps:before=pa++pv)(hb:Below W.heap.size W W')
 (np:∀(j:Nat)(t:TypeId)(r:Value),f.resultTypes[j]? =aa t->(v.resultList f.resultTypes.size)[j]? =aa r->Value.okWide P W' .any 0 t r):
 s.post enc P f apart fresh handsOn again W args v W':=by
 have aH:∀p∈before,p.block<W.heap.size:=λp hp=>hW.lt p hp
 have hold:∀p∈before,(λb=>decide (b<W.heap.size)) p.block=af:=λp hp=>by grind
 refine⟨ds,gs,before,[],pa,pv,hW,BG _ _ _,Gx _ hold,QH _ hold,World.keptBut_mono (λp hp=>⟨hp,?_⟩) (hb.frame (· ∈before)),λ_=>?_⟩
 .grind
 .obtain⟨_,_,_,_,_,hz,hn⟩:=hW;refine⟨np,_,_,([]++pa)++pv,⟨[]++pa,pv,trodAll_append (Gx _ (λ_ _=>rfl)) (BG _ _ _),QH _ (λ_ _=>rfl),rfl,?_,?_⟩,?_⟩
  .intro b off hp
   have cL:MemPlace.cell b off∈before:=by rw[hps];simpa using hp
   rw[hb.frozen (aH _ cL)];exact hz b off cL
  all_goals grind
end
end
section
def gI{α:Type}(l:List α)(a b:Int):Option (List α):=if 0<=a/\a<=b/\b<=l.length then aa ((l.take b.toNat).drop a.toNat)else ae
variable {F:Nat->Prop} {w:World} {r:Row}
def cS.cut{A:Option Addr}{cap:Nat}{l:List r.den}{a b:Nat}(h:cS F w (.slice r) [.slice A l.length cap] l)(h1:a<=b)(h2:b<=l.length):
 cS F w (.slice r) [sliced A a b cap r.size] ((l.take b).drop a):=by
 obtain⟨A',K0,hv,hc,hm,hs⟩:=h;simp only[ajt,ajS,and_true,true_and]at hv;obtain⟨rfl,rfl⟩:=hv
 have hlen:((l.take b).drop a).length=b-a:=by simp;omega
 refine⟨_,cap-a,by rw[hlen];rfl,by omega,by omega,λi hi=>?_⟩
 have kF:a+i<l.length:=by omega
 grind [di]
section
variable {P:Program} {n:Nat} {ops:Array Oper} {K:(Nat->Value)->World->Prop} {rest:List Oper} {ρ:Nat->Value}
variable {d:Nat} {ty:TypeId} {pos:String} {aft:Array Edge} {x y z:Operand} {t e:TypeId}
def OD{t e:TypeId}(ht:P.underlying t=aa (.slice e)):P.underlying t=aa (.slice (P.elem t)):=by
 simp[Program.elem,ht]
inductive RB(ρ:Nat->Value):Option Operand->Option Int->Prop
 |none:RB ρ ae ae
 |some {x:Operand} {k:IntKind} {i:Int} (h:ev ρ x= .int k i):RB ρ (aa x) (aa i)
def vv{ti:TypeInfo}{A:Option Addr}{len cap:Nat}{lo hi:Option Operand}{a b:Option Int}(ht:P.underlying t=aa (.slice e))(kF:P.info? e=aa ti)(hx:ev ρ x= .slice A len cap)
 (ha:RB ρ lo a)(hb:RB ρ hi b)(h0:0<=a.getD 0)(h1:a.getD 0<=b.getD len)(h2:b.getD len<=len)(hc:len<=cap):
 (execOp (ev ρ) ⟨aa d, .slice t x lo hi ae,ty,pos,aft,ae⟩).run P w= .ok (.value (sliced A (a.getD 0).toNat (b.getD len).toNat cap ti.size)) w:=by
 have QI:=OD ht
 have he:P.elem t=e:=by simp[Program.elem,ht]
 cases ha with
 |none=>
  cases hb with
  |none=>
   have:=run_slice_all (P:=P) (w:=w) t A len cap QI;simp[execOp,hx,run_sliceAt_slice (P:=P) w t _ _ _ _ QI,this,he,sizeOf,typeInfo,kF]
  |some hh=>
   rename_i xb kb ib;have:=run_slice_h (P:=P) (w:=w) t A len cap QI kb ib (by simpa using h1) (by grind);simp[execOp,hx,hh,run_sliceAt_slice (P:=P) w t _ _ _ _ QI,this,he,sizeOf,typeInfo,kF]
 |some hl=>
  rename_i xa ka ia
  cases hb with
  |none=>
   have:=run_slice_l (P:=P) (w:=w) t A len cap QI ka ia (by simpa using h0) (by simpa using h1);simp[execOp,hx,hl,run_sliceAt_slice (P:=P) w t _ _ _ _ QI,this,he,sizeOf,typeInfo,kF]
  |some hh=>
   rename_i xb kb ib;have:=run_slice_lh (P:=P) (w:=w) t A len cap QI ka kb ia ib (by simpa using h0) (by simpa using h1) (by grind);simp[execOp,hx,hl,hh,run_sliceAt_slice (P:=P) w t _ _ _ _ QI,this,he,sizeOf,typeInfo,kF]
def tl{α:Type}{l m:List α}{a b:Int}(h:gI l a b=aa m):∃p q:Nat,a=p/\b=q/\p<=q/\q<=l.length/\m=(l.take q).drop p:=by
 grind [gI]
end
end
abbrev ph:Row:= .int .i64
def Gy:List (Nat×((r:Row)×r.den)):=[(2,⟨.pair ph (.pair ph (.pair ph (.pair ph (.pair ph (.pair ph (.pair ph (.pair ph (.pair ph (.pair ph (.pair ph ph)))))))))),(31,28,31,30,31,30,31,31,30,31,30,31)⟩)]
section
inductive DR where
 |leaf (r:Row)
 |sl (T:TypeId) (d:DR)
 |pair (a b:DR)
@[reducible] def DR.row:DR->Row
  | .leaf r=>r
  | .sl _ d=> .slice d.row
  | .pair a b=> .pair a.row b.row
@[reducible] def DR.low:DR->Row
  | .leaf r=>r
  | .sl _ _=> .lz
  | .pair a b=> .pair a.low b.low
theorem DR.size:(d:DR)->d.low.size=d.row.size
 | .leaf _=>rfl
 | .sl _ _=>rfl
 | .pair a b=>by show a.low.size+b.low.size=a.row.size+b.row.size;rw[a.size,b.size]
inductive gu:DR->DR->Type where
 |here {d:DR}:gu d d
 |fst {a b e:DR} (p:gu a e):gu (.pair a b) e
 |snd {a b e:DR} (p:gu b e):gu (.pair a b) e
def gu.lo:{d e:DR}->gu d e->Path d.low e.low
 |_,_, .here=> .here
 |_,_, .fst p=> .fst p.lo
 |_,_, .snd p=> .snd p.lo
def gu.hi:{d e:DR}->gu d e->Path d.row e.row
 |_,_, .here=> .here
 |_,_, .fst p=> .fst p.hi
 |_,_, .snd p=> .snd p.hi
def DR.path:(d:DR)->List Bool->Option ((e:DR)×gu d e)
 |d,[]=>aa ⟨d, .here⟩
 | .pair a b,c::p=>match c with
   |false=>match a.path p with
    |some ⟨e,q⟩=>aa ⟨e, .fst q⟩
    |none=>ae
   |true=>match b.path p with
    |some ⟨e,q⟩=>aa ⟨e, .snd q⟩
    |none=>ae
 |_,_::_=>ae
def mC(F:Nat->Prop)(w:World)(T:TypeId)(r:Row)(v:Value)(l:List r.den):Prop:=
 ∃xs,nr w 0 T r.size v l.length xs/\∀i(h:i<l.length),cS F w r ((xs.drop (i*r.size)).take r.size) l[i]
structure od(Ss:Nat->Nat->Prop)(n:Nat)(m:Nat->Prop)(S:Nat->Prop):Prop where
 all:∀k,S k↔m k\/∃i,i<n/\Ss i k
 two:∀i j k,i<n->j<n->i≠j->Ss i k->¬Ss j k
 out:∀i k,i<n->Ss i k->¬m k
structure La(A B S:Nat->Prop):Prop where
 all:∀k,S k↔A k\/B k
 off:∀k,A k->¬B k
def Il{α:Type}(F:Nat->Prop)(w:World)(T:TypeId)(r:Row)(rel:Nat->r.den->α->(Nat->Prop)->Prop)(u:Value)(l:List α)(S:Nat->Prop):Prop:=
 ∃(lh:List r.den)(Ss:Nat->Nat->Prop),mC F w T r u lh/\lh.length=l.length/\(∀i(h1:i<lh.length)(h2:i<l.length),rel i lh[i] l[i] (Ss i))/\od Ss l.length (bU u) S
def kI(F:Nat->Prop)(w:World):(d:DR)->d.low.den->d.row.den->(Nat->Prop)->Prop
 | .leaf _,x',x,S=>x'=x/\∀k,¬S k
 | .sl T d,u,l,S=>Il F w T d.low (λ_=>kI F w d) u l S
 | .pair a b,x',x,S=>∃A B,kI F w a x'.1 x.1 A/\kI F w b x'.2 x.2 B/\La A B S
def nN(F:Nat->Prop)(w:World):{d e:DR}->gu d e->d.low.den->d.row.den->(Nat->Prop)->Prop
 |_,_, .here,_,_,S=>∀k,¬S k
 |_,_, .fst (b:=b) p,x',x,S=>∃A B,nN F w p x'.1 x.1 A/\kI F w b x'.2 x.2 B/\La A B S
 |_,_, .snd (a:=a) p,x',x,S=>∃A B,kI F w a x'.1 x.1 A/\nN F w p x'.2 x.2 B/\La A B S
section
variable {F F':Nat->Prop} {w w':World} {T:TypeId} {S:Nat->Prop}
theorem mC.keep{r:Row}{v:Value}{l:List r.den}(h:mC F w T r v l)(hs:Step F w F' w')(hb:∀k,bU v k->w'.heap[k]? =w.heap[k]?):mC F' w' T r v l:=by
 obtain⟨xs,⟨Bx,Gz⟩,h3⟩:=h;refine⟨xs,⟨Bx,?_⟩,λi hi=>(h3 i hi).step hs⟩
 rcases Gz with h2|⟨gg,o0,cap,cur,rfl,tj,hg,rest⟩
 .exact .inl h2
 .exact .inr ⟨gg,o0,cap,cur,rfl,tj,(hb gg rfl).trans hg,rest⟩
def mC.lt{r:Row}{v:Value}{l:List r.den}(h:mC F w T r v l):∀k,bU v k->k<w.heap.size:=by
 obtain⟨xs,h,_⟩:=h
 exact λk hk=>(h.lt k hk).2
def mC.one{r:Row}{v:Value}{l:List r.den}(h:mC F w T r v l):v.oneCell'=af:=by
 obtain⟨xs,⟨_,h⟩,_⟩:=h
 rcases h with⟨rfl,_⟩|⟨gg,o0,cap,cur,rfl,_⟩<;>rfl
theorem mC.nil(F:Nat->Prop)(w:World)(T:TypeId)(r:Row):mC F w T r (.slice ae 0 0) []:=(mw.nil 0 F w T r).2
def La.left{A B:Nat->Prop}(h:La A B S):∀k,A k->S k:=λk hk=>(h.all k).2 (.inl hk)
def La.right{A B:Nat->Prop}(h:La A B S):∀k,B k->S k:=λk hk=>(h.all k).2 (.inr hk)
def od.bU{Ss:Nat->Nat->Prop}{n:Nat}{m:Nat->Prop}(h:od Ss n m S):∀k,m k->S k:=λk hk=>(h.all k).2 (.inl hk)
def od.part{Ss:Nat->Nat->Prop}{n:Nat}{m:Nat->Prop}(h:od Ss n m S){i:Nat}(hi:i<n):∀k,Ss i k->S k:=λk hk=>(h.all k).2 (.inr ⟨i,hi,hk⟩)
def Il.mono{α:Type}{r:Row}{rel UF:Nat->r.den->α->(Nat->Prop)->Prop}{u:Value}{l:List α}(h:Il F w T r rel u l S)(hs:Step F w F' w')(hb:∀k,S k->w'.heap[k]? =w.heap[k]?)
 (hr:∀i x'(hi:i<l.length)A,(∀k,A k->S k)->rel i x' l[i] A->UF i x' l[i] A):Il F' w' T r UF u l S:=by
 obtain⟨lh,Ss,h1,h2,h3,h4⟩:=h;exact⟨lh,Ss,h1.keep hs λk hk=>hb k (h4.bU k hk),h2,λi a b=>hr i _ b _ (h4.part b) (h3 i a b),h4⟩
theorem kI.keep(hs:Step F w F' w'):{d:DR}->{x':d.low.den}->{x:d.row.den}->{S:Nat->Prop}->kI F w d x' x S->(∀k,S k->w'.heap[k]? =w.heap[k]?)->kI F' w' d x' x S
 | .leaf _,_,_,_,h,_=>h
 | .sl T d,u,l,S,h,hb=>Il.mono (show Il F w T d.low _ u l S from h) hs hb λi x' hi A hA hr=>kI.keep hs hr λk hk=>hb k (hA k hk)
 | .pair a b,_,_,_,h,hb=>by
   obtain⟨A,B,h1,h2,h3⟩:=h;exact⟨A,B,h1.keep hs λk hk=>hb k (h3.left k hk),h2.keep hs λk hk=>hb k (h3.right k hk),h3⟩
theorem nN.keep(hs:Step F w F' w'):{d e:DR}->{p:gu d e}->{x':d.low.den}->{x:d.row.den}->{S:Nat->Prop}->nN F w p x' x S->(∀k,S k->w'.heap[k]? =w.heap[k]?)->nN F' w' p x' x S
 |_,_, .here,_,_,_,h,_=>h
 |_,_, .fst p,_,_,_,h,hb=>by
  obtain⟨A,B,h1,h2,h3⟩:=h;exact⟨A,B,nN.keep hs h1 λk hk=>hb k (h3.left k hk),h2.keep hs λk hk=>hb k (h3.right k hk),h3⟩
 |_,_, .snd p,_,_,_,h,hb=>by
  obtain⟨A,B,h1,h2,h3⟩:=h;exact⟨A,B,h1.keep hs λk hk=>hb k (h3.left k hk),nN.keep hs h2 λk hk=>hb k (h3.right k hk),h3⟩
def kI.lt:{d:DR}->{x':d.low.den}->{x:d.row.den}->{S:Nat->Prop}->kI F w d x' x S->∀k,S k->k<w.heap.size
 | .leaf _,_,_,_,h,k,hk=>absurd hk (h.2 k)
 | .sl T d,u,l,S,h,k,hk=>by
   obtain⟨lh,Ss,h1,h2,h3,h4⟩:=h
   rcases(h4.all k).1 hk with hm|⟨i,hi,hm⟩
   .exact h1.lt k hm
   .exact kI.lt (h3 i (by omega) hi) k hm
 | .pair a b,_,_,_,h,k,hk=>by
   obtain⟨A,B,h1,h2,h3⟩:=h
   rcases(h3.all k).1 hk with hm|hm
   .exact kI.lt h1 k hm
   .exact kI.lt h2 k hm
def kI.freeze:{d:DR}->{cs:List Value}->{x':d.low.den}->{x:d.row.den}->{S:Nat->Prop}->kI F w d x' x S->(∀k,S k->¬F k)->cS F w d.low cs x'->cS (λb=>F b\/S b) w d.row cs x
 | .leaf _,_,_,_,S,h,_,hr=>by
   obtain⟨rfl,_⟩:=h
   simp_all
 | .sl T d,cs,u,l,S,h,hn,hr=>by
   obtain⟨lh,Ss,⟨xs,hx,QJ⟩,h2,h3,h4⟩:=h;obtain⟨rfl,_⟩:=hr
   have Ev:mw 0 (λb=>F b\/∃i,i<l.length/\Ss i b) w T d.row u l:=by
    refine⟨λk hk hF=>?_,xs,?_,λi hi=>?_⟩
    .rcases hF with hF|⟨i,hi,hm⟩
     .exact hn k (h4.bU k hk) hF
     .exact h4.out i k hi hm hk
    .rw[<-d.size,<-h2];exact hx
    .have kF:i<lh.length:=by omega
     have:=kI.freeze (h3 i kF hi) (λk hk=>hn k (h4.part hi k hk)) (QJ i kF);rw[<-d.size]
     exact this.step λb hb=>(by grind)
   exact Ev.freeze.step (r:= .slice d.row) λb hb=>⟨by
    rcases hb with(hb|⟨i,hi,hb⟩)|hb
    .exact .inl hb
    .exact .inr (h4.part hi b hb)
    .exact .inr (h4.bU b hb),rfl⟩
 | .pair a b,_,_,_,S,h,hn,hr=>by
   obtain⟨A,B,h1,h2,h3⟩:=h;obtain⟨c1,c2,rfl,r1,r2⟩:=hr;exact⟨c1,c2,rfl,(kI.freeze h1 (λk hk=>hn k (h3.left k hk)) r1).step λb hb=>⟨hb.imp id (h3.left b),rfl⟩,(kI.freeze h2 (λk hk=>hn k (h3.right k hk)) r2).step λb hb=>⟨hb.imp id (h3.right b),rfl⟩⟩
def kI.out:{d e:DR}->(p:gu d e)->{x':d.low.den}->{x:d.row.den}->{S:Nat->Prop}->kI F w d x' x S->∃A B,kI F w e (p.lo.get x') (p.hi.get x) A/\nN F w p x' x B/\La A B S
 |_,_, .here,_,_,S,h=>⟨S,λ_=>False,h,λ_ h=>h,⟨λk=>by simp,λ_ _ h=>h⟩⟩
 |_,_, .fst p,_,_,S,h=>by
  obtain⟨A,B,h1,h2,h3⟩:=h;obtain⟨A1,A2,g1,g2,g3⟩:=kI.out p h1;refine⟨A1,λk=>A2 k\/B k,g1,⟨A2,B,g2,h2,λk=>Iff.rfl,λk hk=>h3.off k (g3.right k hk)⟩,λk=>?_,λk hk hh=>?_⟩
  .rw[h3.all,g3.all,or_assoc]
  .exact hh.elim (g3.off k hk) (h3.off k (g3.left k hk))
 |_,_, .snd p,_,_,S,h=>by
  obtain⟨A,B,h1,h2,h3⟩:=h;obtain⟨B1,B2,g1,g2,g3⟩:=kI.out p h2;refine⟨B1,λk=>A k\/B2 k,g1,⟨A,B2,h1,g2,λk=>Iff.rfl,λk hk hh=>h3.off k hk (g3.right k hh)⟩,λk=>?_,λk hk hh=>?_⟩
  .rw[h3.all,g3.all];grind
  .exact hh.elim (λhh=>h3.off k hh (g3.left k hk)) (g3.off k hk)
def nN.put:{d e:DR}->(p:gu d e)->{x':d.low.den}->{x:d.row.den}->{y':e.low.den}->{y:e.row.den}->{A B S:Nat->Prop}->nN F w p x' x B->kI F w e y' y A->La A B S->kI F w d (p.lo.set x' y') (p.hi.set x y) S
 |_,_, .here,_,_,y',y,A,B,S,h,hy,h3=>by
  have:A=S:=by
   funext k;exact propext ⟨λhk=>h3.left k hk,λhk=>((h3.all k).1 hk).elim id λhb=>absurd hb (h k)⟩
  subst this;exact hy
 |_,_, .fst p,x',x,y',y,A,B,S,h,hy,h3=>by
  obtain⟨A2,B2,g1,g2,g3⟩:=h
  have t1:La A A2 (λk=>A k\/A2 k):=⟨λ_=>Iff.rfl,λk hk h2=>h3.off k hk (g3.left k h2)⟩
  refine⟨λk=>A k\/A2 k,B2,nN.put p g1 hy t1,g2,λk=>?_,λk hk h2=>?_⟩
  .rw[h3.all,g3.all,or_assoc]
  .exact hk.elim (λhk=>h3.off k hk (g3.right k h2)) λhk=>g3.off k hk h2
 |_,_, .snd p,x',x,y',y,A,B,S,h,hy,h3=>by
  obtain⟨A2,B2,g1,g2,g3⟩:=h
  have t1:La A B2 (λk=>A k\/B2 k):=⟨λ_=>Iff.rfl,λk hk h2=>h3.off k hk (g3.right k h2)⟩
  refine⟨A2,λk=>A k\/B2 k,g1,nN.put p g2 hy t1,λk=>?_,λk hk h2=>?_⟩
  .rw[h3.all,g3.all];grind
  .exact h2.elim (λh2=>h3.off k h2 (g3.left k hk)) λh2=>g3.off k hk h2
end
end
section
inductive Tree where
 |leaf (r:Row) (x:r.den)
 |own (o:Nat)
 |nil
 |pair (a b:Tree)
 |view (o s:Nat) (r:Row) (m:List r.den)
 |junk (n:Nat)
structure vU where
 i:Int
 p:List Bool
 o:Nat
 s:Nat
inductive Th where
 |box (T:TypeId) (t:Tree)
 |own (T:TypeId) (r:Row) (l:List r.den)
 |u9 (T:TypeId) (r:Row) (l:List r.den)
 |map (T:TypeId) (K:Row) (agg:Bool) (V:Row) (l:List (K.den×V.den))
 |fmap (T:TypeId) (K:Row) (agg:Bool) (V:Row) (l:List (K.den×V.den))
 |deep (T:TypeId) (d:DR) (l:List d.row.den) (h:Option vU)
 |fdeep (T:TypeId) (d:DR) (l:List d.row.den)
 |smap (T:TypeId) (K:Row) (agg:Bool) (V:Row) (l:List (K.den×V.den)) (it:Option (Nat×List (K.den×V.den)×Option (K.den×V.den)))
def Th.base:Th->Th
 | .u9 T r l=> .own T r l
 | .fmap T K agg V l=> .map T K agg V l
 | .fdeep T d l=> .deep T d l ae
 |t=>t
inductive aF where
 |dead
 |undef
 |val (agg:Bool) (t:Tree)
 |ptr (o:Nat) (p:List Bool) (off:Nat)
 |at (r:Row) (x:r.den)
 |elem (o s:Nat) (r:Row) (i:Int) (x:r.den) (p:List Bool) (off:Nat)
 |tup (ds:List (Bool×Tree))
 |dlm (o:Nat) (d:DR) (i:Int) (p:List Bool) (off:Nat)
 |fn (f:FuncId) (caps:List (Nat×List Bool×Nat))
 |ifc (T:TypeId) (d:aF)
structure aK where
 val:Nat->Option Value
 con:Nat->Option Th
 sub:Nat->Nat->Prop
structure aK.le(H H':aK):Prop where
 val:∀o v,H.val o=aa v->H'.val o=aa v
 con:∀s t,H.con s=aa t->H'.con s=aa t
 sub:∀s t,H.con s=aa t->H'.sub s=H.sub s
def aK.le.refl(H:aK):H.le H:=⟨λ_ _ h=>h,λ_ _ h=>h,λ_ _ _=>rfl⟩
def aK.le.trans{H H' va:aK}(h:H.le H')(k:H'.le va):H.le va:=⟨λo v e=>k.val o v (h.val o v e),λo v e=>k.con o v (h.con o v e),λs t e=>(k.sub s t (h.con s t e)).trans (h.sub s t e)⟩
def mj(H:aK)(o s:Nat)(r:Row)(m:List r.den)(v:Value):Prop:=
 ∃A cap T,∃l:List r.den,∃a b,H.val o=aa (.slice A l.length cap)/\H.con s=aa (.own T r l)/\a<=b/\b<=l.length/\m=(l.take b).drop a/\v=sliced A a b cap r.size
theorem mj.keep{H H':aK}(hH:H.le H'){o s:Nat}{r:Row}{m:List r.den}{v:Value}(h:mj H o s r m v):mj H' o s r m v:=by
 obtain⟨A,cap,T,l,a,b,h1,h2,h3⟩:=h;exact⟨A,cap,T,l,a,b,hH.val _ _ h1,hH.con _ _ h2,h3⟩
def mj.back{H H' va:aK}(hH:H.le H')(Ew:H.le va){o s:Nat}{r:Row}{m:List r.den}{v0 v:Value}(h0:mj H o s r m v0)(h:mj H' o s r m v):mj va o s r m v:=by
 obtain⟨A,cap,T,l,a,b,h1,h2,_⟩:=h0;obtain⟨A',K0,T',l',a',b',k1,k2,k3⟩:=h;have e1:=hH.val _ _ h1;have e2:=hH.con _ _ h2;rw[k1]at e1;rw[k2]at e2;simp only[aiO,Th.own.injEq,heq_eq_eq,true_and]at e2;obtain⟨rfl,rfl⟩:=e2;exact⟨A',K0,T',l',a',b',by rw[e1];exact Ew.val _ _ h1,Ew.con _ _ h2,k3⟩
def mj.one{H:aK}{o s:Nat}{r:Row}{m:List r.den}{v:Value}(h:mj H o s r m v):v.oneCell'=af:=by
 obtain⟨A,cap,T,l,a,b,_,_,_,_,_,rfl⟩:=h;simp[sliced,ajK]
def lC(H:aK):List (Nat×List Bool×Nat)->List Value->Prop
 |[],vs=>vs=[]
 |c::cs,vs=>∃v us,vs=v::us/\(∃b,H.val c.1=aa (.pointer (aa ⟨b,0,ae⟩))/\v= .pointer (aa ⟨b,c.2.2,ae⟩))/\lC H cs us
theorem lC.keep{H H':aK}(hH:∀o v,H.val o=aa v->H'.val o=aa v):{cs:List (Nat×List Bool×Nat)}->{vs:List Value}->lC H cs vs->lC H' cs vs
 |[],_,h=>h
 |_::_,_,h=>by obtain⟨v,us,e,⟨b,h1,h2⟩,h3⟩:=h;exact⟨v,us,e,⟨b,hH _ _ h1,h2⟩,h3.keep hH⟩
def Holds(H:aK)(F:Nat->Prop)(w:World):Tree->List Value->Prop
 | .leaf r x,cs=>cS F w r cs x
 | .own o,cs=>∃v,H.val o=aa v/\v.oneCell'=af/\cs=[v]
 | .nil,cs=>cs=[.slice ae 0 0]
 | .pair a b,cs=>∃c1 c2,cs=c1++c2/\Holds H F w a c1/\Holds H F w b c2
 | .view o s r m,cs=>∃v,cs=[v]/\mj H o s r m v
 | .junk n,cs=>cs.length=n/\∀u∈cs,u.oneCell'=af
def Tree.size:Tree->Nat
 | .leaf r _=>r.size
 | .own _=>1
 | .nil=>1
 | .pair a b=>a.size+b.size
 | .view .. =>1
 | .junk n=>n
def aS(H:aK)(F:Nat->Prop)(w:World)(agg:Bool)(t:Tree)(v:Value):Prop:=
 ∃cs,Holds H F w t cs/\v=(bif agg then .agg cs.toArray else cs.headD undef)/\(agg=ah->cs=[v])
def sj(H:aK)(F:Nat->Prop)(w:World):List (Bool×Tree)->List Value->Prop
 |[],vs=>vs=[]
 |d::ds,vs=>∃v us,vs=v::us/\aS H F w d.1 d.2 v/\sj H F w ds us
def aE(H:aK)(F:Nat->Prop)(w:World):aF->Value->Prop
 | .dead,_=>True
 | .undef,v=>v=Go.undef
 | .val agg t,v=>aS H F w agg t v
 | .ptr o _ off,v=>∃b,H.val o=aa (.pointer (aa ⟨b,0,ae⟩))/\v= .pointer (aa ⟨b,off,ae⟩)
 | .at r x,v=>∃b off,v= .pointer (aa ⟨b,off,ae⟩)/\F b/\At F w r b off x
 | .elem o s r i x _ off,v=>∃g o0 q T m cap l,H.val o=aa (.slice (aa ⟨g,o0,ae⟩) m cap)/\i=(q:Nat)/\H.con s=aa (.own T r l)/\idx l i=aa x/\v= .pointer (aa ⟨g,o0+q*r.size+off,ae⟩)
 | .tup ds,v=>∃vs,v= .tuple vs.toArray/\sj H F w ds vs
 | .dlm o d i _ off,v=>∃g o0 q m cap,H.val o=aa (.slice (aa ⟨g,o0,ae⟩) m cap)/\i=(q:Nat)/\v= .pointer (aa ⟨g,o0+q*d.low.size+off,ae⟩)
 | .fn f caps,v=>∃vs,v= .func (.func f) #[] vs.toArray/\lC H caps vs
 | .ifc T d,v=>∃u,v= .iface T u/\aE H F w d u
section
variable {H H':aK} {F F':Nat->Prop} {w w':World}
theorem Holds.length:{t:Tree}->{cs:List Value}->Holds H F w t cs->cs.length=t.size
 | .leaf _ _,_,h=>cS.length h
 | .own _,_,h=>by obtain⟨v,_,_,rfl⟩:=h;rfl
 | .nil,_,h=>by rw[show _=_ from h];rfl
 | .pair a b,_,h=>by obtain⟨c1,c2,rfl,h1,h2⟩:=h;simp[h1.length,h2.length,Tree.size]
 | .view ..,_,h=>by obtain⟨v,rfl,_⟩:=h;rfl
 | .junk _,_,h=>h.1
def Holds.jR:{t:Tree}->{cs:List Value}->Holds H F w t cs->∀u∈cs,u.oneCell'=af
 | .leaf _ _,_,h=>cS.jR h
 | .own _,_,h=>by obtain⟨v,_,h1,rfl⟩:=h;simpa using h1
 | .nil,_,h=>by rw[show _=_ from h];simp[ajK]
 | .pair a b,_,h=>by
   obtain⟨c1,c2,rfl,h1,h2⟩:=h;intro u hu
   rcases aiX.1 hu with h'|h'
   .exact h1.jR u h'
   .exact h2.jR u h'
 | .view ..,_,h=>by obtain⟨v,rfl,h⟩:=h;simpa using h.one
 | .junk _,_,h=>h.2
theorem Holds.keep(hH:H.le H')(hs:Step F w F' w'):{t:Tree}->{cs:List Value}->Holds H F w t cs->Holds H' F' w' t cs
 | .leaf _ _,_,h=>cS.step hs h
 | .own _,_,h=>by obtain⟨v,h0,h1,rfl⟩:=h;exact⟨v,hH.val _ _ h0,h1,rfl⟩
 | .nil,_,h=>h
 | .pair a b,_,h=>by obtain⟨c1,c2,rfl,h1,h2⟩:=h;exact⟨c1,c2,rfl,h1.keep hH hs,h2.keep hH hs⟩
 | .view ..,_,h=>by obtain⟨v,rfl,h⟩:=h;exact⟨v,rfl,h.keep hH⟩
 | .junk _,_,h=>h
def Holds.back{va:aK}{w0:World}{F0:Nat->Prop}(hH:H.le H')(Ew:H.le va):{t:Tree}->{Xt cs:List Value}->Holds H F0 w0 t Xt->Holds H' F w t cs->Holds va F w t cs
 | .leaf _ _,_,_,_,h=>h
 | .own _,_,_,h0,h=>by
   obtain⟨v,a0,_,_⟩:=h0;obtain⟨u,b0,b1,rfl⟩:=h;have:=hH.val _ _ a0;rw[b0]at this;obtain rfl:=aiC this;exact⟨u,Ew.val _ _ a0,b1,rfl⟩
 | .nil,_,_,_,h=>h
 | .pair a b,_,_,h0,h=>by
   obtain⟨_,_,_,a1,a2⟩:=h0;obtain⟨c1,c2,rfl,h1,h2⟩:=h;exact⟨c1,c2,rfl,Holds.back (w0:=w0) (F0:=F0) hH Ew a1 h1,Holds.back (w0:=w0) (F0:=F0) hH Ew a2 h2⟩
 | .view ..,_,_,h0,h=>by
   obtain⟨_,_,h0⟩:=h0;obtain⟨v,rfl,h⟩:=h;exact⟨v,rfl,h0.back hH Ew h⟩
 | .junk _,_,_,_,h=>h
theorem aS.keep{agg:Bool}{t:Tree}{v:Value}(hH:H.le H')(hs:Step F w F' w')(h:aS H F w agg t v):aS H' F' w' agg t v:=by
 obtain⟨cs,h1,h2⟩:=h;exact⟨cs,h1.keep hH hs,h2⟩
theorem sj.keep(hH:H.le H')(hs:Step F w F' w'):{ds:List (Bool×Tree)}->{vs:List Value}->sj H F w ds vs->sj H' F' w' ds vs
 |[],_,h=>h
 |_::_,_,h=>by obtain⟨v,us,rfl,h1,h2⟩:=h;exact⟨v,us,rfl,h1.keep hH hs,h2.keep hH hs⟩
theorem At.keep{r:Row}{b off:Nat}{x:r.den}(hs:Step F w F' w')(hb:F b)(h:At F w r b off x):At F' w' r b off x:=by
 obtain⟨es,hl,hc,hr⟩:=h;exact⟨es,hl,λj u hu=>(World.cell?_of_block (hs b hb).2).trans (hc j u hu),hr.step hs⟩
theorem aE.keep(hH:H.le H')(hs:Step F w F' w'):{d:aF}->{v:Value}->aE H F w d v->aE H' F' w' d v
 | .dead,_,_=>trivial
 | .undef,_,h=>h
 | .val _ _,_,h=>aS.keep hH hs h
 | .ptr _ _ _,_,h=>by obtain⟨b,h1,h2⟩:=h;exact⟨b,hH.val _ _ h1,h2⟩
 | .at _ _,_,h=>by obtain⟨b,off,h1,h2,h3⟩:=h;exact⟨b,off,h1,(hs b h2).1,h3.keep hs h2⟩
 | .elem ..,_,h=>by obtain⟨g,o0,q,T,m,cap,l,h1,h2,h3,h4⟩:=h;exact⟨g,o0,q,T,m,cap,l,hH.val _ _ h1,h2,hH.con _ _ h3,h4⟩
 | .tup _,_,h=>by obtain⟨vs,h1,h2⟩:=h;exact⟨vs,h1,h2.keep hH hs⟩
 | .dlm ..,_,h=>by obtain⟨g,o0,q,m,cap,h1,h2,h3⟩:=h;exact⟨g,o0,q,m,cap,hH.val _ _ h1,h2,h3⟩
 | .fn ..,_,h=>by obtain⟨vs,h1,h2⟩:=h;exact⟨vs,h1,h2.keep hH.val⟩
 | .ifc _ d,_,h=>by obtain⟨u,h1,h2⟩:=h;exact⟨u,h1,aE.keep hH hs (d:=d) h2⟩
def find{α:Type}:List (Nat×α)->Nat->Option α
 |[],_=>ae
 |(m,a)::l,n=>bif aiJ m n then aa a else find l n
def del{α:Type}(ns:List Nat):List (Nat×α)->List (Nat×α)
 |[]=>[]
 |(m,a)::l=>bif ns.any (aiJ m)then del ns l else(m,a)::del ns l
theorem bd{α:Type}{m:Nat}{a:α}{l:List (Nat×α)}{n:Nat}:find ((m,a)::l) n=if m=n then aa a else find l n:=by
 show(bif aiJ m n then aa a else find l n)=_
 simp_all
def iO{α:Type}{l l':List (Nat×α)}{n:Nat}:find (l++l') n=(find l n).or (find l' n):=by
 induction l with
 |nil=>rfl
 |cons p l ih=>
  grind [bd]
theorem any_beq{ns:List Nat}{m:Nat}:ns.any (aiJ m)=af↔m∈ns:=by
 simp_all
theorem iP{α:Type}{ns:List Nat}{l:List (Nat×α)}{n:Nat}{a:α}:find (del ns l) n=aa a↔n∉ns/\find l n=aa a:=by
 induction l with
 |nil=>simp[del,find]
 |cons p l ih=>
  grind [del,any_beq,bd]
def pG(F:Nat->Prop)(w:World):Prop:=∀g d,find Gy g=aa d->F g/\At F w d.1 g 0 d.2
def pG.step{F F':Nat->Prop}{w w':World}(h:pG F w)(hs:Step F w F' w'):pG F' w':=λg d hg=>⟨(hs g (h g d hg).1).1,(h g d hg).2.keep hs (h g d hg).1⟩
def gq(H:aK)(F:Nat->Prop)(w:World)(K:Row)(agg:Bool)(V:Row):List MapEntry->List (K.den×V.den)->Prop
 |[],l=>l=[]
 |e::es,l=>∃k x l',l=(k,x)::l'/\kK K k=aa e.key/\aS H F w agg (.leaf V x) e.val/\gq H F w K agg V es l'
theorem gq.keep{H H':aK}{F F':Nat->Prop}{w w':World}(hH:H.le H')(hs:Step F w F' w'){K:Row}{agg:Bool}{V:Row}:{es:List MapEntry}->{l:List (K.den×V.den)}->gq H F w K agg V es l->gq H' F' w' K agg V es l
 |[],_,h=>h
 |_::_,_,h=>by obtain⟨k,x,l',e,h1,h2,h3⟩:=h;exact⟨k,x,l',e,h1,h2.keep hH hs,gq.keep hH hs h3⟩
def gq.gN{H H':aK}{F:Nat->Prop}{w:World}{K:Row}{agg:Bool}{V:Row}:{es:List MapEntry}->{l:List (K.den×V.den)}->gq H F w K agg V es l->gq H' F w K agg V es l
 |[],_,h=>h
 |_::_,_,h=>by
  obtain⟨k,x,l',e,h1,⟨cs,h2,Im⟩,h3⟩:=h;exact⟨k,x,l',e,h1,⟨cs,h2,Im⟩,gq.gN h3⟩
noncomputable def eT:(K:Row)->K.den->K.den->Bool
 | .int _,a,b=>decide ((a:Int)=b)
 | .bool,a,b=>decide ((a:Bool)=b)
 | .str,a,b=>decide ((a:ByteArray)=b)
 | .pair (.int _) (.int _),a,b=>decide ((a.1:Int)=b.1/\(a.2:Int)=b.2)
 |_,_,_=>ah
def Ey(H:aK)(F:Nat->Prop)(w:World)(S:Nat->Prop)(K:Row)(agg:Bool)(V:Row)(b:Nat)(es:Array MapEntry)(clock:Nat):Option (Nat×List (K.den×V.den)×Option (K.den×V.den))->Prop
 |none=>True
 |some (n,left,cur)=>∃r since seen last,S r/\r≠b/\H.val n=aa (.pointer (aa ⟨r,0,ae⟩))/\w.heap[r]? =aa (.mapIter (aa b) since seen last)/\(∀x∈es.toList,x.born<since)/\since<=last/\since<=clock/\
   (∃l2,gq H F w K agg V (leftOf es seen).toList l2/\l2.Perm left)/\∀p,cur=aa p->last=clock/\∃e∈es.toList,(∃s0:Array Nat,seen=s0.push e.born)/\kK K p.1=aa e.key/\aS H F w agg (.leaf V p.2) e.val
theorem Ey.keep{H H':aK}{F F':Nat->Prop}{w w':World}{S:Nat->Prop}{K:Row}{agg:Bool}{V:Row}{b:Nat}{es:Array MapEntry}{clock:Nat}{it:Option (Nat×List (K.den×V.den)×Option (K.den×V.den))}
 (hH:H.le H')(hs:Step F w F' w')(hb:∀k,S k->w'.heap[k]? =w.heap[k]?)(h:Ey H F w S K agg V b es clock it):Ey H' F' w' S K agg V b es clock it:=by
 match it,h with
 |none,_=>trivial
 |some (n,left,cur),⟨r,since,seen,last,h1,h2,h3,h4,h5,h6,Yj,⟨l2,h7,h8⟩,h9⟩=>
  exact⟨r,since,seen,last,h1,h2,hH.val _ _ h3,(hb r h1).trans h4,h5,h6,Yj,⟨l2,h7.keep hH hs,h8⟩,λp hp=>by
   obtain⟨g1,e,g2,g3,g4,g5⟩:=h9 p hp
   exact⟨g1,e,g2,g3,g4,g5.keep hH hs⟩⟩
def Ey.gN{H H':aK}{F:Nat->Prop}{w:World}{S:Nat->Prop}{K:Row}{agg:Bool}{V:Row}{b:Nat}{es:Array MapEntry}{clock:Nat}{it:Option (Nat×List (K.den×V.den)×Option (K.den×V.den))}
 (hn:∀n x u,it=aa (n,x)->H.val n=aa u->H'.val n=aa u)(h:Ey H F w S K agg V b es clock it):Ey H' F w S K agg V b es clock it:=by
 match it,h,hn with
 |none,_,_=>trivial
 |some (n,left,cur),⟨r,since,seen,last,h1,h2,h3,h4,h5,h6,Yj,⟨l2,h7,h8⟩,h9⟩,hn=>
  exact⟨r,since,seen,last,h1,h2,hn _ _ _ rfl h3,h4,h5,h6,Yj,⟨l2,h7.gN,h8⟩,λp hp=>by
   obtain⟨g1,e,g2,g3,g4,cs,g5,g6⟩:=h9 p hp
   exact⟨g1,e,g2,g3,g4,cs,g5,g6⟩⟩
def oN(H:aK)(F:Nat->Prop)(w:World)(d:DR)(h:Option vU)(i:Nat)(x':d.low.den)(x:d.row.den)(S:Nat->Prop):Prop:=
 match h with
 |none=>kI F w d x' x S
 |some h=>(h.i≠(i:Int)->kI F w d x' x S)/\(h.i=(i:Int)->∃T' e,∃q:gu d (.sl T' e),d.path h.p=aa ⟨_,q⟩/\nN F w q x' x S/\H.val h.o=aa (q.lo.get x'))
theorem oN.keep{H H':aK}{F F':Nat->Prop}{w w':World}{d:DR}{h:Option vU}{i:Nat}{x':d.low.den}{x:d.row.den}{S:Nat->Prop}(hr:oN H F w d h i x' x S)(hH:H.le H')(hs:Step F w F' w')(hb:∀k,S k->w'.heap[k]? =w.heap[k]?):oN H' F' w' d h i x' x S:=by
 cases h with
 |none=>exact kI.keep hs hr hb
 |some h=>
  refine⟨λhi=>(hr.1 hi).keep hs hb,λhi=>?_⟩;obtain⟨T',e,q,h1,h2,h3⟩:=hr.2 hi;exact⟨T',e,q,h1,h2.keep hs hb,hH.val _ _ h3⟩
def fp(S:Nat->Prop)(v:Value):Th->Nat->Prop
 | .box ..,k=>v= .pointer (aa ⟨k,0,ae⟩)
 | .own ..,k=>bU v k
 | .u9 ..,_=>False
 | .map ..,k=>v= .map (aa k)
 | .fmap ..,_=>False
 | .deep ..,k=>S k
 | .fdeep ..,_=>False
 | .smap ..,k=>S k
def iQ(H:aK)(F:Nat->Prop)(w:World)(S:Nat->Prop)(v:Value):Th->Prop
 | .box T t=>∃b es,v= .pointer (aa ⟨b,0,ae⟩)/\w.heap[b]? =aa (.cells es.toArray T (0,0))/\Holds H F w t es
 | .own T r l=>∃xs,nr w 0 T r.size v l.length xs/\∀i(h:i<l.length),cS F w r ((xs.drop (i*r.size)).take r.size) l[i]
 | .u9 _ r l=>cS F w (.slice r) [v] l
 | .fmap _ K agg V l=>cS F w (.map K agg V) [v] l
 | .map _ K agg V l=>∃b es clock,v= .map (aa b)/\w.heap[b]? =aa (.map es clock)/\MapKept.Stamped es clock/\gq H F w K agg V es.toList l
 | .deep T d l h=>Il F w T d.low (oN H F w d h) v l S
 | .fdeep _ d l=>cS F w (.slice d.row) [v] l
 | .smap _ K agg V l it=>∃b es clock l',v= .map (aa b)/\S b/\w.heap[b]? =aa (.map es clock)/\MapKept.Stamped es clock/\gq H F w K agg V es.toList l'/\l'.Perm l/\Ey H F w S K agg V b es clock it
structure Ez(U:Nat->Prop)(H:aK)(F:Nat->Prop)(w:World)(v:Value)(s:Nat)(t:Th):Prop where
 one:v.oneCell'=af
 con:H.con s=aa t.base
 ok:iQ H F w (H.sub s) v t
 no:∀k,fp (H.sub s) v t k->¬F k
 lt:∀k,fp (H.sub s) v t k->k<w.heap.size
 use:∀k,fp (H.sub s) v t k->U k
structure aL(U:Nat->Prop)(H:aK)(F:Nat->Prop)(w:World)(ob:Nat->Option (Nat×Th))(n:Nat):Prop where
 obj:∀o s t,ob o=aa (s,t)->∃v,H.val o=aa v/\Ez U H F w v s t
 apart:∀o o' s s' t t' v v',o≠o'->ob o=aa (s,t)->ob o'=aa (s',t')->H.val o=aa v->H.val o'=aa v'->∀k,fp (H.sub s) v t k->¬fp (H.sub s') v' t' k
 fresh:∀m,n<=m->m<n+16->H.val m=ae/\H.con m=ae
 lt:∀b,F b->b<w.heap.size
 new:∀b,w.heap.size<=b->U b
 gl:pG F w
def iQ.heap{S:Nat->Prop}{v:Value}{t:Th}(h:iQ H F w S v t)(hH:H.le H')(hs:Step F w F' w')(hb:∀k,fp S v t k->w'.heap[k]? =w.heap[k]?):iQ H' F' w' S v t:=by
 cases t with
 |box T t=>
  obtain⟨b,es,rfl,h1,h2⟩:=h;exact⟨b,es,rfl,(hb b rfl).trans h1,h2.keep hH hs⟩
 |own T r l=>
  obtain⟨xs,⟨Bx,Gz⟩,h3⟩:=h;refine⟨xs,⟨Bx,?_⟩,λi hi=>(h3 i hi).step hs⟩
  rcases Gz with h2|⟨gg,o0,cap,cur,rfl,tj,hg,rest⟩
  .exact .inl h2
  .exact .inr ⟨gg,o0,cap,cur,rfl,tj,(hb gg rfl).trans hg,rest⟩
 |u9 T r l=>exact cS.step (r:= .slice r) hs h
 |fmap T K agg V l=>exact cS.step (r:= .map K agg V) hs h
 |fdeep T d l=>exact cS.step (r:= .slice d.row) hs h
 |deep T d l hh=>exact Il.mono (show Il F w T d.low _ v l S from h) hs hb λi x' hi A hA hr=>hr.keep hH hs λk hk=>hb k (hA k hk)
 |map T K agg V l=>
  obtain⟨b,es,clock,rfl,h1,h2,h3⟩:=h;exact⟨b,es,clock,rfl,(hb b rfl).trans h1,h2,h3.keep hH hs⟩
 |smap T K agg V l it=>
  obtain⟨b,es,clock,l',rfl,h0,h1,h2,h3,h4,h5⟩:=h;exact⟨b,es,clock,l',rfl,h0,(hb b h0).trans h1,h2,h3.keep hH hs,h4,h5.keep hH hs hb⟩
def mw.to{v:Value}{T:TypeId}{r:Row}{l:List r.den}(S:Nat->Prop)(h:mw 0 F w T r v l):iQ H F w S v (.own T r l):=h.2
end
structure State where
 aG:List (Nat×aF)
 objs:List (Nat×(Nat×Th))
 nxt:Nat
def iR(H:aK)(n:Nat):Prop:=∀m,n<=m->H.val m=ae/\H.con m=ae
structure Sat(U:Nat->Prop)(H:aK)(F:Nat->Prop)(w:World)(ρ:Nat->Value)(st:State):Prop where
 slot:∀t d,find st.aG t=aa d->aE H F w d (ρ t)
 ob:aL U H F w (find st.objs) st.nxt
 all:iR H st.nxt
structure ed where
 dst:aF
 eat:List Nat:=[]
 make:List (Nat×(Nat×Th)):=[]
def State.apply(st:State)(d:Option Nat)(e:ed):State:=
 {aG:=(match d with|some d=>(d,e.dst)::st.aG|none=>st.aG),objs:=e.make++del e.eat st.objs,nxt:=st.nxt+16}
def cx(H:aK)(ob:Nat->Option (Nat×Th))(eat:List Nat)(k:Nat):Prop:=∃o∈eat,∃s t v,ob o=aa (s,t)/\H.val o=aa v/\fp (H.sub s) v t k
structure Oc(H:aK)(F:Nat->Prop)(w:World)(H':aK)(F':Nat->Prop)(w':World)(g:Nat->Prop):Prop where
 gN:H.le H'
 ext:Ext g w w'
 le:∀b,F b->F' b
 grow:∀b,F' b->F b\/w.heap.size<=b\/g b
 lt:∀b,F' b->b<w'.heap.size
structure Made(H':aK)(F':Nat->Prop)(w w':World)(g:Nat->Prop)(make:List (Nat×(Nat×Th))):Prop where
 obj:∀o s t,find make o=aa (s,t)->∃v,H'.val o=aa v/\v.oneCell'=af/\H'.con s=aa t.base/\iQ H' F' w' (H'.sub s) v t/\∀k,fp (H'.sub s) v t k->¬F' k/\k<w'.heap.size/\(w.heap.size<=k\/g k)
 apart:∀o o' s s' t t' v v',o≠o'->find make o=aa (s,t)->find make o'=aa (s',t')->H'.val o=aa v->H'.val o'=aa v'->∀k,fp (H'.sub s) v t k->¬fp (H'.sub s') v' t' k
structure lD(H:aK)(F:Nat->Prop)(w:World)(ob:Nat->Option (Nat×Th))(n:Nat)(e:ed)(v:Value)(w':World)(H':aK)(F':Nat->Prop):Prop where
 lL:Oc H F w H' F' w' (cx H ob e.eat)
 fresh:∀m,(m<n\/n+16<=m)->(H.val m=ae->H'.val m=ae)/\(H.con m=ae->H'.con m=ae)
 dst:aE H' F' w' e.dst v
 made:Made H' F' w w' (cx H ob e.eat) e.make
 ids:∀o,(find e.make o).isSome->o∈e.eat\/n<=o
def mz(H:aK)(F:Nat->Prop)(w:World)(ob:Nat->Option (Nat×Th))(n:Nat)(e:ed)(v:Value)(w':World):Prop:=∃H' F',lD H F w ob n e v w' H' F'
def vb(ρ:Nat->Value):Option Nat->Value->Nat->Value
 |some d,v=>Eg ρ d v
 |none,_=>ρ
theorem oO(ρ:Nat->Value)(d:Nat)(v:Value)(t:Nat):Eg ρ d v t=if t=d then v else ρ t:=by
 unfold Eg
 simp_all
section
variable {U:Nat->Prop} {H H':aK} {F F':Nat->Prop} {w w':World} {ρ:Nat->Value} {st:State}
def Oc.step{g:Nat->Prop}(h:Oc H F w H' F' w' g)(hF:∀b,F b->b<w.heap.size)(hg:∀k,g k->¬F k):Step F w F' w':=
 λb hb=>⟨h.le b hb,h.ext.block b (hF b hb) λe=>hg b e hb⟩
def aL.fj{ob:Nat->Option (Nat×Th)}{n:Nat}(h:aL U H F w ob n){eat:List Nat}:∀k,cx H ob eat k->¬F k:=by
 rintro k ⟨o,_,s,t,v,h1,h2,h3⟩
 obtain⟨v',e,hi⟩:=h.obj o s t h1;rw[h2]at e;obtain rfl:=aiC e;exact hi.no k h3
def aL.vV{ob:Nat->Option (Nat×Th)}{n:Nat}(h:aL U H F w ob n){eat:List Nat}:∀k,cx H ob eat k->k<w.heap.size:=by
 rintro k ⟨o,_,s,t,v,h1,h2,h3⟩
 obtain⟨v',e,hi⟩:=h.obj o s t h1;rw[h2]at e;obtain rfl:=aiC e;exact hi.lt k h3
def aL.gv{ob:Nat->Option (Nat×Th)}{n:Nat}(h:aL U H F w ob n){eat:List Nat}:∀k,cx H ob eat k->U k:=by
 rintro k ⟨o,_,s,t,v,h1,h2,h3⟩
 obtain⟨v',e,hi⟩:=h.obj o s t h1;rw[h2]at e;obtain rfl:=aiC e;exact hi.use k h3
def Ez.lL{ob:Nat->Option (Nat×Th)}{n:Nat}(hs:aL U H F w ob n){eat:List Nat}(he:Oc H F w H' F' w' (cx H ob eat)){o s:Nat}{t:Th}{v:Value}(ho:ob o=aa (s,t))(hn:o∉eat)(hv:H.val o=aa v)(h:Ez U H F w v s t):Ez U H' F' w' v s t:=by
 have hap:∀k,fp (H.sub s) v t k->¬cx H ob eat k:=by
  rintro k hk ⟨o',mf,s',t',v',h1,h2,h3⟩
  exact hs.apart o o' s s' t t' v v' (λe=>hn (e▸mf)) ho h1 hv h2 k hk h3
 have iS:=he.gN.sub _ _ h.con;refine⟨h.one,he.gN.con _ _ h.con,by rw[iS];exact h.ok.heap he.gN (he.step hs.lt hs.fj) λk hk=>he.ext.block k (h.lt k hk) (hap k hk),λk hk hF=>?_,λk hk=>ai1 (h.lt k (by rwa [iS]at hk)) he.ext.size,λk hk=>h.use k (by grind)⟩;rw[iS]at hk
 rcases he.grow k hF with h1|h1|h1
 .exact h.no k hk h1
 .have:=h.lt k hk;omega
 grind
def aL.Lb{ob Od Lc:Nat->Option (Nat×Th)}{n n' m:Nat}{e:ed}{v:Value}(h:aL U H F w ob n)(hR:∀o x,Od o=aa x->ob o=aa x)(hp:lD H F w Od m e v w' H' F')
 (part:∀o s t,Lc o=aa (s,t)->find e.make o=aa (s,t)\/(o∉e.eat/\ob o=aa (s,t)/\find e.make o=ae))(zY:∀m,n'<=m->m<n'+16->H'.val m=ae/\H'.con m=ae):
 aL U H' F' w' Lc n':=by
 have EA:∀k,cx H Od e.eat k->cx H ob e.eat k:=λk ⟨o,ho,s,t,v,h1,h2⟩=>⟨o,ho,s,t,v,hR _ _ h1,h2⟩
 have UG:Oc H F w H' F' w' (cx H ob e.eat):=⟨hp.lL.gN,⟨hp.lL.ext.os,hp.lL.ext.tape,hp.lL.ext.output,hp.lL.ext.size,λk hk hn=>hp.lL.ext.block k hk λhh=>hn (EA k hh)⟩,hp.lL.le,λb hb=>(hp.lL.grow b hb).imp id λh=>h.imp id (EA b),hp.lL.lt⟩
 have Io:∀o s t,o∉e.eat->ob o=aa (s,t)->∃v,H.val o=aa v/\H'.val o=aa v/\Ez U H' F' w' v s t/\H'.sub s=H.sub s/\∀k,fp (H'.sub s) v t k->k<w.heap.size/\¬cx H ob e.eat k:=by
  intro o s t ho hf;obtain⟨v,hv,hi⟩:=h.obj o s t hf;have iS:=hp.lL.gN.sub _ _ hi.con;refine⟨v,hv,hp.lL.gN.val _ _ hv,hi.lL h UG hf ho hv,iS,λk hk=>?_⟩;rw[iS]at hk;refine⟨hi.lt k hk,?_⟩
  rintro⟨o',mf,s',t',v',h1,h2,h3⟩
  exact h.apart o o' s s' t t' v v' (λe=>ho (e▸mf)) hf h1 hv h2 k hk h3
 refine⟨λo s t ho=>?_,λo o' s s' t t' v v' dA ho mf hv eR k hk kG=>?_,zY,hp.lL.lt,λb hb=>h.new b (ai4 hp.lL.ext.size hb),h.gl.step (UG.step h.lt h.fj)⟩
 .rcases part o s t ho with h1|⟨h1,h2,_⟩
  .obtain⟨v,a1,a2,a3,a4,a5⟩:=hp.made.obj o s t h1;exact⟨v,a1,a2,a3,a4,λk hk=>(a5 k hk).1,λk hk=>(a5 k hk).2.1,λk hk=>(a5 k hk).2.2.elim (h.new k) (λhh=>h.gv k (EA k hh))⟩
  grind
 .rcases part o s t ho with h1|⟨h1,h2,_⟩<;>rcases part o' s' t' mf with EB|⟨EB,Im,_⟩
  .exact hp.made.apart o o' s s' t t' v v' dA h1 EB hv eR k hk kG
  .obtain⟨u,_,a1,_,_,a5⟩:=hp.made.obj o s t h1
   grind
  .obtain⟨u,_,a1,_,_,a5⟩:=hp.made.obj o' s' t' EB
   grind
  .obtain⟨u,b1,b2,_,b5,_⟩:=Io o s t h1 h2;obtain⟨u',c1,c2,_,c5,_⟩:=Io o' s' t' EB Im;rw[b5]at hk;rw[c5]at kG;have e1:=aiC (hv.symm.trans b2);have e2:=aiC (eR.symm.trans c2);subst e1;subst e2;exact h.apart o o' s s' t t' v v' dA h2 Im b1 c1 k hk kG
def EC{objs:List (Nat×(Nat×Th))}{e:ed}:∀o s t,find (e.make++del e.eat objs) o=aa (s,t)->find e.make o=aa (s,t)\/(o∉e.eat/\find objs o=aa (s,t)/\find e.make o=ae):=by
 intro o s t ho;rw[iO]at ho
 cases hm:find e.make o with
 |some x=>grind
 |none=>
  grind [iP]
def Sat.apply{d:Option Nat}{e:ed}{v:Value}(h:Sat U H F w ρ st)(hp:lD H F w (find st.objs) st.nxt e v w' H' F'):Sat U H' F' w' (vb ρ d v) (st.apply d e):=by
 have eU:iR H' (st.nxt+16):=λm hm=>⟨(hp.fresh m (.inr hm)).1 (h.all m (by omega)).1,(hp.fresh m (.inr hm)).2 (h.all m (by omega)).2⟩
 refine⟨λt q hq=>?_,h.ob.Lb (λ_ _ h=>h) hp EC λm hm _=>eU m hm,eU⟩;have iq:=hp.lL.step h.ob.lt h.ob.fj
 cases d with
 |none=>exact(h.slot t q hq).keep hp.lL.gN iq
 |some d=>
  have zZ:find ((d,e.dst)::st.aG) t=aa q:=hq;rw[bd]at zZ
  show aE H' F' w' q (Eg ρ d v t)
  rw[oO];by_cases hd:d=t
  .grind [lD.dst]
  .rw[aj hd]at zZ;rw[aj (Ne.symm hd)];exact(h.slot t q zZ).keep hp.lL.gN iq
end
end
section
def ct(P:Program)(ρ:Nat->Value)(o:Oper)(w:World)(Q:Value->World->Prop):Prop:=
 match(execOp (ev ρ) o).run P w with
 | .ok (.value v) w'=>True/\Q v w'
 | .ok .skip w'=>o.dst=ae/\Q undef w'
 | .ok (.enter f args) w'=>Calls P f args w' λe xM=>∃v,e= .returned v/\Q v xM
 |_=>False
section
variable {P:Program} {n:Nat} {ops:Array Oper} {K:(Nat->Value)->World->Prop} {rest:List Oper} {ρ:Nat->Value} {w:World}
variable {dst:Option Nat} {op:Op} {ty:TypeId} {pos:String} {aft:Array Edge} {Q:Value->World->Prop}
def ct.mono{o:Oper}{Q':Value->World->Prop}(h:ct P ρ o w Q)(hq:∀v w',Q v w'->Q' v w'):ct P ρ o w Q':=by
 unfold ct at*;generalize(execOp (ev ρ) o).run P w=r at*
 cases r with
 |halt x w'=>exact h
 |ok x w'=>
  cases x<;>first
   |exact h
   |exact⟨h.1,hq _ _ h.2⟩
   |exact h.mono (by grind)
def ct.val{d:Option Nat}{v:Value}{w':World}(hr:(execOp (ev ρ) ⟨d,op,ty,pos,aft,ae⟩).run P w= .ok (.value v) w')(h:Q v w'):ct P ρ ⟨d,op,ty,pos,aft,ae⟩ w Q:=by
 grind [ct]
def ct.unit{w':World}(hr:(execOp (ev ρ) ⟨ae,op,ty,pos,aft,ae⟩).run P w= .ok .skip w')(h:Q undef w'):ct P ρ ⟨ae,op,ty,pos,aft,ae⟩ w Q:=by
 grind [ct]
def vW(h:ct P ρ ⟨dst,op,ty,pos,aft,ae⟩ w Q)(hd:∀d,dst=aa d->aja d n=af)
 (hk:∀v w',Q v w'->wpS P n ops K rest (vb ρ dst v) w'):wpS P n ops K (⟨dst,op,ty,pos,aft,ae⟩::rest) ρ w:=
 λQQ a hf Ks=>wpList_plain rfl λK' hK=>by
  unfold Oper.wp;rw[hf.eval];unfold ct at h;generalize(execOp (ev ρ) ⟨dst,op,ty,pos,aft,ae⟩).run P w=r at*
  have tn:∀v,Fr n (a.put dst v) (vb ρ dst v):=λv=>by
   cases dst with
   |none=>exact hf
   |some d=>exact hf.put (hd d rfl) v
  cases r with
  |halt x w'=>exact h.elim
  |ok x w'=>
   cases x<;>first
    |exact h.elim
    |skip
   case value v=>exact hK _ _ (hk v w' h.2 QQ _ (tn v) Ks)
   case skip=>exact hK _ _ (hk undef w' h.2 QQ _ (tn undef) Ks)
   case enter f args=>
    refine h.mono λe xM ⟨v,he,hv⟩=>?_
    subst he;exact hK _ _ (hk v xM hv QQ _ (tn v) Ks)
end
inductive Kt where
 |int (k:IntKind)
 |bool
 |str
 |slice (e:TypeId)
 |struct (fs:List (TypeId×Nat))
 |array (n:Nat) (e:TypeId)
 |map (k v:TypeId)
 |ptr (e:TypeId)
 |other
def yv(P:Program)(t:TypeId):Kt->Prop
 | .int k=>P.underlying t=aa (.int k)
 | .bool=>P.underlying t=aa .bool
 | .str=>P.underlying t=aa .string
 | .slice e=>P.underlying t=aa (.slice e)
 | .struct fs=>∃arr:Array Field,P.underlying t=aa (.struct arr)/\arr.toList.map (λf=>(f.type,f.offset))=fs
 | .array n e=>P.underlying t=aa (.array n e)
 | .map k v=>P.underlying t=aa (.map k v)
 | .ptr e=>P.underlying t=aa (.pointer e)
 | .other=>∃d,P.underlying t=aa d/\il d=ah
def z6(P:Program)(t:TypeId)(agg:Bool)(r:Row):Prop:=∃z,(P.info? t).bind (·.zero)=aa z/\z=(bif agg then .agg r.fi.toArray else r.fi.headD undef)
def ri(P:Program)(t:TypeId)(name:String)(f:FuncId)(pr:Bool):Prop:=
 ((P.info? t).bind λi=>i.methods.find? λm=>m.name==name).map (λm=>(m.path.toList.length,m.func))=aa (0,aa (f,pr))
structure bj(P:Program)where
 und:List (Nat×Kt)
 row:List (Nat×Row)
 eqs:List (Nat×Row)
 zer:List (Nat×(Bool×Row))
 und_ok:∀t k,find und t=aa k->yv P t k
 row_ok:∀t r,find row t=aa r->TI P t r
 eqs_ok:∀t r,find eqs t=aa r->∃K d,qZ P t r K/\d+K=10000/\P.eqGuardType P.depth t=ah/\(P.underlying t).any il=af
 zer_ok:∀t agg r,find zer t=aa (agg,r)->z6 P t agg r
 kys:List TypeId
 kys_ok:∀t∈kys,∀(em:Bool)(a b:Value)(w:World),(Instr.checkKey em 10000 t (.agg #[a,b])).run P w= .ok () w
 mth:List (TypeId×(String×(FuncId×Bool)))
 mth_ok:∀p∈mth,ri P p.1 p.2.1 p.2.2.1 p.2.2.2
def kL:Kt->Bool
 | .struct _| .array _ _=>af
 |_=>ah
def yv.agg{P:Program}{t:TypeId}{k:Kt}(h:yv P t k):∃d,P.underlying t=aa d/\il d=kL k:=by
 cases k<;>first
  |exact⟨_,h,rfl⟩
  |(obtain⟨arr,h,_⟩:=h;exact⟨_,h,rfl⟩)
  |exact h
def nw{α:Type}{Q:Nat->α->Prop}{l:List (Nat×α)}(h:∀p∈l,Q p.1 p.2):∀t a,find l t=aa a->Q t a:=by
 intro t a
 induction l with
 |nil=>intro h';cases h'
 |cons p l ih=>
  grind [bd]
def ED:Value->Option aF
 | .int k n=>aa (.val ah (.leaf (.int k) n))
 | .bool b=>aa (.val ah (.leaf .bool b))
 | .string s=>aa (.val ah (.leaf .str s))
 | .slice ae 0 0=>aa (.val ah .nil)
 | .map ae=>aa (.val ah (.leaf (.nul .map) ()))
 | .pointer ae=>aa (.val ah (.leaf (.nul .ptr) ()))
 | .nilFunc=>aa (.val ah (.leaf (.nul .func) ()))
 | .nilIface=>aa .dead
 |_=>ae
def Ip(aG:List (Nat×aF)):Operand->Option aF
 | .tmp t=>find aG t
 | .const v=>ED v
 | .func f=>aa (.fn f [])
 | .global g=>match find Gy g with
   |some d=>aa (.at d.1 d.2)
   |none=>ae
def aS.nz{H:aK}{F:Nat->Prop}{w:World}{r:Row}{x:r.den}{v:Value}(h:cS F w r [v] x):aS H F w ah (.leaf r x) v:=⟨[v],h,rfl,λ_=>rfl⟩
def Iq{H:aK}{F:Nat->Prop}{w:World}{v:Value}{d:aF}(h:ED v=aa d):aE H F w d v:=by
 unfold ED at h
 split at h<;>first|cases h|skip
 .exact aS.nz rfl
 .exact aS.nz rfl
 .exact aS.nz rfl
 .exact⟨_,rfl,rfl,λ_=>rfl⟩
 .exact aS.nz rfl
 .exact aS.nz rfl
 .exact aS.nz rfl
 .trivial
def tq{H:aK}{F:Nat->Prop}{w:World}{ρ:Nat->Value}{aG:List (Nat×aF)}(hg:pG F w)(h:∀t d,find aG t=aa d->aE H F w d (ρ t)):∀x d,Ip aG x=aa d->aE H F w d (ev ρ x):=by
 intro x d hx
 cases x with
 |tmp t=>exact h t d hx
 |const v=>exact Iq hx
 |global g=>
  have OE:(match find Gy g with|some d=>aa (aF.at d.1 d.2)|none=>ae)=aa d:=hx;split at OE
  .rename_i q hq;obtain rfl:=aiC OE;obtain⟨h1,h2⟩:=hg g q hq;exact⟨g,0,rfl,h1,h2⟩
  .cases OE
 |func f=>obtain rfl:=aiC hx;exact⟨[],rfl,rfl⟩
def aS.inv{H:aK}{F:Nat->Prop}{w:World}{r:Row}{x:r.den}{v:Value}(h:aS H F w ah (.leaf r x) v):cS F w r [v] x:=by
 obtain⟨cs,h1,_,h3⟩:=h;rw[h3 rfl]at h1;exact h1
def aS.int{H:aK}{F:Nat->Prop}{w:World}{k:IntKind}{x:Int}{v:Value}(h:aS H F w ah (.leaf (.int k) x) v):v= .int k x:=by
 have:=h.inv;simpa[cS]using this
def aS.bool{H:aK}{F:Nat->Prop}{w:World}{x:Bool}{v:Value}(h:aS H F w ah (.leaf .bool x) v):v= .bool x:=by
 have:=h.inv;simpa[cS]using this
def aS.str{H:aK}{F:Nat->Prop}{w:World}{x:ByteArray}{v:Value}(h:aS H F w ah (.leaf .str x) v):v= .string x:=by
 have:=h.inv;simpa[cS]using this
def aS.ku(H:aK)(F:Nat->Prop)(w:World)(k:IntKind)(x:Int):aS H F w ah (.leaf (.int k) x) (.int k x):=aS.nz rfl
def aS.ga(H:aK)(F:Nat->Prop)(w:World)(x:Bool):aS H F w ah (.leaf .bool x) (.bool x):=aS.nz rfl
def aS.mkStr(H:aK)(F:Nat->Prop)(w:World)(x:ByteArray):aS H F w ah (.leaf .str x) (.string x):=aS.nz rfl
abbrev mR(k:IntKind)(x:Int):aF:= .val ah (.leaf (.int k) x)
abbrev ec(x:Bool):aF:= .val ah (.leaf .bool x)
abbrev Yk(x:ByteArray):aF:= .val ah (.leaf .str x)
def asInt:aF->Option (IntKind×Int)
 | .val ah (.leaf (.int k) x)=>aa (k,x)
 |_=>ae
def asBool:aF->Option Bool
 | .val ah (.leaf .bool x)=>aa x
 |_=>ae
def BH:aF->Option ByteArray
 | .val ah (.leaf .str x)=>aa x
 |_=>ae
section
variable {P:Program} {ρ:Nat->Value} {w w':World} {H H':aK} {F F':Nat->Prop} {U:Nat->Prop} {ob:Nat->Option (Nat×Th)} {n:Nat} {R:Type}
variable {dst:Option Nat} {op:Op} {ty:TypeId} {pos:String} {aft:Array Edge} {d:Nat}
def iT{D:aF}{k:IntKind}{x:Int}{v:Value}(h:asInt D=aa (k,x))(hd:aE H F w D v):v= .int k x:=by
 unfold asInt at h
 split at h<;>cases h
 exact aS.int hd
def oe{D:aF}{x:Bool}{v:Value}(h:asBool D=aa x)(hd:aE H F w D v):v= .bool x:=by
 unfold asBool at h
 split at h<;>cases h
 exact aS.bool hd
def vX{D:aF}{x:ByteArray}{v:Value}(h:BH D=aa x)(hd:aE H F w D v):v= .string x:=by
 unfold BH at h
 split at h<;>cases h
 exact aS.str hd
def cE(P:Program)(_U:Nat->Prop)(H:aK)(F:Nat->Prop)(w:World)(ρ:Nat->Value)(ob:Nat->Option (Nat×Th))(n:Nat)(o:Oper)(e:ed):Prop:=
 ct P ρ o w (mz H F w ob n e)
def Oc.refl{g:Nat->Prop}(hF:∀b,F b->b<w.heap.size):Oc H F w H F w g:=⟨aK.le.refl H,⟨rfl,⟨rfl,aiH _⟩,rfl,aiH _,λ_ _ _=>rfl⟩,λ_ h=>h,λ_ h=> .inl h,hF⟩
theorem Made.nil{g:Nat->Prop}:Made H' F' w w' g []:=⟨λ_ _ _ h=>(by cases h),λ_ _ _ _ _ _ _ _ _ h=>(by cases h)⟩
def lD.pure(hs:aL U H F w ob n){D:aF}{v:Value}(h:aE H F w D v):mz H F w ob n {dst:=D} v w:=
 ⟨H,F,Oc.refl hs.lt,λm hm=>⟨id,id⟩,h,Made.nil,λo h=>by cases h⟩
def bP(hs:aL U H F w ob n){D:aF}{v:Value}(hr:(execOp (ev ρ) ⟨aa d,op,ty,pos,aft,ae⟩).run P w= .ok (.value v) w)(h:aE H F w D v):cE P U H F w ρ ob n ⟨aa d,op,ty,pos,aft,ae⟩ {dst:=D}:=
 ct.val hr (lD.pure hs h)
def aZ(hs:aL U H F w ob n){D:aF}{v:Value}(hr:Pure P ρ ⟨aa d,op,ty,pos,aft,ae⟩ v)(h:aE H F w D v):cE P U H F w ρ ob n ⟨aa d,op,ty,pos,aft,ae⟩ {dst:=D}:=
 bP hs (hr w) h
def aJ(o:BinOp)(k:IntKind)(a b:Int):Int:=
 match o with
 | .and=>k.wrap (ajk k.bits a&&& ajk k.bits b).toNat
 | .or=>k.wrap (ajk k.bits a|||ajk k.bits b).toNat
 | .xor=>k.wrap (ajk k.bits a ^^^ ajk k.bits b).toNat
 |_=>k.wrap (ajk k.bits a&&& ~~~ajk k.bits b).toNat
def xR(k:IntKind)(a b:Int):Int:=k.wrap (a*2 ^ min b.toNat k.bits)
def bT(k:IntKind)(a b:Int):Int:=a.fdiv (2 ^ min b.toNat k.bits)
def rA(k:IntKind)(a b:Int):Option Int:=if b<0 then ae else aa (xR k a b)
def xS(k:IntKind)(a b:Int):Option Int:=if b<0 then ae else aa (bT k a b)
def arith:BinOp->IntKind->Int->Int->Option aF
 | .add,k,a,b=>aa (mR k (k.wrap (a+b)))
 | .sub,k,a,b=>aa (mR k (k.wrap (a-b)))
 | .mul,k,a,b=>aa (mR k (k.wrap (a*b)))
 | .lss,_,a,b=>aa (ec (decide (a<b)))
 | .leq,_,a,b=>aa (ec (decide (a<=b)))
 | .gtr,_,a,b=>aa (ec (decide (b<a)))
 | .geq,_,a,b=>aa (ec (decide (b<=a)))
 | .eql,_,a,b=>aa (ec (decide (a=b)))
 | .neq,_,a,b=>aa (ec (!decide (a=b)))
 | .and,k,a,b=>aa (mR k (aJ .and k a b))
 | .or,k,a,b=>aa (mR k (aJ .or k a b))
 | .xor,k,a,b=>aa (mR k (aJ .xor k a b))
 | .andNot,k,a,b=>aa (mR k (aJ .andNot k a b))
 |_,_,_,_=>ae
def pure_and{k:IntKind}{a b:Int}{t u:TypeId}{x y:Operand}(hx:ev ρ x= .int k a)(hy:ev ρ y= .int k b):Pure P ρ ⟨aa d, .binOp .and t x y u,ty,pos,aft,ae⟩ (.int k (aJ .and k a b)):=λw=>by simp[execOp,hx,hy,binOp,Op.intBits,eqGuard,aJ,go_sem]
def pure_or{k:IntKind}{a b:Int}{t u:TypeId}{x y:Operand}(hx:ev ρ x= .int k a)(hy:ev ρ y= .int k b):Pure P ρ ⟨aa d, .binOp .or t x y u,ty,pos,aft,ae⟩ (.int k (aJ .or k a b)):=λw=>by simp[execOp,hx,hy,binOp,Op.intBits,eqGuard,aJ,go_sem]
def Ld{k:IntKind}{a b:Int}{t u:TypeId}{x y:Operand}(hx:ev ρ x= .int k a)(hy:ev ρ y= .int k b):Pure P ρ ⟨aa d, .binOp .xor t x y u,ty,pos,aft,ae⟩ (.int k (aJ .xor k a b)):=λw=>by simp[execOp,hx,hy,binOp,Op.intBits,eqGuard,aJ,go_sem]
def BI{k:IntKind}{a b:Int}{t u:TypeId}{x y:Operand}(hx:ev ρ x= .int k a)(hy:ev ρ y= .int k b):Pure P ρ ⟨aa d, .binOp .andNot t x y u,ty,pos,aft,ae⟩ (.int k (aJ .andNot k a b)):=λw=>by simp[execOp,hx,hy,binOp,Op.intBits,eqGuard,aJ,go_sem]
def BJ{k k':IntKind}{a b:Int}{t u:TypeId}{x y:Operand}(hx:ev ρ x= .int k a)(hy:ev ρ y= .int k' b)(hb:¬b<0):Pure P ρ ⟨aa d, .binOp .shl t x y u,ty,pos,aft,ae⟩ (.int k (xR k a b)):=λw=>by simp[execOp,hx,hy,binOp,Op.shift,eqGuard,xR,hb,go_sem]
def BK{k k':IntKind}{a b:Int}{t u:TypeId}{x y:Operand}(hx:ev ρ x= .int k a)(hy:ev ρ y= .int k' b)(hb:¬b<0):Pure P ρ ⟨aa d, .binOp .shr t x y u,ty,pos,aft,ae⟩ (.int k (bT k a b)):=λw=>by simp[execOp,hx,hy,binOp,Op.shift,eqGuard,bT,hb,go_sem]
theorem Le{o:BinOp}{k:IntKind}{a b:Int}{D:aF}{t u:TypeId}{x y:Operand}(h:arith o k a b=aa D)(hs:aL U H F w ob n)(hx:ev ρ x= .int k a)(hy:ev ρ y= .int k b):
 cE P U H F w ρ ob n ⟨aa d, .binOp o t x y u,ty,pos,aft,ae⟩ {dst:=D}:=by
 unfold arith at h
 split at h<;>cases h
 .exact aZ hs (KJ hx hy) (aS.ku ..)
 .exact aZ hs (KL hx hy) (aS.ku ..)
 .exact aZ hs (KM hx hy) (aS.ku ..)
 .exact aZ hs (KP hx hy) (aS.ga ..)
 .exact aZ hs (KQ hx hy) (aS.ga ..)
 .exact aZ hs (KR hx hy) (aS.ga ..)
 .exact aZ hs (KS hx hy) (aS.ga ..)
 .exact aZ hs (KT hx hy) (aS.ga ..)
 .exact aZ hs (KU hx hy) (aS.ga ..)
 .exact aZ hs (pure_and hx hy) (aS.ku ..)
 .exact aZ hs (pure_or hx hy) (aS.ku ..)
 .exact aZ hs (Ld hx hy) (aS.ku ..)
 .exact aZ hs (BI hx hy) (aS.ku ..)
def z7(a b:Int):Option Int:=if b=0 then ae else aa (aiR a b)
def Ir(a b:Int):Option Int:=if b=0 then ae else aa (ai3 a b)
def UH:Operand->Bool
 | .const _=>af
 |_=>ah
theorem Lf{k:IntKind}{a b:Int}{t u:TypeId}{x y:Operand}(hb:b≠0)(hs:aL U H F w ob n)(hx:ev ρ x= .int k a)(hy:ev ρ y= .int k b):
 cE P U H F w ρ ob n ⟨aa d, .binOp .quo t x y u,ty,pos,aft,ae⟩ {dst:=mR k (k.wrap (aiR a b))}:=
 aZ hs (KN hx hy hb) (aS.ku ..)
theorem Lg{k:IntKind}{a b:Int}{t u:TypeId}{x y:Operand}(hb:b≠0)(hs:aL U H F w ob n)(hx:ev ρ x= .int k a)(hy:ev ρ y= .int k b):
 cE P U H F w ρ ob n ⟨aa d, .binOp .rem t x y u,ty,pos,aft,ae⟩ {dst:=mR k (ai3 a b)}:=
 aZ hs (KO hx hy hb) (aS.ku ..)
end
end
section
def Tree.split:Tree->Option (Tree×Tree)
 | .leaf (.pair a b) x=>aa (.leaf a x.1, .leaf b x.2)
 | .pair a b=>aa (a,b)
 |_=>ae
def Tree.get:Tree->List Bool->Option (Tree×Nat)
 |t,[]=>aa (t,0)
 |t,d::p=>match t.split with
  |none=>ae
  |some (a,b)=>match d with
   |false=>Tree.get a p
   |true=>match Tree.get b p with
    |none=>ae
    |some (s,off)=>aa (s,a.size+off)
def Tree.put:Tree->List Bool->Tree->Option Tree
 |_,[],u=>aa u
 |t,d::p,u=>match t.split with
  |none=>ae
  |some (a,b)=>match d with
   |false=>match Tree.put a p u with
    |none=>ae
    |some a'=>aa (.pair a' b)
   |true=>match Tree.put b p u with
    |none=>ae
    |some b'=>aa (.pair a b')
def sq:Nat->Nat->List Bool
 |0,_=>[]
 |1,_=>[]
 |_+2,0=>[ah]
 |m+2,f+1=>af::sq (m+1) f
section
variable {H:aK} {F:Nat->Prop} {w:World}
def Holds.split{t a b:Tree}{cs:List Value}(hs:t.split=aa (a,b))(h:Holds H F w t cs):∃c1 c2,cs=c1++c2/\Holds H F w a c1/\Holds H F w b c2/\t.size=a.size+b.size:=by
 unfold Tree.split at hs
 split at hs<;>cases hs
 .obtain⟨c1,c2,e,h1,h2⟩:=h;exact⟨c1,c2,e,h1,h2,rfl⟩
 .obtain⟨c1,c2,e,h1,h2⟩:=h;exact⟨c1,c2,e,h1,h2,rfl⟩
def Holds.get:{p:List Bool}->{t s:Tree}->{off:Nat}->{cs:List Value}->t.get p=aa (s,off)->Holds H F w t cs->Holds H F w s ((cs.drop off).take s.size)/\off+s.size<=cs.length
 |[],t,s,off,cs,hg,h=>by
  obtain⟨rfl,rfl⟩:=Prod.mk.inj (aiC hg)
  grind [Holds.length]
 |d::p,t,s,off,cs,hg,h=>by
  unfold Tree.get at hg
  cases u7:t.split with
  |none=>grind
  |some ab=>
   obtain⟨a,b⟩:=ab;rw[u7]at hg;obtain⟨c1,c2,rfl,h1,h2,_⟩:=h.split u7;have T8:=h1.length
   cases d with
   |false=>
    obtain⟨g1,g2⟩:=Holds.get hg h1
    grind
   |true=>
    cases hb:b.get p with
    |none=>grind
    |some so=>
     obtain⟨s',ef⟩:=so;simp only[hb,aiO,Prod.mk.injEq]at hg;obtain⟨rfl,rfl⟩:=hg;obtain⟨g1,g2⟩:=Holds.get hb h2
     grind [List.drop_append,List.drop_of_length_le]
def Holds.put{u:Tree}{vs:List Value}(hu:Holds H F w u vs):{p:List Bool}->{t s t':Tree}->{off:Nat}->{cs:List Value}->t.get p=aa (s,off)->t.put p u=aa t'->s.size=u.size->Holds H F w t cs->
 Holds H F w t' (cs.take off++vs++cs.drop (off+u.size))
 |[],t,s,t',off,cs,hg,hp,hz,h=>by
  obtain⟨rfl,rfl⟩:=Prod.mk.inj (aiC hg);obtain rfl:=aiC hp;have hl:=h.length
  grind
 |d::p,t,s,t',off,cs,hg,hp,hz,h=>by
  unfold Tree.get at hg;unfold Tree.put at hp
  cases u7:t.split with
  |none=>grind
  |some ab=>
   obtain⟨a,b⟩:=ab;rw[u7]at hg hp;obtain⟨c1,c2,rfl,h1,h2,_⟩:=h.split u7;have T8:=h1.length
   cases d with
   |false=>
    cases hq:a.put p u with
    |none=>grind
    |some a'=>
     simp only[hq,aiO]at hp;subst hp;have h3:=Holds.put hu hg hq hz h1;have g2:=(Holds.get hg h1).2;refine⟨_,c2,?_,h3,h2⟩
     grind
   |true=>
    cases hb:b.get p with
    |none=>grind
    |some so=>
     obtain⟨s',ef⟩:=so;simp only[hb,aiO,Prod.mk.injEq]at hg;obtain⟨rfl,rfl⟩:=hg
     cases hq:b.put p u with
     |none=>grind
     |some b'=>
      simp only[hq,aiO]at hp;subst hp;have h3:=Holds.put hu hb hq hz h2;refine⟨c1,_,?_,h1,h3⟩
      rw[<-T8,List.take_append,List.take_of_length_le (by omega),List.drop_append,List.drop_of_length_le (by omega),show c1.length+ef-c1.length=ef from by omega,
       show c1.length+ef+u.size-c1.length=ef+u.size from by omega]
      grind
end
def Kr.beq:Kr->Kr->Bool
 | .map, .map=>af
 | .ptr, .ptr=>af
 | .func, .func=>af
 |_,_=>ah
theorem Kr.eq_of_beq{a b:Kr}(h:a.beq b=af):a=b:=by cases a<;>cases b<;>first|rfl|cases h
def Row.beq:Row->Row->Bool
 | .int k, .int k'=>decide (k=k')
 | .bool, .bool=>af
 | .str, .str=>af
 | .lz, .lz=>af
 | .nul a, .nul b=>a.beq b
 | .map a x b, .map c y d=>a.beq c&&(bif x then y else !y)&&b.beq d
 | .slice a, .slice b=>a.beq b
 | .pair a b, .pair c d=>a.beq c&&b.beq d
 |_,_=>ah
theorem Row.eq_of_beq:{r s:Row}->r.beq s=af->r=s
 | .int k, .int k',h=>by rw[an (show decide (k=k')=af from h)]
 | .bool, .bool,_=>rfl
 | .str, .str,_=>rfl
 | .lz, .lz,_=>rfl
 | .nul a, .nul b,h=>by rw[Kr.eq_of_beq (show a.beq b=af from h)]
 | .map a x b, .map c y d,h=>by
   have h':(a.beq c&&(bif x then y else !y)&&b.beq d)=af:=h;rw[ajB,ajB]at h'
   have r9:x=y:=by cases x<;>cases y<;>simp_all
   rw[Row.eq_of_beq h'.1.1,Row.eq_of_beq h'.2,r9]
 | .slice a, .slice b,h=>by rw[Row.eq_of_beq (show a.beq b=af from h)]
 | .pair a b, .pair c d,h=>by
   have h':(a.beq c&&b.beq d)=af:=h;rw[ajB]at h';rw[Row.eq_of_beq h'.1,Row.eq_of_beq h'.2]
def jH{r s:Row}(h:r=s)(x:r.den):s.den:=h▸x
def Row.beq_refl:(r:Row)->r.beq r=af
 | .int k=>by simp[Row.beq]
 | .bool=>rfl
 | .str=>rfl
 | .lz=>rfl
 | .nul a=>by cases a<;>rfl
 | .map a x b=>by
   show(a.beq a&&(bif x then x else !x)&&b.beq b)=af
   rw[Row.beq_refl a,Row.beq_refl b]
   cases x<;>rfl
 | .slice a=>Row.beq_refl a
 | .pair a b=>by
   show(a.beq a&&b.beq b)=af
   rw[Row.beq_refl a,Row.beq_refl b];rfl
def DR.beq:DR->DR->Bool
 | .leaf r, .leaf s=>r.beq s
 | .sl T d, .sl T' d'=>aiJ T T'&&d.beq d'
 | .pair a b, .pair c d=>a.beq c&&b.beq d
 |_,_=>ah
theorem DR.eq_of_beq:{d e:DR}->d.beq e=af->d=e
 | .leaf r, .leaf s,h=>by rw[Row.eq_of_beq (show r.beq s=af from h)]
 | .sl T d, .sl T' d',h=>by
   obtain⟨h1,h2⟩:=(ajB _ _▸(show(aiJ T T'&&d.beq d')=af from h):aiJ T T'=af/\d.beq d'=af)
   rw[Nat.eq_of_beq_eq_true h1,DR.eq_of_beq h2]
 | .pair a b, .pair c d,h=>by
   obtain⟨h1,h2⟩:=(ajB _ _▸(show(a.beq c&&b.beq d)=af from h):a.beq c=af/\b.beq d=af)
   rw[DR.eq_of_beq h1,DR.eq_of_beq h2]
 | .leaf _, .sl ..,h=>by cases h
 | .leaf _, .pair ..,h=>by cases h
 | .sl .., .leaf _,h=>by cases h
 | .sl .., .pair ..,h=>by cases h
 | .pair .., .leaf _,h=>by cases h
 | .pair .., .sl ..,h=>by cases h
def oP:List Bool->List Bool->Bool
 |[],[]=>af
 |a::p,b::q=>(bif a then b else !b)&&oP p q
 |_,_=>ah
theorem rB:{p q:List Bool}->oP p q=af->p=q
 |[],[],_=>rfl
 |a::p,b::q,h=>by
  have h':((bif a then b else !b)&&oP p q)=af:=h;rw[ajB]at h';rw[rB h'.2]
  grind
 |[],_::_,h=>by cases h
 |_::_,[],h=>by cases h
def flat(ob:Nat->Option (Nat×Th)):(r:Row)->Tree->Option r.den
 |r, .leaf s x=>if h:s.beq r=af then aa (jH (Row.eq_of_beq h) x)else ae
 | .slice e, .own o=>match ob o with
   |some (_, .u9 _ s l)=>if h:s.beq e=af then aa (jH (r:= .slice s) (s:= .slice e) (aw Row.slice (Row.eq_of_beq h)) l)else ae
   |some (_, .fdeep _ d l)=>if h:d.row.beq e=af then aa (jH (r:= .slice d.row) (s:= .slice e) (aw Row.slice (Row.eq_of_beq h)) l)else ae
   |_=>ae
 | .slice _, .nil=>aa []
 | .map K agg V, .own o=>match ob o with
   |some (_, .fmap _ K' eV V' l)=>if h:(Row.map K' eV V').beq (.map K agg V)=af then aa (jH (Row.eq_of_beq h) l)else ae
   |_=>ae
 | .slice e, .view o s r m=>match ob o with
   |some (s', .u9 ..)=>bif aiJ s' s then(if h:r.beq e=af then aa (jH (r:= .slice r) (s:= .slice e) (aw Row.slice (Row.eq_of_beq h)) m)else ae)else ae
   |_=>ae
 | .pair a b, .pair t u=>match flat ob a t with
   |none=>ae
   |some x=>match flat ob b u with
    |none=>ae
    |some y=>aa (x,y)
 |_,_=>ae
section
variable {U:Nat->Prop} {H:aK} {F:Nat->Prop} {w:World} {ob:Nat->Option (Nat×Th)} {n:Nat}
def yw(hs:aL U H F w ob n){o s:Nat}{T:TypeId}{r0 r:Row}{l0:List r0.den}{m:List r.den}{v:Value}(ho:ob o=aa (s, .u9 T r0 l0))(h:mj H o s r m v):cS F w (.slice r) [v] m:=by
 obtain⟨A,cap,T',l,a,b,h1,h2,h3,h4,rfl,rfl⟩:=h;obtain⟨v',eR,cL⟩:=hs.obj _ _ _ ho;rw[h1]at eR;obtain rfl:=aiC eR;have e:=cL.con;rw[h2]at e;simp only[Th.base,aiO,Th.own.injEq]at e;obtain⟨rfl,rfl,e⟩:=e;obtain rfl:=eq_of_heq e;exact cS.cut cL.ok h3 h4
theorem gO(hs:aL U H F w ob n):{r:Row}->{t:Tree}->{x:r.den}->{cs:List Value}->flat ob r t=aa x->Holds H F w t cs->cS F w r cs x
 |r, .leaf s x0,x,cs,hf,h=>by
  unfold flat at hf;split at hf
  .rename_i e;obtain rfl:=Row.eq_of_beq e;obtain rfl:=aiC hf;exact h
  .cases hf
 | .slice e, .own o,x,cs,hf,h=>by
   unfold flat at hf;split at hf
   .rename_i s0 T s l vY;split at hf
    .rename_i e;obtain rfl:=Row.eq_of_beq e;obtain rfl:=aiC hf;obtain⟨v,hv,_,rfl⟩:=h;obtain⟨v',eR,cL⟩:=hs.obj _ _ _ vY;rw[hv]at eR;obtain rfl:=aiC eR;exact cL.ok
    .cases hf
   .rename_i s0 T d l vY;split at hf
    .rename_i e;obtain rfl:=Row.eq_of_beq e;obtain rfl:=aiC hf;obtain⟨v,hv,_,rfl⟩:=h;obtain⟨v',eR,cL⟩:=hs.obj _ _ _ vY;rw[hv]at eR;obtain rfl:=aiC eR;exact cL.ok
    .cases hf
   .cases hf
 | .map K agg V, .own o,x,cs,hf,h=>by
   unfold flat at hf;split at hf
   .rename_i s0 T K' eV V' l vY;split at hf
    .rename_i e;cases Row.eq_of_beq e;obtain rfl:=aiC hf;obtain⟨v,hv,_,rfl⟩:=h;obtain⟨v',eR,cL⟩:=hs.obj _ _ _ vY;rw[hv]at eR;obtain rfl:=aiC eR;exact cL.ok
    .cases hf
   .cases hf
 | .slice e, .nil,x,cs,hf,h=>by
   unfold flat at hf;obtain rfl:=aiC hf;rw[show cs=_ from h];exact cS.nil F w e
 | .slice e, .view o s r m,x,cs,hf,h=>by
   unfold flat at hf;split at hf
   .rename_i s' T r' l' vY
    cases hb:aiJ s' s with
    |false=>grind
    |true=>
     rw[hb,cond_true]at hf;obtain rfl:=Nat.eq_of_beq_eq_true hb;split at hf
     .rename_i e;obtain rfl:=Row.eq_of_beq e;obtain rfl:=aiC hf;obtain⟨v,rfl,h⟩:=h;exact yw hs vY h
     .cases hf
   .cases hf
 | .pair a b, .pair t u,x,cs,hf,h=>by
   obtain⟨c1,c2,rfl,h1,h2⟩:=h;unfold flat at hf
   cases ha:flat ob a t with
   |none=>grind
   |some p=>
    cases hb:flat ob b u with
    |none=>grind
    |some q=>
     simp only[ha,hb,aiO]at hf;subst hf;exact⟨c1,c2,rfl,gO hs ha h1,gO hs hb h2⟩
 | .int _, .own _,_,_,hf,_=>by unfold flat at hf;cases hf
 | .bool, .own _,_,_,hf,_=>by unfold flat at hf;cases hf
 | .str, .own _,_,_,hf,_=>by unfold flat at hf;cases hf
 | .lz, .own _,_,_,hf,_=>by unfold flat at hf;cases hf
 | .nul _, .own _,_,_,hf,_=>by unfold flat at hf;cases hf
 | .pair _ _, .own _,_,_,hf,_=>by unfold flat at hf;cases hf
 | .int _, .nil,_,_,hf,_=>by unfold flat at hf;cases hf
 | .bool, .nil,_,_,hf,_=>by unfold flat at hf;cases hf
 | .str, .nil,_,_,hf,_=>by unfold flat at hf;cases hf
 | .lz, .nil,_,_,hf,_=>by unfold flat at hf;cases hf
 | .nul _, .nil,_,_,hf,_=>by unfold flat at hf;cases hf
 | .map .., .nil,_,_,hf,_=>by unfold flat at hf;cases hf
 | .pair _ _, .nil,_,_,hf,_=>by unfold flat at hf;cases hf
 | .int _, .view ..,_,_,hf,_=>by unfold flat at hf;cases hf
 | .bool, .view ..,_,_,hf,_=>by unfold flat at hf;cases hf
 | .str, .view ..,_,_,hf,_=>by unfold flat at hf;cases hf
 | .lz, .view ..,_,_,hf,_=>by unfold flat at hf;cases hf
 | .nul _, .view ..,_,_,hf,_=>by unfold flat at hf;cases hf
 | .map .., .view ..,_,_,hf,_=>by unfold flat at hf;cases hf
 | .pair _ _, .view ..,_,_,hf,_=>by unfold flat at hf;cases hf
 | .int _, .junk _,_,_,hf,_=>by unfold flat at hf;cases hf
 | .bool, .junk _,_,_,hf,_=>by unfold flat at hf;cases hf
 | .str, .junk _,_,_,hf,_=>by unfold flat at hf;cases hf
 | .slice _, .junk _,_,_,hf,_=>by unfold flat at hf;cases hf
 | .lz, .junk _,_,_,hf,_=>by unfold flat at hf;cases hf
 | .nul _, .junk _,_,_,hf,_=>by unfold flat at hf;cases hf
 | .map .., .junk _,_,_,hf,_=>by unfold flat at hf;cases hf
 | .pair _ _, .junk _,_,_,hf,_=>by unfold flat at hf;cases hf
 | .int _, .pair _ _,_,_,hf,_=>by unfold flat at hf;cases hf
 | .bool, .pair _ _,_,_,hf,_=>by unfold flat at hf;cases hf
 | .str, .pair _ _,_,_,hf,_=>by unfold flat at hf;cases hf
 | .lz, .pair _ _,_,_,hf,_=>by unfold flat at hf;cases hf
 | .nul _, .pair _ _,_,_,hf,_=>by unfold flat at hf;cases hf
 | .map .., .pair _ _,_,_,hf,_=>by unfold flat at hf;cases hf
 | .slice _, .pair _ _,_,_,hf,_=>by unfold flat at hf;cases hf
end
def Row.BL:Row->Tree
 | .slice _=> .nil
 | .pair a b=> .pair a.BL b.BL
 |r=> .leaf r r.zero
def Row.nA(H:aK)(F:Nat->Prop)(w:World):(r:Row)->Holds H F w r.BL r.fi
 | .int _=>rfl
 | .bool=>rfl
 | .str=>rfl
 | .slice _=>rfl
 | .lz=>⟨rfl,ae,0,0,rfl⟩
 | .nul _=>rfl
 | .map .. =>⟨_,rfl, .inl ⟨rfl,rfl⟩⟩
 | .pair a b=>⟨_,_,rfl,Row.nA H F w a,Row.nA H F w b⟩
end
end Go.Proofs.YtfeahmiobbjklaaGreatDoor
