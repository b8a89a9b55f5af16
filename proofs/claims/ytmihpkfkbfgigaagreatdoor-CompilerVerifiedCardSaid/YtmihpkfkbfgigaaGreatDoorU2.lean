/- Joined texts: Sym Eff Path Effs2 Effs3. -/
import Derived.Test.YtmihpkfkbfgigaaGreatDoorU1
section
open _root_.List renaming mem_append->ajL
open _root_.Nat renaming beq->aju,eq_of_beq_eq_true->akb,lt_of_lt_of_le->aj7
open _root_.Option renaming none_or->aku
open _root_.Option.some renaming inj->ajk,injEq->ajx
open _root_.Go.Value renaming oneCell'->akJ
namespace Go.Proofs.YtmihpkfkbfgigaaGreatDoor
open Go Go.RowKit
inductive Tree where
 |leaf (r:Row) (x:r.den)
 |own (o:Nat)
 |nil
 |pair (a b:Tree)
 |view (o s:Nat) (r:Row) (m:List r.den)
 |junk (n:Nat)
structure uV where
 i:Int
 p:List Bool
 o:Nat
 s:Nat
inductive Th where
 |box (T:TypeId) (t:Tree)
 |own (T:TypeId) (r:Row) (l:List r.den)
 |sj (T:TypeId) (r:Row) (l:List r.den)
 |map (T:TypeId) (K:Row) (agg:Bool) (V:Row) (l:List (K.den×V.den))
 |fmap (T:TypeId) (K:Row) (agg:Bool) (V:Row) (l:List (K.den×V.den))
 |deep (T:TypeId) (d:DR) (l:List d.row.den) (h:Option uV)
 |fdeep (T:TypeId) (d:DR) (l:List d.row.den)
 |dmap (T:TypeId) (K:Row) (E:TypeId) (r:Row) (l:List (K.den×List r.den)) (h:Option (K.den×Nat))
 |fdmap (T:TypeId) (K:Row) (E:TypeId) (r:Row) (l:List (K.den×List r.den))
def Th.base:Th->Th
 | .sj T r l=> .own T r l
 | .fmap T K agg V l=> .map T K agg V l
 | .fdeep T d l=> .deep T d l none
 | .fdmap T K E r l=> .dmap T K E r l none
 |t=>t
inductive al where
 |dead
 |undef
 |val (agg:Bool) (t:Tree)
 |ptr (o:Nat) (p:List Bool) (off:Nat)
 |at (r:Row) (x:r.den)
 |elem (o s:Nat) (r:Row) (i:Int) (x:r.den) (p:List Bool) (off:Nat)
 |tup (ds:List (Bool×Tree))
 |dlm (o:Nat) (d:DR) (i:Int) (p:List Bool) (off:Nat)
 |fn (f:FuncId) (caps:List (Nat×List Bool×Nat))
 |ifc (T:TypeId) (d:al)
structure aq where
 val:Nat->Option Value
 con:Nat->Option Th
 sub:Nat->Nat->Prop
structure aq.le(H H':aq):Prop where
 val:∀o v,H.val o=some v->H'.val o=some v
 con:∀s t,H.con s=some t->H'.con s=some t
 sub:∀s t,H.con s=some t->H'.sub s=H.sub s
theorem aq.le.refl(H:aq):H.le H:=⟨fun _ _ h=>h,fun _ _ h=>h,fun _ _ _=>rfl⟩
theorem aq.le.trans{H H' sq:aq}(h:H.le H')(k:H'.le sq):H.le sq:=⟨fun o v e=>k.val o v (h.val o v e),fun o v e=>k.con o v (h.con o v e),fun s t e=>(k.sub s t (h.con s t e)).trans (h.sub s t e)⟩
def lF(H:aq)(o s:Nat)(r:Row)(m:List r.den)(v:Value):Prop:=
 ∃A cap T,∃l:List r.den,∃a b,H.val o=some (.slice A l.length cap)/\H.con s=some (.own T r l)/\a<=b/\b<=l.length/\m=(l.take b).drop a/\v=sliced A a b cap r.size
theorem lF.keep{H H':aq}(hH:H.le H'){o s:Nat}{r:Row}{m:List r.den}{v:Value}(h:lF H o s r m v):lF H' o s r m v:=by
 obtain⟨A,cap,T,l,a,b,h1,h2,h3⟩:=h;exact⟨A,cap,T,l,a,b,hH.val _ _ h1,hH.con _ _ h2,h3⟩
theorem lF.back{H H' sq:aq}(hH:H.le H')(Dc:H.le sq){o s:Nat}{r:Row}{m:List r.den}{v0 v:Value}(h0:lF H o s r m v0)(h:lF H' o s r m v):lF sq o s r m v:=by
 obtain⟨A,cap,T,l,a,b,h1,h2,_⟩:=h0;obtain⟨A',Jm,T',l',a',b',k1,k2,k3⟩:=h;have e1:=hH.val _ _ h1;have e2:=hH.con _ _ h2;rw[k1]at e1;rw[k2]at e2;simp only[ajx,Th.own.injEq,heq_eq_eq,true_and]at e2;obtain⟨rfl,rfl⟩:=e2;exact⟨A',Jm,T',l',a',b',by rw[e1];exact Dc.val _ _ h1,Dc.con _ _ h2,k3⟩
theorem lF.one{H:aq}{o s:Nat}{r:Row}{m:List r.den}{v:Value}(h:lF H o s r m v):v.oneCell'=true:=by
 obtain⟨A,cap,T,l,a,b,_,_,_,_,_,rfl⟩:=h;simp[sliced,akJ]
def kX(H:aq):List (Nat×List Bool×Nat)->List Value->Prop
 |[],vs=>vs=[]
 |c::cs,vs=>∃v us,vs=v::us/\(∃b,H.val c.1=some (.pointer (some ⟨b,0,none⟩))/\v= .pointer (some ⟨b,c.2.2,none⟩))/\kX H cs us
theorem kX.keep{H H':aq}(hH:∀o v,H.val o=some v->H'.val o=some v):{cs:List (Nat×List Bool×Nat)}->{vs:List Value}->kX H cs vs->kX H' cs vs
 |[],_,h=>h
 |_::_,_,h=>by obtain⟨v,us,e,⟨b,h1,h2⟩,h3⟩:=h;exact⟨v,us,e,⟨b,hH _ _ h1,h2⟩,h3.keep hH⟩
def Holds(H:aq)(F:Nat->Prop)(w:World):Tree->List Value->Prop
 | .leaf r x,cs=>cD F w r cs x
 | .own o,cs=>∃v,H.val o=some v/\v.oneCell'=true/\cs=[v]
 | .nil,cs=>cs=[.slice none 0 0]
 | .pair a b,cs=>∃c1 c2,cs=c1++c2/\Holds H F w a c1/\Holds H F w b c2
 | .view o s r m,cs=>∃v,cs=[v]/\lF H o s r m v
 | .junk n,cs=>cs.length=n/\∀u∈cs,u.oneCell'=true
def Tree.size:Tree->Nat
 | .leaf r _=>r.size
 | .own _=>1
 | .nil=>1
 | .pair a b=>a.size+b.size
 | .view .. =>1
 | .junk n=>n
def aH(H:aq)(F:Nat->Prop)(w:World)(agg:Bool)(t:Tree)(v:Value):Prop:=
 ∃cs,Holds H F w t cs/\v=(bif agg then .agg cs.toArray else cs.headD undef)/\(agg=false->cs=[v])
def rb(H:aq)(F:Nat->Prop)(w:World):List (Bool×Tree)->List Value->Prop
 |[],vs=>vs=[]
 |d::ds,vs=>∃v us,vs=v::us/\aH H F w d.1 d.2 v/\rb H F w ds us
def aj(H:aq)(F:Nat->Prop)(w:World):al->Value->Prop
 | .dead,_=>True
 | .undef,v=>v=Go.undef
 | .val agg t,v=>aH H F w agg t v
 | .ptr o _ off,v=>∃b,H.val o=some (.pointer (some ⟨b,0,none⟩))/\v= .pointer (some ⟨b,off,none⟩)
 | .at r x,v=>∃b off,v= .pointer (some ⟨b,off,none⟩)/\F b/\At F w r b off x
 | .elem o s r i x _ off,v=>∃g o0 q T m cap l,H.val o=some (.slice (some ⟨g,o0,none⟩) m cap)/\i=(q:Nat)/\H.con s=some (.own T r l)/\idx l i=some x/\v= .pointer (some ⟨g,o0+q*r.size+off,none⟩)
 | .tup ds,v=>∃vs,v= .tuple vs.toArray/\rb H F w ds vs
 | .dlm o d i _ off,v=>∃g o0 q m cap,H.val o=some (.slice (some ⟨g,o0,none⟩) m cap)/\i=(q:Nat)/\v= .pointer (some ⟨g,o0+q*d.low.size+off,none⟩)
 | .fn f caps,v=>∃vs,v= .func (.func f) #[] vs.toArray/\kX H caps vs
 | .ifc T d,v=>∃u,v= .iface T u/\aj H F w d u
section
variable {H H':aq} {F F':Nat->Prop} {w w':World}
theorem Holds.length:{t:Tree}->{cs:List Value}->Holds H F w t cs->cs.length=t.size
 | .leaf _ _,_,h=>cD.length h
 | .own _,_,h=>by obtain⟨v,_,_,rfl⟩:=h;rfl
 | .nil,_,h=>by rw[show _=_ from h];rfl
 | .pair a b,_,h=>by obtain⟨c1,c2,rfl,h1,h2⟩:=h;simp[h1.length,h2.length,Tree.size]
 | .view ..,_,h=>by obtain⟨v,rfl,_⟩:=h;rfl
 | .junk _,_,h=>h.1
theorem Holds.je:{t:Tree}->{cs:List Value}->Holds H F w t cs->∀u∈cs,u.oneCell'=true
 | .leaf _ _,_,h=>cD.je h
 | .own _,_,h=>by obtain⟨v,_,h1,rfl⟩:=h;simpa using h1
 | .nil,_,h=>by rw[show _=_ from h];simp[akJ]
 | .pair a b,_,h=>by
   obtain⟨c1,c2,rfl,h1,h2⟩:=h;intro u hu
   rcases ajL.1 hu with h'|h'
   .exact h1.je u h'
   .exact h2.je u h'
 | .view ..,_,h=>by obtain⟨v,rfl,h⟩:=h;simpa using h.one
 | .junk _,_,h=>h.2
theorem Holds.keep(hH:H.le H')(hs:Step F w F' w'):{t:Tree}->{cs:List Value}->Holds H F w t cs->Holds H' F' w' t cs
 | .leaf _ _,_,h=>cD.step hs h
 | .own _,_,h=>by obtain⟨v,h0,h1,rfl⟩:=h;exact⟨v,hH.val _ _ h0,h1,rfl⟩
 | .nil,_,h=>h
 | .pair a b,_,h=>by obtain⟨c1,c2,rfl,h1,h2⟩:=h;exact⟨c1,c2,rfl,h1.keep hH hs,h2.keep hH hs⟩
 | .view ..,_,h=>by obtain⟨v,rfl,h⟩:=h;exact⟨v,rfl,h.keep hH⟩
 | .junk _,_,h=>h
theorem Holds.back{sq:aq}{w0:World}{F0:Nat->Prop}(hH:H.le H')(Dc:H.le sq):{t:Tree}->{Vs cs:List Value}->Holds H F0 w0 t Vs->Holds H' F w t cs->Holds sq F w t cs
 | .leaf _ _,_,_,_,h=>h
 | .own _,_,_,h0,h=>by
   obtain⟨v,a0,_,_⟩:=h0;obtain⟨u,b0,b1,rfl⟩:=h;have:=hH.val _ _ a0;rw[b0]at this;obtain rfl:=ajk this;exact⟨u,Dc.val _ _ a0,b1,rfl⟩
 | .nil,_,_,_,h=>h
 | .pair a b,_,_,h0,h=>by
   obtain⟨_,_,_,a1,a2⟩:=h0;obtain⟨c1,c2,rfl,h1,h2⟩:=h;exact⟨c1,c2,rfl,Holds.back (w0:=w0) (F0:=F0) hH Dc a1 h1,Holds.back (w0:=w0) (F0:=F0) hH Dc a2 h2⟩
 | .view ..,_,_,h0,h=>by
   obtain⟨_,_,h0⟩:=h0;obtain⟨v,rfl,h⟩:=h;exact⟨v,rfl,h0.back hH Dc h⟩
 | .junk _,_,_,_,h=>h
theorem aH.keep{agg:Bool}{t:Tree}{v:Value}(hH:H.le H')(hs:Step F w F' w')(h:aH H F w agg t v):aH H' F' w' agg t v:=by
 obtain⟨cs,h1,h2⟩:=h;exact⟨cs,h1.keep hH hs,h2⟩
theorem rb.keep(hH:H.le H')(hs:Step F w F' w'):{ds:List (Bool×Tree)}->{vs:List Value}->rb H F w ds vs->rb H' F' w' ds vs
 |[],_,h=>h
 |_::_,_,h=>by obtain⟨v,us,rfl,h1,h2⟩:=h;exact⟨v,us,rfl,h1.keep hH hs,h2.keep hH hs⟩
theorem At.keep{r:Row}{b off:Nat}{x:r.den}(hs:Step F w F' w')(hb:F b)(h:At F w r b off x):At F' w' r b off x:=by
 obtain⟨es,hl,hc,hr⟩:=h;exact⟨es,hl,fun j u hu=>(World.cell?_of_block (hs b hb).2).trans (hc j u hu),hr.step hs⟩
theorem aj.keep(hH:H.le H')(hs:Step F w F' w'):{d:al}->{v:Value}->aj H F w d v->aj H' F' w' d v
 | .dead,_,_=>trivial
 | .undef,_,h=>h
 | .val _ _,_,h=>aH.keep hH hs h
 | .ptr _ _ _,_,h=>by obtain⟨b,h1,h2⟩:=h;exact⟨b,hH.val _ _ h1,h2⟩
 | .at _ _,_,h=>by obtain⟨b,off,h1,h2,h3⟩:=h;exact⟨b,off,h1,(hs b h2).1,h3.keep hs h2⟩
 | .elem ..,_,h=>by obtain⟨g,o0,q,T,m,cap,l,h1,h2,h3,h4⟩:=h;exact⟨g,o0,q,T,m,cap,l,hH.val _ _ h1,h2,hH.con _ _ h3,h4⟩
 | .tup _,_,h=>by obtain⟨vs,h1,h2⟩:=h;exact⟨vs,h1,h2.keep hH hs⟩
 | .dlm ..,_,h=>by obtain⟨g,o0,q,m,cap,h1,h2,h3⟩:=h;exact⟨g,o0,q,m,cap,hH.val _ _ h1,h2,h3⟩
 | .fn ..,_,h=>by obtain⟨vs,h1,h2⟩:=h;exact⟨vs,h1,h2.keep hH.val⟩
 | .ifc _ d,_,h=>by obtain⟨u,h1,h2⟩:=h;exact⟨u,h1,aj.keep hH hs (d:=d) h2⟩
def find{α:Type}:List (Nat×α)->Nat->Option α
 |[],_=>none
 |(m,a)::l,n=>bif aju m n then some a else find l n
def del{α:Type}(ns:List Nat):List (Nat×α)->List (Nat×α)
 |[]=>[]
 |(m,a)::l=>bif ns.any (aju m)then del ns l else(m,a)::del ns l
theorem aD{α:Type}{m:Nat}{a:α}{l:List (Nat×α)}{n:Nat}:find ((m,a)::l) n=if m=n then some a else find l n:=by
 show(bif aju m n then some a else find l n)=_
 by_cases h:m=n
 .subst h;simp
 .rw[if_neg h]
  have:aju m n=false:=by
   cases hb:aju m n with
   |false=>rfl
   |true=>exact absurd (akb hb) h
  simp[this]
theorem gS{α:Type}{l l':List (Nat×α)}{n:Nat}:find (l++l') n=(find l n).or (find l' n):=by
 induction l with
 |nil=>rfl
 |cons p l ih=>
  obtain⟨m,a⟩:=p;rw[List.cons_append,aD,aD,ih]
  split<;>rfl
theorem any_beq{ns:List Nat}{m:Nat}:ns.any (aju m)=true↔m∈ns:=by
 simp only[List.any_eq_true,Nat.beq_eq];exact⟨fun⟨x,hx,e⟩=>e▸hx,fun h=>⟨m,h,rfl⟩⟩
theorem gU{α:Type}{ns:List Nat}{l:List (Nat×α)}{n:Nat}{a:α}:find (del ns l) n=some a↔n∉ns/\find l n=some a:=by
 induction l with
 |nil=>simp[del,find]
 |cons p l ih=>
  obtain⟨m,b⟩:=p;unfold del
  cases hm:ns.any (aju m)with
  |true=>
   have cn:=any_beq.1 hm;rw[cond_true,ih,aD];constructor
   .rintro⟨h1,h2⟩
    have bP:m≠n:=fun e=>h1 (e▸cn)
    exact⟨h1,by rw[if_neg bP];exact h2⟩
   .rintro⟨h1,h2⟩
    have bP:m≠n:=fun e=>h1 (e▸cn)
    rw[if_neg bP]at h2;exact⟨h1,h2⟩
  |false=>
   have cn:m∉ns:=fun e=>by rw[any_beq.2 e]at hm;cases hm
   rw[cond_false,aD,aD];by_cases h:m=n
   .subst h;simp[cn]
   .simp only[if_neg h];exact ih
def qw(F:Nat->Prop)(w:World):Prop:=∀g d,find EV g=some d->F g/\At F w d.1 g 0 d.2
theorem qw.step{F F':Nat->Prop}{w w':World}(h:qw F w)(hs:Step F w F' w'):qw F' w':=fun g d hg=>⟨(hs g (h g d hg).1).1,(h g d hg).2.keep hs (h g d hg).1⟩
def lQ(H:aq)(F:Nat->Prop)(w:World)(K:Row)(agg:Bool)(V:Row):List MapEntry->List (K.den×V.den)->Prop
 |[],l=>l=[]
 |e::es,l=>∃k x l',l=(k,x)::l'/\nS K k=some e.key/\aH H F w agg (.leaf V x) e.val/\lQ H F w K agg V es l'
theorem lQ.keep{H H':aq}{F F':Nat->Prop}{w w':World}(hH:H.le H')(hs:Step F w F' w'){K:Row}{agg:Bool}{V:Row}:{es:List MapEntry}->{l:List (K.den×V.den)}->lQ H F w K agg V es l->lQ H' F' w' K agg V es l
 |[],_,h=>h
 |_::_,_,h=>by obtain⟨k,x,l',e,h1,h2,h3⟩:=h;exact⟨k,x,l',e,h1,h2.keep hH hs,lQ.keep hH hs h3⟩
theorem lQ.iZ{H H':aq}{F:Nat->Prop}{w:World}{K:Row}{agg:Bool}{V:Row}:{es:List MapEntry}->{l:List (K.den×V.den)}->lQ H F w K agg V es l->lQ H' F w K agg V es l
 |[],_,h=>h
 |_::_,_,h=>by
  obtain⟨k,x,l',e,h1,⟨cs,h2,Jt⟩,h3⟩:=h;exact⟨k,x,l',e,h1,⟨cs,h2,Jt⟩,lQ.iZ h3⟩
noncomputable def gV:(K:Row)->K.den->K.den->Bool
 | .int _,a,b=>decide ((a:Int)=b)
 | .bool,a,b=>decide ((a:Bool)=b)
 | .str,a,b=>decide ((a:ByteArray)=b)
 |_,_,_=>false
def rc(F:Nat->Prop)(w:World)(E:TypeId)(r:Row)(v:Value)(y:List r.den)(A:Nat->Prop):Prop:=jW F w E r v y/\∀k,A k↔bq v k
def fQ(H:aq)(F:Nat->Prop)(w:World)(K:Row)(E:TypeId)(r:Row):Option (K.den×Nat)->List MapEntry->List (K.den×List r.den)->(Nat->Prop)->Prop
 |_,[],l,S=>l=[]/\∀k,¬S k
 |none,e::es,l,S=>∃k y l' A B,l=(k,y)::l'/\nS K k=some e.key/\rc F w E r e.val y A/\fQ H F w K E r none es l' B/\qW A B S
 |some (a,o),e::es,l,S=>∃k y l' A B,l=(k,y)::l'/\nS K k=some e.key/\((gV K k a=true/\H.val o=some e.val/\(∀j,¬A j)/\fQ H F w K E r none es l' B)\/(gV K k a=false/\rc F w E r e.val y A/\fQ H F w K E r (some (a,o)) es l' B))/\qW A B S
theorem rc.keep{F F':Nat->Prop}{w w':World}{E:TypeId}{r:Row}{v:Value}{y:List r.den}{A:Nat->Prop}(h:rc F w E r v y A)(hs:Step F w F' w')(hb:∀k,A k->w'.heap[k]? =w.heap[k]?):rc F' w' E r v y A:=
 ⟨h.1.keep hs fun k hk=>hb k ((h.2 k).2 hk),h.2⟩
theorem fQ.keep{H H':aq}{F F':Nat->Prop}{w w':World}{K:Row}{E:TypeId}{r:Row}(hs:Step F w F' w'):{h:Option (K.den×Nat)}->{es:List MapEntry}->{l:List (K.den×List r.den)}->{S:Nat->Prop}->(∀a o u,h=some (a,o)->H.val o=some u->H'.val o=some u)->fQ H F w K E r h es l S->(∀k,S k->w'.heap[k]? =w.heap[k]?)->fQ H' F' w' K E r h es l S
 |none,[],_,_,_,h,_=>h
 |some _,[],_,_,_,h,_=>h
 |none,_::_,_,_,hH,h,hb=>by
  obtain⟨k,y,l',A,B,e,h1,h2,h3,h4⟩:=h;exact⟨k,y,l',A,B,e,h1,h2.keep hs fun k hk=>hb k (h4.left k hk),h3.keep hs (fun _ _ _ e=>by cases e) fun k hk=>hb k (h4.right k hk),h4⟩
 |some (a,o),_::_,_,_,hH,h,hb=>by
  obtain⟨k,y,l',A,B,e,h1,h2,h4⟩:=h;refine⟨k,y,l',A,B,e,h1,?_,h4⟩
  rcases h2 with⟨g1,g2,g3,g4⟩|⟨g1,g2,g3⟩
  .exact .inl ⟨g1,hH _ _ _ rfl g2,g3,g4.keep hs (fun _ _ _ e=>by cases e) fun k hk=>hb k (h4.right k hk)⟩
  .exact .inr ⟨g1,g2.keep hs fun k hk=>hb k (h4.left k hk),g3.keep hs hH fun k hk=>hb k (h4.right k hk)⟩
def nX(H:aq)(F:Nat->Prop)(w:World)(d:DR)(h:Option uV)(i:Nat)(x':d.low.den)(x:d.row.den)(S:Nat->Prop):Prop:=
 match h with
 |none=>jU F w d x' x S
 |some h=>(h.i≠(i:Int)->jU F w d x' x S)/\(h.i=(i:Int)->∃T' e,∃q:fJ d (.sl T' e),d.path h.p=some ⟨_,q⟩/\lE F w q x' x S/\H.val h.o=some (q.lo.get x'))
theorem nX.keep{H H':aq}{F F':Nat->Prop}{w w':World}{d:DR}{h:Option uV}{i:Nat}{x':d.low.den}{x:d.row.den}{S:Nat->Prop}(hr:nX H F w d h i x' x S)(hH:H.le H')(hs:Step F w F' w')(hb:∀k,S k->w'.heap[k]? =w.heap[k]?):nX H' F' w' d h i x' x S:=by
 cases h with
 |none=>exact jU.keep hs hr hb
 |some h=>
  refine⟨fun hi=>(hr.1 hi).keep hs hb,fun hi=>?_⟩;obtain⟨T',e,q,h1,h2,h3⟩:=hr.2 hi;exact⟨T',e,q,h1,h2.keep hs hb,hH.val _ _ h3⟩
def fp(S:Nat->Prop)(v:Value):Th->Nat->Prop
 | .box ..,k=>v= .pointer (some ⟨k,0,none⟩)
 | .own ..,k=>bq v k
 | .sj ..,_=>False
 | .map ..,k=>v= .map (some k)
 | .fmap ..,_=>False
 | .deep ..,k=>S k
 | .fdeep ..,_=>False
 | .dmap ..,k=>S k
 | .fdmap ..,_=>False
def iE(H:aq)(F:Nat->Prop)(w:World)(S:Nat->Prop)(v:Value):Th->Prop
 | .box T t=>∃b es,v= .pointer (some ⟨b,0,none⟩)/\w.heap[b]? =some (.cells es.toArray T (0,0))/\Holds H F w t es
 | .own T r l=>∃xs,mJ w 0 T r.size v l.length xs/\∀i(h:i<l.length),cD F w r ((xs.drop (i*r.size)).take r.size) l[i]
 | .sj _ r l=>cD F w (.slice r) [v] l
 | .fmap _ K agg V l=>cD F w (.map K agg V) [v] l
 | .map _ K agg V l=>∃b es clock,v= .map (some b)/\w.heap[b]? =some (.map es clock)/\MapKept.Stamped es clock/\lQ H F w K agg V es.toList l
 | .deep T d l h=>GL F w T d.low (nX H F w d h) v l S
 | .fdeep _ d l=>cD F w (.slice d.row) [v] l
 | .dmap _ K E r l h=>∃b es clock B,v= .map (some b)/\w.heap[b]? =some (.map es clock)/\MapKept.Stamped es clock/\fQ H F w K E r h es.toList l B/\qW (is b) B S/\∀a o,h=some (a,o)->∃u,H.val o=some u
 | .fdmap _ K _ r l=>cD F w (.map K false (.slice r)) [v] l
structure GM(U:Nat->Prop)(H:aq)(F:Nat->Prop)(w:World)(v:Value)(s:Nat)(t:Th):Prop where
 one:v.oneCell'=true
 con:H.con s=some t.base
 ok:iE H F w (H.sub s) v t
 no:∀k,fp (H.sub s) v t k->¬F k
 lt:∀k,fp (H.sub s) v t k->k<w.heap.size
 use:∀k,fp (H.sub s) v t k->U k
structure au(U:Nat->Prop)(H:aq)(F:Nat->Prop)(w:World)(ob:Nat->Option (Nat×Th))(n:Nat):Prop where
 obj:∀o s t,ob o=some (s,t)->∃v,H.val o=some v/\GM U H F w v s t
 apart:∀o o' s s' t t' v v',o≠o'->ob o=some (s,t)->ob o'=some (s',t')->H.val o=some v->H.val o'=some v'->∀k,fp (H.sub s) v t k->¬fp (H.sub s') v' t' k
 fresh:∀m,n<=m->m<n+16->H.val m=none/\H.con m=none
 lt:∀b,F b->b<w.heap.size
 new:∀b,w.heap.size<=b->U b
 gl:qw F w
theorem iE.heap{S:Nat->Prop}{v:Value}{t:Th}(h:iE H F w S v t)(hH:H.le H')(hs:Step F w F' w')(hb:∀k,fp S v t k->w'.heap[k]? =w.heap[k]?):iE H' F' w' S v t:=by
 cases t with
 |box T t=>
  obtain⟨b,es,rfl,h1,h2⟩:=h;exact⟨b,es,rfl,(hb b rfl).trans h1,h2.keep hH hs⟩
 |own T r l=>
  obtain⟨xs,⟨R1,Jk⟩,h3⟩:=h;refine⟨xs,⟨R1,?_⟩,fun i hi=>(h3 i hi).step hs⟩
  rcases Jk with h2|⟨gg,o0,cap,cur,rfl,p5,hg,rest⟩
  .exact .inl h2
  .exact .inr ⟨gg,o0,cap,cur,rfl,p5,(hb gg rfl).trans hg,rest⟩
 |sj T r l=>exact cD.step (r:= .slice r) hs h
 |fmap T K agg V l=>exact cD.step (r:= .map K agg V) hs h
 |fdeep T d l=>exact cD.step (r:= .slice d.row) hs h
 |deep T d l hh=>exact GL.mono (show GL F w T d.low _ v l S from h) hs hb fun i x' hi A hA hr=>hr.keep hH hs fun k hk=>hb k (hA k hk)
 |map T K agg V l=>
  obtain⟨b,es,clock,rfl,h1,h2,h3⟩:=h;exact⟨b,es,clock,rfl,(hb b rfl).trans h1,h2,h3.keep hH hs⟩
 |fdmap T K E r l=>exact cD.step (r:= .map K false (.slice r)) hs h
 |dmap T K E r l hh=>
  obtain⟨b,es,clock,B,rfl,h1,h2,h3,h4,h5⟩:=h;exact⟨b,es,clock,B,rfl,(hb b (h4.left b rfl)).trans h1,h2,h3.keep hs (fun a o u _ hu=>hH.val _ _ hu) fun k hk=>hb k (h4.right k hk),h4,fun a o e=>(h5 a o e).imp fun u hu=>hH.val _ _ hu⟩
theorem jf.of{v:Value}{T:TypeId}{r:Row}{l:List r.den}{S:Nat->Prop}(h:iE H F w S v (.own T r l))(hn:∀k,bq v k->¬F k):jf 0 F w T r v l:=⟨hn,h⟩
theorem jf.to{v:Value}{T:TypeId}{r:Row}{l:List r.den}(S:Nat->Prop)(h:jf 0 F w T r v l):iE H F w S v (.own T r l):=h.2
end
structure State where
 ai:List (Nat×al)
 objs:List (Nat×(Nat×Th))
 nxt:Nat
def iR(H:aq)(n:Nat):Prop:=∀m,n<=m->H.val m=none/\H.con m=none
structure Sat(U:Nat->Prop)(H:aq)(F:Nat->Prop)(w:World)(ρ:Nat->Value)(st:State):Prop where
 slot:∀t d,find st.ai t=some d->aj H F w d (ρ t)
 ob:au U H F w (find st.objs) st.nxt
 all:iR H st.nxt
structure dY where
 dst:al
 eat:List Nat:=[]
 make:List (Nat×(Nat×Th)):=[]
def State.apply(st:State)(d:Option Nat)(e:dY):State:=
 {ai:=(match d with|some d=>(d,e.dst)::st.ai|none=>st.ai),objs:=e.make++del e.eat st.objs,nxt:=st.nxt+16}
def cm(H:aq)(ob:Nat->Option (Nat×Th))(eat:List Nat)(k:Nat):Prop:=∃o∈eat,∃s t v,ob o=some (s,t)/\H.val o=some v/\fp (H.sub s) v t k
structure Mc(H:aq)(F:Nat->Prop)(w:World)(H':aq)(F':Nat->Prop)(w':World)(g:Nat->Prop):Prop where
 iZ:H.le H'
 ext:Ext g w w'
 le:∀b,F b->F' b
 grow:∀b,F' b->F b\/w.heap.size<=b\/g b
 lt:∀b,F' b->b<w'.heap.size
structure Made(H':aq)(F':Nat->Prop)(w w':World)(g:Nat->Prop)(make:List (Nat×(Nat×Th))):Prop where
 obj:∀o s t,find make o=some (s,t)->∃v,H'.val o=some v/\v.oneCell'=true/\H'.con s=some t.base/\iE H' F' w' (H'.sub s) v t/\∀k,fp (H'.sub s) v t k->¬F' k/\k<w'.heap.size/\(w.heap.size<=k\/g k)
 apart:∀o o' s s' t t' v v',o≠o'->find make o=some (s,t)->find make o'=some (s',t')->H'.val o=some v->H'.val o'=some v'->∀k,fp (H'.sub s) v t k->¬fp (H'.sub s') v' t' k
structure mo(H:aq)(F:Nat->Prop)(w:World)(ob:Nat->Option (Nat×Th))(n:Nat)(e:dY)(v:Value)(w':World)(H':aq)(F':Nat->Prop):Prop where
 lG:Mc H F w H' F' w' (cm H ob e.eat)
 fresh:∀m,(m<n\/n+16<=m)->(H.val m=none->H'.val m=none)/\(H.con m=none->H'.con m=none)
 dst:aj H' F' w' e.dst v
 made:Made H' F' w w' (cm H ob e.eat) e.make
 ids:∀o,(find e.make o).isSome->o∈e.eat\/n<=o
def kS(H:aq)(F:Nat->Prop)(w:World)(ob:Nat->Option (Nat×Th))(n:Nat)(e:dY)(v:Value)(w':World):Prop:=∃H' F',mo H F w ob n e v w' H' F'
def uc(ρ:Nat->Value):Option Nat->Value->Nat->Value
 |some d,v=>C6 ρ d v
 |none,_=>ρ
theorem oG(ρ:Nat->Value)(d:Nat)(v:Value)(t:Nat):C6 ρ d v t=if t=d then v else ρ t:=by
 unfold C6;by_cases h:t=d
 .subst h;simp
 .have:aju t d=false:=by
   cases hb:aju t d with
   |false=>rfl
   |true=>exact absurd (akb hb) h
  simp[this,h]
section
variable {U:Nat->Prop} {H H':aq} {F F':Nat->Prop} {w w':World} {ρ:Nat->Value} {st:State}
theorem Mc.step{g:Nat->Prop}(h:Mc H F w H' F' w' g)(hF:∀b,F b->b<w.heap.size)(hg:∀k,g k->¬F k):Step F w F' w':=
 fun b hb=>⟨h.le b hb,h.ext.block b (hF b hb) fun e=>hg b e hb⟩
theorem au.gW{ob:Nat->Option (Nat×Th)}{n:Nat}(h:au U H F w ob n){eat:List Nat}:∀k,cm H ob eat k->¬F k:=by
 rintro k ⟨o,_,s,t,v,h1,h2,h3⟩
 obtain⟨v',e,hi⟩:=h.obj o s t h1;rw[h2]at e;obtain rfl:=ajk e;exact hi.no k h3
theorem au.uW{ob:Nat->Option (Nat×Th)}{n:Nat}(h:au U H F w ob n){eat:List Nat}:∀k,cm H ob eat k->k<w.heap.size:=by
 rintro k ⟨o,_,s,t,v,h1,h2,h3⟩
 obtain⟨v',e,hi⟩:=h.obj o s t h1;rw[h2]at e;obtain rfl:=ajk e;exact hi.lt k h3
theorem au.gD{ob:Nat->Option (Nat×Th)}{n:Nat}(h:au U H F w ob n){eat:List Nat}:∀k,cm H ob eat k->U k:=by
 rintro k ⟨o,_,s,t,v,h1,h2,h3⟩
 obtain⟨v',e,hi⟩:=h.obj o s t h1;rw[h2]at e;obtain rfl:=ajk e;exact hi.use k h3
theorem GM.lG{ob:Nat->Option (Nat×Th)}{n:Nat}(hs:au U H F w ob n){eat:List Nat}(he:Mc H F w H' F' w' (cm H ob eat)){o s:Nat}{t:Th}{v:Value}(ho:ob o=some (s,t))(hn:o∉eat)(hv:H.val o=some v)(h:GM U H F w v s t):GM U H' F' w' v s t:=by
 have Dd:∀k,fp (H.sub s) v t k->¬cm H ob eat k:=by
  rintro k hk ⟨o',kO,s',t',v',h1,h2,h3⟩
  exact hs.apart o o' s s' t t' v v' (fun e=>hn (e▸kO)) ho h1 hv h2 k hk h3
 have fY:=he.iZ.sub _ _ h.con;refine⟨h.one,he.iZ.con _ _ h.con,by rw[fY];exact h.ok.heap he.iZ (he.step hs.lt hs.gW) fun k hk=>he.ext.block k (h.lt k hk) (Dd k hk),fun k hk hF=>?_,fun k hk=>aj7 (h.lt k (by rwa [fY]at hk)) he.ext.size,fun k hk=>h.use k (by rwa [fY]at hk)⟩;rw[fY]at hk
 rcases he.grow k hF with h1|h1|h1
 .exact h.no k hk h1
 .have:=h.lt k hk;omega
 .exact Dd k hk h1
theorem au.Ju{ob Md Jv:Nat->Option (Nat×Th)}{n n' m:Nat}{e:dY}{v:Value}(h:au U H F w ob n)(hR:∀o x,Md o=some x->ob o=some x)(hp:mo H F w Md m e v w' H' F')
 (part:∀o s t,Jv o=some (s,t)->find e.make o=some (s,t)\/(o∉e.eat/\ob o=some (s,t)/\find e.make o=none))(Au:∀m,n'<=m->m<n'+16->H'.val m=none/\H'.con m=none):
 au U H' F' w' Jv n':=by
 have uX:∀k,cm H Md e.eat k->cm H ob e.eat k:=fun k ⟨o,ho,s,t,v,h1,h2⟩=>⟨o,ho,s,t,v,hR _ _ h1,h2⟩
 have Sc:Mc H F w H' F' w' (cm H ob e.eat):=⟨hp.lG.iZ,⟨hp.lG.ext.os,hp.lG.ext.tape,hp.lG.ext.output,hp.lG.ext.size,fun k hk hn=>hp.lG.ext.block k hk fun hh=>hn (uX k hh)⟩,hp.lG.le,fun b hb=>(hp.lG.grow b hb).imp id fun h=>h.imp id (uX b),hp.lG.lt⟩
 have GN:∀o s t,o∉e.eat->ob o=some (s,t)->∃v,H.val o=some v/\H'.val o=some v/\GM U H' F' w' v s t/\H'.sub s=H.sub s/\∀k,fp (H'.sub s) v t k->k<w.heap.size/\¬cm H ob e.eat k:=by
  intro o s t ho hf;obtain⟨v,hv,hi⟩:=h.obj o s t hf;have fY:=hp.lG.iZ.sub _ _ hi.con;refine⟨v,hv,hp.lG.iZ.val _ _ hv,hi.lG h Sc hf ho hv,fY,fun k hk=>?_⟩;rw[fY]at hk;refine⟨hi.lt k hk,?_⟩
  rintro⟨o',kO,s',t',v',h1,h2,h3⟩
  exact h.apart o o' s s' t t' v v' (fun e=>ho (e▸kO)) hf h1 hv h2 k hk h3
 refine⟨fun o s t ho=>?_,fun o o' s s' t t' v v' bP ho kO hv dz k hk dO=>?_,Au,hp.lG.lt,fun b hb=>h.new b (Nat.le_trans hp.lG.ext.size hb),h.gl.step (Sc.step h.lt h.gW)⟩
 .rcases part o s t ho with h1|⟨h1,h2,_⟩
  .obtain⟨v,a1,a2,a3,a4,a5⟩:=hp.made.obj o s t h1;exact⟨v,a1,a2,a3,a4,fun k hk=>(a5 k hk).1,fun k hk=>(a5 k hk).2.1,fun k hk=>(a5 k hk).2.2.elim (h.new k) (fun hh=>h.gD k (uX k hh))⟩
  .obtain⟨v,_,a2,a3,_,_⟩:=GN o s t h1 h2;exact⟨v,a2,a3⟩
 .rcases part o s t ho with h1|⟨h1,h2,_⟩<;>rcases part o' s' t' kO with tD|⟨tD,Jt,_⟩
  .exact hp.made.apart o o' s s' t t' v v' bP h1 tD hv dz k hk dO
  .obtain⟨u,_,a1,_,_,a5⟩:=hp.made.obj o s t h1;obtain⟨u',_,b2,_,_,b4⟩:=GN o' s' t' tD Jt;have e1:=ajk (dz.symm.trans b2);subst e1;have e2:=ajk (hv.symm.trans ‹H'.val o=some u›);subst e2
   rcases(a5 k hk).2.2 with h3|h3
   .have:=(b4 k dO).1;omega
   .exact(b4 k dO).2 (uX k h3)
  .obtain⟨u,_,a1,_,_,a5⟩:=hp.made.obj o' s' t' tD;obtain⟨u',_,b2,_,_,b4⟩:=GN o s t h1 h2;have e1:=ajk (hv.symm.trans b2);subst e1;have e2:=ajk (dz.symm.trans ‹H'.val o'=some u›);subst e2
   rcases(a5 k dO).2.2 with h3|h3
   .have:=(b4 k hk).1;omega
   .exact(b4 k hk).2 (uX k h3)
  .obtain⟨u,b1,b2,_,b5,_⟩:=GN o s t h1 h2;obtain⟨u',c1,c2,_,c5,_⟩:=GN o' s' t' tD Jt;rw[b5]at hk;rw[c5]at dO;have e1:=ajk (hv.symm.trans b2);have e2:=ajk (dz.symm.trans c2);subst e1;subst e2;exact h.apart o o' s s' t t' v v' bP h2 Jt b1 c1 k hk dO
theorem De{objs:List (Nat×(Nat×Th))}{e:dY}:∀o s t,find (e.make++del e.eat objs) o=some (s,t)->find e.make o=some (s,t)\/(o∉e.eat/\find objs o=some (s,t)/\find e.make o=none):=by
 intro o s t ho;rw[gS]at ho
 cases hm:find e.make o with
 |some x=>rw[hm]at ho;exact .inl ho
 |none=>
  rw[hm,aku]at ho;obtain⟨h1,h2⟩:=gU.1 ho;exact .inr ⟨h1,h2,rfl⟩
theorem Sat.apply{d:Option Nat}{e:dY}{v:Value}(h:Sat U H F w ρ st)(hp:mo H F w (find st.objs) st.nxt e v w' H' F'):Sat U H' F' w' (uc ρ d v) (st.apply d e):=by
 have gR:iR H' (st.nxt+16):=fun m hm=>⟨(hp.fresh m (.inr hm)).1 (h.all m (by omega)).1,(hp.fresh m (.inr hm)).2 (h.all m (by omega)).2⟩
 refine⟨fun t q hq=>?_,h.ob.Ju (fun _ _ h=>h) hp De fun m hm _=>gR m hm,gR⟩;have eM:=hp.lG.step h.ob.lt h.ob.gW
 cases d with
 |none=>exact(h.slot t q hq).keep hp.lG.iZ eM
 |some d=>
  have mM:find ((d,e.dst)::st.ai) t=some q:=hq;rw[aD]at mM
  show aj H' F' w' q (C6 ρ d v t)
  rw[oG];by_cases hd:d=t
  .rw[if_pos hd]at mM;rw[if_pos hd.symm];obtain rfl:=ajk mM;exact hp.dst
  .rw[if_neg hd]at mM;rw[if_neg (Ne.symm hd)];exact(h.slot t q mM).keep hp.lG.iZ eM
end
end Go.Proofs.YtmihpkfkbfgigaaGreatDoor
end
section
open _root_.BitVec renaming ofInt->ak1
open _root_.Int renaming tdiv->ajE,tmod->ajY
open _root_.Nat renaming blt->akf,le_refl->ajo
open _root_.Option.some renaming inj->ajk
namespace Go.Proofs.YtmihpkfkbfgigaaGreatDoor
open Go Go.RowKit
def cd(P:Program)(ρ:Nat->Value)(o:Oper)(w:World)(Q:Value->World->Prop):Prop:=
 match(execOp (ev ρ) o).run P w with
 | .ok (.value v) w'=>o.dst.isSome/\Q v w'
 | .ok .skip w'=>o.dst=none/\Q undef w'
 | .ok (.enter f args) w'=>Calls P f args w' fun e tE=>∃v,e= .returned v/\Q v tE
 |_=>False
section
variable {P:Program} {n:Nat} {ops:Array Oper} {K:(Nat->Value)->World->Prop} {rest:List Oper} {ρ:Nat->Value} {w:World}
variable {dst:Option Nat} {op:Op} {ty:TypeId} {pos:String} {aft:Array Edge} {Q:Value->World->Prop}
theorem cd.mono{o:Oper}{Q':Value->World->Prop}(h:cd P ρ o w Q)(hq:∀v w',Q v w'->Q' v w'):cd P ρ o w Q':=by
 unfold cd at*;generalize(execOp (ev ρ) o).run P w=r at*
 cases r with
 |halt x w'=>exact h
 |ok x w'=>
  cases x<;>first
   |exact h
   |exact⟨h.1,hq _ _ h.2⟩
   |exact h.mono fun e tE ⟨v,he,hv⟩=>⟨v,he,hq _ _ hv⟩
theorem cd.val{d:Nat}{v:Value}{w':World}(hr:(execOp (ev ρ) ⟨some d,op,ty,pos,aft,none⟩).run P w= .ok (.value v) w')(h:Q v w'):cd P ρ ⟨some d,op,ty,pos,aft,none⟩ w Q:=by
 unfold cd;rw[hr];exact⟨rfl,h⟩
theorem cd.unit{w':World}(hr:(execOp (ev ρ) ⟨none,op,ty,pos,aft,none⟩).run P w= .ok .skip w')(h:Q undef w'):cd P ρ ⟨none,op,ty,pos,aft,none⟩ w Q:=by
 unfold cd;rw[hr];exact⟨rfl,h⟩
theorem Av(h:cd P ρ ⟨dst,op,ty,pos,aft,none⟩ w Q)(hd:∀d,dst=some d->akf d n=true)
 (hk:∀v w',Q v w'->wpS P n ops K rest (uc ρ dst v) w'):wpS P n ops K (⟨dst,op,ty,pos,aft,none⟩::rest) ρ w:=
 fun QQ a hf Jw=>wpList_plain rfl fun K' hK=>by
  unfold Oper.wp;rw[hf.eval];unfold cd at h;generalize(execOp (ev ρ) ⟨dst,op,ty,pos,aft,none⟩).run P w=r at*
  have uY:∀v,Fr n (a.put dst v) (uc ρ dst v):=fun v=>by
   cases dst with
   |none=>exact hf
   |some d=>exact hf.put (hd d rfl) v
  cases r with
  |halt x w'=>exact h.elim
  |ok x w'=>
   cases x<;>first
    |exact h.elim
    |skip
   case value v=>exact hK _ _ (hk v w' h.2 QQ _ (uY v) Jw)
   case skip=>exact hK _ _ (hk undef w' h.2 QQ _ (uY undef) Jw)
   case enter f args=>
    refine h.mono fun e tE ⟨v,he,hv⟩=>?_
    subst he;exact hK _ _ (hk v tE hv QQ _ (uY v) Jw)
end
inductive IK where
 |int (k:IntKind)
 |bool
 |str
 |slice (e:TypeId)
 |struct (fs:List (TypeId×Nat))
 |array (n:Nat) (e:TypeId)
 |map (k v:TypeId)
 |ptr (e:TypeId)
 |other
def xy(P:Program)(t:TypeId):IK->Prop
 | .int k=>P.underlying t=some (.int k)
 | .bool=>P.underlying t=some .bool
 | .str=>P.underlying t=some .string
 | .slice e=>P.underlying t=some (.slice e)
 | .struct fs=>∃arr:Array Field,P.underlying t=some (.struct arr)/\arr.toList.map (fun f=>(f.type,f.offset))=fs
 | .array n e=>P.underlying t=some (.array n e)
 | .map k v=>P.underlying t=some (.map k v)
 | .ptr e=>P.underlying t=some (.pointer e)
 | .other=>∃d,P.underlying t=some d/\jT d=false
def Jx(P:Program)(t:TypeId)(agg:Bool)(r:Row):Prop:=∃z,(P.info? t).bind (·.zero)=some z/\z=(bif agg then .agg r.eL.toArray else r.eL.headD undef)
def p7(P:Program)(t:TypeId)(name:String)(f:FuncId)(pr:Bool):Prop:=
 ((P.info? t).bind fun i=>i.methods.find? fun m=>m.name==name).map (fun m=>(m.path.toList.length,m.func))=some (0,some (f,pr))
structure be(P:Program)where
 und:List (Nat×IK)
 row:List (Nat×Row)
 eqs:List (Nat×Row)
 zer:List (Nat×(Bool×Row))
 und_ok:∀t k,find und t=some k->xy P t k
 row_ok:∀t r,find row t=some r->TI P t r
 eqs_ok:∀t r,find eqs t=some r->∃K d,q7 P t r K/\d+K=10000/\P.eqGuardType P.depth t=false/\(P.underlying t).any jT=true
 zer_ok:∀t agg r,find zer t=some (agg,r)->Jx P t agg r
 mth:List (TypeId×(String×(FuncId×Bool)))
 mth_ok:∀p∈mth,p7 P p.1 p.2.1 p.2.2.1 p.2.2.2
def kP:IK->Bool
 | .struct _| .array _ _=>true
 |_=>false
theorem xy.agg{P:Program}{t:TypeId}{k:IK}(h:xy P t k):∃d,P.underlying t=some d/\jT d=kP k:=by
 cases k<;>first
  |exact⟨_,h,rfl⟩
  |(obtain⟨arr,h,_⟩:=h;exact⟨_,h,rfl⟩)
  |exact h
theorem oH{α:Type}{Q:Nat->α->Prop}{l:List (Nat×α)}(h:∀p∈l,Q p.1 p.2):∀t a,find l t=some a->Q t a:=by
 intro t a
 induction l with
 |nil=>intro h';cases h'
 |cons p l ih=>
  obtain⟨m,b⟩:=p;rw[aD];split
  .rename_i e;intro h';obtain rfl:=ajk h';subst e;exact h (m,b) (by simp)
  .exact ih (fun q hq=>h q (by simp[hq]))
def Df:Value->Option al
 | .int k n=>some (.val false (.leaf (.int k) n))
 | .bool b=>some (.val false (.leaf .bool b))
 | .string s=>some (.val false (.leaf .str s))
 | .slice none 0 0=>some (.val false .nil)
 | .map none=>some (.val false (.leaf (.nul .map) ()))
 | .pointer none=>some (.val false (.leaf (.nul .ptr) ()))
 | .nilFunc=>some (.val false (.leaf (.nul .func) ()))
 | .nilIface=>some .dead
 |_=>none
def IL(ai:List (Nat×al)):Operand->Option al
 | .tmp t=>find ai t
 | .const v=>Df v
 | .func f=>some (.fn f [])
 | .global g=>match find EV g with
   |some d=>some (.at d.1 d.2)
   |none=>none
theorem aH.mN{H:aq}{F:Nat->Prop}{w:World}{r:Row}{x:r.den}{v:Value}(h:cD F w r [v] x):aH H F w false (.leaf r x) v:=⟨[v],h,rfl,fun _=>rfl⟩
theorem GO{H:aq}{F:Nat->Prop}{w:World}{v:Value}{d:al}(h:Df v=some d):aj H F w d v:=by
 unfold Df at h
 split at h<;>first|cases h|skip
 .exact aH.mN rfl
 .exact aH.mN rfl
 .exact aH.mN rfl
 .exact⟨_,rfl,rfl,fun _=>rfl⟩
 .exact aH.mN rfl
 .exact aH.mN rfl
 .exact aH.mN rfl
 .trivial
theorem uZ{H:aq}{F:Nat->Prop}{w:World}{ρ:Nat->Value}{ai:List (Nat×al)}(hg:qw F w)(h:∀t d,find ai t=some d->aj H F w d (ρ t)):∀x d,IL ai x=some d->aj H F w d (ev ρ x):=by
 intro x d hx
 cases x with
 |tmp t=>exact h t d hx
 |const v=>exact GO hx
 |global g=>
  have Pv:(match find EV g with|some d=>some (al.at d.1 d.2)|none=>none)=some d:=hx;split at Pv
  .rename_i q hq;obtain rfl:=ajk Pv;obtain⟨h1,h2⟩:=hg g q hq;exact⟨g,0,rfl,h1,h2⟩
  .cases Pv
 |func f=>obtain rfl:=ajk hx;exact⟨[],rfl,rfl⟩
theorem aH.inv{H:aq}{F:Nat->Prop}{w:World}{r:Row}{x:r.den}{v:Value}(h:aH H F w false (.leaf r x) v):cD F w r [v] x:=by
 obtain⟨cs,h1,_,h3⟩:=h;rw[h3 rfl]at h1;exact h1
theorem aH.int{H:aq}{F:Nat->Prop}{w:World}{k:IntKind}{x:Int}{v:Value}(h:aH H F w false (.leaf (.int k) x) v):v= .int k x:=by
 have:=h.inv;simpa[cD]using this
theorem aH.bool{H:aq}{F:Nat->Prop}{w:World}{x:Bool}{v:Value}(h:aH H F w false (.leaf .bool x) v):v= .bool x:=by
 have:=h.inv;simpa[cD]using this
theorem aH.str{H:aq}{F:Nat->Prop}{w:World}{x:ByteArray}{v:Value}(h:aH H F w false (.leaf .str x) v):v= .string x:=by
 have:=h.inv;simpa[cD]using this
theorem aH.jF(H:aq)(F:Nat->Prop)(w:World)(k:IntKind)(x:Int):aH H F w false (.leaf (.int k) x) (.int k x):=aH.mN rfl
theorem aH.gk(H:aq)(F:Nat->Prop)(w:World)(x:Bool):aH H F w false (.leaf .bool x) (.bool x):=aH.mN rfl
theorem aH.mkStr(H:aq)(F:Nat->Prop)(w:World)(x:ByteArray):aH H F w false (.leaf .str x) (.string x):=aH.mN rfl
abbrev mq(k:IntKind)(x:Int):al:= .val false (.leaf (.int k) x)
abbrev dM(x:Bool):al:= .val false (.leaf .bool x)
abbrev Wj(x:ByteArray):al:= .val false (.leaf .str x)
def asInt:al->Option (IntKind×Int)
 | .val false (.leaf (.int k) x)=>some (k,x)
 |_=>none
def asBool:al->Option Bool
 | .val false (.leaf .bool x)=>some x
 |_=>none
def Aw:al->Option ByteArray
 | .val false (.leaf .str x)=>some x
 |_=>none
section
variable {P:Program} {ρ:Nat->Value} {w w':World} {H H':aq} {F F':Nat->Prop} {U:Nat->Prop} {ob:Nat->Option (Nat×Th)} {n:Nat} {R:Type}
variable {dst:Option Nat} {op:Op} {ty:TypeId} {pos:String} {aft:Array Edge} {d:Nat}
theorem gX{D:al}{k:IntKind}{x:Int}{v:Value}(h:asInt D=some (k,x))(hd:aj H F w D v):v= .int k x:=by
 unfold asInt at h
 split at h<;>cases h
 exact aH.int hd
theorem nq{D:al}{x:Bool}{v:Value}(h:asBool D=some x)(hd:aj H F w D v):v= .bool x:=by
 unfold asBool at h
 split at h<;>cases h
 exact aH.bool hd
theorem u5{D:al}{x:ByteArray}{v:Value}(h:Aw D=some x)(hd:aj H F w D v):v= .string x:=by
 unfold Aw at h
 split at h<;>cases h
 exact aH.str hd
def cG(P:Program)(_U:Nat->Prop)(H:aq)(F:Nat->Prop)(w:World)(ρ:Nat->Value)(ob:Nat->Option (Nat×Th))(n:Nat)(o:Oper)(e:dY):Prop:=
 cd P ρ o w (kS H F w ob n e)
theorem Mc.refl{g:Nat->Prop}(hF:∀b,F b->b<w.heap.size):Mc H F w H F w g:=⟨aq.le.refl H,⟨rfl,rfl,rfl,ajo _,fun _ _ _=>rfl⟩,fun _ h=>h,fun _ h=> .inl h,hF⟩
theorem Made.nil{g:Nat->Prop}:Made H' F' w w' g []:=⟨fun _ _ _ h=>(by cases h),fun _ _ _ _ _ _ _ _ _ h=>(by cases h)⟩
theorem mo.pure(hs:au U H F w ob n){D:al}{v:Value}(h:aj H F w D v):kS H F w ob n {dst:=D} v w:=
 ⟨H,F,Mc.refl hs.lt,fun m hm=>⟨id,id⟩,h,Made.nil,fun o h=>by cases h⟩
theorem bT(hs:au U H F w ob n){D:al}{v:Value}(hr:(execOp (ev ρ) ⟨some d,op,ty,pos,aft,none⟩).run P w= .ok (.value v) w)(h:aj H F w D v):cG P U H F w ρ ob n ⟨some d,op,ty,pos,aft,none⟩ {dst:=D}:=
 cd.val hr (mo.pure hs h)
theorem aL(hs:au U H F w ob n){D:al}{v:Value}(hr:Pure P ρ ⟨some d,op,ty,pos,aft,none⟩ v)(h:aj H F w D v):cG P U H F w ρ ob n ⟨some d,op,ty,pos,aft,none⟩ {dst:=D}:=
 bT hs (hr w) h
def fk(o:BinOp)(k:IntKind)(a b:Int):Int:=
 match o with
 | .and=>k.wrap (ak1 k.bits a&&& ak1 k.bits b).toNat
 | .or=>k.wrap (ak1 k.bits a|||ak1 k.bits b).toNat
 | .xor=>k.wrap (ak1 k.bits a ^^^ ak1 k.bits b).toNat
 |_=>k.wrap (ak1 k.bits a&&& ~~~ak1 k.bits b).toNat
def yJ(k:IntKind)(a b:Int):Int:=k.wrap (a*2 ^ min b.toNat k.bits)
def gm(k:IntKind)(a b:Int):Int:=a.fdiv (2 ^ min b.toNat k.bits)
def GP(k:IntKind)(a b:Int):Option Int:=if b<0 then none else some (yJ k a b)
def GQ(k:IntKind)(a b:Int):Option Int:=if b<0 then none else some (gm k a b)
def arith:BinOp->IntKind->Int->Int->Option al
 | .add,k,a,b=>some (mq k (k.wrap (a+b)))
 | .sub,k,a,b=>some (mq k (k.wrap (a-b)))
 | .mul,k,a,b=>some (mq k (k.wrap (a*b)))
 | .lss,_,a,b=>some (dM (decide (a<b)))
 | .leq,_,a,b=>some (dM (decide (a<=b)))
 | .gtr,_,a,b=>some (dM (decide (b<a)))
 | .geq,_,a,b=>some (dM (decide (b<=a)))
 | .eql,_,a,b=>some (dM (decide (a=b)))
 | .neq,_,a,b=>some (dM (!decide (a=b)))
 | .and,k,a,b=>some (mq k (fk .and k a b))
 | .or,k,a,b=>some (mq k (fk .or k a b))
 | .xor,k,a,b=>some (mq k (fk .xor k a b))
 | .andNot,k,a,b=>some (mq k (fk .andNot k a b))
 |_,_,_,_=>none
theorem pure_and{k:IntKind}{a b:Int}{t u:TypeId}{x y:Operand}(hx:ev ρ x= .int k a)(hy:ev ρ y= .int k b):Pure P ρ ⟨some d, .binOp .and t x y u,ty,pos,aft,none⟩ (.int k (fk .and k a b)):=fun w=>by simp[execOp,hx,hy,binOp,Op.intBits,eqGuard,fk,go_sem]
theorem pure_or{k:IntKind}{a b:Int}{t u:TypeId}{x y:Operand}(hx:ev ρ x= .int k a)(hy:ev ρ y= .int k b):Pure P ρ ⟨some d, .binOp .or t x y u,ty,pos,aft,none⟩ (.int k (fk .or k a b)):=fun w=>by simp[execOp,hx,hy,binOp,Op.intBits,eqGuard,fk,go_sem]
theorem Jy{k:IntKind}{a b:Int}{t u:TypeId}{x y:Operand}(hx:ev ρ x= .int k a)(hy:ev ρ y= .int k b):Pure P ρ ⟨some d, .binOp .xor t x y u,ty,pos,aft,none⟩ (.int k (fk .xor k a b)):=fun w=>by simp[execOp,hx,hy,binOp,Op.intBits,eqGuard,fk,go_sem]
theorem Ax{k:IntKind}{a b:Int}{t u:TypeId}{x y:Operand}(hx:ev ρ x= .int k a)(hy:ev ρ y= .int k b):Pure P ρ ⟨some d, .binOp .andNot t x y u,ty,pos,aft,none⟩ (.int k (fk .andNot k a b)):=fun w=>by simp[execOp,hx,hy,binOp,Op.intBits,eqGuard,fk,go_sem]
theorem Ay{k k':IntKind}{a b:Int}{t u:TypeId}{x y:Operand}(hx:ev ρ x= .int k a)(hy:ev ρ y= .int k' b)(hb:¬b<0):Pure P ρ ⟨some d, .binOp .shl t x y u,ty,pos,aft,none⟩ (.int k (yJ k a b)):=fun w=>by simp[execOp,hx,hy,binOp,Op.shift,eqGuard,yJ,hb,go_sem]
theorem Az{k k':IntKind}{a b:Int}{t u:TypeId}{x y:Operand}(hx:ev ρ x= .int k a)(hy:ev ρ y= .int k' b)(hb:¬b<0):Pure P ρ ⟨some d, .binOp .shr t x y u,ty,pos,aft,none⟩ (.int k (gm k a b)):=fun w=>by simp[execOp,hx,hy,binOp,Op.shift,eqGuard,gm,hb,go_sem]
theorem Jz{o:BinOp}{k:IntKind}{a b:Int}{D:al}{t u:TypeId}{x y:Operand}(h:arith o k a b=some D)(hs:au U H F w ob n)(hx:ev ρ x= .int k a)(hy:ev ρ y= .int k b):
 cG P U H F w ρ ob n ⟨some d, .binOp o t x y u,ty,pos,aft,none⟩ {dst:=D}:=by
 unfold arith at h
 split at h<;>cases h
 .exact aL hs (I5 hx hy) (aH.jF ..)
 .exact aL hs (I6 hx hy) (aH.jF ..)
 .exact aL hs (I7 hx hy) (aH.jF ..)
 .exact aL hs (Ja hx hy) (aH.gk ..)
 .exact aL hs (Jb hx hy) (aH.gk ..)
 .exact aL hs (Jc hx hy) (aH.gk ..)
 .exact aL hs (Jd hx hy) (aH.gk ..)
 .exact aL hs (Je hx hy) (aH.gk ..)
 .exact aL hs (Jf hx hy) (aH.gk ..)
 .exact aL hs (pure_and hx hy) (aH.jF ..)
 .exact aL hs (pure_or hx hy) (aH.jF ..)
 .exact aL hs (Jy hx hy) (aH.jF ..)
 .exact aL hs (Ax hx hy) (aH.jF ..)
def yK(a b:Int):Option Int:=if b=0 then none else some (ajE a b)
def GR(a b:Int):Option Int:=if b=0 then none else some (ajY a b)
def Sd:Operand->Bool
 | .const _=>true
 |_=>false
theorem JA{k:IntKind}{a b:Int}{t u:TypeId}{x y:Operand}(hb:b≠0)(hs:au U H F w ob n)(hx:ev ρ x= .int k a)(hy:ev ρ y= .int k b):
 cG P U H F w ρ ob n ⟨some d, .binOp .quo t x y u,ty,pos,aft,none⟩ {dst:=mq k (k.wrap (ajE a b))}:=
 aL hs (I8 hx hy hb) (aH.jF ..)
theorem JB{k:IntKind}{a b:Int}{t u:TypeId}{x y:Operand}(hb:b≠0)(hs:au U H F w ob n)(hx:ev ρ x= .int k a)(hy:ev ρ y= .int k b):
 cG P U H F w ρ ob n ⟨some d, .binOp .rem t x y u,ty,pos,aft,none⟩ {dst:=mq k (ajY a b)}:=
 aL hs (I9 hx hy hb) (aH.jF ..)
end
end Go.Proofs.YtmihpkfkbfgigaaGreatDoor
end
section
open _root_.Bool renaming and_eq_true->akD
open _root_.List renaming append_assoc->ajH,append_nil->akd,drop_append_of_le_length->aj5,drop_of_length_le->aj1,length_append->ajm,take_append_of_le_length->ajK,take_length->ajD
open _root_.Nat renaming beq->aju,eq_of_beq_eq_true->akb,zero_add->ajO
open _root_.Option.some renaming inj->ajk,injEq->ajx
open _root_.Prod.mk renaming inj->akO,injEq->akl
namespace Go.Proofs.YtmihpkfkbfgigaaGreatDoor
open Go Go.RowKit
def Tree.split:Tree->Option (Tree×Tree)
 | .leaf (.pair a b) x=>some (.leaf a x.1, .leaf b x.2)
 | .pair a b=>some (a,b)
 |_=>none
def Tree.get:Tree->List Bool->Option (Tree×Nat)
 |t,[]=>some (t,0)
 |t,d::p=>match t.split with
  |none=>none
  |some (a,b)=>match d with
   |false=>Tree.get a p
   |true=>match Tree.get b p with
    |none=>none
    |some (s,off)=>some (s,a.size+off)
def Tree.put:Tree->List Bool->Tree->Option Tree
 |_,[],u=>some u
 |t,d::p,u=>match t.split with
  |none=>none
  |some (a,b)=>match d with
   |false=>match Tree.put a p u with
    |none=>none
    |some a'=>some (.pair a' b)
   |true=>match Tree.put b p u with
    |none=>none
    |some b'=>some (.pair a b')
def rf:Nat->Nat->List Bool
 |0,_=>[]
 |1,_=>[]
 |_+2,0=>[false]
 |m+2,f+1=>true::rf (m+1) f
section
variable {H:aq} {F:Nat->Prop} {w:World}
theorem Holds.split{t a b:Tree}{cs:List Value}(hs:t.split=some (a,b))(h:Holds H F w t cs):∃c1 c2,cs=c1++c2/\Holds H F w a c1/\Holds H F w b c2/\t.size=a.size+b.size:=by
 unfold Tree.split at hs
 split at hs<;>cases hs
 .obtain⟨c1,c2,e,h1,h2⟩:=h;exact⟨c1,c2,e,h1,h2,rfl⟩
 .obtain⟨c1,c2,e,h1,h2⟩:=h;exact⟨c1,c2,e,h1,h2,rfl⟩
theorem Holds.get:{p:List Bool}->{t s:Tree}->{off:Nat}->{cs:List Value}->t.get p=some (s,off)->Holds H F w t cs->Holds H F w s ((cs.drop off).take s.size)/\off+s.size<=cs.length
 |[],t,s,off,cs,hg,h=>by
  obtain⟨rfl,rfl⟩:=akO (ajk hg);have hl:=h.length;refine⟨?_,by omega⟩;rw[List.drop_zero,<-hl,ajD];exact h
 |d::p,t,s,off,cs,hg,h=>by
  unfold Tree.get at hg
  cases r8:t.split with
  |none=>rw[r8]at hg;cases hg
  |some ab=>
   obtain⟨a,b⟩:=ab;rw[r8]at hg;obtain⟨c1,c2,rfl,h1,h2,_⟩:=h.split r8;have IM:=h1.length
   cases d with
   |false=>
    obtain⟨g1,g2⟩:=Holds.get hg h1;refine⟨?_,by rw[ajm];omega⟩;rw[aj5 (by omega),ajK (by rw[List.length_drop];omega)];exact g1
   |true=>
    cases hb:b.get p with
    |none=>simp only[hb]at hg;cases hg
    |some so=>
     obtain⟨s',dI⟩:=so;simp only[hb,ajx,akl]at hg;obtain⟨rfl,rfl⟩:=hg;obtain⟨g1,g2⟩:=Holds.get hb h2;refine⟨?_,by rw[ajm];omega⟩;rw[<-IM,List.drop_append,aj1 (by omega),List.nil_append,show c1.length+dI-c1.length=dI from by omega];exact g1
theorem Holds.put{u:Tree}{vs:List Value}(hu:Holds H F w u vs):{p:List Bool}->{t s t':Tree}->{off:Nat}->{cs:List Value}->t.get p=some (s,off)->t.put p u=some t'->s.size=u.size->Holds H F w t cs->
 Holds H F w t' (cs.take off++vs++cs.drop (off+u.size))
 |[],t,s,t',off,cs,hg,hp,hz,h=>by
  obtain⟨rfl,rfl⟩:=akO (ajk hg);obtain rfl:=ajk hp;have hl:=h.length;rw[List.take_zero,List.nil_append,ajO,aj1 (by omega),akd];exact hu
 |d::p,t,s,t',off,cs,hg,hp,hz,h=>by
  unfold Tree.get at hg;unfold Tree.put at hp
  cases r8:t.split with
  |none=>rw[r8]at hg;cases hg
  |some ab=>
   obtain⟨a,b⟩:=ab;rw[r8]at hg hp;obtain⟨c1,c2,rfl,h1,h2,_⟩:=h.split r8;have IM:=h1.length
   cases d with
   |false=>
    cases hq:a.put p u with
    |none=>simp only[hq]at hp;cases hp
    |some a'=>
     simp only[hq,ajx]at hp;subst hp;have h3:=Holds.put hu hg hq hz h1;have g2:=(Holds.get hg h1).2;refine⟨_,c2,?_,h3,h2⟩;rw[ajK (by omega),aj5 (by omega)];simp[ajH]
   |true=>
    cases hb:b.get p with
    |none=>simp only[hb]at hg;cases hg
    |some so=>
     obtain⟨s',dI⟩:=so;simp only[hb,ajx,akl]at hg;obtain⟨rfl,rfl⟩:=hg
     cases hq:b.put p u with
     |none=>simp only[hq]at hp;cases hp
     |some b'=>
      simp only[hq,ajx]at hp;subst hp;have h3:=Holds.put hu hb hq hz h2;refine⟨c1,_,?_,h1,h3⟩
      rw[<-IM,List.take_append,List.take_of_length_le (by omega),List.drop_append,aj1 (by omega),show c1.length+dI-c1.length=dI from by omega,
       show c1.length+dI+u.size-c1.length=dI+u.size from by omega]
      simp[ajH]
end
def II.beq:II->II->Bool
 | .map, .map=>true
 | .ptr, .ptr=>true
 | .func, .func=>true
 |_,_=>false
theorem II.eq_of_beq{a b:II}(h:a.beq b=true):a=b:=by cases a<;>cases b<;>first|rfl|cases h
def Row.beq:Row->Row->Bool
 | .int k, .int k'=>decide (k=k')
 | .bool, .bool=>true
 | .str, .str=>true
 | .jE, .jE=>true
 | .nul a, .nul b=>a.beq b
 | .map a x b, .map c y d=>a.beq c&&(bif x then y else !y)&&b.beq d
 | .slice a, .slice b=>a.beq b
 | .pair a b, .pair c d=>a.beq c&&b.beq d
 |_,_=>false
theorem Row.eq_of_beq:{r s:Row}->r.beq s=true->r=s
 | .int k, .int k',h=>by rw[of_decide_eq_true (show decide (k=k')=true from h)]
 | .bool, .bool,_=>rfl
 | .str, .str,_=>rfl
 | .jE, .jE,_=>rfl
 | .nul a, .nul b,h=>by rw[II.eq_of_beq (show a.beq b=true from h)]
 | .map a x b, .map c y d,h=>by
   have h':(a.beq c&&(bif x then y else !y)&&b.beq d)=true:=h;rw[akD,akD]at h'
   have yI:x=y:=by cases x<;>cases y<;>simp_all
   rw[Row.eq_of_beq h'.1.1,Row.eq_of_beq h'.2,yI]
 | .slice a, .slice b,h=>by rw[Row.eq_of_beq (show a.beq b=true from h)]
 | .pair a b, .pair c d,h=>by
   have h':(a.beq c&&b.beq d)=true:=h;rw[akD]at h';rw[Row.eq_of_beq h'.1,Row.eq_of_beq h'.2]
def iP{r s:Row}(h:r=s)(x:r.den):s.den:=h▸x
theorem Row.beq_refl:(r:Row)->r.beq r=true
 | .int k=>by simp[Row.beq]
 | .bool=>rfl
 | .str=>rfl
 | .jE=>rfl
 | .nul a=>by cases a<;>rfl
 | .map a x b=>by
   show(a.beq a&&(bif x then x else !x)&&b.beq b)=true
   rw[Row.beq_refl a,Row.beq_refl b]
   cases x<;>rfl
 | .slice a=>Row.beq_refl a
 | .pair a b=>by
   show(a.beq a&&b.beq b)=true
   rw[Row.beq_refl a,Row.beq_refl b];rfl
def DR.beq:DR->DR->Bool
 | .leaf r, .leaf s=>r.beq s
 | .sl T d, .sl T' d'=>aju T T'&&d.beq d'
 | .pair a b, .pair c d=>a.beq c&&b.beq d
 |_,_=>false
theorem DR.eq_of_beq:{d e:DR}->d.beq e=true->d=e
 | .leaf r, .leaf s,h=>by rw[Row.eq_of_beq (show r.beq s=true from h)]
 | .sl T d, .sl T' d',h=>by
   obtain⟨h1,h2⟩:=(akD _ _▸(show(aju T T'&&d.beq d')=true from h):aju T T'=true/\d.beq d'=true)
   rw[akb h1,DR.eq_of_beq h2]
 | .pair a b, .pair c d,h=>by
   obtain⟨h1,h2⟩:=(akD _ _▸(show(a.beq c&&b.beq d)=true from h):a.beq c=true/\b.beq d=true)
   rw[DR.eq_of_beq h1,DR.eq_of_beq h2]
 | .leaf _, .sl ..,h=>by cases h
 | .leaf _, .pair ..,h=>by cases h
 | .sl .., .leaf _,h=>by cases h
 | .sl .., .pair ..,h=>by cases h
 | .pair .., .leaf _,h=>by cases h
 | .pair .., .sl ..,h=>by cases h
theorem DR.beq_refl:(d:DR)->d.beq d=true
 | .leaf r=>Row.beq_refl r
 | .sl T d=>by show(aju T T&&d.beq d)=true;rw[DR.beq_refl d,Bool.and_true];exact Nat.beq_refl T
 | .pair a b=>by show(a.beq a&&b.beq b)=true;rw[DR.beq_refl a,DR.beq_refl b];rfl
def nY:List Bool->List Bool->Bool
 |[],[]=>true
 |a::p,b::q=>(bif a then b else !b)&&nY p q
 |_,_=>false
theorem qx:{p q:List Bool}->nY p q=true->p=q
 |[],[],_=>rfl
 |a::p,b::q,h=>by
  have h':((bif a then b else !b)&&nY p q)=true:=h;rw[akD]at h';rw[qx h'.2];have:=h'.1
  cases a<;>cases b<;>simp_all
 |[],_::_,h=>by cases h
 |_::_,[],h=>by cases h
def flat(ob:Nat->Option (Nat×Th)):(r:Row)->Tree->Option r.den
 |r, .leaf s x=>if h:s.beq r=true then some (iP (Row.eq_of_beq h) x)else none
 | .slice e, .own o=>match ob o with
   |some (_, .sj _ s l)=>if h:s.beq e=true then some (iP (r:= .slice s) (s:= .slice e) (congrArg Row.slice (Row.eq_of_beq h)) l)else none
   |some (_, .fdeep _ d l)=>if h:d.row.beq e=true then some (iP (r:= .slice d.row) (s:= .slice e) (congrArg Row.slice (Row.eq_of_beq h)) l)else none
   |_=>none
 | .slice _, .nil=>some []
 | .map K agg V, .own o=>match ob o with
   |some (_, .fmap _ K' lp V' l)=>if h:(Row.map K' lp V').beq (.map K agg V)=true then some (iP (Row.eq_of_beq h) l)else none
   |some (_, .fdmap _ K' _ r' l)=>if h:(Row.map K' false (.slice r')).beq (.map K agg V)=true then some (iP (r:= .map K' false (.slice r')) (Row.eq_of_beq h) l)else none
   |_=>none
 | .slice e, .view o s r m=>match ob o with
   |some (s', .sj ..)=>bif aju s' s then(if h:r.beq e=true then some (iP (r:= .slice r) (s:= .slice e) (congrArg Row.slice (Row.eq_of_beq h)) m)else none)else none
   |_=>none
 | .pair a b, .pair t u=>match flat ob a t with
   |none=>none
   |some x=>match flat ob b u with
    |none=>none
    |some y=>some (x,y)
 |_,_=>none
section
variable {U:Nat->Prop} {H:aq} {F:Nat->Prop} {w:World} {ob:Nat->Option (Nat×Th)} {n:Nat}
theorem xz(hs:au U H F w ob n){o s:Nat}{T:TypeId}{r0 r:Row}{l0:List r0.den}{m:List r.den}{v:Value}(ho:ob o=some (s, .sj T r0 l0))(h:lF H o s r m v):cD F w (.slice r) [v] m:=by
 obtain⟨A,cap,T',l,a,b,h1,h2,h3,h4,rfl,rfl⟩:=h;obtain⟨v',dz,cn⟩:=hs.obj _ _ _ ho;rw[h1]at dz;obtain rfl:=ajk dz;have e:=cn.con;rw[h2]at e;simp only[Th.base,ajx,Th.own.injEq]at e;obtain⟨rfl,rfl,e⟩:=e;obtain rfl:=eq_of_heq e;exact cD.cut cn.ok h3 h4
theorem iF(hs:au U H F w ob n):{r:Row}->{t:Tree}->{x:r.den}->{cs:List Value}->flat ob r t=some x->Holds H F w t cs->cD F w r cs x
 |r, .leaf s x0,x,cs,hf,h=>by
  unfold flat at hf;split at hf
  .rename_i e;obtain rfl:=Row.eq_of_beq e;obtain rfl:=ajk hf;exact h
  .cases hf
 | .slice e, .own o,x,cs,hf,h=>by
   unfold flat at hf;split at hf
   .rename_i s0 T s l wY;split at hf
    .rename_i e;obtain rfl:=Row.eq_of_beq e;obtain rfl:=ajk hf;obtain⟨v,hv,_,rfl⟩:=h;obtain⟨v',dz,cn⟩:=hs.obj _ _ _ wY;rw[hv]at dz;obtain rfl:=ajk dz;exact cn.ok
    .cases hf
   .rename_i s0 T d l wY;split at hf
    .rename_i e;obtain rfl:=Row.eq_of_beq e;obtain rfl:=ajk hf;obtain⟨v,hv,_,rfl⟩:=h;obtain⟨v',dz,cn⟩:=hs.obj _ _ _ wY;rw[hv]at dz;obtain rfl:=ajk dz;exact cn.ok
    .cases hf
   .cases hf
 | .map K agg V, .own o,x,cs,hf,h=>by
   unfold flat at hf;split at hf
   .rename_i s0 T K' lp V' l wY;split at hf
    .rename_i e;cases Row.eq_of_beq e;obtain rfl:=ajk hf;obtain⟨v,hv,_,rfl⟩:=h;obtain⟨v',dz,cn⟩:=hs.obj _ _ _ wY;rw[hv]at dz;obtain rfl:=ajk dz;exact cn.ok
    .cases hf
   .rename_i s0 T K' E r' l wY;split at hf
    .rename_i e;cases Row.eq_of_beq e;obtain rfl:=ajk hf;obtain⟨v,hv,_,rfl⟩:=h;obtain⟨v',dz,cn⟩:=hs.obj _ _ _ wY;rw[hv]at dz;obtain rfl:=ajk dz;exact cn.ok
    .cases hf
   .cases hf
 | .slice e, .nil,x,cs,hf,h=>by
   unfold flat at hf;obtain rfl:=ajk hf;rw[show cs=_ from h];exact cD.nil F w e
 | .slice e, .view o s r m,x,cs,hf,h=>by
   unfold flat at hf;split at hf
   .rename_i s' T r' l' wY
    cases hb:aju s' s with
    |false=>rw[hb]at hf;cases hf
    |true=>
     rw[hb,cond_true]at hf;obtain rfl:=akb hb;split at hf
     .rename_i e;obtain rfl:=Row.eq_of_beq e;obtain rfl:=ajk hf;obtain⟨v,rfl,h⟩:=h;exact xz hs wY h
     .cases hf
   .cases hf
 | .pair a b, .pair t u,x,cs,hf,h=>by
   obtain⟨c1,c2,rfl,h1,h2⟩:=h;unfold flat at hf
   cases ha:flat ob a t with
   |none=>simp only[ha]at hf;cases hf
   |some p=>
    cases hb:flat ob b u with
    |none=>simp only[ha,hb]at hf;cases hf
    |some q=>
     simp only[ha,hb,ajx]at hf;subst hf;exact⟨c1,c2,rfl,iF hs ha h1,iF hs hb h2⟩
 | .int _, .own _,_,_,hf,_=>by unfold flat at hf;cases hf
 | .bool, .own _,_,_,hf,_=>by unfold flat at hf;cases hf
 | .str, .own _,_,_,hf,_=>by unfold flat at hf;cases hf
 | .jE, .own _,_,_,hf,_=>by unfold flat at hf;cases hf
 | .nul _, .own _,_,_,hf,_=>by unfold flat at hf;cases hf
 | .pair _ _, .own _,_,_,hf,_=>by unfold flat at hf;cases hf
 | .int _, .nil,_,_,hf,_=>by unfold flat at hf;cases hf
 | .bool, .nil,_,_,hf,_=>by unfold flat at hf;cases hf
 | .str, .nil,_,_,hf,_=>by unfold flat at hf;cases hf
 | .jE, .nil,_,_,hf,_=>by unfold flat at hf;cases hf
 | .nul _, .nil,_,_,hf,_=>by unfold flat at hf;cases hf
 | .map .., .nil,_,_,hf,_=>by unfold flat at hf;cases hf
 | .pair _ _, .nil,_,_,hf,_=>by unfold flat at hf;cases hf
 | .int _, .view ..,_,_,hf,_=>by unfold flat at hf;cases hf
 | .bool, .view ..,_,_,hf,_=>by unfold flat at hf;cases hf
 | .str, .view ..,_,_,hf,_=>by unfold flat at hf;cases hf
 | .jE, .view ..,_,_,hf,_=>by unfold flat at hf;cases hf
 | .nul _, .view ..,_,_,hf,_=>by unfold flat at hf;cases hf
 | .map .., .view ..,_,_,hf,_=>by unfold flat at hf;cases hf
 | .pair _ _, .view ..,_,_,hf,_=>by unfold flat at hf;cases hf
 | .int _, .junk _,_,_,hf,_=>by unfold flat at hf;cases hf
 | .bool, .junk _,_,_,hf,_=>by unfold flat at hf;cases hf
 | .str, .junk _,_,_,hf,_=>by unfold flat at hf;cases hf
 | .slice _, .junk _,_,_,hf,_=>by unfold flat at hf;cases hf
 | .jE, .junk _,_,_,hf,_=>by unfold flat at hf;cases hf
 | .nul _, .junk _,_,_,hf,_=>by unfold flat at hf;cases hf
 | .map .., .junk _,_,_,hf,_=>by unfold flat at hf;cases hf
 | .pair _ _, .junk _,_,_,hf,_=>by unfold flat at hf;cases hf
 | .int _, .pair _ _,_,_,hf,_=>by unfold flat at hf;cases hf
 | .bool, .pair _ _,_,_,hf,_=>by unfold flat at hf;cases hf
 | .str, .pair _ _,_,_,hf,_=>by unfold flat at hf;cases hf
 | .jE, .pair _ _,_,_,hf,_=>by unfold flat at hf;cases hf
 | .nul _, .pair _ _,_,_,hf,_=>by unfold flat at hf;cases hf
 | .map .., .pair _ _,_,_,hf,_=>by unfold flat at hf;cases hf
 | .slice _, .pair _ _,_,_,hf,_=>by unfold flat at hf;cases hf
end
def Row.AA:Row->Tree
 | .slice _=> .nil
 | .pair a b=> .pair a.AA b.AA
 |r=> .leaf r r.zero
theorem Row.mO(H:aq)(F:Nat->Prop)(w:World):(r:Row)->Holds H F w r.AA r.eL
 | .int _=>rfl
 | .bool=>rfl
 | .str=>rfl
 | .slice _=>rfl
 | .jE=>⟨rfl,none,0,0,rfl⟩
 | .nul _=>rfl
 | .map .. =>⟨_,rfl, .inl ⟨rfl,rfl⟩⟩
 | .pair a b=>⟨_,_,rfl,Row.mO H F w a,Row.mO H F w b⟩
end Go.Proofs.YtmihpkfkbfgigaaGreatDoor
end
section
open _root_.Go.Addr.mk renaming injEq->akS
open _root_.Array renaming toArray_toList->aj9
open _root_.Int renaming toNat_natCast->ajr
open _root_.List renaming getElem?_drop->ajF,getElem?_map->akj,getElem?_take->ajU
open _root_.Nat renaming add_assoc->akq,add_mul->akk,add_zero->akm,beq->aju,blt->akf,eq_of_beq_eq_true->akb,le_refl->ajo,lt_of_lt_of_le->aj7
open _root_.Option renaming isSome_iff_exists->ajZ
open _root_.Option.some renaming inj->ajk,injEq->ajx
open _root_.Prod.mk renaming inj->akO,injEq->akl
open _root_.Go.Value renaming oneCell'->akJ
open _root_.Go.Value.pointer renaming injEq->ala
namespace Go.Proofs.YtmihpkfkbfgigaaGreatDoor
open Go Go.RowKit
section
variable {P:Program} {ρ:Nat->Value} {w w':World} {H H':aq} {F F':Nat->Prop} {U:Nat->Prop} {ob:Nat->Option (Nat×Th)} {n:Nat} {R:Type}
variable {op:Op} {ty:TypeId} {pos:String} {aft:Array Edge} {d:Nat}
theorem au.box(hs:au U H F w ob n){o s:Nat}{T:TypeId}{t:Tree}(ho:ob o=some (s, .box T t)){b:Nat}(hb:H.val o=some (.pointer (some ⟨b,0,none⟩))):
 ∃es,w.heap[b]? =some (.cells es.toArray T (0,0))/\Holds H F w t es:=by
 obtain⟨v,hv,hi⟩:=hs.obj _ _ _ ho;rw[hb]at hv;obtain rfl:=ajk hv;obtain⟨b',es,e,h1,h2⟩:=hi.ok;simp only[ala,ajx,akS,and_true]at e;subst e;exact⟨es,h1,h2⟩
theorem au.own(hs:au U H F w ob n){o s:Nat}{T:TypeId}{r:Row}{l:List r.den}(ho:ob o=some (s, .own T r l)){v:Value}(hv:H.val o=some v):jf 0 F w T r v l:=by
 obtain⟨v',dz,hi⟩:=hs.obj _ _ _ ho;rw[hv]at dz;obtain rfl:=ajk dz;exact⟨hi.no,hi.ok⟩
theorem AB{fs:List (TypeId×Nat)}{arr:Array Field}(ha:arr.toList.map (fun f=>(f.type,f.offset))=fs){f:Nat}{ft:TypeId}{off:Nat}(hf:fs[f]? =some (ft,off)):∃fd,arr[f]? =some fd/\fd.type=ft/\fd.offset=off:=by
 subst ha;rw[akj]at hf
 cases hq:arr.toList[f]? with
 |none=>rw[hq]at hf;cases hf
 |some fd=>
  rw[hq]at hf;simp only[Option.map_some,ajx,akl]at hf;exact⟨fd,by rw[<-Array.getElem?_toList];exact hq,hf.1,hf.2⟩
def sub(r:Row)(x:r.den)(p:List Bool):Option ((s:Row)×s.den×Nat):=
 match Tree.get (.leaf r x) p with
 |some (.leaf s y,off)=>some ⟨s,y,off⟩
 |_=>none
theorem Dg{r s:Row}{x:r.den}{y:s.den}{p:List Bool}{off b k:Nat}(h:sub r x p=some ⟨s,y,off⟩)(ha:At F w r b k x):At F w s b (k+off) y:=by
 unfold sub at h;split at h
 .rename_i s' y' dI hg;simp only[ajx,Sigma.mk.injEq]at h;obtain⟨rfl,h⟩:=h;obtain⟨rfl,rfl⟩:=akO (eq_of_heq h);obtain⟨es,hl,hc,hr⟩:=ha;obtain⟨g1,g2⟩:=Holds.get (H:=⟨fun _=>none,fun _=>none,fun _ _=>False⟩) (F:=F) (w:=w) (cs:=es) hg hr;have Se:cD F w s' ((es.drop dI).take s'.size) y':=g1;refine⟨_,Se.length,fun j u hu=>?_,Se⟩;rw[ajU]at hu;split at hu
  .rw[ajF]at hu;rw[akq];exact hc _ u hu
  .cases hu
 .cases h
def Dh(T:be P)(t:TypeId)(f:Nat)(D:al):Option al:=
 match find T.und t with
 |some (.struct fs)=>match fs[f]? with
  |some (ft,off)=>match find T.row ft with
   |some _=>match D with
    | .ptr o p k=>some (.ptr o (p++rf fs.length f) (k+off))
    | .at r x=>match sub r x (rf fs.length f)with
      |some ⟨s,y,dI⟩=>bif aju dI off then some (.at s y)else none
      |none=>none
    | .elem o s r i x p k=>some (.elem o s r i x (p++rf fs.length f) (k+off))
    | .dlm o d i p k=>some (.dlm o d i (p++rf fs.length f) (k+off))
    |_=>none
   |none=>none
  |none=>none
 |_=>none
theorem beq_true{m k:Nat}(h:aju m k=true):m=k:=akb h
theorem mr{α:Type}{b:Bool}{x:α}{y:α}(h:(bif b then some x else none)=some y):b=true/\x=y:=by
 cases b with
 |true=>exact⟨rfl,ajk h⟩
 |false=>cases h
theorem GS(T:be P){t:TypeId}{f:Nat}{D D':al}{x:Operand}(h:Dh T t f D=some D')(hs:au U H F w ob n)(hx:aj H F w D (ev ρ x)):
 cG P U H F w ρ ob n ⟨some d, .fieldAddr t x f,ty,pos,aft,none⟩ {dst:=D'}:=by
 unfold Dh at h;split at h
 case h_2=>cases h
 rename_i fs hu;obtain⟨arr,CQ,MD⟩:=T.und_ok _ _ hu;split at h
 case h_2=>cases h
 rename_i ft off hf;obtain⟨fd,Rz,rfl,rfl⟩:=AB MD hf;split at h
 case h_2=>cases h
 rename_i r' py;have u6:=T.row_ok _ _ py;split at h
 .obtain rfl:=ajk h;obtain⟨b,h1,h2⟩:=hx;exact aL hs (mK (r:=r') fd.offset CQ Rz u6 rfl h2) ⟨b,h1,rfl⟩
 .split at h
  .rename_i s y dI fY;obtain⟨h1,rfl⟩:=mr h;obtain rfl:=beq_true h1;obtain⟨b,k,h2,h3,h4⟩:=hx;exact aL hs (mK (r:=r') fd.offset CQ Rz u6 rfl h2) ⟨b,_,rfl,h3,Dg fY h4⟩
  .cases h
 .obtain rfl:=ajk h;obtain⟨g,o0,q,T',m,cap,l,h1,h2,h3,h4,h5⟩:=hx;exact aL hs (mK (r:=r') fd.offset CQ Rz u6 rfl h5) ⟨g,o0,q,T',m,cap,l,h1,h2,h3,h4,by rw[akq]⟩
 .obtain rfl:=ajk h;obtain⟨g,o0,q,m,cap,h1,h2,h5⟩:=hx;exact aL hs (mK (r:=r') fd.offset CQ Rz u6 rfl h5) ⟨g,o0,q,m,cap,h1,h2,by rw[akq]⟩
 .cases h
theorem cD.elemAt{r:Row}{v:Value}{l:List r.den}(h:cD F w (.slice r) [v] l){i:Int}{y:r.den}(hi:idx l i=some y):
 ∃b off cap k,v= .slice (some ⟨b,off,none⟩) l.length cap/\i=(k:Nat)/\k<l.length/\F b/\At F w r b (off+k*r.size) y:=by
 obtain⟨A,cap,hv,_,_,h4⟩:=h;obtain⟨k,hk,ao,rfl⟩:=fP hi;obtain⟨b,off,es,rfl,hF,qX,hc,hr⟩:=h4 k ao;exact⟨b,off,cap,k,by simpa using hv,hk,ao,hF,es,qX,hc,hr⟩
inductive JC where
 |read (r:Row) (l:List r.den)
 |own (o s:Nat) (T:TypeId) (r:Row) (l:List r.den)
 |nil
 |view (o s:Nat) (r:Row) (l:List r.den)
 |deep (o s:Nat) (T:TypeId) (d:DR) (l:List d.row.den) (h:Option uV)
def ud(ob:Nat->Option (Nat×Th)):al->Option JC
 | .val false (.leaf (.slice r) l)=>some (.read r l)
 | .val false .nil=>some .nil
 | .val false (.own o)=>match ob o with
   |some (s, .own T r l)=>some (.own o s T r l)
   |some (_, .sj _ r l)=>some (.read r l)
   |some (_, .fdeep _ d l)=>some (.read d.row l)
   |some (s, .deep T d l h)=>some (.deep o s T d l h)
   |_=>none
 | .val false (.view o s r m)=>match ob o with
   |some (s', .sj ..)=>bif aju s' s then some (.read r m)else some (.view o s r m)
   |_=>some (.view o s r m)
 |_=>none
def ME(U:Nat->Prop)(H:aq)(F:Nat->Prop)(w:World)(ob:Nat->Option (Nat×Th))(v:Value):JC->Prop
 | .read r l=>cD F w (.slice r) [v] l
 | .own o s T r l=>H.val o=some v/\ob o=some (s, .own T r l)/\jf 0 F w T r v l
 | .nil=>v= .slice none 0 0
 | .view o s r m=>lF H o s r m v
 | .deep o s T d l h=>H.val o=some v/\ob o=some (s, .deep T d l h)/\GM U H F w v s (.deep T d l h)
theorem iG(hs:au U H F w ob n){D:al}{k:JC}{v:Value}(h:ud ob D=some k)(hd:aj H F w D v):ME U H F w ob v k:=by
 unfold ud at h;split at h
 .cases h;exact aH.inv hd
 .cases h;obtain⟨cs,h1,_,h3⟩:=hd;have tD:cs=_:=h1;rw[h3 rfl]at tD;simpa[ME]using tD
 .rename_i o;obtain⟨cs,⟨u,hu,CQ,e⟩,_,h3⟩:=hd;rw[h3 rfl]at e
  obtain rfl:v=u:=by simpa using e
  split at h
  .rename_i s T r l wY;cases h;exact⟨hu,wY,hs.own wY hu⟩
  .rename_i s T r l wY;cases h;obtain⟨v',dz,hi⟩:=hs.obj _ _ _ wY;rw[hu]at dz;obtain rfl:=ajk dz;exact hi.ok
  .rename_i s T d l wY;cases h;obtain⟨v',dz,hi⟩:=hs.obj _ _ _ wY;rw[hu]at dz;obtain rfl:=ajk dz;exact hi.ok
  .rename_i s T d l h' wY;cases h;obtain⟨v',dz,hi⟩:=hs.obj _ _ _ wY;rw[hu]at dz;obtain rfl:=ajk dz;exact⟨hu,wY,hi⟩
  .cases h
 .rename_i o s r m;obtain⟨cs,⟨u,e,hu⟩,_,h3⟩:=hd;rw[h3 rfl]at e
  obtain rfl:v=u:=by simpa using e
  split at h
  .rename_i s' T r' l' wY
   cases hb:aju s' s with
   |false=>rw[hb]at h;cases h;exact hu
   |true=>
    rw[hb]at h;obtain rfl:=akb hb;cases h;exact xz hs wY hu
  .cases h;exact hu
 .cases h
def lH:Nat->(r:Row)->r.den->(e:Row)->Option (List e.den)
 |1,r,x,e=>if h:r.beq e=true then some [iP (Row.eq_of_beq h) x]else none
 |m+2, .pair a b,x,e=>if h:a.beq e=true then(match lH (m+1) b x.2 e with
  |some l=>some (iP (Row.eq_of_beq h) x.1::l)
  |none=>none)else none
 |_,_,_,_=>none
theorem EW{e:Row}{b:Nat}:{m:Nat}->{r:Row}->{x:r.den}->{l:List e.den}->{off:Nat}->lH m r x e=some l->At F w r b off x->l.length=m/\∀i(h:i<l.length),At F w e b (off+i*e.size) l[i]
 |0,r,x,l,off,h,_=>by unfold lH at h;cases h
 |1,r,x,l,off,h,ha=>by
  unfold lH at h;split at h
  case isFalse=>cases h
  rename_i hb;obtain rfl:=Row.eq_of_beq hb;obtain rfl:=ajk h;refine⟨rfl,fun i hi=>?_⟩
  obtain rfl:i=0:=by simp at hi;omega
  rw[Nat.zero_mul,akm];exact ha
 |m+2, .pair a b',x,l,off,h,ha=>by
  unfold lH at h;split at h
  case isFalse=>cases h
  rename_i hb;obtain rfl:=Row.eq_of_beq hb;split at h
  case h_2=>cases h
  rename_i l' hl;obtain rfl:=ajk h;obtain⟨g1,g2⟩:=EW hl (ha.snd _ rfl);refine⟨by simp[g1],fun i hi=>?_⟩
  cases i with
  |zero=>
   rw[Nat.zero_mul,akm];exact ha.fst
  |succ i=>
   have:=g2 i (by simpa using hi);rw[show off+(i+1)*a.size=off+a.size+i*a.size from by rw[akk];omega];exact this
 |m+2, .int _,_,_,_,h,_=>by unfold lH at h;cases h
 |m+2, .bool,_,_,_,h,_=>by unfold lH at h;cases h
 |m+2, .str,_,_,_,h,_=>by unfold lH at h;cases h
 |m+2, .slice _,_,_,_,h,_=>by unfold lH at h;cases h
 |m+2, .jE,_,_,_,h,_=>by unfold lH at h;cases h
 |m+2, .nul _,_,_,_,h,_=>by unfold lH at h;cases h
 |m+2, .map ..,_,_,_,h,_=>by unfold lH at h;cases h
theorem p8{t e:TypeId}{x y:Operand}{kd:IntKind}{a:Int}{ti:TypeInfo}{m oC off i:Nat}(size:Nat)(ht:P.underlying t=some (.array m e))(hi:P.info? e=some ti)(lM:ti.size=size)
 (hx:ev ρ x= .pointer (some ⟨oC,off,none⟩))(hy:ev ρ y= .int kd a)(ha:a=(i:Int))(ao:i<m):
 Pure P ρ ⟨some d, .indexAddr t x y,ty,pos,aft,none⟩ (.pointer (some ⟨oC,off+i*size,none⟩)):=fun w=>by
 subst lM;subst ha;simp[execOp,Instr.indexAt,Instr.sureAddr,asIntOf,run_underlying ht,sizeOf,typeInfo,hi,hx,hy,ao,cL]
theorem EX{α:Type}{b:Bool}{x:Option α}{y:α}(h:(bif b then x else none)=some y):b=true/\x=some y:=by
 cases b with
 |true=>exact⟨rfl,h⟩
 |false=>cases h
def pz(T:be P)(m:Nat)(e:TypeId)(D:al)(i:Int)(k:dY->Option R):Option R:=
 match find T.row e with
 |some re=>match D with
  | .at r x=>match lH m r x re with
    |some l=>(idx l i).bind fun y=>k {dst:= .at re y}
    |none=>none
  | .ptr o p off=>match i with
    | .ofNat j=>bif akf j m then k {dst:= .ptr o (p++rf m j) (off+j*re.size)}else none
    | .negSucc _=>none
  |_=>none
 |none=>none
theorem Di(T:be P){t:TypeId}{m:Nat}{e:TypeId}(hu:P.underlying t=some (.array m e)){D:al}{x y:Operand}{kd:IntKind}{i:Int}{k:dY->Option R}{q:R}(h:pz T m e D i k=some q)(hs:au U H F w ob n)(hx:aj H F w D (ev ρ x))(hy:ev ρ y= .int kd i):
 ∃e,k e=some q/\cG P U H F w ρ ob n ⟨some d, .indexAddr t x y,ty,pos,aft,none⟩ e:=by
 unfold pz at h;split at h
 case h_2=>cases h
 rename_i re hr;obtain⟨ti,z,h1,_,_,h4,_⟩:=T.row_ok _ _ hr;split at h
 case h_3=>cases h
 case h_2=>
  split at h
  case h_2=>cases h
  rename_i o p off _ j;obtain⟨ao,hk⟩:=EX h
  have ao:j<m:=by simpa using ao
  obtain⟨b,hb,hv⟩:=hx;exact⟨_,hk,aL hs (p8 re.size hu h1 h4 hv hy rfl ao) ⟨b,hb,rfl⟩⟩
 rename_i r v;split at h
 case h_2=>cases h
 rename_i l hl;obtain⟨a,ha,hk⟩:=bind_some h;obtain⟨b,off,hv,hF,oi⟩:=hx;obtain⟨g1,g2⟩:=EW hl oi;obtain⟨j,hj,ao,rfl⟩:=fP ha;exact⟨_,hk,aL hs (p8 re.size hu h1 h4 hv hy hj (by omega)) ⟨b,_,rfl,hF,g2 j ao⟩⟩
def sr(T:be P)(ob:Nat->Option (Nat×Th))(t:TypeId)(D:al)(i:Int)(k:dY->Option R):Option R:=
 match find T.und t with
 |some (.slice e)=>match find T.row e with
  |some re=>match ud ob D with
   |some (.read r l)=>bif aju r.size re.size then(idx l i).bind fun x=>k {dst:= .at r x}else none
   |some (.own o s _ r l)=>bif aju r.size re.size then(idx l i).bind fun x=>k {dst:= .elem o s r i x [] 0}else none
   |some (.deep o _ _ d l _)=>bif aju d.low.size re.size then(idx l i).bind fun _=>k {dst:= .dlm o d i [] 0}else none
   |_=>none
  |none=>none
 |some (.array m e)=>pz T m e D i k
 |_=>none
theorem GU(T:be P){t:TypeId}{D:al}{x y:Operand}{kd:IntKind}{i:Int}{k:dY->Option R}{q:R}(h:sr T ob t D i k=some q)(hs:au U H F w ob n)(hx:aj H F w D (ev ρ x))(hy:ev ρ y= .int kd i):
 ∃e,k e=some q/\cG P U H F w ρ ob n ⟨some d, .indexAddr t x y,ty,pos,aft,none⟩ e:=by
 unfold sr at h;split at h
 case h_3=>cases h
 case h_2=>rename_i m e hu;exact Di T (T.und_ok _ _ hu) h hs hx hy
 rename_i e hu;have hu:=T.und_ok _ _ hu;split at h
 case h_2=>cases h
 rename_i re hr;obtain⟨ti,z,h1,_,_,h4,_⟩:=T.row_ok _ _ hr;split at h
 .rename_i r l fZ
  cases hz:aju r.size re.size with
  |false=>rw[hz]at h;cases h
  |true=>
   rw[hz,cond_true]at h;have hz:=beq_true hz;obtain⟨a,ha,hk⟩:=bind_some h;have fZ:=iG hs fZ hx;obtain⟨b,off,cap,j,hv,hj,ao,hF,oi⟩:=cD.elemAt fZ ha;refine⟨_,hk,aL hs (mm r.size hu h1 (h4.trans hz.symm) hv hy hj ao) ⟨b,_,rfl,hF,oi⟩⟩
 .rename_i o s T' r l fZ
  cases hz:aju r.size re.size with
  |false=>rw[hz]at h;cases h
  |true=>
   rw[hz,cond_true]at h;have hz:=beq_true hz;obtain⟨a,ha,hk⟩:=bind_some h;obtain⟨hv,cU,eo⟩:=iG hs fZ hx;obtain⟨v',dz,cn⟩:=hs.obj _ _ _ cU;obtain⟨j,hj,ao,hja⟩:=fP ha;obtain⟨_,xs,Jk,_⟩:=eo
   rcases Jk.2 with⟨GV,h0⟩|⟨g,o0,cap,cur,yL,_,_,_⟩
   .omega
   .have hp:=mm (P:=P) (d:=some d) (ty:=ty) (pos:=pos) (aft:=aft) r.size hu h1 (h4.trans hz.symm) yL hy hj ao;refine⟨_,hk,aL hs hp ⟨g,o0,j,T',l.length,cap,l,?_,hj,cn.con,ha,rfl⟩⟩;rw[<-yL];exact hv
 .rename_i o s T' d' l hh fZ;obtain⟨hz,h⟩:=EX h;have hz:=beq_true hz;obtain⟨a,ha,hk⟩:=bind_some h;obtain⟨hv,cU,cn⟩:=iG hs fZ hx;obtain⟨j,hj,ao,hja⟩:=fP ha;obtain⟨lh,_,⟨xs,Jk,_⟩,Ah,_⟩:=cn.ok
  rcases Jk.2 with⟨GV,h0⟩|⟨g,o0,cap,cur,yL,_,_,_⟩
  .omega
  .have hp:=mm (P:=P) (d:=some d) (ty:=ty) (pos:=pos) (aft:=aft) d'.low.size hu h1 (h4.trans hz.symm) yL hy hj (by omega);refine⟨_,hk,aL hs hp ⟨g,o0,j,lh.length,cap,?_,hj,rfl⟩⟩;rw[<-yL];exact hv
 .cases h
theorem u7{b:Nat}{T:TypeId}{es:List Value}(hh:w.heap[b]? =some (.cells es.toArray T (0,0)))(j:Nat):w.cell? ⟨b,j,none⟩=es[j]? :=by
 rw[cell_of_row w b j _ T (0,0) hh];simp
theorem nu(T:be P){t:TypeId}{kk:IK}(hu:find T.und t=some kk){x:Operand}{b off:Nat}{s:Tree}{cs:List Value}(hx:ev ρ x= .pointer (some ⟨b,off,none⟩))(hs:au U H F w ob n)
 (hh:Holds H F w s cs)(hc:∀j u,cs[j]? =some u->w.cell? ⟨b,off+j,none⟩=some u)
 (hz:if kP kk=true then∃r,find T.row t=some r/\r.size=s.size else s.size=1):
 cG P U H F w ρ ob n ⟨some d, .load t x,ty,pos,aft,none⟩ {dst:= .val (kP kk) s}:=by
 obtain⟨dd,wW,xx⟩:=(T.und_ok _ _ hu).agg;have hl:=hh.length
 cases ha:kP kk with
 |true=>
  rw[if_pos ha]at hz;obtain⟨r,hr,IN⟩:=hz;obtain⟨ti,z,h1,_,_,h4,_⟩:=T.row_ok _ _ hr;exact bT hs (GA wW (xx.trans ha) h1 (by omega) hx hc) ⟨cs,hh,rfl,by simp⟩
 |false=>
  rw[if_neg (by simp[ha])]at hz
  obtain⟨v,rfl⟩:∃v,cs=[v]:=by
   match cs,hl.trans hz with
   |[v],_=>exact⟨v,rfl⟩
  exact bT hs (xr wW (xx.trans ha) hx (hc 0 v rfl)) ⟨[v],hh,rfl,fun _=>rfl⟩
def mu(T:be P)(t:TypeId)(kk:IK)(m:Nat):Bool:=
 bif kP kk then(match find T.row t with|some r=>aju r.size m|none=>false)else aju m 1
theorem jG(T:be P){t:TypeId}{kk:IK}{m:Nat}(h:mu T t kk m=true):if kP kk=true then∃r,find T.row t=some r/\r.size=m else m=1:=by
 unfold mu at h
 cases ha:kP kk with
 |true=>
  rw[ha,cond_true]at h;rw[if_pos rfl];split at h
  .rename_i r hr;exact⟨r,hr,beq_true h⟩
  .cases h
 |false=>
  rw[ha,cond_false]at h;rw[if_neg (by simp)];exact beq_true h
def xA(T:be P)(ob:Nat->Option (Nat×Th))(t:TypeId)(D:al)(k:dY->Option R):Option R:=
 match find T.und t with
 |none=>none
 |some kk=>match D with
  | .at r x=>bif mu T t kk r.size then k {dst:= .val (kP kk) (.leaf r x)}else none
  | .ptr o p off=>match ob o with
    |some (_, .box _ tr)=>match tr.get p with
     |some (s,dI)=>bif aju dI off&&mu T t kk s.size then k {dst:= .val (kP kk) s}else none
     |none=>none
    |_=>none
  | .elem o s r i x p off=>match ob o with
    |some (s', .own _ r' l)=>bif aju s' s then
      (match sub r x p with
      |some ⟨q,y,dI⟩=>bif aju dI off&&mu T t kk q.size then k {dst:= .val (kP kk) (.leaf q y)}else none
      |none=>none)
     else(idx l i).bind fun x'=>match sub r' x' p with
      |some ⟨q,y,dI⟩=>bif aju dI off&&mu T t kk q.size&&aju r'.size r.size then k {dst:= .val (kP kk) (.leaf q y)}else none
      |none=>none
    |_=>none
  |_=>none
theorem aG{α:Type}{b:Bool}{x:Option α}{y:α}(h:(bif b then x else none)=some y):b=true/\x=some y:=by
 cases b with
 |true=>exact⟨rfl,h⟩
 |false=>cases h
theorem cV{a b:Bool}(h:(a&&b)=true):a=true/\b=true:=by simpa using h
theorem EY(hs:au U H F w ob n){o s':Nat}{T':TypeId}{r':Row}{i:Int}{x':r'.den}{l:List r'.den}{g o0 q m cap:Nat}(cU:ob o=some (s', .own T' r' l))(hv:H.val o=some (.slice (some ⟨g,o0,none⟩) m cap))(hq:i=(q:Nat))(hi:idx l i=some x'):
 At F w r' g (o0+q*r'.size) x':=(hs.own cU hv).at rfl hq hi
theorem JD(T:be P){t:TypeId}{D:al}{x:Operand}{k:dY->Option R}{q:R}(h:xA T ob t D k=some q)(hs:au U H F w ob n)(hx:aj H F w D (ev ρ x)):
 ∃e,k e=some q/\cG P U H F w ρ ob n ⟨some d, .load t x,ty,pos,aft,none⟩ e:=by
 unfold xA at h;split at h
 .cases h
 rename_i kk hu;split at h
 .rename_i r y;obtain⟨h1,h2⟩:=aG h;obtain⟨b,off,e,hF,es,hl,hc,hr⟩:=hx;exact⟨_,h2,nu T hu e hs (s:= .leaf r y) hr hc (jG T h1)⟩
 .rename_i o p off;split at h
  .rename_i st0 T0 tr cU;split at h
   .rename_i s dI hg;obtain⟨h1,h2⟩:=aG h;obtain⟨h1,h3⟩:=cV h1;obtain rfl:=beq_true h1;obtain⟨b,hb,e⟩:=hx;obtain⟨es,hh,OB⟩:=hs.box cU hb;obtain⟨g1,g2⟩:=OB.get hg;refine⟨_,h2,nu T hu e hs g1 (fun j u hj=>?_) (jG T h3)⟩;rw[u7 hh];rw[ajU]at hj;split at hj
    .rwa [ajF]at hj
    .cases hj
   .cases h
  .cases h
 .rename_i o s r i y p off;split at h
  .rename_i s' T0 r' l cU;obtain⟨g,o0,qq,T',m,cap,l0,e1,e2,e3,e4,e5⟩:=hx
   cases wZ:aju s' s with
   |true=>
    rw[wZ,cond_true]at h;obtain rfl:=beq_true wZ;obtain⟨v,hv,cn⟩:=hs.obj _ _ _ cU;have hc:=cn.con;rw[e3]at hc
    obtain⟨rfl,uv⟩:T'=T0/\(⟨r,l0⟩:(r:Row)×List r.den)=⟨r',l⟩:=by
     have:=ajk hc;simp only[Th.base,Th.own.injEq]at this;obtain⟨a,b,c⟩:=this;subst b;exact⟨a,by rw[eq_of_heq c]⟩
    cases uv;split at h
    .rename_i q' y' dI fY;obtain⟨h1,h2⟩:=aG h;obtain⟨h1,h3⟩:=cV h1;obtain rfl:=beq_true h1;obtain⟨es,hl,MF,hr⟩:=Dg fY (EY hs cU e1 e2 e4);exact⟨_,h2,nu T hu e5 hs (s:= .leaf q' y') hr MF (jG T h3)⟩
    .cases h
   |false=>
    rw[wZ,cond_false]at h;obtain⟨x',Pv,h⟩:=bind_some h;split at h
    .rename_i q' y' dI fY;obtain⟨h1,h2⟩:=aG h;obtain⟨h1,h4⟩:=cV h1;obtain⟨h1,h3⟩:=cV h1;obtain rfl:=beq_true h1;have h4:=beq_true h4;obtain⟨es,hl,MF,hr⟩:=Dg fY (EY hs cU e1 e2 Pv);rw[h4]at MF;exact⟨_,h2,nu T hu e5 hs (s:= .leaf q' y') hr MF (jG T h3)⟩
    .cases h
  .cases h
 .cases h
end
end Go.Proofs.YtmihpkfkbfgigaaGreatDoor
namespace Go.Proofs.YtmihpkfkbfgigaaGreatDoor
open Go Go.RowKit
def Dj:(r:Row)->List Bool->Option ((s:Row)×Path r s)
 |r,[]=>some ⟨r, .here⟩
 | .pair a b,d::p=>match d with
   |false=>match Dj a p with
    |some ⟨s,q⟩=>some ⟨s, .fst q⟩
    |none=>none
   |true=>match Dj b p with
    |some ⟨s,q⟩=>some ⟨s, .snd q⟩
    |none=>none
 |_,_::_=>none
section
variable {P:Program} {ρ:Nat->Value} {w w':World} {H H':aq} {F F':Nat->Prop} {U:Nat->Prop} {ob:Nat->Option (Nat×Th)} {n:Nat} {R:Type}
variable {op:Op} {ty:TypeId} {pos:String} {aft:Array Edge} {d:Nat}
def aq.bK(H:aq)(s:Nat)(t:Th):aq:=⟨H.val,fun m=>if m=s then some t else H.con m,H.sub⟩
def aq.cW(H:aq)(o:Nat)(v:Value):aq:=⟨fun m=>if m=o then some v else H.val m,H.con,H.sub⟩
def aq.fe(H:aq)(s:Nat)(S:Nat->Prop):aq:=⟨H.val,H.con,fun m=>if m=s then S else H.sub m⟩
theorem aq.iH{H:aq}{s:Nat}{t:Th}(h:H.con s=none):H.le (H.bK s t):=⟨fun _ _ h=>h,fun m q hq=>by
 by_cases e:m=s
 .subst e;rw[h]at hq;cases hq
 .simp[aq.bK,e,hq],fun _ _ _=>rfl⟩
theorem aq.GW{H:aq}{s:Nat}{S:Nat->Prop}(h:H.con s=none):H.le (H.fe s S):=⟨fun _ _ h=>h,fun _ _ h=>h,fun m t hm=>by
 have:m≠s:=fun e=>by rw[e,h]at hm;cases hm
 simp[aq.fe,this]⟩
theorem aq.pA{H:aq}{s:Nat}{t:Value}(h:H.val s=none):H.le (H.cW s t):=⟨fun m q hq=>by
 by_cases e:m=s
 .subst e;rw[h]at hq;cases hq
 .simp[aq.cW,e,hq],fun _ _ h=>h,fun _ _ _=>rfl⟩
theorem bW{α:Type}{o o':Nat}{x y:α}(h:find [(o,x)] o'=some y):o'=o/\y=x:=by
 rw[aD]at h;split at h
 .rename_i e;exact⟨e.symm,(ajk h).symm⟩
 .cases h
theorem mo.yM(hs:au U H F w ob n){o s:Nat}{t t':Th}{v0:Value}(ho:ob o=some (s,t))(hv:H.val o=some v0)(hb:t'.base=t')(JE:∀k,fp (H.sub n) v0 t' k->fp (H.sub s) v0 t k){D:al}{v:Value}
 (bU:Ext (fp (H.sub s) v0 t) w w')(nn:iE (H.bK n t') F w' (H.sub n) v0 t')(hd:aj (H.bK n t') F w' D v):kS H F w ob n {dst:=D,eat:=[o],make:=[(o,(n,t'))]} v w':=by
 obtain⟨v1,uy,cn⟩:=hs.obj _ _ _ ho;rw[hv]at uy;obtain rfl:=ajk uy
 have kQ:∀k,fp (H.sub s) v0 t k->cm H ob [o] k:=fun k hk=>⟨o,by simp,s,t,v0,ho,hv,hk⟩
 refine⟨H.bK n t',F,⟨aq.iH (hs.fresh n (ajo _) (by omega)).2,⟨bU.os,bU.tape,bU.output,bU.size,fun k hk hn=>bU.block k hk fun e=>hn (kQ k e)⟩,fun _ h=>h,fun _ h=> .inl h,fun b hb=>aj7 (hs.lt b hb) bU.size⟩,fun m hm=>?_,hd,⟨fun o' s' q hq=>?_,fun o1 o2 s1 s2 q1 q2 u1 u2 bP h1 h2=>?_⟩,fun o' h=>?_⟩
 .refine⟨id,fun h=>?_⟩;simp[aq.bK,show m≠n from by omega,h]
 .obtain⟨rfl,e⟩:=bW hq;obtain⟨rfl,rfl⟩:=akO e;refine⟨v0,hv,cn.one,by simp[aq.bK,hb],nn,fun k hk=>⟨cn.no k (JE k hk),aj7 (cn.lt k (JE k hk)) bU.size, .inr (kQ k (JE k hk))⟩⟩
 .exact absurd ((bW h1).1.trans (bW h2).1.symm) bP
 .left
  obtain⟨y,hy⟩:=ajZ.1 h;rw[(bW hy).1];simp
theorem mo.new(hs:au U H F w ob n){eat:List Nat}{t:Th}{v0:Value}(hb:t.base=t)(h1:v0.oneCell'=true){D:al}{v:Value}
 (bU:Ext (cm H ob eat) w w')(nn:iE ((H.bK n t).cW n v0) F w' (H.sub n) v0 t)(JE:∀k,fp (H.sub n) v0 t k->¬F k/\k<w'.heap.size/\(w.heap.size<=k\/cm H ob eat k))
 (hd:aj ((H.bK n t).cW n v0) F w' D v):kS H F w ob n {dst:=D,eat:=eat,make:=[(n,(n,t))]} v w':=by
 have hf:=hs.fresh n (ajo _) (by omega);refine⟨(H.bK n t).cW n v0,F,⟨(aq.iH hf.2).trans (aq.pA (by simp[aq.bK,hf.1])),bU,fun _ h=>h,fun _ h=> .inl h,fun b hb=>aj7 (hs.lt b hb) bU.size⟩,fun m hm=>?_,hd,⟨fun o' s' q hq=>?_,fun o1 o2 s1 s2 q1 q2 u1 u2 bP h1 h2=>?_⟩,fun o' h=>?_⟩
 .simp[aq.bK,aq.cW,show m≠n from by omega]
 .obtain⟨rfl,e⟩:=bW hq;obtain⟨rfl,rfl⟩:=akO e;exact⟨v0,by simp[aq.cW],h1,by simp[aq.bK,aq.cW,hb],nn,JE⟩
 .exact absurd ((bW h1).1.trans (bW h2).1.symm) bP
 .right
  obtain⟨y,hy⟩:=ajZ.1 h;rw[(bW hy).1];exact ajo _
def su(T:be P)(ob:Nat->Option (Nat×Th))(n:Nat)(t:TypeId)(D V:al)(k:dY->Option R):Option R:=
 match find T.row t with
 |none=>none
 |some rt=>match V with
  | .val _ u=>match D with
    | .ptr o p off=>match ob o with
      |some (_, .box T0 tr)=>match tr.get p with
       |some (s,dI)=>bif aju dI off&&aju rt.size s.size&&aju u.size s.size then
         (match tr.put p u with
         |some Vt=>k {dst:= .dead,eat:=[o],make:=[(o,(n, .box T0 Vt))]}
         |none=>none)else none
       |none=>none
      |_=>none
    | .elem o s r i x p off=>match ob o with
      |some (s', .own T0 r' l)=>match Dj r' p with
       |some ⟨q,xB⟩=>bif aju xB.off off&&aju rt.size q.size&&aju r'.size r.size then
         (match flat ob q u with
         |some y=>bif aju s' s then
           (if h:r.beq r'=true then k {dst:= .dead,eat:=[o],make:=[(o,(n, .own T0 r' (aQ l i (xB.set (iP (Row.eq_of_beq h) x) y))))]}else none)
          else(idx l i).bind fun x'=>k {dst:= .dead,eat:=[o],make:=[(o,(n, .own T0 r' (aQ l i (xB.set x' y))))]}
         |none=>none)else none
       |none=>none
      |_=>none
    |_=>none
  |_=>none
theorem aH.cells{agg:Bool}{t:Tree}{v:Value}(h:aH H F w agg t v):∃cs,Holds H F w t cs/\v.cells.toList=cs:=by
 obtain⟨cs,h1,h2,h3⟩:=h;refine⟨cs,h1,?_⟩
 cases agg with
 |true=>rw[h2];rfl
 |false=>
  have e:=h3 rfl;have h1c:=h1.je v (by rw[e];simp);rw[e]
  cases v<;>first|rfl|simp[akJ]at h1c
theorem u9(T:be P){t:TypeId}{rt:Row}(IP:find T.row t=some rt){x y:Operand}{o s':Nat}{T0:TypeId}{r q:Row}{i:Int}{x':r.den}{z:q.den}{l:List r.den}{p:Path r q}{off g o0 j m cap:Nat}{agg:Bool}{u:Tree}
 (hs:au U H F w ob n)(cU:ob o=some (s', .own T0 r l))(hv:H.val o=some (.slice (some ⟨g,o0,none⟩) m cap))(hj:i=(j:Nat))(hi:idx l i=some x')(hx:ev ρ x= .pointer (some ⟨g,o0+j*r.size+off,none⟩))(JF:p.off=off)(hz:rt.size=q.size)
 (hf:flat ob q u=some z)(hV:aH H F w agg u (ev ρ y)):
 cG P U H F w ρ ob n ⟨none, .store t x y,ty,pos,aft,none⟩ {dst:= .dead,eat:=[o],make:=[(o,(n, .own T0 r (aQ l i (p.set x' z))))]}:=by
 obtain⟨ti,z0,h1,_,_,h4,_⟩:=T.row_ok _ _ IP;obtain⟨cs,qY,xC⟩:=hV.cells;have hr:=iF hs hf qY;have eo:=hs.own cU hv;obtain⟨k',hk,ao,rfl⟩:=fP hi
 obtain rfl:k'=j:=by omega
 obtain⟨cur,hh,hle,bU,iY⟩:=eo.put rfl ao hs.lt p hr;subst JF;refine cd.unit (nU h1 (h4.trans (hz.trans hr.length.symm)) hx rfl xC hr.je hh hle) ?_;refine mo.yM (t':= .own T0 r (aQ l i (p.set l[k'] z))) (D:= .dead) hs cU hv rfl (fun _ h=>h) bU ?_ trivial;have:iE (H.bK n (.own T0 r (aQ l i (p.set l[k'] z)))) F (w.setRow g (cur.toList.take (o0+k'*r.size+p.off)++cs++cur.toList.drop (o0+k'*r.size+p.off+cs.length)).toArray) (H.sub n) (.slice (some ⟨g,o0,none⟩) m cap) (.own T0 r (l.set k' (p.set l[k'] z))):=iY.2;unfold aQ;rw[hk,ajr];exact this
theorem GX(T:be P){t:TypeId}{D V:al}{x y:Operand}{k:dY->Option R}{q:R}(h:su T ob n t D V k=some q)(hs:au U H F w ob n)(hx:aj H F w D (ev ρ x))(hy:aj H F w V (ev ρ y)):
 ∃e,k e=some q/\cG P U H F w ρ ob n ⟨none, .store t x y,ty,pos,aft,none⟩ e:=by
 unfold su at h;split at h
 .cases h
 rename_i rt IP;split at h
 case h_2=>cases h
 rename_i agg u;split at h
 .rename_i o p off;split at h
  case h_2=>cases h
  rename_i s0 T0 tr cU;split at h
  case h_2=>cases h
  rename_i s dI hg;obtain⟨h1,h2⟩:=aG h;obtain⟨h1,CR⟩:=cV h1;obtain⟨h1,w4⟩:=cV h1;obtain rfl:=beq_true h1;have w4:=beq_true w4;have CR:=beq_true CR;split at h2
  case h_2=>cases h2
  rename_i Vt hp;obtain⟨b,hb,e⟩:=hx;obtain⟨es,hh,OB⟩:=hs.box cU hb;obtain⟨cs,qY,xC⟩:=aH.cells hy;have hl:=qY.length;have hle:=(OB.get hg).2;have uY:=Holds.put qY hg hp CR.symm OB;obtain⟨ti,z0,g1,_,_,g4,_⟩:=T.row_ok _ _ IP;refine⟨_,h2,cd.unit (nU g1 (by omega) e rfl xC qY.je hh (by simp;omega)) ?_⟩
  have OC:¬F b:=by
   obtain⟨v1,uy,cn⟩:=hs.obj _ _ _ cU;rw[hb]at uy;obtain rfl:=ajk uy;exact cn.no b rfl
  have bU:Ext (fp (H.sub s0) (.pointer (some ⟨b,0,none⟩)) (.box T0 tr)) w (w.setRow b (es.toArray.toList.take dI++cs++es.toArray.toList.drop (dI+cs.length)).toArray):=
   ⟨rfl,rfl,rfl,by simp,fun k _ hk=>setRow_other w b k _ fun e=>hk (by simp[fp,e])⟩
  refine mo.yM (t':= .box T0 Vt) (D:= .dead) hs cU hb rfl (fun k hk=>hk) bU ⟨b,_,rfl,setRow_heap w b _ _ T0 (0,0) hh,?_⟩ trivial
  have hk:=uY.keep (H':=H.bK n (.box T0 Vt)) (aq.iH (hs.fresh n (ajo _) (by omega)).2) (Step.ext bU hs.lt fun k hk=>by
   simp only[fp,ala,ajx,akS,and_true]at hk
   exact hk▸OC)
  rw[<-hl]at hk;simpa using hk
 .rename_i o s r i x0 p off;split at h
  case h_2=>cases h
  rename_i s' T0 r' l cU;split at h
  case h_2=>cases h
  rename_i q' xB yN;obtain⟨h1,h2⟩:=aG h;obtain⟨h1,CR⟩:=cV h1;obtain⟨h1,w4⟩:=cV h1;have h1:=beq_true h1;have w4:=beq_true w4;have CR:=beq_true CR;split at h2
  case h_2=>cases h2
  rename_i z hf;obtain⟨g,o0,qq,T',m,cap,l0,e1,e2,e3,e4,e5⟩:=hx;rw[<-CR]at e5
  cases wZ:aju s' s with
  |true=>
   rw[wZ,cond_true]at h2;obtain rfl:=beq_true wZ;split at h2
   case isFalse=>cases h2
   rename_i AD;obtain⟨v,hv,cn⟩:=hs.obj _ _ _ cU;have hc:=cn.con;rw[e3]at hc
   obtain⟨rfl,uv⟩:T'=T0/\(⟨r,l0⟩:(r:Row)×List r.den)=⟨r',l⟩:=by
    have:=ajk hc;simp only[Th.base,Th.own.injEq]at this;obtain⟨a,b,c⟩:=this;subst b;exact⟨a,by rw[eq_of_heq c]⟩
   cases uv;exact⟨_,h2,u9 T IP hs cU e1 e2 e4 e5 h1 w4 hf hy⟩
  |false=>
   rw[wZ,cond_false]at h2;obtain⟨x',Pv,h2⟩:=bind_some h2;exact⟨_,h2,u9 T IP hs cU e1 e2 Pv e5 h1 w4 hf hy⟩
 .cases h
theorem JG(hs:au U H F w ob n){t:TypeId}{tr:Tree}{cs:List Value}(hh:Holds H F w tr cs):
 kS H F w ob n {dst:= .ptr n [] 0,make:=[(n,(n, .box t tr))]} (.pointer (some ⟨w.heap.size,0,none⟩)) (w.alloc (.cells cs.toArray t)):=by
 have bU:Ext (cm H ob []) w (w.alloc (.cells cs.toArray t)):=⟨rfl,rfl,rfl,by simp,fun k hk _=>Below.heap_alloc w _ k hk⟩
 have hf:=hs.fresh n (ajo _) (by omega);refine mo.new (v0:= .pointer (some ⟨w.heap.size,0,none⟩)) hs rfl rfl bU ⟨_,cs,rfl,heap_alloc_new w _,?_⟩ (fun k hk=>?_) ⟨w.heap.size,by simp[aq.cW],rfl⟩
 .exact hh.keep ((aq.iH hf.2).trans (aq.pA (by simp[aq.bK,hf.1]))) (Step.alloc hs.lt _)
 .simp only[fp,ala,ajx,akS,and_true]at hk;subst hk;exact⟨fun e=>by have:=hs.lt _ e;omega,by simp, .inl (ajo _)⟩
def sv(T:be P)(n:Nat)(t:TypeId)(k:dY->Option R):Option R:=
 match find T.row t with
 |some r=>k {dst:= .ptr n [] 0,make:=[(n,(n, .box t r.AA))]}
 |none=>none
theorem GY(T:be P){t:TypeId}{k:dY->Option R}{q:R}(h:sv T n t k=some q)(hs:au U H F w ob n):
 ∃e,k e=some q/\cG P U H F w ρ ob n ⟨some d, .alloc t,ty,pos,aft,none⟩ e:=by
 unfold sv at h;split at h
 case h_2=>cases h
 rename_i r hr;obtain⟨ti,z,h1,h2,h3,_,_⟩:=T.row_ok _ _ hr;refine⟨_,h,cd.val (GC h1 h2) ?_⟩;have:=JG (t:=t) hs (Row.mO H F w r);rw[<-h3,aj9]at this;exact this
def GZ(n:Nat)(t:TypeId)(V:al)(k:dY->Option R):Option R:=
 match V with
 | .val _ u=>k {dst:= .ptr n [] 0,make:=[(n,(n, .box t u))]}
 |_=>none
theorem MG{t:TypeId}{V:al}{x:Operand}{k:dY->Option R}{q:R}(h:GZ n t V k=some q)(hs:au U H F w ob n)(hx:aj H F w V (ev ρ x)):
 ∃e,k e=some q/\cG P U H F w ρ ob n ⟨some d, .box t x,ty,pos,aft,none⟩ e:=by
 unfold GZ at h;split at h
 case h_2=>cases h
 rename_i agg u;obtain⟨cs,qY,xC⟩:=aH.cells hx;refine⟨_,h,cd.val (Mx rfl) ?_⟩;have:=JG (t:=t) hs qY;rw[<-xC,aj9]at this;exact this
end
end Go.Proofs.YtmihpkfkbfgigaaGreatDoor
end
section
open _root_.Array renaming toArray_toList->aj9
open _root_.Go.Instr renaming fill->ak0
open _root_.Int renaming eq_ofNat_of_zero_le->ajC,le_refl->akA,toNat_natCast->ajr
open _root_.List renaming length_take->ajB,map_cons->akv,replicate->ajq
open _root_.Nat renaming add_mul->akk,beq->aju,min_eq_left->aj3,mul_le_mul_right->ajS,zero_le->ajI
open _root_.Option.some renaming inj->ajk,injEq->ajx
open _root_.Go.Result renaming andThen_ok->aj8
open _root_.Go.Sem renaming run_bind->ajR
open _root_.Go.Value renaming ownBlock->ajV
namespace Go.Proofs.YtmihpkfkbfgigaaGreatDoor
open Go Go.RowKit
section
variable {P:Program} {ρ:Nat->Value} {w w':World} {H H':aq} {F F':Nat->Prop} {U:Nat->Prop} {ob:Nat->Option (Nat×Th)} {n:Nat} {R:Type}
variable {op:Op} {ty:TypeId} {pos:String} {aft:Array Edge} {d:Nat}
theorem pB{base:Nat}{T:TypeId}{r:Row}{v:Value}{l:List r.den}(h:jf base F w T r v l):v.oneCell'=true:=by
 obtain⟨A,cap,rfl,_⟩:=h.reads;rfl
theorem mP{H:aq}{o:Nat}{v:Value}(h:H.val o=some v)(h1:v.oneCell'=true):aj H F w (.val false (.own o)) v:=⟨[v],⟨v,h,h1,rfl⟩,rfl,fun _=>rfl⟩
theorem sx(hs:au U H F w ob n){e:TypeId}{r:Row}{v:Value}{l:List r.den}{eat:List Nat}(bU:Ext (cm H ob eat) w w')(ho:jf 0 F w' e r v l)(hn:∀k,bq v k->cm H ob eat k\/w.heap.size<=k):
 kS H F w ob n {dst:= .val false (.own n),eat:=eat,make:=[(n,(n, .own e r l))]} v w':=
 mo.new (v0:=v) hs rfl (pB ho) bU ho.2 (fun k hk=>⟨ho.1 k hk,ho.lt k hk,(hn k hk).symm⟩) (mP (by simp[aq.cW]) (pB ho))
theorem pC{g:Nat->Prop}(o:Obj):Ext g w (w.alloc o):=⟨rfl,rfl,rfl,by simp,fun k hk _=>Below.heap_alloc w _ k hk⟩
def Vu{α:Type}(a b:Int)(z:α):Option (List α):=if 0<=a/\a<=b/\b<=4294967296 then some (ajq a.toNat z)else none
def oI:Operand->Operand->Bool
 | .tmp a, .tmp b=>aju a b
 | .const (.int _ a), .const (.int _ b)=>decide (a=b)
 |_,_=>false
theorem xD{e t:TypeId}{r:Row}{a b:Int}(ht:P.underlying t=some (.slice e))(u6:TI P e r)(hs:au U H F w ob n){ka kb:IntKind}{x y:Operand}(hx:ev ρ x= .int ka a)(hy:ev ρ y= .int kb b)(h0:0<=a)(h1:a<=b)(h2:b<=4294967296):
 ∃v w',(execOp (ev ρ) ⟨some d, .makeSlice t x y,ty,pos,aft,none⟩).run P w= .ok (.value v) w'/\(∀g,Ext g w w')/\jf 0 F w' e r v (ajq a.toNat r.zero)/\∀k,bq v k->w.heap.size<=k:=by
 obtain⟨ti,z,hi,hz,R4,lM,Rx⟩:=u6;obtain⟨ca,rfl⟩:=ajC h0;obtain⟨cb,rfl⟩:=ajC (Int.le_trans h0 h1)
 have hc:cb<=4294967296:=by omega
 have C7:ti.bytes*cb<=281474976710656:=Nat.le_trans (Nat.mul_le_mul Rx hc) (by omega)
 have p5:(ti.bytes:Int)*(cb:Int)<=281474976710656:=by
  have h:((ti.bytes*cb:Nat):Int)<=281474976710656:=by omega
  rwa [Int.natCast_mul]at h
 have bw:=run_make (P:=P) w t e ti z ht hi hz ka kb ca cb (by omega) (by omega) p5 (by omega)
 have Wk:z.cells=r.eL.toArray:=by rw[<-R4,aj9]
 have hzn:r.eL.length=r.size:=(cD.zero F w r).length;have nl:=r.size_pos;simp only[ajr]at bw;refine⟨.slice (some ⟨w.heap.size,0,none⟩) ca cb,w.alloc (.cells (madeCells z.cells (cb*ti.size)) e),by simp[execOp,hx,hy,bw],fun _=>pC _,⟨fun q hq=>?_,(madeCells z.cells (cb*ti.size)).toList.take (ca*r.size),?_,?_⟩,fun q hq=>?_⟩
 .simp only[bq,ajV,ajx]at hq;intro e;have:=hs.lt _ e;omega
 .have hle:ca*r.size<=cb*r.size:=ajS _ (by omega);have Sf:=size_madeCells z.cells (cb*ti.size);refine mJ.of ⟨by rw[ajB,Array.length_toList,Sf,lM,aj3 hle];simp, .inr ⟨w.heap.size,cb,madeCells z.cells (cb*ti.size),by simp,ajI _,heap_alloc_new w _,by simp;omega,by simp[maxLen];omega,by rw[Sf,lM],by simp⟩⟩
 .intro i ao;simp only[ajr,List.length_replicate]at ao;have hle:(i+1)*r.size<=ca*r.size:=ajS _ ao;rw[akk]at hle;rw[List.drop_take,List.take_take,aj3 (by omega)];rw[lM,Wk,<-hzn,Jl _ _ _ (by omega) (by omega)];simpa using cD.zero F _ r
 .simp only[bq,ajV,ajx]at hq;omega
theorem AE{e t:TypeId}{r:Row}{a b:Int}(ht:P.underlying t=some (.slice e))(u6:TI P e r)(hs:au U H F w ob n){ka kb:IntKind}{x y:Operand}(hx:ev ρ x= .int ka a)(hy:ev ρ y= .int kb b)(h0:0<=a)(h1:a<=b)(h2:b<=4294967296):
 cG P U H F w ρ ob n ⟨some d, .makeSlice t x y,ty,pos,aft,none⟩ {dst:= .val false (.own n),make:=[(n,(n, .own e r (ajq a.toNat r.zero)))]}:=by
 obtain⟨v,w',bw,bU,eo,G0⟩:=xD (d:=d) (ty:=ty) (pos:=pos) (aft:=aft) ht u6 hs hx hy h0 h1 h2;exact cd.val bw (sx hs (bU _) eo fun q hq=> .inr (G0 q hq))
def va(T:be P)(n:Nat)(t:TypeId)(same:Bool)(a b:Int)(k:dY->Option R):Option R:=
 match find T.und t with
 |some (.slice e)=>match find T.row e with
  |some r=>(bif same then mI a r.zero else Vu a b r.zero).bind fun l=>k {dst:= .val false (.own n),make:=[(n,(n, .own e r l))]}
  |none=>none
 |_=>none
theorem xE{x y:Operand}(h:oI x y=true){a b:Int}{ka kb:IntKind}(hx:ev ρ x= .int ka a)(hy:ev ρ y= .int kb b):a=b:=by
 unfold oI at h;split at h
 .obtain rfl:=beq_true h;rw[hx]at hy;cases hy;rfl
 .simp only[ev,Value.int.injEq]at hx hy;have:=of_decide_eq_true h;omega
 .cases h
theorem AF(T:be P){t:TypeId}{a b:Int}{ka kb:IntKind}{x y:Operand}{k:dY->Option R}{q:R}(h:va T n t (oI x y) a b k=some q)(hs:au U H F w ob n)(hx:ev ρ x= .int ka a)(hy:ev ρ y= .int kb b):
 ∃e,k e=some q/\cG P U H F w ρ ob n ⟨some d, .makeSlice t x y,ty,pos,aft,none⟩ e:=by
 unfold va at h;split at h
 case h_2=>cases h
 rename_i e hu;split at h
 case h_2=>cases h
 rename_i r hr;obtain⟨l,hl,hk⟩:=bind_some h;have u6:=T.row_ok _ _ hr;have ht:=T.und_ok _ _ hu
 cases nv:oI x y with
 |true=>
  rw[nv,cond_true]at hl;unfold mI at hl;split at hl
  case isFalse=>cases hl
  rename_i hc;obtain rfl:=ajk hl;obtain rfl:=xE nv hx hy;exact⟨_,hk,AE ht u6 hs hx hy hc.1 (akA _) hc.2⟩
 |false=>
  rw[nv,cond_false]at hl;unfold Vu at hl;split at hl
  case isFalse=>cases hl
  rename_i hc;obtain rfl:=ajk hl;exact⟨_,hk,AE ht u6 hs hx hy hc.1 hc.2.1 hc.2.2⟩
def Wl(ob:Nat->Option (Nat×Th))(r:Row)(D:al):Option (List r.den):=
 match ud ob D with
 |some (.read s l)=>if h:s.beq r=true then some (iP (r:= .slice s) (s:= .slice r) (congrArg Row.slice (Row.eq_of_beq h)) l)else none
 |some (.own _ _ _ s l)=>if h:s.beq r=true then some (iP (r:= .slice s) (s:= .slice r) (congrArg Row.slice (Row.eq_of_beq h)) l)else none
 |some .nil=>some []
 |some (.view ..)=>none
 |some (.deep ..)=>none
 |none=>none
theorem Pw(hs:au U H F w ob n){r:Row}{D:al}{l:List r.den}{v:Value}(h:Wl ob r D=some l)(hd:aj H F w D v):Reads F w r v l:=by
 unfold Wl at h;split at h
 .rename_i s m fZ;split at h
  case isFalse=>cases h
  rename_i hb;obtain rfl:=Row.eq_of_beq hb;obtain rfl:=ajk h;exact cD.reads (iG hs fZ hd)
 .rename_i o s0 T s m fZ;split at h
  case isFalse=>cases h
  rename_i hb;obtain rfl:=Row.eq_of_beq hb;obtain rfl:=ajk h;exact(iG hs fZ hd).2.2.reads
 .rename_i fZ;obtain rfl:=ajk h;have:v=_:=iG hs fZ hd;subst this;exact(cD.nil F w r).reads
 .cases h
 .cases h
 .cases h
def ri:JC->Int
 | .read _ l=>(l.length:Int)
 | .own _ _ _ _ l=>(l.length:Int)
 | .nil=>0
 | .view _ _ _ l=>(l.length:Int)
 | .deep _ _ _ _ l _=>(l.length:Int)
theorem JH{v:Value}{k:JC}(h:ME U H F w ob v k):∃A m cap,v= .slice A m cap/\ri k=(m:Int):=by
 cases k with
 |read r l=>
  obtain⟨A,cap,e,_⟩:=cD.C5 h;exact⟨A,_,cap,e,rfl⟩
 |own o s T r l=>
  obtain⟨A,cap,e,_⟩:=h.2.2.reads;exact⟨A,_,cap,e,rfl⟩
 |nil=>exact⟨none,0,0,h,rfl⟩
 |view o s r m=>
  obtain⟨A,cap,T,l,a,b,_,_,h3,h4,rfl,rfl⟩:=h;refine⟨_,_,_,rfl,?_⟩;simp only[ri,List.length_drop,ajB,aj3 h4]
 |deep o s T d l hh=>
  obtain⟨lh,_,⟨xs,Jk,_⟩,Ah,_⟩:=h.2.2.ok
  rcases Jk.2 with⟨GV,h0⟩|⟨g,o0,cap,cur,yL,_,_,_⟩
  .exact⟨none,0,0,GV,by simp only[ri];omega⟩
  .exact⟨_,_,_,yL,by simp only[ri];omega⟩
def G1(T:be P)(ob:Nat->Option (Nat×Th))(t:TypeId)(D:al):Option al:=
 match find T.und t with
 |some (.slice _)=>match ud ob D with
  |some k=>some (mq .i64 (ri k))
  |none=>none
 |some .str=>match Aw D with
  |some s=>some (mq .i64 (s.size:Int))
  |none=>none
 |_=>none
theorem EZ(T:be P){t:TypeId}{D D':al}{x:Operand}(h:G1 T ob t D=some D')(hs:au U H F w ob n)(hx:aj H F w D (ev ρ x)):
 cG P U H F w ρ ob n ⟨some d, .call {callee:= .builtin .len,args:= #[x],argTypes:= #[t]},ty,pos,aft,none⟩ {dst:=D'}:=by
 unfold G1 at h;split at h
 .rename_i e hu;split at h
  case h_2=>cases h
  rename_i k hk;obtain rfl:=ajk h;obtain⟨A,m,cap,e1,e2⟩:=JH (iG hs hk hx);rw[e2];exact aL hs (Ji rfl (T.und_ok _ _ hu) e1) (aH.jF ..)
 .rename_i hu;split at h
  case h_2=>cases h
  rename_i s hk;obtain rfl:=ajk h;exact aL hs (Gx (T.und_ok _ _ hu) (u5 hk hx)) (aH.jF ..)
 .cases h
def pD(T:be P)(ob:Nat->Option (Nat×Th))(n:Nat)(t:TypeId)(X Y:al)(k:dY->Option R):Option R:=
 match find T.und t with
 |some (.slice e)=>match find T.row e with
  |some r=>match Wl ob r Y with
   |some m=>match ud ob X with
    |some .nil=>(bZ ([]:List r.den) m).bind fun l=>k {dst:= .val false (.own n),make:=[(n,(n, .own e r l))]}
    |some (.own o _ T0 s l0)=>bif aju T0 e then
      (if h:s.beq r=true then(bZ (iP (r:= .slice s) (s:= .slice r) (congrArg Row.slice (Row.eq_of_beq h)) l0) m).bind fun l=>k {dst:= .val false (.own n),eat:=[o],make:=[(n,(n, .own e r l))]}else none)else none
    |_=>none
   |none=>none
  |none=>none
 |_=>none
theorem Dk(T:be P){t:TypeId}{X Y:al}{x y:Operand}{k:dY->Option R}{q:R}(h:pD T ob n t X Y k=some q)(hs:au U H F w ob n)(hx:aj H F w X (ev ρ x))(hy:aj H F w Y (ev ρ y)):
 ∃e,k e=some q/\cG P U H F w ρ ob n ⟨some d, .call {callee:= .builtin .append,args:= #[x,y],argTypes:= #[t,t]},ty,pos,aft,none⟩ e:=by
 unfold pD at h;split at h
 case h_2=>cases h
 rename_i e hu;split at h
 case h_2=>cases h
 rename_i r hr;obtain⟨ti,z,h1,h2,h3,h4,h5⟩:=T.row_ok _ _ hr;have ht:=T.und_ok _ _ hu;split at h
 case h_2=>cases h
 rename_i m hm;have fN:=Pw hs hm hy
 have key:∀{l out:List r.den},jf 0 F w e r (ev ρ x) l->bZ l m=some out->∃v' w',(execOp (ev ρ) ⟨some d, .call {callee:= .builtin .append,args:= #[x,y],argTypes:= #[t,t]},ty,pos,aft,none⟩).run P w= .ok (.value v') w'/\Ext (bq (ev ρ x)) w w'/\jf 0 F w' e r v' out/\(∀k,bq v' k->bq (ev ρ x) k\/w.heap.size<=k):=by
  intro l out ho ha;obtain⟨v',w',bw,he,kO,MB⟩:=uR ty ht h1 h2 h3 h4 h5 ho fN ha hs.lt (ajI _);refine⟨v',w',by simp[execOp,resolve,invoke,builtin,bw],he,kO,fun k hk=>?_⟩
  rcases MB with g|g
  .exact .inl (g▸hk)
  .rw[g]at hk;exact .inr (by omega)
 split at h
 .rename_i fZ;obtain⟨l,hl,hk⟩:=bind_some h;have hv:ev ρ x=_:=iG hs fZ hx;obtain⟨v',w',bw,he,kO,hn⟩:=key (by rw[hv];exact jf.nil 0 F w e r) hl
  have no:∀k,¬bq (ev ρ x) k:=fun k hk=>by rw[hv]at hk;simp[bq,ajV]at hk
  exact⟨_,hk,cd.val bw (sx hs ⟨he.os,he.tape,he.output,he.size,fun k hk _=>he.block k hk (no k)⟩ kO fun k hk=>(hn k hk).imp (fun h=>absurd h (no k)) id)⟩
 .rename_i o s0 T0 s l0 fZ;obtain⟨hb,h⟩:=aG h;obtain rfl:=beq_true hb;split at h
  case isFalse=>cases h
  rename_i AD;obtain rfl:=Row.eq_of_beq AD;obtain⟨l,hl,hk⟩:=bind_some h;obtain⟨hv,cU,eo⟩:=iG hs fZ hx;obtain⟨v',w',bw,he,kO,hn⟩:=key eo hl
  have kQ:∀k,bq (ev ρ x) k->cm H ob [o] k:=fun k hk=>⟨o,by simp,_,_,_,cU,hv,hk⟩
  exact⟨_,hk,cd.val bw (sx hs ⟨he.os,he.tape,he.output,he.size,fun k hk CP=>he.block k hk fun hm=>CP (kQ k hm)⟩ kO fun k hk=>(hn k hk).imp (kQ k) id)⟩
 .cases h
def AG(ob:Nat->Option (Nat×Th))(r:Row):List al->Option (List r.den)
 |[]=>some []
 | .val _ u::l=>match flat ob r u with
   |some x=>match AG ob r l with
    |some xs=>some (x::xs)
    |none=>none
   |none=>none
 |_::_=>none
def rk(rd:Operand->Option al):List Operand->Option (List al)
 |[]=>some []
 |x::xs=>match rd x with
  |some d=>match rk rd xs with
   |some ds=>some (d::ds)
   |none=>none
  |none=>none
def fl(H:aq)(F:Nat->Prop)(w:World):List al->List Value->Prop
 |[],vs=>vs=[]
 |d::ds,vs=>∃v us,vs=v::us/\aj H F w d v/\fl H F w ds us
theorem nw{rd:Operand->Option al}(h:∀x d,rd x=some d->aj H F w d (ev ρ x)):{xs:List Operand}->{ds:List al}->rk rd xs=some ds->fl H F w ds (xs.map (ev ρ))
 |[],ds,e=>by obtain rfl:=ajk e;rfl
 |x::xs,ds,e=>by
  unfold rk at e
  cases h1:rd x with
  |none=>rw[h1]at e;cases e
  |some d=>
   cases h2:rk rd xs with
   |none=>simp only[h1,h2]at e;cases e
   |some Vv=>
    simp only[h1,h2,ajx]at e;subst e;exact⟨_,_,rfl,h _ _ h1,nw h h2⟩
theorem AH(hs:au U H F w ob n){r:Row}:{ds:List al}->{l:List r.den}->{vs:List Value}->AG ob r ds=some l->fl H F w ds vs->uT F w r vs l
 |[],l,vs,e,h=>by
  obtain rfl:=ajk e;rw[show vs=[]from h];exact .nil
 | .val _ u::ds,l,vs,e,h=>by
   obtain⟨v,us,rfl,h1,h2⟩:=h;unfold AG at e
   cases hf:flat ob r u with
   |none=>rw[hf]at e;cases e
   |some x=>
    cases hg:AG ob r ds with
    |none=>simp only[hf,hg]at e;cases e
    |some xs=>
     simp only[hf,hg,ajx]at e;subst e;obtain⟨cs,qY,xC⟩:=aH.cells h1;exact .cons xC (iF hs hf qY) (AH hs hg h2)
 | .dead::_,_,_,e,_=>by cases e
 | .undef::_,_,_,e,_=>by cases e
 | .ptr .. ::_,_,_,e,_=>by cases e
 | .at .. ::_,_,_,e,_=>by cases e
 | .elem .. ::_,_,_,e,_=>by cases e
 | .tup _::_,_,_,e,_=>by cases e
 | .dlm .. ::_,_,_,e,_=>by cases e
theorem vb{e t:TypeId}{r:Row}{xs:List Operand}{l:List r.den}{parts:Array (Nat×Operand)}(ht:P.underlying t=some (.slice e))(u6:TI P e r)(dG:parts=((xs.zipIdx).map fun p=>(p.2,p.1)).toArray)(nv:xs.length*r.size<=16777216)
 (hl:uT F w r (xs.map (ev ρ)) l)(hs:au U H F w ob n):
 ∃v w',(execOp (ev ρ) ⟨some d, .buildSlice t xs.length parts,ty,pos,aft,none⟩).run P w= .ok (.value v) w'/\(∀g,Ext g w w')/\jf 0 F w' e r v l/\∀k,bq v k->w.heap.size<=k:=by
 obtain⟨ti,z,h1,h2,h3,h4,h5⟩:=u6
 have IQ:(xs.map (ev ρ)).length=xs.length:=by simp
 have Ah:=hl.length;have nl:=r.size_pos
 have R3:z.cells.size=r.size:=by rw[<-(cD.zero F w r).length,<-h3];simp
 have G2:(parts.map fun(i,q)=>(i,ev ρ q)).toList=((xs.map (ev ρ)).zipIdx).map fun p=>(p.2,p.1):=by
  subst dG;simp[List.zipIdx_map,Function.comp_def]
 generalize hm:xs.length=m at*;generalize xs.map (ev ρ)=vs at*
 have key:∀zz:Array Value,zz.size=m*r.size->∃CS:List Value,ak0 (fun i=>some (i*r.size,r.size)) zz ((vs.zipIdx).map fun p=>(p.2,p.1))=some CS.toArray/\CS.length=l.length*r.size/\∀i(hi:i<l.length),cD F w r ((CS.drop (i*r.size)).take r.size) l[i]:=by
  intro zz Si;obtain⟨CS,a1,a2,a3⟩:=hl.fill 0 [] zz.toList (by simp) (by rw[Array.length_toList,Si,IQ]);exact⟨CS,by simpa using a1,a2,a3⟩
 have bw:∃CS:List Value,(execOp (ev ρ) ⟨some d, .buildSlice t m parts,ty,pos,aft,none⟩).run P w= .ok (.value (.slice (some ⟨w.heap.size,0,none⟩) m m)) (w.alloc (.cells CS.toArray e))/\CS.length=l.length*r.size/\∀i(hi:i<l.length),cD F w r ((CS.drop (i*r.size)).take r.size) l[i]:=by
  by_cases h0:m*r.size=0
  .obtain⟨CS,a1,a2,a3⟩:=key #[] (by simp[h0]);refine⟨CS,?_,a2,a3⟩;simp only[execOp,Instr.buildSlice,ajR,run_underlying ht,aj8];rw[G2]
   have Wm:Array.range 0=(#[]:Array Nat):=by rfl
   simp[sizeOf,typeInfo,h1,h4,h0,newRow,Wm,a1]
  .obtain⟨CS,a1,a2,a3⟩:=key ((Array.range (m*r.size)).map (z.cells[· %z.cells.size]!)) (by simp);refine⟨CS,?_,a2,a3⟩;simp only[execOp,Instr.buildSlice,ajR,run_underlying ht,aj8];rw[G2];simp[sizeOf,typeInfo,h1,h4,h0,zeroValue,h2,newRow,a1,show¬(16777216<m*r.size)from by omega]
 obtain⟨CS,bw,a2,a3⟩:=bw
 have G3:m=l.length:=by omega
 have adK:m<=16777216:=Nat.le_trans (Nat.le_mul_of_pos_right m nl) nv;refine⟨_,_,bw,fun g=>pC _,⟨fun k hk=>?_,CS,?_,fun i hi=>(a3 i hi).step (Step.alloc hs.lt _)⟩,fun k hk=>?_⟩
 .simp only[bq,ajV,ajx]at hk;intro e;have:=hs.lt _ e;omega
 .have:=World.ownsRow_lit (base:=0) (e:=e) (size:=r.size) w CS.toArray m (ajI _) (by simp[maxLen];omega) (by simp[a2,G3]);rw[G3]at this⊢;simpa using mJ.of this
 .simp only[bq,ajV,ajx]at hk;omega
theorem run_build{e t:TypeId}{r:Row}{xs:List Operand}{l:List r.den}{parts:Array (Nat×Operand)}(ht:P.underlying t=some (.slice e))(u6:TI P e r)(dG:parts=((xs.zipIdx).map fun p=>(p.2,p.1)).toArray)(nv:xs.length*r.size<=16777216)
 (hl:uT F w r (xs.map (ev ρ)) l)(hs:au U H F w ob n):
 cG P U H F w ρ ob n ⟨some d, .buildSlice t xs.length parts,ty,pos,aft,none⟩ {dst:= .val false (.own n),make:=[(n,(n, .own e r l))]}:=by
 obtain⟨v,w',h1,h2,h3,h4⟩:=vb (d:=d) (ty:=ty) (pos:=pos) (aft:=aft) ht u6 dG nv hl hs;exact cd.val h1 (sx hs (h2 _) h3 fun k hk=> .inr (h4 k hk))
def E0:Nat->List (Nat×Operand)->Bool
 |_,[]=>true
 |k,p::l=>aju p.1 k&&E0 (k+1) l
theorem vc:{k:Nat}->{l:List (Nat×Operand)}->E0 k l=true->l=((l.map (·.2)).zipIdx k).map fun p=>(p.2,p.1)
 |_,[],_=>rfl
 |k,p::l,h=>by
  obtain⟨h1,h2⟩:=cV h;have h1:=beq_true h1;have ih:=vc h2;obtain⟨a,b⟩:=p;subst h1;rw[akv,List.zipIdx_cons,akv,<-ih]
def jH(T:be P)(rd:Operand->Option al)(ob:Nat->Option (Nat×Th))(n:Nat)(t:TypeId)(m:Nat)(parts:Array (Nat×Operand))(k:dY->Option R):Option R:=
 match find T.und t with
 |some (.slice e)=>match find T.row e with
  |some r=>bif E0 0 parts.toList&&aju m parts.toList.length&&Nat.ble (m*r.size) 16777216 then
    (match rk rd (parts.toList.map (·.2))with
    |some ds=>match AG ob r ds with
     |some l=>k {dst:= .val false (.own n),make:=[(n,(n, .own e r l))]}
     |none=>none
    |none=>none)else none
  |none=>none
 |_=>none
theorem vd(T:be P){rd:Operand->Option al}(fN:∀x d,rd x=some d->aj H F w d (ev ρ x)){t:TypeId}{m:Nat}{parts:Array (Nat×Operand)}{k:dY->Option R}{q:R}(h:jH T rd ob n t m parts k=some q)(hs:au U H F w ob n):
 ∃e,k e=some q/\cG P U H F w ρ ob n ⟨some d, .buildSlice t m parts,ty,pos,aft,none⟩ e:=by
 unfold jH at h;split at h
 case h_2=>cases h
 rename_i e hu;split at h
 case h_2=>cases h
 rename_i r hr;obtain⟨h1,h⟩:=aG h;obtain⟨h1,h3⟩:=cV h1;obtain⟨h1,h2⟩:=cV h1;have h2:=beq_true h2
 have h3:m*r.size<=16777216:=by simpa using h3
 split at h
 case h_2=>cases h
 rename_i ds uz;split at h
 case h_2=>cases h
 rename_i l hl;have Sj:=AH hs hl (nw fN uz)
 have hp:parts=(((parts.toList.map (·.2)).zipIdx).map fun p=>(p.2,p.1)).toArray:=by
  rw[<-vc h1,aj9]
 have hm:m=(parts.toList.map (·.2)).length:=by simpa using h2
 refine⟨_,h,?_⟩;have:=run_build (d:=d) (ty:=ty) (pos:=pos) (aft:=aft) (T.und_ok _ _ hu) (T.row_ok _ _ hr) hp (by rw[<-hm];exact h3) Sj hs;rw[<-hm]at this;exact this
def E1{P:Program}(T:be P)(fs:List (TypeId×Nat)):Tree->List (Nat×al)->Option Tree
 |t,[]=>some t
 |t,(f, .val _ u)::l=>match t.get (rf fs.length f)with
  |some (s,off)=>match fs[f]? with
   |some (ft,dI)=>bif aju off dI&&aju u.size s.size&&(match find T.row ft with|some r=>aju r.size u.size|none=>false)then
     (match t.put (rf fs.length f) u with
     |some t'=>E1 T fs t' l
     |none=>none)else none
   |none=>none
  |none=>none
 |_,_::_=>none
def uA(T:be P):List (TypeId×Nat)->Bool
 |[]=>true
 |p::fs=>(match find T.row p.1 with|some _=>true|none=>false)&&uA T fs
def place(T:be P)(fs:List (TypeId×Nat))(i:Nat):Option (Nat×Nat):=
 match fs[i]? with
 |some (ft,off)=>match find T.row ft with
  |some r=>some (off,r.size)
  |none=>none
 |none=>none
theorem vf(T:be P):{l:List Field}->{fs:List (TypeId×Nat)}->l.map (fun f=>(f.type,f.offset))=fs->uA T fs=true->
 ∃pl:List (Nat×Nat),(l.mapM fun(f:Field)=>(do pure (f.offset,<-sizeOf f.type):Sem (Nat×Nat))).run P w= .ok pl w/\∀i,pl[i]? =place T fs i
 |[],fs,h,_=>by
  subst h;exact⟨[],by simp,fun i=>by simp[place]⟩
 |f::l,fs,h,hz=>by
  subst h;obtain⟨h1,h2⟩:=cV hz;obtain⟨pl,Sk,Px⟩:=vf T (l:=l) rfl h2
  cases hr:find T.row f.type with
  |none=>rw[hr]at h1;cases h1
  |some r=>
   obtain⟨ti,z,g1,_,_,g4,_⟩:=T.row_ok _ _ hr;refine⟨(f.offset,r.size)::pl,?_,fun i=>?_⟩
   .have w4:(sizeOf f.type).run P w= .ok r.size w:=by simp[sizeOf,typeInfo,g1,g4]
    rw[List.mapM_cons];simp only[ajR,w4,Sem.run_pure,aj8,Sk]
   .cases i with
    |zero=>simp[place,hr]
    |succ i=>simpa[place]using Px i
end
end Go.Proofs.YtmihpkfkbfgigaaGreatDoor
end
